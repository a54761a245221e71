import Derived.Test.YtipcabmhdokfjaaGreatDoorA7
import Derived.Test.YtipcabmhdokfjaaGreatDoorA4
import Derived.Test.YtipcabmhdokfjaaGreatDoorA3
import Derived.Test.YtipcabmhdokfjaaGreatDoorA5
/-! Texts of the proof, joined: G5, VM, LxS, LxP, LxR, LxQ, SR, SR2, SR3, SF, XJ. -/
set_option linter.unusedVariables false
set_option maxHeartbeats 4000000
set_option maxRecDepth 100000
namespace Go.Proofs.YtipcabmhdokfjaaGreatDoorV
open Go Go.RowKit

/-! carrefour/carrefourref05.Parse -/
def fr05Parsei : Sk := ⟨[.lf (.pv (.slice (.int .u8)))], [], []⟩
def fr05Parseo : Sk := ⟨[.agg [.pv (.int .i64), .pv (.int .i64), .pv (.int .i64), .pv (.int .i64), .pv (.int .i64), .own 0, .own 1, .pv (.int .i64), .pv (.int .i64)], .lf (.pv (.int .i64)), .lf (.pv (.int .i64))], [], [some (46, yt6), some (49, yt7)]⟩
def fr05Parse_k12 : Sk := ⟨sparse 96 [(2, .lf (.ptr 0 0)), (8, .lf (.ptr 1 0)), (9, .lf (.ptr 2 0))], [[.pv (.int .i64), .pv (.int .i64), .pv (.int .i64), .pv (.int .i64), .pv (.int .i64), .nil .sl, .nil .sl, .pv (.int .i64), .pv (.int .i64)], [.pv (.slice yt8), .pv (.int .i64), .pv (.int .i64)], [.pv (.int .i64), .pv (.int .i64), .pv (.int .i64), .pv (.int .i64), .pv (.int .i64), .own 0, .nil .sl, .pv (.int .i64), .pv (.int .i64)]], [some (46, yt6)]⟩
abbrev fr05Parse_T12 := (Int) × (Int) × (Int) × (Int) × (Int) × (Int) × (Int) × (List (YT8)) × (Int) × (Int) × (Int) × (Int) × (Int) × (Int) × (Int) × (Int) × (Int) × (List (YT6))
def fr05Parse_s12 : fr05Parse_T12 → St := stOf fr05Parse_k12 528
def fr05Parse_k20 : Sk := ⟨sparse 96 [(2, .lf (.ptr 0 0)), (8, .lf (.ptr 1 0)), (9, .lf (.ptr 2 0))], [[.pv (.int .i64), .pv (.int .i64), .pv (.int .i64), .pv (.int .i64), .pv (.int .i64), .nil .sl, .nil .sl, .pv (.int .i64), .pv (.int .i64)], [.pv (.slice yt8), .pv (.int .i64), .pv (.int .i64)], [.pv (.int .i64), .pv (.int .i64), .pv (.int .i64), .pv (.int .i64), .pv (.int .i64), .own 0, .own 1, .pv (.int .i64), .pv (.int .i64)]], [some (46, yt6), some (49, yt7)]⟩
abbrev fr05Parse_T20 := (Int) × (Int) × (Int) × (Int) × (Int) × (Int) × (Int) × (List (YT8)) × (Int) × (Int) × (Int) × (Int) × (Int) × (Int) × (Int) × (Int) × (Int) × (List (YT6)) × (List (YT7))
def fr05Parse_s20 : fr05Parse_T20 → St := stOf fr05Parse_k20 528
def fr05Parse_k22 : Sk := ⟨sparse 96 [(2, .lf (.ptr 0 0)), (8, .lf (.ptr 1 0)), (9, .lf (.ptr 2 0))], [[.pv (.int .i64), .pv (.int .i64), .pv (.int .i64), .pv (.int .i64), .pv (.int .i64), .nil .sl, .nil .sl, .pv (.int .i64), .pv (.int .i64)], [.pv (.slice yt8), .pv (.int .i64), .pv (.int .i64)], [.pv (.int .i64), .pv (.int .i64), .pv (.int .i64), .pv (.int .i64), .pv (.int .i64), .own 0, .own 1, .pv (.int .i64), .pv (.int .i64)]], [some (46, yt6), some (49, yt7)]⟩
abbrev fr05Parse_T22 := (Int) × (Int) × (Int) × (Int) × (Int) × (Int) × (Int) × (List (YT8)) × (Int) × (Int) × (Int) × (Int) × (Int) × (Int) × (Int) × (Int) × (Int) × (List (YT6)) × (List (YT7))
def fr05Parse_s22 : fr05Parse_T22 → St := stOf fr05Parse_k22 528
abbrev fr05ParseR := (Int) × (Int) × (Int) × (Int) × (Int) × (Int) × (Int) × (Int) × (Int) × (List (YT6)) × (List (YT7))
noncomputable def fr05ParseE (k : Nat) : List (Nat × List Sig) := [(79, [sgr04Tokens k]), (80, [sgr05r_num k, sgr05r_num'1 k]), (81, [sgr05r_want'1 k]), (82, [sgr05r_frac k]), (83, [sgr05r_begins k]), (84, [sgr05r_node k]), (85, [sgr05r_is'1 k]), (86, [sgr05r_next'1 k]), (87, [sgr05r_artery k]), (88, [sgr05r_fail'1 k])]
noncomputable def fr05Parse (k : Nat) : FnX fr05ParseR := mkX { P := Tryz.prog, env := lookS (fr05ParseE k), n := 528, npB := 0, npO := 0, hint := fun i => look none [(12, some fr05Parse_k12), (20, some fr05Parse_k20), (22, some fr05Parse_k22)] i, pops := [], bl := [54, 56], ef := [(51, (([1], []), ([], [99, 195, 291, 387, 483])))], ld := [(48, 9999), (49, 2), (54, 9999), (88, 9999), (89, 9999), (90, 1), (92, 9999), (93, 9999), (94, 1)], sr := [(2, 0), (54, 2)] } k Tryz.f38 fr05Parseo
noncomputable def cr05Parse (k : Nat) : (List (Int)) → Option fr05ParseR := fnOf (fr05Parse k).C k Tryz.f38 fr05Parsei fr05Parseo
noncomputable def sgr05Parse (k : Nat) : Sig := ⟨fr05Parsei, fr05Parseo, mkFun fr05Parsei.tys fr05Parseo.tys (cr05Parse k)⟩
noncomputable def fr05Parse_t (k : Nat) (J : JF fr05ParseR) (L : LF fr05ParseR) : List (Int) → Option fr05ParseR
  | a0 => ((cr04Tokens k) (a0)).bind fun o1 => bif (o1.1 != (0 : Int)) then (some ((0 : Int), (0 : Int), (0 : Int), (0 : Int), (0 : Int), (0 : Int), (0 : Int), o1.1, o1.2.1, [], [])) else (((cr05r_num k) (([99, 121, 99, 108, 101] : List Int), (0 : Int), (0 : Int), o1.2.2)).bind fun o2 => ((cr05r_num'1 k) (([116, 111] : List Int), o2.2.1, o2.2.2.1, o2.2.2.2)).bind fun o3 => ((cr05r_num'1 k) (([98, 121] : List Int), o3.2.1, o3.2.2.1, o3.2.2.2)).bind fun o4 => ((cr05r_want'1 k) (([59] : List Int), o4.2.1, o4.2.2.1, o4.2.2.2)).bind fun o5 => ((cr05r_frac k) (([112, 101, 97, 107] : List Int), o5.1, o5.2.1, o5.2.2)).bind fun o6 => ((cr05r_want'1 k) (([59] : List Int), o6.2.2.1, o6.2.2.2.1, o6.2.2.2.2)).bind fun o7 => L 12 [] k (fr05Parse_s12 ((0 : Int), (0 : Int), (0 : Int), (0 : Int), (0 : Int), (0 : Int), (0 : Int), o7.1, o7.2.1, o7.2.2, o2.1, o3.1, o4.1, o6.1, o6.2.1, (0 : Int), (0 : Int), [])))
theorem fr05Parse_e (k : Nat) (x : List (Int)) : cr05Parse k x = fr05Parse_t k (fr05Parse k).J (fr05Parse k).L x := by
  apply cutX (fr05Parse k) [] [] (st0 (fr05Parse k).C Tryz.f38 fr05Parsei x) [(20, []), (22, [])] [(12, [], k)] (fr05Parse_t k · · x) <;> intros <;> kernel_rfl
noncomputable def fr05Parse_tl12 (k j12 : Nat) (J : JF fr05ParseR) (L : LF fr05ParseR) : fr05Parse_T12 → Option fr05ParseR
  | (a0, a1, a2, a3, a4, a5, a6, a7, a8, a9, a10, a11, a12, a13, a14, a15, a16, a17) => ((cr05r_begins k) (([110, 111, 100, 101] : List Int), ((List.length a17 : Nat) : Int), (12 : Int), a7, a8, a9)).bind fun o1 => bif o1.1 then (((cr05r_node k) (o1.2.1, o1.2.2.1, o1.2.2.2)).bind fun o2 => app 144 a17 ([(o2.1, (o2.2.2.2.2.2.1, (o2.2.2.2.2.2.2.1, (o2.2.2.2.2.2.2.2.1, (o2.2.2.2.2.2.2.2.2.1, (o2.2.2.2.2.2.2.2.2.2, (o2.2.1, ())))))))] : List (YT6)) fun o3 => L 12 [] j12 (fr05Parse_s12 (a0, a1, a2, a3, a4, a5, a6, o2.2.2.1, o2.2.2.2.1, o2.2.2.2.2.1, a10, a11, a12, a13, a14, a15, a16, o3))) else (((cr05r_is'1 k) (([97, 114, 116, 101, 114, 121] : List Int), o1.2.1, o1.2.2.1, o1.2.2.2)).bind fun o4 => bif o4.1 then (((cr05r_next'1 k) (o4.2.1, o4.2.2.1, o4.2.2.2)).bind fun o5 => ((cr05r_artery k) (o5.2.2.2.2.1, o5.2.2.2.2.2.1, o5.2.2.2.2.2.2)).bind fun o6 => J 20 [] (fr05Parse_s20 (a0, a1, a2, a3, a4, a5, a6, o6.2.2.1, o6.2.2.2.1, o6.2.2.2.2.1, a10, a11, a12, a13, a14, o6.1, o6.2.1, a17, o6.2.2.2.2.2))) else (J 20 [] (fr05Parse_s20 (a0, a1, a2, a3, a4, a5, a6, o4.2.1, o4.2.2.1, o4.2.2.2, a10, a11, a12, a13, a14, a15, a16, a17, []))))
theorem fr05Parse_el12 (k j12 : Nat) (x : fr05Parse_T12) : (fr05Parse k).L 12 [] (j12 + 1) (fr05Parse_s12 x) = fr05Parse_tl12 k j12 (fr05Parse k).J (fr05Parse k).L x := by
  apply cutX (fr05Parse k) [.r, .r, .r, .r, .r, .r, .r, .r, .r, .r, .r, .l, .b, .b] [j12] (fr05Parse_s12 x) [(20, []), (22, [])] [(12, [], j12)] (fr05Parse_tl12 k j12 · · x) <;> intros <;> kernel_rfl
noncomputable def fr05Parse_tj20 (k : Nat) (J : JF fr05ParseR) (L : LF fr05ParseR) : fr05Parse_T20 → Option fr05ParseR
  | (a0, a1, a2, a3, a4, a5, a6, a7, a8, a9, a10, a11, a12, a13, a14, a15, a16, a17, a18) => idx zt8 a7 (0 : Int) fun o1 => bif (o1.1 != (0 : Int)) then (((cr05r_fail'1 k) ((50 : Int), a7, a8, a9)).bind fun o2 => J 22 [] (fr05Parse_s22 (a0, a1, a2, a3, a4, a5, a6, o2.1, o2.2.1, o2.2.2, a10, a11, a12, a13, a14, a15, a16, a17, a18))) else (J 22 [] (fr05Parse_s22 (a0, a1, a2, a3, a4, a5, a6, a7, a8, a9, a10, a11, a12, a13, a14, a15, a16, a17, a18)))
theorem fr05Parse_ej20 (k : Nat) (x : fr05Parse_T20) : (fr05Parse k).J 20 [] (fr05Parse_s20 x) = fr05Parse_tj20 k (fr05Parse k).J (fr05Parse k).L x := by
  apply cutX (fr05Parse k) [.r, .r, .r, .r, .r, .r, .r, .r, .r, .r, .r, .r, .r] [] (fr05Parse_s20 x) [(20, []), (22, [])] [(12, [], k)] (fr05Parse_tj20 k · · x) <;> intros <;> kernel_rfl
noncomputable def fr05Parse_tj22 (k : Nat) (J : JF fr05ParseR) (L : LF fr05ParseR) : fr05Parse_T22 → Option fr05ParseR
  | (a0, a1, a2, a3, a4, a5, a6, a7, a8, a9, a10, a11, a12, a13, a14, a15, a16, a17, a18) => bif (a8 != (0 : Int)) then (some ((0 : Int), (0 : Int), (0 : Int), (0 : Int), (0 : Int), (0 : Int), (0 : Int), a8, a9, [], [])) else (some (a10, a11, a12, a13, a14, a15, a16, (0 : Int), (0 : Int), a17, a18))
theorem fr05Parse_ej22 (k : Nat) (x : fr05Parse_T22) : (fr05Parse k).J 22 [] (fr05Parse_s22 x) = fr05Parse_tj22 k (fr05Parse k).J (fr05Parse k).L x := by
  apply cutX (fr05Parse k) [.r, .r, .r, .r, .r, .r, .r, .r, .r, .r, .r, .r, .r, .r] [] (fr05Parse_s22 x) [(20, []), (22, [])] [(12, [], k)] (fr05Parse_tj22 k · · x) <;> intros <;> kernel_rfl
theorem cr05Parse_ok (k : Nat) : SigOK Tryz.prog 38 (sgr05Parse k) :=
  fn_ok (C := (fr05Parse k).C) (l := fr05ParseE k) rfl ⟨⟨cr04Tokens_ok k, trivial⟩, ⟨cr05r_num_ok k, cr05r_num'1_ok k, trivial⟩, ⟨cr05r_want'1_ok k, trivial⟩, ⟨cr05r_frac_ok k, trivial⟩, ⟨cr05r_begins_ok k, trivial⟩, ⟨cr05r_node_ok k, trivial⟩, ⟨cr05r_is'1_ok k, trivial⟩, ⟨cr05r_next'1_ok k, trivial⟩, ⟨cr05r_artery_ok k, trivial⟩, ⟨cr05r_fail'1_ok k, trivial⟩, trivial⟩ (by kernel_rfl) k (fn := Tryz.f38) (by kernel_rfl) (by kernel_rfl) (by kernel_rfl) fr05Parsei fr05Parseo rfl rfl (show 0 ≤ 48 by decide) (show 0 ≤ 48 by decide)

/-! carrefour/carrefourlaw06.awake -/
def fw06awakei : Sk := ⟨[], [], []⟩
def fw06awakeo : Sk := ⟨[.lf (.pv .bool)], [], []⟩
abbrev fw06awakeT := Unit
abbrev fw06awakeR := Bool
noncomputable def fw06awakeE (k : Nat) : List (Nat × List Sig) := [(39, [sgw06sample k]), (38, [sgr05Parse k]), (8, [sgshowShow k]), (10, [sgshowRight k])]
noncomputable def fw06awake (k : Nat) : FnX (Bool) := mkX { P := Tryz.prog, env := lookS (fw06awakeE k), n := 126, npB := 0, npO := 0, hint := fun i => look none [] i, pops := [], bl := [54, 56] } k Tryz.f12 fw06awakeo
noncomputable def cw06awake (k : Nat) : fw06awakeT → Option (Bool) := fnOf (fw06awake k).C k Tryz.f12 fw06awakei fw06awakeo
noncomputable def sgw06awake (k : Nat) : Sig := ⟨fw06awakei, fw06awakeo, mkFun fw06awakei.tys fw06awakeo.tys (cw06awake k)⟩
noncomputable def fw06awake_t (k : Nat) (J : JF (Bool)) (L : LF (Bool)) : fw06awakeT → Option (Bool)
  | _ => ((cw06sample k) (())).bind fun o1 => ((cr05Parse k) (o1)).bind fun o2 => ((cshowShow k) (o2.1, o2.2.1, o2.2.2.1, o2.2.2.2.1, o2.2.2.2.2.1, o2.2.2.2.2.2.2.2.2.2.1, o2.2.2.2.2.2.2.2.2.2.2, o2.2.2.2.2.2.1, o2.2.2.2.2.2.2.1)).bind fun o3 => bif (o2.2.2.2.2.2.2.2.1 == (0 : Int)) then (bif (o3.2 == (0 : Int)) then (((cshowRight k) (o2.1, o2.2.1, o2.2.2.1, o2.2.2.2.1, o2.2.2.2.2.1, o2.2.2.2.2.2.2.2.2.2.1, o2.2.2.2.2.2.2.2.2.2.2, o2.2.2.2.2.2.1, o2.2.2.2.2.2.2.1)).bind fun o4 => bif o4 then (((cw06sample k) (())).bind fun o5 => bif (o3.1 == o5) then (((cshowRight k) ((-1 : Int), (0 : Int), (0 : Int), (0 : Int), (0 : Int), [], [], (0 : Int), (0 : Int))).bind fun o6 => some (!o6)) else (some false)) else (some false)) else (some false)) else (some false)
theorem fw06awake_e (k : Nat) (x : fw06awakeT) : cw06awake k x = fw06awake_t k (fw06awake k).J (fw06awake k).L x := by
  apply cutX (fw06awake k) [] [] (st0 (fw06awake k).C Tryz.f12 fw06awakei x) [] [] (fw06awake_t k · · x) <;> intros <;> kernel_rfl
theorem cw06awake_ok (k : Nat) : SigOK Tryz.prog 12 (sgw06awake k) :=
  fn_ok (C := (fw06awake k).C) (l := fw06awakeE k) rfl ⟨⟨cw06sample_ok k, trivial⟩, ⟨cr05Parse_ok k, trivial⟩, ⟨cshowShow_ok k, trivial⟩, ⟨cshowRight_ok k, trivial⟩, trivial⟩ (by kernel_rfl) k (fn := Tryz.f12) (by kernel_rfl) (by kernel_rfl) (by kernel_rfl) fw06awakei fw06awakeo rfl rfl (show 0 ≤ 48 by decide) (show 0 ≤ 48 by decide)

/-! carrefour/carrefourlaw06.ShowNets -/
def fw06ShowNetsi : Sk := ⟨[.agg [.pv (.int .i64), .pv (.int .i64), .pv (.int .i64), .pv (.int .i64), .pv (.int .i64), .pv (.slice yt6), .pv (.slice yt7), .pv (.int .i64), .pv (.int .i64)]], [], []⟩
def fw06ShowNetso : Sk := ⟨[.lf (.pv .bool)], [], []⟩
abbrev fw06ShowNetsT := (Int) × (Int) × (Int) × (Int) × (Int) × (List (YT6)) × (List (YT7)) × (Int) × (Int)
abbrev fw06ShowNetsR := Bool
noncomputable def fw06ShowNetsE (k : Nat) : List (Nat × List Sig) := [(7, [sgw06Few k]), (8, [sgshowShow k]), (9, [sgr06Show k]), (10, [sgshowRight k]), (11, [sgr06Right k]), (12, [sgw06awake k])]
noncomputable def fw06ShowNets (k : Nat) : FnX (Bool) := mkX { P := Tryz.prog, env := lookS (fw06ShowNetsE k), n := 88, npB := 0, npO := 0, hint := fun i => look none [] i, pops := [], bl := [54, 56] } k Tryz.f3 fw06ShowNetso
noncomputable def cw06ShowNets (k : Nat) : fw06ShowNetsT → Option (Bool) := fnOf (fw06ShowNets k).C k Tryz.f3 fw06ShowNetsi fw06ShowNetso
noncomputable def sgw06ShowNets (k : Nat) : Sig := ⟨fw06ShowNetsi, fw06ShowNetso, mkFun fw06ShowNetsi.tys fw06ShowNetso.tys (cw06ShowNets k)⟩
noncomputable def fw06ShowNets_t (k : Nat) (J : JF (Bool)) (L : LF (Bool)) : fw06ShowNetsT → Option (Bool)
  | (a0, a1, a2, a3, a4, a5, a6, a7, a8) => ((cw06Few k) (a0, a1, a2, a3, a4, a5, a6, a7, a8)).bind fun o1 => bif (!o1) then (some true) else (((cshowShow k) (a0, a1, a2, a3, a4, a5, a6, a7, a8)).bind fun o2 => ((cr06Show k) (a0, a1, a2, a3, a4, a5, a6, a7, a8)).bind fun o3 => bif (o2.1 == o3.1) then (bif (o2.2 == o3.2) then (((cshowRight k) (a0, a1, a2, a3, a4, a5, a6, a7, a8)).bind fun o4 => ((cr06Right k) (a0, a1, a2, a3, a4, a5, a6, a7, a8)).bind fun o5 => bif (o4 == o5) then (((cw06awake k) (())).bind fun o6 => some o6) else (some false)) else (some false)) else (some false))
theorem fw06ShowNets_e (k : Nat) (x : fw06ShowNetsT) : cw06ShowNets k x = fw06ShowNets_t k (fw06ShowNets k).J (fw06ShowNets k).L x := by
  apply cutX (fw06ShowNets k) [] [] (st0 (fw06ShowNets k).C Tryz.f3 fw06ShowNetsi x) [] [] (fw06ShowNets_t k · · x) <;> intros <;> kernel_rfl
theorem cw06ShowNets_ok (k : Nat) : SigOK Tryz.prog 3 (sgw06ShowNets k) :=
  fn_ok (C := (fw06ShowNets k).C) (l := fw06ShowNetsE k) rfl ⟨⟨cw06Few_ok k, trivial⟩, ⟨cshowShow_ok k, trivial⟩, ⟨cr06Show_ok k, trivial⟩, ⟨cshowRight_ok k, trivial⟩, ⟨cr06Right_ok k, trivial⟩, ⟨cw06awake_ok k, trivial⟩, trivial⟩ (by kernel_rfl) k (fn := Tryz.f3) (by kernel_rfl) (by kernel_rfl) (by kernel_rfl) fw06ShowNetsi fw06ShowNetso rfl rfl (show 0 ≤ 48 by decide) (show 0 ≤ 48 by decide)

/-! carrefour/carrefourlaw06.awake -/
def fw06awake'1i : Sk := ⟨[], [], []⟩
def fw06awake'1o : Sk := ⟨[.lf (.pv .bool)], [], []⟩
abbrev fw06awake'1T := Unit
abbrev fw06awake'1R := Bool
noncomputable def fw06awake'1E (k : Nat) : List (Nat × List Sig) := [(39, [sgw06sample k]), (38, [sgr05Parse k]), (8, [sgshowShow k]), (10, [sgshowRight k])]
noncomputable def fw06awake'1 (k : Nat) : FnX (Bool) := mkX { P := Tryz.prog, env := lookS (fw06awake'1E k), n := 126, npB := 0, npO := 0, hint := fun i => look none [] i, pops := [], bl := [54, 56] } k Tryz.f12 fw06awake'1o
noncomputable def cw06awake'1 (k : Nat) : fw06awake'1T → Option (Bool) := fnOf (fw06awake'1 k).C k Tryz.f12 fw06awake'1i fw06awake'1o
noncomputable def sgw06awake'1 (k : Nat) : Sig := ⟨fw06awake'1i, fw06awake'1o, mkFun fw06awake'1i.tys fw06awake'1o.tys (cw06awake'1 k)⟩
noncomputable def fw06awake'1_t (k : Nat) (J : JF (Bool)) (L : LF (Bool)) : fw06awake'1T → Option (Bool)
  | _ => ((cw06sample k) (())).bind fun o1 => ((cr05Parse k) (o1)).bind fun o2 => ((cshowShow k) (o2.1, o2.2.1, o2.2.2.1, o2.2.2.2.1, o2.2.2.2.2.1, o2.2.2.2.2.2.2.2.2.2.1, o2.2.2.2.2.2.2.2.2.2.2, o2.2.2.2.2.2.1, o2.2.2.2.2.2.2.1)).bind fun o3 => bif (o2.2.2.2.2.2.2.2.1 == (0 : Int)) then (bif (o3.2 == (0 : Int)) then (((cshowRight k) (o2.1, o2.2.1, o2.2.2.1, o2.2.2.2.1, o2.2.2.2.2.1, o2.2.2.2.2.2.2.2.2.2.1, o2.2.2.2.2.2.2.2.2.2.2, o2.2.2.2.2.2.1, o2.2.2.2.2.2.2.1)).bind fun o4 => bif o4 then (((cw06sample k) (())).bind fun o5 => bif (o3.1 == o5) then (((cshowRight k) ((-1 : Int), (0 : Int), (0 : Int), (0 : Int), (0 : Int), [], [], (0 : Int), (0 : Int))).bind fun o6 => some (!o6)) else (some false)) else (some false)) else (some false)) else (some false)
theorem fw06awake'1_e (k : Nat) (x : fw06awake'1T) : cw06awake'1 k x = fw06awake'1_t k (fw06awake'1 k).J (fw06awake'1 k).L x := by
  apply cutX (fw06awake'1 k) [] [] (st0 (fw06awake'1 k).C Tryz.f12 fw06awake'1i x) [] [] (fw06awake'1_t k · · x) <;> intros <;> kernel_rfl
theorem cw06awake'1_ok (k : Nat) : SigOK Tryz.prog 12 (sgw06awake'1 k) :=
  fn_ok (C := (fw06awake'1 k).C) (l := fw06awake'1E k) rfl ⟨⟨cw06sample_ok k, trivial⟩, ⟨cr05Parse_ok k, trivial⟩, ⟨cshowShow_ok k, trivial⟩, ⟨cshowRight_ok k, trivial⟩, trivial⟩ (by kernel_rfl) k (fn := Tryz.f12) (by kernel_rfl) (by kernel_rfl) (by kernel_rfl) fw06awake'1i fw06awake'1o rfl rfl (show 0 ≤ 48 by decide) (show 0 ≤ 48 by decide)

/-! carrefour/carrefourref05.stops -/
def fr05stopsi : Sk := ⟨[.lf (.pv (.slice yt7)), .lf (.pv (.slice yt7)), .lf (.pv .bool)], [], []⟩
def fr05stopso : Sk := ⟨[.lf (.pv .bool)], [], []⟩
def fr05stops_k4 : Sk := ⟨sparse 37 [(0, .lf (.pv (.slice yt7))), (1, .lf (.pv (.slice yt7))), (2, .lf (.pv .bool)), (7, .lf (.pv (.int .i64)))], [], []⟩
abbrev fr05stops_T4 := (List (YT7)) × (List (YT7)) × (Bool) × (Int)
def fr05stops_s4 : fr05stops_T4 → St := stOf fr05stops_k4 85
abbrev fr05stopsT := (List (YT7)) × (List (YT7)) × (Bool)
abbrev fr05stopsR := Bool
noncomputable def fr05stopsE (k : Nat) : List (Nat × List Sig) := []
noncomputable def fr05stops (k : Nat) : FnX (Bool) := mkX { P := Tryz.prog, env := lookS (fr05stopsE k), n := 85, npB := 0, npO := 0, hint := fun i => look none [(4, some fr05stops_k4)] i, pops := [], bl := [54, 56], ld := [(24, 9999), (28, 9999)], sr := [(8, 56), (9, 57)] } k Tryz.f40 fr05stopso
noncomputable def cr05stops (k : Nat) : fr05stopsT → Option (Bool) := fnOf (fr05stops k).C k Tryz.f40 fr05stopsi fr05stopso
noncomputable def sgr05stops (k : Nat) : Sig := ⟨fr05stopsi, fr05stopso, mkFun fr05stopsi.tys fr05stopso.tys (cr05stops k)⟩
noncomputable def fr05stops_t (k : Nat) (J : JF (Bool)) (L : LF (Bool)) : fr05stopsT → Option (Bool)
  | (a0, a1, a2) => bif (((List.length a0 : Nat) : Int) != ((List.length a1 : Nat) : Int)) then (some false) else (L 4 [] k (fr05stops_s4 (a0, a1, a2, (0 : Int))))
theorem fr05stops_e (k : Nat) (x : fr05stopsT) : cr05stops k x = fr05stops_t k (fr05stops k).J (fr05stops k).L x := by
  apply cutX (fr05stops k) [] [] (st0 (fr05stops k).C Tryz.f40 fr05stopsi x) [] [(4, [], k)] (fr05stops_t k · · x) <;> intros <;> kernel_rfl
noncomputable def fr05stops_tl4 (k j4 : Nat) (J : JF (Bool)) (L : LF (Bool)) : fr05stops_T4 → Option (Bool)
  | (a0, a1, a2, a3) => bif (decide (a3 < ((List.length a0 : Nat) : Int))) then (idx zt7 a0 a3 fun o1 => idx zt7 a1 a3 fun o2 => bif (!a2) then (bif (!((eqS o1.1 o2.1) && ((eqS o1.2.1 o2.2.1) && ((eqS o1.2.2.1 o2.2.2.1) && ((eqI o1.2.2.2.1 o2.2.2.2.1) && ((eqI o1.2.2.2.2.1 o2.2.2.2.2.1) && ((eqI o2.2.2.2.2.2.1 o2.2.2.2.2.2.1) && true))))))) then (some false) else (L 4 [] j4 (fr05stops_s4 (a0, a1, a2, (IntKind.wrap .i64 (a3 + (1 : Int))))))) else (bif (!((eqS o1.1 o2.1) && ((eqS o1.2.1 o2.2.1) && ((eqS o1.2.2.1 o2.2.2.1) && ((eqI o1.2.2.2.1 o2.2.2.2.1) && ((eqI o1.2.2.2.2.1 o2.2.2.2.2.1) && ((eqI o1.2.2.2.2.2.1 o2.2.2.2.2.2.1) && true))))))) then (some false) else (L 4 [] j4 (fr05stops_s4 (a0, a1, a2, (IntKind.wrap .i64 (a3 + (1 : Int)))))))) else (some true)
theorem fr05stops_el4 (k j4 : Nat) (x : fr05stops_T4) : (fr05stops k).L 4 [] (j4 + 1) (fr05stops_s4 x) = fr05stops_tl4 k j4 (fr05stops k).J (fr05stops k).L x := by
  apply cutX (fr05stops k) [.r, .r, .l, .r, .b, .b] [j4] (fr05stops_s4 x) [] [(4, [], j4)] (fr05stops_tl4 k j4 · · x) <;> intros <;> kernel_rfl
theorem cr05stops_ok (k : Nat) : SigOK Tryz.prog 40 (sgr05stops k) :=
  fn_ok (C := (fr05stops k).C) (l := fr05stopsE k) rfl trivial (by kernel_rfl) k (fn := Tryz.f40) (by kernel_rfl) (by kernel_rfl) (by kernel_rfl) fr05stopsi fr05stopso rfl rfl (show 0 ≤ 48 by decide) (show 0 ≤ 48 by decide)

/-! carrefour/carrefourref05.heads -/
def fr05headsi : Sk := ⟨[.lf (.pv (.slice yt1)), .lf (.pv (.slice yt1)), .lf (.pv .bool)], [], []⟩
def fr05headso : Sk := ⟨[.lf (.pv .bool)], [], []⟩
def fr05heads_k4 : Sk := ⟨sparse 37 [(0, .lf (.pv (.slice yt1))), (1, .lf (.pv (.slice yt1))), (2, .lf (.pv .bool)), (7, .lf (.pv (.int .i64)))], [], []⟩
abbrev fr05heads_T4 := (List (YT1)) × (List (YT1)) × (Bool) × (Int)
def fr05heads_s4 : fr05heads_T4 → St := stOf fr05heads_k4 85
abbrev fr05headsT := (List (YT1)) × (List (YT1)) × (Bool)
abbrev fr05headsR := Bool
noncomputable def fr05headsE (k : Nat) : List (Nat × List Sig) := []
noncomputable def fr05heads (k : Nat) : FnX (Bool) := mkX { P := Tryz.prog, env := lookS (fr05headsE k), n := 85, npB := 0, npO := 0, hint := fun i => look none [(4, some fr05heads_k4)] i, pops := [], bl := [54, 56], ld := [(24, 9999), (28, 9999)], sr := [(8, 56), (9, 57)] } k Tryz.f41 fr05headso
noncomputable def cr05heads (k : Nat) : fr05headsT → Option (Bool) := fnOf (fr05heads k).C k Tryz.f41 fr05headsi fr05headso
noncomputable def sgr05heads (k : Nat) : Sig := ⟨fr05headsi, fr05headso, mkFun fr05headsi.tys fr05headso.tys (cr05heads k)⟩
noncomputable def fr05heads_t (k : Nat) (J : JF (Bool)) (L : LF (Bool)) : fr05headsT → Option (Bool)
  | (a0, a1, a2) => bif (((List.length a0 : Nat) : Int) != ((List.length a1 : Nat) : Int)) then (some false) else (L 4 [] k (fr05heads_s4 (a0, a1, a2, (0 : Int))))
theorem fr05heads_e (k : Nat) (x : fr05headsT) : cr05heads k x = fr05heads_t k (fr05heads k).J (fr05heads k).L x := by
  apply cutX (fr05heads k) [] [] (st0 (fr05heads k).C Tryz.f41 fr05headsi x) [] [(4, [], k)] (fr05heads_t k · · x) <;> intros <;> kernel_rfl
noncomputable def fr05heads_tl4 (k j4 : Nat) (J : JF (Bool)) (L : LF (Bool)) : fr05heads_T4 → Option (Bool)
  | (a0, a1, a2, a3) => bif (decide (a3 < ((List.length a0 : Nat) : Int))) then (idx zt1 a0 a3 fun o1 => idx zt1 a1 a3 fun o2 => bif (!a2) then (bif (!((eqS o1.1 o2.1) && ((eqI o1.2.1 o2.2.1) && ((eqI o1.2.2.1 o2.2.2.1) && (((eqI o1.2.2.2.1.1 o2.2.2.2.1.1) && ((eqI o1.2.2.2.1.2.1 o2.2.2.2.1.2.1) && true)) && ((eqI o1.2.2.2.2.1 o2.2.2.2.2.1) && ((eqI o1.2.2.2.2.2.1 o2.2.2.2.2.2.1) && ((eqI o1.2.2.2.2.2.2.1 o2.2.2.2.2.2.2.1) && ((eqI o1.2.2.2.2.2.2.2.1 o2.2.2.2.2.2.2.2.1) && ((eqI o1.2.2.2.2.2.2.2.2.1 o2.2.2.2.2.2.2.2.2.1) && ((eqI o2.2.2.2.2.2.2.2.2.2.1 o2.2.2.2.2.2.2.2.2.2.1) && true))))))))))) then (some false) else (L 4 [] j4 (fr05heads_s4 (a0, a1, a2, (IntKind.wrap .i64 (a3 + (1 : Int))))))) else (bif (!((eqS o1.1 o2.1) && ((eqI o1.2.1 o2.2.1) && ((eqI o1.2.2.1 o2.2.2.1) && (((eqI o1.2.2.2.1.1 o2.2.2.2.1.1) && ((eqI o1.2.2.2.1.2.1 o2.2.2.2.1.2.1) && true)) && ((eqI o1.2.2.2.2.1 o2.2.2.2.2.1) && ((eqI o1.2.2.2.2.2.1 o2.2.2.2.2.2.1) && ((eqI o1.2.2.2.2.2.2.1 o2.2.2.2.2.2.2.1) && ((eqI o1.2.2.2.2.2.2.2.1 o2.2.2.2.2.2.2.2.1) && ((eqI o1.2.2.2.2.2.2.2.2.1 o2.2.2.2.2.2.2.2.2.1) && ((eqI o1.2.2.2.2.2.2.2.2.2.1 o2.2.2.2.2.2.2.2.2.2.1) && true))))))))))) then (some false) else (L 4 [] j4 (fr05heads_s4 (a0, a1, a2, (IntKind.wrap .i64 (a3 + (1 : Int)))))))) else (some true)
theorem fr05heads_el4 (k j4 : Nat) (x : fr05heads_T4) : (fr05heads k).L 4 [] (j4 + 1) (fr05heads_s4 x) = fr05heads_tl4 k j4 (fr05heads k).J (fr05heads k).L x := by
  apply cutX (fr05heads k) [.r, .r, .l, .r, .b, .b] [j4] (fr05heads_s4 x) [] [(4, [], j4)] (fr05heads_tl4 k j4 · · x) <;> intros <;> kernel_rfl
theorem cr05heads_ok (k : Nat) : SigOK Tryz.prog 41 (sgr05heads k) :=
  fn_ok (C := (fr05heads k).C) (l := fr05headsE k) rfl trivial (by kernel_rfl) k (fn := Tryz.f41) (by kernel_rfl) (by kernel_rfl) (by kernel_rfl) fr05headsi fr05headso rfl rfl (show 0 ≤ 48 by decide) (show 0 ≤ 48 by decide)

/-! carrefour/carrefourref05.peds -/
def fr05pedsi : Sk := ⟨[.lf (.pv (.slice yt2)), .lf (.pv (.slice yt2)), .lf (.pv .bool)], [], []⟩
def fr05pedso : Sk := ⟨[.lf (.pv .bool)], [], []⟩
def fr05peds_k4 : Sk := ⟨sparse 37 [(0, .lf (.pv (.slice yt2))), (1, .lf (.pv (.slice yt2))), (2, .lf (.pv .bool)), (7, .lf (.pv (.int .i64)))], [], []⟩
abbrev fr05peds_T4 := (List (YT2)) × (List (YT2)) × (Bool) × (Int)
def fr05peds_s4 : fr05peds_T4 → St := stOf fr05peds_k4 85
abbrev fr05pedsT := (List (YT2)) × (List (YT2)) × (Bool)
abbrev fr05pedsR := Bool
noncomputable def fr05pedsE (k : Nat) : List (Nat × List Sig) := []
noncomputable def fr05peds (k : Nat) : FnX (Bool) := mkX { P := Tryz.prog, env := lookS (fr05pedsE k), n := 85, npB := 0, npO := 0, hint := fun i => look none [(4, some fr05peds_k4)] i, pops := [], bl := [54, 56], ld := [(24, 9999), (28, 9999)], sr := [(8, 56), (9, 57)] } k Tryz.f42 fr05pedso
noncomputable def cr05peds (k : Nat) : fr05pedsT → Option (Bool) := fnOf (fr05peds k).C k Tryz.f42 fr05pedsi fr05pedso
noncomputable def sgr05peds (k : Nat) : Sig := ⟨fr05pedsi, fr05pedso, mkFun fr05pedsi.tys fr05pedso.tys (cr05peds k)⟩
noncomputable def fr05peds_t (k : Nat) (J : JF (Bool)) (L : LF (Bool)) : fr05pedsT → Option (Bool)
  | (a0, a1, a2) => bif (((List.length a0 : Nat) : Int) != ((List.length a1 : Nat) : Int)) then (some false) else (L 4 [] k (fr05peds_s4 (a0, a1, a2, (0 : Int))))
theorem fr05peds_e (k : Nat) (x : fr05pedsT) : cr05peds k x = fr05peds_t k (fr05peds k).J (fr05peds k).L x := by
  apply cutX (fr05peds k) [] [] (st0 (fr05peds k).C Tryz.f42 fr05pedsi x) [] [(4, [], k)] (fr05peds_t k · · x) <;> intros <;> kernel_rfl
noncomputable def fr05peds_tl4 (k j4 : Nat) (J : JF (Bool)) (L : LF (Bool)) : fr05peds_T4 → Option (Bool)
  | (a0, a1, a2, a3) => bif (decide (a3 < ((List.length a0 : Nat) : Int))) then (idx zt2 a0 a3 fun o1 => idx zt2 a1 a3 fun o2 => bif (!a2) then (bif (!((eqS o1.1 o2.1) && ((eqS o1.2.1 o2.2.1) && ((eqI o1.2.2.1 o2.2.2.1) && ((eqI o1.2.2.2.1 o2.2.2.2.1) && ((eqI o1.2.2.2.2.1 o2.2.2.2.2.1) && ((eqI o2.2.2.2.2.2.1 o2.2.2.2.2.2.1) && true))))))) then (some false) else (L 4 [] j4 (fr05peds_s4 (a0, a1, a2, (IntKind.wrap .i64 (a3 + (1 : Int))))))) else (bif (!((eqS o1.1 o2.1) && ((eqS o1.2.1 o2.2.1) && ((eqI o1.2.2.1 o2.2.2.1) && ((eqI o1.2.2.2.1 o2.2.2.2.1) && ((eqI o1.2.2.2.2.1 o2.2.2.2.2.1) && ((eqI o1.2.2.2.2.2.1 o2.2.2.2.2.2.1) && true))))))) then (some false) else (L 4 [] j4 (fr05peds_s4 (a0, a1, a2, (IntKind.wrap .i64 (a3 + (1 : Int)))))))) else (some true)
theorem fr05peds_el4 (k j4 : Nat) (x : fr05peds_T4) : (fr05peds k).L 4 [] (j4 + 1) (fr05peds_s4 x) = fr05peds_tl4 k j4 (fr05peds k).J (fr05peds k).L x := by
  apply cutX (fr05peds k) [.r, .r, .l, .r, .b, .b] [j4] (fr05peds_s4 x) [] [(4, [], j4)] (fr05peds_tl4 k j4 · · x) <;> intros <;> kernel_rfl
theorem cr05peds_ok (k : Nat) : SigOK Tryz.prog 42 (sgr05peds k) :=
  fn_ok (C := (fr05peds k).C) (l := fr05pedsE k) rfl trivial (by kernel_rfl) k (fn := Tryz.f42) (by kernel_rfl) (by kernel_rfl) (by kernel_rfl) fr05pedsi fr05pedso rfl rfl (show 0 ≤ 48 by decide) (show 0 ≤ 48 by decide)

/-! carrefour/carrefourref05.Names -/
def fr05Namesi : Sk := ⟨[.lf (.pv (.slice .str)), .lf (.pv (.slice .str))], [], []⟩
def fr05Nameso : Sk := ⟨[.lf (.pv .bool)], [], []⟩
def fr05Names_k4 : Sk := ⟨sparse 26 [(0, .lf (.pv (.slice .str))), (1, .lf (.pv (.slice .str))), (5, .lf (.pv (.int .i64)))], [], []⟩
abbrev fr05Names_T4 := (List (List Int)) × (List (List Int)) × (Int)
def fr05Names_s4 : fr05Names_T4 → St := stOf fr05Names_k4 74
abbrev fr05NamesT := (List (List Int)) × (List (List Int))
abbrev fr05NamesR := Bool
noncomputable def fr05NamesE (k : Nat) : List (Nat × List Sig) := []
noncomputable def fr05Names (k : Nat) : FnX (Bool) := mkX { P := Tryz.prog, env := lookS (fr05NamesE k), n := 74, npB := 0, npO := 0, hint := fun i => look none [(4, some fr05Names_k4)] i, pops := [], bl := [54, 56] } k Tryz.f89 fr05Nameso
noncomputable def cr05Names (k : Nat) : fr05NamesT → Option (Bool) := fnOf (fr05Names k).C k Tryz.f89 fr05Namesi fr05Nameso
noncomputable def sgr05Names (k : Nat) : Sig := ⟨fr05Namesi, fr05Nameso, mkFun fr05Namesi.tys fr05Nameso.tys (cr05Names k)⟩
noncomputable def fr05Names_t (k : Nat) (J : JF (Bool)) (L : LF (Bool)) : fr05NamesT → Option (Bool)
  | (a0, a1) => bif (((List.length a0 : Nat) : Int) != ((List.length a1 : Nat) : Int)) then (some false) else (L 4 [] k (fr05Names_s4 (a0, a1, (0 : Int))))
theorem fr05Names_e (k : Nat) (x : fr05NamesT) : cr05Names k x = fr05Names_t k (fr05Names k).J (fr05Names k).L x := by
  apply cutX (fr05Names k) [] [] (st0 (fr05Names k).C Tryz.f89 fr05Namesi x) [] [(4, [], k)] (fr05Names_t k · · x) <;> intros <;> kernel_rfl
noncomputable def fr05Names_tl4 (k j4 : Nat) (J : JF (Bool)) (L : LF (Bool)) : fr05Names_T4 → Option (Bool)
  | (a0, a1, a2) => bif (decide (a2 < ((List.length a0 : Nat) : Int))) then (idx [] a0 a2 fun o1 => idx [] a1 a2 fun o2 => bif (!(o1 == o2)) then (some false) else (L 4 [] j4 (fr05Names_s4 (a0, a1, (IntKind.wrap .i64 (a2 + (1 : Int))))))) else (some true)
theorem fr05Names_el4 (k j4 : Nat) (x : fr05Names_T4) : (fr05Names k).L 4 [] (j4 + 1) (fr05Names_s4 x) = fr05Names_tl4 k j4 (fr05Names k).J (fr05Names k).L x := by
  apply cutX (fr05Names k) [.r, .r, .l, .r, .b, .b] [j4] (fr05Names_s4 x) [] [(4, [], j4)] (fr05Names_tl4 k j4 · · x) <;> intros <;> kernel_rfl
theorem cr05Names_ok (k : Nat) : SigOK Tryz.prog 89 (sgr05Names k) :=
  fn_ok (C := (fr05Names k).C) (l := fr05NamesE k) rfl trivial (by kernel_rfl) k (fn := Tryz.f89) (by kernel_rfl) (by kernel_rfl) (by kernel_rfl) fr05Namesi fr05Nameso rfl rfl (show 0 ≤ 48 by decide) (show 0 ≤ 48 by decide)

/-! carrefour/carrefourref05.phases -/
def fr05phasesi : Sk := ⟨[.lf (.pv (.slice yt3)), .lf (.pv (.slice yt3)), .lf (.pv .bool)], [], []⟩
def fr05phaseso : Sk := ⟨[.lf (.pv .bool)], [], []⟩
def fr05phases_k4 : Sk := ⟨sparse 60 [(0, .lf (.pv (.slice yt3))), (1, .lf (.pv (.slice yt3))), (2, .lf (.pv .bool)), (7, .lf (.pv (.int .i64)))], [], []⟩
abbrev fr05phases_T4 := (List (YT3)) × (List (YT3)) × (Bool) × (Int)
def fr05phases_s4 : fr05phases_T4 → St := stOf fr05phases_k4 108
abbrev fr05phasesT := (List (YT3)) × (List (YT3)) × (Bool)
abbrev fr05phasesR := Bool
noncomputable def fr05phasesE (k : Nat) : List (Nat × List Sig) := [(89, [sgr05Names k])]
noncomputable def fr05phases (k : Nat) : FnX (Bool) := mkX { P := Tryz.prog, env := lookS (fr05phasesE k), n := 108, npB := 0, npO := 0, hint := fun i => look none [(4, some fr05phases_k4)] i, pops := [], bl := [54, 56] } k Tryz.f43 fr05phaseso
noncomputable def cr05phases (k : Nat) : fr05phasesT → Option (Bool) := fnOf (fr05phases k).C k Tryz.f43 fr05phasesi fr05phaseso
noncomputable def sgr05phases (k : Nat) : Sig := ⟨fr05phasesi, fr05phaseso, mkFun fr05phasesi.tys fr05phaseso.tys (cr05phases k)⟩
noncomputable def fr05phases_t (k : Nat) (J : JF (Bool)) (L : LF (Bool)) : fr05phasesT → Option (Bool)
  | (a0, a1, a2) => bif (((List.length a0 : Nat) : Int) != ((List.length a1 : Nat) : Int)) then (some false) else (L 4 [] k (fr05phases_s4 (a0, a1, a2, (0 : Int))))
theorem fr05phases_e (k : Nat) (x : fr05phasesT) : cr05phases k x = fr05phases_t k (fr05phases k).J (fr05phases k).L x := by
  apply cutX (fr05phases k) [] [] (st0 (fr05phases k).C Tryz.f43 fr05phasesi x) [] [(4, [], k)] (fr05phases_t k · · x) <;> intros <;> kernel_rfl
noncomputable def fr05phases_tl4 (k j4 : Nat) (J : JF (Bool)) (L : LF (Bool)) : fr05phases_T4 → Option (Bool)
  | (a0, a1, a2, a3) => bif (decide (a3 < ((List.length a0 : Nat) : Int))) then (idx zt3 a0 a3 fun o1 => idx zt3 a1 a3 fun o2 => bif (!(o1.1 == o2.1)) then (some false) else (idx zt3 a0 a3 fun o3 => idx zt3 a1 a3 fun o4 => ((cr05Names k) (o3.2.1, o4.2.1)).bind fun o5 => bif (!o5) then (some false) else (bif a2 then (idx zt3 a0 a3 fun o6 => idx zt3 a1 a3 fun o7 => bif (o6.2.2.1 != o7.2.2.1) then (some false) else (L 4 [] j4 (fr05phases_s4 (a0, a1, a2, (IntKind.wrap .i64 (a3 + (1 : Int))))))) else (L 4 [] j4 (fr05phases_s4 (a0, a1, a2, (IntKind.wrap .i64 (a3 + (1 : Int))))))))) else (some true)
theorem fr05phases_el4 (k j4 : Nat) (x : fr05phases_T4) : (fr05phases k).L 4 [] (j4 + 1) (fr05phases_s4 x) = fr05phases_tl4 k j4 (fr05phases k).J (fr05phases k).L x := by
  apply cutX (fr05phases k) [.r, .r, .l, .r, .b, .b] [j4] (fr05phases_s4 x) [] [(4, [], j4)] (fr05phases_tl4 k j4 · · x) <;> intros <;> kernel_rfl
theorem cr05phases_ok (k : Nat) : SigOK Tryz.prog 43 (sgr05phases k) :=
  fn_ok (C := (fr05phases k).C) (l := fr05phasesE k) rfl ⟨⟨cr05Names_ok k, trivial⟩, trivial⟩ (by kernel_rfl) k (fn := Tryz.f43) (by kernel_rfl) (by kernel_rfl) (by kernel_rfl) fr05phasesi fr05phaseso rfl rfl (show 0 ≤ 48 by decide) (show 0 ≤ 48 by decide)

/-! carrefour/carrefourref05.Groups -/
def fr05Groupsi : Sk := ⟨[.lf (.pv (.slice (.cons (.slice yt4) .nil))), .lf (.pv (.slice (.cons (.slice yt4) .nil)))], [], []⟩
def fr05Groupso : Sk := ⟨[.lf (.pv .bool)], [], []⟩
def fr05Groups_k4 : Sk := ⟨sparse 82 [(0, .lf (.pv (.slice (.cons (.slice yt4) .nil)))), (1, .lf (.pv (.slice (.cons (.slice yt4) .nil)))), (5, .lf (.pv (.int .i64)))], [], []⟩
abbrev fr05Groups_T4 := (List ((List (YT4)) × (Unit))) × (List ((List (YT4)) × (Unit))) × (Int)
def fr05Groups_s4 : fr05Groups_T4 → St := stOf fr05Groups_k4 130
def fr05Groups_k9 : Sk := ⟨sparse 82 [(0, .lf (.pv (.slice (.cons (.slice yt4) .nil)))), (1, .lf (.pv (.slice (.cons (.slice yt4) .nil)))), (5, .lf (.pv (.int .i64))), (6, .lf (.pv (.int .i64)))], [], []⟩
abbrev fr05Groups_T9 := (List ((List (YT4)) × (Unit))) × (List ((List (YT4)) × (Unit))) × (Int) × (Int)
def fr05Groups_s9 : fr05Groups_T9 → St := stOf fr05Groups_k9 130
abbrev fr05GroupsT := (List ((List (YT4)) × (Unit))) × (List ((List (YT4)) × (Unit)))
abbrev fr05GroupsR := Bool
noncomputable def fr05GroupsE (k : Nat) : List (Nat × List Sig) := [(89, [sgr05Names k])]
noncomputable def fr05Groups (k : Nat) : FnX (Bool) := mkX { P := Tryz.prog, env := lookS (fr05GroupsE k), n := 130, npB := 0, npO := 0, hint := fun i => look none [(4, some fr05Groups_k4), (9, some fr05Groups_k9)] i, pops := [], bl := [54, 56] } k Tryz.f44 fr05Groupso
noncomputable def cr05Groups (k : Nat) : fr05GroupsT → Option (Bool) := fnOf (fr05Groups k).C k Tryz.f44 fr05Groupsi fr05Groupso
noncomputable def sgr05Groups (k : Nat) : Sig := ⟨fr05Groupsi, fr05Groupso, mkFun fr05Groupsi.tys fr05Groupso.tys (cr05Groups k)⟩
noncomputable def fr05Groups_t (k : Nat) (J : JF (Bool)) (L : LF (Bool)) : fr05GroupsT → Option (Bool)
  | (a0, a1) => bif (((List.length a0 : Nat) : Int) != ((List.length a1 : Nat) : Int)) then (some false) else (L 4 [] k (fr05Groups_s4 (a0, a1, (0 : Int))))
theorem fr05Groups_e (k : Nat) (x : fr05GroupsT) : cr05Groups k x = fr05Groups_t k (fr05Groups k).J (fr05Groups k).L x := by
  apply cutX (fr05Groups k) [] [] (st0 (fr05Groups k).C Tryz.f44 fr05Groupsi x) [] [(4, [], k)] (fr05Groups_t k · · x) <;> intros <;> kernel_rfl
noncomputable def fr05Groups_tl4 (k j4 : Nat) (J : JF (Bool)) (L : LF (Bool)) : fr05Groups_T4 → Option (Bool)
  | (a0, a1, a2) => bif (decide (a2 < ((List.length a0 : Nat) : Int))) then (idx ([], ()) a0 a2 fun o1 => idx ([], ()) a1 a2 fun o2 => bif (((List.length o1.1 : Nat) : Int) != ((List.length o2.1 : Nat) : Int)) then (some false) else (L 9 [j4] k (fr05Groups_s9 (a0, a1, a2, (0 : Int))))) else (some true)
theorem fr05Groups_el4 (k j4 : Nat) (x : fr05Groups_T4) : (fr05Groups k).L 4 [] (j4 + 1) (fr05Groups_s4 x) = fr05Groups_tl4 k j4 (fr05Groups k).J (fr05Groups k).L x := by
  apply cutX (fr05Groups k) [.r, .r, .l, .r, .b, .b] [j4] (fr05Groups_s4 x) [] [(4, [], j4), (9, [j4], k)] (fr05Groups_tl4 k j4 · · x) <;> intros <;> kernel_rfl
noncomputable def fr05Groups_tl9 (k j4 j9 : Nat) (J : JF (Bool)) (L : LF (Bool)) : fr05Groups_T9 → Option (Bool)
  | (a0, a1, a2, a3) => idx ([], ()) a0 a2 fun o1 => bif (decide (a3 < ((List.length o1.1 : Nat) : Int))) then (idx ([], ()) a0 a2 fun o2 => idx zt4 o2.1 a3 fun o3 => idx ([], ()) a1 a2 fun o4 => idx zt4 o4.1 a3 fun o5 => bif (!(o3.1 == o5.1)) then (some false) else (idx ([], ()) a0 a2 fun o6 => idx zt4 o6.1 a3 fun o7 => idx ([], ()) a1 a2 fun o8 => idx zt4 o8.1 a3 fun o9 => ((cr05Names k) (o7.2.1, o9.2.1)).bind fun o10 => bif (!o10) then (some false) else (L 9 [j4] j9 (fr05Groups_s9 (a0, a1, a2, (IntKind.wrap .i64 (a3 + (1 : Int)))))))) else (L 4 [] j4 (fr05Groups_s4 (a0, a1, (IntKind.wrap .i64 (a2 + (1 : Int))))))
theorem fr05Groups_el9 (k j4 j9 : Nat) (x : fr05Groups_T9) : (fr05Groups k).L 9 [j4] (j9 + 1) (fr05Groups_s9 x) = fr05Groups_tl9 k j4 j9 (fr05Groups k).J (fr05Groups k).L x := by
  apply cutX (fr05Groups k) [.r, .r, .l, .r, .b, .b, .r, .l, .b, .r, .r, .b, .b] [j4, j9] (fr05Groups_s9 x) [] [(4, [], j4), (9, [j4], j9)] (fr05Groups_tl9 k j4 j9 · · x) <;> intros <;> kernel_rfl
theorem cr05Groups_ok (k : Nat) : SigOK Tryz.prog 44 (sgr05Groups k) :=
  fn_ok (C := (fr05Groups k).C) (l := fr05GroupsE k) rfl ⟨⟨cr05Names_ok k, trivial⟩, trivial⟩ (by kernel_rfl) k (fn := Tryz.f44) (by kernel_rfl) (by kernel_rfl) (by kernel_rfl) fr05Groupsi fr05Groupso rfl rfl (show 0 ≤ 48 by decide) (show 0 ≤ 48 by decide)

/-! carrefour/carrefourref05.foes -/
def fr05foesi : Sk := ⟨[.lf (.pv (.slice yt5)), .lf (.pv (.slice yt5)), .lf (.pv .bool)], [], []⟩
def fr05foeso : Sk := ⟨[.lf (.pv .bool)], [], []⟩
def fr05foes_k4 : Sk := ⟨sparse 37 [(0, .lf (.pv (.slice yt5))), (1, .lf (.pv (.slice yt5))), (2, .lf (.pv .bool)), (7, .lf (.pv (.int .i64)))], [], []⟩
abbrev fr05foes_T4 := (List (YT5)) × (List (YT5)) × (Bool) × (Int)
def fr05foes_s4 : fr05foes_T4 → St := stOf fr05foes_k4 85
abbrev fr05foesT := (List (YT5)) × (List (YT5)) × (Bool)
abbrev fr05foesR := Bool
noncomputable def fr05foesE (k : Nat) : List (Nat × List Sig) := []
noncomputable def fr05foes (k : Nat) : FnX (Bool) := mkX { P := Tryz.prog, env := lookS (fr05foesE k), n := 85, npB := 0, npO := 0, hint := fun i => look none [(4, some fr05foes_k4)] i, pops := [], bl := [54, 56], ld := [(24, 9999), (28, 9999)], sr := [(8, 56), (9, 57)] } k Tryz.f45 fr05foeso
noncomputable def cr05foes (k : Nat) : fr05foesT → Option (Bool) := fnOf (fr05foes k).C k Tryz.f45 fr05foesi fr05foeso
noncomputable def sgr05foes (k : Nat) : Sig := ⟨fr05foesi, fr05foeso, mkFun fr05foesi.tys fr05foeso.tys (cr05foes k)⟩
noncomputable def fr05foes_t (k : Nat) (J : JF (Bool)) (L : LF (Bool)) : fr05foesT → Option (Bool)
  | (a0, a1, a2) => bif (((List.length a0 : Nat) : Int) != ((List.length a1 : Nat) : Int)) then (some false) else (L 4 [] k (fr05foes_s4 (a0, a1, a2, (0 : Int))))
theorem fr05foes_e (k : Nat) (x : fr05foesT) : cr05foes k x = fr05foes_t k (fr05foes k).J (fr05foes k).L x := by
  apply cutX (fr05foes k) [] [] (st0 (fr05foes k).C Tryz.f45 fr05foesi x) [] [(4, [], k)] (fr05foes_t k · · x) <;> intros <;> kernel_rfl
noncomputable def fr05foes_tl4 (k j4 : Nat) (J : JF (Bool)) (L : LF (Bool)) : fr05foes_T4 → Option (Bool)
  | (a0, a1, a2, a3) => bif (decide (a3 < ((List.length a0 : Nat) : Int))) then (idx zt5 a0 a3 fun o1 => idx zt5 a1 a3 fun o2 => bif (!a2) then (bif (!((eqS o1.1 o2.1) && ((eqS o1.2.1 o2.2.1) && ((eqI o2.2.2.1 o2.2.2.1) && true)))) then (some false) else (L 4 [] j4 (fr05foes_s4 (a0, a1, a2, (IntKind.wrap .i64 (a3 + (1 : Int))))))) else (bif (!((eqS o1.1 o2.1) && ((eqS o1.2.1 o2.2.1) && ((eqI o1.2.2.1 o2.2.2.1) && true)))) then (some false) else (L 4 [] j4 (fr05foes_s4 (a0, a1, a2, (IntKind.wrap .i64 (a3 + (1 : Int)))))))) else (some true)
theorem fr05foes_el4 (k j4 : Nat) (x : fr05foes_T4) : (fr05foes k).L 4 [] (j4 + 1) (fr05foes_s4 x) = fr05foes_tl4 k j4 (fr05foes k).J (fr05foes k).L x := by
  apply cutX (fr05foes k) [.r, .r, .l, .r, .b, .b] [j4] (fr05foes_s4 x) [] [(4, [], j4)] (fr05foes_tl4 k j4 · · x) <;> intros <;> kernel_rfl
theorem cr05foes_ok (k : Nat) : SigOK Tryz.prog 45 (sgr05foes k) :=
  fn_ok (C := (fr05foes k).C) (l := fr05foesE k) rfl trivial (by kernel_rfl) k (fn := Tryz.f45) (by kernel_rfl) (by kernel_rfl) (by kernel_rfl) fr05foesi fr05foeso rfl rfl (show 0 ≤ 48 by decide) (show 0 ≤ 48 by decide)

/-! carrefour/carrefourref05.Same -/
def fr05Samei : Sk := ⟨[.agg [.pv (.int .i64), .pv (.int .i64), .pv (.int .i64), .pv (.int .i64), .pv (.int .i64), .pv (.slice yt6), .pv (.slice yt7), .pv (.int .i64), .pv (.int .i64)], .agg [.pv (.int .i64), .pv (.int .i64), .pv (.int .i64), .pv (.int .i64), .pv (.int .i64), .pv (.slice yt6), .pv (.slice yt7), .pv (.int .i64), .pv (.int .i64)], .lf (.pv .bool)], [], []⟩
def fr05Sameo : Sk := ⟨[.lf (.pv .bool)], [], []⟩
def fr05Same_k4 : Sk := ⟨sparse 144 [(2, .lf (.pv .bool)), (3, .lf (.ptr 0 0)), (4, .lf (.ptr 1 0)), (7, .lf (.pv (.int .i64)))], [[.pv (.int .i64), .pv (.int .i64), .pv (.int .i64), .pv (.int .i64), .pv (.int .i64), .pv (.slice yt6), .pv (.slice yt7), .pv (.int .i64), .pv (.int .i64)], [.pv (.int .i64), .pv (.int .i64), .pv (.int .i64), .pv (.int .i64), .pv (.int .i64), .pv (.slice yt6), .pv (.slice yt7), .pv (.int .i64), .pv (.int .i64)]], []⟩
abbrev fr05Same_T4 := (Bool) × (Int) × (Int) × (Int) × (Int) × (Int) × (Int) × (List (YT6)) × (List (YT7)) × (Int) × (Int) × (Int) × (Int) × (Int) × (Int) × (Int) × (List (YT6)) × (List (YT7)) × (Int) × (Int)
def fr05Same_s4 : fr05Same_T4 → St := stOf fr05Same_k4 192
abbrev fr05SameT := (Int) × (Int) × (Int) × (Int) × (Int) × (List (YT6)) × (List (YT7)) × (Int) × (Int) × (Int) × (Int) × (Int) × (Int) × (Int) × (List (YT6)) × (List (YT7)) × (Int) × (Int) × (Bool)
abbrev fr05SameR := Bool
noncomputable def fr05SameE (k : Nat) : List (Nat × List Sig) := [(40, [sgr05stops k]), (41, [sgr05heads k]), (42, [sgr05peds k]), (43, [sgr05phases k]), (44, [sgr05Groups k]), (45, [sgr05foes k])]
noncomputable def fr05Same (k : Nat) : FnX (Bool) := mkX { P := Tryz.prog, env := lookS (fr05SameE k), n := 192, npB := 0, npO := 0, hint := fun i => look none [(4, some fr05Same_k4)] i, pops := [], bl := [54, 56], ld := [(75, 9999), (76, 0), (79, 9999), (80, 9999), (81, 1), (84, 9999)], sr := [(8, 56), (9, 57)] } k Tryz.f13 fr05Sameo
noncomputable def cr05Same (k : Nat) : fr05SameT → Option (Bool) := fnOf (fr05Same k).C k Tryz.f13 fr05Samei fr05Sameo
noncomputable def sgr05Same (k : Nat) : Sig := ⟨fr05Samei, fr05Sameo, mkFun fr05Samei.tys fr05Sameo.tys (cr05Same k)⟩
noncomputable def fr05Same_t (k : Nat) (J : JF (Bool)) (L : LF (Bool)) : fr05SameT → Option (Bool)
  | (a0, a1, a2, a3, a4, a5, a6, a7, a8, a9, a10, a11, a12, a13, a14, a15, a16, a17, a18) => bif (a0 != a9) then (some false) else (bif (a1 != a10) then (some false) else (bif (a2 != a11) then (some false) else (bif (!((eqI a3 a12) && ((eqI a4 a13) && true))) then (some false) else (bif (a7 != a16) then (some false) else (bif (a8 != a17) then (some false) else (bif (((List.length a5 : Nat) : Int) != ((List.length a14 : Nat) : Int)) then (some false) else (((cr05stops k) (a6, a15, a18)).bind fun o1 => bif (!o1) then (some false) else (L 4 [] k (fr05Same_s4 (a18, (0 : Int), a0, a1, a2, a3, a4, a5, a6, a7, a8, a9, a10, a11, a12, a13, a14, a15, a16, a17))))))))))
theorem fr05Same_e (k : Nat) (x : fr05SameT) : cr05Same k x = fr05Same_t k (fr05Same k).J (fr05Same k).L x := by
  apply cutX (fr05Same k) [] [] (st0 (fr05Same k).C Tryz.f13 fr05Samei x) [] [(4, [], k)] (fr05Same_t k · · x) <;> intros <;> kernel_rfl
noncomputable def fr05Same_tl4 (k j4 : Nat) (J : JF (Bool)) (L : LF (Bool)) : fr05Same_T4 → Option (Bool)
  | (a0, a1, a2, a3, a4, a5, a6, a7, a8, a9, a10, a11, a12, a13, a14, a15, a16, a17, a18, a19) => bif (decide (a1 < ((List.length a7 : Nat) : Int))) then (idx zt6 a7 a1 fun o1 => idx zt6 a16 a1 fun o2 => bif (!(o1.1 == o2.1)) then (some false) else (bif a0 then (bif (o1.2.2.2.2.2.2.1 != o2.2.2.2.2.2.2.1) then (some false) else (((cr05heads k) (o1.2.1, o2.2.1, a0)).bind fun o3 => bif (!o3) then (some false) else (((cr05peds k) (o1.2.2.1, o2.2.2.1, a0)).bind fun o4 => bif (!o4) then (some false) else (((cr05phases k) (o1.2.2.2.1, o2.2.2.2.1, a0)).bind fun o5 => bif (!o5) then (some false) else (((cr05Groups k) (o1.2.2.2.2.1, o2.2.2.2.2.1)).bind fun o6 => bif (!o6) then (some false) else (((cr05foes k) (o1.2.2.2.2.2.1, o2.2.2.2.2.2.1, a0)).bind fun o7 => bif (!o7) then (some false) else (L 4 [] j4 (fr05Same_s4 (a0, (IntKind.wrap .i64 (a1 + (1 : Int))), a2, a3, a4, a5, a6, a7, a8, a9, a10, a11, a12, a13, a14, a15, a16, a17, a18, a19))))))))) else (((cr05heads k) (o1.2.1, o2.2.1, a0)).bind fun o8 => bif (!o8) then (some false) else (((cr05peds k) (o1.2.2.1, o2.2.2.1, a0)).bind fun o9 => bif (!o9) then (some false) else (((cr05phases k) (o1.2.2.2.1, o2.2.2.2.1, a0)).bind fun o10 => bif (!o10) then (some false) else (((cr05Groups k) (o1.2.2.2.2.1, o2.2.2.2.2.1)).bind fun o11 => bif (!o11) then (some false) else (((cr05foes k) (o1.2.2.2.2.2.1, o2.2.2.2.2.2.1, a0)).bind fun o12 => bif (!o12) then (some false) else (L 4 [] j4 (fr05Same_s4 (a0, (IntKind.wrap .i64 (a1 + (1 : Int))), a2, a3, a4, a5, a6, a7, a8, a9, a10, a11, a12, a13, a14, a15, a16, a17, a18, a19)))))))))) else (some true)
theorem fr05Same_el4 (k j4 : Nat) (x : fr05Same_T4) : (fr05Same k).L 4 [] (j4 + 1) (fr05Same_s4 x) = fr05Same_tl4 k j4 (fr05Same k).J (fr05Same k).L x := by
  apply cutX (fr05Same k) [.r, .r, .l, .r, .b, .b] [j4] (fr05Same_s4 x) [] [(4, [], j4)] (fr05Same_tl4 k j4 · · x) <;> intros <;> kernel_rfl
theorem cr05Same_ok (k : Nat) : SigOK Tryz.prog 13 (sgr05Same k) :=
  fn_ok (C := (fr05Same k).C) (l := fr05SameE k) rfl ⟨⟨cr05stops_ok k, trivial⟩, ⟨cr05heads_ok k, trivial⟩, ⟨cr05peds_ok k, trivial⟩, ⟨cr05phases_ok k, trivial⟩, ⟨cr05Groups_ok k, trivial⟩, ⟨cr05foes_ok k, trivial⟩, trivial⟩ (by kernel_rfl) k (fn := Tryz.f13) (by kernel_rfl) (by kernel_rfl) (by kernel_rfl) fr05Samei fr05Sameo rfl rfl (show 0 ≤ 48 by decide) (show 0 ≤ 48 by decide)

/-! carrefour/carrefourlaw06.ShowApart -/
def fw06ShowAparti : Sk := ⟨[.agg [.pv (.int .i64), .pv (.int .i64), .pv (.int .i64), .pv (.int .i64), .pv (.int .i64), .pv (.slice yt6), .pv (.slice yt7), .pv (.int .i64), .pv (.int .i64)], .agg [.pv (.int .i64), .pv (.int .i64), .pv (.int .i64), .pv (.int .i64), .pv (.int .i64), .pv (.slice yt6), .pv (.slice yt7), .pv (.int .i64), .pv (.int .i64)]], [], []⟩
def fw06ShowAparto : Sk := ⟨[.lf (.pv .bool)], [], []⟩
abbrev fw06ShowApartT := (Int) × (Int) × (Int) × (Int) × (Int) × (List (YT6)) × (List (YT7)) × (Int) × (Int) × (Int) × (Int) × (Int) × (Int) × (Int) × (List (YT6)) × (List (YT7)) × (Int) × (Int)
abbrev fw06ShowApartR := Bool
noncomputable def fw06ShowApartE (k : Nat) : List (Nat × List Sig) := [(7, [sgw06Few k]), (8, [sgshowShow k]), (12, [sgw06awake'1 k]), (13, [sgr05Same k])]
noncomputable def fw06ShowApart (k : Nat) : FnX (Bool) := mkX { P := Tryz.prog, env := lookS (fw06ShowApartE k), n := 94, npB := 0, npO := 0, hint := fun i => look none [] i, pops := [], bl := [54, 56] } k Tryz.f4 fw06ShowAparto
noncomputable def cw06ShowApart (k : Nat) : fw06ShowApartT → Option (Bool) := fnOf (fw06ShowApart k).C k Tryz.f4 fw06ShowAparti fw06ShowAparto
noncomputable def sgw06ShowApart (k : Nat) : Sig := ⟨fw06ShowAparti, fw06ShowAparto, mkFun fw06ShowAparti.tys fw06ShowAparto.tys (cw06ShowApart k)⟩
noncomputable def fw06ShowApart_t (k : Nat) (J : JF (Bool)) (L : LF (Bool)) : fw06ShowApartT → Option (Bool)
  | (a0, a1, a2, a3, a4, a5, a6, a7, a8, a9, a10, a11, a12, a13, a14, a15, a16, a17) => ((cw06Few k) (a0, a1, a2, a3, a4, a5, a6, a7, a8)).bind fun o1 => bif (!o1) then (some true) else (((cw06Few k) (a9, a10, a11, a12, a13, a14, a15, a16, a17)).bind fun o2 => bif (!o2) then (some true) else (((cshowShow k) (a0, a1, a2, a3, a4, a5, a6, a7, a8)).bind fun o3 => ((cshowShow k) (a9, a10, a11, a12, a13, a14, a15, a16, a17)).bind fun o4 => bif (o3.2 != (0 : Int)) then (((cw06awake'1 k) (())).bind fun o5 => some o5) else (bif (o4.2 != (0 : Int)) then (((cw06awake'1 k) (())).bind fun o6 => some o6) else (((cr05Same k) (a0, a1, a2, a3, a4, a5, a6, a7, a8, a9, a10, a11, a12, a13, a14, a15, a16, a17, false)).bind fun o7 => bif ((o3.1 == o4.1) == o7) then (((cw06awake'1 k) (())).bind fun o8 => some o8) else (some false)))))
theorem fw06ShowApart_e (k : Nat) (x : fw06ShowApartT) : cw06ShowApart k x = fw06ShowApart_t k (fw06ShowApart k).J (fw06ShowApart k).L x := by
  apply cutX (fw06ShowApart k) [] [] (st0 (fw06ShowApart k).C Tryz.f4 fw06ShowAparti x) [] [] (fw06ShowApart_t k · · x) <;> intros <;> kernel_rfl
theorem cw06ShowApart_ok (k : Nat) : SigOK Tryz.prog 4 (sgw06ShowApart k) :=
  fn_ok (C := (fw06ShowApart k).C) (l := fw06ShowApartE k) rfl ⟨⟨cw06Few_ok k, trivial⟩, ⟨cshowShow_ok k, trivial⟩, ⟨cw06awake'1_ok k, trivial⟩, ⟨cr05Same_ok k, trivial⟩, trivial⟩ (by kernel_rfl) k (fn := Tryz.f4) (by kernel_rfl) (by kernel_rfl) (by kernel_rfl) fw06ShowAparti fw06ShowAparto rfl rfl (show 0 ≤ 48 by decide) (show 0 ≤ 48 by decide)
end Go.Proofs.YtipcabmhdokfjaaGreatDoorV

/-! Words for plain laws, 2: reading rows, loops over rows. -/
set_option linter.unusedVariables false
set_option linter.unusedSimpArgs false
namespace Go.Proofs.YtipcabmhdokfjaaGreatDoorV
open Go Go.RowKit

section
variable {α β R : Type} {d : α} {l : List α} {i : Nat} {x : α}
theorem at_lt (h : l[i]? = some x) : i < l.length := (List.getElem?_eq_some_iff.1 h).1
theorem at_mem (h : l[i]? = some x) : x ∈ l := List.mem_of_getElem? h
theorem at_drop (h : l[i]? = some x) : l.drop i = x :: l.drop (i + 1) := by
  obtain ⟨h1, h2⟩ := List.getElem?_eq_some_iff.1 h
  rw [List.drop_eq_getElem_cons h1, h2]
theorem idx_at {K : α → Option R} (h : l[i]? = some x) : idx d l (i : Int) K = K x := by
  have := at_lt h
  unfold idx
  rw [cinB, if_pos (by omega), rdA_nat, List.getD_eq_getElem?_getD, h]
  rfl
theorem idxI_at {l : List Int} {x : Int} {K : Int → Option R} (h : l[i]? = some x) : idxI l (i : Int) K = K x := by
  have := at_lt h
  unfold idxI
  rw [cinB, if_pos (by omega), rdI_nat, List.getD_eq_getElem?_getD, h]
  rfl
theorem lt_at {a b : β} (h : l[i]? = some x) : (bif decide ((i : Int) < ((l.length : Nat) : Int)) then a else b) = a := by
  have := at_lt h
  rw [cd, if_pos (by omega)]
theorem lt_end {a b : β} : (bif decide (((l.length : Nat) : Int) < ((l.length : Nat) : Int)) then a else b) = b := by
  rw [cd, if_neg (by omega)]
theorem suc_at (h : l[i]? = some x) (hl : l.length < 1000000) : IntKind.wrap .i64 ((i : Int) + 1) = ((i + 1 : Nat) : Int) := by
  have := at_lt h
  rw [w64 (by omega)]
  rfl
theorem cat_ok {a b : List Int} {K : List Int → Option R} (h : a.length + b.length ≤ 9223372036854775807) : cat a b K = K (a ++ b) := by
  unfold cat
  rw [cd]
  exact if_pos h
theorem app_ok {n : Nat} {a b : List α} {K : List α → Option R} (h : (a.length + b.length) * n ≤ 140737488355328) (h2 : a.length + b.length ≤ 9223372036854775807) : app n a b K = K (a ++ b) := by
  unfold app
  rw [cappB, if_pos ⟨h, h2⟩]
theorem idx_case (hz : i ≤ l.length) : i = l.length ∨ ∃ x, l[i]? = some x := by
  by_cases h : i < l.length
  · exact .inr ⟨l[i], List.getElem?_eq_getElem h⟩
  · exact .inl (by omega)
/-- slices.IndexFunc. -/
theorem any_loop (l : List α) (p : α → Bool) (g : α → Option Bool) (F : Nat → Int → Option Int) (hl : l.length < 1000000)
    (hF : ∀ j i, F (j + 1) i = bif decide (i < ((l.length : Nat) : Int)) then (idx d l i fun o => (g o).bind fun o2 => bif o2 then some i else F j (IntKind.wrap .i64 (i + 1))) else some (-1))
    (hg : ∀ x ∈ l, g x = some (p x)) : ∀ (j i : Nat), l.length < i + j → i ≤ l.length → ∃ r, F j (i : Int) = some r ∧ decide (r ≥ 0) = (l.drop i).any p
  | 0, i, h, hi => by omega
  | j + 1, i, h, hi => by
    rw [hF]
    rcases idx_case hi with rfl | ⟨x, hx⟩
    · rw [lt_end, List.drop_length]
      exact ⟨_, rfl, rfl⟩
    · rw [lt_at hx, idx_at hx, hg x (at_mem hx), Option.bind_some, suc_at hx hl, at_drop hx, List.any_cons]
      cases p x with
      | true => exact ⟨_, rfl, by simp⟩
      | false => exact any_loop l p g F hl hF hg j (i + 1) (by omega) (by have := at_lt hx; omega)
theorem any_all (l : List α) (p : α → Bool) : l.any (fun x => !p x) = !(l.all p) := by
  induction l with
  | nil => rfl
  | cons x r ih => rw [List.any_cons, List.all_cons, ih, Bool.not_and]
/-- A loop that ends early at one that is not right. -/
theorem all_loop (l : List α) (p : α → Bool) (F : Nat → Int → Option R) (e r : Option R)
    (h1 : ∀ j i x, l[i]? = some x → F (j + 1) ((i : Nat) : Int) = if p x then F j ((i + 1 : Nat) : Int) else e) (h0 : ∀ j, F (j + 1) ((l.length : Nat) : Int) = r) :
    ∀ (j i : Nat), l.length < i + j → i ≤ l.length → F j (i : Int) = if (l.drop i).all p then r else e
  | 0, i, h, hi => by omega
  | j + 1, i, h, hi => by
    rcases idx_case hi with rfl | ⟨x, hx⟩
    · rw [h0, List.drop_length]
      rfl
    · rw [h1 j i x hx, at_drop hx, List.all_cons]
      cases p x with
      | true => exact all_loop l p F e r h1 h0 j (i + 1) (by omega) (by have := at_lt hx; omega)
      | false => rfl
theorem all_loop0 (l : List α) (p : α → Bool) (F : Nat → Int → Option R) (e r : Option R)
    (h1 : ∀ j i x, l[i]? = some x → F (j + 1) ((i : Nat) : Int) = if p x then F j ((i + 1 : Nat) : Int) else e) (h0 : ∀ j, F (j + 1) ((l.length : Nat) : Int) = r) (j : Nat) (h : l.length < j) :
    F j 0 = if l.all p then r else e := all_loop l p F e r h1 h0 j 0 (by omega) (by omega)
theorem ex_loop (l : List α) (P : α → Prop) (Q : Prop) (F : Nat → Int → Option Bool)
    (h1 : ∀ j i x, l[i]? = some x → ∃ b : Bool, F (j + 1) ((i : Nat) : Int) = (if b then F j ((i + 1 : Nat) : Int) else some false) ∧ (b = true → P x))
    (h0 : ∀ j, ∃ b : Bool, F (j + 1) ((l.length : Nat) : Int) = some b ∧ (b = true → Q)) :
    ∀ (j i : Nat), l.length < i + j → i ≤ l.length → ∃ b : Bool, F j (i : Int) = some b ∧ (b = true → (∀ x ∈ l.drop i, P x) ∧ Q)
  | 0, i, h, hi => by omega
  | j + 1, i, h, hi => by
    rcases idx_case hi with rfl | ⟨x, hx⟩
    · obtain ⟨b, e, hb⟩ := h0 j
      exact ⟨b, e, fun h => ⟨by simp, hb h⟩⟩
    · obtain ⟨b, e, hb⟩ := h1 j i x hx
      rw [e]
      cases b with
      | false => exact ⟨false, rfl, fun h => by cases h⟩
      | true =>
        obtain ⟨c, e2, hc⟩ := ex_loop l P Q F h1 h0 j (i + 1) (by omega) (by have := at_lt hx; omega)
        refine ⟨c, e2, fun h => ?_⟩
        rw [at_drop hx]
        exact ⟨fun y hy => by rcases List.mem_cons.1 hy with rfl | hy; exact hb rfl; exact (hc h).1 y hy, (hc h).2⟩
theorem ex_loop0 (l : List α) (P : α → Prop) (Q : Prop) (F : Nat → Int → Option Bool)
    (h1 : ∀ j i x, l[i]? = some x → ∃ b : Bool, F (j + 1) ((i : Nat) : Int) = (if b then F j ((i + 1 : Nat) : Int) else some false) ∧ (b = true → P x))
    (h0 : ∀ j, ∃ b : Bool, F (j + 1) ((l.length : Nat) : Int) = some b ∧ (b = true → Q)) (j : Nat) (h : l.length < j) :
    ∃ b : Bool, F j 0 = some b ∧ (b = true → (∀ x ∈ l, P x) ∧ Q) := ex_loop l P Q F h1 h0 j 0 (by omega) (by omega)
/-- A loop that puts texts behind a text. -/
theorem app_loop (M : Nat) (l : List α) (f : α → List β) (F : Nat → Int → List β → Option R) (r : List β → Option R)
    (h1 : ∀ j i x b, l[i]? = some x → b.length + (f x).length ≤ M → F (j + 1) ((i : Nat) : Int) b = F j ((i + 1 : Nat) : Int) (b ++ f x)) (h0 : ∀ j b, b.length ≤ M → F (j + 1) ((l.length : Nat) : Int) b = r b) :
    ∀ (j i : Nat) (b : List β), l.length < i + j → i ≤ l.length → b.length + ((l.drop i).flatMap f).length ≤ M → F j (i : Int) b = r (b ++ (l.drop i).flatMap f)
  | 0, i, b, h, hi, hb => by omega
  | j + 1, i, b, h, hi, hb => by
    rcases idx_case hi with rfl | ⟨x, hx⟩
    · rw [h0 _ _ (by omega), List.drop_length]
      simp
    · rw [at_drop hx, List.flatMap_cons, List.length_append] at hb
      rw [h1 j i x b hx (by omega), app_loop M l f F r h1 h0 j (i + 1) (b ++ f x) (by omega) (by have := at_lt hx; omega) (by rw [List.length_append]; omega), at_drop hx, List.flatMap_cons, List.append_assoc]
theorem app_loop0 (M : Nat) (l : List α) (f : α → List β) (F : Nat → Int → List β → Option R) (r : List β → Option R)
    (h1 : ∀ j i x b, l[i]? = some x → b.length + (f x).length ≤ M → F (j + 1) ((i : Nat) : Int) b = F j ((i + 1 : Nat) : Int) (b ++ f x)) (h0 : ∀ j b, b.length ≤ M → F (j + 1) ((l.length : Nat) : Int) b = r b)
    (j : Nat) (b : List β) (h : l.length < j) (hb : b.length + (l.flatMap f).length ≤ M) : F j 0 b = r (b ++ l.flatMap f) :=
  app_loop M l f F r h1 h0 j 0 b (by omega) (by omega) hb
theorem flatMap_le (f : α → List β) (m : Nat) : ∀ (l : List α), (∀ x ∈ l, (f x).length ≤ m) → (l.flatMap f).length ≤ l.length * m
  | [], _ => by simp
  | x :: r, h => by
    have := h x (by simp)
    have IH := flatMap_le f m r fun y hy => h y (by simp [hy])
    rw [List.flatMap_cons, List.length_append, List.length_cons, Nat.add_mul]
    omega
end
end Go.Proofs.YtipcabmhdokfjaaGreatDoorV

/-! Lexing, as plain Lean: what the tokens of bytes are. -/
set_option linter.unusedVariables false
set_option linter.unusedSimpArgs false
namespace Go.Proofs.YtipcabmhdokfjaaGreatDoorV
open Go Go.RowKit

abbrev Tk := (Int) × ((List Int) × ((Int) × ((Int) × (Unit))))
def isSmall (x : Int) : Bool := decide (97 ≤ x) && decide (x ≤ 122)
def isDig (x : Int) : Bool := decide (48 ≤ x) && decide (x ≤ 57)
def isBlank (x : Int) : Bool := decide (x = 32 ∨ x = 9 ∨ x = 10 ∨ x = 13)
def isSign (x : Int) : Bool := decide (x = 123 ∨ x = 125 ∨ x = 44 ∨ x = 59 ∨ x = 58 ∨ x = 47 ∨ x = 45)
def isWord (x : Int) : Bool := isSmall x || (isDig x || decide (x = 95))
/-- What follows blanks and remarks (true: in a remark). -/
def drp : Bool → List Int → List Int
  | _, [] => []
  | true, x :: r => if x = 10 then drp false r else drp true r
  | false, x :: r => if x = 35 then drp true r else if isBlank x then drp false r else x :: r
def valD (l : List Int) : Int := l.foldl (fun v c => 10 * v + (c - 48)) 0
/-- One token: an error, or its kind, its text, its number, and what follows. -/
def tok1 : List Int → Int × Int × List Int × Int × List Int
  | [] => (40, 0, [], 0, [])
  | x :: r =>
    if isSmall x then (if 24 < ((x :: r).takeWhile isWord).length then (4, 0, [], 0, []) else (0, 1, (x :: r).takeWhile isWord, 0, (x :: r).dropWhile isWord))
    else if isDig x then (if 18 < ((x :: r).takeWhile isDig).length then (4, 0, [], 0, []) else (0, 2, (x :: r).takeWhile isDig, valD ((x :: r).takeWhile isDig), (x :: r).dropWhile isDig))
    else if isSign x then (0, 3, [x], 0, r)
    else (40, 0, [], 0, [])
/-- The tokens of what is left of n bytes: error, place, tokens. -/
def lx (n : Nat) : Nat → List Int → Int × Int × List Tk
  | 0, _ => (0, 0, [])
  | f + 1, s => match drp false s with
    | [] => (0, 0, [(0, [], 0, (n : Int), ())])
    | x :: r => if (tok1 (x :: r)).1 = 0 then
        (if (lx n f (tok1 (x :: r)).2.2.2.2).1 = 0 then
          (0, 0, ((tok1 (x :: r)).2.1, (tok1 (x :: r)).2.2.1, (tok1 (x :: r)).2.2.2.1, ((n - (x :: r).length : Nat) : Int), ()) :: (lx n f (tok1 (x :: r)).2.2.2.2).2.2)
        else ((lx n f (tok1 (x :: r)).2.2.2.2).1, (lx n f (tok1 (x :: r)).2.2.2.2).2.1, []))
      else ((tok1 (x :: r)).1, ((n - (x :: r).length : Nat) : Int), [])
/-- The tokens of bytes. -/
def toks (b : List Int) : Int × Int × List Tk := if 65536 < b.length then (4, 65536, []) else lx b.length (b.length + 1) b

theorem drp_suf : ∀ (m : Bool) (s : List Int), drp m s <:+ s
  | _, [] => by cases ‹Bool› <;> simp [drp]
  | true, x :: r => by
    rw [drp]; split
    · exact (drp_suf false r).trans (List.suffix_cons x r)
    · exact (drp_suf true r).trans (List.suffix_cons x r)
  | false, x :: r => by
    rw [drp]; split
    · exact (drp_suf true r).trans (List.suffix_cons x r)
    · split
      · exact (drp_suf false r).trans (List.suffix_cons x r)
      · exact List.suffix_refl _
theorem drp_len (m : Bool) (s : List Int) : (drp m s).length ≤ s.length := (drp_suf m s).length_le
theorem drp_head : ∀ (m : Bool) (s : List Int) {x : Int} {r : List Int}, drp m s = x :: r → x ≠ 35 ∧ isBlank x = false
  | _, [], x, r, h => by cases ‹Bool› <;> simp [drp] at h
  | true, y :: q, x, r, h => by
    rw [drp] at h; split at h
    · exact drp_head false q h
    · exact drp_head true q h
  | false, y :: q, x, r, h => by
    rw [drp] at h; split at h
    · exact drp_head true q h
    · split at h
      · exact drp_head false q h
      · rename_i h1 h2
        cases h
        exact ⟨h1, by simpa using h2⟩
theorem drp_drp (s : List Int) (m : Bool) : drp false (drp m s) = drp m s := by
  cases h : drp m s with
  | nil => rfl
  | cons x r =>
    obtain ⟨h1, h2⟩ := drp_head m s h
    rw [drp, if_neg h1, h2]
    rfl

theorem takeWhile_append_stop {p : Int → Bool} {c : Int} (h : p c = false) : ∀ (l b : List Int), (l ++ c :: b).takeWhile p = l.takeWhile p
  | [], b => by simp [h]
  | x :: l, b => by
    rw [List.cons_append, List.takeWhile_cons, List.takeWhile_cons, takeWhile_append_stop h l b]
theorem dropWhile_append_stop {p : Int → Bool} {c : Int} (h : p c = false) : ∀ (l b : List Int), (l ++ c :: b).dropWhile p = l.dropWhile p ++ c :: b
  | [], b => by simp [h]
  | x :: l, b => by
    rw [List.cons_append, List.dropWhile_cons, List.dropWhile_cons]
    split
    · exact dropWhile_append_stop h l b
    · rfl
theorem word_dig {c : Int} (h : isWord c = false) : isDig c = false := by
  unfold isWord at h
  simp only [Bool.or_eq_false_iff] at h
  exact h.2.1
/-- A token, whatever follows behind something that is no part of it. -/
theorem tok1_app {c : Int} (hc : isWord c = false) {x : Int} {r b : List Int} (h : (tok1 (x :: r)).1 = 0) :
    tok1 (x :: r ++ c :: b) = (0, (tok1 (x :: r)).2.1, (tok1 (x :: r)).2.2.1, (tok1 (x :: r)).2.2.2.1, (tok1 (x :: r)).2.2.2.2 ++ c :: b) := by
  have e1 := takeWhile_append_stop hc (x :: r) b
  have e2 := dropWhile_append_stop hc (x :: r) b
  have e3 := takeWhile_append_stop (word_dig hc) (x :: r) b
  have e4 := dropWhile_append_stop (word_dig hc) (x :: r) b
  rw [List.cons_append] at e1 e2 e3 e4 ⊢
  simp only [tok1] at h ⊢
  rw [e1, e2, e3, e4]
  split at h
  · rename_i h1
    simp only [h1, if_true]
    split at h
    · simp at h
    · rename_i h2; simp only [if_neg h2]
  · rename_i h1
    simp only [h1, Bool.false_eq_true, if_false]
    split at h
    · rename_i h2
      simp only [h2, if_true]
      split at h
      · simp at h
      · rename_i h3; simp only [if_neg h3]
    · rename_i h2
      simp only [h2, Bool.false_eq_true, if_false]
      split at h
      · rename_i h3; simp [h3]
      · simp at h
theorem tok1_err {c : Int} (hc : isWord c = false) {x : Int} {r b : List Int} (h : (tok1 (x :: r)).1 ≠ 0) : tok1 (x :: r ++ c :: b) = tok1 (x :: r) := by
  have e1 := takeWhile_append_stop hc (x :: r) b
  have e3 := takeWhile_append_stop (word_dig hc) (x :: r) b
  rw [List.cons_append] at e1 e3 ⊢
  simp only [tok1] at h ⊢
  rw [e1, e3]
  split at h
  · rename_i h1
    simp only [h1, if_true]
    split at h
    · rename_i h2; simp only [if_pos h2]
    · simp at h
  · rename_i h1
    simp only [h1, Bool.false_eq_true, if_false]
    split at h
    · rename_i h2
      simp only [h2, if_true]
      split at h
      · rename_i h3; simp only [if_pos h3]
      · simp at h
    · rename_i h2
      simp only [h2, Bool.false_eq_true, if_false]
      split at h
      · simp at h
      · rename_i h3; simp [h3]
/-- What a token is. -/
theorem tok1_spec {x : Int} {r : List Int} (h : (tok1 (x :: r)).1 = 0) :
    (tok1 (x :: r)).2.2.1 ++ (tok1 (x :: r)).2.2.2.2 = x :: r ∧ (tok1 (x :: r)).2.2.1 ≠ [] ∧ (tok1 (x :: r)).2.1 ≠ 0 ∧ (tok1 (x :: r)).2.2.1.length ≤ 24 := by
  simp only [tok1] at h ⊢
  split at h
  · rename_i h1
    simp only [h1, if_true]
    split at h
    · simp at h
    · rename_i h2
      rw [if_neg h2]
      refine ⟨List.takeWhile_append_dropWhile, ?_, by simp, by simp only []; omega⟩
      have : isWord x = true := by simp [isWord, h1]
      simp [List.takeWhile_cons, this]
  · rename_i h1
    simp only [h1, Bool.false_eq_true, if_false]
    split at h
    · rename_i h2
      simp only [h2, if_true]
      split at h
      · simp at h
      · rename_i h3
        rw [if_neg h3]
        refine ⟨List.takeWhile_append_dropWhile, ?_, by simp, by simp only []; omega⟩
        simp [List.takeWhile_cons, h2]
    · rename_i h2
      simp only [h2, Bool.false_eq_true, if_false]
      split at h
      · rename_i h3; simp [h3]
      · simp at h
theorem tok1_rest {x : Int} {r : List Int} (h : (tok1 (x :: r)).1 = 0) : (tok1 (x :: r)).2.2.2.2.length ≤ r.length := by
  obtain ⟨h1, h2, _⟩ := tok1_spec h
  have e := congrArg List.length h1
  rw [List.length_append, List.length_cons] at e
  have : (tok1 (x :: r)).2.2.1.length ≠ 0 := fun h => h2 (List.length_eq_zero_iff.1 h)
  omega

theorem lx_fuel (n : Nat) : ∀ (f f' : Nat) (s : List Int), s.length < f → s.length < f' → lx n f s = lx n f' s
  | 0, _, _, h, _ => by omega
  | _ + 1, 0, _, _, h => by omega
  | f + 1, f' + 1, s, h, h' => by
    have hl := drp_len false s
    rw [lx, lx]
    cases hd : drp false s with
    | nil => rfl
    | cons x r =>
      rw [hd, List.length_cons] at hl
      simp only []
      by_cases h0 : (tok1 (x :: r)).1 = 0
      · have := tok1_rest h0
        rw [if_pos h0, if_pos h0, lx_fuel n f f' _ (by omega) (by omega)]
      · rw [if_neg h0, if_neg h0]
theorem lx_err (n : Nat) : ∀ (f : Nat) (s : List Int), (lx n f s).1 = 0 → (lx n f s).2.1 = 0
  | 0, s, _ => rfl
  | f + 1, s, h => by
    rw [lx] at h ⊢
    cases hd : drp false s with
    | nil => rfl
    | cons x r =>
      rw [hd] at h
      simp only [] at h ⊢
      split at h
      · rename_i h0
        rw [if_pos h0]
        split at h
        · rename_i h1; rw [if_pos h1]
        · rename_i h1; exact absurd h h1
      · rename_i h0; exact absurd h h0
end Go.Proofs.YtipcabmhdokfjaaGreatDoorV

/-! Lexing: the program's functions are the plain ones. -/
set_option linter.unusedVariables false
set_option linter.unusedSimpArgs false
namespace Go.Proofs.YtipcabmhdokfjaaGreatDoorV
open Go Go.RowKit

/-- What kind a byte is. -/
def kdS (a : Int) : Int := if isSmall a then 3 else if isDig a then 4 else if isBlank a then 1 else if a = 35 then 2 else if a = 95 then 6 else if isSign a then 5 else 0
theorem kind_some (k : Nat) (a : Int) : clexkind k a = some (kdS a) := by
  skip 
  rw [flexkind_e, flexkind_t, flexkind_ej10, flexkind_tj10, flexkind_ej14, flexkind_tj14]
  simp only [cd, cbeq]
  unfold kdS isSmall isDig isBlank isSign
  simp only [Bool.and_eq_true, decide_eq_true_eq]
  repeat' (first | (exfalso; omega) | (refine iteS (fun _ => ?_) (fun _ => ?_)))
  all_goals (refine congrArg some ?_; repeat' (first | rfl | (exfalso; omega) | (refine iteR (fun _ => ?_) (fun _ => ?_))))
theorem kd1 (a : Int) : kdS a = 1 ↔ isBlank a = true := by
  unfold kdS isSmall isDig isBlank isSign
  simp only [Bool.and_eq_true, decide_eq_true_eq]
  repeat' split
  all_goals first | omega
theorem kd2 (a : Int) : kdS a = 2 ↔ a = 35 := by
  unfold kdS isSmall isDig isBlank isSign
  simp only [Bool.and_eq_true, decide_eq_true_eq]
  repeat' split
  all_goals first | omega
theorem kd3 (a : Int) : kdS a = 3 ↔ isSmall a = true := by
  unfold kdS isSmall isDig isBlank isSign
  simp only [Bool.and_eq_true, decide_eq_true_eq]
  repeat' split
  all_goals first | omega
theorem kd4 (a : Int) : kdS a = 4 ↔ isDig a = true := by
  unfold kdS isSmall isDig isBlank isSign
  simp only [Bool.and_eq_true, decide_eq_true_eq]
  repeat' split
  all_goals first | omega
theorem kd5 (a : Int) : kdS a = 5 ↔ isSign a = true := by
  unfold kdS isSmall isDig isBlank isSign
  simp only [Bool.and_eq_true, decide_eq_true_eq]
  repeat' split
  all_goals first | omega
theorem kd6 (a : Int) : kdS a = 6 ↔ a = 95 := by
  unfold kdS isSmall isDig isBlank isSign
  simp only [Bool.and_eq_true, decide_eq_true_eq]
  repeat' split
  all_goals first | omega

theorem kind_at (k : Nat) (b : List Int) (i : Nat) (h : i < b.length) : clexs_kind k (b, (i : Int)) = some (kdS (b.getD i 0), b, (i : Int)) := by
  skip 
  rw [flexs_kind_e, flexs_kind_t, cinB, if_pos (by omega), rdI_nat, kind_some]; rfl
theorem kindA_at (k : Nat) (b : List Int) (i : Nat) (h : i < b.length) : clexs_kind'1 k (b, (i : Int)) = some (kdS (b.getD i 0)) := by
  skip 
  rw [flexs_kind'1_e, flexs_kind'1_t, cinB, if_pos (by omega), rdI_nat, kind_some]; rfl

/-- The first place of a value. -/
def fstI (v : Int) : List Int → Option Nat
  | [] => none
  | x :: r => if v = x then some 0 else (fstI v r).map (· + 1)
theorem index_loop (k : Nat) (l : List Int) (v : Int) (hl : l.length < 9223372036854775807) : ∀ (j i : Nat), i ≤ l.length → l.length - i < j →
    (fixs_byte k).L 2 [] j (fixs_byte_s2 (l, v, (l.length : Int), (i : Int))) = some (match fstI v (l.drop i) with | some n => ((i + n : Nat) : Int) | none => -1)
  | 0, i, _, h => by omega
  | j + 1, i, hi, h => by
    rw [fixs_byte_el2, fixs_byte_tl2, cd, cinB, rdI_nat]
    by_cases hlt : i < l.length
    · rw [if_pos (by omega), if_pos (by omega), drop_getD hlt, fstI, cbeq]
      split
      · rfl
      · rw [w64 (by omega), suc_nat, index_loop k l v hl j (i + 1) (by omega) (by omega)]
        cases fstI v (l.drop (i + 1)) with
        | none => rfl
        | some n => simp only [Option.map_some]; congr 2; omega
    · have hi2 : i = l.length := by omega
      rw [if_neg (by omega)]
      subst hi2
      simp [fstI]
theorem index_some (k : Nat) (l : List Int) (v : Int) (hk : l.length < k) (hl : l.length < 9223372036854775807) : cixs_byte k (l, v) = some (match fstI v l with | some n => (n : Int) | none => -1) := by
  skip 
  rw [fixs_byte_e, fixs_byte_t]
  have := index_loop k l v hl k 0 (by omega) (by omega)
  simpa using this
theorem fst_nl : ∀ (s : List Int), drp true s = match fstI 10 s with | some n => drp false (s.drop n) | none => []
  | [] => rfl
  | x :: r => by
    rw [drp, fstI]
    by_cases h : x = 10
    · subst h; simp [drp, isBlank]
    · rw [if_neg h, if_neg (fun e => h e.symm), fst_nl r]
      cases fstI 10 r <;> rfl
theorem fstI_lt {v : Int} : ∀ {l : List Int} {n : Nat}, fstI v l = some n → n < l.length ∧ l.getD n 0 = v
  | [], n, h => by cases h
  | x :: r, n, h => by
    simp only [fstI] at h
    split at h
    · rename_i e; cases h; exact ⟨by simp, by simp [e]⟩
    · obtain ⟨m, hm, rfl⟩ := Option.map_eq_some_iff.1 h
      have := fstI_lt hm
      exact ⟨by simp; omega, by simpa using this.2⟩

/-- Where what is left begins. -/
def posOf (b : List Int) (s : List Int) : Nat := b.length - s.length
theorem skip_loop (k : Nat) (b : List Int) (hk : b.length < k) (hl : b.length < 1000000) : ∀ (j i : Nat), i ≤ b.length → b.length - i < j → (flexs_skip k).L 0 [] j (flexs_skip_s0 (b, (i : Int))) = some (b, ((b.length - (drp false (b.drop i)).length : Nat) : Int))
  | 0, i, _, h => by omega
  | j + 1, i, hi, h => by
    rw [flexs_skip_el0, flexs_skip_tl0, cd]
    by_cases hlt : i < b.length
    · rw [if_pos (by omega), kind_at k b i hlt, Option.bind_some]
      dsimp only
      rw [cbeq, cbeq, ccutB, if_pos (by omega : (0 : Int) ≤ i ∧ (i : Int) ≤ ((b.length : Nat) : Int) ∧ ((b.length : Nat) : Int) ≤ ((b.length : Nat) : Int)), cutL_nat, List.take_length, drop_getD hlt]
      simp only [kd1, kd2, drp]
      split
      · rename_i h2
        rw [fst_nl, ← drop_getD hlt, index_some k _ _ (by rw [List.length_drop]; omega) (by rw [List.length_drop]; omega), Option.bind_some, drop_getD hlt, fstI, if_neg (by omega)]
        cases hf : fstI 10 (b.drop (i + 1)) with
        | none =>
          simp only [Option.map_none, cd]
          rw [if_neg (by omega), skip_loop k b hk hl j b.length (Nat.le_refl _) (by omega)]
          simp [drp]
        | some n =>
          obtain ⟨n1, n2⟩ := fstI_lt hf
          rw [List.length_drop] at n1
          simp only [Option.map_some, cd]
          have hpos : ((n + 1 : Nat) : Int) ≥ 0 := by omega
          have hw : -9223372036854775808 ≤ (i : Int) + ((n + 1 : Nat) : Int) ∧ (i : Int) + ((n + 1 : Nat) : Int) ≤ 9223372036854775807 := by omega
          rw [if_pos hpos, w64 hw, show ((i : Int) + ((n + 1 : Nat) : Int)) = ((i + (n + 1) : Nat) : Int) by simp, skip_loop k b hk hl j (i + (n + 1)) (by omega) (by omega), List.drop_drop]
          rw [show i + 1 + n = i + (n + 1) by omega]
      · split
        · rw [w64 (by omega), suc_nat]
          exact skip_loop k b hk hl j (i + 1) (by omega) (by omega)
        · rw [← drop_getD hlt, List.length_drop]
          congr 3
          omega
    · rw [if_neg (by omega), List.drop_eq_nil_of_le (by omega)]
      simp [drp]
      omega
theorem skip_some (k : Nat) (b : List Int) (hk : b.length < k) (hl : b.length < 1000000) (i : Nat) (hi : i ≤ b.length) : clexs_skip k (b, (i : Int)) = some (b, ((b.length - (drp false (b.drop i)).length : Nat) : Int)) := by
  skip 
  rw [flexs_skip_e, flexs_skip_t, skip_loop k b hk hl k i hi (by omega)]

/-- Passing bytes as long as they may be passed. -/
theorem pass_loop (k : Nat) (b : List Int) (g : Int → Option Bool) (p : Int → Bool) (hg : ∀ x, g (kdS x) = some (p x)) (L : Nat → Int → List Int → Int → Option (List Int × List Int × Int))
    (hL : ∀ j a0 a1 a2, L (j + 1) a0 a1 a2 = bif (decide (a2 < ((List.length a1 : Nat) : Int))) then ((clexs_kind'1 k (a1, a2)).bind fun o1 => (g o1).bind fun o2 => bif o2 then L j a0 a1 (IntKind.wrap .i64 (a2 + (1 : Int))) else (bif (cutB a0 a2 (List.length a1)) then some ((cutL a1 a0 a2), a1, a2) else none)) else (bif (cutB a0 a2 (List.length a1)) then some ((cutL a1 a0 a2), a1, a2) else none)) (hl : b.length < 1000000) (s : Nat) :
    ∀ (j i : Nat), s ≤ i → i ≤ b.length → b.length - i < j → L j (s : Int) b (i : Int) = some ((b.take (i + ((b.drop i).takeWhile p).length)).drop s, b, ((i + ((b.drop i).takeWhile p).length : Nat) : Int))
  | 0, i, _, _, h => by omega
  | j + 1, i, hs, hi, h => by
    rw [hL, cd]
    by_cases hlt : i < b.length
    · rw [if_pos (by omega), kindA_at k b i hlt, Option.bind_some, hg, Option.bind_some, drop_getD hlt, List.takeWhile_cons]
      cases hp : p (b.getD i 0) with
      | true =>
        rw [cond_true, w64 (by omega), suc_nat, pass_loop k b g p hg L hL hl s j (i + 1) (by omega) (by omega) (by omega)]
        simp only [if_true, List.length_cons]
        rw [show i + 1 + ((b.drop (i + 1)).takeWhile p).length = i + (((b.drop (i + 1)).takeWhile p).length + 1) by omega]
      | false =>
        rw [cond_false, ccutB, if_pos (by omega), cutL_nat]
        simp
    · rw [if_neg (by omega), ccutB, if_pos (by omega), cutL_nat, @List.drop_eq_nil_of_le _ b i (by omega)]
      simp
theorem take_drop_while (p : Int → Bool) (b : List Int) (i : Nat) : (b.take (i + ((b.drop i).takeWhile p).length)).drop i = (b.drop i).takeWhile p := by
  rw [List.drop_take]
  simp only [Nat.add_sub_cancel_left]
  exact (List.prefix_iff_eq_take.1 (List.takeWhile_prefix p)).symm
theorem pass_word (k : Nat) (b : List Int) (hk : b.length < k) (hl : b.length < 1000000) (i : Nat) (hi : i ≤ b.length) :
    clexs_pass k (b, (i : Int)) = some ((b.drop i).takeWhile isWord, b, ((i + ((b.drop i).takeWhile isWord).length : Nat) : Int)) := by
  have := pass_loop k b (clexs_word_1 k) isWord (fun x => by
    skip 
    rw [flexs_word_1_e, flexs_word_1_t, cbeq, cbeq]
    unfold isWord
    have h6 : (kdS x == 6) = decide (x = 95) := by
      rw [Bool.eq_iff_iff]; simp [kd6]
    rw [h6]
    simp only [kd3, kd4]
    cases isSmall x <;> cases isDig x <;> simp) (fun j a0 a1 a2 => (flexs_pass k).L 2 [] j (flexs_pass_s2 (a0, a1, a2))) (fun j a0 a1 a2 => flexs_pass_el2 k j (a0, a1, a2)) hl i k i (Nat.le_refl _) (by omega) (by omega)
  skip 
  rw [flexs_pass_e, flexs_pass_t]
  rw [take_drop_while] at this
  exact this
theorem pass_num (k : Nat) (b : List Int) (hk : b.length < k) (hl : b.length < 1000000) (i : Nat) (hi : i ≤ b.length) :
    clexs_pass'1 k (b, (i : Int)) = some ((b.drop i).takeWhile isDig, b, ((i + ((b.drop i).takeWhile isDig).length : Nat) : Int)) := by
  have := pass_loop k b (clexs_number_1 k) isDig (fun x => by
    skip 
    rw [flexs_number_1_e, flexs_number_1_t]
    congr 1
    rw [Bool.eq_iff_iff]; simp [kd4]) (fun j a0 a1 a2 => (flexs_pass'1 k).L 2 [] j (flexs_pass'1_s2 (a0, a1, a2))) (fun j a0 a1 a2 => flexs_pass'1_el2 k j (a0, a1, a2)) hl i k i (Nat.le_refl _) (by omega) (by omega)
  skip 
  rw [flexs_pass'1_e, flexs_pass'1_t]
  rw [take_drop_while] at this
  exact this

theorem mem_tw {p : Int → Bool} : ∀ {l : List Int} {x : Int}, x ∈ l.takeWhile p → p x = true
  | [], x, h => by simp at h
  | y :: l, x, h => by
    rw [List.takeWhile_cons] at h
    split at h
    · rename_i hp
      rcases List.mem_cons.1 h with rfl | h
      · exact hp
      · exact mem_tw h
    · cases h
/-! #### a number of 18 digits at most -/
theorem parseU_ok : ∀ (l : List Int) (acc m : Nat), acc < 10 ^ m → m + l.length ≤ 18 → (∀ c ∈ l, isDig c = true) →
    ∃ u : Nat, Lib.parseUintM (2 ^ 64 - 1) acc (u8s l) = .ok u ∧ u < 10 ^ 18 ∧ (u : Int) = l.foldl (fun v c => 10 * v + (c - 48)) (acc : Int)
  | [], acc, m, h1, h2, _ => ⟨acc, rfl, Nat.lt_of_lt_of_le h1 (Nat.pow_le_pow_right (by decide) (by simpa using h2)), rfl⟩
  | c :: r, acc, m, h1, h2, h3 => by
    have hc := h3 c (by simp)
    unfold isDig at hc
    simp only [Bool.and_eq_true, decide_eq_true_eq] at hc
    have hu : (UInt8.ofNat c.toNat).toNat = c.toNat := by rw [UInt8.toNat_ofNat']; omega
    have hm : m ≤ 17 := by simp at h2; omega
    have ha : acc < 10 ^ 17 := Nat.lt_of_lt_of_le h1 (Nat.pow_le_pow_right (by decide) hm)
    have hb : acc * 10 + (c.toNat - 48) < 10 ^ (m + 1) := by
      rw [Nat.pow_succ]
      omega
    have hb2 : acc * 10 + (c.toNat - 48) < 10 ^ 18 := Nat.lt_of_lt_of_le hb (Nat.pow_le_pow_right (by decide) (by omega))
    obtain ⟨u, e1, e2, e3⟩ := parseU_ok r (acc * 10 + (c.toNat - 48)) (m + 1) hb (by simp at h2; omega) fun x hx => h3 x (by simp [hx])
    refine ⟨u, ?_, e2, ?_⟩
    · show Lib.parseUintM _ _ (UInt8.ofNat c.toNat :: u8s r) = _
      simp only [Lib.parseUintM]
      rw [hu, if_pos (by omega), if_neg (by omega), if_neg (by omega)]
      exact e1
    · rw [e3, List.foldl_cons]
      congr 1
      omega
theorem valD_lt : ∀ (l : List Int) (acc : Int) (m : Nat), 0 ≤ acc → acc < 10 ^ m → (∀ c ∈ l, isDig c = true) → 0 ≤ l.foldl (fun v c => 10 * v + (c - 48)) acc ∧ l.foldl (fun v c => 10 * v + (c - 48)) acc < 10 ^ (m + l.length)
  | [], acc, m, h0, h1, _ => ⟨h0, by simpa using h1⟩
  | c :: r, acc, m, h0, h1, h3 => by
    have hc := h3 c (by simp)
    unfold isDig at hc
    simp only [Bool.and_eq_true, decide_eq_true_eq] at hc
    have := valD_lt r (10 * acc + (c - 48)) (m + 1) (by omega) (by rw [Int.pow_succ]; omega) fun x hx => h3 x (by simp [hx])
    rw [List.foldl_cons, List.length_cons, show m + (r.length + 1) = m + 1 + r.length by omega]
    exact this
theorem parseInt_digits {l : List Int} (h0 : l ≠ []) (h1 : l.length ≤ 18) (h2 : ∀ x ∈ l, isDig x = true) : parseInt (l, 10, 64) = some (valD l, true) := by
  unfold parseInt
  rw [if_pos ⟨rfl, rfl, by simp only; omega⟩]
  obtain ⟨u, hu, hlt, hv⟩ := parseU_ok l 0 0 (by decide) (by simpa using h1) h2
  have : Lib.parseIntB 64 (u8s l) = .ok (u : Int) := by
    cases l with
    | nil => exact absurd rfl h0
    | cons x r =>
      have hc := h2 x (by simp)
      unfold isDig at hc
      simp only [Bool.and_eq_true, decide_eq_true_eq] at hc
      have hx : (UInt8.ofNat x.toNat).toNat = x.toNat := by rw [UInt8.toNat_ofNat']; omega
      have hl : u8s (x :: r) = UInt8.ofNat x.toNat :: u8s r := rfl
      rw [hl] at hu ⊢
      have e1 : ¬ ((UInt8.ofNat x.toNat).toNat = 43 ∨ (UInt8.ofNat x.toNat).toNat = 45) := by omega
      have e2 : ¬ ((UInt8.ofNat x.toNat).toNat = 45) := by omega
      simp only [Lib.parseIntB, Lib.parseUintB, if_neg e1]
      rw [if_neg (by simp), hu]
      simp only [e2]
      rw [if_neg (by simp; omega), if_neg (by simp)]
      simp
  rw [this]
  simp only []
  have hv2 : (u : Int) = valD l := hv
  rw [if_pos, hv2]
  · have h1 : (u : Int) < 10 ^ 18 := by exact_mod_cast hlt
    simp only [Lit.wf, Bool.and_eq_true, decide_eq_true_eq]
    constructor
    · exact Int.le_trans (by decide) (Int.natCast_nonneg u)
    · exact Int.le_trans (Int.le_of_lt h1) (by decide)

/-- The program's token. -/
theorem token_some (k : Nat) (b : List Int) (hk : b.length < k) (hl : b.length < 1000000) (i : Nat) (hi : i < b.length) (hx : b.getD i 0 ≠ 35) (hb : isBlank (b.getD i 0) = false) :
    ∃ q : Int, clexs_token k (b, (i : Int)) = some ((tok1 (b.drop i)).2.1, (tok1 (b.drop i)).2.2.1, (tok1 (b.drop i)).2.2.2.1, 0, (tok1 (b.drop i)).1, b, q) ∧ ((tok1 (b.drop i)).1 = 0 → q = ((b.length - (tok1 (b.drop i)).2.2.2.2.length : Nat) : Int)) := by
  have e0 := drop_getD hi
  have elen : (b.drop i).length = b.length - i := List.length_drop
  skip 
  rw [flexs_token_e, flexs_token_t, kind_at k b i hi, Option.bind_some]
  dsimp only
  rw [cbeq, cbeq, cbeq]
  simp only [kd3, kd4, kd5]
  split
  · rename_i h3
    have hw := List.takeWhile_append_dropWhile (p := isWord) (l := b.drop i)
    have hw2 := congrArg List.length hw
    rw [List.length_append, elen] at hw2
    skip 
    rw [flexs_word_e, flexs_word_t, pass_word k b hk hl i (by omega), Option.bind_some]
    simp only [cd]
    have et : tok1 (b.drop i) = if 24 < ((b.drop i).takeWhile isWord).length then (4, 0, [], 0, []) else (0, 1, (b.drop i).takeWhile isWord, 0, (b.drop i).dropWhile isWord) := by
      rw [e0, tok1, if_pos h3]
    rw [et]
    by_cases h24 : 24 < ((b.drop i).takeWhile isWord).length
    · rw [if_pos (by omega), if_pos h24]
      exact ⟨_, rfl, fun h => by simp at h⟩
    · rw [if_neg (by omega), if_neg h24]
      exact ⟨_, rfl, fun _ => by simp only []; omega⟩
  · rename_i h3
    split
    · rename_i h4
      have hw := List.takeWhile_append_dropWhile (p := isDig) (l := b.drop i)
      have hw2 := congrArg List.length hw
      rw [List.length_append, elen] at hw2
      skip 
      rw [flexs_number_e, flexs_number_t, pass_num k b hk hl i (by omega), Option.bind_some]
      simp only [cd]
      have et : tok1 (b.drop i) = if 18 < ((b.drop i).takeWhile isDig).length then (4, 0, [], 0, []) else (0, 2, (b.drop i).takeWhile isDig, valD ((b.drop i).takeWhile isDig), (b.drop i).dropWhile isDig) := by
        rw [e0, tok1, if_neg h3, if_pos h4]
      rw [et]
      by_cases h18 : 18 < ((b.drop i).takeWhile isDig).length
      · rw [if_pos (by omega), if_pos h18]
        exact ⟨_, rfl, fun h => by simp at h⟩
      · rw [if_neg (by omega), if_neg h18]
        rw [show cstrconvParseInt k ((b.drop i).takeWhile isDig, 10, 64) = some (valD ((b.drop i).takeWhile isDig), true) from parseInt_digits (by rw [e0, List.takeWhile_cons, if_pos h4]; simp) (by omega) (fun x hx => mem_tw hx), Option.bind_some]
        exact ⟨_, rfl, fun _ => by simp only []; omega⟩
    · rename_i h4
      have et : tok1 (b.drop i) = if isSign (b.getD i 0) then (0, 3, [b.getD i 0], 0, b.drop (i + 1)) else (40, 0, [], 0, []) := by
        rw [e0, tok1, if_neg h3, if_neg h4]
      rw [et]
      split
      · rename_i h5
        rw [w64 (n := (i : Int) + 1) (by omega), w64 (by omega), ccutB, if_pos (by omega), suc_nat]
        rw [show (((i + 1 : Nat) : Int) - 1) = (i : Int) by omega, cutL_nat]
        refine ⟨_, ?_, fun _ => rfl⟩
        have e1 : (b.take (i + 1)).drop i = [b.getD i 0] := by
          rw [List.drop_take, e0, show i + 1 - i = 1 by omega]; rfl
        rw [e1]
        congr 7
        simp only [List.length_drop]
        omega
      · exact ⟨_, rfl, fun h => by simp at h⟩

theorem tokens_loop (k : Nat) (b : List Int) (hk : b.length < k) (hl : b.length < 1000000) : ∀ (j i : Nat) (out : List Tk), i ≤ b.length → b.length - i < j → out.length ≤ i →
    (flexTokens k).L 5 [] j (flexTokens_s5 (b, b, (i : Int), out)) = some ((lx b.length j (b.drop i)).1, (lx b.length j (b.drop i)).2.1, if (lx b.length j (b.drop i)).1 = 0 then out ++ (lx b.length j (b.drop i)).2.2 else [])
  | 0, i, out, _, h, _ => by omega
  | j + 1, i, out, hi, h, ho => by
    have hd := drp_len false (b.drop i)
    have hsuf := (drp_suf false (b.drop i)).trans (List.drop_suffix i b)
    rw [List.length_drop] at hd
    rw [flexTokens_el5, flexTokens_tl5, skip_some k b hk hl i hi, Option.bind_some, lx]
    cases hs : drp false (b.drop i) with
    | nil =>
      dsimp only
      rw [List.length_nil, Nat.sub_zero, cbeq, if_pos rfl, cappB, if_pos (by simp only [List.length_cons, List.length_nil]; omega)]
      rfl
    | cons x r =>
      rw [hs] at hd hsuf
      obtain ⟨h35, hbl⟩ := drp_head false _ hs
      have hsuf2 := List.suffix_iff_eq_drop.1 hsuf
      generalize hp : b.length - (x :: r).length = p at *
      have hlen2 : (x :: r).length ≤ b.length := by omega
      have hpl : p < b.length := by rw [List.length_cons] at hd hp; omega
      have hx : b.getD p 0 = x := by
        have := drop_getD hpl
        rw [← hsuf2] at this
        exact (List.cons.inj this).1.symm
      dsimp only
      rw [cbeq, if_neg (by omega)]
      obtain ⟨q, e, hq⟩ := token_some k b hk hl p hpl (by rw [hx]; exact h35) (by rw [hx]; exact hbl)
      rw [← hsuf2] at e hq
      rw [e, Option.bind_some]
      dsimp only
      rw [cbne]
      by_cases h0 : (tok1 (x :: r)).1 = 0
      · have hr := tok1_rest h0
        obtain ⟨s1, s2, s3, s4⟩ := tok1_spec h0
        simp only [if_pos h0]
        rw [cappB, if_pos (by simp only [List.length_cons, List.length_nil]; omega), hq h0]
        rw [List.length_cons] at hd hp
        have hsub : b.drop (b.length - (tok1 (x :: r)).2.2.2.2.length) = (tok1 (x :: r)).2.2.2.2 := by
          have hs3 : (tok1 (x :: r)).2.2.2.2 <:+ b := (List.suffix_append _ _).trans (s1 ▸ hsuf)
          exact (List.suffix_iff_eq_drop.1 hs3).symm
        have := tokens_loop k b hk hl j (b.length - (tok1 (x :: r)).2.2.2.2.length) (out ++ [((tok1 (x :: r)).2.1, ((tok1 (x :: r)).2.2.1, ((tok1 (x :: r)).2.2.2.1, (((p : Nat) : Int), ()))))]) (by omega) (by omega) (by rw [List.length_append]; simp only [List.length_cons, List.length_nil]; omega)
        rw [hsub] at this
        rw [this]
        by_cases h1 : (lx b.length j (tok1 (x :: r)).2.2.2.2).1 = 0
        · have hz := lx_err _ _ _ h1
          simp only [if_pos h1, h1, hz]
          simp
          omega
        · simp only [if_neg h1]
      · simp only [if_neg h0, hp]
theorem tokens_some (k : Nat) (b : List Int) (hk : b.length < k) (hm : b.length < 1000000) : clexTokens k b = some (toks b) := by
  unfold toks
  rw [flexTokens_e, flexTokens_t, cd]
  by_cases hl : 65536 < b.length
  · rw [if_pos (by omega), if_pos hl]
  · rw [if_neg (by omega), if_neg hl, show (0 : Int) = ((0 : Nat) : Int) from rfl, tokens_loop k b hk (by omega) k 0 [] (Nat.zero_le _) (by omega) (Nat.zero_le _)]
    rw [List.drop_zero, lx_fuel _ k (b.length + 1) b (by omega) (by omega), List.nil_append]
    have : ∀ (f : Nat) (s : List Int), (if (lx b.length f s).1 = 0 then (lx b.length f s).2.2 else []) = (lx b.length f s).2.2 := by
      intro f s
      split
      · rfl
      · rename_i h
        cases f with
        | zero => exact absurd rfl h
        | succ f =>
          rw [lx] at h ⊢
          cases hd : drp false s with
          | nil => rw [hd] at h; exact absurd rfl h
          | cons x r =>
            rw [hd] at h
            simp only [] at h ⊢
            split
            · rename_i h0
              rw [if_pos h0] at h
              split
              · rename_i h1; rw [if_pos h1] at h; exact absurd rfl h
              · rfl
            · rfl
    rw [this]
end Go.Proofs.YtipcabmhdokfjaaGreatDoorV

/-! Lexing: the reference's functions are the plain ones; which tokens are right, which words are reserved. -/
set_option linter.unusedVariables false
set_option linter.unusedSimpArgs false
namespace Go.Proofs.YtipcabmhdokfjaaGreatDoorV
open Go Go.RowKit

theorem rskip3 (k : Nat) (b : List Int) (hl : b.length < 1000000) (j1 i0 : Nat) (H : ∀ i, i0 < i → i ≤ b.length → (fr04skip k).L 1 [] j1 (fr04skip_s1 (b, (i : Int))) = some ((b.length - (drp false (b.drop i)).length : Nat) : Int)) :
    ∀ (j i : Nat), i0 < i → i ≤ b.length → b.length - i < j → (fr04skip k).L 3 [j1] j (fr04skip_s3 (b, (i : Int))) = some ((b.length - (drp true (b.drop i)).length : Nat) : Int)
  | 0, i, _, _, h => by omega
  | j + 1, i, h0, hi, h => by
    rw [fr04skip_el3, fr04skip_tl3, cd, cinB, cbne, rdI_nat]
    by_cases hlt : i < b.length
    · rw [if_pos (by omega), if_pos (by omega), drop_getD hlt, drp]
      by_cases hn : b.getD i 0 = 10
      · rw [if_pos hn, if_pos hn, H i h0 hi, drop_getD hlt, drp, hn]
        rfl
      · rw [if_neg hn, if_neg hn, w64 (by omega), suc_nat]
        exact rskip3 k b hl j1 i0 H j (i + 1) (by omega) (by omega) (by omega)
    · rw [if_neg (by omega), H i h0 hi, @List.drop_eq_nil_of_le _ b i (by omega)]
      simp [drp]
theorem rskip1 (k : Nat) (b : List Int) (hk : b.length < k) (hl : b.length < 1000000) : ∀ (j i : Nat), i ≤ b.length → b.length - i < j → (fr04skip k).L 1 [] j (fr04skip_s1 (b, (i : Int))) = some ((b.length - (drp false (b.drop i)).length : Nat) : Int)
  | 0, i, _, h => by omega
  | j + 1, i, hi, h => by
    rw [fr04skip_el1, fr04skip_tl1]
    simp only [cd, cinB, cbeq, rdI_nat]
    by_cases hlt : i < b.length
    · rw [if_pos (by omega)]
      simp only [if_pos (show (0 : Int) ≤ (i : Int) ∧ (i : Int) < (b.length : Int) by omega)]
      have IH := rskip1 k b hk hl j (i + 1) (by omega) (by omega)
      rw [w64 (by omega), suc_nat, IH, drop_getD hlt, drp]
      by_cases h35 : b.getD i 0 = 35
      · rw [if_pos h35, if_pos h35]
        obtain ⟨k', rfl⟩ : ∃ k', k = k' + 1 := ⟨k - 1, by omega⟩
        rw [fr04skip_el3, fr04skip_tl3, cd, cinB, cbne, rdI_nat, if_pos (by omega), if_pos (by omega), if_neg (by omega), w64 (by omega), suc_nat]
        exact rskip3 _ b hl j i (fun i' h1 h2 => rskip1 _ b hk hl j i' h2 (by omega)) k' (i + 1) (by omega) (by omega) (by omega)
      · rw [if_neg h35, if_neg h35]
        unfold isBlank
        simp only [decide_eq_true_eq]
        have e : b.length - (b.getD i 0 :: b.drop (i + 1)).length = i := by rw [List.length_cons, List.length_drop]; omega
        by_cases h1 : b.getD i 0 = 32
        · rw [if_pos h1, if_pos (by omega)]
        · rw [if_neg h1]
          by_cases h2 : b.getD i 0 = 9
          · rw [if_pos h2, if_pos (by omega)]
          · rw [if_neg h2]
            by_cases h3 : b.getD i 0 = 10
            · rw [if_pos h3, if_pos (by omega)]
            · rw [if_neg h3]
              by_cases h4 : b.getD i 0 = 13
              · rw [if_pos h4, if_pos (by omega)]
              · rw [if_neg h4, if_neg (by omega), e]
    · rw [if_neg (by omega), @List.drop_eq_nil_of_le _ b i (by omega)]
      simp [drp]
      omega
theorem rskip_some (k : Nat) (b : List Int) (hk : b.length < k) (hl : b.length < 1000000) (i : Nat) (hi : i ≤ b.length) : cr04skip k (b, (i : Int)) = some ((b.length - (drp false (b.drop i)).length : Nat) : Int) := by
  skip
  rw [fr04skip_e, fr04skip_t, rskip1 k b hk hl k i hi (by omega)]
theorem small_some (k : Nat) (a : Int) : cr04small k a = some (isSmall a) := by
  unfold isSmall
  rw [fr04small_e, fr04small_t]
  by_cases h : a ≥ 97
  · simp [h]
  · have : ¬ 97 ≤ a := by omega
    simp [h]
theorem digit_some (k : Nat) (a : Int) : cr04digit k a = some (isDig a) := by
  unfold isDig
  rw [fr04digit_e, fr04digit_t]
  by_cases h : a ≥ 48
  · simp [h]
  · simp [h]
theorem sign_some (k : Nat) (a : Int) : cr04sign k a = some (isSign a) := by
  unfold isSign
  rw [fr04sign_e, fr04sign_t]
  simp only [cbeq]
  repeat' (first | (refine iteS (fun _ => ?_) (fun _ => ?_)))
  all_goals (refine congrArg some ?_; rw [Bool.eq_iff_iff]; simp; try omega)

theorem rword (k : Nat) (b : List Int) (hl : b.length < 1000000) (s : Nat) (x3 : Int) (x4 : List Int) (x5 x6 : Int) :
    ∀ (j i : Nat), s ≤ i → i ≤ b.length → b.length - i < j → (fr04one k).L 3 [] j (fr04one_s3 (b, (s : Int), (i : Int), x3, x4, x5, x6)) =
      (if 24 < i + ((b.drop i).takeWhile isWord).length - s then some (0, [], 0, 0, 4) else some (1, (b.take (i + ((b.drop i).takeWhile isWord).length)).drop s, 0, (s : Int), 0))
  | 0, i, _, _, h => by omega
  | j + 1, i, hs, hi, h => by
    have fin : ∀ n : Nat, n = i → (if 24 < n - s then some ((0 : Int), ([] : List Int), (0 : Int), (0 : Int), (4 : Int)) else if (0 : Int) ≤ (s : Int) ∧ (s : Int) ≤ (i : Int) ∧ (i : Int) ≤ (b.length : Int) then some (1, cutL b (s : Int) (i : Int), 0, (s : Int), 0) else none) = (if 24 < n - s then some (0, [], 0, 0, 4) else some (1, (b.take n).drop s, 0, (s : Int), 0)) := by
      rintro n rfl
      rw [if_pos (by omega : (0 : Int) ≤ (s : Int) ∧ (s : Int) ≤ (n : Int) ∧ (n : Int) ≤ (b.length : Int)), cutL_nat]
    rw [fr04one_el3, fr04one_tl3]
    simp only [cd, cinB, cbeq, rdI_nat, ccutB]
    rw [w64 (n := (i : Int) - (s : Int)) (by omega)]
    have e24 : ((i : Int) - (s : Int) > 24) = (24 < i - s) := by rw [eq_iff_iff]; omega
    simp only [e24]
    by_cases hlt : i < b.length
    · rw [if_pos (by omega)]
      simp only [if_pos (show (0 : Int) ≤ (i : Int) ∧ (i : Int) < (b.length : Int) by omega)]
      rw [small_some, Option.bind_some, digit_some, Option.bind_some, w64 (n := (i : Int) + 1) (by omega), suc_nat, drop_getD hlt, List.takeWhile_cons]
      have IH := rword k b hl s x3 x4 x5 x6 j (i + 1) (by omega) (by omega) (by omega)
      rw [show i + 1 + ((b.drop (i + 1)).takeWhile isWord).length = i + (((b.drop (i + 1)).takeWhile isWord).length + 1) by omega] at IH
      rw [IH]
      cases hw : isWord (b.getD i 0) with
      | true =>
        simp only [if_true, List.length_cons]
        unfold isWord at hw
        cases h1 : isSmall (b.getD i 0) with
        | true => rw [cond_true]
        | false =>
          rw [cond_false]
          cases h2 : isDig (b.getD i 0) with
          | true => rw [cond_true]
          | false =>
            rw [cond_false]
            rw [h1, h2] at hw
            rw [if_pos (by simpa using hw)]
      | false =>
        unfold isWord at hw
        simp only [Bool.or_eq_false_iff, decide_eq_false_iff_not] at hw
        rw [hw.1, cond_false, hw.2.1, cond_false, if_neg hw.2.2]
        simp only [Bool.false_eq_true, if_false, List.length_nil]
        exact fin _ rfl
    · rw [if_neg (by omega), @List.drop_eq_nil_of_le _ b i (by omega)]
      simp only [List.takeWhile_nil, List.length_nil]
      exact fin _ rfl

theorem rnum (k : Nat) (b : List Int) (hl : b.length < 1000000) (s : Nat) (x4 : Int) (x5 : List Int) (x6 x7 : Int) :
    ∀ (j i : Nat) (v : Int), s ≤ i → i ≤ b.length → b.length - i < j → (i - s ≤ 18 → 0 ≤ v ∧ v < 10 ^ (i - s)) → (fr04one k).L 10 [] j (fr04one_s10 (b, (s : Int), (i : Int), v, x4, x5, x6, x7)) =
      (if 18 < i + ((b.drop i).takeWhile isDig).length - s then some (0, [], 0, 0, 4) else some (2, (b.take (i + ((b.drop i).takeWhile isDig).length)).drop s, ((b.drop i).takeWhile isDig).foldl (fun v c => 10 * v + (c - 48)) v, (s : Int), 0))
  | 0, i, v, _, _, h, _ => by omega
  | j + 1, i, v, hs, hi, h, hv => by
    have fin : ∀ n : Nat, n = i → (if 18 < n - s then some ((0 : Int), ([] : List Int), (0 : Int), (0 : Int), (4 : Int)) else if (0 : Int) ≤ (s : Int) ∧ (s : Int) ≤ (i : Int) ∧ (i : Int) ≤ (b.length : Int) then some (2, cutL b (s : Int) (i : Int), v, (s : Int), 0) else none) = (if 18 < n - s then some (0, [], 0, 0, 4) else some (2, (b.take n).drop s, v, (s : Int), 0)) := by
      rintro n rfl
      rw [if_pos (by omega : (0 : Int) ≤ (s : Int) ∧ (s : Int) ≤ (n : Int) ∧ (n : Int) ≤ (b.length : Int)), cutL_nat]
    rw [fr04one_el10, fr04one_tl10]
    simp only [cd, cinB, cbeq, rdI_nat, ccutB]
    rw [w64 (n := (i : Int) - (s : Int)) (by omega)]
    have e24 : ((i : Int) - (s : Int) > 18) = (18 < i - s) := by rw [eq_iff_iff]; omega
    have e25 : ((i : Int) - (s : Int) < 18) = (i - s < 18) := by rw [eq_iff_iff]; omega
    simp only [e24, e25]
    by_cases hlt : i < b.length
    · rw [if_pos (by omega)]
      simp only [if_pos (show (0 : Int) ≤ (i : Int) ∧ (i : Int) < (b.length : Int) by omega)]
      rw [digit_some, Option.bind_some, w64 (n := (i : Int) + 1) (by omega), suc_nat, drop_getD hlt, List.takeWhile_cons]
      cases hw : isDig (b.getD i 0) with
      | true =>
        have hd := hw
        unfold isDig at hd
        simp only [Bool.and_eq_true, decide_eq_true_eq] at hd
        simp only [if_true, List.length_cons, cond_true, List.foldl_cons]
        by_cases h18 : i - s < 18
        · obtain ⟨v1, v2⟩ := hv (by omega)
          have v3 : v < 10 ^ 17 := Int.lt_of_lt_of_le v2 (by exact_mod_cast Nat.pow_le_pow_right (by decide) (by omega : i - s ≤ 17))
          have v4 : 10 * v + (b.getD i 0 - 48) < 10 ^ (i + 1 - s) := by
            rw [show i + 1 - s = (i - s) + 1 by omega, Int.pow_succ]
            omega
          rw [if_pos h18, wu8 (by omega), w64 (n := 10 * v) (by omega), w64 (n := b.getD i 0 - 48) (by omega), w64 (n := 10 * v + (b.getD i 0 - 48)) (by omega)]
          have IH := rnum k b hl s x4 x5 x6 x7 j (i + 1) (10 * v + (b.getD i 0 - 48)) (by omega) (by omega) (by omega) (fun _ => ⟨by omega, v4⟩)
          rw [show i + 1 + ((b.drop (i + 1)).takeWhile isDig).length = i + (((b.drop (i + 1)).takeWhile isDig).length + 1) by omega] at IH
          exact IH
        · rw [if_neg h18]
          have IH := rnum k b hl s x4 x5 x6 x7 j (i + 1) v (by omega) (by omega) (by omega) (fun h => by omega)
          rw [IH, if_pos (by omega), if_pos (by omega)]
      | false =>
        simp only [Bool.false_eq_true, if_false, List.length_nil, cond_false, List.foldl_nil]
        exact fin _ rfl
    · rw [if_neg (by omega), @List.drop_eq_nil_of_le _ b i (by omega)]
      simp only [List.takeWhile_nil, List.length_nil, List.foldl_nil]
      exact fin _ rfl

theorem one_some (k : Nat) (b : List Int) (hk : b.length < k) (hl : b.length < 1000000) (i : Nat) (hi : i < b.length) :
    ∃ q : Int, cr04one k (b, (i : Int)) = some ((tok1 (b.drop i)).2.1, (tok1 (b.drop i)).2.2.1, (tok1 (b.drop i)).2.2.2.1, q, (tok1 (b.drop i)).1) ∧ ((tok1 (b.drop i)).1 = 0 → q = (i : Int)) := by
  have e0 := drop_getD hi
  skip
  rw [fr04one_e, fr04one_t]
  simp only [cinB, rdI_nat]
  simp only [if_pos (show (0 : Int) ≤ (i : Int) ∧ (i : Int) < (b.length : Int) by omega)]
  rw [small_some, Option.bind_some, digit_some, Option.bind_some, sign_some, Option.bind_some]
  rw [rword k b hl i _ _ _ _ k i (Nat.le_refl _) (by omega) (by omega), rnum k b hl i _ _ _ _ k i 0 (Nat.le_refl _) (by omega) (by omega) (fun _ => by rw [Nat.sub_self]; decide)]
  rw [take_drop_while, take_drop_while, Nat.add_sub_cancel_left, Nat.add_sub_cancel_left]
  cases h1 : isSmall (b.getD i 0) with
  | true =>
    have et : tok1 (b.drop i) = if 24 < ((b.drop i).takeWhile isWord).length then (4, 0, [], 0, []) else (0, 1, (b.drop i).takeWhile isWord, 0, (b.drop i).dropWhile isWord) := by
      rw [e0, tok1, if_pos h1]
    rw [et, cond_true]
    split
    · exact ⟨_, rfl, fun h => by simp at h⟩
    · exact ⟨_, rfl, fun _ => rfl⟩
  | false =>
    rw [cond_false]
    cases h2 : isDig (b.getD i 0) with
    | true =>
      have et : tok1 (b.drop i) = if 18 < ((b.drop i).takeWhile isDig).length then (4, 0, [], 0, []) else (0, 2, (b.drop i).takeWhile isDig, valD ((b.drop i).takeWhile isDig), (b.drop i).dropWhile isDig) := by
        rw [e0, tok1, if_neg (by rw [h1]; exact Bool.false_ne_true), if_pos h2]
      rw [et, cond_true]
      split
      · exact ⟨_, rfl, fun h => by simp at h⟩
      · exact ⟨_, rfl, fun _ => rfl⟩
    | false =>
      rw [cond_false]
      have et : tok1 (b.drop i) = if isSign (b.getD i 0) then (0, 3, [b.getD i 0], 0, b.drop (i + 1)) else (40, 0, [], 0, []) := by
        rw [e0, tok1, if_neg (by rw [h1]; exact Bool.false_ne_true), if_neg (by rw [h2]; exact Bool.false_ne_true)]
      rw [et]
      cases h3 : isSign (b.getD i 0) with
      | true =>
        rw [cond_true, w64 (by omega), ccutB, if_pos (by omega), suc_nat, cutL_nat]
        have e1 : (b.take (i + 1)).drop i = [b.getD i 0] := by
          rw [List.drop_take, e0, show i + 1 - i = 1 by omega]; rfl
        rw [e1]
        exact ⟨_, rfl, fun _ => rfl⟩
      | false =>
        rw [cond_false]
        exact ⟨_, rfl, fun h => by simp at h⟩

theorem rtokens_loop (k : Nat) (b : List Int) (hk : b.length < k) (hl : b.length < 1000000) : ∀ (j i : Nat) (out : List Tk), i ≤ b.length → b.length - i < j → out.length ≤ i → drp false (b.drop i) = b.drop i →
    (fr04Tokens k).L 5 [] j (fr04Tokens_s5 (b, (i : Int), out)) = some ((lx b.length j (b.drop i)).1, (lx b.length j (b.drop i)).2.1, if (lx b.length j (b.drop i)).1 = 0 then out ++ (lx b.length j (b.drop i)).2.2 else [])
  | 0, i, out, _, h, _, _ => by omega
  | j + 1, i, out, hi, h, ho, hd => by
    rw [fr04Tokens_el5, fr04Tokens_tl5, cd, lx, hd]
    by_cases hlt : i < b.length
    · rw [if_pos (by omega)]
      obtain ⟨q, e, hq⟩ := one_some k b hk hl i hlt
      rw [e, Option.bind_some]
      have el : b.length - (b.drop i).length = i := by rw [List.length_drop]; omega
      have e0 := drop_getD hlt
      generalize hx : b.getD i 0 = x at e0
      generalize hr : b.drop (i + 1) = r at e0
      have hlr : r.length = b.length - (i + 1) := by rw [← hr, List.length_drop]
      rw [e0] at el hq
      rw [e0]
      dsimp only
      rw [cbne]
      by_cases h0 : (tok1 (x :: r)).1 = 0
      · have hr1 := tok1_rest h0
        obtain ⟨s1, s2, s3, s4⟩ := tok1_spec h0
        have s5 := congrArg List.length s1
        rw [List.length_append, List.length_cons] at s5
        simp only [if_pos h0]
        rw [cappB, if_pos (by simp only [List.length_cons, List.length_nil]; omega), hq h0, w64 (by omega)]
        generalize hp : i + (tok1 (x :: r)).2.2.1.length = p
        have hpq : b.drop p = (tok1 (x :: r)).2.2.2.2 := by
          rw [← hp, ← List.drop_drop, e0]
          have s6 := congrArg (List.drop (tok1 (x :: r)).2.2.1.length) s1
          rw [List.drop_left] at s6
          exact s6.symm
        have hpl : p ≤ b.length := by omega
        rw [show (i : Int) + (((tok1 (x :: r)).2.2.1.length : Nat) : Int) = (p : Int) by omega, rskip_some k b hk hl p hpl, Option.bind_some, hpq]
        have hdl := drp_len false (tok1 (x :: r)).2.2.2.2
        have hdd := drp_drp (tok1 (x :: r)).2.2.2.2 false
        have hsuf : drp false (tok1 (x :: r)).2.2.2.2 <:+ b := (drp_suf false _).trans (hpq ▸ List.drop_suffix p b)
        have hdr : b.drop (b.length - (drp false (tok1 (x :: r)).2.2.2.2).length) = drp false (tok1 (x :: r)).2.2.2.2 := (List.suffix_iff_eq_drop.1 hsuf).symm
        have := rtokens_loop k b hk hl j (b.length - (drp false (tok1 (x :: r)).2.2.2.2).length) (out ++ [((tok1 (x :: r)).2.1, ((tok1 (x :: r)).2.2.1, ((tok1 (x :: r)).2.2.2.1, ((i : Int), ()))))]) (by omega) (by omega) (by rw [List.length_append]; simp only [List.length_cons, List.length_nil]; omega) (by rw [hdr, hdd])
        rw [hdr] at this
        rw [this]
        have hsame : lx b.length j (drp false (tok1 (x :: r)).2.2.2.2) = lx b.length j (tok1 (x :: r)).2.2.2.2 := by
          cases j with
          | zero => rfl
          | succ j => rw [lx, lx, hdd]
        rw [hsame]
        by_cases h1 : (lx b.length j (tok1 (x :: r)).2.2.2.2).1 = 0
        · have hz := lx_err _ _ _ h1
          simp only [if_pos h1, h1, hz, el]
          simp
        · simp only [if_neg h1]
      · simp only [if_neg h0, el]
    · rw [if_neg (by omega), @List.drop_eq_nil_of_le _ b i (by omega), cappB, if_pos (by simp only [List.length_cons, List.length_nil]; omega)]
      have : i = b.length := by omega
      subst this
      rfl
theorem lx_nil (n : Nat) : ∀ (f : Nat) (s : List Int), (if (lx n f s).1 = 0 then (lx n f s).2.2 else []) = (lx n f s).2.2 := by
  intro f s
  split
  · rfl
  · rename_i h
    cases f with
    | zero => exact absurd rfl h
    | succ f =>
      rw [lx] at h ⊢
      cases hd : drp false s with
      | nil => rw [hd] at h; exact absurd rfl h
      | cons x r =>
        rw [hd] at h
        simp only [] at h ⊢
        split
        · rename_i h0
          rw [if_pos h0] at h
          split
          · rename_i h1; rw [if_pos h1] at h; exact absurd rfl h
          · rfl
        · rfl
theorem rtokens_some (k : Nat) (b : List Int) (hk : b.length < k) (hm : b.length < 1000000) : cr04Tokens k b = some (toks b) := by
  unfold toks
  rw [fr04Tokens_e, fr04Tokens_t, cd]
  by_cases hl : 65536 < b.length
  · rw [if_pos (by omega), if_pos hl]
  · have hdd := drp_drp b false
    have hdl := drp_len false b
    have hdr : b.drop (b.length - (drp false b).length) = drp false b := (List.suffix_iff_eq_drop.1 (drp_suf false b)).symm
    have h0 := rskip_some k b hk (by omega) 0 (Nat.zero_le _)
    rw [List.drop_zero] at h0
    rw [if_neg (by omega), if_neg hl, show (0 : Int) = ((0 : Nat) : Int) from rfl, h0, Option.bind_some, rtokens_loop k b hk (by omega) k _ [] (by omega) (by omega) (Nat.zero_le _) (by rw [hdr, hdd])]
    have hsame : lx b.length k (drp false b) = lx b.length (b.length + 1) b := by
      rw [lx_fuel _ (b.length + 1) k b (by omega) (by omega)]
      cases k with
      | zero => rfl
      | succ j => rw [lx, lx, hdd]
    rw [hdr, hsame, List.nil_append, lx_nil]
end Go.Proofs.YtipcabmhdokfjaaGreatDoorV

/-! Lexing: which tokens are right, which words are reserved. -/
set_option linter.unusedVariables false
set_option linter.unusedSimpArgs false
namespace Go.Proofs.YtipcabmhdokfjaaGreatDoorV
open Go Go.RowKit

/-- A token that its text spells. -/
def rightB (kd : Int) (tx : List Int) (v : Int) : Bool := decide (tx ≠ [] ∧ drp false tx = tx ∧ tok1 tx = (0, kd, tx, v, []))
abbrev tkD : Tk := ((0 : Int), ([], ((0 : Int), ((0 : Int), ()))))
theorem toks_right (kd : Int) (tx : List Int) (v : Int) :
    ((toks tx).1 = 0 ∧ (toks tx).2.2.length = 2 ∧ ((toks tx).2.2.getD 0 tkD).1 = kd ∧ ((toks tx).2.2.getD 0 tkD).2.1 = tx ∧ ((toks tx).2.2.getD 0 tkD).2.2.1 = v) ↔ rightB kd tx v = true := by
  unfold rightB
  rw [decide_eq_true_eq]
  unfold toks
  by_cases hl : 65536 < tx.length
  · rw [if_pos hl]
    constructor
    · intro h; simp at h
    · rintro ⟨h1, h2, h3⟩
      cases tx with
      | nil => exact absurd rfl h1
      | cons x r =>
        have := tok1_spec (x := x) (r := r) (by rw [h3])
        rw [h3] at this
        have := this.2.2.2
        simp only [] at this
        omega
  · rw [if_neg hl, lx]
    cases hd : drp false tx with
    | nil =>
      simp only []
      constructor
      · intro h; simp at h
      · rintro ⟨h1, h2, h3⟩; exact absurd h2.symm h1
    | cons x r =>
      simp only []
      by_cases h0 : (tok1 (x :: r)).1 = 0
      · obtain ⟨s1, s2, s3, s4⟩ := tok1_spec h0
        have hlen := drp_len false tx
        rw [hd] at hlen
        have s5 := congrArg List.length s1
        rw [List.length_append] at s5
        have s6 := tok1_rest h0
        rw [if_pos h0]
        generalize hq : (tok1 (x :: r)).2.2.2.2 = q at *
        by_cases h1 : (lx tx.length tx.length q).1 = 0
        · rw [if_pos h1]
          simp only [List.length_cons, List.getD_cons_zero]
          constructor
          · rintro ⟨_, g1, g2, g3, g4⟩
            rw [g3] at s5
            have hq0 : q = [] := by
              apply List.length_eq_zero_iff.1
              omega
            have htx : tx = x :: r := by rw [← s1, g3, hq0, List.append_nil]
            refine ⟨by rw [htx]; simp, by rw [← htx], ?_⟩
            have : tok1 tx = tok1 (x :: r) := by rw [htx]
            rw [this]
            ext1; exact h0
            ext1; exact g2
            ext1; exact g3
            ext1; exact g4
            show (tok1 (x :: r)).2.2.2.2 = []
            rw [hq, hq0]
          · rintro ⟨g1, g2, g3⟩
            rw [← g2] at g3
            have hq0 : q = [] := by rw [← hq, g3]
            rw [g3]
            refine ⟨trivial, ?_, rfl, g2.symm ▸ rfl, rfl⟩
            have hpos : ∃ m, tx.length = m + 1 := ⟨tx.length - 1, by rw [List.length_cons] at hlen; omega⟩
            obtain ⟨m, hm⟩ := hpos
            rw [hq0, hm, lx]
            rfl
        · rw [if_neg h1]
          constructor
          · rintro ⟨g, _⟩; exact absurd g h1
          · rintro ⟨g1, g2, g3⟩
            rw [← g2] at g3
            have hq0 : q = [] := by rw [← hq, g3]
            have hpos : ∃ m, tx.length = m + 1 := ⟨tx.length - 1, by rw [List.length_cons] at hlen; omega⟩
            obtain ⟨m, hm⟩ := hpos
            rw [hq0, hm, lx] at h1
            exact absurd rfl h1
      · rw [if_neg h0]
        constructor
        · rintro ⟨g, _⟩; exact absurd g h0
        · rintro ⟨g1, g2, g3⟩
          rw [← g2] at g3
          rw [g3] at h0
          exact absurd rfl h0
theorem toks_pos {kd : Int} {tx : List Int} {v : Int} (h : rightB kd tx v = true) : ((toks tx).2.2.getD 0 tkD).2.2.2.1 = 0 := by
  unfold rightB at h
  rw [decide_eq_true_eq] at h
  obtain ⟨h1, h2, h3⟩ := h
  unfold toks
  cases tx with
  | nil => exact absurd rfl h1
  | cons x r =>
    have := tok1_spec (x := x) (r := r) (by rw [h3])
    rw [h3] at this
    have h24 := this.2.2.2
    simp only [] at h24
    rw [if_neg (by omega), lx, h2]
    simp only [h3, if_true]
    have h0 : (lx (x :: r).length (x :: r).length []).1 = 0 := by
      rw [List.length_cons, lx]; rfl
    rw [if_pos h0]
    simp
theorem eqI_d (a b : Int) : eqI a b = decide (a = b) := by
  unfold eqI; rw [Bool.eq_iff_iff]; simp
theorem eqS_d (a b : List Int) : eqS a b = decide (a = b) := by
  unfold eqS; rw [Bool.eq_iff_iff]; simp
theorem right_some (k : Nat) (kd : Int) (tx : List Int) (v p : Int) (hk : tx.length < k) (hm : tx.length < 1000000) : clexRight k (kd, tx, v, p) = some (rightB kd tx v) := by
  skip
  rw [flexRight_e, flexRight_t, tokens_some k tx hk hm, Option.bind_some, cbeq, cbeq, cinB]
  have T := toks_right kd tx v
  have Tp := @toks_pos kd tx v
  have hz : (Int.toNat 0) = 0 := rfl
  unfold rdA at *
  rw [hz]
  generalize toks tx = tt at *
  by_cases h0 : tt.1 = 0
  · rw [if_pos h0]
    by_cases h2 : tt.2.2.length = 2
    · rw [if_pos (by omega), if_pos (by omega), eqI_d, eqI_d, eqS_d, eqI_d]
      refine congrArg some ?_
      rw [Bool.eq_iff_iff]
      simp only [Bool.and_eq_true, decide_eq_true_eq, and_true]
      constructor
      · rintro ⟨a1, a2, a3, a4⟩
        exact T.1 ⟨h0, h2, a1, a2, a3⟩
      · intro h
        have := T.2 h
        exact ⟨this.2.2.1, this.2.2.2.1, this.2.2.2.2, Tp h⟩
    · rw [if_neg (by omega)]
      refine congrArg some ?_
      rw [eq_comm, Bool.eq_false_iff]
      exact fun h => h2 (T.2 h).2.1
  · rw [if_neg h0]
    refine congrArg some ?_
    rw [eq_comm, Bool.eq_false_iff]
    exact fun h => h0 (T.2 h).1
theorem rright_some (k : Nat) (kd : Int) (tx : List Int) (v p : Int) (hk : tx.length < k) (hm : tx.length < 1000000) : cr04Right k (kd, tx, v, p) = some (rightB kd tx v) := by
  skip
  rw [fr04Right_e, fr04Right_t, rtokens_some k tx hk hm, Option.bind_some]
  simp only [cbeq, cinB]
  have T := toks_right kd tx v
  have hz : (Int.toNat 0) = 0 := rfl
  unfold rdA at *
  rw [hz]
  generalize toks tx = tt at *
  by_cases h0 : tt.1 = 0
  · rw [if_pos h0]
    by_cases h2 : tt.2.2.length = 2
    · simp only [if_pos (show ((tt.2.2.length : Nat) : Int) = 2 by omega), if_pos (show (0 : Int) ≤ 0 ∧ (0 : Int) < ((tt.2.2.length : Nat) : Int) by omega)]
      refine iteS (fun a1 => iteS (fun a2 => ?_) (fun a2 => ?_)) (fun a1 => ?_)
      · refine congrArg some ?_
        rw [Bool.eq_iff_iff]
        constructor
        · intro a3
          exact T.1 ⟨h0, h2, a1, by simpa using a3, a2⟩
        · intro h
          simpa using (T.2 h).2.2.2.1
      · refine congrArg some ?_
        rw [eq_comm, Bool.eq_false_iff]
        exact fun h => a2 (T.2 h).2.2.2.2
      · refine congrArg some ?_
        rw [eq_comm, Bool.eq_false_iff]
        exact fun h => a1 (T.2 h).2.2.1
    · rw [if_neg (by omega)]
      refine congrArg some ?_
      rw [eq_comm, Bool.eq_false_iff]
      exact fun h => h2 (T.2 h).2.1
  · rw [if_neg h0]
    refine congrArg some ?_
    rw [eq_comm, Bool.eq_false_iff]
    exact fun h => h0 (T.2 h).1

/-- The reserved words. -/
def resW : List (List Int) := [[99, 121, 99, 108, 101],
  [116, 111],
  [98, 121],
  [112, 101, 97, 107],
  [110, 111, 100, 101],
  [104, 101, 97, 100],
  [118, 111, 108, 117, 109, 101],
  [102, 108, 111, 119],
  [117, 115, 101],
  [115, 112, 101, 101, 100],
  [103, 114, 97, 100, 101],
  [119, 105, 100, 116, 104],
  [108, 101, 110, 103, 116, 104],
  [103, 114, 101, 101, 110],
  [119, 97, 108, 107],
  [119, 105, 116, 104],
  [108, 111, 110, 103],
  [112, 97, 99, 101],
  [108, 101, 97, 115, 116],
  [112, 104, 97, 115, 101],
  [103, 114, 111, 117, 112],
  [114, 105, 110, 103],
  [102, 114, 101, 101],
  [102, 111, 101],
  [97, 114, 116, 101, 114, 121],
  [115, 116, 111, 112],
  [111, 117, 116],
  [105, 110],
  [97, 104, 101, 97, 100],
  [98, 97, 99, 107],
  [119, 101, 105, 103, 104, 116, 115],
  [112, 108, 97, 110],
  [111, 102, 102, 115, 101, 116],
  [115, 117, 109],
  [115, 112, 108, 105, 116],
  [121, 101, 108, 108, 111, 119],
  [114, 101, 100],
  [102, 108, 97, 115, 104],
  [98, 101, 115, 116],
  [121, 101, 115],
  [110, 111],
  [115, 112, 101, 110, 116]]
def resB (s : List Int) : Bool := resW.contains s
theorem in_loop (k : Nat) (s : List Int) (l : List (List Int)) (hl : l.length < 1000000) : ∀ (r pre : List (List Int)) (j : Nat), l = pre ++ r → r.length < j → (fr04In k).L 2 [] j (fr04In_s2 (s, l, (pre.length : Int))) = some (r.contains s)
  | _, _, 0, _, h => by omega
  | [], pre, j + 1, hp, h => by
    have : l.length = pre.length := by rw [hp]; simp
    rw [fr04In_el2, fr04In_tl2, cd, if_neg (by omega)]
    rfl
  | x :: r, pre, j + 1, hp, h => by
    have hlen : l.length = pre.length + (r.length + 1) := by rw [hp]; simp
    have IH := in_loop k s l hl r (pre ++ [x]) j (by rw [hp]; simp) (by simp at h; omega)
    rw [fr04In_el2, fr04In_tl2, cd, if_pos (by omega), cinB, if_pos (by omega), rdA_nat, cbeq, w64 (by omega), suc_nat]
    rw [List.length_append, List.length_singleton] at IH
    rw [IH, hp, getD_mid]
    rw [List.contains_cons]
    by_cases hx : x = s
    · rw [if_pos hx, hx]; simp
    · rw [if_neg hx]
      have : (s == x) = false := by simpa using fun e : s = x => hx e.symm
      rw [this, Bool.false_or]
theorem rreserved_some (k : Nat) (s : List Int) (hk : 100 < k) : cr04Reserved k s = some (resB s) := by
  have hw : ∀ k, cr04Words k () = some resW := by
    intro k
    skip
    rw [fr04Words_e, fr04Words_t]
    rfl
  have hlen : resW.length = 42 := rfl
  skip
  rw [fr04Reserved_e, fr04Reserved_t, hw, Option.bind_some]
  skip
  rw [fr04In_e, fr04In_t]
  have := in_loop k s resW (by omega) resW [] k rfl (by omega)
  rw [List.length_nil] at this
  rw [show (0 : Int) = ((0 : Nat) : Int) from rfl, this]
  rfl
set_option maxRecDepth 20000 in
theorem reserved_some (k : Nat) (s : List Int) : clexReserved k s = some (resB s) := by
  unfold resB resW
  skip
  rw [flexReserved_e, flexReserved_t, flexReserved_ej16, flexReserved_tj16, flexReserved_ej26, flexReserved_tj26, flexReserved_ej33, flexReserved_tj33]
  have step : ∀ (a : List Int) (x : Option Bool) (l : List (List Int)), x = some (l.contains s) → (bif s == a then some true else x) = some ((a :: l).contains s) := by
    intro a x l h
    rw [List.contains_cons]
    cases s == a with
    | true => simp
    | false => simp [h]
  repeat (refine step _ _ _ ?_)
  rfl
end Go.Proofs.YtipcabmhdokfjaaGreatDoorV

/-! show: which networks have a text. -/
set_option linter.unusedVariables false
set_option linter.unusedSimpArgs false
namespace Go.Proofs.YtipcabmhdokfjaaGreatDoorV
open Go Go.RowKit

section
variable {α R : Type}
theorem ctf_of {d : α} (l : List α) (p : α → Bool) (g : α → Option Bool) (F : Nat → Int → Option Int) (k : Nat) (hl : l.length < 1000000) (hk : l.length < k)
    (hF : ∀ j i, F (j + 1) i = bif decide (i < ((l.length : Nat) : Int)) then (idx d l i fun o => (g o).bind fun o2 => bif o2 then some i else F j (IntKind.wrap .i64 (i + 1))) else some (-1))
    (c : Option Bool) (hc : c = (F k 0).bind fun o1 => some (decide (o1 ≥ 0))) (hg : ∀ x ∈ l, g x = some (!p x)) : c = some (!(l.all p)) := by
  obtain ⟨r, h1, h2⟩ := any_loop l (fun x => !p x) g F hl hF hg k 0 (by omega) (by omega)
  rw [hc, show (0 : Int) = ((0 : Nat) : Int) from rfl, h1, Option.bind_some, ← any_all]
  exact congrArg some h2
theorem ch {a b : Bool} {x e y : α} (h : y = if b then x else e) : (bif !a then e else y) = if a && b then x else e := by
  rw [h]; cases a <;> cases b <;> rfl
theorem chD {p : Prop} [Decidable p] {b : Bool} {x e y : α} (h : y = if b then x else e) : (bif decide p then e else y) = if !(decide p) && b then x else e := by
  rw [h]; by_cases hp : p <;> cases b <;> simp [hp]
theorem ch1 {x e : α} : x = if true then x else e := rfl
theorem chT {a b : Bool} {y : Option Bool} (h : y = some (!b)) : (bif !a then some true else y) = some (!(a && b)) := by
  rw [h]; cases a <;> cases b <;> rfl
theorem chP {a b : Bool} {y : Option Bool} (h : y = some (!b)) : (bif !a then some true else y) = some (!(a && b)) := chT h
theorem chN {p : Prop} [Decidable p] {b : Bool} {y : Option Bool} (h : y = some (!b)) : (bif decide p then some true else y) = some (!(!(decide p) && b)) := by
  rw [h]; by_cases hp : p <;> cases b <;> simp [hp]
end
def nameB (s : List Int) : Bool := rightB 1 s 0 && !resB s
def numB (n : Int) : Bool := decide (0 ≤ n) && decide (n ≤ 999999999999999999)
def sh (s : List Int) : Prop := s.length ≤ 100
theorem name1_some (k : Nat) (s : List Int) (hs : sh s) (hk : 1000 ≤ k) : cshownames_1 k s = some (!nameB s) := by
  unfold sh at hs
  rw [fshownames_1_e, fshownames_1_t, right_some k 1 s 0 0 (by omega) (by omega), Option.bind_some, reserved_some, Option.bind_some]
  unfold nameB
  cases rightB 1 s 0 <;> cases resB s <;> rfl
theorem rname_some (k : Nat) (s : List Int) (hs : sh s) (hk : 1000 ≤ k) : cr04Name k s = some (nameB s) := by
  unfold sh at hs
  rw [fr04Name_e, fr04Name_t, rright_some k 1 s 0 0 (by omega) (by omega), Option.bind_some, rreserved_some k s (by omega), Option.bind_some]
  unfold nameB
  cases rightB 1 s 0 <;> cases resB s <;> rfl
theorem num1_some (k : Nat) (n : Int) : cshownums_1 k n = some (!numB n) := by
  rw [fshownums_1_e, fshownums_1_t]
  unfold numB
  by_cases h : n < 0
  · have : ¬ 0 ≤ n := by omega
    simp [h, this]
  · have : 0 ≤ n := by omega
    by_cases h2 : n ≤ 999999999999999999
    · have : ¬ n > 999999999999999999 := by omega
      simp [h, *]
    · have : n > 999999999999999999 := by omega
      simp [h, *]
theorem rnum_some (k : Nat) (n : Int) : cr06Num k n = some (numB n) := by
  rw [fr06Num_e, fr06Num_t]
  unfold numB
  by_cases h : n ≥ 0
  · simp [h]
  · have : ¬ 0 ≤ n := by omega
    simp [h, this]
theorem rfrac_some (k : Nat) (a b : Int) : cr06Frac k (a, b) = some (numB a && numB b) := by
  rw [fr06Frac_e, fr06Frac_t, rnum_some, Option.bind_some, rnum_some, Option.bind_some]
  cases numB a <;> rfl
theorem ctf_int64 (k : Nat) (l : List (Int)) (p : Int → Bool) (hl : l.length < 1000) (hk : 1000 ≤ k) (hg : ∀ x ∈ l, cshownums_1 k x = some (!p x)) : cctf_int64 k l = some (!(l.all p)) :=
  ctf_of l p _ (fun j i => (fixf_int64 k).L 2 [] j (fixf_int64_s2 (l, ((l.length : Nat) : Int), i))) k (by omega) (by omega) (fun j i => fixf_int64_el2 k j (l, ((l.length : Nat) : Int), i)) (cctf_int64 k l) (by rw [fctf_int64_e, fctf_int64_t, fixf_int64_e, fixf_int64_t]) hg
theorem ctf_string (k : Nat) (l : List (List Int)) (p : List Int → Bool) (hl : l.length < 1000) (hk : 1000 ≤ k) (hg : ∀ x ∈ l, cshownames_1 k x = some (!p x)) : cctf_string k l = some (!(l.all p)) :=
  ctf_of l p _ (fun j i => (fixf_string k).L 2 [] j (fixf_string_s2 (l, ((l.length : Nat) : Int), i))) k (by omega) (by omega) (fun j i => fixf_string_el2 k j (l, ((l.length : Nat) : Int), i)) (cctf_string k l) (by rw [fctf_string_e, fctf_string_t, fixf_string_e, fixf_string_t]) hg
theorem ctf_Head (k : Nat) (l : List (YT1)) (p : YT1 → Bool) (hl : l.length < 1000) (hk : 1000 ≤ k) (hg : ∀ x ∈ l, cshowbadHead k (x.1, x.2.1, x.2.2.1, x.2.2.2.1.1, x.2.2.2.1.2.1, x.2.2.2.2.1, x.2.2.2.2.2.1, x.2.2.2.2.2.2.1, x.2.2.2.2.2.2.2.1, x.2.2.2.2.2.2.2.2.1, x.2.2.2.2.2.2.2.2.2.1) = some (!p x)) : cctf_Head k l = some (!(l.all p)) :=
  ctf_of l p _ (fun j i => (fixf_Head k).L 2 [] j (fixf_Head_s2 (l, ((l.length : Nat) : Int), i))) k (by omega) (by omega) (fun j i => fixf_Head_el2 k j (l, ((l.length : Nat) : Int), i)) (cctf_Head k l) (by rw [fctf_Head_e, fctf_Head_t, fixf_Head_e, fixf_Head_t]) hg
theorem ctf_Ped (k : Nat) (l : List (YT2)) (p : YT2 → Bool) (hl : l.length < 1000) (hk : 1000 ≤ k) (hg : ∀ x ∈ l, cshowbadPed k (x.1, x.2.1, x.2.2.1, x.2.2.2.1, x.2.2.2.2.1, x.2.2.2.2.2.1) = some (!p x)) : cctf_Ped k l = some (!(l.all p)) :=
  ctf_of l p _ (fun j i => (fixf_Ped k).L 2 [] j (fixf_Ped_s2 (l, ((l.length : Nat) : Int), i))) k (by omega) (by omega) (fun j i => fixf_Ped_el2 k j (l, ((l.length : Nat) : Int), i)) (cctf_Ped k l) (by rw [fctf_Ped_e, fctf_Ped_t, fixf_Ped_e, fixf_Ped_t]) hg
theorem ctf_Phase (k : Nat) (l : List (YT3)) (p : YT3 → Bool) (hl : l.length < 1000) (hk : 1000 ≤ k) (hg : ∀ x ∈ l, cshowbadPhase k (x.1, x.2.1, x.2.2.1) = some (!p x)) : cctf_Phase k l = some (!(l.all p)) :=
  ctf_of l p _ (fun j i => (fixf_Phase k).L 2 [] j (fixf_Phase_s2 (l, ((l.length : Nat) : Int), i))) k (by omega) (by omega) (fun j i => fixf_Phase_el2 k j (l, ((l.length : Nat) : Int), i)) (cctf_Phase k l) (by rw [fctf_Phase_e, fctf_Phase_t, fixf_Phase_e, fixf_Phase_t]) hg
theorem ctf_Row (k : Nat) (l : List (YT4)) (p : YT4 → Bool) (hl : l.length < 1000) (hk : 1000 ≤ k) (hg : ∀ x ∈ l, cshowbadRing k (x.1, x.2.1) = some (!p x)) : cctf_Row k l = some (!(l.all p)) :=
  ctf_of l p _ (fun j i => (fixf_Row k).L 2 [] j (fixf_Row_s2 (l, ((l.length : Nat) : Int), i))) k (by omega) (by omega) (fun j i => fixf_Row_el2 k j (l, ((l.length : Nat) : Int), i)) (cctf_Row k l) (by rw [fctf_Row_e, fctf_Row_t, fixf_Row_e, fixf_Row_t]) hg
theorem ctf_Group (k : Nat) (l : List (List YT4 × Unit)) (p : List YT4 × Unit → Bool) (hl : l.length < 1000) (hk : 1000 ≤ k) (hg : ∀ x ∈ l, cshowbadGroup k (x.1) = some (!p x)) : cctf_Group k l = some (!(l.all p)) :=
  ctf_of l p _ (fun j i => (fixf_Group k).L 2 [] j (fixf_Group_s2 (l, ((l.length : Nat) : Int), i))) k (by omega) (by omega) (fun j i => fixf_Group_el2 k j (l, ((l.length : Nat) : Int), i)) (cctf_Group k l) (by rw [fctf_Group_e, fctf_Group_t, fixf_Group_e, fixf_Group_t]) hg
theorem ctf_Foe (k : Nat) (l : List (YT5)) (p : YT5 → Bool) (hl : l.length < 1000) (hk : 1000 ≤ k) (hg : ∀ x ∈ l, cshowbadFoe k (x.1, x.2.1, x.2.2.1) = some (!p x)) : cctf_Foe k l = some (!(l.all p)) :=
  ctf_of l p _ (fun j i => (fixf_Foe k).L 2 [] j (fixf_Foe_s2 (l, ((l.length : Nat) : Int), i))) k (by omega) (by omega) (fun j i => fixf_Foe_el2 k j (l, ((l.length : Nat) : Int), i)) (cctf_Foe k l) (by rw [fctf_Foe_e, fctf_Foe_t, fixf_Foe_e, fixf_Foe_t]) hg
theorem ctf_Node (k : Nat) (l : List (YT6)) (p : YT6 → Bool) (hl : l.length < 1000) (hk : 1000 ≤ k) (hg : ∀ x ∈ l, cshowbadNode k (x.1, x.2.1, x.2.2.1, x.2.2.2.1, x.2.2.2.2.1, x.2.2.2.2.2.1, x.2.2.2.2.2.2.1) = some (!p x)) : cctf_Node k l = some (!(l.all p)) :=
  ctf_of l p _ (fun j i => (fixf_Node k).L 2 [] j (fixf_Node_s2 (l, ((l.length : Nat) : Int), i))) k (by omega) (by omega) (fun j i => fixf_Node_el2 k j (l, ((l.length : Nat) : Int), i)) (cctf_Node k l) (by rw [fctf_Node_e, fctf_Node_t, fixf_Node_e, fixf_Node_t]) hg
theorem ctf_Stop (k : Nat) (l : List (YT7)) (p : YT7 → Bool) (hl : l.length < 1000) (hk : 1000 ≤ k) (hg : ∀ x ∈ l, cshowbadStop k (x.1, x.2.1, x.2.2.1, x.2.2.2.1, x.2.2.2.2.1, x.2.2.2.2.2.1) = some (!p x)) : cctf_Stop k l = some (!(l.all p)) :=
  ctf_of l p _ (fun j i => (fixf_Stop k).L 2 [] j (fixf_Stop_s2 (l, ((l.length : Nat) : Int), i))) k (by omega) (by omega) (fun j i => fixf_Stop_el2 k j (l, ((l.length : Nat) : Int), i)) (cctf_Stop k l) (by rw [fctf_Stop_e, fctf_Stop_t, fixf_Stop_e, fixf_Stop_t]) hg
theorem nums_some (k : Nat) (l : List Int) (hl : l.length < 1000) (hk : 1000 ≤ k) : cshownums k l = some (l.all numB) := by
  rw [fshownums_e, fshownums_t, ctf_int64 k l numB hl hk fun x _ => num1_some k x, Option.bind_some, Bool.not_not]
theorem names_some (k : Nat) (l : List (List Int)) (hl : l.length < 1000) (hk : 1000 ≤ k) (h : ∀ s ∈ l, sh s) : cshownames k l = some (l.all nameB) := by
  rw [fshownames_e, fshownames_t, ctf_string k l nameB hl hk fun x hx => name1_some k x (h x hx) hk, Option.bind_some, Bool.not_not]
def rowB (m : Nat) (l : List (List Int)) : Bool := decide (1 ≤ l.length) && (decide (l.length ≤ m) && l.all nameB)
theorem row_some (k : Nat) (m : Nat) (l : List (List Int)) (hl : l.length < 1000) (hk : 1000 ≤ k) (h : ∀ s ∈ l, sh s) : cshowrow k (l, (m : Int)) = some (rowB m l) := by
  rw [fshowrow_e, fshowrow_t, names_some k l hl hk h, Option.bind_some]
  unfold rowB
  simp only [cd]
  by_cases h1 : 1 ≤ l.length
  · rw [if_pos (by omega)]
    by_cases h2 : l.length ≤ m
    · rw [if_pos (by omega)]; simp [h1, h2]
    · rw [if_neg (by omega)]; simp [h2]
  · rw [if_neg (by omega)]; simp [h1]
theorem rnames_some (k : Nat) (m : Nat) (l : List (List Int)) (hl : l.length < 1000) (hk : 1000 ≤ k) (h : ∀ s ∈ l, sh s) : cr06Names k (l, (m : Int)) = some (rowB m l) := by
  rw [fr06Names_e, fr06Names_t]
  have L := all_loop0 l nameB (fun j i => (fr06Names k).L 4 [] j (fr06Names_s4 (l, i))) (some false) (some true)
    (fun j i x hx => by
      rw [fr06Names_el4, fr06Names_tl4, lt_at hx, idx_at hx, rname_some k x (h x (at_mem hx)) hk, Option.bind_some, suc_at hx (by omega)]
      cases nameB x <;> rfl)
    (fun j => by rw [fr06Names_el4, fr06Names_tl4, lt_end]) k (by omega)
  rw [L]
  unfold rowB
  simp only [cd]
  by_cases h1 : 1 ≤ l.length
  · rw [if_neg (by omega)]
    by_cases h2 : l.length ≤ m
    · rw [if_neg (by omega)]; cases l.all nameB <;> simp [h1, h2]
    · rw [if_pos (by omega)]; simp [h2]
  · rw [if_pos (by omega)]; simp [h1]
end Go.Proofs.YtipcabmhdokfjaaGreatDoorV

/-! show: which networks have a text, 2: the parts of a network, both ways. -/
set_option linter.unusedVariables false
set_option linter.unusedSimpArgs false
namespace Go.Proofs.YtipcabmhdokfjaaGreatDoorV
open Go Go.RowKit

def grB (n : Int) : Bool := !(decide (n < -999999999999999999)) && (!(decide (n > 999999999999999999)) && true)
def headB (h : YT1) : Bool :=
  nameB h.1 && (numB h.2.1 && (numB h.2.2.1 && ((numB h.2.2.2.1.1 && numB h.2.2.2.1.2.1) && (numB h.2.2.2.2.1 && (!(decide (h.2.2.2.2.2.1 < -999999999999999999)) && (!(decide (h.2.2.2.2.2.1 > 999999999999999999)) &&
    (numB h.2.2.2.2.2.2.1 && (numB h.2.2.2.2.2.2.2.1 && (numB h.2.2.2.2.2.2.2.2.1 && true)))))))))
def pedB (p : YT2) : Bool := nameB p.1 && (nameB p.2.1 && (numB p.2.2.1 && (numB p.2.2.2.1 && (numB p.2.2.2.2.1 && true))))
def phaseB (x : YT3) : Bool := nameB x.1 && (rowB 16 x.2.1 && true)
def ringB (r : YT4) : Bool := rowB 4 r.2.1
def groupB (g : List YT4 × Unit) : Bool := !(decide (((g.1.length : Nat) : Int) < 1)) && (!(decide (((g.1.length : Nat) : Int) > 2)) && g.1.all ringB)
def foeB (f : YT5) : Bool := nameB f.1 && (nameB f.2.1 && true)
def stopB (s : YT7) : Bool := nameB s.1 && (nameB s.2.1 && (nameB s.2.2.1 && (numB s.2.2.2.1 && (numB s.2.2.2.2.1 && true))))
def leB {α : Type} (l : List α) (m : Int) : Bool := !(decide (((l.length : Nat) : Int) > m))
def nodeB (n : YT6) : Bool :=
  nameB n.1 && (leB n.2.1 16 && (leB n.2.2.1 8 && (leB n.2.2.2.1 16 && (leB n.2.2.2.2.1 4 && (leB n.2.2.2.2.2.1 64 &&
    (n.2.1.all headB && (n.2.2.1.all pedB && (n.2.2.2.1.all phaseB && (n.2.2.2.2.1.all groupB && n.2.2.2.2.2.1.all foeB)))))))))
abbrev NetT := Int × Int × Int × Int × Int × List YT6 × List YT7 × Int × Int
def netB (n : NetT) : Bool :=
  numB n.1 && (numB n.2.1 && (numB n.2.2.1 && ((numB n.2.2.2.1 && numB n.2.2.2.2.1) && (numB n.2.2.2.2.2.2.2.1 && (numB n.2.2.2.2.2.2.2.2 && (leB n.2.2.2.2.2.1 12 && (leB n.2.2.2.2.2.2.1 12 &&
    (n.2.2.2.2.2.1.all nodeB && n.2.2.2.2.2.2.1.all stopB))))))))
/-- A small network. -/
structure NodeS (n : YT6) : Prop where
  nm : sh n.1
  hl : n.2.1.length ≤ 50
  hd : n.2.1.length ≤ 16 → ∀ h ∈ n.2.1, sh h.1
  pl : n.2.2.1.length ≤ 50
  pd : ∀ p ∈ n.2.2.1, sh p.1 ∧ sh p.2.1
  xl : n.2.2.2.1.length ≤ 50
  xd : ∀ x ∈ n.2.2.2.1, sh x.1 ∧ x.2.1.length ≤ 50 ∧ (x.2.1.length ≤ 50 → ∀ s ∈ x.2.1, sh s)
  gl : n.2.2.2.2.1.length ≤ 50
  gd : ∀ g ∈ n.2.2.2.2.1, g.1.length ≤ 5 ∧ ∀ r ∈ g.1, r.2.1.length ≤ 50 ∧ (r.2.1.length ≤ 50 → ∀ s ∈ r.2.1, sh s)
  fl : n.2.2.2.2.2.1.length ≤ 80
  fd : ∀ f ∈ n.2.2.2.2.2.1, sh f.1 ∧ sh f.2.1
structure NetS (n : NetT) : Prop where
  nl : n.2.2.2.2.2.1.length ≤ 15
  nd : ∀ x ∈ n.2.2.2.2.2.1, NodeS x
  sl : n.2.2.2.2.2.2.1.length ≤ 15
  sd : ∀ s ∈ n.2.2.2.2.2.2.1, sh s.1 ∧ sh s.2.1 ∧ sh s.2.2.1
theorem many {α : Type} (l : List α) (m : Int) (p : α → Bool) {c : Option Bool} (hc : ¬ ((l.length : Nat) : Int) > m → c = some (!(l.all p))) :
    (bif decide (((l.length : Nat) : Int) > m) then some true else c.bind fun o => some o) = some (!(leB l m && l.all p)) := by
  unfold leB
  by_cases h : ((l.length : Nat) : Int) > m
  · simp [h]
  · rw [hc h]; simp [h]
section
variable (k : Nat) (hk : 1000 ≤ k)
include hk
theorem badHead_some (h : YT1) (hs : sh h.1) : cshowbadHead k (h.1, h.2.1, h.2.2.1, h.2.2.2.1.1, h.2.2.2.1.2.1, h.2.2.2.2.1, h.2.2.2.2.2.1, h.2.2.2.2.2.2.1, h.2.2.2.2.2.2.2.1, h.2.2.2.2.2.2.2.2.1, h.2.2.2.2.2.2.2.2.2.1) = some (!headB h) := by
  rw [fshowbadHead_e, fshowbadHead_t, names_some k _ (by simp) hk (by simpa using hs), Option.bind_some, nums_some k _ (by simp) hk, Option.bind_some]
  refine (chT (chT (chN (b := !(decide (h.2.2.2.2.2.1 > 999999999999999999))) (by simp)))).trans ?_
  refine congrArg (fun b => some (!b)) ?_
  unfold headB
  simp only [List.all_cons, List.all_nil, Bool.and_true, Bool.and_assoc]
  generalize (!decide (h.2.2.2.2.2.1 < -999999999999999999)) = x
  generalize (!decide (h.2.2.2.2.2.1 > 999999999999999999)) = y
  ac_rfl
theorem badPed_some (p : YT2) (hs : sh p.1 ∧ sh p.2.1) : cshowbadPed k (p.1, p.2.1, p.2.2.1, p.2.2.2.1, p.2.2.2.2.1, p.2.2.2.2.2.1) = some (!pedB p) := by
  rw [fshowbadPed_e, fshowbadPed_t, names_some k _ (by simp) hk (by simpa using hs), Option.bind_some, nums_some k _ (by simp) hk, Option.bind_some]
  refine (chT rfl).trans ?_
  unfold pedB
  simp only [List.all_cons, List.all_nil, Bool.and_true, Bool.and_assoc]
theorem badPhase_some (x : YT3) (hs : sh x.1 ∧ x.2.1.length ≤ 50 ∧ (x.2.1.length ≤ 50 → ∀ s ∈ x.2.1, sh s)) : cshowbadPhase k (x.1, x.2.1, x.2.2.1) = some (!phaseB x) := by
  rw [fshowbadPhase_e, fshowbadPhase_t, names_some k _ (by simp) hk (by simpa using hs.1), Option.bind_some, show (16 : Int) = ((16 : Nat) : Int) from rfl, row_some k 16 _ (by omega) hk (hs.2.2 hs.2.1), Option.bind_some]
  refine (chT rfl).trans ?_
  unfold phaseB
  simp only [List.all_cons, List.all_nil, Bool.and_true, Bool.and_assoc]
theorem badRing_some (r : YT4) (hs : r.2.1.length ≤ 50 ∧ (r.2.1.length ≤ 50 → ∀ s ∈ r.2.1, sh s)) : cshowbadRing k (r.1, r.2.1) = some (!ringB r) := by
  rw [fshowbadRing_e, fshowbadRing_t, show (4 : Int) = ((4 : Nat) : Int) from rfl, row_some k 4 _ (by omega) hk (hs.2 hs.1), Option.bind_some]
  rfl
theorem badGroup_some (g : List YT4 × Unit) (hs : g.1.length ≤ 5 ∧ ∀ r ∈ g.1, r.2.1.length ≤ 50 ∧ (r.2.1.length ≤ 50 → ∀ s ∈ r.2.1, sh s)) : cshowbadGroup k g.1 = some (!groupB g) := by
  rw [fshowbadGroup_e, fshowbadGroup_t, ctf_Row k g.1 ringB (by omega) hk fun r hr => badRing_some k hk r (hs.2 r hr)]
  exact chN (chN rfl)
theorem badFoe_some (f : YT5) (hs : sh f.1 ∧ sh f.2.1) : cshowbadFoe k (f.1, f.2.1, f.2.2.1) = some (!foeB f) := by
  rw [fshowbadFoe_e, fshowbadFoe_t, names_some k _ (by simp) hk (by simpa using hs), Option.bind_some]
  unfold foeB
  simp only [List.all_cons, List.all_nil]
theorem badStop_some (s : YT7) (hs : sh s.1 ∧ sh s.2.1 ∧ sh s.2.2.1) : cshowbadStop k (s.1, s.2.1, s.2.2.1, s.2.2.2.1, s.2.2.2.2.1, s.2.2.2.2.2.1) = some (!stopB s) := by
  rw [fshowbadStop_e, fshowbadStop_t, names_some k _ (by simp) hk (by simpa using hs), Option.bind_some, nums_some k _ (by simp) hk, Option.bind_some]
  refine (chT rfl).trans ?_
  unfold stopB
  simp only [List.all_cons, List.all_nil, Bool.and_true, Bool.and_assoc]
theorem badNode_some (n : YT6) (hs : NodeS n) : cshowbadNode k (n.1, n.2.1, n.2.2.1, n.2.2.2.1, n.2.2.2.2.1, n.2.2.2.2.2.1, n.2.2.2.2.2.2.1) = some (!nodeB n) := by
  have e1 : cshowbad_Head k (n.2.1, 16) = some (!(leB n.2.1 16 && n.2.1.all headB)) := by
    rw [fshowbad_Head_e, fshowbad_Head_t]
    exact many n.2.1 16 headB fun hc => ctf_Head k n.2.1 headB (by have := hs.hl; omega) hk fun h hh => badHead_some k hk h (hs.hd (by omega) h hh)
  have e2 : cshowbad_Ped k (n.2.2.1, 8) = some (!(leB n.2.2.1 8 && n.2.2.1.all pedB)) := by
    rw [fshowbad_Ped_e, fshowbad_Ped_t]
    exact many _ 8 pedB fun hc => ctf_Ped k _ pedB (by have := hs.pl; omega) hk fun h hh => badPed_some k hk h (hs.pd h hh)
  have e3 : cshowbad_Phase k (n.2.2.2.1, 16) = some (!(leB n.2.2.2.1 16 && n.2.2.2.1.all phaseB)) := by
    rw [fshowbad_Phase_e, fshowbad_Phase_t]
    exact many _ 16 phaseB fun hc => ctf_Phase k _ phaseB (by have := hs.xl; omega) hk fun h hh => badPhase_some k hk h (hs.xd h hh)
  have e4 : cshowbad_Group k (n.2.2.2.2.1, 4) = some (!(leB n.2.2.2.2.1 4 && n.2.2.2.2.1.all groupB)) := by
    rw [fshowbad_Group_e, fshowbad_Group_t]
    exact many _ 4 groupB fun hc => ctf_Group k _ groupB (by have := hs.gl; omega) hk fun h hh => badGroup_some k hk h (hs.gd h hh)
  have e5 : cshowbad_Foe k (n.2.2.2.2.2.1, 64) = some (!(leB n.2.2.2.2.2.1 64 && n.2.2.2.2.2.1.all foeB)) := by
    rw [fshowbad_Foe_e, fshowbad_Foe_t]
    exact many _ 64 foeB fun hc => ctf_Foe k _ foeB (by have := hs.fl; omega) hk fun h hh => badFoe_some k hk h (hs.fd h hh)
  rw [fshowbadNode_e, fshowbadNode_t, names_some k _ (by simp) hk (by simpa using hs.nm), Option.bind_some, e1, Option.bind_some, e2, Option.bind_some, e3, Option.bind_some, e4, Option.bind_some, e5, Option.bind_some]
  refine (chT (chT (chT (chT (chT rfl))))).trans ?_
  refine congrArg (fun b => some (!b)) ?_
  unfold nodeB
  simp only [List.all_cons, List.all_nil, Bool.and_true, Bool.and_assoc]
  ac_rfl
theorem right_net (n : NetT) (hs : NetS n) : cshowRight k n = some (netB n) := by
  have e1 : cshowbad_Node k (n.2.2.2.2.2.1, 12) = some (!(leB n.2.2.2.2.2.1 12 && n.2.2.2.2.2.1.all nodeB)) := by
    rw [fshowbad_Node_e, fshowbad_Node_t]
    exact many _ 12 nodeB fun hc => ctf_Node k _ nodeB (by have := hs.nl; omega) hk fun h hh => badNode_some k hk h (hs.nd h hh)
  have e2 : cshowbad_Stop k (n.2.2.2.2.2.2.1, 12) = some (!(leB n.2.2.2.2.2.2.1 12 && n.2.2.2.2.2.2.1.all stopB)) := by
    rw [fshowbad_Stop_e, fshowbad_Stop_t]
    exact many _ 12 stopB fun hc => ctf_Stop k _ stopB (by have := hs.sl; omega) hk fun h hh => badStop_some k hk h (hs.sd h hh)
  obtain ⟨a0, a1, a2, a3, a4, a5, a6, a7, a8⟩ := n
  rw [fshowRight_e, fshowRight_t, nums_some k _ (by simp) hk, Option.bind_some]
  simp only at e1 e2
  rw [e1, Option.bind_some, e2, Option.bind_some]
  have : ∀ a b c : Bool, (bif a then (bif !!b then some !!c else some false) else some false) = some (a && (b && c)) := by decide
  rw [this]
  refine congrArg some ?_
  unfold netB
  simp only [List.all_cons, List.all_nil, Bool.and_true, Bool.and_assoc]
  ac_rfl
end
end Go.Proofs.YtipcabmhdokfjaaGreatDoorV

/-! show: which networks have a text, 3: the reference's way; the small networks. -/
set_option linter.unusedVariables false
set_option linter.unusedSimpArgs false
namespace Go.Proofs.YtipcabmhdokfjaaGreatDoorV
open Go Go.RowKit

section
variable {R : Type}
theorem ite2 {a b : Bool} {x e y : R} (h : y = if b then x else e) : (if a then y else e) = if a && b then x else e := by
  rw [h]; cases a <;> cases b <;> rfl
theorem iteSome (b : Bool) : (if b then some true else some false) = some b := by cases b <;> rfl
end
section
variable (k : Nat) (hk : 1000 ≤ k)
include hk
theorem rnode_some (n : YT6) (hs : NodeS n) : cr06node k (n.1, n.2.1, n.2.2.1, n.2.2.2.1, n.2.2.2.2.1, n.2.2.2.2.2.1, n.2.2.2.2.2.2.1) = some (nodeB n) := by
  obtain ⟨a0, a1, a2, a3, a4, a5, a6, a7⟩ := n
  have L5 := all_loop0 a5 foeB (fun j i => (fr06node k).L 32 [] j (fr06node_s32 (i, a0, a1, a2, a3, a4, a5, a6))) (some false) (some true)
    (fun j i x hx => by
      have hx2 := hs.fd x (at_mem hx)
      have := hs.fl
      simp only at this
      rw [fr06node_el32, fr06node_tl32, lt_at hx, idx_at hx, idx_at hx, rname_some k _ hx2.1 hk, Option.bind_some, rname_some k _ hx2.2 hk, Option.bind_some, suc_at hx (by omega)]
      exact ch (ch ch1))
    (fun j => by rw [fr06node_el32, fr06node_tl32, lt_end]) k (by have := hs.fl; simp only at this; omega)
  have L4 := all_loop0 a4 groupB (fun j i => (fr06node k).L 21 [] j (fr06node_s21 (i, a0, a1, a2, a3, a4, a5, a6))) (some false) _
    (fun j i x hx => by
      have hx2 := hs.gd x (at_mem hx)
      have := hs.gl
      simp only at this
      have LI := all_loop0 x.1 ringB (fun j' i' => (fr06node k).L 27 [j] j' (fr06node_s27 ((i : Int), x.1, i', a0, a1, a2, a3, a4, a5, a6))) (some false) _
        (fun j' i' r hr => by
          have hr2 := hx2.2 r (at_mem hr)
          rw [fr06node_el27, fr06node_tl27, lt_at hr, idx_at hr, show (4 : Int) = ((4 : Nat) : Int) from rfl, rnames_some k 4 _ (by omega) hk (hr2.2 hr2.1), Option.bind_some, suc_at hr (by omega)]
          show _ = if rowB 4 r.2.1 then _ else _
          cases rowB 4 r.2.1 <;> rfl)
        (fun j' => by rw [fr06node_el27, fr06node_tl27, lt_end, suc_at hx (by omega)]) k (by omega)
      rw [fr06node_el21, fr06node_tl21, lt_at hx, idx_at hx, LI]
      exact chD (chD rfl))
    (fun j => by rw [fr06node_el21, fr06node_tl21, lt_end, L5]) k (by have := hs.gl; simp only at this; omega)
  have L3 := all_loop0 a3 phaseB (fun j i => (fr06node k).L 16 [] j (fr06node_s16 (i, a0, a1, a2, a3, a4, a5, a6))) (some false) _
    (fun j i x hx => by
      have hx2 := hs.xd x (at_mem hx)
      have := hs.xl
      simp only at this
      rw [fr06node_el16, fr06node_tl16, lt_at hx, idx_at hx, idx_at hx, rname_some k _ hx2.1 hk, Option.bind_some, show (16 : Int) = ((16 : Nat) : Int) from rfl, rnames_some k 16 _ (by omega) hk (hx2.2.2 hx2.2.1), Option.bind_some, suc_at hx (by omega)]
      exact ch (ch ch1))
    (fun j => by rw [fr06node_el16, fr06node_tl16, lt_end, L4]) k (by have := hs.xl; simp only at this; omega)
  have L2 := all_loop0 a2 pedB (fun j i => (fr06node k).L 10 [] j (fr06node_s10 (i, a0, a1, a2, a3, a4, a5, a6))) (some false) _
    (fun j i x hx => by
      have hx2 := hs.pd x (at_mem hx)
      have := hs.pl
      simp only at this
      rw [fr06node_el10, fr06node_tl10, lt_at hx, idx_at hx, rname_some k _ hx2.1 hk, Option.bind_some, rname_some k _ hx2.2 hk, Option.bind_some, rnum_some, Option.bind_some, rnum_some, Option.bind_some, rnum_some, Option.bind_some, suc_at hx (by omega)]
      exact ch (ch (ch (ch (ch ch1)))))
    (fun j => by rw [fr06node_el10, fr06node_tl10, lt_end, L3]) k (by have := hs.pl; simp only at this; omega)
  rw [fr06node_e, fr06node_t, rname_some k a0 hs.nm hk, Option.bind_some]
  by_cases h16 : a1.length ≤ 16
  · have L1 := all_loop0 a1 headB (fun j i => (fr06node k).L 4 [] j (fr06node_s4 (i, a0, a1, a2, a3, a4, a5, a6))) (some false) _
      (fun j i x hx => by
        have hx2 := hs.hd h16 x (at_mem hx)
        have := hs.hl
        simp only at this
        rw [fr06node_el4, fr06node_tl4, lt_at hx, idx_at hx, rname_some k _ hx2 hk, Option.bind_some, rnum_some, Option.bind_some, rnum_some, Option.bind_some, rfrac_some, Option.bind_some, rnum_some, Option.bind_some, rnum_some, Option.bind_some, rnum_some, Option.bind_some, rnum_some, Option.bind_some, suc_at hx (by omega)]
        exact ch (ch (ch (ch (ch (chD (chD (ch (ch (ch ch1))))))))))
      (fun j => by rw [fr06node_el4, fr06node_tl4, lt_end, L2]) k (by omega)
    rw [L1]
    exact (ch (chD (chD (chD (chD (chD (ite2 (ite2 (ite2 (ite2 rfl)))))))))).trans (iteSome _)
  · have hb : nodeB (a0, a1, a2, a3, a4, a5, a6, a7) = false := by
      unfold nodeB leB
      have : (((a1.length : Nat) : Int) > 16) := by omega
      simp [this]
    rw [hb, cd (p := ((a1.length : Nat) : Int) > 16), if_pos (by omega)]
    cases nameB a0 <;> rfl
theorem rright_net (n : NetT) (hs : NetS n) : cr06Right k n = some (netB n) := by
  obtain ⟨a0, a1, a2, a3, a4, a5, a6, a7, a8⟩ := n
  have L2 := all_loop0 a6 stopB (fun j i => (fr06Right k).L 9 [] j (fr06Right_s9 (i, a0, a1, a2, a3, a4, a5, a6, a7, a8))) (some false) (some true)
    (fun j i x hx => by
      have hx2 := hs.sd x (at_mem hx)
      have := hs.sl
      simp only at this
      rw [fr06Right_el9, fr06Right_tl9, lt_at hx, idx_at hx, rname_some k _ hx2.1 hk, Option.bind_some, rname_some k _ hx2.2.1 hk, Option.bind_some, rname_some k _ hx2.2.2 hk, Option.bind_some, rnum_some, Option.bind_some, rnum_some, Option.bind_some, suc_at hx (by omega)]
      exact ch (ch (ch (ch (ch ch1)))))
    (fun j => by rw [fr06Right_el9, fr06Right_tl9, lt_end]) k (by have := hs.sl; simp only at this; omega)
  have L1 := all_loop0 a5 nodeB (fun j i => (fr06Right k).L 4 [] j (fr06Right_s4 (i, a0, a1, a2, a3, a4, a5, a6, a7, a8))) (some false) _
    (fun j i x hx => by
      have hx2 := hs.nd x (at_mem hx)
      have := hs.nl
      simp only at this
      rw [fr06Right_el4, fr06Right_tl4, lt_at hx, idx_at hx, rnode_some k hk x hx2, Option.bind_some, suc_at hx (by omega)]
      cases nodeB x <;> rfl)
    (fun j => by rw [fr06Right_el4, fr06Right_tl4, lt_end, L2]) k (by have := hs.nl; simp only at this; omega)
  rw [fr06Right_e, fr06Right_t, rnum_some, Option.bind_some, rnum_some, Option.bind_some, rnum_some, Option.bind_some, rfrac_some, Option.bind_some, rnum_some, Option.bind_some, rnum_some, Option.bind_some, L1]
  exact (ch (ch (ch (ch (ch (ch (chD (chD (ite2 rfl))))))))).trans (iteSome _)
end
end Go.Proofs.YtipcabmhdokfjaaGreatDoorV

/-! show: the small networks. -/
set_option linter.unusedVariables false
set_option linter.unusedSimpArgs false
namespace Go.Proofs.YtipcabmhdokfjaaGreatDoorV
open Go Go.RowKit

/-- An answer that gives a property, if it is yes. -/
def Gives (c : Option Bool) (P : Prop) : Prop := ∃ b : Bool, c = some b ∧ (b = true → P)
theorem gives_no {P : Prop} : Gives (some false) P := ⟨false, rfl, fun h => by cases h⟩
theorem gives_if {p P : Prop} [Decidable p] {c : Option Bool} (h : ¬ p → Gives c P) : Gives (bif decide p then some false else c) P := by
  by_cases hp : p
  · rw [cd, if_pos hp]; exact gives_no
  · rw [cd, if_neg hp]; exact h hp
theorem gives_bind {P Q : Prop} {a : Option Bool} {c : Option Bool} (h1 : Gives a P) (h2 : P → Gives c Q) : Gives (a.bind fun o => bif !o then some false else c) Q := by
  obtain ⟨b, rfl, hb⟩ := h1
  cases b with
  | false => exact gives_no
  | true => exact h2 (hb rfl)
theorem step_bind {P : Prop} {a c : Option Bool} (h1 : Gives a P) : ∃ b : Bool, (a.bind fun o => bif !o then some false else c) = (if b then c else some false) ∧ (b = true → P) := by
  obtain ⟨b, rfl, hb⟩ := h1
  exact ⟨b, by cases b <;> rfl, hb⟩
theorem gives_mono {P Q : Prop} {c : Option Bool} (h : Gives c P) (h2 : P → Q) : Gives c Q := by
  obtain ⟨b, e, hb⟩ := h
  exact ⟨b, e, fun h => h2 (hb h)⟩
section
variable (k : Nat) (hk : 1000 ≤ k)
include hk
theorem strings_gives (l : List (List Int)) : Gives (cw06strings k l) (l.length ≤ 50 ∧ (l.length ≤ 50 → ∀ s ∈ l, sh s)) := by
  rw [fw06strings_e, fw06strings_t]
  by_cases h50 : l.length ≤ 50
  · have L := ex_loop0 l sh True (fun j i => (fw06strings k).L 2 [] j (fw06strings_s2 (l, i)))
      (fun j i x hx => by
        have := at_lt hx
        rw [fw06strings_el2, fw06strings_tl2, lt_at hx, cd, if_pos (by omega), idx_at hx, cd, suc_at hx (by omega)]
        by_cases h : x.length ≤ 100
        · exact ⟨true, by rw [if_neg (by omega)]; rfl, fun _ => h⟩
        · exact ⟨false, by rw [if_pos (by omega)]; rfl, fun h => by cases h⟩)
      (fun j => ⟨true, by rw [fw06strings_el2, fw06strings_tl2, lt_end]; simp; omega, fun _ => trivial⟩) k (by omega)
    exact gives_mono L fun h => ⟨h50, fun _ => h.1⟩
  · have L : ∀ j i : Nat, i ≤ 50 → 50 < i + j → (fw06strings k).L 2 [] j (fw06strings_s2 (l, (i : Int))) = some false := by
      intro j
      induction j with
      | zero => intro i h1 h2; omega
      | succ j ih =>
        intro i h1 h2
        rw [fw06strings_el2, fw06strings_tl2, cd, if_pos (by omega), cd]
        by_cases hi : i < 50
        · obtain ⟨x, hx⟩ : ∃ x, l[i]? = some x := ⟨l[i], List.getElem?_eq_getElem (by omega)⟩
          rw [if_pos (by omega), idx_at hx, cd, w64 (by omega), suc_nat, ih (i + 1) (by omega) (by omega)]
          split <;> rfl
        · rw [if_neg (by omega)]
          simp; omega
    have := L k 0 (by omega) (by omega)
    rw [show (0 : Int) = ((0 : Nat) : Int) from rfl, this]
    exact gives_no
theorem node_gives (n : YT6) : Gives (cw06node k (n.1, n.2.1, n.2.2.1, n.2.2.2.1, n.2.2.2.2.1, n.2.2.2.2.2.1, n.2.2.2.2.2.2.1)) (NodeS n) := by
  obtain ⟨a0, a1, a2, a3, a4, a5, a6, a7⟩ := n
  rw [fw06node_e, fw06node_t]
  refine gives_if fun (h1 : ¬ ((a1.length : Nat) : Int) > 50) => gives_if fun (h2 : ¬ ((a2.length : Nat) : Int) > 50) => gives_if fun (h3 : ¬ ((a3.length : Nat) : Int) > 50) => gives_if fun (h4 : ¬ ((a4.length : Nat) : Int) > 50) => gives_if fun (h5 : ¬ ((a5.length : Nat) : Int) > 80) => ?_
  have L5 : Gives ((fw06node k).L 31 [] k (fw06node_s31 (0, a0, a1, a2, a3, a4, a5, a6))) _ := ex_loop0 a5 (fun f => sh f.1 ∧ sh f.2.1) True (fun j i => (fw06node k).L 31 [] j (fw06node_s31 (i, a0, a1, a2, a3, a4, a5, a6)))
    (fun j i x hx => by
      rw [fw06node_el31, fw06node_tl31, lt_at hx, idx_at hx, idx_at hx, suc_at hx (by omega)]
      exact step_bind (gives_mono (strings_gives k hk [x.1, x.2.1]) fun h => by simpa using h.2 (by simp)))
    (fun j => ⟨true, by rw [fw06node_el31, fw06node_tl31, lt_end], fun _ => trivial⟩) k (by omega)
  have L4 : Gives ((fw06node k).L 21 [] k (fw06node_s21 (0, a0, a1, a2, a3, a4, a5, a6))) _ := ex_loop0 a4 (fun g => g.1.length ≤ 5 ∧ ∀ r ∈ g.1, r.2.1.length ≤ 50 ∧ (r.2.1.length ≤ 50 → ∀ s ∈ r.2.1, sh s)) _ (fun j i => (fw06node k).L 21 [] j (fw06node_s21 (i, a0, a1, a2, a3, a4, a5, a6)))
    (fun j i x hx => by
      rw [fw06node_el21, fw06node_tl21, lt_at hx, idx_at hx, cd]
      by_cases hg : ((x.1.length : Nat) : Int) > 5
      · rw [if_pos hg]
        exact ⟨false, rfl, fun h => by cases h⟩
      · rw [if_neg hg]
        have LI : ∀ (j' i' : Nat), x.1.length < i' + j' → i' ≤ x.1.length → ∃ b : Bool, (fw06node k).L 26 [j] j' (fw06node_s26 ((i : Int), (i' : Int), a0, a1, a2, a3, a4, a5, a6)) = (if b then (fw06node k).L 21 [] j (fw06node_s21 (((i + 1 : Nat) : Int), a0, a1, a2, a3, a4, a5, a6)) else some false) ∧ (b = true → ∀ r ∈ x.1.drop i', r.2.1.length ≤ 50 ∧ (r.2.1.length ≤ 50 → ∀ s ∈ r.2.1, sh s)) := by
          intro j'
          induction j' with
          | zero => intro i' h1 h2; omega
          | succ j' ih =>
            intro i' h1 h2
            rw [fw06node_el26, fw06node_tl26, idx_at hx]
            rcases idx_case h2 with rfl | ⟨r, hr⟩
            · rw [lt_end, suc_at hx (by omega)]
              exact ⟨true, rfl, fun _ => by simp⟩
            · rw [lt_at hr, idx_at hx, idx_at hr, suc_at hr (by omega)]
              obtain ⟨b, e, hb⟩ : Gives (cw06strings k r.2.1) (r.2.1.length ≤ 50 ∧ (r.2.1.length ≤ 50 → ∀ s ∈ r.2.1, sh s)) := strings_gives k hk _
              obtain ⟨c, e2, hc⟩ := ih (i' + 1) (by omega) (by have := at_lt hr; omega)
              rw [e, Option.bind_some, e2]
              cases b with
              | false => exact ⟨false, rfl, fun h => by cases h⟩
              | true =>
                refine ⟨c, rfl, fun h => ?_⟩
                rw [at_drop hr]
                intro y hy
                rcases List.mem_cons.1 hy with rfl | hy
                · exact hb rfl
                · exact hc h y hy
        obtain ⟨b, e, hb⟩ := LI k 0 (by omega) (by omega)
        refine ⟨b, e, fun h => ⟨by omega, ?_⟩⟩
        exact hb h)
    (fun j => by rw [fw06node_el21, fw06node_tl21, lt_end]; exact L5) k (by omega)
  have L3 : Gives ((fw06node k).L 16 [] k (fw06node_s16 (0, a0, a1, a2, a3, a4, a5, a6))) _ := ex_loop0 a3 (fun x => sh x.1 ∧ x.2.1.length ≤ 50 ∧ (x.2.1.length ≤ 50 → ∀ s ∈ x.2.1, sh s)) _ (fun j i => (fw06node k).L 16 [] j (fw06node_s16 (i, a0, a1, a2, a3, a4, a5, a6)))
    (fun j i x hx => by
      rw [fw06node_el16, fw06node_tl16, lt_at hx, idx_at hx, idx_at hx, suc_at hx (by omega)]
      obtain ⟨b, e, hb⟩ := strings_gives k hk [x.1]
      rw [e, Option.bind_some]
      cases b with
      | false => exact ⟨false, rfl, fun h => by cases h⟩
      | true =>
        obtain ⟨c, e2, hc⟩ := step_bind (c := (fw06node k).L 16 [] j (fw06node_s16 (((i + 1 : Nat) : Int), a0, a1, a2, a3, a4, a5, a6))) (strings_gives k hk x.2.1)
        exact ⟨c, e2, fun h => ⟨by simpa using (hb rfl).2 (by simp), hc h⟩⟩)
    (fun j => by rw [fw06node_el16, fw06node_tl16, lt_end]; exact L4) k (by omega)
  have L2 : Gives ((fw06node k).L 11 [] k (fw06node_s11 (0, a0, a1, a2, a3, a4, a5, a6))) _ := ex_loop0 a2 (fun p => sh p.1 ∧ sh p.2.1) _ (fun j i => (fw06node k).L 11 [] j (fw06node_s11 (i, a0, a1, a2, a3, a4, a5, a6)))
    (fun j i x hx => by
      rw [fw06node_el11, fw06node_tl11, lt_at hx, idx_at hx, idx_at hx, suc_at hx (by omega)]
      exact step_bind (gives_mono (strings_gives k hk [x.1, x.2.1]) fun h => by simpa using h.2 (by simp)))
    (fun j => by rw [fw06node_el11, fw06node_tl11, lt_end]; exact L3) k (by omega)
  have L1 := app_loop0 1000 a1 (fun h => [h.1]) (fun j i b => (fw06node k).L 5 [] j (fw06node_s5 (i, a0, a1, a2, a3, a4, a5, a6, b))) _
    (fun j i x b hx hb => by
      rw [List.length_singleton] at hb
      rw [fw06node_el5, fw06node_tl5, lt_at hx, idx_at hx, app_ok (by rw [List.length_singleton]; omega) (by rw [List.length_singleton]; omega), suc_at hx (by omega)])
    (fun j b hb => by rw [fw06node_el5, fw06node_tl5, lt_end]) k [a0] (by omega) (by have := flatMap_le (fun h : YT1 => [h.1]) 1 a1 (by simp); simp at this ⊢; omega)
  have eb : [a0] ++ a1.flatMap (fun h : YT1 => [h.1]) = a0 :: a1.map (fun h : YT1 => h.1) := by
    rw [List.singleton_append, List.map_eq_flatMap]
  rw [L1, eb]
  generalize hb : a0 :: a1.map (fun h : YT1 => h.1) = b
  have hl : b.length = a1.length + 1 := by rw [← hb]; simp
  obtain ⟨m, hm, h1m, hm2⟩ : ∃ m : Nat, minI ((b.length : Nat) : Int) 50 = (m : Int) ∧ 1 ≤ m ∧ m ≤ b.length ∧ (b.length ≤ 50 → m = b.length) := by
    by_cases h : b.length ≤ 50
    · exact ⟨b.length, by unfold minI; split <;> omega, by omega, by omega, fun _ => rfl⟩
    · exact ⟨50, by unfold minI; split <;> omega, by omega, by omega, fun h => by omega⟩
  rw [hm, ccutB, if_pos (by omega), show (0 : Int) = ((0 : Nat) : Int) from rfl, cutL_nat, List.drop_zero]
  refine gives_bind (strings_gives k hk _) fun hs => ?_
  have h0 := hs.2 hs.1
  refine gives_mono L2 fun h => ⟨h0 a0 ?_, by simp only; omega, fun h16 y hy => h0 y.1 ?_, by simp only; omega, h.1, by simp only; omega, h.2.1, by simp only; omega, h.2.2.1, by simp only; omega, h.2.2.2.1⟩
  · rw [← hb]
    obtain ⟨m', rfl⟩ : ∃ m', m = m' + 1 := ⟨m - 1, by omega⟩
    rw [List.take_succ_cons]
    exact List.mem_cons_self
  · simp only at h16 hy
    rw [hm2.2 (by omega), List.take_length, ← hb]
    exact List.mem_cons_of_mem _ (List.mem_map_of_mem hy)
theorem few_gives (n : NetT) : Gives (cw06Few k n) (NetS n) := by
  obtain ⟨a0, a1, a2, a3, a4, a5, a6, a7, a8⟩ := n
  rw [fw06Few_e, fw06Few_t]
  refine gives_if fun (h1 : ¬ ((a5.length : Nat) : Int) > 15) => gives_if fun (h2 : ¬ ((a6.length : Nat) : Int) > 15) => ?_
  have L2 : Gives ((fw06Few k).L 9 [] k (fw06Few_s9 (0, a0, a1, a2, a3, a4, a5, a6, a7, a8))) _ := ex_loop0 a6 (fun s => sh s.1 ∧ sh s.2.1 ∧ sh s.2.2.1) True (fun j i => (fw06Few k).L 9 [] j (fw06Few_s9 (i, a0, a1, a2, a3, a4, a5, a6, a7, a8)))
    (fun j i x hx => by
      rw [fw06Few_el9, fw06Few_tl9, lt_at hx, idx_at hx, idx_at hx, idx_at hx, suc_at hx (by omega)]
      exact step_bind (gives_mono (strings_gives k hk [x.1, x.2.1, x.2.2.1]) fun h => by simpa using h.2 (by simp)))
    (fun j => ⟨true, by rw [fw06Few_el9, fw06Few_tl9, lt_end], fun _ => trivial⟩) k (by omega)
  have L1 : Gives ((fw06Few k).L 4 [] k (fw06Few_s4 (0, a0, a1, a2, a3, a4, a5, a6, a7, a8))) _ := ex_loop0 a5 NodeS _ (fun j i => (fw06Few k).L 4 [] j (fw06Few_s4 (i, a0, a1, a2, a3, a4, a5, a6, a7, a8)))
    (fun j i x hx => by
      rw [fw06Few_el4, fw06Few_tl4, lt_at hx, idx_at hx, suc_at hx (by omega)]
      exact step_bind (node_gives k hk x))
    (fun j => by rw [fw06Few_el4, fw06Few_tl4, lt_end]; exact L2) k (by omega)
  exact gives_mono L1 fun h => ⟨by simp only; omega, h.1, by simp only; omega, h.2.1⟩
end
end Go.Proofs.YtipcabmhdokfjaaGreatDoorV

/-! strings.Join over rows of bytes as whole numbers. -/
set_option linter.unusedVariables false
set_option linter.unusedSimpArgs false
namespace Go.Proofs.YtipcabmhdokfjaaGreatDoorV
open Go Go.RowKit

def byB (l : List Int) : Prop := ∀ x ∈ l, 0 ≤ x ∧ x ≤ 255
/-- Rows with a separator between. -/
def joinI (sep : List Int) : List (List Int) → List Int
  | [] => []
  | [x] => x
  | x :: y :: r => x ++ (sep ++ joinI sep (y :: r))
def u8n (l : List UInt8) : List Int := l.map fun b => (b.toNat : Int)
theorem u8n_u8s {l : List Int} (h : byB l) : u8n (u8s l) = l := by
  unfold u8n u8s
  rw [List.map_map]
  conv => rhs; rw [← List.map_id l]
  apply List.map_congr_left
  intro x hx
  have := h x hx
  simp only [Function.comp, id]
  rw [UInt8.toNat_ofNat']
  omega
theorem u8n_app (a b : List UInt8) : u8n (a ++ b) = u8n a ++ u8n b := List.map_append
theorem join_two (sep x y : List UInt8) (r : List (List UInt8)) : Lib.join (x :: y :: r) sep = x ++ (sep ++ Lib.join (y :: r) sep) := by
  rw [Lib.join_cons, Lib.join_cons]
  simp [Lib.joinTail]
theorem u8n_join (sep : List Int) (hs : byB sep) : ∀ (ws : List (List Int)), (∀ w ∈ ws, byB w) → u8n (Lib.join (ws.map u8s) (u8s sep)) = joinI sep ws
  | [], _ => rfl
  | [x], h => by
    rw [List.map_cons, List.map_nil, Lib.join_one, u8n_u8s (h x (by simp))]; rfl
  | x :: y :: r, h => by
    have IH := u8n_join sep hs (y :: r) fun w hw => h w (by simp [hw])
    rw [List.map_cons] at IH
    rw [List.map_cons, List.map_cons, join_two, u8n_app, u8n_app, IH, u8n_u8s (h x (by simp)), u8n_u8s hs]
    rfl
theorem joinS_eq (sep : List Int) (ws : List (List Int)) (hs : byB sep) (hw : ∀ w ∈ ws, byB w) (hl : (joinI sep ws).length ≤ 140737488355328) (hn : ws.length ≤ 140737488355328) : joinS (ws, sep) = some (joinI sep ws) := by
  have e1 : joinB (ws, sep) = Lib.join (ws.map u8s) (u8s sep) := by
    unfold joinB
    simp only [List.map_map]
    rfl
  have e2 := u8n_join sep hs ws hw
  have e3 : (joinB (ws, sep)).length = (joinI sep ws).length := by
    rw [e1, ← e2]
    unfold u8n
    rw [List.length_map]
  unfold joinS
  have hm : maxLen = 9223372036854775807 := rfl
  rw [if_pos ⟨by omega, hn, by omega⟩]
  refine congrArg some ?_
  rw [e1, ← e2]
  rfl
theorem joinI_len (sep : List Int) (m : Nat) : ∀ (ws : List (List Int)), (∀ w ∈ ws, w.length ≤ m) → (joinI sep ws).length ≤ ws.length * (m + sep.length)
  | [], _ => Nat.zero_le _
  | [x], h => by
    have := h x (by simp)
    show x.length ≤ _
    simp
    omega
  | x :: y :: r, h => by
    have IH := joinI_len sep m (y :: r) fun w hw => h w (by simp [hw])
    have := h x (by simp)
    show (x ++ (sep ++ joinI sep (y :: r))).length ≤ _
    rw [List.length_append, List.length_append, List.length_cons (a := x), Nat.add_mul]
    omega
theorem joinI_by (sep : List Int) (hs : byB sep) : ∀ (ws : List (List Int)), (∀ w ∈ ws, byB w) → byB (joinI sep ws)
  | [], _ => fun x hx => by cases hx
  | [x], h => h x (by simp)
  | x :: y :: r, h => by
    have IH := joinI_by sep hs (y :: r) fun w hw => h w (by simp [hw])
    intro z hz
    rcases List.mem_append.1 hz with hz | hz
    · exact h x (by simp) z hz
    · rcases List.mem_append.1 hz with hz | hz
      · exact hs z hz
      · exact IH z hz
end Go.Proofs.YtipcabmhdokfjaaGreatDoorV
