import Derived.Test.YtipcabmhdokfjaaGreatDoorA6
/-! Texts of the proof, joined: G3, G4. -/
set_option linter.unusedVariables false
set_option maxHeartbeats 4000000
set_option maxRecDepth 100000
namespace Go.Proofs.YtipcabmhdokfjaaGreatDoorV
open Go Go.RowKit

/-! carrefour/carrefourref04.one -/
def fr04onei : Sk := ⟨[.lf (.pv (.slice (.int .u8))), .lf (.pv (.int .i64))], [], []⟩
def fr04oneo : Sk := ⟨[.agg [.pv (.int .i64), .pv .str, .pv (.int .i64), .pv (.int .i64)], .lf (.pv (.int .i64))], [], []⟩
def fr04one_k3 : Sk := ⟨sparse 114 [(0, .lf (.pv (.slice (.int .u8)))), (1, .lf (.pv (.int .i64))), (4, .lf (.ptr 0 0)), (6, .lf (.pv (.int .i64)))], [[.pv (.int .i64), .pv .str, .pv (.int .i64), .pv (.int .i64)]], []⟩
abbrev fr04one_T3 := (List (Int)) × (Int) × (Int) × (Int) × (List Int) × (Int) × (Int)
def fr04one_s3 : fr04one_T3 → St := stOf fr04one_k3 162
def fr04one_k10 : Sk := ⟨sparse 114 [(0, .lf (.pv (.slice (.int .u8)))), (1, .lf (.pv (.int .i64))), (4, .lf (.ptr 0 0)), (6, .lf (.pv (.int .i64))), (7, .lf (.pv (.int .i64)))], [[.pv (.int .i64), .pv .str, .pv (.int .i64), .pv (.int .i64)]], []⟩
abbrev fr04one_T10 := (List (Int)) × (Int) × (Int) × (Int) × (Int) × (List Int) × (Int) × (Int)
def fr04one_s10 : fr04one_T10 → St := stOf fr04one_k10 162
abbrev fr04oneT := (List (Int)) × (Int)
abbrev fr04oneR := (Int) × (List Int) × (Int) × (Int) × (Int)
noncomputable def fr04oneE (k : Nat) : List (Nat × List Sig) := [(183, [sgr04small k]), (184, [sgr04digit k]), (185, [sgr04sign k])]
noncomputable def fr04one (k : Nat) : FnX fr04oneR := mkX { P := Tryz.prog, env := lookS (fr04oneE k), n := 162, npB := 0, npO := 0, hint := fun i => look none [(3, some fr04one_k3), (10, some fr04one_k10)] i, pops := [], bl := [54, 56] } k Tryz.f132 fr04oneo
noncomputable def cr04one (k : Nat) : fr04oneT → Option fr04oneR := fnOf (fr04one k).C k Tryz.f132 fr04onei fr04oneo
noncomputable def sgr04one (k : Nat) : Sig := ⟨fr04onei, fr04oneo, mkFun fr04onei.tys fr04oneo.tys (cr04one k)⟩
noncomputable def fr04one_t (k : Nat) (J : JF fr04oneR) (L : LF fr04oneR) : fr04oneT → Option fr04oneR
  | (a0, a1) => bif (inB a1 (List.length a0)) then ((cr04small k) ((rdI a0 (Int.toNat a1)))).bind fun o1 => bif o1 then (L 3 [] k (fr04one_s3 (a0, a1, a1, (0 : Int), ([] : List Int), (0 : Int), (0 : Int)))) else (bif (inB a1 (List.length a0)) then ((cr04digit k) ((rdI a0 (Int.toNat a1)))).bind fun o2 => bif o2 then (L 10 [] k (fr04one_s10 (a0, a1, a1, (0 : Int), (0 : Int), ([] : List Int), (0 : Int), (0 : Int)))) else (bif (inB a1 (List.length a0)) then ((cr04sign k) ((rdI a0 (Int.toNat a1)))).bind fun o3 => bif o3 then (bif (cutB a1 (IntKind.wrap .i64 (a1 + (1 : Int))) (List.length a0)) then some ((3 : Int), (cutL a0 a1 (IntKind.wrap .i64 (a1 + (1 : Int)))), (0 : Int), a1, (0 : Int)) else none) else (some ((0 : Int), ([] : List Int), (0 : Int), (0 : Int), (40 : Int))) else none) else none) else none
theorem fr04one_e (k : Nat) (x : fr04oneT) : cr04one k x = fr04one_t k (fr04one k).J (fr04one k).L x := by
  apply cutX (fr04one k) [] [] (st0 (fr04one k).C Tryz.f132 fr04onei x) [] [(3, [], k), (10, [], k)] (fr04one_t k · · x) <;> intros <;> kernel_rfl
noncomputable def fr04one_tl3 (k j3 : Nat) (J : JF fr04oneR) (L : LF fr04oneR) : fr04one_T3 → Option fr04oneR
  | (a0, a1, a2, a3, a4, a5, a6) => bif (decide (a2 < ((List.length a0 : Nat) : Int))) then (bif (inB a2 (List.length a0)) then ((cr04small k) ((rdI a0 (Int.toNat a2)))).bind fun o1 => bif o1 then (L 3 [] j3 (fr04one_s3 (a0, a1, (IntKind.wrap .i64 (a2 + (1 : Int))), a3, a4, a5, a6))) else (bif (inB a2 (List.length a0)) then ((cr04digit k) ((rdI a0 (Int.toNat a2)))).bind fun o2 => bif o2 then (L 3 [] j3 (fr04one_s3 (a0, a1, (IntKind.wrap .i64 (a2 + (1 : Int))), a3, a4, a5, a6))) else (bif (inB a2 (List.length a0)) then bif ((rdI a0 (Int.toNat a2)) == (95 : Int)) then (L 3 [] j3 (fr04one_s3 (a0, a1, (IntKind.wrap .i64 (a2 + (1 : Int))), a3, a4, a5, a6))) else (bif (decide ((IntKind.wrap .i64 (a2 - a1)) > (24 : Int))) then (some ((0 : Int), ([] : List Int), (0 : Int), (0 : Int), (4 : Int))) else (bif (cutB a1 a2 (List.length a0)) then some ((1 : Int), (cutL a0 a1 a2), (0 : Int), a1, (0 : Int)) else none)) else none) else none) else none) else (bif (decide ((IntKind.wrap .i64 (a2 - a1)) > (24 : Int))) then (some ((0 : Int), ([] : List Int), (0 : Int), (0 : Int), (4 : Int))) else (bif (cutB a1 a2 (List.length a0)) then some ((1 : Int), (cutL a0 a1 a2), (0 : Int), a1, (0 : Int)) else none))
theorem fr04one_el3 (k j3 : Nat) (x : fr04one_T3) : (fr04one k).L 3 [] (j3 + 1) (fr04one_s3 x) = fr04one_tl3 k j3 (fr04one k).J (fr04one k).L x := by
  apply cutX (fr04one k) [.r, .r, .l, .b, .r, .t, .l, .b, .b] [j3] (fr04one_s3 x) [] [(3, [], j3), (10, [], k)] (fr04one_tl3 k j3 · · x) <;> intros <;> kernel_rfl
noncomputable def fr04one_tl10 (k j10 : Nat) (J : JF fr04oneR) (L : LF fr04oneR) : fr04one_T10 → Option fr04oneR
  | (a0, a1, a2, a3, a4, a5, a6, a7) => bif (decide (a2 < ((List.length a0 : Nat) : Int))) then (bif (inB a2 (List.length a0)) then ((cr04digit k) ((rdI a0 (Int.toNat a2)))).bind fun o1 => bif o1 then (bif (decide ((IntKind.wrap .i64 (a2 - a1)) < (18 : Int))) then (bif (inB a2 (List.length a0)) then L 10 [] j10 (fr04one_s10 (a0, a1, (IntKind.wrap .i64 (a2 + (1 : Int))), (IntKind.wrap .i64 ((IntKind.wrap .i64 ((10 : Int) * a3)) + (IntKind.wrap .i64 (IntKind.wrap .u8 ((rdI a0 (Int.toNat a2)) - (48 : Int)))))), a4, a5, a6, a7)) else none) else (L 10 [] j10 (fr04one_s10 (a0, a1, (IntKind.wrap .i64 (a2 + (1 : Int))), a3, a4, a5, a6, a7)))) else (bif (decide ((IntKind.wrap .i64 (a2 - a1)) > (18 : Int))) then (some ((0 : Int), ([] : List Int), (0 : Int), (0 : Int), (4 : Int))) else (bif (cutB a1 a2 (List.length a0)) then some ((2 : Int), (cutL a0 a1 a2), a3, a1, (0 : Int)) else none)) else none) else (bif (decide ((IntKind.wrap .i64 (a2 - a1)) > (18 : Int))) then (some ((0 : Int), ([] : List Int), (0 : Int), (0 : Int), (4 : Int))) else (bif (cutB a1 a2 (List.length a0)) then some ((2 : Int), (cutL a0 a1 a2), a3, a1, (0 : Int)) else none))
theorem fr04one_el10 (k j10 : Nat) (x : fr04one_T10) : (fr04one k).L 10 [] (j10 + 1) (fr04one_s10 x) = fr04one_tl10 k j10 (fr04one k).J (fr04one k).L x := by
  apply cutX (fr04one k) [.r, .r, .l, .b, .r, .e, .r, .t, .r, .l, .b, .b] [j10] (fr04one_s10 x) [] [(3, [], k), (10, [], j10)] (fr04one_tl10 k j10 · · x) <;> intros <;> kernel_rfl
theorem cr04one_ok (k : Nat) : SigOK Tryz.prog 132 (sgr04one k) :=
  fn_ok (C := (fr04one k).C) (l := fr04oneE k) rfl ⟨⟨cr04small_ok k, trivial⟩, ⟨cr04digit_ok k, trivial⟩, ⟨cr04sign_ok k, trivial⟩, trivial⟩ (by kernel_rfl) k (fn := Tryz.f132) (by kernel_rfl) (by kernel_rfl) (by kernel_rfl) fr04onei fr04oneo rfl rfl (show 0 ≤ 48 by decide) (show 0 ≤ 48 by decide)

/-! carrefour/carrefourref04.Tokens -/
def fr04Tokensi : Sk := ⟨[.lf (.pv (.slice (.int .u8)))], [], []⟩
def fr04Tokenso : Sk := ⟨[.lf (.own 0), .lf (.pv (.int .i64)), .lf (.pv (.int .i64))], [], [some (135, yt8)]⟩
def fr04Tokens_k5 : Sk := ⟨sparse 44 [(0, .lf (.pv (.slice (.int .u8)))), (5, .lf (.own 0)), (6, .lf (.pv (.int .i64)))], [], [some (135, yt8)]⟩
abbrev fr04Tokens_T5 := (List (Int)) × (Int) × (List (YT8))
def fr04Tokens_s5 : fr04Tokens_T5 → St := stOf fr04Tokens_k5 92
abbrev fr04TokensR := (Int) × (Int) × (List (YT8))
noncomputable def fr04TokensE (k : Nat) : List (Nat × List Sig) := [(131, [sgr04skip k]), (132, [sgr04one k])]
noncomputable def fr04Tokens (k : Nat) : FnX fr04TokensR := mkX { P := Tryz.prog, env := lookS (fr04TokensE k), n := 92, npB := 0, npO := 0, hint := fun i => look none [(5, some fr04Tokens_k5)] i, pops := [], bl := [54, 56] } k Tryz.f79 fr04Tokenso
noncomputable def cr04Tokens (k : Nat) : (List (Int)) → Option fr04TokensR := fnOf (fr04Tokens k).C k Tryz.f79 fr04Tokensi fr04Tokenso
noncomputable def sgr04Tokens (k : Nat) : Sig := ⟨fr04Tokensi, fr04Tokenso, mkFun fr04Tokensi.tys fr04Tokenso.tys (cr04Tokens k)⟩
noncomputable def fr04Tokens_t (k : Nat) (J : JF fr04TokensR) (L : LF fr04TokensR) : List (Int) → Option fr04TokensR
  | a0 => bif (decide (((List.length a0 : Nat) : Int) > (65536 : Int))) then (some ((4 : Int), (65536 : Int), [])) else (((cr04skip k) (a0, (0 : Int))).bind fun o1 => L 5 [] k (fr04Tokens_s5 (a0, o1, [])))
theorem fr04Tokens_e (k : Nat) (x : List (Int)) : cr04Tokens k x = fr04Tokens_t k (fr04Tokens k).J (fr04Tokens k).L x := by
  apply cutX (fr04Tokens k) [] [] (st0 (fr04Tokens k).C Tryz.f79 fr04Tokensi x) [] [(5, [], k)] (fr04Tokens_t k · · x) <;> intros <;> kernel_rfl
noncomputable def fr04Tokens_tl5 (k j5 : Nat) (J : JF fr04TokensR) (L : LF fr04TokensR) : fr04Tokens_T5 → Option fr04TokensR
  | (a0, a1, a2) => bif (decide (a1 < ((List.length a0 : Nat) : Int))) then (((cr04one k) (a0, a1)).bind fun o1 => bif (o1.2.2.2.2 != (0 : Int)) then (some (o1.2.2.2.2, a1, [])) else (bif (appB 40 (List.length a2) (List.length ([(o1.1, (o1.2.1, (o1.2.2.1, (o1.2.2.2.1, ()))))] : List (YT8)))) then ((cr04skip k) (a0, (IntKind.wrap .i64 (a1 + ((List.length o1.2.1 : Nat) : Int))))).bind fun o2 => L 5 [] j5 (fr04Tokens_s5 (a0, o2, (a2 ++ ([(o1.1, (o1.2.1, (o1.2.2.1, (o1.2.2.2.1, ()))))] : List (YT8))))) else none)) else (bif (appB 40 (List.length a2) (List.length ([((0 : Int), (([] : List Int), ((0 : Int), (a1, ()))))] : List (YT8)))) then some ((0 : Int), (0 : Int), (a2 ++ ([((0 : Int), (([] : List Int), ((0 : Int), (a1, ()))))] : List (YT8)))) else none)
theorem fr04Tokens_el5 (k j5 : Nat) (x : fr04Tokens_T5) : (fr04Tokens k).L 5 [] (j5 + 1) (fr04Tokens_s5 x) = fr04Tokens_tl5 k j5 (fr04Tokens k).J (fr04Tokens k).L x := by
  apply cutX (fr04Tokens k) [.r, .r, .r, .r, .l, .b, .b] [j5] (fr04Tokens_s5 x) [] [(5, [], j5)] (fr04Tokens_tl5 k j5 · · x) <;> intros <;> kernel_rfl
theorem cr04Tokens_ok (k : Nat) : SigOK Tryz.prog 79 (sgr04Tokens k) :=
  fn_ok (C := (fr04Tokens k).C) (l := fr04TokensE k) rfl ⟨⟨cr04skip_ok k, trivial⟩, ⟨cr04one_ok k, trivial⟩, trivial⟩ (by kernel_rfl) k (fn := Tryz.f79) (by kernel_rfl) (by kernel_rfl) (by kernel_rfl) fr04Tokensi fr04Tokenso rfl rfl (show 0 ≤ 48 by decide) (show 0 ≤ 48 by decide)

/-! carrefour/carrefourref04.Right -/
def fr04Righti : Sk := ⟨[.agg [.pv (.int .i64), .pv .str, .pv (.int .i64), .pv (.int .i64)]], [], []⟩
def fr04Righto : Sk := ⟨[.lf (.pv .bool)], [], []⟩
abbrev fr04RightT := (Int) × (List Int) × (Int) × (Int)
abbrev fr04RightR := Bool
noncomputable def fr04RightE (k : Nat) : List (Nat × List Sig) := [(79, [sgr04Tokens k])]
noncomputable def fr04Right (k : Nat) : FnX (Bool) := mkX { P := Tryz.prog, env := lookS (fr04RightE k), n := 96, npB := 0, npO := 0, hint := fun i => look none [] i, pops := [], bl := [54, 56] } k Tryz.f77 fr04Righto
noncomputable def cr04Right (k : Nat) : fr04RightT → Option (Bool) := fnOf (fr04Right k).C k Tryz.f77 fr04Righti fr04Righto
noncomputable def sgr04Right (k : Nat) : Sig := ⟨fr04Righti, fr04Righto, mkFun fr04Righti.tys fr04Righto.tys (cr04Right k)⟩
noncomputable def fr04Right_t (k : Nat) (J : JF (Bool)) (L : LF (Bool)) : fr04RightT → Option (Bool)
  | (a0, a1, a2, a3) => ((cr04Tokens k) (a1)).bind fun o1 => bif (o1.1 == (0 : Int)) then (bif (((List.length o1.2.2 : Nat) : Int) == (2 : Int)) then (bif (inB (0 : Int) (List.length o1.2.2)) then bif ((rdA zt8 o1.2.2 (Int.toNat (0 : Int))).1 == a0) then (bif (inB (0 : Int) (List.length o1.2.2)) then bif ((rdA zt8 o1.2.2 (Int.toNat (0 : Int))).2.2.1 == a2) then (bif (inB (0 : Int) (List.length o1.2.2)) then some ((rdA zt8 o1.2.2 (Int.toNat (0 : Int))).2.1 == a1) else none) else (some false) else none) else (some false) else none) else (some false)) else (some false)
theorem fr04Right_e (k : Nat) (x : fr04RightT) : cr04Right k x = fr04Right_t k (fr04Right k).J (fr04Right k).L x := by
  apply cutX (fr04Right k) [] [] (st0 (fr04Right k).C Tryz.f77 fr04Righti x) [] [] (fr04Right_t k · · x) <;> intros <;> kernel_rfl
theorem cr04Right_ok (k : Nat) : SigOK Tryz.prog 77 (sgr04Right k) :=
  fn_ok (C := (fr04Right k).C) (l := fr04RightE k) rfl ⟨⟨cr04Tokens_ok k, trivial⟩, trivial⟩ (by kernel_rfl) k (fn := Tryz.f77) (by kernel_rfl) (by kernel_rfl) (by kernel_rfl) fr04Righti fr04Righto rfl rfl (show 0 ≤ 48 by decide) (show 0 ≤ 48 by decide)

/-! carrefour/carrefourref04.Words -/
def fr04Wordsi : Sk := ⟨[], [], []⟩
def fr04Wordso : Sk := ⟨[.lf (.own 0)], [], [some (9, .str)]⟩
abbrev fr04WordsT := Unit
abbrev fr04WordsR := List (List Int)
noncomputable def fr04WordsE (k : Nat) : List (Nat × List Sig) := []
noncomputable def fr04Words (k : Nat) : FnX (List (List Int)) := mkX { P := Tryz.prog, env := lookS (fr04WordsE k), n := 50, npB := 0, npO := 0, hint := fun i => look none [] i, pops := [], bl := [54, 56] } k Tryz.f130 fr04Wordso
noncomputable def cr04Words (k : Nat) : fr04WordsT → Option (List (List Int)) := fnOf (fr04Words k).C k Tryz.f130 fr04Wordsi fr04Wordso
noncomputable def sgr04Words (k : Nat) : Sig := ⟨fr04Wordsi, fr04Wordso, mkFun fr04Wordsi.tys fr04Wordso.tys (cr04Words k)⟩
noncomputable def fr04Words_t (k : Nat) (J : JF (List (List Int))) (L : LF (List (List Int))) : fr04WordsT → Option (List (List Int))
  | _ => some ([([99, 121, 99, 108, 101] : List Int), ([116, 111] : List Int), ([98, 121] : List Int), ([112, 101, 97, 107] : List Int), ([110, 111, 100, 101] : List Int), ([104, 101, 97, 100] : List Int), ([118, 111, 108, 117, 109, 101] : List Int), ([102, 108, 111, 119] : List Int), ([117, 115, 101] : List Int), ([115, 112, 101, 101, 100] : List Int), ([103, 114, 97, 100, 101] : List Int), ([119, 105, 100, 116, 104] : List Int), ([108, 101, 110, 103, 116, 104] : List Int), ([103, 114, 101, 101, 110] : List Int), ([119, 97, 108, 107] : List Int), ([119, 105, 116, 104] : List Int), ([108, 111, 110, 103] : List Int), ([112, 97, 99, 101] : List Int), ([108, 101, 97, 115, 116] : List Int), ([112, 104, 97, 115, 101] : List Int), ([103, 114, 111, 117, 112] : List Int), ([114, 105, 110, 103] : List Int), ([102, 114, 101, 101] : List Int), ([102, 111, 101] : List Int), ([97, 114, 116, 101, 114, 121] : List Int), ([115, 116, 111, 112] : List Int), ([111, 117, 116] : List Int), ([105, 110] : List Int), ([97, 104, 101, 97, 100] : List Int), ([98, 97, 99, 107] : List Int), ([119, 101, 105, 103, 104, 116, 115] : List Int), ([112, 108, 97, 110] : List Int), ([111, 102, 102, 115, 101, 116] : List Int), ([115, 117, 109] : List Int), ([115, 112, 108, 105, 116] : List Int), ([121, 101, 108, 108, 111, 119] : List Int), ([114, 101, 100] : List Int), ([102, 108, 97, 115, 104] : List Int), ([98, 101, 115, 116] : List Int), ([121, 101, 115] : List Int), ([110, 111] : List Int), ([115, 112, 101, 110, 116] : List Int)] : List (List Int))
theorem fr04Words_e (k : Nat) (x : fr04WordsT) : cr04Words k x = fr04Words_t k (fr04Words k).J (fr04Words k).L x := by
  apply cutX (fr04Words k) [] [] (st0 (fr04Words k).C Tryz.f130 fr04Wordsi x) [] [] (fr04Words_t k · · x) <;> intros <;> kernel_rfl
theorem cr04Words_ok (k : Nat) : SigOK Tryz.prog 130 (sgr04Words k) :=
  fn_ok (C := (fr04Words k).C) (l := fr04WordsE k) rfl trivial (by kernel_rfl) k (fn := Tryz.f130) (by kernel_rfl) (by kernel_rfl) (by kernel_rfl) fr04Wordsi fr04Wordso rfl rfl (show 0 ≤ 48 by decide) (show 0 ≤ 48 by decide)

/-! carrefour/carrefourref04.In -/
def fr04Ini : Sk := ⟨[.lf (.pv .str), .lf (.pv (.slice .str))], [], []⟩
def fr04Ino : Sk := ⟨[.lf (.pv .bool)], [], []⟩
def fr04In_k2 : Sk := ⟨sparse 18 [(0, .lf (.pv .str)), (1, .lf (.pv (.slice .str))), (5, .lf (.pv (.int .i64)))], [], []⟩
abbrev fr04In_T2 := (List Int) × (List (List Int)) × (Int)
def fr04In_s2 : fr04In_T2 → St := stOf fr04In_k2 66
abbrev fr04InT := (List Int) × (List (List Int))
abbrev fr04InR := Bool
noncomputable def fr04InE (k : Nat) : List (Nat × List Sig) := []
noncomputable def fr04In (k : Nat) : FnX (Bool) := mkX { P := Tryz.prog, env := lookS (fr04InE k), n := 66, npB := 0, npO := 0, hint := fun i => look none [(2, some fr04In_k2)] i, pops := [], bl := [54, 56] } k Tryz.f129 fr04Ino
noncomputable def cr04In (k : Nat) : fr04InT → Option (Bool) := fnOf (fr04In k).C k Tryz.f129 fr04Ini fr04Ino
noncomputable def sgr04In (k : Nat) : Sig := ⟨fr04Ini, fr04Ino, mkFun fr04Ini.tys fr04Ino.tys (cr04In k)⟩
noncomputable def fr04In_t (k : Nat) (J : JF (Bool)) (L : LF (Bool)) : fr04InT → Option (Bool)
  | (a0, a1) => L 2 [] k (fr04In_s2 (a0, a1, (0 : Int)))
theorem fr04In_e (k : Nat) (x : fr04InT) : cr04In k x = fr04In_t k (fr04In k).J (fr04In k).L x := by
  apply cutX (fr04In k) [] [] (st0 (fr04In k).C Tryz.f129 fr04Ini x) [] [(2, [], k)] (fr04In_t k · · x) <;> intros <;> kernel_rfl
noncomputable def fr04In_tl2 (k j2 : Nat) (J : JF (Bool)) (L : LF (Bool)) : fr04In_T2 → Option (Bool)
  | (a0, a1, a2) => bif (decide (a2 < ((List.length a1 : Nat) : Int))) then (bif (inB a2 (List.length a1)) then bif ((rdA [] a1 (Int.toNat a2)) == a0) then (some true) else (L 2 [] j2 (fr04In_s2 (a0, a1, (IntKind.wrap .i64 (a2 + (1 : Int)))))) else none) else (some false)
theorem fr04In_el2 (k j2 : Nat) (x : fr04In_T2) : (fr04In k).L 2 [] (j2 + 1) (fr04In_s2 x) = fr04In_tl2 k j2 (fr04In k).J (fr04In k).L x := by
  apply cutX (fr04In k) [.r, .l, .r, .b, .b] [j2] (fr04In_s2 x) [] [(2, [], j2)] (fr04In_tl2 k j2 · · x) <;> intros <;> kernel_rfl
theorem cr04In_ok (k : Nat) : SigOK Tryz.prog 129 (sgr04In k) :=
  fn_ok (C := (fr04In k).C) (l := fr04InE k) rfl trivial (by kernel_rfl) k (fn := Tryz.f129) (by kernel_rfl) (by kernel_rfl) (by kernel_rfl) fr04Ini fr04Ino rfl rfl (show 0 ≤ 48 by decide) (show 0 ≤ 48 by decide)

/-! carrefour/carrefourref04.Reserved -/
def fr04Reservedi : Sk := ⟨[.lf (.pv .str)], [], []⟩
def fr04Reservedo : Sk := ⟨[.lf (.pv .bool)], [], []⟩
abbrev fr04ReservedR := Bool
noncomputable def fr04ReservedE (k : Nat) : List (Nat × List Sig) := [(130, [sgr04Words k]), (129, [sgr04In k])]
noncomputable def fr04Reserved (k : Nat) : FnX (Bool) := mkX { P := Tryz.prog, env := lookS (fr04ReservedE k), n := 54, npB := 0, npO := 0, hint := fun i => look none [] i, pops := [], bl := [54, 56] } k Tryz.f78 fr04Reservedo
noncomputable def cr04Reserved (k : Nat) : (List Int) → Option (Bool) := fnOf (fr04Reserved k).C k Tryz.f78 fr04Reservedi fr04Reservedo
noncomputable def sgr04Reserved (k : Nat) : Sig := ⟨fr04Reservedi, fr04Reservedo, mkFun fr04Reservedi.tys fr04Reservedo.tys (cr04Reserved k)⟩
noncomputable def fr04Reserved_t (k : Nat) (J : JF (Bool)) (L : LF (Bool)) : List Int → Option (Bool)
  | a0 => ((cr04Words k) (())).bind fun o1 => ((cr04In k) (a0, o1)).bind fun o2 => some o2
theorem fr04Reserved_e (k : Nat) (x : List Int) : cr04Reserved k x = fr04Reserved_t k (fr04Reserved k).J (fr04Reserved k).L x := by
  apply cutX (fr04Reserved k) [] [] (st0 (fr04Reserved k).C Tryz.f78 fr04Reservedi x) [] [] (fr04Reserved_t k · · x) <;> intros <;> kernel_rfl
theorem cr04Reserved_ok (k : Nat) : SigOK Tryz.prog 78 (sgr04Reserved k) :=
  fn_ok (C := (fr04Reserved k).C) (l := fr04ReservedE k) rfl ⟨⟨cr04Words_ok k, trivial⟩, ⟨cr04In_ok k, trivial⟩, trivial⟩ (by kernel_rfl) k (fn := Tryz.f78) (by kernel_rfl) (by kernel_rfl) (by kernel_rfl) fr04Reservedi fr04Reservedo rfl rfl (show 0 ≤ 48 by decide) (show 0 ≤ 48 by decide)

/-! carrefour/carrefourref04.Name -/
def fr04Namei : Sk := ⟨[.lf (.pv .str)], [], []⟩
def fr04Nameo : Sk := ⟨[.lf (.pv .bool)], [], []⟩
abbrev fr04NameR := Bool
noncomputable def fr04NameE (k : Nat) : List (Nat × List Sig) := [(77, [sgr04Right k]), (78, [sgr04Reserved k])]
noncomputable def fr04Name (k : Nat) : FnX (Bool) := mkX { P := Tryz.prog, env := lookS (fr04NameE k), n := 59, npB := 0, npO := 0, hint := fun i => look none [] i, pops := [], bl := [54, 56] } k Tryz.f37 fr04Nameo
noncomputable def cr04Name (k : Nat) : (List Int) → Option (Bool) := fnOf (fr04Name k).C k Tryz.f37 fr04Namei fr04Nameo
noncomputable def sgr04Name (k : Nat) : Sig := ⟨fr04Namei, fr04Nameo, mkFun fr04Namei.tys fr04Nameo.tys (cr04Name k)⟩
noncomputable def fr04Name_t (k : Nat) (J : JF (Bool)) (L : LF (Bool)) : List Int → Option (Bool)
  | a0 => ((cr04Right k) ((1 : Int), a0, (0 : Int), (0 : Int))).bind fun o1 => bif o1 then (((cr04Reserved k) (a0)).bind fun o2 => some (!o2)) else (some false)
theorem fr04Name_e (k : Nat) (x : List Int) : cr04Name k x = fr04Name_t k (fr04Name k).J (fr04Name k).L x := by
  apply cutX (fr04Name k) [] [] (st0 (fr04Name k).C Tryz.f37 fr04Namei x) [] [] (fr04Name_t k · · x) <;> intros <;> kernel_rfl
theorem cr04Name_ok (k : Nat) : SigOK Tryz.prog 37 (sgr04Name k) :=
  fn_ok (C := (fr04Name k).C) (l := fr04NameE k) rfl ⟨⟨cr04Right_ok k, trivial⟩, ⟨cr04Reserved_ok k, trivial⟩, trivial⟩ (by kernel_rfl) k (fn := Tryz.f37) (by kernel_rfl) (by kernel_rfl) (by kernel_rfl) fr04Namei fr04Nameo rfl rfl (show 0 ≤ 48 by decide) (show 0 ≤ 48 by decide)

/-! carrefour/carrefourref06.Names -/
def fr06Namesi : Sk := ⟨[.lf (.pv (.slice .str)), .lf (.pv (.int .i64))], [], []⟩
def fr06Nameso : Sk := ⟨[.lf (.pv .bool)], [], []⟩
def fr06Names_k4 : Sk := ⟨sparse 27 [(0, .lf (.pv (.slice .str))), (5, .lf (.pv (.int .i64)))], [], []⟩
abbrev fr06Names_T4 := (List (List Int)) × (Int)
def fr06Names_s4 : fr06Names_T4 → St := stOf fr06Names_k4 75
abbrev fr06NamesT := (List (List Int)) × (Int)
abbrev fr06NamesR := Bool
noncomputable def fr06NamesE (k : Nat) : List (Nat × List Sig) := [(37, [sgr04Name k])]
noncomputable def fr06Names (k : Nat) : FnX (Bool) := mkX { P := Tryz.prog, env := lookS (fr06NamesE k), n := 75, npB := 0, npO := 0, hint := fun i => look none [(4, some fr06Names_k4)] i, pops := [], bl := [54, 56] } k Tryz.f76 fr06Nameso
noncomputable def cr06Names (k : Nat) : fr06NamesT → Option (Bool) := fnOf (fr06Names k).C k Tryz.f76 fr06Namesi fr06Nameso
noncomputable def sgr06Names (k : Nat) : Sig := ⟨fr06Namesi, fr06Nameso, mkFun fr06Namesi.tys fr06Nameso.tys (cr06Names k)⟩
noncomputable def fr06Names_t (k : Nat) (J : JF (Bool)) (L : LF (Bool)) : fr06NamesT → Option (Bool)
  | (a0, a1) => bif (decide (((List.length a0 : Nat) : Int) < (1 : Int))) then (some false) else (bif (decide (((List.length a0 : Nat) : Int) > a1)) then (some false) else (L 4 [] k (fr06Names_s4 (a0, (0 : Int)))))
theorem fr06Names_e (k : Nat) (x : fr06NamesT) : cr06Names k x = fr06Names_t k (fr06Names k).J (fr06Names k).L x := by
  apply cutX (fr06Names k) [] [] (st0 (fr06Names k).C Tryz.f76 fr06Namesi x) [] [(4, [], k)] (fr06Names_t k · · x) <;> intros <;> kernel_rfl
noncomputable def fr06Names_tl4 (k j4 : Nat) (J : JF (Bool)) (L : LF (Bool)) : fr06Names_T4 → Option (Bool)
  | (a0, a1) => bif (decide (a1 < ((List.length a0 : Nat) : Int))) then (idx [] a0 a1 fun o1 => ((cr04Name k) (o1)).bind fun o2 => bif (!o2) then (some false) else (L 4 [] j4 (fr06Names_s4 (a0, (IntKind.wrap .i64 (a1 + (1 : Int))))))) else (some true)
theorem fr06Names_el4 (k j4 : Nat) (x : fr06Names_T4) : (fr06Names k).L 4 [] (j4 + 1) (fr06Names_s4 x) = fr06Names_tl4 k j4 (fr06Names k).J (fr06Names k).L x := by
  apply cutX (fr06Names k) [.r, .r, .l, .r, .b, .b] [j4] (fr06Names_s4 x) [] [(4, [], j4)] (fr06Names_tl4 k j4 · · x) <;> intros <;> kernel_rfl
theorem cr06Names_ok (k : Nat) : SigOK Tryz.prog 76 (sgr06Names k) :=
  fn_ok (C := (fr06Names k).C) (l := fr06NamesE k) rfl ⟨⟨cr04Name_ok k, trivial⟩, trivial⟩ (by kernel_rfl) k (fn := Tryz.f76) (by kernel_rfl) (by kernel_rfl) (by kernel_rfl) fr06Namesi fr06Nameso rfl rfl (show 0 ≤ 48 by decide) (show 0 ≤ 48 by decide)

/-! carrefour/carrefourref06.node -/
def fr06nodei : Sk := ⟨[.agg [.pv .str, .pv (.slice yt1), .pv (.slice yt2), .pv (.slice yt3), .pv (.slice (.cons (.slice yt4) .nil)), .pv (.slice yt5), .pv (.int .i64)]], [], []⟩
def fr06nodeo : Sk := ⟨[.lf (.pv .bool)], [], []⟩
def fr06node_k4 : Sk := ⟨sparse 238 [(1, .lf (.ptr 0 0)), (3, .lf (.pv (.int .i64)))], [[.pv .str, .pv (.slice yt1), .pv (.slice yt2), .pv (.slice yt3), .pv (.slice (.cons (.slice yt4) .nil)), .pv (.slice yt5), .pv (.int .i64)]], []⟩
abbrev fr06node_T4 := (Int) × (List Int) × (List (YT1)) × (List (YT2)) × (List (YT3)) × (List ((List (YT4)) × (Unit))) × (List (YT5)) × (Int)
def fr06node_s4 : fr06node_T4 → St := stOf fr06node_k4 286
def fr06node_k10 : Sk := ⟨sparse 238 [(1, .lf (.ptr 0 0)), (5, .lf (.pv (.int .i64)))], [[.pv .str, .pv (.slice yt1), .pv (.slice yt2), .pv (.slice yt3), .pv (.slice (.cons (.slice yt4) .nil)), .pv (.slice yt5), .pv (.int .i64)]], []⟩
abbrev fr06node_T10 := (Int) × (List Int) × (List (YT1)) × (List (YT2)) × (List (YT3)) × (List ((List (YT4)) × (Unit))) × (List (YT5)) × (Int)
def fr06node_s10 : fr06node_T10 → St := stOf fr06node_k10 286
def fr06node_k16 : Sk := ⟨sparse 238 [(1, .lf (.ptr 0 0)), (7, .lf (.pv (.int .i64)))], [[.pv .str, .pv (.slice yt1), .pv (.slice yt2), .pv (.slice yt3), .pv (.slice (.cons (.slice yt4) .nil)), .pv (.slice yt5), .pv (.int .i64)]], []⟩
abbrev fr06node_T16 := (Int) × (List Int) × (List (YT1)) × (List (YT2)) × (List (YT3)) × (List ((List (YT4)) × (Unit))) × (List (YT5)) × (Int)
def fr06node_s16 : fr06node_T16 → St := stOf fr06node_k16 286
def fr06node_k21 : Sk := ⟨sparse 238 [(1, .lf (.ptr 0 0)), (8, .lf (.pv (.int .i64)))], [[.pv .str, .pv (.slice yt1), .pv (.slice yt2), .pv (.slice yt3), .pv (.slice (.cons (.slice yt4) .nil)), .pv (.slice yt5), .pv (.int .i64)]], []⟩
abbrev fr06node_T21 := (Int) × (List Int) × (List (YT1)) × (List (YT2)) × (List (YT3)) × (List ((List (YT4)) × (Unit))) × (List (YT5)) × (Int)
def fr06node_s21 : fr06node_T21 → St := stOf fr06node_k21 286
def fr06node_k27 : Sk := ⟨sparse 238 [(1, .lf (.ptr 0 0)), (8, .lf (.pv (.int .i64))), (9, .lf (.pv (.slice yt4))), (10, .lf (.pv (.int .i64)))], [[.pv .str, .pv (.slice yt1), .pv (.slice yt2), .pv (.slice yt3), .pv (.slice (.cons (.slice yt4) .nil)), .pv (.slice yt5), .pv (.int .i64)]], []⟩
abbrev fr06node_T27 := (Int) × (List (YT4)) × (Int) × (List Int) × (List (YT1)) × (List (YT2)) × (List (YT3)) × (List ((List (YT4)) × (Unit))) × (List (YT5)) × (Int)
def fr06node_s27 : fr06node_T27 → St := stOf fr06node_k27 286
def fr06node_k32 : Sk := ⟨sparse 238 [(1, .lf (.ptr 0 0)), (11, .lf (.pv (.int .i64)))], [[.pv .str, .pv (.slice yt1), .pv (.slice yt2), .pv (.slice yt3), .pv (.slice (.cons (.slice yt4) .nil)), .pv (.slice yt5), .pv (.int .i64)]], []⟩
abbrev fr06node_T32 := (Int) × (List Int) × (List (YT1)) × (List (YT2)) × (List (YT3)) × (List ((List (YT4)) × (Unit))) × (List (YT5)) × (Int)
def fr06node_s32 : fr06node_T32 → St := stOf fr06node_k32 286
abbrev fr06nodeT := (List Int) × (List (YT1)) × (List (YT2)) × (List (YT3)) × (List ((List (YT4)) × (Unit))) × (List (YT5)) × (Int)
abbrev fr06nodeR := Bool
noncomputable def fr06nodeE (k : Nat) : List (Nat × List Sig) := [(37, [sgr04Name k]), (34, [sgr06Num k]), (35, [sgr06Frac k]), (76, [sgr06Names k])]
noncomputable def fr06node (k : Nat) : FnX (Bool) := mkX { P := Tryz.prog, env := lookS (fr06nodeE k), n := 286, npB := 0, npO := 0, hint := fun i => look none [(4, some fr06node_k4), (10, some fr06node_k10), (16, some fr06node_k16), (21, some fr06node_k21), (27, some fr06node_k27), (32, some fr06node_k32)] i, pops := [], bl := [54, 56] } k Tryz.f36 fr06nodeo
noncomputable def cr06node (k : Nat) : fr06nodeT → Option (Bool) := fnOf (fr06node k).C k Tryz.f36 fr06nodei fr06nodeo
noncomputable def sgr06node (k : Nat) : Sig := ⟨fr06nodei, fr06nodeo, mkFun fr06nodei.tys fr06nodeo.tys (cr06node k)⟩
noncomputable def fr06node_t (k : Nat) (J : JF (Bool)) (L : LF (Bool)) : fr06nodeT → Option (Bool)
  | (a0, a1, a2, a3, a4, a5, a6) => ((cr04Name k) (a0)).bind fun o1 => bif (!o1) then (some false) else (bif (decide (((List.length a1 : Nat) : Int) > (16 : Int))) then (some false) else (bif (decide (((List.length a2 : Nat) : Int) > (8 : Int))) then (some false) else (bif (decide (((List.length a3 : Nat) : Int) > (16 : Int))) then (some false) else (bif (decide (((List.length a4 : Nat) : Int) > (4 : Int))) then (some false) else (bif (decide (((List.length a5 : Nat) : Int) > (64 : Int))) then (some false) else (L 4 [] k (fr06node_s4 ((0 : Int), a0, a1, a2, a3, a4, a5, a6))))))))
theorem fr06node_e (k : Nat) (x : fr06nodeT) : cr06node k x = fr06node_t k (fr06node k).J (fr06node k).L x := by
  apply cutX (fr06node k) [] [] (st0 (fr06node k).C Tryz.f36 fr06nodei x) [] [(4, [], k), (10, [], k), (16, [], k), (21, [], k), (32, [], k)] (fr06node_t k · · x) <;> intros <;> kernel_rfl
noncomputable def fr06node_tl4 (k j4 : Nat) (J : JF (Bool)) (L : LF (Bool)) : fr06node_T4 → Option (Bool)
  | (a0, a1, a2, a3, a4, a5, a6, a7) => bif (decide (a0 < ((List.length a2 : Nat) : Int))) then (idx zt1 a2 a0 fun o1 => ((cr04Name k) (o1.1)).bind fun o2 => bif (!o2) then (some false) else (((cr06Num k) (o1.2.1)).bind fun o3 => bif (!o3) then (some false) else (((cr06Num k) (o1.2.2.1)).bind fun o4 => bif (!o4) then (some false) else (((cr06Frac k) (o1.2.2.2.1.1, o1.2.2.2.1.2.1)).bind fun o5 => bif (!o5) then (some false) else (((cr06Num k) (o1.2.2.2.2.1)).bind fun o6 => bif (!o6) then (some false) else (bif (decide (o1.2.2.2.2.2.1 < (-999999999999999999 : Int))) then (some false) else (bif (decide (o1.2.2.2.2.2.1 > (999999999999999999 : Int))) then (some false) else (((cr06Num k) (o1.2.2.2.2.2.2.1)).bind fun o7 => bif (!o7) then (some false) else (((cr06Num k) (o1.2.2.2.2.2.2.2.1)).bind fun o8 => bif (!o8) then (some false) else (((cr06Num k) (o1.2.2.2.2.2.2.2.2.1)).bind fun o9 => bif (!o9) then (some false) else (L 4 [] j4 (fr06node_s4 ((IntKind.wrap .i64 (a0 + (1 : Int))), a1, a2, a3, a4, a5, a6, a7))))))))))))) else (L 10 [] k (fr06node_s10 ((0 : Int), a1, a2, a3, a4, a5, a6, a7)))
theorem fr06node_el4 (k j4 : Nat) (x : fr06node_T4) : (fr06node k).L 4 [] (j4 + 1) (fr06node_s4 x) = fr06node_tl4 k j4 (fr06node k).J (fr06node k).L x := by
  apply cutX (fr06node k) [.r, .r, .l, .r, .b, .b] [j4] (fr06node_s4 x) [] [(4, [], j4), (10, [], k), (16, [], k), (21, [], k), (32, [], k)] (fr06node_tl4 k j4 · · x) <;> intros <;> kernel_rfl
noncomputable def fr06node_tl10 (k j10 : Nat) (J : JF (Bool)) (L : LF (Bool)) : fr06node_T10 → Option (Bool)
  | (a0, a1, a2, a3, a4, a5, a6, a7) => bif (decide (a0 < ((List.length a3 : Nat) : Int))) then (idx zt2 a3 a0 fun o1 => ((cr04Name k) (o1.1)).bind fun o2 => bif (!o2) then (some false) else (((cr04Name k) (o1.2.1)).bind fun o3 => bif (!o3) then (some false) else (((cr06Num k) (o1.2.2.1)).bind fun o4 => bif (!o4) then (some false) else (((cr06Num k) (o1.2.2.2.1)).bind fun o5 => bif (!o5) then (some false) else (((cr06Num k) (o1.2.2.2.2.1)).bind fun o6 => bif (!o6) then (some false) else (L 10 [] j10 (fr06node_s10 ((IntKind.wrap .i64 (a0 + (1 : Int))), a1, a2, a3, a4, a5, a6, a7)))))))) else (L 16 [] k (fr06node_s16 ((0 : Int), a1, a2, a3, a4, a5, a6, a7)))
theorem fr06node_el10 (k j10 : Nat) (x : fr06node_T10) : (fr06node k).L 10 [] (j10 + 1) (fr06node_s10 x) = fr06node_tl10 k j10 (fr06node k).J (fr06node k).L x := by
  apply cutX (fr06node k) [.r, .r, .r, .l, .r, .b, .b] [j10] (fr06node_s10 x) [] [(4, [], k), (10, [], j10), (16, [], k), (21, [], k), (32, [], k)] (fr06node_tl10 k j10 · · x) <;> intros <;> kernel_rfl
noncomputable def fr06node_tl16 (k j16 : Nat) (J : JF (Bool)) (L : LF (Bool)) : fr06node_T16 → Option (Bool)
  | (a0, a1, a2, a3, a4, a5, a6, a7) => bif (decide (a0 < ((List.length a4 : Nat) : Int))) then (idx zt3 a4 a0 fun o1 => ((cr04Name k) (o1.1)).bind fun o2 => bif (!o2) then (some false) else (idx zt3 a4 a0 fun o3 => ((cr06Names k) (o3.2.1, (16 : Int))).bind fun o4 => bif (!o4) then (some false) else (L 16 [] j16 (fr06node_s16 ((IntKind.wrap .i64 (a0 + (1 : Int))), a1, a2, a3, a4, a5, a6, a7))))) else (L 21 [] k (fr06node_s21 ((0 : Int), a1, a2, a3, a4, a5, a6, a7)))
theorem fr06node_el16 (k j16 : Nat) (x : fr06node_T16) : (fr06node k).L 16 [] (j16 + 1) (fr06node_s16 x) = fr06node_tl16 k j16 (fr06node k).J (fr06node k).L x := by
  apply cutX (fr06node k) [.r, .r, .r, .r, .l, .r, .b, .b] [j16] (fr06node_s16 x) [] [(4, [], k), (10, [], k), (16, [], j16), (21, [], k), (32, [], k)] (fr06node_tl16 k j16 · · x) <;> intros <;> kernel_rfl
noncomputable def fr06node_tl21 (k j21 : Nat) (J : JF (Bool)) (L : LF (Bool)) : fr06node_T21 → Option (Bool)
  | (a0, a1, a2, a3, a4, a5, a6, a7) => bif (decide (a0 < ((List.length a5 : Nat) : Int))) then (idx ([], ()) a5 a0 fun o1 => bif (decide (((List.length o1.1 : Nat) : Int) < (1 : Int))) then (some false) else (bif (decide (((List.length o1.1 : Nat) : Int) > (2 : Int))) then (some false) else (L 27 [j21] k (fr06node_s27 (a0, o1.1, (0 : Int), a1, a2, a3, a4, a5, a6, a7))))) else (L 32 [] k (fr06node_s32 ((0 : Int), a1, a2, a3, a4, a5, a6, a7)))
theorem fr06node_el21 (k j21 : Nat) (x : fr06node_T21) : (fr06node k).L 21 [] (j21 + 1) (fr06node_s21 x) = fr06node_tl21 k j21 (fr06node k).J (fr06node k).L x := by
  apply cutX (fr06node k) [.r, .r, .r, .r, .r, .l, .r, .b, .b] [j21] (fr06node_s21 x) [] [(4, [], k), (10, [], k), (16, [], k), (21, [], j21), (27, [j21], k), (32, [], k)] (fr06node_tl21 k j21 · · x) <;> intros <;> kernel_rfl
noncomputable def fr06node_tl27 (k j21 j27 : Nat) (J : JF (Bool)) (L : LF (Bool)) : fr06node_T27 → Option (Bool)
  | (a0, a1, a2, a3, a4, a5, a6, a7, a8, a9) => bif (decide (a2 < ((List.length a1 : Nat) : Int))) then (idx zt4 a1 a2 fun o1 => ((cr06Names k) (o1.2.1, (4 : Int))).bind fun o2 => bif (!o2) then (some false) else (L 27 [j21] j27 (fr06node_s27 (a0, a1, (IntKind.wrap .i64 (a2 + (1 : Int))), a3, a4, a5, a6, a7, a8, a9)))) else (L 21 [] j21 (fr06node_s21 ((IntKind.wrap .i64 (a0 + (1 : Int))), a3, a4, a5, a6, a7, a8, a9)))
theorem fr06node_el27 (k j21 j27 : Nat) (x : fr06node_T27) : (fr06node k).L 27 [j21] (j27 + 1) (fr06node_s27 x) = fr06node_tl27 k j21 j27 (fr06node k).J (fr06node k).L x := by
  apply cutX (fr06node k) [.r, .r, .r, .r, .r, .l, .r, .b, .b, .r, .l, .b, .r, .r, .r, .b, .b] [j21, j27] (fr06node_s27 x) [] [(4, [], k), (10, [], k), (16, [], k), (21, [], j21), (27, [j21], j27), (32, [], k)] (fr06node_tl27 k j21 j27 · · x) <;> intros <;> kernel_rfl
noncomputable def fr06node_tl32 (k j32 : Nat) (J : JF (Bool)) (L : LF (Bool)) : fr06node_T32 → Option (Bool)
  | (a0, a1, a2, a3, a4, a5, a6, a7) => bif (decide (a0 < ((List.length a6 : Nat) : Int))) then (idx zt5 a6 a0 fun o1 => ((cr04Name k) (o1.1)).bind fun o2 => bif (!o2) then (some false) else (idx zt5 a6 a0 fun o3 => ((cr04Name k) (o3.2.1)).bind fun o4 => bif (!o4) then (some false) else (L 32 [] j32 (fr06node_s32 ((IntKind.wrap .i64 (a0 + (1 : Int))), a1, a2, a3, a4, a5, a6, a7))))) else (some true)
theorem fr06node_el32 (k j32 : Nat) (x : fr06node_T32) : (fr06node k).L 32 [] (j32 + 1) (fr06node_s32 x) = fr06node_tl32 k j32 (fr06node k).J (fr06node k).L x := by
  apply cutX (fr06node k) [.r, .r, .r, .r, .r, .r, .l, .r, .b, .b] [j32] (fr06node_s32 x) [] [(4, [], k), (10, [], k), (16, [], k), (21, [], k), (32, [], j32)] (fr06node_tl32 k j32 · · x) <;> intros <;> kernel_rfl
theorem cr06node_ok (k : Nat) : SigOK Tryz.prog 36 (sgr06node k) :=
  fn_ok (C := (fr06node k).C) (l := fr06nodeE k) rfl ⟨⟨cr04Name_ok k, trivial⟩, ⟨cr06Num_ok k, trivial⟩, ⟨cr06Frac_ok k, trivial⟩, ⟨cr06Names_ok k, trivial⟩, trivial⟩ (by kernel_rfl) k (fn := Tryz.f36) (by kernel_rfl) (by kernel_rfl) (by kernel_rfl) fr06nodei fr06nodeo rfl rfl (show 0 ≤ 48 by decide) (show 0 ≤ 48 by decide)

/-! carrefour/carrefourref06.Right -/
def fr06Righti : Sk := ⟨[.agg [.pv (.int .i64), .pv (.int .i64), .pv (.int .i64), .pv (.int .i64), .pv (.int .i64), .pv (.slice yt6), .pv (.slice yt7), .pv (.int .i64), .pv (.int .i64)]], [], []⟩
def fr06Righto : Sk := ⟨[.lf (.pv .bool)], [], []⟩
def fr06Right_k4 : Sk := ⟨sparse 106 [(1, .lf (.ptr 0 0)), (3, .lf (.pv (.int .i64)))], [[.pv (.int .i64), .pv (.int .i64), .pv (.int .i64), .pv (.int .i64), .pv (.int .i64), .pv (.slice yt6), .pv (.slice yt7), .pv (.int .i64), .pv (.int .i64)]], []⟩
abbrev fr06Right_T4 := (Int) × (Int) × (Int) × (Int) × (Int) × (Int) × (List (YT6)) × (List (YT7)) × (Int) × (Int)
def fr06Right_s4 : fr06Right_T4 → St := stOf fr06Right_k4 154
def fr06Right_k9 : Sk := ⟨sparse 106 [(1, .lf (.ptr 0 0)), (4, .lf (.pv (.int .i64)))], [[.pv (.int .i64), .pv (.int .i64), .pv (.int .i64), .pv (.int .i64), .pv (.int .i64), .pv (.slice yt6), .pv (.slice yt7), .pv (.int .i64), .pv (.int .i64)]], []⟩
abbrev fr06Right_T9 := (Int) × (Int) × (Int) × (Int) × (Int) × (Int) × (List (YT6)) × (List (YT7)) × (Int) × (Int)
def fr06Right_s9 : fr06Right_T9 → St := stOf fr06Right_k9 154
abbrev fr06RightT := (Int) × (Int) × (Int) × (Int) × (Int) × (List (YT6)) × (List (YT7)) × (Int) × (Int)
abbrev fr06RightR := Bool
noncomputable def fr06RightE (k : Nat) : List (Nat × List Sig) := [(34, [sgr06Num k]), (35, [sgr06Frac k]), (36, [sgr06node k]), (37, [sgr04Name k])]
noncomputable def fr06Right (k : Nat) : FnX (Bool) := mkX { P := Tryz.prog, env := lookS (fr06RightE k), n := 154, npB := 0, npO := 0, hint := fun i => look none [(4, some fr06Right_k4), (9, some fr06Right_k9)] i, pops := [], bl := [54, 56] } k Tryz.f11 fr06Righto
noncomputable def cr06Right (k : Nat) : fr06RightT → Option (Bool) := fnOf (fr06Right k).C k Tryz.f11 fr06Righti fr06Righto
noncomputable def sgr06Right (k : Nat) : Sig := ⟨fr06Righti, fr06Righto, mkFun fr06Righti.tys fr06Righto.tys (cr06Right k)⟩
noncomputable def fr06Right_t (k : Nat) (J : JF (Bool)) (L : LF (Bool)) : fr06RightT → Option (Bool)
  | (a0, a1, a2, a3, a4, a5, a6, a7, a8) => ((cr06Num k) (a0)).bind fun o1 => bif (!o1) then (some false) else (((cr06Num k) (a1)).bind fun o2 => bif (!o2) then (some false) else (((cr06Num k) (a2)).bind fun o3 => bif (!o3) then (some false) else (((cr06Frac k) (a3, a4)).bind fun o4 => bif (!o4) then (some false) else (((cr06Num k) (a7)).bind fun o5 => bif (!o5) then (some false) else (((cr06Num k) (a8)).bind fun o6 => bif (!o6) then (some false) else (bif (decide (((List.length a5 : Nat) : Int) > (12 : Int))) then (some false) else (bif (decide (((List.length a6 : Nat) : Int) > (12 : Int))) then (some false) else (L 4 [] k (fr06Right_s4 ((0 : Int), a0, a1, a2, a3, a4, a5, a6, a7, a8))))))))))
theorem fr06Right_e (k : Nat) (x : fr06RightT) : cr06Right k x = fr06Right_t k (fr06Right k).J (fr06Right k).L x := by
  apply cutX (fr06Right k) [] [] (st0 (fr06Right k).C Tryz.f11 fr06Righti x) [] [(4, [], k), (9, [], k)] (fr06Right_t k · · x) <;> intros <;> kernel_rfl
noncomputable def fr06Right_tl4 (k j4 : Nat) (J : JF (Bool)) (L : LF (Bool)) : fr06Right_T4 → Option (Bool)
  | (a0, a1, a2, a3, a4, a5, a6, a7, a8, a9) => bif (decide (a0 < ((List.length a6 : Nat) : Int))) then (idx zt6 a6 a0 fun o1 => ((cr06node k) (o1.1, o1.2.1, o1.2.2.1, o1.2.2.2.1, o1.2.2.2.2.1, o1.2.2.2.2.2.1, o1.2.2.2.2.2.2.1)).bind fun o2 => bif (!o2) then (some false) else (L 4 [] j4 (fr06Right_s4 ((IntKind.wrap .i64 (a0 + (1 : Int))), a1, a2, a3, a4, a5, a6, a7, a8, a9)))) else (L 9 [] k (fr06Right_s9 ((0 : Int), a1, a2, a3, a4, a5, a6, a7, a8, a9)))
theorem fr06Right_el4 (k j4 : Nat) (x : fr06Right_T4) : (fr06Right k).L 4 [] (j4 + 1) (fr06Right_s4 x) = fr06Right_tl4 k j4 (fr06Right k).J (fr06Right k).L x := by
  apply cutX (fr06Right k) [.r, .r, .l, .r, .b, .b] [j4] (fr06Right_s4 x) [] [(4, [], j4), (9, [], k)] (fr06Right_tl4 k j4 · · x) <;> intros <;> kernel_rfl
noncomputable def fr06Right_tl9 (k j9 : Nat) (J : JF (Bool)) (L : LF (Bool)) : fr06Right_T9 → Option (Bool)
  | (a0, a1, a2, a3, a4, a5, a6, a7, a8, a9) => bif (decide (a0 < ((List.length a7 : Nat) : Int))) then (idx zt7 a7 a0 fun o1 => ((cr04Name k) (o1.1)).bind fun o2 => bif (!o2) then (some false) else (((cr04Name k) (o1.2.1)).bind fun o3 => bif (!o3) then (some false) else (((cr04Name k) (o1.2.2.1)).bind fun o4 => bif (!o4) then (some false) else (((cr06Num k) (o1.2.2.2.1)).bind fun o5 => bif (!o5) then (some false) else (((cr06Num k) (o1.2.2.2.2.1)).bind fun o6 => bif (!o6) then (some false) else (L 9 [] j9 (fr06Right_s9 ((IntKind.wrap .i64 (a0 + (1 : Int))), a1, a2, a3, a4, a5, a6, a7, a8, a9)))))))) else (some true)
theorem fr06Right_el9 (k j9 : Nat) (x : fr06Right_T9) : (fr06Right k).L 9 [] (j9 + 1) (fr06Right_s9 x) = fr06Right_tl9 k j9 (fr06Right k).J (fr06Right k).L x := by
  apply cutX (fr06Right k) [.r, .r, .r, .l, .r, .b, .b] [j9] (fr06Right_s9 x) [] [(4, [], k), (9, [], j9)] (fr06Right_tl9 k j9 · · x) <;> intros <;> kernel_rfl
theorem cr06Right_ok (k : Nat) : SigOK Tryz.prog 11 (sgr06Right k) :=
  fn_ok (C := (fr06Right k).C) (l := fr06RightE k) rfl ⟨⟨cr06Num_ok k, trivial⟩, ⟨cr06Frac_ok k, trivial⟩, ⟨cr06node_ok k, trivial⟩, ⟨cr04Name_ok k, trivial⟩, trivial⟩ (by kernel_rfl) k (fn := Tryz.f11) (by kernel_rfl) (by kernel_rfl) (by kernel_rfl) fr06Righti fr06Righto rfl rfl (show 0 ≤ 48 by decide) (show 0 ≤ 48 by decide)

/-! carrefour/carrefourref01.Size -/
def fr01Sizei : Sk := ⟨[.lf (.pv (.int .i64))], [], []⟩
def fr01Sizeo : Sk := ⟨[.lf (.pv (.int .u64))], [], []⟩
abbrev fr01SizeR := Int
noncomputable def fr01SizeE (k : Nat) : List (Nat × List Sig) := []
noncomputable def fr01Size (k : Nat) : FnX (Int) := mkX { P := Tryz.prog, env := lookS (fr01SizeE k), n := 58, npB := 0, npO := 0, hint := fun i => look none [] i, pops := [], bl := [54, 56] } k Tryz.f113 fr01Sizeo
noncomputable def cr01Size (k : Nat) : (Int) → Option (Int) := fnOf (fr01Size k).C k Tryz.f113 fr01Sizei fr01Sizeo
noncomputable def sgr01Size (k : Nat) : Sig := ⟨fr01Sizei, fr01Sizeo, mkFun fr01Sizei.tys fr01Sizeo.tys (cr01Size k)⟩
noncomputable def fr01Size_t (k : Nat) (J : JF (Int)) (L : LF (Int)) : Int → Option (Int)
  | a0 => bif (decide (a0 < (0 : Int))) then (some (negI .u64 (IntKind.wrap .u64 a0))) else (some (IntKind.wrap .u64 a0))
theorem fr01Size_e (k : Nat) (x : Int) : cr01Size k x = fr01Size_t k (fr01Size k).J (fr01Size k).L x := by
  apply cutX (fr01Size k) [] [] (st0 (fr01Size k).C Tryz.f113 fr01Sizei x) [] [] (fr01Size_t k · · x) <;> intros <;> kernel_rfl
theorem cr01Size_ok (k : Nat) : SigOK Tryz.prog 113 (sgr01Size k) :=
  fn_ok (C := (fr01Size k).C) (l := fr01SizeE k) rfl trivial (by kernel_rfl) k (fn := Tryz.f113) (by kernel_rfl) (by kernel_rfl) (by kernel_rfl) fr01Sizei fr01Sizeo rfl rfl (show 0 ≤ 48 by decide) (show 0 ≤ 48 by decide)

/-! carrefour/carrefourref02.Digits -/
def fr02Digitsi : Sk := ⟨[.lf (.pv (.int .i64))], [], []⟩
def fr02Digitso : Sk := ⟨[.lf (.pv .str)], [], []⟩
def fr02Digits_k3 : Sk := ⟨sparse 28 [(0, .lf (.pv (.int .i64))), (3, .lf (.pv (.int .u64))), (4, .lf (.pv .str))], [], []⟩
abbrev fr02Digits_T3 := (Int) × (Int) × (List Int)
def fr02Digits_s3 : fr02Digits_T3 → St := stOf fr02Digits_k3 76
abbrev fr02DigitsR := List Int
noncomputable def fr02DigitsE (k : Nat) : List (Nat × List Sig) := [(113, [sgr01Size k])]
noncomputable def fr02Digits (k : Nat) : FnX (List Int) := mkX { P := Tryz.prog, env := lookS (fr02DigitsE k), n := 76, npB := 0, npO := 0, hint := fun i => look none [(3, some fr02Digits_k3)] i, pops := [], bl := [54, 56] } k Tryz.f59 fr02Digitso
noncomputable def cr02Digits (k : Nat) : (Int) → Option (List Int) := fnOf (fr02Digits k).C k Tryz.f59 fr02Digitsi fr02Digitso
noncomputable def sgr02Digits (k : Nat) : Sig := ⟨fr02Digitsi, fr02Digitso, mkFun fr02Digitsi.tys fr02Digitso.tys (cr02Digits k)⟩
noncomputable def fr02Digits_t (k : Nat) (J : JF (List Int)) (L : LF (List Int)) : Int → Option (List Int)
  | a0 => ((cr01Size k) (a0)).bind fun o1 => L 3 [] k (fr02Digits_s3 (a0, o1, ([] : List Int)))
theorem fr02Digits_e (k : Nat) (x : Int) : cr02Digits k x = fr02Digits_t k (fr02Digits k).J (fr02Digits k).L x := by
  apply cutX (fr02Digits k) [] [] (st0 (fr02Digits k).C Tryz.f59 fr02Digitsi x) [] [(3, [], k)] (fr02Digits_t k · · x) <;> intros <;> kernel_rfl
noncomputable def fr02Digits_tl3 (k j3 : Nat) (J : JF (List Int)) (L : LF (List Int)) : fr02Digits_T3 → Option (List Int)
  | (a0, a1, a2) => bif (a2 == ([] : List Int)) then (cat ([(IntKind.wrap .u8 (IntKind.wrap .u64 ((48 : Int) + (Int.tmod a1 (10 : Int)))))] : List (Int)) a2 fun o1 => L 3 [] j3 (fr02Digits_s3 (a0, (IntKind.wrap .u64 (Int.tdiv a1 (10 : Int))), o1))) else (bif (decide (a1 > (0 : Int))) then (cat ([(IntKind.wrap .u8 (IntKind.wrap .u64 ((48 : Int) + (Int.tmod a1 (10 : Int)))))] : List (Int)) a2 fun o2 => L 3 [] j3 (fr02Digits_s3 (a0, (IntKind.wrap .u64 (Int.tdiv a1 (10 : Int))), o2))) else (bif (decide (a0 < (0 : Int))) then (cat ([45] : List Int) a2 fun o3 => some o3) else (some a2)))
theorem fr02Digits_el3 (k j3 : Nat) (x : fr02Digits_T3) : (fr02Digits k).L 3 [] (j3 + 1) (fr02Digits_s3 x) = fr02Digits_tl3 k j3 (fr02Digits k).J (fr02Digits k).L x := by
  apply cutX (fr02Digits k) [.r, .r, .r, .l, .b, .b] [j3] (fr02Digits_s3 x) [] [(3, [], j3)] (fr02Digits_tl3 k j3 · · x) <;> intros <;> kernel_rfl
theorem cr02Digits_ok (k : Nat) : SigOK Tryz.prog 59 (sgr02Digits k) :=
  fn_ok (C := (fr02Digits k).C) (l := fr02DigitsE k) rfl ⟨⟨cr01Size_ok k, trivial⟩, trivial⟩ (by kernel_rfl) k (fn := Tryz.f59) (by kernel_rfl) (by kernel_rfl) (by kernel_rfl) fr02Digitsi fr02Digitso rfl rfl (show 0 ≤ 48 by decide) (show 0 ≤ 48 by decide)

/-! carrefour/carrefourref06.d -/
def fr06di : Sk := ⟨[.lf (.pv (.int .i64))], [], []⟩
def fr06do : Sk := ⟨[.lf (.pv .str)], [], []⟩
abbrev fr06dR := List Int
noncomputable def fr06dE (k : Nat) : List (Nat × List Sig) := [(59, [sgr02Digits k])]
noncomputable def fr06d (k : Nat) : FnX (List Int) := mkX { P := Tryz.prog, env := lookS (fr06dE k), n := 53, npB := 0, npO := 0, hint := fun i => look none [] i, pops := [], bl := [54, 56] } k Tryz.f26 fr06do
noncomputable def cr06d (k : Nat) : (Int) → Option (List Int) := fnOf (fr06d k).C k Tryz.f26 fr06di fr06do
noncomputable def sgr06d (k : Nat) : Sig := ⟨fr06di, fr06do, mkFun fr06di.tys fr06do.tys (cr06d k)⟩
noncomputable def fr06d_t (k : Nat) (J : JF (List Int)) (L : LF (List Int)) : Int → Option (List Int)
  | a0 => ((cr02Digits k) (a0)).bind fun o1 => some o1
theorem fr06d_e (k : Nat) (x : Int) : cr06d k x = fr06d_t k (fr06d k).J (fr06d k).L x := by
  apply cutX (fr06d k) [] [] (st0 (fr06d k).C Tryz.f26 fr06di x) [] [] (fr06d_t k · · x) <;> intros <;> kernel_rfl
theorem cr06d_ok (k : Nat) : SigOK Tryz.prog 26 (sgr06d k) :=
  fn_ok (C := (fr06d k).C) (l := fr06dE k) rfl ⟨⟨cr02Digits_ok k, trivial⟩, trivial⟩ (by kernel_rfl) k (fn := Tryz.f26) (by kernel_rfl) (by kernel_rfl) (by kernel_rfl) fr06di fr06do rfl rfl (show 0 ≤ 48 by decide) (show 0 ≤ 48 by decide)

/-! carrefour/carrefourref06.frac -/
def fr06fraci : Sk := ⟨[.agg [.pv (.int .i64), .pv (.int .i64)]], [], []⟩
def fr06fraco : Sk := ⟨[.lf (.pv .str)], [], []⟩
abbrev fr06fracT := (Int) × (Int)
abbrev fr06fracR := List Int
noncomputable def fr06fracE (k : Nat) : List (Nat × List Sig) := [(26, [sgr06d k])]
noncomputable def fr06frac (k : Nat) : FnX (List Int) := mkX { P := Tryz.prog, env := lookS (fr06fracE k), n := 59, npB := 0, npO := 0, hint := fun i => look none [] i, pops := [], bl := [54, 56] } k Tryz.f27 fr06fraco
noncomputable def cr06frac (k : Nat) : fr06fracT → Option (List Int) := fnOf (fr06frac k).C k Tryz.f27 fr06fraci fr06fraco
noncomputable def sgr06frac (k : Nat) : Sig := ⟨fr06fraci, fr06fraco, mkFun fr06fraci.tys fr06fraco.tys (cr06frac k)⟩
noncomputable def fr06frac_t (k : Nat) (J : JF (List Int)) (L : LF (List Int)) : fr06fracT → Option (List Int)
  | (a0, a1) => ((cr06d k) (a0)).bind fun o1 => cat o1 ([47] : List Int) fun o2 => ((cr06d k) (a1)).bind fun o3 => cat o2 o3 fun o4 => some o4
theorem fr06frac_e (k : Nat) (x : fr06fracT) : cr06frac k x = fr06frac_t k (fr06frac k).J (fr06frac k).L x := by
  apply cutX (fr06frac k) [] [] (st0 (fr06frac k).C Tryz.f27 fr06fraci x) [] [] (fr06frac_t k · · x) <;> intros <;> kernel_rfl
theorem cr06frac_ok (k : Nat) : SigOK Tryz.prog 27 (sgr06frac k) :=
  fn_ok (C := (fr06frac k).C) (l := fr06fracE k) rfl ⟨⟨cr06d_ok k, trivial⟩, trivial⟩ (by kernel_rfl) k (fn := Tryz.f27) (by kernel_rfl) (by kernel_rfl) (by kernel_rfl) fr06fraci fr06fraco rfl rfl (show 0 ≤ 48 by decide) (show 0 ≤ 48 by decide)

/-! carrefour/carrefourref06.list -/
def fr06listi : Sk := ⟨[.lf (.pv (.slice .str))], [], []⟩
def fr06listo : Sk := ⟨[.lf (.pv .str)], [], []⟩
def fr06list_k3 : Sk := ⟨sparse 22 [(0, .lf (.pv (.slice .str))), (3, .lf (.pv .str)), (4, .lf (.pv (.int .i64)))], [], []⟩
abbrev fr06list_T3 := (List (List Int)) × (List Int) × (Int)
def fr06list_s3 : fr06list_T3 → St := stOf fr06list_k3 70
abbrev fr06listR := List Int
noncomputable def fr06listE (k : Nat) : List (Nat × List Sig) := []
noncomputable def fr06list (k : Nat) : FnX (List Int) := mkX { P := Tryz.prog, env := lookS (fr06listE k), n := 70, npB := 0, npO := 0, hint := fun i => look none [(3, some fr06list_k3)] i, pops := [], bl := [54, 56] } k Tryz.f60 fr06listo
noncomputable def cr06list (k : Nat) : (List (List Int)) → Option (List Int) := fnOf (fr06list k).C k Tryz.f60 fr06listi fr06listo
noncomputable def sgr06list (k : Nat) : Sig := ⟨fr06listi, fr06listo, mkFun fr06listi.tys fr06listo.tys (cr06list k)⟩
noncomputable def fr06list_t (k : Nat) (J : JF (List Int)) (L : LF (List Int)) : List (List Int) → Option (List Int)
  | a0 => L 3 [] k (fr06list_s3 (a0, ([] : List Int), (0 : Int)))
theorem fr06list_e (k : Nat) (x : List (List Int)) : cr06list k x = fr06list_t k (fr06list k).J (fr06list k).L x := by
  apply cutX (fr06list k) [] [] (st0 (fr06list k).C Tryz.f60 fr06listi x) [] [(3, [], k)] (fr06list_t k · · x) <;> intros <;> kernel_rfl
noncomputable def fr06list_tl3 (k j3 : Nat) (J : JF (List Int)) (L : LF (List Int)) : fr06list_T3 → Option (List Int)
  | (a0, a1, a2) => bif (decide (a2 < ((List.length a0 : Nat) : Int))) then (bif (decide (a2 > (0 : Int))) then (cat a1 ([44, 32] : List Int) fun o1 => idx [] a0 a2 fun o2 => cat o1 o2 fun o3 => L 3 [] j3 (fr06list_s3 (a0, o3, (IntKind.wrap .i64 (a2 + (1 : Int)))))) else (idx [] a0 a2 fun o4 => cat a1 o4 fun o5 => L 3 [] j3 (fr06list_s3 (a0, o5, (IntKind.wrap .i64 (a2 + (1 : Int))))))) else (some a1)
theorem fr06list_el3 (k j3 : Nat) (x : fr06list_T3) : (fr06list k).L 3 [] (j3 + 1) (fr06list_s3 x) = fr06list_tl3 k j3 (fr06list k).J (fr06list k).L x := by
  apply cutX (fr06list k) [.r, .r, .l, .r, .b, .b] [j3] (fr06list_s3 x) [] [(3, [], j3)] (fr06list_tl3 k j3 · · x) <;> intros <;> kernel_rfl
theorem cr06list_ok (k : Nat) : SigOK Tryz.prog 60 (sgr06list k) :=
  fn_ok (C := (fr06list k).C) (l := fr06listE k) rfl trivial (by kernel_rfl) k (fn := Tryz.f60) (by kernel_rfl) (by kernel_rfl) (by kernel_rfl) fr06listi fr06listo rfl rfl (show 0 ≤ 48 by decide) (show 0 ≤ 48 by decide)

/-! carrefour/carrefourref06.list -/
def fr06list'1i : Sk := ⟨[.lf (.pv (.slice .str))], [], []⟩
def fr06list'1o : Sk := ⟨[.lf (.pv .str)], [], []⟩
def fr06list'1_k3 : Sk := ⟨sparse 22 [(0, .lf (.pv (.slice .str))), (3, .lf (.pv .str)), (4, .lf (.pv (.int .i64)))], [], []⟩
abbrev fr06list'1_T3 := (List (List Int)) × (List Int) × (Int)
def fr06list'1_s3 : fr06list'1_T3 → St := stOf fr06list'1_k3 70
abbrev fr06list'1R := List Int
noncomputable def fr06list'1E (k : Nat) : List (Nat × List Sig) := []
noncomputable def fr06list'1 (k : Nat) : FnX (List Int) := mkX { P := Tryz.prog, env := lookS (fr06list'1E k), n := 70, npB := 0, npO := 0, hint := fun i => look none [(3, some fr06list'1_k3)] i, pops := [], bl := [54, 56] } k Tryz.f60 fr06list'1o
noncomputable def cr06list'1 (k : Nat) : (List (List Int)) → Option (List Int) := fnOf (fr06list'1 k).C k Tryz.f60 fr06list'1i fr06list'1o
noncomputable def sgr06list'1 (k : Nat) : Sig := ⟨fr06list'1i, fr06list'1o, mkFun fr06list'1i.tys fr06list'1o.tys (cr06list'1 k)⟩
noncomputable def fr06list'1_t (k : Nat) (J : JF (List Int)) (L : LF (List Int)) : List (List Int) → Option (List Int)
  | a0 => L 3 [] k (fr06list'1_s3 (a0, ([] : List Int), (0 : Int)))
theorem fr06list'1_e (k : Nat) (x : List (List Int)) : cr06list'1 k x = fr06list'1_t k (fr06list'1 k).J (fr06list'1 k).L x := by
  apply cutX (fr06list'1 k) [] [] (st0 (fr06list'1 k).C Tryz.f60 fr06list'1i x) [] [(3, [], k)] (fr06list'1_t k · · x) <;> intros <;> kernel_rfl
noncomputable def fr06list'1_tl3 (k j3 : Nat) (J : JF (List Int)) (L : LF (List Int)) : fr06list'1_T3 → Option (List Int)
  | (a0, a1, a2) => bif (decide (a2 < ((List.length a0 : Nat) : Int))) then (bif (decide (a2 > (0 : Int))) then (cat a1 ([44, 32] : List Int) fun o1 => idx [] a0 a2 fun o2 => cat o1 o2 fun o3 => L 3 [] j3 (fr06list'1_s3 (a0, o3, (IntKind.wrap .i64 (a2 + (1 : Int)))))) else (idx [] a0 a2 fun o4 => cat a1 o4 fun o5 => L 3 [] j3 (fr06list'1_s3 (a0, o5, (IntKind.wrap .i64 (a2 + (1 : Int))))))) else (some a1)
theorem fr06list'1_el3 (k j3 : Nat) (x : fr06list'1_T3) : (fr06list'1 k).L 3 [] (j3 + 1) (fr06list'1_s3 x) = fr06list'1_tl3 k j3 (fr06list'1 k).J (fr06list'1 k).L x := by
  apply cutX (fr06list'1 k) [.r, .r, .l, .r, .b, .b] [j3] (fr06list'1_s3 x) [] [(3, [], j3)] (fr06list'1_tl3 k j3 · · x) <;> intros <;> kernel_rfl
theorem cr06list'1_ok (k : Nat) : SigOK Tryz.prog 60 (sgr06list'1 k) :=
  fn_ok (C := (fr06list'1 k).C) (l := fr06list'1E k) rfl trivial (by kernel_rfl) k (fn := Tryz.f60) (by kernel_rfl) (by kernel_rfl) (by kernel_rfl) fr06list'1i fr06list'1o rfl rfl (show 0 ≤ 48 by decide) (show 0 ≤ 48 by decide)

/-! carrefour/carrefourref06.text -/
def fr06texti : Sk := ⟨[.agg [.pv .str, .pv (.slice yt1), .pv (.slice yt2), .pv (.slice yt3), .pv (.slice (.cons (.slice yt4) .nil)), .pv (.slice yt5), .pv (.int .i64)]], [], []⟩
def fr06texto : Sk := ⟨[.lf (.pv .str)], [], []⟩
def fr06text_k3 : Sk := ⟨sparse 208 [(1, .lf (.ptr 0 0)), (3, .lf (.pv .str)), (4, .lf (.pv (.int .i64)))], [[.pv .str, .pv (.slice yt1), .pv (.slice yt2), .pv (.slice yt3), .pv (.slice (.cons (.slice yt4) .nil)), .pv (.slice yt5), .pv (.int .i64)]], []⟩
abbrev fr06text_T3 := (List Int) × (Int) × (List Int) × (List (YT1)) × (List (YT2)) × (List (YT3)) × (List ((List (YT4)) × (Unit))) × (List (YT5)) × (Int)
def fr06text_s3 : fr06text_T3 → St := stOf fr06text_k3 256
def fr06text_k8 : Sk := ⟨sparse 208 [(1, .lf (.ptr 0 0)), (3, .lf (.pv .str)), (6, .lf (.pv (.int .i64)))], [[.pv .str, .pv (.slice yt1), .pv (.slice yt2), .pv (.slice yt3), .pv (.slice (.cons (.slice yt4) .nil)), .pv (.slice yt5), .pv (.int .i64)]], []⟩
abbrev fr06text_T8 := (List Int) × (Int) × (List Int) × (List (YT1)) × (List (YT2)) × (List (YT3)) × (List ((List (YT4)) × (Unit))) × (List (YT5)) × (Int)
def fr06text_s8 : fr06text_T8 → St := stOf fr06text_k8 256
def fr06text_k13 : Sk := ⟨sparse 208 [(1, .lf (.ptr 0 0)), (3, .lf (.pv .str)), (8, .lf (.pv (.int .i64)))], [[.pv .str, .pv (.slice yt1), .pv (.slice yt2), .pv (.slice yt3), .pv (.slice (.cons (.slice yt4) .nil)), .pv (.slice yt5), .pv (.int .i64)]], []⟩
abbrev fr06text_T13 := (List Int) × (Int) × (List Int) × (List (YT1)) × (List (YT2)) × (List (YT3)) × (List ((List (YT4)) × (Unit))) × (List (YT5)) × (Int)
def fr06text_s13 : fr06text_T13 → St := stOf fr06text_k13 256
def fr06text_k17 : Sk := ⟨sparse 208 [(1, .lf (.ptr 0 0)), (3, .lf (.pv .str)), (9, .lf (.pv (.int .i64)))], [[.pv .str, .pv (.slice yt1), .pv (.slice yt2), .pv (.slice yt3), .pv (.slice (.cons (.slice yt4) .nil)), .pv (.slice yt5), .pv (.int .i64)]], []⟩
abbrev fr06text_T17 := (List Int) × (Int) × (List Int) × (List (YT1)) × (List (YT2)) × (List (YT3)) × (List ((List (YT4)) × (Unit))) × (List (YT5)) × (Int)
def fr06text_s17 : fr06text_T17 → St := stOf fr06text_k17 256
def fr06text_k21 : Sk := ⟨sparse 208 [(1, .lf (.ptr 0 0)), (3, .lf (.pv .str)), (9, .lf (.pv (.int .i64))), (10, .lf (.pv (.int .i64)))], [[.pv .str, .pv (.slice yt1), .pv (.slice yt2), .pv (.slice yt3), .pv (.slice (.cons (.slice yt4) .nil)), .pv (.slice yt5), .pv (.int .i64)]], []⟩
abbrev fr06text_T21 := (List Int) × (Int) × (Int) × (List Int) × (List (YT1)) × (List (YT2)) × (List (YT3)) × (List ((List (YT4)) × (Unit))) × (List (YT5)) × (Int)
def fr06text_s21 : fr06text_T21 → St := stOf fr06text_k21 256
def fr06text_k27 : Sk := ⟨sparse 208 [(1, .lf (.ptr 0 0)), (3, .lf (.pv .str)), (9, .lf (.pv (.int .i64))), (10, .lf (.pv (.int .i64))), (11, .lf (.ptr 1 0))], [[.pv .str, .pv (.slice yt1), .pv (.slice yt2), .pv (.slice yt3), .pv (.slice (.cons (.slice yt4) .nil)), .pv (.slice yt5), .pv (.int .i64)], [.pv .bool, .pv (.slice .str)]], []⟩
abbrev fr06text_T27 := (List Int) × (Int) × (Int) × (List Int) × (List (YT1)) × (List (YT2)) × (List (YT3)) × (List ((List (YT4)) × (Unit))) × (List (YT5)) × (Int) × (Bool) × (List (List Int))
def fr06text_s27 : fr06text_T27 → St := stOf fr06text_k27 256
def fr06text_k30 : Sk := ⟨sparse 208 [(1, .lf (.ptr 0 0)), (3, .lf (.pv .str)), (12, .lf (.pv (.int .i64)))], [[.pv .str, .pv (.slice yt1), .pv (.slice yt2), .pv (.slice yt3), .pv (.slice (.cons (.slice yt4) .nil)), .pv (.slice yt5), .pv (.int .i64)]], []⟩
abbrev fr06text_T30 := (List Int) × (Int) × (List Int) × (List (YT1)) × (List (YT2)) × (List (YT3)) × (List ((List (YT4)) × (Unit))) × (List (YT5)) × (Int)
def fr06text_s30 : fr06text_T30 → St := stOf fr06text_k30 256
abbrev fr06textT := (List Int) × (List (YT1)) × (List (YT2)) × (List (YT3)) × (List ((List (YT4)) × (Unit))) × (List (YT5)) × (Int)
abbrev fr06textR := List Int
noncomputable def fr06textE (k : Nat) : List (Nat × List Sig) := [(26, [sgr06d k]), (27, [sgr06frac k]), (60, [sgr06list'1 k, sgr06list k])]
noncomputable def fr06text (k : Nat) : FnX (List Int) := mkX { P := Tryz.prog, env := lookS (fr06textE k), n := 256, npB := 0, npO := 0, hint := fun i => look none [(3, some fr06text_k3), (8, some fr06text_k8), (13, some fr06text_k13), (17, some fr06text_k17), (21, some fr06text_k21), (27, some fr06text_k27), (30, some fr06text_k30)] i, pops := [], bl := [54, 56] } k Tryz.f28 fr06texto
noncomputable def cr06text (k : Nat) : fr06textT → Option (List Int) := fnOf (fr06text k).C k Tryz.f28 fr06texti fr06texto
noncomputable def sgr06text (k : Nat) : Sig := ⟨fr06texti, fr06texto, mkFun fr06texti.tys fr06texto.tys (cr06text k)⟩
noncomputable def fr06text_t (k : Nat) (J : JF (List Int)) (L : LF (List Int)) : fr06textT → Option (List Int)
  | (a0, a1, a2, a3, a4, a5, a6) => cat ([110, 111, 100, 101, 32] : List Int) a0 fun o1 => cat o1 ([32, 123, 10] : List Int) fun o2 => L 3 [] k (fr06text_s3 (o2, (0 : Int), a0, a1, a2, a3, a4, a5, a6))
theorem fr06text_e (k : Nat) (x : fr06textT) : cr06text k x = fr06text_t k (fr06text k).J (fr06text k).L x := by
  apply cutX (fr06text k) [] [] (st0 (fr06text k).C Tryz.f28 fr06texti x) [] [(3, [], k), (8, [], k), (13, [], k), (17, [], k), (30, [], k)] (fr06text_t k · · x) <;> intros <;> kernel_rfl
noncomputable def fr06text_tl3 (k j3 : Nat) (J : JF (List Int)) (L : LF (List Int)) : fr06text_T3 → Option (List Int)
  | (a0, a1, a2, a3, a4, a5, a6, a7, a8) => bif (decide (a1 < ((List.length a3 : Nat) : Int))) then (idx zt1 a3 a1 fun o1 => cat a0 ([32, 32, 104, 101, 97, 100, 32] : List Int) fun o2 => cat o2 o1.1 fun o3 => cat o3 ([32, 118, 111, 108, 117, 109, 101, 32] : List Int) fun o4 => ((cr06d k) (o1.2.1)).bind fun o5 => cat o4 o5 fun o6 => cat o6 ([32, 102, 108, 111, 119, 32] : List Int) fun o7 => ((cr06d k) (o1.2.2.1)).bind fun o8 => cat o7 o8 fun o9 => cat o9 ([32, 117, 115, 101, 32] : List Int) fun o10 => ((cr06frac k) (o1.2.2.2.1.1, o1.2.2.2.1.2.1)).bind fun o11 => cat o10 o11 fun o12 => cat o12 ([32, 115, 112, 101, 101, 100, 32] : List Int) fun o13 => ((cr06d k) (o1.2.2.2.2.1)).bind fun o14 => cat o13 o14 fun o15 => cat o15 ([32, 103, 114, 97, 100, 101, 32] : List Int) fun o16 => ((cr06d k) (o1.2.2.2.2.2.1)).bind fun o17 => cat o16 o17 fun o18 => cat o18 ([32, 119, 105, 100, 116, 104, 32] : List Int) fun o19 => ((cr06d k) (o1.2.2.2.2.2.2.1)).bind fun o20 => cat o19 o20 fun o21 => cat o21 ([32, 108, 101, 110, 103, 116, 104, 32] : List Int) fun o22 => ((cr06d k) (o1.2.2.2.2.2.2.2.1)).bind fun o23 => cat o22 o23 fun o24 => cat o24 ([32, 103, 114, 101, 101, 110, 32] : List Int) fun o25 => ((cr06d k) (o1.2.2.2.2.2.2.2.2.1)).bind fun o26 => cat o25 o26 fun o27 => cat o27 ([59, 10] : List Int) fun o28 => L 3 [] j3 (fr06text_s3 (o28, (IntKind.wrap .i64 (a1 + (1 : Int))), a2, a3, a4, a5, a6, a7, a8))) else (L 8 [] k (fr06text_s8 (a0, (0 : Int), a2, a3, a4, a5, a6, a7, a8)))
theorem fr06text_el3 (k j3 : Nat) (x : fr06text_T3) : (fr06text k).L 3 [] (j3 + 1) (fr06text_s3 x) = fr06text_tl3 k j3 (fr06text k).J (fr06text k).L x := by
  apply cutX (fr06text k) [.r, .r, .l, .r, .b, .b] [j3] (fr06text_s3 x) [] [(3, [], j3), (8, [], k), (13, [], k), (17, [], k), (30, [], k)] (fr06text_tl3 k j3 · · x) <;> intros <;> kernel_rfl
noncomputable def fr06text_tl8 (k j8 : Nat) (J : JF (List Int)) (L : LF (List Int)) : fr06text_T8 → Option (List Int)
  | (a0, a1, a2, a3, a4, a5, a6, a7, a8) => bif (decide (a1 < ((List.length a4 : Nat) : Int))) then (idx zt2 a4 a1 fun o1 => cat a0 ([32, 32, 119, 97, 108, 107, 32] : List Int) fun o2 => cat o2 o1.1 fun o3 => cat o3 ([32, 119, 105, 116, 104, 32] : List Int) fun o4 => cat o4 o1.2.1 fun o5 => cat o5 ([32, 108, 111, 110, 103, 32] : List Int) fun o6 => ((cr06d k) (o1.2.2.1)).bind fun o7 => cat o6 o7 fun o8 => cat o8 ([32, 112, 97, 99, 101, 32] : List Int) fun o9 => ((cr06d k) (o1.2.2.2.1)).bind fun o10 => cat o9 o10 fun o11 => cat o11 ([32, 108, 101, 97, 115, 116, 32] : List Int) fun o12 => ((cr06d k) (o1.2.2.2.2.1)).bind fun o13 => cat o12 o13 fun o14 => cat o14 ([59, 10] : List Int) fun o15 => L 8 [] j8 (fr06text_s8 (o15, (IntKind.wrap .i64 (a1 + (1 : Int))), a2, a3, a4, a5, a6, a7, a8))) else (L 13 [] k (fr06text_s13 (a0, (0 : Int), a2, a3, a4, a5, a6, a7, a8)))
theorem fr06text_el8 (k j8 : Nat) (x : fr06text_T8) : (fr06text k).L 8 [] (j8 + 1) (fr06text_s8 x) = fr06text_tl8 k j8 (fr06text k).J (fr06text k).L x := by
  apply cutX (fr06text k) [.r, .r, .r, .l, .r, .b, .b] [j8] (fr06text_s8 x) [] [(3, [], k), (8, [], j8), (13, [], k), (17, [], k), (30, [], k)] (fr06text_tl8 k j8 · · x) <;> intros <;> kernel_rfl
noncomputable def fr06text_tl13 (k j13 : Nat) (J : JF (List Int)) (L : LF (List Int)) : fr06text_T13 → Option (List Int)
  | (a0, a1, a2, a3, a4, a5, a6, a7, a8) => bif (decide (a1 < ((List.length a5 : Nat) : Int))) then (cat a0 ([32, 32, 112, 104, 97, 115, 101, 32] : List Int) fun o1 => idx zt3 a5 a1 fun o2 => cat o1 o2.1 fun o3 => cat o3 ([58, 32] : List Int) fun o4 => idx zt3 a5 a1 fun o5 => ((cr06list'1 k) (o5.2.1)).bind fun o6 => cat o4 o6 fun o7 => cat o7 ([59, 10] : List Int) fun o8 => L 13 [] j13 (fr06text_s13 (o8, (IntKind.wrap .i64 (a1 + (1 : Int))), a2, a3, a4, a5, a6, a7, a8))) else (L 17 [] k (fr06text_s17 (a0, (0 : Int), a2, a3, a4, a5, a6, a7, a8)))
theorem fr06text_el13 (k j13 : Nat) (x : fr06text_T13) : (fr06text k).L 13 [] (j13 + 1) (fr06text_s13 x) = fr06text_tl13 k j13 (fr06text k).J (fr06text k).L x := by
  apply cutX (fr06text k) [.r, .r, .r, .r, .l, .r, .b, .b] [j13] (fr06text_s13 x) [] [(3, [], k), (8, [], k), (13, [], j13), (17, [], k), (30, [], k)] (fr06text_tl13 k j13 · · x) <;> intros <;> kernel_rfl
noncomputable def fr06text_tl17 (k j17 : Nat) (J : JF (List Int)) (L : LF (List Int)) : fr06text_T17 → Option (List Int)
  | (a0, a1, a2, a3, a4, a5, a6, a7, a8) => bif (decide (a1 < ((List.length a6 : Nat) : Int))) then (cat a0 ([32, 32, 103, 114, 111, 117, 112, 32, 123, 10] : List Int) fun o1 => L 21 [j17] k (fr06text_s21 (o1, a1, (0 : Int), a2, a3, a4, a5, a6, a7, a8))) else (L 30 [] k (fr06text_s30 (a0, (0 : Int), a2, a3, a4, a5, a6, a7, a8)))
theorem fr06text_el17 (k j17 : Nat) (x : fr06text_T17) : (fr06text k).L 17 [] (j17 + 1) (fr06text_s17 x) = fr06text_tl17 k j17 (fr06text k).J (fr06text k).L x := by
  apply cutX (fr06text k) [.r, .r, .r, .r, .r, .l, .r, .b, .b] [j17] (fr06text_s17 x) [] [(3, [], k), (8, [], k), (13, [], k), (17, [], j17), (21, [j17], k), (30, [], k)] (fr06text_tl17 k j17 · · x) <;> intros <;> kernel_rfl
noncomputable def fr06text_tl21 (k j17 j21 : Nat) (J : JF (List Int)) (L : LF (List Int)) : fr06text_T21 → Option (List Int)
  | (a0, a1, a2, a3, a4, a5, a6, a7, a8, a9) => idx ([], ()) a7 a1 fun o1 => bif (decide (a2 < ((List.length o1.1 : Nat) : Int))) then (idx ([], ()) a7 a1 fun o2 => idx zt4 o2.1 a2 fun o3 => cat a0 ([32, 32, 32, 32, 114, 105, 110, 103, 32] : List Int) fun o4 => bif o3.1 then (cat o4 ([102, 114, 101, 101, 32] : List Int) fun o5 => J 27 [j17, j21] (fr06text_s27 (o5, a1, a2, a3, a4, a5, a6, a7, a8, a9, o3.1, o3.2.1))) else (J 27 [j17, j21] (fr06text_s27 (o4, a1, a2, a3, a4, a5, a6, a7, a8, a9, o3.1, o3.2.1)))) else (cat a0 ([32, 32, 125, 10] : List Int) fun o6 => L 17 [] j17 (fr06text_s17 (o6, (IntKind.wrap .i64 (a1 + (1 : Int))), a3, a4, a5, a6, a7, a8, a9)))
theorem fr06text_el21 (k j17 j21 : Nat) (x : fr06text_T21) : (fr06text k).L 21 [j17] (j21 + 1) (fr06text_s21 x) = fr06text_tl21 k j17 j21 (fr06text k).J (fr06text k).L x := by
  apply cutX (fr06text k) [.r, .r, .r, .r, .r, .l, .r, .b, .b, .r, .l, .b, .r, .l, .r, .b, .b] [j17, j21] (fr06text_s21 x) [(27, [j17, j21])] [(3, [], k), (8, [], k), (13, [], k), (17, [], j17), (21, [j17], j21), (30, [], k)] (fr06text_tl21 k j17 j21 · · x) <;> intros <;> kernel_rfl
noncomputable def fr06text_tj27 (k j17 j21 : Nat) (J : JF (List Int)) (L : LF (List Int)) : fr06text_T27 → Option (List Int)
  | (a0, a1, a2, a3, a4, a5, a6, a7, a8, a9, a10, a11) => ((cr06list'1 k) (a11)).bind fun o1 => cat a0 o1 fun o2 => cat o2 ([59, 10] : List Int) fun o3 => L 21 [j17] j21 (fr06text_s21 (o3, a1, (IntKind.wrap .i64 (a2 + (1 : Int))), a3, a4, a5, a6, a7, a8, a9))
theorem fr06text_ej27 (k j17 j21 : Nat) (x : fr06text_T27) : (fr06text k).J 27 [j17, j21] (fr06text_s27 x) = fr06text_tj27 k j17 j21 (fr06text k).J (fr06text k).L x := by
  apply cutX (fr06text k) [.r, .r, .r, .r, .r, .l, .r, .b, .b, .r, .l, .b, .r, .l, .r, .b, .b, .r, .l, .b, .r, .r, .r] [j17, j21] (fr06text_s27 x) [(27, [j17, j21])] [(3, [], k), (8, [], k), (13, [], k), (17, [], j17), (21, [j17], j21), (30, [], k)] (fr06text_tj27 k j17 j21 · · x) <;> intros <;> kernel_rfl
noncomputable def fr06text_tl30 (k j30 : Nat) (J : JF (List Int)) (L : LF (List Int)) : fr06text_T30 → Option (List Int)
  | (a0, a1, a2, a3, a4, a5, a6, a7, a8) => bif (decide (a1 < ((List.length a7 : Nat) : Int))) then (cat a0 ([32, 32, 102, 111, 101, 32] : List Int) fun o1 => idx zt5 a7 a1 fun o2 => cat o1 o2.1 fun o3 => cat o3 ([32] : List Int) fun o4 => idx zt5 a7 a1 fun o5 => cat o4 o5.2.1 fun o6 => cat o6 ([59, 10] : List Int) fun o7 => L 30 [] j30 (fr06text_s30 (o7, (IntKind.wrap .i64 (a1 + (1 : Int))), a2, a3, a4, a5, a6, a7, a8))) else (cat a0 ([125, 10] : List Int) fun o8 => some o8)
theorem fr06text_el30 (k j30 : Nat) (x : fr06text_T30) : (fr06text k).L 30 [] (j30 + 1) (fr06text_s30 x) = fr06text_tl30 k j30 (fr06text k).J (fr06text k).L x := by
  apply cutX (fr06text k) [.r, .r, .r, .r, .r, .r, .l, .r, .b, .b] [j30] (fr06text_s30 x) [] [(3, [], k), (8, [], k), (13, [], k), (17, [], k), (30, [], j30)] (fr06text_tl30 k j30 · · x) <;> intros <;> kernel_rfl
theorem cr06text_ok (k : Nat) : SigOK Tryz.prog 28 (sgr06text k) :=
  fn_ok (C := (fr06text k).C) (l := fr06textE k) rfl ⟨⟨cr06d_ok k, trivial⟩, ⟨cr06frac_ok k, trivial⟩, ⟨cr06list'1_ok k, cr06list_ok k, trivial⟩, trivial⟩ (by kernel_rfl) k (fn := Tryz.f28) (by kernel_rfl) (by kernel_rfl) (by kernel_rfl) fr06texti fr06texto rfl rfl (show 0 ≤ 48 by decide) (show 0 ≤ 48 by decide)

/-! carrefour/carrefourref06.Show -/
def fr06Showi : Sk := ⟨[.agg [.pv (.int .i64), .pv (.int .i64), .pv (.int .i64), .pv (.int .i64), .pv (.int .i64), .pv (.slice yt6), .pv (.slice yt7), .pv (.int .i64), .pv (.int .i64)]], [], []⟩
def fr06Showo : Sk := ⟨[.lf (.pv (.slice (.int .u8))), .lf (.pv (.int .i64))], [], []⟩
def fr06Show_k5 : Sk := ⟨sparse 112 [(1, .lf (.ptr 0 0)), (4, .lf (.pv .str)), (5, .lf (.pv (.int .i64)))], [[.pv (.int .i64), .pv (.int .i64), .pv (.int .i64), .pv (.int .i64), .pv (.int .i64), .pv (.slice yt6), .pv (.slice yt7), .pv (.int .i64), .pv (.int .i64)]], []⟩
abbrev fr06Show_T5 := (List Int) × (Int) × (Int) × (Int) × (Int) × (Int) × (Int) × (List (YT6)) × (List (YT7)) × (Int) × (Int)
def fr06Show_s5 : fr06Show_T5 → St := stOf fr06Show_k5 160
def fr06Show_k11 : Sk := ⟨sparse 112 [(1, .lf (.ptr 0 0)), (4, .lf (.pv .str)), (6, .lf (.pv (.int .i64)))], [[.pv (.int .i64), .pv (.int .i64), .pv (.int .i64), .pv (.int .i64), .pv (.int .i64), .pv (.slice yt6), .pv (.slice yt7), .pv (.int .i64), .pv (.int .i64)]], []⟩
abbrev fr06Show_T11 := (List Int) × (Int) × (Int) × (Int) × (Int) × (Int) × (Int) × (List (YT6)) × (List (YT7)) × (Int) × (Int)
def fr06Show_s11 : fr06Show_T11 → St := stOf fr06Show_k11 160
abbrev fr06ShowT := (Int) × (Int) × (Int) × (Int) × (Int) × (List (YT6)) × (List (YT7)) × (Int) × (Int)
abbrev fr06ShowR := (List (Int)) × (Int)
noncomputable def fr06ShowE (k : Nat) : List (Nat × List Sig) := [(11, [sgr06Right k]), (26, [sgr06d k]), (27, [sgr06frac k]), (28, [sgr06text k])]
noncomputable def fr06Show (k : Nat) : FnX fr06ShowR := mkX { P := Tryz.prog, env := lookS (fr06ShowE k), n := 160, npB := 0, npO := 0, hint := fun i => look none [(5, some fr06Show_k5), (11, some fr06Show_k11)] i, pops := [], bl := [54, 56] } k Tryz.f9 fr06Showo
noncomputable def cr06Show (k : Nat) : fr06ShowT → Option fr06ShowR := fnOf (fr06Show k).C k Tryz.f9 fr06Showi fr06Showo
noncomputable def sgr06Show (k : Nat) : Sig := ⟨fr06Showi, fr06Showo, mkFun fr06Showi.tys fr06Showo.tys (cr06Show k)⟩
noncomputable def fr06Show_t (k : Nat) (J : JF fr06ShowR) (L : LF fr06ShowR) : fr06ShowT → Option fr06ShowR
  | (a0, a1, a2, a3, a4, a5, a6, a7, a8) => ((cr06Right k) (a0, a1, a2, a3, a4, a5, a6, a7, a8)).bind fun o1 => bif (!o1) then (some ([], (1 : Int))) else (((cr06d k) (a0)).bind fun o2 => cat ([99, 121, 99, 108, 101, 32] : List Int) o2 fun o3 => cat o3 ([32, 116, 111, 32] : List Int) fun o4 => ((cr06d k) (a1)).bind fun o5 => cat o4 o5 fun o6 => cat o6 ([32, 98, 121, 32] : List Int) fun o7 => ((cr06d k) (a2)).bind fun o8 => cat o7 o8 fun o9 => cat o9 ([59, 10, 112, 101, 97, 107, 32] : List Int) fun o10 => ((cr06frac k) (a3, a4)).bind fun o11 => cat o10 o11 fun o12 => cat o12 ([59, 10] : List Int) fun o13 => L 5 [] k (fr06Show_s5 (o13, (0 : Int), a0, a1, a2, a3, a4, a5, a6, a7, a8)))
theorem fr06Show_e (k : Nat) (x : fr06ShowT) : cr06Show k x = fr06Show_t k (fr06Show k).J (fr06Show k).L x := by
  apply cutX (fr06Show k) [] [] (st0 (fr06Show k).C Tryz.f9 fr06Showi x) [] [(5, [], k), (11, [], k)] (fr06Show_t k · · x) <;> intros <;> kernel_rfl
noncomputable def fr06Show_tl5 (k j5 : Nat) (J : JF fr06ShowR) (L : LF fr06ShowR) : fr06Show_T5 → Option fr06ShowR
  | (a0, a1, a2, a3, a4, a5, a6, a7, a8, a9, a10) => bif (decide (a1 < ((List.length a7 : Nat) : Int))) then (idx zt6 a7 a1 fun o1 => ((cr06text k) (o1.1, o1.2.1, o1.2.2.1, o1.2.2.2.1, o1.2.2.2.2.1, o1.2.2.2.2.2.1, o1.2.2.2.2.2.2.1)).bind fun o2 => cat a0 o2 fun o3 => L 5 [] j5 (fr06Show_s5 (o3, (IntKind.wrap .i64 (a1 + (1 : Int))), a2, a3, a4, a5, a6, a7, a8, a9, a10))) else (bif (decide (((List.length a8 : Nat) : Int) > (0 : Int))) then (cat a0 ([97, 114, 116, 101, 114, 121, 32, 123, 10] : List Int) fun o4 => L 11 [] k (fr06Show_s11 (o4, (0 : Int), a2, a3, a4, a5, a6, a7, a8, a9, a10))) else (bif (a9 != (0 : Int)) then (cat a0 ([97, 114, 116, 101, 114, 121, 32, 123, 10] : List Int) fun o5 => L 11 [] k (fr06Show_s11 (o5, (0 : Int), a2, a3, a4, a5, a6, a7, a8, a9, a10))) else (bif (a10 != (0 : Int)) then (cat a0 ([97, 114, 116, 101, 114, 121, 32, 123, 10] : List Int) fun o6 => L 11 [] k (fr06Show_s11 (o6, (0 : Int), a2, a3, a4, a5, a6, a7, a8, a9, a10))) else (some (a0, (0 : Int))))))
theorem fr06Show_el5 (k j5 : Nat) (x : fr06Show_T5) : (fr06Show k).L 5 [] (j5 + 1) (fr06Show_s5 x) = fr06Show_tl5 k j5 (fr06Show k).J (fr06Show k).L x := by
  apply cutX (fr06Show k) [.r, .r, .r, .l, .r, .b, .b] [j5] (fr06Show_s5 x) [] [(5, [], j5), (11, [], k)] (fr06Show_tl5 k j5 · · x) <;> intros <;> kernel_rfl
noncomputable def fr06Show_tl11 (k j11 : Nat) (J : JF fr06ShowR) (L : LF fr06ShowR) : fr06Show_T11 → Option fr06ShowR
  | (a0, a1, a2, a3, a4, a5, a6, a7, a8, a9, a10) => bif (decide (a1 < ((List.length a8 : Nat) : Int))) then (idx zt7 a8 a1 fun o1 => cat a0 ([32, 32, 115, 116, 111, 112, 32] : List Int) fun o2 => cat o2 o1.1 fun o3 => cat o3 ([32, 111, 117, 116, 32] : List Int) fun o4 => cat o4 o1.2.1 fun o5 => cat o5 ([32, 105, 110, 32] : List Int) fun o6 => cat o6 o1.2.2.1 fun o7 => cat o7 ([32, 97, 104, 101, 97, 100, 32] : List Int) fun o8 => ((cr06d k) (o1.2.2.2.1)).bind fun o9 => cat o8 o9 fun o10 => cat o10 ([32, 98, 97, 99, 107, 32] : List Int) fun o11 => ((cr06d k) (o1.2.2.2.2.1)).bind fun o12 => cat o11 o12 fun o13 => cat o13 ([59, 10] : List Int) fun o14 => L 11 [] j11 (fr06Show_s11 (o14, (IntKind.wrap .i64 (a1 + (1 : Int))), a2, a3, a4, a5, a6, a7, a8, a9, a10))) else (cat a0 ([32, 32, 119, 101, 105, 103, 104, 116, 115, 32] : List Int) fun o15 => ((cr06d k) (a9)).bind fun o16 => cat o15 o16 fun o17 => cat o17 ([32] : List Int) fun o18 => ((cr06d k) (a10)).bind fun o19 => cat o18 o19 fun o20 => cat o20 ([59, 10, 125, 10] : List Int) fun o21 => some (o21, (0 : Int)))
theorem fr06Show_el11 (k j11 : Nat) (x : fr06Show_T11) : (fr06Show k).L 11 [] (j11 + 1) (fr06Show_s11 x) = fr06Show_tl11 k j11 (fr06Show k).J (fr06Show k).L x := by
  apply cutX (fr06Show k) [.r, .r, .r, .r, .l, .r, .t, .r, .l, .r, .b, .b] [j11] (fr06Show_s11 x) [] [(5, [], k), (11, [], j11)] (fr06Show_tl11 k j11 · · x) <;> intros <;> kernel_rfl
theorem cr06Show_ok (k : Nat) : SigOK Tryz.prog 9 (sgr06Show k) :=
  fn_ok (C := (fr06Show k).C) (l := fr06ShowE k) rfl ⟨⟨cr06Right_ok k, trivial⟩, ⟨cr06d_ok k, trivial⟩, ⟨cr06frac_ok k, trivial⟩, ⟨cr06text_ok k, trivial⟩, trivial⟩ (by kernel_rfl) k (fn := Tryz.f9) (by kernel_rfl) (by kernel_rfl) (by kernel_rfl) fr06Showi fr06Showo rfl rfl (show 0 ≤ 48 by decide) (show 0 ≤ 48 by decide)
end Go.Proofs.YtipcabmhdokfjaaGreatDoorV

set_option linter.unusedVariables false
set_option maxHeartbeats 4000000
set_option maxRecDepth 100000
namespace Go.Proofs.YtipcabmhdokfjaaGreatDoorV
open Go Go.RowKit

/-! carrefour/carrefourlaw06.sample -/
def fw06samplei : Sk := ⟨[], [], []⟩
def fw06sampleo : Sk := ⟨[.lf (.pv .str)], [], []⟩
abbrev fw06sampleT := Unit
abbrev fw06sampleR := List Int
noncomputable def fw06sampleE (k : Nat) : List (Nat × List Sig) := []
noncomputable def fw06sample (k : Nat) : FnX (List Int) := mkX { P := Tryz.prog, env := lookS (fw06sampleE k), n := 49, npB := 0, npO := 0, hint := fun i => look none [] i, pops := [], bl := [54, 56] } k Tryz.f39 fw06sampleo
noncomputable def cw06sample (k : Nat) : fw06sampleT → Option (List Int) := fnOf (fw06sample k).C k Tryz.f39 fw06samplei fw06sampleo
noncomputable def sgw06sample (k : Nat) : Sig := ⟨fw06samplei, fw06sampleo, mkFun fw06samplei.tys fw06sampleo.tys (cw06sample k)⟩
noncomputable def fw06sample_t (k : Nat) (J : JF (List Int)) (L : LF (List Int)) : fw06sampleT → Option (List Int)
  | _ => some ([99, 121, 99, 108, 101, 32, 54, 48, 48, 32, 116, 111, 32, 57, 48, 48, 32, 98, 121, 32, 49, 48, 59, 10, 112, 101, 97, 107, 32, 49, 47, 49, 59, 10, 110, 111, 100, 101, 32, 97, 32, 123, 10, 32, 32, 104, 101, 97, 100, 32, 110, 32, 118, 111, 108, 117, 109, 101, 32, 52, 48, 48, 32, 102, 108, 111, 119, 32, 49, 56, 48, 48, 32, 117, 115, 101, 32, 49, 47, 49, 32, 115, 112, 101, 101, 100, 32, 49, 53, 48, 48, 32, 103, 114, 97, 100, 101, 32, 45, 50, 48, 32, 119, 105, 100, 116, 104, 32, 49, 56, 48, 48, 32, 108, 101, 110, 103, 116, 104, 32, 54, 48, 48, 32, 103, 114, 101, 101, 110, 32, 55, 48, 59, 10, 32, 32, 119, 97, 108, 107, 32, 119, 32, 119, 105, 116, 104, 32, 112, 32, 108, 111, 110, 103, 32, 49, 53, 48, 48, 32, 112, 97, 99, 101, 32, 49, 50, 48, 32, 108, 101, 97, 115, 116, 32, 55, 48, 59, 10, 32, 32, 112, 104, 97, 115, 101, 32, 112, 58, 32, 110, 44, 32, 101, 59, 10, 32, 32, 103, 114, 111, 117, 112, 32, 123, 10, 32, 32, 32, 32, 114, 105, 110, 103, 32, 102, 114, 101, 101, 32, 112, 44, 32, 113, 59, 10, 32, 32, 125, 10, 32, 32, 102, 111, 101, 32, 110, 32, 101, 59, 10, 125, 10, 97, 114, 116, 101, 114, 121, 32, 123, 10, 32, 32, 115, 116, 111, 112, 32, 97, 32, 111, 117, 116, 32, 110, 32, 105, 110, 32, 101, 32, 97, 104, 101, 97, 100, 32, 48, 32, 98, 97, 99, 107, 32, 48, 59, 10, 32, 32, 119, 101, 105, 103, 104, 116, 115, 32, 50, 32, 49, 59, 10, 125, 10] : List Int)
theorem fw06sample_e (k : Nat) (x : fw06sampleT) : cw06sample k x = fw06sample_t k (fw06sample k).J (fw06sample k).L x := by
  apply cutX (fw06sample k) [] [] (st0 (fw06sample k).C Tryz.f39 fw06samplei x) [] [] (fw06sample_t k · · x) <;> intros <;> kernel_rfl
theorem cw06sample_ok (k : Nat) : SigOK Tryz.prog 39 (sgw06sample k) :=
  fn_ok (C := (fw06sample k).C) (l := fw06sampleE k) rfl trivial (by kernel_rfl) k (fn := Tryz.f39) (by kernel_rfl) (by kernel_rfl) (by kernel_rfl) fw06samplei fw06sampleo rfl rfl (show 0 ≤ 48 by decide) (show 0 ≤ 48 by decide)

/-! (*carrefour/carrefourref05.reader).is -/
def fr05r_isi : Sk := ⟨[.lf (.ptr 0 0), .lf (.pv .str)], [[.own 0, .pv (.int .i64), .pv (.int .i64)]], [some (135, yt8)]⟩
def fr05r_iso : Sk := ⟨[.lf (.pv .bool)], [[.own 0, .pv (.int .i64), .pv (.int .i64)]], [some (135, yt8)]⟩
abbrev fr05r_isT := (List Int) × (Int) × (Int) × (List (YT8))
abbrev fr05r_isR := (Bool) × (Int) × (Int) × (List (YT8))
noncomputable def fr05r_isE (k : Nat) : List (Nat × List Sig) := []
noncomputable def fr05r_is (k : Nat) : FnX fr05r_isR := mkX { P := Tryz.prog, env := lookS (fr05r_isE k), n := 89, npB := 1, npO := 1, hint := fun i => look none [] i, pops := [], bl := [54, 56] } k Tryz.f85 fr05r_iso
noncomputable def cr05r_is (k : Nat) : fr05r_isT → Option fr05r_isR := fnOf (fr05r_is k).C k Tryz.f85 fr05r_isi fr05r_iso
noncomputable def sgr05r_is (k : Nat) : Sig := ⟨fr05r_isi, fr05r_iso, mkFun fr05r_isi.tys fr05r_iso.tys (cr05r_is k)⟩
noncomputable def fr05r_is_t (k : Nat) (J : JF fr05r_isR) (L : LF fr05r_isR) : fr05r_isT → Option fr05r_isR
  | (a0, a1, a2, a3) => bif (a1 == (0 : Int)) then (bif (inB (0 : Int) (List.length a3)) then bif ((rdA zt8 a3 (Int.toNat (0 : Int))).1 != (2 : Int)) then (bif (inB (0 : Int) (List.length a3)) then bif ((rdA zt8 a3 (Int.toNat (0 : Int))).1 != (0 : Int)) then (bif (inB (0 : Int) (List.length a3)) then some (((rdA zt8 a3 (Int.toNat (0 : Int))).2.1 == a0), a1, a2, a3) else none) else (some (false, a1, a2, a3)) else none) else (some (false, a1, a2, a3)) else none) else (some (false, a1, a2, a3))
theorem fr05r_is_e (k : Nat) (x : fr05r_isT) : cr05r_is k x = fr05r_is_t k (fr05r_is k).J (fr05r_is k).L x := by
  apply cutX (fr05r_is k) [] [] (st0 (fr05r_is k).C Tryz.f85 fr05r_isi x) [] [] (fr05r_is_t k · · x) <;> intros <;> kernel_rfl
theorem cr05r_is_ok (k : Nat) : SigOK Tryz.prog 85 (sgr05r_is k) :=
  fn_ok (C := (fr05r_is k).C) (l := fr05r_isE k) rfl trivial (by kernel_rfl) k (fn := Tryz.f85) (by kernel_rfl) (by kernel_rfl) (by kernel_rfl) fr05r_isi fr05r_iso rfl rfl (show 1 ≤ 48 by decide) (show 1 ≤ 48 by decide)

/-! (*carrefour/carrefourref05.reader).fail -/
def fr05r_faili : Sk := ⟨[.lf (.ptr 0 0), .lf (.pv (.int .i64))], [[.own 0, .pv (.int .i64), .pv (.int .i64)]], [some (135, yt8)]⟩
def fr05r_failo : Sk := ⟨[], [[.own 0, .pv (.int .i64), .pv (.int .i64)]], [some (135, yt8)]⟩
abbrev fr05r_failT := (Int) × (Int) × (Int) × (List (YT8))
abbrev fr05r_failR := (Int) × (Int) × (List (YT8))
noncomputable def fr05r_failE (k : Nat) : List (Nat × List Sig) := []
noncomputable def fr05r_fail (k : Nat) : FnX fr05r_failR := mkX { P := Tryz.prog, env := lookS (fr05r_failE k), n := 71, npB := 1, npO := 1, hint := fun i => look none [] i, pops := [], bl := [54, 56] } k Tryz.f88 fr05r_failo
noncomputable def cr05r_fail (k : Nat) : fr05r_failT → Option fr05r_failR := fnOf (fr05r_fail k).C k Tryz.f88 fr05r_faili fr05r_failo
noncomputable def sgr05r_fail (k : Nat) : Sig := ⟨fr05r_faili, fr05r_failo, mkFun fr05r_faili.tys fr05r_failo.tys (cr05r_fail k)⟩
noncomputable def fr05r_fail_t (k : Nat) (J : JF fr05r_failR) (L : LF fr05r_failR) : fr05r_failT → Option fr05r_failR
  | (a0, a1, a2, a3) => bif (a1 == (0 : Int)) then (bif (inB (0 : Int) (List.length a3)) then some (a0, (rdA zt8 a3 (Int.toNat (0 : Int))).2.2.2.1, a3) else none) else (some (a1, a2, a3))
theorem fr05r_fail_e (k : Nat) (x : fr05r_failT) : cr05r_fail k x = fr05r_fail_t k (fr05r_fail k).J (fr05r_fail k).L x := by
  apply cutX (fr05r_fail k) [] [] (st0 (fr05r_fail k).C Tryz.f88 fr05r_faili x) [] [] (fr05r_fail_t k · · x) <;> intros <;> kernel_rfl
theorem cr05r_fail_ok (k : Nat) : SigOK Tryz.prog 88 (sgr05r_fail k) :=
  fn_ok (C := (fr05r_fail k).C) (l := fr05r_failE k) rfl trivial (by kernel_rfl) k (fn := Tryz.f88) (by kernel_rfl) (by kernel_rfl) (by kernel_rfl) fr05r_faili fr05r_failo rfl rfl (show 1 ≤ 48 by decide) (show 1 ≤ 48 by decide)

/-! (*carrefour/carrefourref05.reader).next -/
def fr05r_nexti : Sk := ⟨[.lf (.ptr 0 0)], [[.own 0, .pv (.int .i64), .pv (.int .i64)]], [some (135, yt8)]⟩
def fr05r_nexto : Sk := ⟨[.agg [.pv (.int .i64), .pv .str, .pv (.int .i64), .pv (.int .i64)]], [[.pv (.slice yt8), .pv (.int .i64), .pv (.int .i64)]], [none]⟩
abbrev fr05r_nextT := (Int) × (Int) × (List (YT8))
abbrev fr05r_nextR := (Int) × (List Int) × (Int) × (Int) × (List (YT8)) × (Int) × (Int)
noncomputable def fr05r_nextE (k : Nat) : List (Nat × List Sig) := []
noncomputable def fr05r_next (k : Nat) : FnX fr05r_nextR := mkX { P := Tryz.prog, env := lookS (fr05r_nextE k), n := 77, npB := 1, npO := 1, hint := fun i => look none [] i, pops := [], bl := [54, 56] } k Tryz.f86 fr05r_nexto
noncomputable def cr05r_next (k : Nat) : fr05r_nextT → Option fr05r_nextR := fnOf (fr05r_next k).C k Tryz.f86 fr05r_nexti fr05r_nexto
noncomputable def sgr05r_next (k : Nat) : Sig := ⟨fr05r_nexti, fr05r_nexto, mkFun fr05r_nexti.tys fr05r_nexto.tys (cr05r_next k)⟩
noncomputable def fr05r_next_t (k : Nat) (J : JF fr05r_nextR) (L : LF fr05r_nextR) : fr05r_nextT → Option fr05r_nextR
  | (a0, a1, a2) => bif (inB (0 : Int) (List.length a2)) then bif (a0 == (0 : Int)) then (bif ((rdA zt8 a2 (Int.toNat (0 : Int))).1 != (0 : Int)) then (bif (cutB (1 : Int) (((List.length a2) : Nat) : Int) (List.length a2)) then some ((rdA zt8 a2 (Int.toNat (0 : Int))).1, (rdA zt8 a2 (Int.toNat (0 : Int))).2.1, (rdA zt8 a2 (Int.toNat (0 : Int))).2.2.1, (rdA zt8 a2 (Int.toNat (0 : Int))).2.2.2.1, (cutL a2 (1 : Int) (((List.length a2) : Nat) : Int)), a0, a1) else none) else (some ((rdA zt8 a2 (Int.toNat (0 : Int))).1, (rdA zt8 a2 (Int.toNat (0 : Int))).2.1, (rdA zt8 a2 (Int.toNat (0 : Int))).2.2.1, (rdA zt8 a2 (Int.toNat (0 : Int))).2.2.2.1, a2, a0, a1))) else (some ((rdA zt8 a2 (Int.toNat (0 : Int))).1, (rdA zt8 a2 (Int.toNat (0 : Int))).2.1, (rdA zt8 a2 (Int.toNat (0 : Int))).2.2.1, (rdA zt8 a2 (Int.toNat (0 : Int))).2.2.2.1, a2, a0, a1)) else none
theorem fr05r_next_e (k : Nat) (x : fr05r_nextT) : cr05r_next k x = fr05r_next_t k (fr05r_next k).J (fr05r_next k).L x := by
  apply cutX (fr05r_next k) [] [] (st0 (fr05r_next k).C Tryz.f86 fr05r_nexti x) [] [] (fr05r_next_t k · · x) <;> intros <;> kernel_rfl
theorem cr05r_next_ok (k : Nat) : SigOK Tryz.prog 86 (sgr05r_next k) :=
  fn_ok (C := (fr05r_next k).C) (l := fr05r_nextE k) rfl trivial (by kernel_rfl) k (fn := Tryz.f86) (by kernel_rfl) (by kernel_rfl) (by kernel_rfl) fr05r_nexti fr05r_nexto rfl rfl (show 1 ≤ 48 by decide) (show 1 ≤ 48 by decide)

/-! (*carrefour/carrefourref05.reader).want -/
def fr05r_wanti : Sk := ⟨[.lf (.ptr 0 0), .lf (.pv .str)], [[.own 0, .pv (.int .i64), .pv (.int .i64)]], [some (135, yt8)]⟩
def fr05r_wanto : Sk := ⟨[], [[.pv (.slice yt8), .pv (.int .i64), .pv (.int .i64)]], [none]⟩
abbrev fr05r_wantT := (List Int) × (Int) × (Int) × (List (YT8))
abbrev fr05r_wantR := (List (YT8)) × (Int) × (Int)
noncomputable def fr05r_wantE (k : Nat) : List (Nat × List Sig) := [(85, [sgr05r_is k]), (88, [sgr05r_fail k]), (86, [sgr05r_next k])]
noncomputable def fr05r_want (k : Nat) : FnX fr05r_wantR := mkX { P := Tryz.prog, env := lookS (fr05r_wantE k), n := 60, npB := 1, npO := 1, hint := fun i => look none [] i, pops := [], bl := [54, 56] } k Tryz.f81 fr05r_wanto
noncomputable def cr05r_want (k : Nat) : fr05r_wantT → Option fr05r_wantR := fnOf (fr05r_want k).C k Tryz.f81 fr05r_wanti fr05r_wanto
noncomputable def sgr05r_want (k : Nat) : Sig := ⟨fr05r_wanti, fr05r_wanto, mkFun fr05r_wanti.tys fr05r_wanto.tys (cr05r_want k)⟩
noncomputable def fr05r_want_t (k : Nat) (J : JF fr05r_wantR) (L : LF fr05r_wantR) : fr05r_wantT → Option fr05r_wantR
  | (a0, a1, a2, a3) => ((cr05r_is k) (a0, a1, a2, a3)).bind fun o1 => bif (!o1.1) then (((cr05r_fail k) ((50 : Int), o1.2.1, o1.2.2.1, o1.2.2.2)).bind fun o2 => ((cr05r_next k) (o2.1, o2.2.1, o2.2.2)).bind fun o3 => some (o3.2.2.2.2.1, o3.2.2.2.2.2.1, o3.2.2.2.2.2.2)) else (((cr05r_next k) (o1.2.1, o1.2.2.1, o1.2.2.2)).bind fun o4 => some (o4.2.2.2.2.1, o4.2.2.2.2.2.1, o4.2.2.2.2.2.2))
theorem fr05r_want_e (k : Nat) (x : fr05r_wantT) : cr05r_want k x = fr05r_want_t k (fr05r_want k).J (fr05r_want k).L x := by
  apply cutX (fr05r_want k) [] [] (st0 (fr05r_want k).C Tryz.f81 fr05r_wanti x) [] [] (fr05r_want_t k · · x) <;> intros <;> kernel_rfl
theorem cr05r_want_ok (k : Nat) : SigOK Tryz.prog 81 (sgr05r_want k) :=
  fn_ok (C := (fr05r_want k).C) (l := fr05r_wantE k) rfl ⟨⟨cr05r_is_ok k, trivial⟩, ⟨cr05r_fail_ok k, trivial⟩, ⟨cr05r_next_ok k, trivial⟩, trivial⟩ (by kernel_rfl) k (fn := Tryz.f81) (by kernel_rfl) (by kernel_rfl) (by kernel_rfl) fr05r_wanti fr05r_wanto rfl rfl (show 1 ≤ 48 by decide) (show 1 ≤ 48 by decide)

/-! (*carrefour/carrefourref05.reader).fail -/
def fr05r_fail'1i : Sk := ⟨[.lf (.ptr 0 0), .lf (.pv (.int .i64))], [[.pv (.slice yt8), .pv (.int .i64), .pv (.int .i64)]], []⟩
def fr05r_fail'1o : Sk := ⟨[], [[.pv (.slice yt8), .pv (.int .i64), .pv (.int .i64)]], []⟩
abbrev fr05r_fail'1T := (Int) × (List (YT8)) × (Int) × (Int)
abbrev fr05r_fail'1R := (List (YT8)) × (Int) × (Int)
noncomputable def fr05r_fail'1E (k : Nat) : List (Nat × List Sig) := []
noncomputable def fr05r_fail'1 (k : Nat) : FnX fr05r_fail'1R := mkX { P := Tryz.prog, env := lookS (fr05r_fail'1E k), n := 71, npB := 1, npO := 0, hint := fun i => look none [] i, pops := [], bl := [54, 56] } k Tryz.f88 fr05r_fail'1o
noncomputable def cr05r_fail'1 (k : Nat) : fr05r_fail'1T → Option fr05r_fail'1R := fnOf (fr05r_fail'1 k).C k Tryz.f88 fr05r_fail'1i fr05r_fail'1o
noncomputable def sgr05r_fail'1 (k : Nat) : Sig := ⟨fr05r_fail'1i, fr05r_fail'1o, mkFun fr05r_fail'1i.tys fr05r_fail'1o.tys (cr05r_fail'1 k)⟩
noncomputable def fr05r_fail'1_t (k : Nat) (J : JF fr05r_fail'1R) (L : LF fr05r_fail'1R) : fr05r_fail'1T → Option fr05r_fail'1R
  | (a0, a1, a2, a3) => bif (a2 == (0 : Int)) then (idx zt8 a1 (0 : Int) fun o1 => some (a1, a0, o1.2.2.2.1)) else (some (a1, a2, a3))
theorem fr05r_fail'1_e (k : Nat) (x : fr05r_fail'1T) : cr05r_fail'1 k x = fr05r_fail'1_t k (fr05r_fail'1 k).J (fr05r_fail'1 k).L x := by
  apply cutX (fr05r_fail'1 k) [] [] (st0 (fr05r_fail'1 k).C Tryz.f88 fr05r_fail'1i x) [] [] (fr05r_fail'1_t k · · x) <;> intros <;> kernel_rfl
theorem cr05r_fail'1_ok (k : Nat) : SigOK Tryz.prog 88 (sgr05r_fail'1 k) :=
  fn_ok (C := (fr05r_fail'1 k).C) (l := fr05r_fail'1E k) rfl trivial (by kernel_rfl) k (fn := Tryz.f88) (by kernel_rfl) (by kernel_rfl) (by kernel_rfl) fr05r_fail'1i fr05r_fail'1o rfl rfl (show 1 ≤ 48 by decide) (show 0 ≤ 48 by decide)

/-! (*carrefour/carrefourref05.reader).next -/
def fr05r_next'1i : Sk := ⟨[.lf (.ptr 0 0)], [[.pv (.slice yt8), .pv (.int .i64), .pv (.int .i64)]], []⟩
def fr05r_next'1o : Sk := ⟨[.agg [.pv (.int .i64), .pv .str, .pv (.int .i64), .pv (.int .i64)]], [[.pv (.slice yt8), .pv (.int .i64), .pv (.int .i64)]], []⟩
abbrev fr05r_next'1T := (List (YT8)) × (Int) × (Int)
abbrev fr05r_next'1R := (Int) × (List Int) × (Int) × (Int) × (List (YT8)) × (Int) × (Int)
noncomputable def fr05r_next'1E (k : Nat) : List (Nat × List Sig) := []
noncomputable def fr05r_next'1 (k : Nat) : FnX fr05r_next'1R := mkX { P := Tryz.prog, env := lookS (fr05r_next'1E k), n := 77, npB := 1, npO := 0, hint := fun i => look none [] i, pops := [], bl := [54, 56] } k Tryz.f86 fr05r_next'1o
noncomputable def cr05r_next'1 (k : Nat) : fr05r_next'1T → Option fr05r_next'1R := fnOf (fr05r_next'1 k).C k Tryz.f86 fr05r_next'1i fr05r_next'1o
noncomputable def sgr05r_next'1 (k : Nat) : Sig := ⟨fr05r_next'1i, fr05r_next'1o, mkFun fr05r_next'1i.tys fr05r_next'1o.tys (cr05r_next'1 k)⟩
noncomputable def fr05r_next'1_t (k : Nat) (J : JF fr05r_next'1R) (L : LF fr05r_next'1R) : fr05r_next'1T → Option fr05r_next'1R
  | (a0, a1, a2) => idx zt8 a0 (0 : Int) fun o1 => bif (a1 == (0 : Int)) then (bif (o1.1 != (0 : Int)) then (cut a0 (1 : Int) (((List.length a0) : Nat) : Int) fun o2 => some (o1.1, o1.2.1, o1.2.2.1, o1.2.2.2.1, o2, a1, a2)) else (some (o1.1, o1.2.1, o1.2.2.1, o1.2.2.2.1, a0, a1, a2))) else (some (o1.1, o1.2.1, o1.2.2.1, o1.2.2.2.1, a0, a1, a2))
theorem fr05r_next'1_e (k : Nat) (x : fr05r_next'1T) : cr05r_next'1 k x = fr05r_next'1_t k (fr05r_next'1 k).J (fr05r_next'1 k).L x := by
  apply cutX (fr05r_next'1 k) [] [] (st0 (fr05r_next'1 k).C Tryz.f86 fr05r_next'1i x) [] [] (fr05r_next'1_t k · · x) <;> intros <;> kernel_rfl
theorem cr05r_next'1_ok (k : Nat) : SigOK Tryz.prog 86 (sgr05r_next'1 k) :=
  fn_ok (C := (fr05r_next'1 k).C) (l := fr05r_next'1E k) rfl trivial (by kernel_rfl) k (fn := Tryz.f86) (by kernel_rfl) (by kernel_rfl) (by kernel_rfl) fr05r_next'1i fr05r_next'1o rfl rfl (show 1 ≤ 48 by decide) (show 0 ≤ 48 by decide)

/-! (*carrefour/carrefourref05.reader).num -/
def fr05r_numi : Sk := ⟨[.lf (.ptr 0 0), .lf (.pv .str)], [[.own 0, .pv (.int .i64), .pv (.int .i64)]], [some (135, yt8)]⟩
def fr05r_numo : Sk := ⟨[.lf (.pv (.int .i64))], [[.pv (.slice yt8), .pv (.int .i64), .pv (.int .i64)]], [none]⟩
def fr05r_num_k3 : Sk := ⟨sparse 23 [(0, .lf (.ptr 0 0))], [[.pv (.slice yt8), .pv (.int .i64), .pv (.int .i64)]], [none]⟩
abbrev fr05r_num_T3 := (List (YT8)) × (Int) × (Int)
def fr05r_num_s3 : fr05r_num_T3 → St := stOf fr05r_num_k3 71
abbrev fr05r_numT := (List Int) × (Int) × (Int) × (List (YT8))
abbrev fr05r_numR := (Int) × (List (YT8)) × (Int) × (Int)
noncomputable def fr05r_numE (k : Nat) : List (Nat × List Sig) := [(81, [sgr05r_want k]), (88, [sgr05r_fail'1 k]), (86, [sgr05r_next'1 k])]
noncomputable def fr05r_num (k : Nat) : FnX fr05r_numR := mkX { P := Tryz.prog, env := lookS (fr05r_numE k), n := 71, npB := 1, npO := 1, hint := fun i => look none [(3, some fr05r_num_k3)] i, pops := [], bl := [54, 56] } k Tryz.f80 fr05r_numo
noncomputable def cr05r_num (k : Nat) : fr05r_numT → Option fr05r_numR := fnOf (fr05r_num k).C k Tryz.f80 fr05r_numi fr05r_numo
noncomputable def sgr05r_num (k : Nat) : Sig := ⟨fr05r_numi, fr05r_numo, mkFun fr05r_numi.tys fr05r_numo.tys (cr05r_num k)⟩
noncomputable def fr05r_num_t (k : Nat) (J : JF fr05r_numR) (L : LF fr05r_numR) : fr05r_numT → Option fr05r_numR
  | (a0, a1, a2, a3) => bif (!(a0 == ([] : List Int))) then (((cr05r_want k) (a0, a1, a2, a3)).bind fun o1 => J 3 [] (fr05r_num_s3 (o1.1, o1.2.1, o1.2.2))) else (J 3 [] (fr05r_num_s3 (a3, a1, a2)))
theorem fr05r_num_e (k : Nat) (x : fr05r_numT) : cr05r_num k x = fr05r_num_t k (fr05r_num k).J (fr05r_num k).L x := by
  apply cutX (fr05r_num k) [] [] (st0 (fr05r_num k).C Tryz.f80 fr05r_numi x) [(3, [])] [] (fr05r_num_t k · · x) <;> intros <;> kernel_rfl
noncomputable def fr05r_num_tj3 (k : Nat) (J : JF fr05r_numR) (L : LF fr05r_numR) : fr05r_num_T3 → Option fr05r_numR
  | (a0, a1, a2) => idx zt8 a0 (0 : Int) fun o1 => bif (o1.1 != (2 : Int)) then (((cr05r_fail'1 k) ((50 : Int), a0, a1, a2)).bind fun o2 => some ((0 : Int), o2.1, o2.2.1, o2.2.2)) else (((cr05r_next'1 k) (a0, a1, a2)).bind fun o3 => some (o3.2.2.1, o3.2.2.2.2.1, o3.2.2.2.2.2.1, o3.2.2.2.2.2.2))
theorem fr05r_num_ej3 (k : Nat) (x : fr05r_num_T3) : (fr05r_num k).J 3 [] (fr05r_num_s3 x) = fr05r_num_tj3 k (fr05r_num k).J (fr05r_num k).L x := by
  apply cutX (fr05r_num k) [.r, .r] [] (fr05r_num_s3 x) [(3, [])] [] (fr05r_num_tj3 k · · x) <;> intros <;> kernel_rfl
theorem cr05r_num_ok (k : Nat) : SigOK Tryz.prog 80 (sgr05r_num k) :=
  fn_ok (C := (fr05r_num k).C) (l := fr05r_numE k) rfl ⟨⟨cr05r_want_ok k, trivial⟩, ⟨cr05r_fail'1_ok k, trivial⟩, ⟨cr05r_next'1_ok k, trivial⟩, trivial⟩ (by kernel_rfl) k (fn := Tryz.f80) (by kernel_rfl) (by kernel_rfl) (by kernel_rfl) fr05r_numi fr05r_numo rfl rfl (show 1 ≤ 48 by decide) (show 1 ≤ 48 by decide)

/-! (*carrefour/carrefourref05.reader).is -/
def fr05r_is'1i : Sk := ⟨[.lf (.ptr 0 0), .lf (.pv .str)], [[.pv (.slice yt8), .pv (.int .i64), .pv (.int .i64)]], []⟩
def fr05r_is'1o : Sk := ⟨[.lf (.pv .bool)], [[.pv (.slice yt8), .pv (.int .i64), .pv (.int .i64)]], []⟩
abbrev fr05r_is'1T := (List Int) × (List (YT8)) × (Int) × (Int)
abbrev fr05r_is'1R := (Bool) × (List (YT8)) × (Int) × (Int)
noncomputable def fr05r_is'1E (k : Nat) : List (Nat × List Sig) := []
noncomputable def fr05r_is'1 (k : Nat) : FnX fr05r_is'1R := mkX { P := Tryz.prog, env := lookS (fr05r_is'1E k), n := 89, npB := 1, npO := 0, hint := fun i => look none [] i, pops := [], bl := [54, 56] } k Tryz.f85 fr05r_is'1o
noncomputable def cr05r_is'1 (k : Nat) : fr05r_is'1T → Option fr05r_is'1R := fnOf (fr05r_is'1 k).C k Tryz.f85 fr05r_is'1i fr05r_is'1o
noncomputable def sgr05r_is'1 (k : Nat) : Sig := ⟨fr05r_is'1i, fr05r_is'1o, mkFun fr05r_is'1i.tys fr05r_is'1o.tys (cr05r_is'1 k)⟩
noncomputable def fr05r_is'1_t (k : Nat) (J : JF fr05r_is'1R) (L : LF fr05r_is'1R) : fr05r_is'1T → Option fr05r_is'1R
  | (a0, a1, a2, a3) => bif (a2 == (0 : Int)) then (idx zt8 a1 (0 : Int) fun o1 => bif (o1.1 != (2 : Int)) then (idx zt8 a1 (0 : Int) fun o2 => bif (o2.1 != (0 : Int)) then (idx zt8 a1 (0 : Int) fun o3 => some ((o3.2.1 == a0), a1, a2, a3)) else (some (false, a1, a2, a3))) else (some (false, a1, a2, a3))) else (some (false, a1, a2, a3))
theorem fr05r_is'1_e (k : Nat) (x : fr05r_is'1T) : cr05r_is'1 k x = fr05r_is'1_t k (fr05r_is'1 k).J (fr05r_is'1 k).L x := by
  apply cutX (fr05r_is'1 k) [] [] (st0 (fr05r_is'1 k).C Tryz.f85 fr05r_is'1i x) [] [] (fr05r_is'1_t k · · x) <;> intros <;> kernel_rfl
theorem cr05r_is'1_ok (k : Nat) : SigOK Tryz.prog 85 (sgr05r_is'1 k) :=
  fn_ok (C := (fr05r_is'1 k).C) (l := fr05r_is'1E k) rfl trivial (by kernel_rfl) k (fn := Tryz.f85) (by kernel_rfl) (by kernel_rfl) (by kernel_rfl) fr05r_is'1i fr05r_is'1o rfl rfl (show 1 ≤ 48 by decide) (show 0 ≤ 48 by decide)

/-! (*carrefour/carrefourref05.reader).want -/
def fr05r_want'1i : Sk := ⟨[.lf (.ptr 0 0), .lf (.pv .str)], [[.pv (.slice yt8), .pv (.int .i64), .pv (.int .i64)]], []⟩
def fr05r_want'1o : Sk := ⟨[], [[.pv (.slice yt8), .pv (.int .i64), .pv (.int .i64)]], []⟩
abbrev fr05r_want'1T := (List Int) × (List (YT8)) × (Int) × (Int)
abbrev fr05r_want'1R := (List (YT8)) × (Int) × (Int)
noncomputable def fr05r_want'1E (k : Nat) : List (Nat × List Sig) := [(85, [sgr05r_is'1 k]), (88, [sgr05r_fail'1 k]), (86, [sgr05r_next'1 k])]
noncomputable def fr05r_want'1 (k : Nat) : FnX fr05r_want'1R := mkX { P := Tryz.prog, env := lookS (fr05r_want'1E k), n := 60, npB := 1, npO := 0, hint := fun i => look none [] i, pops := [], bl := [54, 56] } k Tryz.f81 fr05r_want'1o
noncomputable def cr05r_want'1 (k : Nat) : fr05r_want'1T → Option fr05r_want'1R := fnOf (fr05r_want'1 k).C k Tryz.f81 fr05r_want'1i fr05r_want'1o
noncomputable def sgr05r_want'1 (k : Nat) : Sig := ⟨fr05r_want'1i, fr05r_want'1o, mkFun fr05r_want'1i.tys fr05r_want'1o.tys (cr05r_want'1 k)⟩
noncomputable def fr05r_want'1_t (k : Nat) (J : JF fr05r_want'1R) (L : LF fr05r_want'1R) : fr05r_want'1T → Option fr05r_want'1R
  | (a0, a1, a2, a3) => ((cr05r_is'1 k) (a0, a1, a2, a3)).bind fun o1 => bif (!o1.1) then (((cr05r_fail'1 k) ((50 : Int), o1.2.1, o1.2.2.1, o1.2.2.2)).bind fun o2 => ((cr05r_next'1 k) (o2.1, o2.2.1, o2.2.2)).bind fun o3 => some (o3.2.2.2.2.1, o3.2.2.2.2.2.1, o3.2.2.2.2.2.2)) else (((cr05r_next'1 k) (o1.2.1, o1.2.2.1, o1.2.2.2)).bind fun o4 => some (o4.2.2.2.2.1, o4.2.2.2.2.2.1, o4.2.2.2.2.2.2))
theorem fr05r_want'1_e (k : Nat) (x : fr05r_want'1T) : cr05r_want'1 k x = fr05r_want'1_t k (fr05r_want'1 k).J (fr05r_want'1 k).L x := by
  apply cutX (fr05r_want'1 k) [] [] (st0 (fr05r_want'1 k).C Tryz.f81 fr05r_want'1i x) [] [] (fr05r_want'1_t k · · x) <;> intros <;> kernel_rfl
theorem cr05r_want'1_ok (k : Nat) : SigOK Tryz.prog 81 (sgr05r_want'1 k) :=
  fn_ok (C := (fr05r_want'1 k).C) (l := fr05r_want'1E k) rfl ⟨⟨cr05r_is'1_ok k, trivial⟩, ⟨cr05r_fail'1_ok k, trivial⟩, ⟨cr05r_next'1_ok k, trivial⟩, trivial⟩ (by kernel_rfl) k (fn := Tryz.f81) (by kernel_rfl) (by kernel_rfl) (by kernel_rfl) fr05r_want'1i fr05r_want'1o rfl rfl (show 1 ≤ 48 by decide) (show 0 ≤ 48 by decide)

/-! (*carrefour/carrefourref05.reader).num -/
def fr05r_num'1i : Sk := ⟨[.lf (.ptr 0 0), .lf (.pv .str)], [[.pv (.slice yt8), .pv (.int .i64), .pv (.int .i64)]], []⟩
def fr05r_num'1o : Sk := ⟨[.lf (.pv (.int .i64))], [[.pv (.slice yt8), .pv (.int .i64), .pv (.int .i64)]], []⟩
def fr05r_num'1_k3 : Sk := ⟨sparse 23 [(0, .lf (.ptr 0 0))], [[.pv (.slice yt8), .pv (.int .i64), .pv (.int .i64)]], []⟩
abbrev fr05r_num'1_T3 := (List (YT8)) × (Int) × (Int)
def fr05r_num'1_s3 : fr05r_num'1_T3 → St := stOf fr05r_num'1_k3 71
abbrev fr05r_num'1T := (List Int) × (List (YT8)) × (Int) × (Int)
abbrev fr05r_num'1R := (Int) × (List (YT8)) × (Int) × (Int)
noncomputable def fr05r_num'1E (k : Nat) : List (Nat × List Sig) := [(81, [sgr05r_want'1 k]), (88, [sgr05r_fail'1 k]), (86, [sgr05r_next'1 k])]
noncomputable def fr05r_num'1 (k : Nat) : FnX fr05r_num'1R := mkX { P := Tryz.prog, env := lookS (fr05r_num'1E k), n := 71, npB := 1, npO := 0, hint := fun i => look none [(3, some fr05r_num'1_k3)] i, pops := [], bl := [54, 56] } k Tryz.f80 fr05r_num'1o
noncomputable def cr05r_num'1 (k : Nat) : fr05r_num'1T → Option fr05r_num'1R := fnOf (fr05r_num'1 k).C k Tryz.f80 fr05r_num'1i fr05r_num'1o
noncomputable def sgr05r_num'1 (k : Nat) : Sig := ⟨fr05r_num'1i, fr05r_num'1o, mkFun fr05r_num'1i.tys fr05r_num'1o.tys (cr05r_num'1 k)⟩
noncomputable def fr05r_num'1_t (k : Nat) (J : JF fr05r_num'1R) (L : LF fr05r_num'1R) : fr05r_num'1T → Option fr05r_num'1R
  | (a0, a1, a2, a3) => bif (!(a0 == ([] : List Int))) then (((cr05r_want'1 k) (a0, a1, a2, a3)).bind fun o1 => J 3 [] (fr05r_num'1_s3 (o1.1, o1.2.1, o1.2.2))) else (J 3 [] (fr05r_num'1_s3 (a1, a2, a3)))
theorem fr05r_num'1_e (k : Nat) (x : fr05r_num'1T) : cr05r_num'1 k x = fr05r_num'1_t k (fr05r_num'1 k).J (fr05r_num'1 k).L x := by
  apply cutX (fr05r_num'1 k) [] [] (st0 (fr05r_num'1 k).C Tryz.f80 fr05r_num'1i x) [(3, [])] [] (fr05r_num'1_t k · · x) <;> intros <;> kernel_rfl
noncomputable def fr05r_num'1_tj3 (k : Nat) (J : JF fr05r_num'1R) (L : LF fr05r_num'1R) : fr05r_num'1_T3 → Option fr05r_num'1R
  | (a0, a1, a2) => idx zt8 a0 (0 : Int) fun o1 => bif (o1.1 != (2 : Int)) then (((cr05r_fail'1 k) ((50 : Int), a0, a1, a2)).bind fun o2 => some ((0 : Int), o2.1, o2.2.1, o2.2.2)) else (((cr05r_next'1 k) (a0, a1, a2)).bind fun o3 => some (o3.2.2.1, o3.2.2.2.2.1, o3.2.2.2.2.2.1, o3.2.2.2.2.2.2))
theorem fr05r_num'1_ej3 (k : Nat) (x : fr05r_num'1_T3) : (fr05r_num'1 k).J 3 [] (fr05r_num'1_s3 x) = fr05r_num'1_tj3 k (fr05r_num'1 k).J (fr05r_num'1 k).L x := by
  apply cutX (fr05r_num'1 k) [.r, .r] [] (fr05r_num'1_s3 x) [(3, [])] [] (fr05r_num'1_tj3 k · · x) <;> intros <;> kernel_rfl
theorem cr05r_num'1_ok (k : Nat) : SigOK Tryz.prog 80 (sgr05r_num'1 k) :=
  fn_ok (C := (fr05r_num'1 k).C) (l := fr05r_num'1E k) rfl ⟨⟨cr05r_want'1_ok k, trivial⟩, ⟨cr05r_fail'1_ok k, trivial⟩, ⟨cr05r_next'1_ok k, trivial⟩, trivial⟩ (by kernel_rfl) k (fn := Tryz.f80) (by kernel_rfl) (by kernel_rfl) (by kernel_rfl) fr05r_num'1i fr05r_num'1o rfl rfl (show 1 ≤ 48 by decide) (show 0 ≤ 48 by decide)

/-! (*carrefour/carrefourref05.reader).frac -/
def fr05r_fraci : Sk := ⟨[.lf (.ptr 0 0), .lf (.pv .str)], [[.pv (.slice yt8), .pv (.int .i64), .pv (.int .i64)]], []⟩
def fr05r_fraco : Sk := ⟨[.agg [.pv (.int .i64), .pv (.int .i64)]], [[.pv (.slice yt8), .pv (.int .i64), .pv (.int .i64)]], []⟩
abbrev fr05r_fracT := (List Int) × (List (YT8)) × (Int) × (Int)
abbrev fr05r_fracR := (Int) × (Int) × (List (YT8)) × (Int) × (Int)
noncomputable def fr05r_fracE (k : Nat) : List (Nat × List Sig) := [(80, [sgr05r_num'1 k])]
noncomputable def fr05r_frac (k : Nat) : FnX fr05r_fracR := mkX { P := Tryz.prog, env := lookS (fr05r_fracE k), n := 61, npB := 1, npO := 0, hint := fun i => look none [] i, pops := [], bl := [54, 56] } k Tryz.f82 fr05r_fraco
noncomputable def cr05r_frac (k : Nat) : fr05r_fracT → Option fr05r_fracR := fnOf (fr05r_frac k).C k Tryz.f82 fr05r_fraci fr05r_fraco
noncomputable def sgr05r_frac (k : Nat) : Sig := ⟨fr05r_fraci, fr05r_fraco, mkFun fr05r_fraci.tys fr05r_fraco.tys (cr05r_frac k)⟩
noncomputable def fr05r_frac_t (k : Nat) (J : JF fr05r_fracR) (L : LF fr05r_fracR) : fr05r_fracT → Option fr05r_fracR
  | (a0, a1, a2, a3) => ((cr05r_num'1 k) (a0, a1, a2, a3)).bind fun o1 => ((cr05r_num'1 k) (([47] : List Int), o1.2.1, o1.2.2.1, o1.2.2.2)).bind fun o2 => some (o1.1, o2.1, o2.2.1, o2.2.2.1, o2.2.2.2)
theorem fr05r_frac_e (k : Nat) (x : fr05r_fracT) : cr05r_frac k x = fr05r_frac_t k (fr05r_frac k).J (fr05r_frac k).L x := by
  apply cutX (fr05r_frac k) [] [] (st0 (fr05r_frac k).C Tryz.f82 fr05r_fraci x) [] [] (fr05r_frac_t k · · x) <;> intros <;> kernel_rfl
theorem cr05r_frac_ok (k : Nat) : SigOK Tryz.prog 82 (sgr05r_frac k) :=
  fn_ok (C := (fr05r_frac k).C) (l := fr05r_fracE k) rfl ⟨⟨cr05r_num'1_ok k, trivial⟩, trivial⟩ (by kernel_rfl) k (fn := Tryz.f82) (by kernel_rfl) (by kernel_rfl) (by kernel_rfl) fr05r_fraci fr05r_fraco rfl rfl (show 1 ≤ 48 by decide) (show 0 ≤ 48 by decide)

/-! (*carrefour/carrefourref05.reader).begins -/
def fr05r_beginsi : Sk := ⟨[.lf (.ptr 0 0), .lf (.pv .str), .lf (.pv (.int .i64)), .lf (.pv (.int .i64))], [[.pv (.slice yt8), .pv (.int .i64), .pv (.int .i64)]], []⟩
def fr05r_beginso : Sk := ⟨[.lf (.pv .bool)], [[.pv (.slice yt8), .pv (.int .i64), .pv (.int .i64)]], []⟩
abbrev fr05r_beginsT := (List Int) × (Int) × (Int) × (List (YT8)) × (Int) × (Int)
abbrev fr05r_beginsR := (Bool) × (List (YT8)) × (Int) × (Int)
noncomputable def fr05r_beginsE (k : Nat) : List (Nat × List Sig) := [(85, [sgr05r_is'1 k]), (88, [sgr05r_fail'1 k]), (86, [sgr05r_next'1 k])]
noncomputable def fr05r_begins (k : Nat) : FnX fr05r_beginsR := mkX { P := Tryz.prog, env := lookS (fr05r_beginsE k), n := 68, npB := 1, npO := 0, hint := fun i => look none [] i, pops := [], bl := [54, 56] } k Tryz.f83 fr05r_beginso
noncomputable def cr05r_begins (k : Nat) : fr05r_beginsT → Option fr05r_beginsR := fnOf (fr05r_begins k).C k Tryz.f83 fr05r_beginsi fr05r_beginso
noncomputable def sgr05r_begins (k : Nat) : Sig := ⟨fr05r_beginsi, fr05r_beginso, mkFun fr05r_beginsi.tys fr05r_beginso.tys (cr05r_begins k)⟩
noncomputable def fr05r_begins_t (k : Nat) (J : JF fr05r_beginsR) (L : LF fr05r_beginsR) : fr05r_beginsT → Option fr05r_beginsR
  | (a0, a1, a2, a3, a4, a5) => ((cr05r_is'1 k) (a0, a3, a4, a5)).bind fun o1 => bif (!o1.1) then (some (false, o1.2.1, o1.2.2.1, o1.2.2.2)) else (bif (a1 == a2) then (((cr05r_fail'1 k) ((4 : Int), o1.2.1, o1.2.2.1, o1.2.2.2)).bind fun o2 => some (false, o2.1, o2.2.1, o2.2.2)) else (((cr05r_next'1 k) (o1.2.1, o1.2.2.1, o1.2.2.2)).bind fun o3 => some (true, o3.2.2.2.2.1, o3.2.2.2.2.2.1, o3.2.2.2.2.2.2)))
theorem fr05r_begins_e (k : Nat) (x : fr05r_beginsT) : cr05r_begins k x = fr05r_begins_t k (fr05r_begins k).J (fr05r_begins k).L x := by
  apply cutX (fr05r_begins k) [] [] (st0 (fr05r_begins k).C Tryz.f83 fr05r_beginsi x) [] [] (fr05r_begins_t k · · x) <;> intros <;> kernel_rfl
theorem cr05r_begins_ok (k : Nat) : SigOK Tryz.prog 83 (sgr05r_begins k) :=
  fn_ok (C := (fr05r_begins k).C) (l := fr05r_beginsE k) rfl ⟨⟨cr05r_is'1_ok k, trivial⟩, ⟨cr05r_fail'1_ok k, trivial⟩, ⟨cr05r_next'1_ok k, trivial⟩, trivial⟩ (by kernel_rfl) k (fn := Tryz.f83) (by kernel_rfl) (by kernel_rfl) (by kernel_rfl) fr05r_beginsi fr05r_beginso rfl rfl (show 1 ≤ 48 by decide) (show 0 ≤ 48 by decide)

/-! (*carrefour/carrefourref05.reader).name -/
def fr05r_namei : Sk := ⟨[.lf (.ptr 0 0)], [[.pv (.slice yt8), .pv (.int .i64), .pv (.int .i64)]], []⟩
def fr05r_nameo : Sk := ⟨[.lf (.pv .str)], [[.pv (.slice yt8), .pv (.int .i64), .pv (.int .i64)]], []⟩
abbrev fr05r_nameT := (List (YT8)) × (Int) × (Int)
abbrev fr05r_nameR := (List Int) × (List (YT8)) × (Int) × (Int)
noncomputable def fr05r_nameE (k : Nat) : List (Nat × List Sig) := [(88, [sgr05r_fail'1 k]), (78, [sgr04Reserved k]), (86, [sgr05r_next'1 k])]
noncomputable def fr05r_name (k : Nat) : FnX fr05r_nameR := mkX { P := Tryz.prog, env := lookS (fr05r_nameE k), n := 74, npB := 1, npO := 0, hint := fun i => look none [] i, pops := [], bl := [54, 56] } k Tryz.f133 fr05r_nameo
noncomputable def cr05r_name (k : Nat) : fr05r_nameT → Option fr05r_nameR := fnOf (fr05r_name k).C k Tryz.f133 fr05r_namei fr05r_nameo
noncomputable def sgr05r_name (k : Nat) : Sig := ⟨fr05r_namei, fr05r_nameo, mkFun fr05r_namei.tys fr05r_nameo.tys (cr05r_name k)⟩
noncomputable def fr05r_name_t (k : Nat) (J : JF fr05r_nameR) (L : LF fr05r_nameR) : fr05r_nameT → Option fr05r_nameR
  | (a0, a1, a2) => idx zt8 a0 (0 : Int) fun o1 => bif (o1.1 != (1 : Int)) then (((cr05r_fail'1 k) ((50 : Int), a0, a1, a2)).bind fun o2 => some (([] : List Int), o2.1, o2.2.1, o2.2.2)) else (idx zt8 a0 (0 : Int) fun o3 => ((cr04Reserved k) (o3.2.1)).bind fun o4 => bif o4 then (((cr05r_fail'1 k) ((50 : Int), a0, a1, a2)).bind fun o5 => some (([] : List Int), o5.1, o5.2.1, o5.2.2)) else (((cr05r_next'1 k) (a0, a1, a2)).bind fun o6 => some (o6.2.1, o6.2.2.2.2.1, o6.2.2.2.2.2.1, o6.2.2.2.2.2.2)))
theorem fr05r_name_e (k : Nat) (x : fr05r_nameT) : cr05r_name k x = fr05r_name_t k (fr05r_name k).J (fr05r_name k).L x := by
  apply cutX (fr05r_name k) [] [] (st0 (fr05r_name k).C Tryz.f133 fr05r_namei x) [] [] (fr05r_name_t k · · x) <;> intros <;> kernel_rfl
theorem cr05r_name_ok (k : Nat) : SigOK Tryz.prog 133 (sgr05r_name k) :=
  fn_ok (C := (fr05r_name k).C) (l := fr05r_nameE k) rfl ⟨⟨cr05r_fail'1_ok k, trivial⟩, ⟨cr04Reserved_ok k, trivial⟩, ⟨cr05r_next'1_ok k, trivial⟩, trivial⟩ (by kernel_rfl) k (fn := Tryz.f133) (by kernel_rfl) (by kernel_rfl) (by kernel_rfl) fr05r_namei fr05r_nameo rfl rfl (show 1 ≤ 48 by decide) (show 0 ≤ 48 by decide)

/-! (*carrefour/carrefourref05.reader).head -/
def fr05r_headi : Sk := ⟨[.lf (.ptr 0 0)], [[.pv (.slice yt8), .pv (.int .i64), .pv (.int .i64)]], []⟩
def fr05r_heado : Sk := ⟨[.agg [.pv .str, .pv (.int .i64), .pv (.int .i64), .pv (.int .i64), .pv (.int .i64), .pv (.int .i64), .pv (.int .i64), .pv (.int .i64), .pv (.int .i64), .pv (.int .i64), .pv (.int .i64)]], [[.pv (.slice yt8), .pv (.int .i64), .pv (.int .i64)]], []⟩
def fr05r_head_k11 : Sk := ⟨sparse 55 [(0, .lf (.ptr 0 0)), (2, .lf (.ptr 1 0)), (3, .lf (.ptr 2 0)), (4, .lf (.pv .bool))], [[.pv (.slice yt8), .pv (.int .i64), .pv (.int .i64)], [.pv .str, .pv (.int .i64), .pv (.int .i64), .pv (.int .i64), .pv (.int .i64), .pv (.int .i64), .pv (.int .i64), .pv (.int .i64), .pv (.int .i64), .pv (.int .i64), .pv (.int .i64)], [.pv .str, .pv (.int .i64), .pv (.int .i64), .pv (.int .i64), .pv (.int .i64), .pv (.int .i64), .pv (.int .i64), .pv (.int .i64), .pv (.int .i64), .pv (.int .i64), .pv (.int .i64)]], []⟩
abbrev fr05r_head_T11 := (Bool) × (List (YT8)) × (Int) × (Int) × (List Int) × (Int) × (Int) × (Int) × (Int) × (Int) × (Int) × (Int) × (Int) × (Int) × (Int) × (List Int) × (Int) × (Int) × (Int) × (Int) × (Int) × (Int) × (Int) × (Int) × (Int) × (Int)
def fr05r_head_s11 : fr05r_head_T11 → St := stOf fr05r_head_k11 103
def fr05r_head_k14 : Sk := ⟨sparse 55 [(0, .lf (.ptr 0 0)), (2, .lf (.ptr 1 0)), (3, .lf (.ptr 2 0))], [[.pv (.slice yt8), .pv (.int .i64), .pv (.int .i64)], [.pv .str, .pv (.int .i64), .pv (.int .i64), .pv (.int .i64), .pv (.int .i64), .pv (.int .i64), .pv (.int .i64), .pv (.int .i64), .pv (.int .i64), .pv (.int .i64), .pv (.int .i64)], [.pv .str, .pv (.int .i64), .pv (.int .i64), .pv (.int .i64), .pv (.int .i64), .pv (.int .i64), .pv (.int .i64), .pv (.int .i64), .pv (.int .i64), .pv (.int .i64), .pv (.int .i64)]], []⟩
abbrev fr05r_head_T14 := (List (YT8)) × (Int) × (Int) × (List Int) × (Int) × (Int) × (Int) × (Int) × (Int) × (Int) × (Int) × (Int) × (Int) × (Int) × (List Int) × (Int) × (Int) × (Int) × (Int) × (Int) × (Int) × (Int) × (Int) × (Int) × (Int)
def fr05r_head_s14 : fr05r_head_T14 → St := stOf fr05r_head_k14 103
abbrev fr05r_headT := (List (YT8)) × (Int) × (Int)
abbrev fr05r_headR := (List Int) × (Int) × (Int) × (Int) × (Int) × (Int) × (Int) × (Int) × (Int) × (Int) × (Int) × (List (YT8)) × (Int) × (Int)
noncomputable def fr05r_headE (k : Nat) : List (Nat × List Sig) := [(133, [sgr05r_name k]), (80, [sgr05r_num'1 k]), (82, [sgr05r_frac k]), (81, [sgr05r_want'1 k]), (85, [sgr05r_is'1 k]), (86, [sgr05r_next'1 k])]
noncomputable def fr05r_head (k : Nat) : FnX fr05r_headR := mkX { P := Tryz.prog, env := lookS (fr05r_headE k), n := 103, npB := 1, npO := 0, hint := fun i => look none [(11, some fr05r_head_k11), (14, some fr05r_head_k14)] i, pops := [], bl := [54, 56] } k Tryz.f134 fr05r_heado
noncomputable def cr05r_head (k : Nat) : fr05r_headT → Option fr05r_headR := fnOf (fr05r_head k).C k Tryz.f134 fr05r_headi fr05r_heado
noncomputable def sgr05r_head (k : Nat) : Sig := ⟨fr05r_headi, fr05r_heado, mkFun fr05r_headi.tys fr05r_heado.tys (cr05r_head k)⟩
noncomputable def fr05r_head_t (k : Nat) (J : JF fr05r_headR) (L : LF fr05r_headR) : fr05r_headT → Option fr05r_headR
  | (a0, a1, a2) => idx zt8 a0 (0 : Int) fun o1 => ((cr05r_name k) (a0, a1, a2)).bind fun o2 => ((cr05r_num'1 k) (([118, 111, 108, 117, 109, 101] : List Int), o2.2.1, o2.2.2.1, o2.2.2.2)).bind fun o3 => ((cr05r_num'1 k) (([102, 108, 111, 119] : List Int), o3.2.1, o3.2.2.1, o3.2.2.2)).bind fun o4 => ((cr05r_frac k) (([117, 115, 101] : List Int), o4.2.1, o4.2.2.1, o4.2.2.2)).bind fun o5 => ((cr05r_num'1 k) (([115, 112, 101, 101, 100] : List Int), o5.2.2.1, o5.2.2.2.1, o5.2.2.2.2)).bind fun o6 => ((cr05r_want'1 k) (([103, 114, 97, 100, 101] : List Int), o6.2.1, o6.2.2.1, o6.2.2.2)).bind fun o7 => ((cr05r_is'1 k) (([45] : List Int), o7.1, o7.2.1, o7.2.2)).bind fun o8 => bif o8.1 then (((cr05r_next'1 k) (o8.2.1, o8.2.2.1, o8.2.2.2)).bind fun o9 => J 11 [] (fr05r_head_s11 (o8.1, o9.2.2.2.2.1, o9.2.2.2.2.2.1, o9.2.2.2.2.2.2, ([] : List Int), (0 : Int), (0 : Int), (0 : Int), (0 : Int), (0 : Int), (0 : Int), (0 : Int), (0 : Int), (0 : Int), (0 : Int), o2.1, o3.1, o4.1, o5.1, o5.2.1, o6.1, (0 : Int), (0 : Int), (0 : Int), (0 : Int), o1.2.2.2.1))) else (J 11 [] (fr05r_head_s11 (o8.1, o8.2.1, o8.2.2.1, o8.2.2.2, ([] : List Int), (0 : Int), (0 : Int), (0 : Int), (0 : Int), (0 : Int), (0 : Int), (0 : Int), (0 : Int), (0 : Int), (0 : Int), o2.1, o3.1, o4.1, o5.1, o5.2.1, o6.1, (0 : Int), (0 : Int), (0 : Int), (0 : Int), o1.2.2.2.1)))
theorem fr05r_head_e (k : Nat) (x : fr05r_headT) : cr05r_head k x = fr05r_head_t k (fr05r_head k).J (fr05r_head k).L x := by
  apply cutX (fr05r_head k) [] [] (st0 (fr05r_head k).C Tryz.f134 fr05r_headi x) [(11, []), (14, [])] [] (fr05r_head_t k · · x) <;> intros <;> kernel_rfl
noncomputable def fr05r_head_tj11 (k : Nat) (J : JF fr05r_headR) (L : LF fr05r_headR) : fr05r_head_T11 → Option fr05r_headR
  | (a0, a1, a2, a3, a4, a5, a6, a7, a8, a9, a10, a11, a12, a13, a14, a15, a16, a17, a18, a19, a20, a21, a22, a23, a24, a25) => ((cr05r_num'1 k) (([] : List Int), a1, a2, a3)).bind fun o1 => bif a0 then (J 14 [] (fr05r_head_s14 (o1.2.1, o1.2.2.1, o1.2.2.2, a4, a5, a6, a7, a8, a9, a10, a11, a12, a13, a14, a15, a16, a17, a18, a19, a20, (negI .i64 o1.1), a22, a23, a24, a25))) else (J 14 [] (fr05r_head_s14 (o1.2.1, o1.2.2.1, o1.2.2.2, a4, a5, a6, a7, a8, a9, a10, a11, a12, a13, a14, a15, a16, a17, a18, a19, a20, o1.1, a22, a23, a24, a25)))
theorem fr05r_head_ej11 (k : Nat) (x : fr05r_head_T11) : (fr05r_head k).J 11 [] (fr05r_head_s11 x) = fr05r_head_tj11 k (fr05r_head k).J (fr05r_head k).L x := by
  apply cutX (fr05r_head k) [.r, .r, .r, .r, .r, .r, .r, .r, .r, .r] [] (fr05r_head_s11 x) [(11, []), (14, [])] [] (fr05r_head_tj11 k · · x) <;> intros <;> kernel_rfl
noncomputable def fr05r_head_tj14 (k : Nat) (J : JF fr05r_headR) (L : LF fr05r_headR) : fr05r_head_T14 → Option fr05r_headR
  | (a0, a1, a2, a3, a4, a5, a6, a7, a8, a9, a10, a11, a12, a13, a14, a15, a16, a17, a18, a19, a20, a21, a22, a23, a24) => ((cr05r_num'1 k) (([119, 105, 100, 116, 104] : List Int), a0, a1, a2)).bind fun o1 => ((cr05r_num'1 k) (([108, 101, 110, 103, 116, 104] : List Int), o1.2.1, o1.2.2.1, o1.2.2.2)).bind fun o2 => ((cr05r_num'1 k) (([103, 114, 101, 101, 110] : List Int), o2.2.1, o2.2.2.1, o2.2.2.2)).bind fun o3 => ((cr05r_want'1 k) (([59] : List Int), o3.2.1, o3.2.2.1, o3.2.2.2)).bind fun o4 => some (a14, a15, a16, a17, a18, a19, a20, o1.1, o2.1, o3.1, a24, o4.1, o4.2.1, o4.2.2)
theorem fr05r_head_ej14 (k : Nat) (x : fr05r_head_T14) : (fr05r_head k).J 14 [] (fr05r_head_s14 x) = fr05r_head_tj14 k (fr05r_head k).J (fr05r_head k).L x := by
  apply cutX (fr05r_head k) [.r, .r, .r, .r, .r, .r, .r, .r, .r, .r, .r, .r] [] (fr05r_head_s14 x) [(11, []), (14, [])] [] (fr05r_head_tj14 k · · x) <;> intros <;> kernel_rfl
theorem cr05r_head_ok (k : Nat) : SigOK Tryz.prog 134 (sgr05r_head k) :=
  fn_ok (C := (fr05r_head k).C) (l := fr05r_headE k) rfl ⟨⟨cr05r_name_ok k, trivial⟩, ⟨cr05r_num'1_ok k, trivial⟩, ⟨cr05r_frac_ok k, trivial⟩, ⟨cr05r_want'1_ok k, trivial⟩, ⟨cr05r_is'1_ok k, trivial⟩, ⟨cr05r_next'1_ok k, trivial⟩, trivial⟩ (by kernel_rfl) k (fn := Tryz.f134) (by kernel_rfl) (by kernel_rfl) (by kernel_rfl) fr05r_headi fr05r_heado rfl rfl (show 1 ≤ 48 by decide) (show 0 ≤ 48 by decide)

/-! (*carrefour/carrefourref05.reader).walk -/
def fr05r_walki : Sk := ⟨[.lf (.ptr 0 0)], [[.pv (.slice yt8), .pv (.int .i64), .pv (.int .i64)]], []⟩
def fr05r_walko : Sk := ⟨[.agg [.pv .str, .pv .str, .pv (.int .i64), .pv (.int .i64), .pv (.int .i64), .pv (.int .i64)]], [[.pv (.slice yt8), .pv (.int .i64), .pv (.int .i64)]], []⟩
abbrev fr05r_walkT := (List (YT8)) × (Int) × (Int)
abbrev fr05r_walkR := (List Int) × (List Int) × (Int) × (Int) × (Int) × (Int) × (List (YT8)) × (Int) × (Int)
noncomputable def fr05r_walkE (k : Nat) : List (Nat × List Sig) := [(133, [sgr05r_name k]), (81, [sgr05r_want'1 k]), (80, [sgr05r_num'1 k])]
noncomputable def fr05r_walk (k : Nat) : FnX fr05r_walkR := mkX { P := Tryz.prog, env := lookS (fr05r_walkE k), n := 80, npB := 1, npO := 0, hint := fun i => look none [] i, pops := [], bl := [54, 56] } k Tryz.f135 fr05r_walko
noncomputable def cr05r_walk (k : Nat) : fr05r_walkT → Option fr05r_walkR := fnOf (fr05r_walk k).C k Tryz.f135 fr05r_walki fr05r_walko
noncomputable def sgr05r_walk (k : Nat) : Sig := ⟨fr05r_walki, fr05r_walko, mkFun fr05r_walki.tys fr05r_walko.tys (cr05r_walk k)⟩
noncomputable def fr05r_walk_t (k : Nat) (J : JF fr05r_walkR) (L : LF fr05r_walkR) : fr05r_walkT → Option fr05r_walkR
  | (a0, a1, a2) => idx zt8 a0 (0 : Int) fun o1 => ((cr05r_name k) (a0, a1, a2)).bind fun o2 => ((cr05r_want'1 k) (([119, 105, 116, 104] : List Int), o2.2.1, o2.2.2.1, o2.2.2.2)).bind fun o3 => ((cr05r_name k) (o3.1, o3.2.1, o3.2.2)).bind fun o4 => ((cr05r_num'1 k) (([108, 111, 110, 103] : List Int), o4.2.1, o4.2.2.1, o4.2.2.2)).bind fun o5 => ((cr05r_num'1 k) (([112, 97, 99, 101] : List Int), o5.2.1, o5.2.2.1, o5.2.2.2)).bind fun o6 => ((cr05r_num'1 k) (([108, 101, 97, 115, 116] : List Int), o6.2.1, o6.2.2.1, o6.2.2.2)).bind fun o7 => ((cr05r_want'1 k) (([59] : List Int), o7.2.1, o7.2.2.1, o7.2.2.2)).bind fun o8 => some (o2.1, o4.1, o5.1, o6.1, o7.1, o1.2.2.2.1, o8.1, o8.2.1, o8.2.2)
theorem fr05r_walk_e (k : Nat) (x : fr05r_walkT) : cr05r_walk k x = fr05r_walk_t k (fr05r_walk k).J (fr05r_walk k).L x := by
  apply cutX (fr05r_walk k) [] [] (st0 (fr05r_walk k).C Tryz.f135 fr05r_walki x) [] [] (fr05r_walk_t k · · x) <;> intros <;> kernel_rfl
theorem cr05r_walk_ok (k : Nat) : SigOK Tryz.prog 135 (sgr05r_walk k) :=
  fn_ok (C := (fr05r_walk k).C) (l := fr05r_walkE k) rfl ⟨⟨cr05r_name_ok k, trivial⟩, ⟨cr05r_want'1_ok k, trivial⟩, ⟨cr05r_num'1_ok k, trivial⟩, trivial⟩ (by kernel_rfl) k (fn := Tryz.f135) (by kernel_rfl) (by kernel_rfl) (by kernel_rfl) fr05r_walki fr05r_walko rfl rfl (show 1 ≤ 48 by decide) (show 0 ≤ 48 by decide)

/-! (*carrefour/carrefourref05.reader).names -/
def fr05r_namesi : Sk := ⟨[.lf (.ptr 0 0), .lf (.pv (.int .i64))], [[.pv (.slice yt8), .pv (.int .i64), .pv (.int .i64)]], []⟩
def fr05r_nameso : Sk := ⟨[.lf (.own 0)], [[.pv (.slice yt8), .pv (.int .i64), .pv (.int .i64)]], [some (9, .str)]⟩
def fr05r_names_k2 : Sk := ⟨sparse 48 [(0, .lf (.ptr 0 0)), (1, .lf (.pv (.int .i64))), (5, .lf (.own 0))], [[.pv (.slice yt8), .pv (.int .i64), .pv (.int .i64)]], [some (9, .str)]⟩
abbrev fr05r_names_T2 := (Int) × (List (YT8)) × (Int) × (Int) × (List (List Int))
def fr05r_names_s2 : fr05r_names_T2 → St := stOf fr05r_names_k2 96
def fr05r_names_k6 : Sk := ⟨sparse 48 [(0, .lf (.ptr 0 0)), (1, .lf (.pv (.int .i64))), (5, .lf (.own 0))], [[.pv (.slice yt8), .pv (.int .i64), .pv (.int .i64)]], [some (9, .str)]⟩
abbrev fr05r_names_T6 := (Int) × (List (YT8)) × (Int) × (Int) × (List (List Int))
def fr05r_names_s6 : fr05r_names_T6 → St := stOf fr05r_names_k6 96
abbrev fr05r_namesT := (Int) × (List (YT8)) × (Int) × (Int)
abbrev fr05r_namesR := (List (YT8)) × (Int) × (Int) × (List (List Int))
noncomputable def fr05r_namesE (k : Nat) : List (Nat × List Sig) := [(133, [sgr05r_name k]), (85, [sgr05r_is'1 k]), (86, [sgr05r_next'1 k]), (78, [sgr04Reserved k]), (88, [sgr05r_fail'1 k]), (81, [sgr05r_want'1 k])]
noncomputable def fr05r_names (k : Nat) : FnX fr05r_namesR := mkX { P := Tryz.prog, env := lookS (fr05r_namesE k), n := 96, npB := 1, npO := 0, hint := fun i => look none [(2, some fr05r_names_k2), (6, some fr05r_names_k6)] i, pops := [], bl := [54, 56] } k Tryz.f136 fr05r_nameso
noncomputable def cr05r_names (k : Nat) : fr05r_namesT → Option fr05r_namesR := fnOf (fr05r_names k).C k Tryz.f136 fr05r_namesi fr05r_nameso
noncomputable def sgr05r_names (k : Nat) : Sig := ⟨fr05r_namesi, fr05r_nameso, mkFun fr05r_namesi.tys fr05r_nameso.tys (cr05r_names k)⟩
noncomputable def fr05r_names_t (k : Nat) (J : JF fr05r_namesR) (L : LF fr05r_namesR) : fr05r_namesT → Option fr05r_namesR
  | (a0, a1, a2, a3) => ((cr05r_name k) (a1, a2, a3)).bind fun o1 => L 2 [] k (fr05r_names_s2 (a0, o1.2.1, o1.2.2.1, o1.2.2.2, ([o1.1] : List (List Int))))
theorem fr05r_names_e (k : Nat) (x : fr05r_namesT) : cr05r_names k x = fr05r_names_t k (fr05r_names k).J (fr05r_names k).L x := by
  apply cutX (fr05r_names k) [] [] (st0 (fr05r_names k).C Tryz.f136 fr05r_namesi x) [] [(2, [], k)] (fr05r_names_t k · · x) <;> intros <;> kernel_rfl
noncomputable def fr05r_names_tl2 (k j2 : Nat) (J : JF fr05r_namesR) (L : LF fr05r_namesR) : fr05r_names_T2 → Option fr05r_namesR
  | (a0, a1, a2, a3, a4) => ((cr05r_is'1 k) (([44] : List Int), a1, a2, a3)).bind fun o1 => bif o1.1 then (((cr05r_next'1 k) (o1.2.1, o1.2.2.1, o1.2.2.2)).bind fun o2 => bif (((List.length a4 : Nat) : Int) == a0) then (idx zt8 o2.2.2.2.2.1 (0 : Int) fun o3 => bif (o3.1 == (1 : Int)) then (idx zt8 o2.2.2.2.2.1 (0 : Int) fun o4 => ((cr04Reserved k) (o4.2.1)).bind fun o5 => bif (!o5) then (((cr05r_fail'1 k) ((4 : Int), o2.2.2.2.2.1, o2.2.2.2.2.2.1, o2.2.2.2.2.2.2)).bind fun o6 => J 6 [j2] (fr05r_names_s6 (a0, o6.1, o6.2.1, o6.2.2, a4))) else (J 6 [j2] (fr05r_names_s6 (a0, o2.2.2.2.2.1, o2.2.2.2.2.2.1, o2.2.2.2.2.2.2, a4)))) else (J 6 [j2] (fr05r_names_s6 (a0, o2.2.2.2.2.1, o2.2.2.2.2.2.1, o2.2.2.2.2.2.2, a4)))) else (J 6 [j2] (fr05r_names_s6 (a0, o2.2.2.2.2.1, o2.2.2.2.2.2.1, o2.2.2.2.2.2.2, a4)))) else (((cr05r_want'1 k) (([59] : List Int), o1.2.1, o1.2.2.1, o1.2.2.2)).bind fun o7 => some (o7.1, o7.2.1, o7.2.2, a4))
theorem fr05r_names_el2 (k j2 : Nat) (x : fr05r_names_T2) : (fr05r_names k).L 2 [] (j2 + 1) (fr05r_names_s2 x) = fr05r_names_tl2 k j2 (fr05r_names k).J (fr05r_names k).L x := by
  apply cutX (fr05r_names k) [.r, .r, .l, .b, .b] [j2] (fr05r_names_s2 x) [(6, [j2])] [(2, [], j2)] (fr05r_names_tl2 k j2 · · x) <;> intros <;> kernel_rfl
noncomputable def fr05r_names_tj6 (k j2 : Nat) (J : JF fr05r_namesR) (L : LF fr05r_namesR) : fr05r_names_T6 → Option fr05r_namesR
  | (a0, a1, a2, a3, a4) => ((cr05r_name k) (a1, a2, a3)).bind fun o1 => app 16 a4 ([o1.1] : List (List Int)) fun o2 => L 2 [] j2 (fr05r_names_s2 (a0, o1.2.1, o1.2.2.1, o1.2.2.2, o2))
theorem fr05r_names_ej6 (k j2 : Nat) (x : fr05r_names_T6) : (fr05r_names k).J 6 [j2] (fr05r_names_s6 x) = fr05r_names_tj6 k j2 (fr05r_names k).J (fr05r_names k).L x := by
  apply cutX (fr05r_names k) [.r, .r, .l, .b, .b, .r, .b, .r, .r] [j2] (fr05r_names_s6 x) [(6, [j2])] [(2, [], j2)] (fr05r_names_tj6 k j2 · · x) <;> intros <;> kernel_rfl
theorem cr05r_names_ok (k : Nat) : SigOK Tryz.prog 136 (sgr05r_names k) :=
  fn_ok (C := (fr05r_names k).C) (l := fr05r_namesE k) rfl ⟨⟨cr05r_name_ok k, trivial⟩, ⟨cr05r_is'1_ok k, trivial⟩, ⟨cr05r_next'1_ok k, trivial⟩, ⟨cr04Reserved_ok k, trivial⟩, ⟨cr05r_fail'1_ok k, trivial⟩, ⟨cr05r_want'1_ok k, trivial⟩, trivial⟩ (by kernel_rfl) k (fn := Tryz.f136) (by kernel_rfl) (by kernel_rfl) (by kernel_rfl) fr05r_namesi fr05r_nameso rfl rfl (show 1 ≤ 48 by decide) (show 0 ≤ 48 by decide)

/-! (*carrefour/carrefourref05.reader).group -/
def fr05r_groupi : Sk := ⟨[.lf (.ptr 0 0)], [[.pv (.slice yt8), .pv (.int .i64), .pv (.int .i64)]], []⟩
def fr05r_groupo : Sk := ⟨[.agg [.own 0]], [[.pv (.slice yt8), .pv (.int .i64), .pv (.int .i64)]], [some (104, yt4)]⟩
def fr05r_group_k5 : Sk := ⟨sparse 36 [(0, .lf (.ptr 0 0)), (2, .lf (.ptr 1 0)), (3, .lf (.ptr 2 0))], [[.pv (.slice yt8), .pv (.int .i64), .pv (.int .i64)], [.nil .sl], [.own 0]], [some (104, yt4)]⟩
abbrev fr05r_group_T5 := (List (YT8)) × (Int) × (Int) × (List (YT4))
def fr05r_group_s5 : fr05r_group_T5 → St := stOf fr05r_group_k5 84
def fr05r_group_k10 : Sk := ⟨sparse 36 [(0, .lf (.ptr 0 0)), (2, .lf (.ptr 1 0)), (3, .lf (.ptr 2 0)), (4, .lf (.ptr 3 0))], [[.pv (.slice yt8), .pv (.int .i64), .pv (.int .i64)], [.nil .sl], [.own 0], [.pv .bool, .nil .sl]], [some (104, yt4)]⟩
abbrev fr05r_group_T10 := (List (YT8)) × (Int) × (Int) × (Bool) × (List (YT4))
def fr05r_group_s10 : fr05r_group_T10 → St := stOf fr05r_group_k10 84
abbrev fr05r_groupT := (List (YT8)) × (Int) × (Int)
abbrev fr05r_groupR := (List (YT8)) × (Int) × (Int) × (List (YT4))
noncomputable def fr05r_groupE (k : Nat) : List (Nat × List Sig) := [(81, [sgr05r_want'1 k]), (85, [sgr05r_is'1 k]), (88, [sgr05r_fail'1 k]), (83, [sgr05r_begins k]), (86, [sgr05r_next'1 k]), (136, [sgr05r_names k])]
noncomputable def fr05r_group (k : Nat) : FnX fr05r_groupR := mkX { P := Tryz.prog, env := lookS (fr05r_groupE k), n := 84, npB := 1, npO := 0, hint := fun i => look none [(5, some fr05r_group_k5), (10, some fr05r_group_k10)] i, pops := [], bl := [54, 56] } k Tryz.f137 fr05r_groupo
noncomputable def cr05r_group (k : Nat) : fr05r_groupT → Option fr05r_groupR := fnOf (fr05r_group k).C k Tryz.f137 fr05r_groupi fr05r_groupo
noncomputable def sgr05r_group (k : Nat) : Sig := ⟨fr05r_groupi, fr05r_groupo, mkFun fr05r_groupi.tys fr05r_groupo.tys (cr05r_group k)⟩
noncomputable def fr05r_group_t (k : Nat) (J : JF fr05r_groupR) (L : LF fr05r_groupR) : fr05r_groupT → Option fr05r_groupR
  | (a0, a1, a2) => ((cr05r_want'1 k) (([123] : List Int), a0, a1, a2)).bind fun o1 => ((cr05r_is'1 k) (([114, 105, 110, 103] : List Int), o1.1, o1.2.1, o1.2.2)).bind fun o2 => bif (!o2.1) then (((cr05r_fail'1 k) ((50 : Int), o2.2.1, o2.2.2.1, o2.2.2.2)).bind fun o3 => J 5 [] (fr05r_group_s5 (o3.1, o3.2.1, o3.2.2, []))) else (J 5 [] (fr05r_group_s5 (o2.2.1, o2.2.2.1, o2.2.2.2, [])))
theorem fr05r_group_e (k : Nat) (x : fr05r_groupT) : cr05r_group k x = fr05r_group_t k (fr05r_group k).J (fr05r_group k).L x := by
  apply cutX (fr05r_group k) [] [] (st0 (fr05r_group k).C Tryz.f137 fr05r_groupi x) [(5, [])] [(5, [], k)] (fr05r_group_t k · · x) <;> intros <;> kernel_rfl
noncomputable def fr05r_group_tj5 (k : Nat) (J : JF fr05r_groupR) (L : LF fr05r_groupR) : fr05r_group_T5 → Option fr05r_groupR
  | (a0, a1, a2, a3) => L 5 [] k (fr05r_group_s5 (a0, a1, a2, a3))
theorem fr05r_group_ej5 (k : Nat) (x : fr05r_group_T5) : (fr05r_group k).J 5 [] (fr05r_group_s5 x) = fr05r_group_tj5 k (fr05r_group k).J (fr05r_group k).L x := by
  apply cutX (fr05r_group k) [.r, .r, .r, .r] [] (fr05r_group_s5 x) [(5, [])] [(5, [], k)] (fr05r_group_tj5 k · · x) <;> intros <;> kernel_rfl
noncomputable def fr05r_group_tl5 (k j5 : Nat) (J : JF fr05r_groupR) (L : LF fr05r_groupR) : fr05r_group_T5 → Option fr05r_groupR
  | (a0, a1, a2, a3) => ((cr05r_begins k) (([114, 105, 110, 103] : List Int), ((List.length a3 : Nat) : Int), (2 : Int), a0, a1, a2)).bind fun o1 => bif o1.1 then (((cr05r_is'1 k) (([102, 114, 101, 101] : List Int), o1.2.1, o1.2.2.1, o1.2.2.2)).bind fun o2 => bif o2.1 then (((cr05r_next'1 k) (o2.2.1, o2.2.2.1, o2.2.2.2)).bind fun o3 => J 10 [j5] (fr05r_group_s10 (o3.2.2.2.2.1, o3.2.2.2.2.2.1, o3.2.2.2.2.2.2, o2.1, a3))) else (J 10 [j5] (fr05r_group_s10 (o2.2.1, o2.2.2.1, o2.2.2.2, o2.1, a3)))) else (((cr05r_want'1 k) (([125] : List Int), o1.2.1, o1.2.2.1, o1.2.2.2)).bind fun o4 => some (o4.1, o4.2.1, o4.2.2, a3))
theorem fr05r_group_el5 (k j5 : Nat) (x : fr05r_group_T5) : (fr05r_group k).L 5 [] (j5 + 1) (fr05r_group_s5 x) = fr05r_group_tl5 k j5 (fr05r_group k).J (fr05r_group k).L x := by
  apply cutX (fr05r_group k) [.r, .r, .r, .r, .l, .b, .b] [j5] (fr05r_group_s5 x) [(5, []), (10, [j5])] [(5, [], j5)] (fr05r_group_tl5 k j5 · · x) <;> intros <;> kernel_rfl
noncomputable def fr05r_group_tj10 (k j5 : Nat) (J : JF fr05r_groupR) (L : LF fr05r_groupR) : fr05r_group_T10 → Option fr05r_groupR
  | (a0, a1, a2, a3, a4) => ((cr05r_names k) ((4 : Int), a0, a1, a2)).bind fun o1 => app 32 a4 ([(a3, (o1.2.2.2, ()))] : List (YT4)) fun o2 => L 5 [] j5 (fr05r_group_s5 (o1.1, o1.2.1, o1.2.2.1, o2))
theorem fr05r_group_ej10 (k j5 : Nat) (x : fr05r_group_T10) : (fr05r_group k).J 10 [j5] (fr05r_group_s10 x) = fr05r_group_tj10 k j5 (fr05r_group k).J (fr05r_group k).L x := by
  apply cutX (fr05r_group k) [.r, .r, .r, .r, .l, .b, .b, .r, .b, .r, .r, .r] [j5] (fr05r_group_s10 x) [(5, []), (10, [j5])] [(5, [], j5)] (fr05r_group_tj10 k j5 · · x) <;> intros <;> kernel_rfl
theorem cr05r_group_ok (k : Nat) : SigOK Tryz.prog 137 (sgr05r_group k) :=
  fn_ok (C := (fr05r_group k).C) (l := fr05r_groupE k) rfl ⟨⟨cr05r_want'1_ok k, trivial⟩, ⟨cr05r_is'1_ok k, trivial⟩, ⟨cr05r_fail'1_ok k, trivial⟩, ⟨cr05r_begins_ok k, trivial⟩, ⟨cr05r_next'1_ok k, trivial⟩, ⟨cr05r_names_ok k, trivial⟩, trivial⟩ (by kernel_rfl) k (fn := Tryz.f137) (by kernel_rfl) (by kernel_rfl) (by kernel_rfl) fr05r_groupi fr05r_groupo rfl rfl (show 1 ≤ 48 by decide) (show 0 ≤ 48 by decide)

/-! (*carrefour/carrefourref05.reader).node -/
def fr05r_nodei : Sk := ⟨[.lf (.ptr 0 0)], [[.pv (.slice yt8), .pv (.int .i64), .pv (.int .i64)]], []⟩
def fr05r_nodeo : Sk := ⟨[.agg [.pv .str, .own 0, .own 1, .own 2, .own 3, .own 4, .pv (.int .i64)]], [[.pv (.slice yt8), .pv (.int .i64), .pv (.int .i64)]], [some (95, yt1), some (97, yt2), some (99, yt3), some (102, (.cons (.slice yt4) .nil)), some (106, yt5)]⟩
def fr05r_node_k4 : Sk := ⟨sparse 112 [(0, .lf (.ptr 0 0)), (2, .lf (.ptr 1 0)), (3, .lf (.ptr 2 0))], [[.pv (.slice yt8), .pv (.int .i64), .pv (.int .i64)], [.pv .str, .nil .sl, .nil .sl, .nil .sl, .nil .sl, .nil .sl, .pv (.int .i64)], [.pv .str, .own 0, .nil .sl, .nil .sl, .nil .sl, .nil .sl, .pv (.int .i64)]], [some (95, yt1)]⟩
abbrev fr05r_node_T4 := (List (YT8)) × (Int) × (Int) × (List Int) × (Int) × (List Int) × (Int) × (List (YT1))
def fr05r_node_s4 : fr05r_node_T4 → St := stOf fr05r_node_k4 160
def fr05r_node_k6 : Sk := ⟨sparse 112 [(0, .lf (.ptr 0 0)), (2, .lf (.ptr 1 0)), (3, .lf (.ptr 2 0))], [[.pv (.slice yt8), .pv (.int .i64), .pv (.int .i64)], [.pv .str, .nil .sl, .nil .sl, .nil .sl, .nil .sl, .nil .sl, .pv (.int .i64)], [.pv .str, .own 0, .own 1, .nil .sl, .nil .sl, .nil .sl, .pv (.int .i64)]], [some (95, yt1), some (97, yt2)]⟩
abbrev fr05r_node_T6 := (List (YT8)) × (Int) × (Int) × (List Int) × (Int) × (List Int) × (Int) × (List (YT1)) × (List (YT2))
def fr05r_node_s6 : fr05r_node_T6 → St := stOf fr05r_node_k6 160
def fr05r_node_k8 : Sk := ⟨sparse 112 [(0, .lf (.ptr 0 0)), (2, .lf (.ptr 1 0)), (3, .lf (.ptr 2 0))], [[.pv (.slice yt8), .pv (.int .i64), .pv (.int .i64)], [.pv .str, .nil .sl, .nil .sl, .nil .sl, .nil .sl, .nil .sl, .pv (.int .i64)], [.pv .str, .own 0, .own 1, .own 2, .nil .sl, .nil .sl, .pv (.int .i64)]], [some (95, yt1), some (97, yt2), some (99, yt3)]⟩
abbrev fr05r_node_T8 := (List (YT8)) × (Int) × (Int) × (List Int) × (Int) × (List Int) × (Int) × (List (YT1)) × (List (YT2)) × (List (YT3))
def fr05r_node_s8 : fr05r_node_T8 → St := stOf fr05r_node_k8 160
def fr05r_node_k14 : Sk := ⟨sparse 112 [(0, .lf (.ptr 0 0)), (2, .lf (.ptr 1 0)), (3, .lf (.ptr 2 0))], [[.pv (.slice yt8), .pv (.int .i64), .pv (.int .i64)], [.pv .str, .nil .sl, .nil .sl, .nil .sl, .nil .sl, .nil .sl, .pv (.int .i64)], [.pv .str, .own 0, .own 1, .own 2, .own 3, .nil .sl, .pv (.int .i64)]], [some (95, yt1), some (97, yt2), some (99, yt3), some (102, (.cons (.slice yt4) .nil))]⟩
abbrev fr05r_node_T14 := (List (YT8)) × (Int) × (Int) × (List Int) × (Int) × (List Int) × (Int) × (List (YT1)) × (List (YT2)) × (List (YT3)) × (List ((List (YT4)) × (Unit)))
def fr05r_node_s14 : fr05r_node_T14 → St := stOf fr05r_node_k14 160
def fr05r_node_k16 : Sk := ⟨sparse 112 [(0, .lf (.ptr 0 0)), (2, .lf (.ptr 1 0)), (3, .lf (.ptr 2 0))], [[.pv (.slice yt8), .pv (.int .i64), .pv (.int .i64)], [.pv .str, .nil .sl, .nil .sl, .nil .sl, .nil .sl, .nil .sl, .pv (.int .i64)], [.pv .str, .own 0, .own 1, .own 2, .own 3, .own 4, .pv (.int .i64)]], [some (95, yt1), some (97, yt2), some (99, yt3), some (102, (.cons (.slice yt4) .nil)), some (106, yt5)]⟩
abbrev fr05r_node_T16 := (List (YT8)) × (Int) × (Int) × (List Int) × (Int) × (List Int) × (Int) × (List (YT1)) × (List (YT2)) × (List (YT3)) × (List ((List (YT4)) × (Unit))) × (List (YT5))
def fr05r_node_s16 : fr05r_node_T16 → St := stOf fr05r_node_k16 160
abbrev fr05r_nodeT := (List (YT8)) × (Int) × (Int)
abbrev fr05r_nodeR := (List Int) × (Int) × (List (YT8)) × (Int) × (Int) × (List (YT1)) × (List (YT2)) × (List (YT3)) × (List ((List (YT4)) × (Unit))) × (List (YT5))
noncomputable def fr05r_nodeE (k : Nat) : List (Nat × List Sig) := [(133, [sgr05r_name k]), (81, [sgr05r_want'1 k]), (83, [sgr05r_begins k]), (134, [sgr05r_head k]), (135, [sgr05r_walk k]), (136, [sgr05r_names k]), (137, [sgr05r_group k])]
noncomputable def fr05r_node (k : Nat) : FnX fr05r_nodeR := mkX { P := Tryz.prog, env := lookS (fr05r_nodeE k), n := 160, npB := 1, npO := 0, hint := fun i => look none [(4, some fr05r_node_k4), (6, some fr05r_node_k6), (8, some fr05r_node_k8), (14, some fr05r_node_k14), (16, some fr05r_node_k16)] i, pops := [], bl := [54, 56], ef := [(27, (([0], []), ([], []))), (39, (([0], []), ([], []))), (78, (([0], []), ([], [126])))], ld := [(24, 9999), (25, 2), (30, 9999), (36, 9999), (37, 2), (42, 9999), (75, 9999), (76, 2), (81, 9999)], sr := [(30, 2), (42, 2), (81, 2)] } k Tryz.f84 fr05r_nodeo
noncomputable def cr05r_node (k : Nat) : fr05r_nodeT → Option fr05r_nodeR := fnOf (fr05r_node k).C k Tryz.f84 fr05r_nodei fr05r_nodeo
noncomputable def sgr05r_node (k : Nat) : Sig := ⟨fr05r_nodei, fr05r_nodeo, mkFun fr05r_nodei.tys fr05r_nodeo.tys (cr05r_node k)⟩
noncomputable def fr05r_node_t (k : Nat) (J : JF fr05r_nodeR) (L : LF fr05r_nodeR) : fr05r_nodeT → Option fr05r_nodeR
  | (a0, a1, a2) => idx zt8 a0 (0 : Int) fun o1 => ((cr05r_name k) (a0, a1, a2)).bind fun o2 => ((cr05r_want'1 k) (([123] : List Int), o2.2.1, o2.2.2.1, o2.2.2.2)).bind fun o3 => L 4 [] k (fr05r_node_s4 (o3.1, o3.2.1, o3.2.2, ([] : List Int), (0 : Int), o2.1, o1.2.2.2.1, []))
theorem fr05r_node_e (k : Nat) (x : fr05r_nodeT) : cr05r_node k x = fr05r_node_t k (fr05r_node k).J (fr05r_node k).L x := by
  apply cutX (fr05r_node k) [] [] (st0 (fr05r_node k).C Tryz.f84 fr05r_nodei x) [] [(4, [], k), (6, [], k), (8, [], k), (14, [], k), (16, [], k)] (fr05r_node_t k · · x) <;> intros <;> kernel_rfl
noncomputable def fr05r_node_tl4 (k j4 : Nat) (J : JF fr05r_nodeR) (L : LF fr05r_nodeR) : fr05r_node_T4 → Option fr05r_nodeR
  | (a0, a1, a2, a3, a4, a5, a6, a7) => ((cr05r_begins k) (([104, 101, 97, 100] : List Int), ((List.length a7 : Nat) : Int), (16 : Int), a0, a1, a2)).bind fun o1 => bif o1.1 then (((cr05r_head k) (o1.2.1, o1.2.2.1, o1.2.2.2)).bind fun o2 => app 96 a7 ([(o2.1, (o2.2.1, (o2.2.2.1, ((o2.2.2.2.1, (o2.2.2.2.2.1, ())), (o2.2.2.2.2.2.1, (o2.2.2.2.2.2.2.1, (o2.2.2.2.2.2.2.2.1, (o2.2.2.2.2.2.2.2.2.1, (o2.2.2.2.2.2.2.2.2.2.1, (o2.2.2.2.2.2.2.2.2.2.2.1, ()))))))))))] : List (YT1)) fun o3 => L 4 [] j4 (fr05r_node_s4 (o2.2.2.2.2.2.2.2.2.2.2.2.1, o2.2.2.2.2.2.2.2.2.2.2.2.2.1, o2.2.2.2.2.2.2.2.2.2.2.2.2.2, a3, a4, a5, a6, o3))) else (L 6 [] k (fr05r_node_s6 (o1.2.1, o1.2.2.1, o1.2.2.2, a3, a4, a5, a6, a7, [])))
theorem fr05r_node_el4 (k j4 : Nat) (x : fr05r_node_T4) : (fr05r_node k).L 4 [] (j4 + 1) (fr05r_node_s4 x) = fr05r_node_tl4 k j4 (fr05r_node k).J (fr05r_node k).L x := by
  apply cutX (fr05r_node k) [.r, .r, .r, .r, .l, .b, .b] [j4] (fr05r_node_s4 x) [] [(4, [], j4), (6, [], k), (8, [], k), (14, [], k), (16, [], k)] (fr05r_node_tl4 k j4 · · x) <;> intros <;> kernel_rfl
noncomputable def fr05r_node_tl6 (k j6 : Nat) (J : JF fr05r_nodeR) (L : LF fr05r_nodeR) : fr05r_node_T6 → Option fr05r_nodeR
  | (a0, a1, a2, a3, a4, a5, a6, a7, a8) => ((cr05r_begins k) (([119, 97, 108, 107] : List Int), ((List.length a8 : Nat) : Int), (8 : Int), a0, a1, a2)).bind fun o1 => bif o1.1 then (((cr05r_walk k) (o1.2.1, o1.2.2.1, o1.2.2.2)).bind fun o2 => app 64 a8 ([(o2.1, (o2.2.1, (o2.2.2.1, (o2.2.2.2.1, (o2.2.2.2.2.1, (o2.2.2.2.2.2.1, ()))))))] : List (YT2)) fun o3 => L 6 [] j6 (fr05r_node_s6 (o2.2.2.2.2.2.2.1, o2.2.2.2.2.2.2.2.1, o2.2.2.2.2.2.2.2.2, a3, a4, a5, a6, a7, o3))) else (L 8 [] k (fr05r_node_s8 (o1.2.1, o1.2.2.1, o1.2.2.2, a3, a4, a5, a6, a7, a8, [])))
theorem fr05r_node_el6 (k j6 : Nat) (x : fr05r_node_T6) : (fr05r_node k).L 6 [] (j6 + 1) (fr05r_node_s6 x) = fr05r_node_tl6 k j6 (fr05r_node k).J (fr05r_node k).L x := by
  apply cutX (fr05r_node k) [.r, .r, .r, .r, .r, .l, .b, .b] [j6] (fr05r_node_s6 x) [] [(4, [], k), (6, [], j6), (8, [], k), (14, [], k), (16, [], k)] (fr05r_node_tl6 k j6 · · x) <;> intros <;> kernel_rfl
noncomputable def fr05r_node_tl8 (k j8 : Nat) (J : JF fr05r_nodeR) (L : LF fr05r_nodeR) : fr05r_node_T8 → Option fr05r_nodeR
  | (a0, a1, a2, a3, a4, a5, a6, a7, a8, a9) => ((cr05r_begins k) (([112, 104, 97, 115, 101] : List Int), ((List.length a9 : Nat) : Int), (16 : Int), a0, a1, a2)).bind fun o1 => bif o1.1 then (idx zt8 o1.2.1 (0 : Int) fun o2 => ((cr05r_name k) (o1.2.1, o1.2.2.1, o1.2.2.2)).bind fun o3 => ((cr05r_want'1 k) (([58] : List Int), o3.2.1, o3.2.2.1, o3.2.2.2)).bind fun o4 => ((cr05r_names k) ((16 : Int), o4.1, o4.2.1, o4.2.2)).bind fun o5 => app 48 a9 ([(o3.1, (o5.2.2.2, (o2.2.2.2.1, ())))] : List (YT3)) fun o6 => L 8 [] j8 (fr05r_node_s8 (o5.1, o5.2.1, o5.2.2.1, a3, a4, a5, a6, a7, a8, o6))) else (L 14 [] k (fr05r_node_s14 (o1.2.1, o1.2.2.1, o1.2.2.2, a3, a4, a5, a6, a7, a8, a9, [])))
theorem fr05r_node_el8 (k j8 : Nat) (x : fr05r_node_T8) : (fr05r_node k).L 8 [] (j8 + 1) (fr05r_node_s8 x) = fr05r_node_tl8 k j8 (fr05r_node k).J (fr05r_node k).L x := by
  apply cutX (fr05r_node k) [.r, .r, .r, .r, .r, .r, .l, .b, .b] [j8] (fr05r_node_s8 x) [] [(4, [], k), (6, [], k), (8, [], j8), (14, [], k), (16, [], k)] (fr05r_node_tl8 k j8 · · x) <;> intros <;> kernel_rfl
noncomputable def fr05r_node_tl14 (k j14 : Nat) (J : JF fr05r_nodeR) (L : LF fr05r_nodeR) : fr05r_node_T14 → Option fr05r_nodeR
  | (a0, a1, a2, a3, a4, a5, a6, a7, a8, a9, a10) => ((cr05r_begins k) (([103, 114, 111, 117, 112] : List Int), ((List.length a10 : Nat) : Int), (4 : Int), a0, a1, a2)).bind fun o1 => bif o1.1 then (((cr05r_group k) (o1.2.1, o1.2.2.1, o1.2.2.2)).bind fun o2 => app 24 a10 ([(o2.2.2.2, ())] : List ((List (YT4)) × (Unit))) fun o3 => L 14 [] j14 (fr05r_node_s14 (o2.1, o2.2.1, o2.2.2.1, a3, a4, a5, a6, a7, a8, a9, o3))) else (L 16 [] k (fr05r_node_s16 (o1.2.1, o1.2.2.1, o1.2.2.2, a3, a4, a5, a6, a7, a8, a9, a10, [])))
theorem fr05r_node_el14 (k j14 : Nat) (x : fr05r_node_T14) : (fr05r_node k).L 14 [] (j14 + 1) (fr05r_node_s14 x) = fr05r_node_tl14 k j14 (fr05r_node k).J (fr05r_node k).L x := by
  apply cutX (fr05r_node k) [.r, .r, .r, .r, .r, .r, .r, .l, .b, .b] [j14] (fr05r_node_s14 x) [] [(4, [], k), (6, [], k), (8, [], k), (14, [], j14), (16, [], k)] (fr05r_node_tl14 k j14 · · x) <;> intros <;> kernel_rfl
noncomputable def fr05r_node_tl16 (k j16 : Nat) (J : JF fr05r_nodeR) (L : LF fr05r_nodeR) : fr05r_node_T16 → Option fr05r_nodeR
  | (a0, a1, a2, a3, a4, a5, a6, a7, a8, a9, a10, a11) => ((cr05r_begins k) (([102, 111, 101] : List Int), ((List.length a11 : Nat) : Int), (64 : Int), a0, a1, a2)).bind fun o1 => bif o1.1 then (idx zt8 o1.2.1 (0 : Int) fun o2 => ((cr05r_name k) (o1.2.1, o1.2.2.1, o1.2.2.2)).bind fun o3 => ((cr05r_name k) (o3.2.1, o3.2.2.1, o3.2.2.2)).bind fun o4 => ((cr05r_want'1 k) (([59] : List Int), o4.2.1, o4.2.2.1, o4.2.2.2)).bind fun o5 => app 40 a11 ([(o3.1, (o4.1, (o2.2.2.2.1, ())))] : List (YT5)) fun o6 => L 16 [] j16 (fr05r_node_s16 (o5.1, o5.2.1, o5.2.2, a3, a4, a5, a6, a7, a8, a9, a10, o6))) else (((cr05r_want'1 k) (([125] : List Int), o1.2.1, o1.2.2.1, o1.2.2.2)).bind fun o7 => some (a5, a6, o7.1, o7.2.1, o7.2.2, a7, a8, a9, a10, a11))
theorem fr05r_node_el16 (k j16 : Nat) (x : fr05r_node_T16) : (fr05r_node k).L 16 [] (j16 + 1) (fr05r_node_s16 x) = fr05r_node_tl16 k j16 (fr05r_node k).J (fr05r_node k).L x := by
  apply cutX (fr05r_node k) [.r, .r, .r, .r, .r, .r, .r, .r, .l, .b, .b] [j16] (fr05r_node_s16 x) [] [(4, [], k), (6, [], k), (8, [], k), (14, [], k), (16, [], j16)] (fr05r_node_tl16 k j16 · · x) <;> intros <;> kernel_rfl
theorem cr05r_node_ok (k : Nat) : SigOK Tryz.prog 84 (sgr05r_node k) :=
  fn_ok (C := (fr05r_node k).C) (l := fr05r_nodeE k) rfl ⟨⟨cr05r_name_ok k, trivial⟩, ⟨cr05r_want'1_ok k, trivial⟩, ⟨cr05r_begins_ok k, trivial⟩, ⟨cr05r_head_ok k, trivial⟩, ⟨cr05r_walk_ok k, trivial⟩, ⟨cr05r_names_ok k, trivial⟩, ⟨cr05r_group_ok k, trivial⟩, trivial⟩ (by kernel_rfl) k (fn := Tryz.f84) (by kernel_rfl) (by kernel_rfl) (by kernel_rfl) fr05r_nodei fr05r_nodeo rfl rfl (show 1 ≤ 48 by decide) (show 0 ≤ 48 by decide)

/-! (*carrefour/carrefourref05.reader).artery -/
def fr05r_arteryi : Sk := ⟨[.lf (.ptr 0 0)], [[.pv (.slice yt8), .pv (.int .i64), .pv (.int .i64)]], []⟩
def fr05r_arteryo : Sk := ⟨[.lf (.own 0), .lf (.pv (.int .i64)), .lf (.pv (.int .i64))], [[.pv (.slice yt8), .pv (.int .i64), .pv (.int .i64)]], [some (49, yt7)]⟩
def fr05r_artery_k3 : Sk := ⟨sparse 59 [(0, .lf (.ptr 0 0)), (5, .lf (.own 0))], [[.pv (.slice yt8), .pv (.int .i64), .pv (.int .i64)]], [some (49, yt7)]⟩
abbrev fr05r_artery_T3 := (List (YT8)) × (Int) × (Int) × (List (YT7))
def fr05r_artery_s3 : fr05r_artery_T3 → St := stOf fr05r_artery_k3 107
abbrev fr05r_arteryT := (List (YT8)) × (Int) × (Int)
abbrev fr05r_arteryR := (Int) × (Int) × (List (YT8)) × (Int) × (Int) × (List (YT7))
noncomputable def fr05r_arteryE (k : Nat) : List (Nat × List Sig) := [(81, [sgr05r_want'1 k]), (83, [sgr05r_begins k]), (133, [sgr05r_name k]), (80, [sgr05r_num'1 k])]
noncomputable def fr05r_artery (k : Nat) : FnX fr05r_arteryR := mkX { P := Tryz.prog, env := lookS (fr05r_arteryE k), n := 107, npB := 1, npO := 0, hint := fun i => look none [(3, some fr05r_artery_k3)] i, pops := [], bl := [54, 56] } k Tryz.f87 fr05r_arteryo
noncomputable def cr05r_artery (k : Nat) : fr05r_arteryT → Option fr05r_arteryR := fnOf (fr05r_artery k).C k Tryz.f87 fr05r_arteryi fr05r_arteryo
noncomputable def sgr05r_artery (k : Nat) : Sig := ⟨fr05r_arteryi, fr05r_arteryo, mkFun fr05r_arteryi.tys fr05r_arteryo.tys (cr05r_artery k)⟩
noncomputable def fr05r_artery_t (k : Nat) (J : JF fr05r_arteryR) (L : LF fr05r_arteryR) : fr05r_arteryT → Option fr05r_arteryR
  | (a0, a1, a2) => ((cr05r_want'1 k) (([123] : List Int), a0, a1, a2)).bind fun o1 => L 3 [] k (fr05r_artery_s3 (o1.1, o1.2.1, o1.2.2, []))
theorem fr05r_artery_e (k : Nat) (x : fr05r_arteryT) : cr05r_artery k x = fr05r_artery_t k (fr05r_artery k).J (fr05r_artery k).L x := by
  apply cutX (fr05r_artery k) [] [] (st0 (fr05r_artery k).C Tryz.f87 fr05r_arteryi x) [] [(3, [], k)] (fr05r_artery_t k · · x) <;> intros <;> kernel_rfl
noncomputable def fr05r_artery_tl3 (k j3 : Nat) (J : JF fr05r_arteryR) (L : LF fr05r_arteryR) : fr05r_artery_T3 → Option fr05r_arteryR
  | (a0, a1, a2, a3) => ((cr05r_begins k) (([115, 116, 111, 112] : List Int), ((List.length a3 : Nat) : Int), (12 : Int), a0, a1, a2)).bind fun o1 => bif o1.1 then (idx zt8 o1.2.1 (0 : Int) fun o2 => ((cr05r_name k) (o1.2.1, o1.2.2.1, o1.2.2.2)).bind fun o3 => ((cr05r_want'1 k) (([111, 117, 116] : List Int), o3.2.1, o3.2.2.1, o3.2.2.2)).bind fun o4 => ((cr05r_name k) (o4.1, o4.2.1, o4.2.2)).bind fun o5 => ((cr05r_want'1 k) (([105, 110] : List Int), o5.2.1, o5.2.2.1, o5.2.2.2)).bind fun o6 => ((cr05r_name k) (o6.1, o6.2.1, o6.2.2)).bind fun o7 => ((cr05r_num'1 k) (([97, 104, 101, 97, 100] : List Int), o7.2.1, o7.2.2.1, o7.2.2.2)).bind fun o8 => ((cr05r_num'1 k) (([98, 97, 99, 107] : List Int), o8.2.1, o8.2.2.1, o8.2.2.2)).bind fun o9 => ((cr05r_want'1 k) (([59] : List Int), o9.2.1, o9.2.2.1, o9.2.2.2)).bind fun o10 => app 72 a3 ([(o3.1, (o5.1, (o7.1, (o8.1, (o9.1, (o2.2.2.2.1, ()))))))] : List (YT7)) fun o11 => L 3 [] j3 (fr05r_artery_s3 (o10.1, o10.2.1, o10.2.2, o11))) else (((cr05r_num'1 k) (([119, 101, 105, 103, 104, 116, 115] : List Int), o1.2.1, o1.2.2.1, o1.2.2.2)).bind fun o12 => ((cr05r_num'1 k) (([] : List Int), o12.2.1, o12.2.2.1, o12.2.2.2)).bind fun o13 => ((cr05r_want'1 k) (([59] : List Int), o13.2.1, o13.2.2.1, o13.2.2.2)).bind fun o14 => ((cr05r_want'1 k) (([125] : List Int), o14.1, o14.2.1, o14.2.2)).bind fun o15 => some (o12.1, o13.1, o15.1, o15.2.1, o15.2.2, a3))
theorem fr05r_artery_el3 (k j3 : Nat) (x : fr05r_artery_T3) : (fr05r_artery k).L 3 [] (j3 + 1) (fr05r_artery_s3 x) = fr05r_artery_tl3 k j3 (fr05r_artery k).J (fr05r_artery k).L x := by
  apply cutX (fr05r_artery k) [.r, .r, .r, .l, .b, .b] [j3] (fr05r_artery_s3 x) [] [(3, [], j3)] (fr05r_artery_tl3 k j3 · · x) <;> intros <;> kernel_rfl
theorem cr05r_artery_ok (k : Nat) : SigOK Tryz.prog 87 (sgr05r_artery k) :=
  fn_ok (C := (fr05r_artery k).C) (l := fr05r_arteryE k) rfl ⟨⟨cr05r_want'1_ok k, trivial⟩, ⟨cr05r_begins_ok k, trivial⟩, ⟨cr05r_name_ok k, trivial⟩, ⟨cr05r_num'1_ok k, trivial⟩, trivial⟩ (by kernel_rfl) k (fn := Tryz.f87) (by kernel_rfl) (by kernel_rfl) (by kernel_rfl) fr05r_arteryi fr05r_arteryo rfl rfl (show 1 ≤ 48 by decide) (show 0 ≤ 48 by decide)
end Go.Proofs.YtipcabmhdokfjaaGreatDoorV
