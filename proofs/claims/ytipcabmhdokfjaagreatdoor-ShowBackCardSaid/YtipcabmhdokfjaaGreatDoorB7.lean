import Derived.Test.YtipcabmhdokfjaaGreatDoorB6
/-! Joined, names shortened: G3, G4. -/
set_option linter.unusedVariables false
set_option linter.unusedSimpArgs false
set_option maxHeartbeats 4000000
set_option maxRecDepth 100000
namespace Go.Proofs.YtipcabmhdokfjaaGreatDoorV
open Go Go.RowKit
noncomputable section
abbrev H80 : Type := (List (YT8)) × (Int) × (Int) × (List Int) × (Int) × (List Int) × (Int) × (List (YT1))
abbrev H81 : Type := (List (YT8)) × (Int) × (Int) × (List Int) × (Int) × (List Int) × (Int) × (List (YT1)) × (List (YT2))
abbrev H82 : Type := (List (YT8)) × (Int) × (Int) × (List Int) × (Int) × (List Int) × (Int) × (List (YT1)) × (List (YT2)) × (List (YT3))
abbrev H83 : Type := (List (YT8)) × (Int) × (Int) × (List Int) × (Int) × (List Int) × (Int) × (List (YT1)) × (List (YT2)) × (List (YT3)) × (List ((List (YT4)) × (Unit)))
abbrev H84 : Type := (List (YT8)) × (Int) × (Int) × (List Int) × (Int) × (List Int) × (Int) × (List (YT1)) × (List (YT2)) × (List (YT3)) × (List ((List (YT4)) × (Unit))) × (List (YT5))
abbrev H85 : Type := (List Int) × (Int) × (List (YT8)) × (Int) × (Int) × (List (YT1)) × (List (YT2)) × (List (YT3)) × (List ((List (YT4)) × (Unit))) × (List (YT5))
def Xi : Sk := ⟨[.lf (.ptr 0 0)], [q2], []⟩
def Ak0 : Sk := ⟨[.agg [.pv .str, .own 0, .own 1, .own 2, .own 3, .own 4, .pv (.int .i64)]], Xi.boxes, [some (95, yt1), some (97, yt2), some (99, yt3), some (102, (.cons (.slice yt4) .nil)), some (106, yt5)]⟩
def A9c : Sk := ⟨sparse 112 [(0, .lf (.ptr 0 0)), (2, .lf (.ptr 1 0)), (3, .lf (.ptr 2 0))], [q2, q7, q13], [some (95, yt1)]⟩
abbrev Akr := H80
def R3 : Akr → St := stOf A9c 161
def A9d : Sk := ⟨sparse 112 [(0, .lf (.ptr 0 0)), (2, .lf (.ptr 1 0)), (3, .lf (.ptr 2 0))], [q2, q7, q16], [some (95, yt1), some (97, yt2)]⟩
abbrev Aks := H81
def No : Aks → St := stOf A9d 161
def A9e : Sk := ⟨sparse 112 [(0, .lf (.ptr 0 0)), (2, .lf (.ptr 1 0)), (3, .lf (.ptr 2 0))], [q2, q7, q18], [some (95, yt1), some (97, yt2), some (99, yt3)]⟩
abbrev Akt := H82
def Np : Akt → St := stOf A9e 161
def A9a : Sk := ⟨sparse 112 [(0, .lf (.ptr 0 0)), (2, .lf (.ptr 1 0)), (3, .lf (.ptr 2 0))], [q2, q7, q21], [some (95, yt1), some (97, yt2), some (99, yt3), some (102, (.cons (.slice yt4) .nil))]⟩
abbrev Akp := H83
def Nm : Akp → St := stOf A9a 161
def A9b : Sk := ⟨sparse 112 [(0, .lf (.ptr 0 0)), (2, .lf (.ptr 1 0)), (3, .lf (.ptr 2 0))], [q2, q7, q23], [some (95, yt1), some (97, yt2), some (99, yt3), some (102, (.cons (.slice yt4) .nil)), some (106, yt5)]⟩
abbrev Akq := H84
def Nn : Akq → St := stOf A9b 161
def B7m (k : Nat) : EnvL := [(133, [Oq k]), (81, [Js k]), (83, [Su k]), (134, [Bm1 k]), (135, [Bm6 k]), (136, [Aoh k]), (137, [Bm0 k])]
def Br (k : Nat) : FnX H85 := mkX ({ mkC (B7m k) 161 1 0 with hint := fun i => look none [(4, some A9c), (6, some A9d), (8, some A9e), (14, some A9a), (16, some A9b)] i, bl := [54, 56], ef := [(27, (([0], []), ([], []))), (39, (([0], []), ([], []))), (78, (([0], []), ([], [126])))], ld := [(24, 9999), (25, 2), (30, 9999), (36, 9999), (37, 2), (42, 9999), (75, 9999), (76, 2), (81, 9999)], sr := [(30, 2), (42, 2), (81, 2)] }) k Tryz.f84 Ak0
def Vz (k : Nat) : H65 → Option H85 := hid (Ac (Br k).C k Tryz.f84 Xi Ak0)
def Bm4 (k : Nat) : Sig := Ab Xi Ak0 (Vz k)
noncomputable def Aku (k : Nat) (J : JF H85) (L : LF H85) : H65 → Option H85
 | (a0, a1, a2) => idx zt8 a0 (0 : Int) fun o1 => ((Ek k) (a0, a1, a2)).bind fun o2 => ((Cm k) (([123] : List Int), o2.2.1, o2.2.2.1, o2.2.2.2)).bind fun o3 => L 4 [] k (R3 (o3.1, o3.2.1, o3.2.2, ([] : List Int), (0 : Int), o2.1, o1.2.2.2.1, []))
theorem B7n (k : Nat) (x : H65) : Vz k x = Aku k (Br k).J (Br k).L x := by
 refine (Af _ _).trans ?_; apply cutX (Br k) [] [] (st0 (Br k).C Tryz.f84 Xi x) [] [(4, [], k), (6, [], k), (8, [], k), (14, [], k), (16, [], k)] (Aku k · · x) <;> intros <;> kernel_rfl
noncomputable def Akx (k j4 : Nat) (J : JF H85) (L : LF H85) : Akr → Option H85
 | (a0, a1, a2, a3, a4, a5, a6, a7) => ((Gq k) (([104, 101, 97, 100] : List Int), ((List.length a7 : Nat) : Int), (16 : Int), a0, a1, a2)).bind fun o1 => bif o1.1 then (((Vx k) (o1.2.1, o1.2.2.1, o1.2.2.2)).bind fun o2 => app 96 a7 ([(o2.1, (o2.2.1, (o2.2.2.1, ((o2.2.2.2.1, (o2.2.2.2.2.1, ())), (o2.2.2.2.2.2.1, (o2.2.2.2.2.2.2.1, (o2.2.2.2.2.2.2.2.1, (o2.2.2.2.2.2.2.2.2.1, (o2.2.2.2.2.2.2.2.2.2.1, (o2.2.2.2.2.2.2.2.2.2.2.1, ()))))))))))] : List (YT1)) fun o3 => L 4 [] j4 (R3 (o2.2.2.2.2.2.2.2.2.2.2.2.1, o2.2.2.2.2.2.2.2.2.2.2.2.2.1, o2.2.2.2.2.2.2.2.2.2.2.2.2.2, a3, a4, a5, a6, o3))) else (L 6 [] k (No (o1.2.1, o1.2.2.1, o1.2.2.2, a3, a4, a5, a6, a7, [])))
theorem B7q (k j4 : Nat) (x : Akr) : (Br k).L 4 [] (j4 + 1) (R3 x) = Akx k j4 (Br k).J (Br k).L x := by
 apply cutX (Br k) [.r, .r, .r, .r, .l, .b, .b] [j4] (R3 x) [] [(4, [], j4), (6, [], k), (8, [], k), (14, [], k), (16, [], k)] (Akx k j4 · · x) <;> intros <;> kernel_rfl
noncomputable def Aky (k j6 : Nat) (J : JF H85) (L : LF H85) : Aks → Option H85
 | (a0, a1, a2, a3, a4, a5, a6, a7, a8) => ((Gq k) (([119, 97, 108, 107] : List Int), ((List.length a8 : Nat) : Int), (8 : Int), a0, a1, a2)).bind fun o1 => bif o1.1 then (((V1 k) (o1.2.1, o1.2.2.1, o1.2.2.2)).bind fun o2 => app 64 a8 ([(o2.1, (o2.2.1, (o2.2.2.1, (o2.2.2.2.1, (o2.2.2.2.2.1, (o2.2.2.2.2.2.1, ()))))))] : List (YT2)) fun o3 => L 6 [] j6 (No (o2.2.2.2.2.2.2.1, o2.2.2.2.2.2.2.2.1, o2.2.2.2.2.2.2.2.2, a3, a4, a5, a6, a7, o3))) else (L 8 [] k (Np (o1.2.1, o1.2.2.1, o1.2.2.2, a3, a4, a5, a6, a7, a8, [])))
theorem B7r (k j6 : Nat) (x : Aks) : (Br k).L 6 [] (j6 + 1) (No x) = Aky k j6 (Br k).J (Br k).L x := by
 apply cutX (Br k) [.r, .r, .r, .r, .r, .l, .b, .b] [j6] (No x) [] [(4, [], k), (6, [], j6), (8, [], k), (14, [], k), (16, [], k)] (Aky k j6 · · x) <;> intros <;> kernel_rfl
noncomputable def Akz (k j8 : Nat) (J : JF H85) (L : LF H85) : Akt → Option H85
 | (a0, a1, a2, a3, a4, a5, a6, a7, a8, a9) => ((Gq k) (([112, 104, 97, 115, 101] : List Int), ((List.length a9 : Nat) : Int), (16 : Int), a0, a1, a2)).bind fun o1 => bif o1.1 then (idx zt8 o1.2.1 (0 : Int) fun o2 => ((Ek k) (o1.2.1, o1.2.2.1, o1.2.2.2)).bind fun o3 => ((Cm k) (([58] : List Int), o3.2.1, o3.2.2.1, o3.2.2.2)).bind fun o4 => ((P5 k) ((16 : Int), o4.1, o4.2.1, o4.2.2)).bind fun o5 => app 48 a9 ([(o3.1, (o5.2.2.2, (o2.2.2.2.1, ())))] : List (YT3)) fun o6 => L 8 [] j8 (Np (o5.1, o5.2.1, o5.2.2.1, a3, a4, a5, a6, a7, a8, o6))) else (L 14 [] k (Nm (o1.2.1, o1.2.2.1, o1.2.2.2, a3, a4, a5, a6, a7, a8, a9, [])))
theorem B7s (k j8 : Nat) (x : Akt) : (Br k).L 8 [] (j8 + 1) (Np x) = Akz k j8 (Br k).J (Br k).L x := by
 apply cutX (Br k) [.r, .r, .r, .r, .r, .r, .l, .b, .b] [j8] (Np x) [] [(4, [], k), (6, [], k), (8, [], j8), (14, [], k), (16, [], k)] (Akz k j8 · · x) <;> intros <;> kernel_rfl
noncomputable def Akv (k j14 : Nat) (J : JF H85) (L : LF H85) : Akp → Option H85
 | (a0, a1, a2, a3, a4, a5, a6, a7, a8, a9, a10) => ((Gq k) (([103, 114, 111, 117, 112] : List Int), ((List.length a10 : Nat) : Int), (4 : Int), a0, a1, a2)).bind fun o1 => bif o1.1 then (((Vw k) (o1.2.1, o1.2.2.1, o1.2.2.2)).bind fun o2 => app 24 a10 ([(o2.2.2.2, ())] : List ((List (YT4)) × (Unit))) fun o3 => L 14 [] j14 (Nm (o2.1, o2.2.1, o2.2.2.1, a3, a4, a5, a6, a7, a8, a9, o3))) else (L 16 [] k (Nn (o1.2.1, o1.2.2.1, o1.2.2.2, a3, a4, a5, a6, a7, a8, a9, a10, [])))
theorem B7o (k j14 : Nat) (x : Akp) : (Br k).L 14 [] (j14 + 1) (Nm x) = Akv k j14 (Br k).J (Br k).L x := by
 apply cutX (Br k) [.r, .r, .r, .r, .r, .r, .r, .l, .b, .b] [j14] (Nm x) [] [(4, [], k), (6, [], k), (8, [], k), (14, [], j14), (16, [], k)] (Akv k j14 · · x) <;> intros <;> kernel_rfl
noncomputable def Akw (k j16 : Nat) (J : JF H85) (L : LF H85) : Akq → Option H85
 | (a0, a1, a2, a3, a4, a5, a6, a7, a8, a9, a10, a11) => ((Gq k) (([102, 111, 101] : List Int), ((List.length a11 : Nat) : Int), (64 : Int), a0, a1, a2)).bind fun o1 => bif o1.1 then (idx zt8 o1.2.1 (0 : Int) fun o2 => ((Ek k) (o1.2.1, o1.2.2.1, o1.2.2.2)).bind fun o3 => ((Ek k) (o3.2.1, o3.2.2.1, o3.2.2.2)).bind fun o4 => ((Cm k) (([59] : List Int), o4.2.1, o4.2.2.1, o4.2.2.2)).bind fun o5 => app 40 a11 ([(o3.1, (o4.1, (o2.2.2.2.1, ())))] : List (YT5)) fun o6 => L 16 [] j16 (Nn (o5.1, o5.2.1, o5.2.2, a3, a4, a5, a6, a7, a8, a9, a10, o6))) else (((Cm k) (([125] : List Int), o1.2.1, o1.2.2.1, o1.2.2.2)).bind fun o7 => some (a5, a6, o7.1, o7.2.1, o7.2.2, a7, a8, a9, a10, a11))
theorem B7p (k j16 : Nat) (x : Akq) : (Br k).L 16 [] (j16 + 1) (Nn x) = Akw k j16 (Br k).J (Br k).L x := by
 apply cutX (Br k) [.r, .r, .r, .r, .r, .r, .r, .r, .l, .b, .b] [j16] (Nn x) [] [(4, [], k), (6, [], k), (8, [], k), (14, [], k), (16, [], j16)] (Akw k j16 · · x) <;> intros <;> kernel_rfl
theorem Bu7 (k : Nat) : Aa Tryz.prog 84 (Bm4 k) := Ae (Br k).C k rfl ⟨⟨P4 k, trivial⟩, ⟨Kb k, trivial⟩, ⟨Vt k, trivial⟩, ⟨Bu4 k, trivial⟩, ⟨Bu9 k, trivial⟩, ⟨Aqq k, trivial⟩, ⟨Bu3 k, trivial⟩, trivial⟩ Ad Tryz.func84 (by kernel_rfl)
abbrev H86 : Type := (List (YT8)) × (Int) × (Int) × (List (YT7))
abbrev H87 : Type := (Int) × (Int) × (List (YT8)) × (Int) × (Int) × (List (YT7))
def Xd : Sk := ⟨[.lf (.ptr 0 0)], [q2], []⟩
def Ajz : Sk := ⟨[.lf (.own 0), .lf (.pv (.int .i64)), .lf (.pv (.int .i64))], Xd.boxes, [some (49, yt7)]⟩
def A8a : Sk := ⟨sparse 59 [(0, .lf (.ptr 0 0)), (5, .lf (.own 0))], [q2], [some (49, yt7)]⟩
abbrev Ajw := H86
def Ry : Ajw → St := stOf A8a 107
def B6v (k : Nat) : EnvL := [(81, [Js k]), (83, [Su k]), (133, [Oq k]), (80, [Ot k])]
def Hu (k : Nat) : FnX H87 := mkX ({ mkC (B6v k) 107 1 0 with hint := fun i => look none [(3, some A8a)] i, bl := [54, 56] }) k Tryz.f87 Ajz
def Vs (k : Nat) : H65 → Option H87 := hid (Ac (Hu k).C k Tryz.f87 Xd Ajz)
def Bmy (k : Nat) : Sig := Ab Xd Ajz (Vs k)
noncomputable def Ajx (k : Nat) (J : JF H87) (L : LF H87) : H65 → Option H87
 | (a0, a1, a2) => ((Cm k) (([123] : List Int), a0, a1, a2)).bind fun o1 => L 3 [] k (Ry (o1.1, o1.2.1, o1.2.2, []))
theorem B6w (k : Nat) (x : H65) : Vs k x = Ajx k (Hu k).J (Hu k).L x := by
 refine (Af _ _).trans ?_; apply cutX (Hu k) [] [] (st0 (Hu k).C Tryz.f87 Xd x) [] [(3, [], k)] (Ajx k · · x) <;> intros <;> kernel_rfl
noncomputable def Ajy (k j3 : Nat) (J : JF H87) (L : LF H87) : Ajw → Option H87
 | (a0, a1, a2, a3) => ((Gq k) (([115, 116, 111, 112] : List Int), ((List.length a3 : Nat) : Int), (12 : Int), a0, a1, a2)).bind fun o1 => bif o1.1 then (idx zt8 o1.2.1 (0 : Int) fun o2 => ((Ek k) (o1.2.1, o1.2.2.1, o1.2.2.2)).bind fun o3 => ((Cm k) (([111, 117, 116] : List Int), o3.2.1, o3.2.2.1, o3.2.2.2)).bind fun o4 => ((Ek k) (o4.1, o4.2.1, o4.2.2)).bind fun o5 => ((Cm k) (([105, 110] : List Int), o5.2.1, o5.2.2.1, o5.2.2.2)).bind fun o6 => ((Ek k) (o6.1, o6.2.1, o6.2.2)).bind fun o7 => ((C0 k) (([97, 104, 101, 97, 100] : List Int), o7.2.1, o7.2.2.1, o7.2.2.2)).bind fun o8 => ((C0 k) (([98, 97, 99, 107] : List Int), o8.2.1, o8.2.2.1, o8.2.2.2)).bind fun o9 => ((Cm k) (([59] : List Int), o9.2.1, o9.2.2.1, o9.2.2.2)).bind fun o10 => app 72 a3 ([(o3.1, (o5.1, (o7.1, (o8.1, (o9.1, (o2.2.2.2.1, ()))))))] : List (YT7)) fun o11 => L 3 [] j3 (Ry (o10.1, o10.2.1, o10.2.2, o11))) else (((C0 k) (([119, 101, 105, 103, 104, 116, 115] : List Int), o1.2.1, o1.2.2.1, o1.2.2.2)).bind fun o12 => ((C0 k) (([] : List Int), o12.2.1, o12.2.2.1, o12.2.2.2)).bind fun o13 => ((Cm k) (([59] : List Int), o13.2.1, o13.2.2.1, o13.2.2.2)).bind fun o14 => ((Cm k) (([125] : List Int), o14.1, o14.2.1, o14.2.2)).bind fun o15 => some (o12.1, o13.1, o15.1, o15.2.1, o15.2.2, a3))
theorem B6x (k j3 : Nat) (x : Ajw) : (Hu k).L 3 [] (j3 + 1) (Ry x) = Ajy k j3 (Hu k).J (Hu k).L x := by
 apply cutX (Hu k) [.r, .r, .r, .l, .b, .b] [j3] (Ry x) [] [(3, [], j3)] (Ajy k j3 · · x) <;> intros <;> kernel_rfl
theorem Bu1 (k : Nat) : Aa Tryz.prog 87 (Bmy k) := Ae (Hu k).C k rfl ⟨⟨Kb k, trivial⟩, ⟨Vt k, trivial⟩, ⟨P4 k, trivial⟩, ⟨P7 k, trivial⟩, trivial⟩ Ad Tryz.func87 (by kernel_rfl)
abbrev H88 : Type := (Int) × (Int) × (Int) × (Int) × (Int) × (Int) × (Int) × (List (YT8)) × (Int) × (Int) × (Int) × (Int) × (Int) × (Int) × (Int) × (Int) × (Int) × (List (YT6))
abbrev H89 : Type := (Int) × (Int) × (Int) × (Int) × (Int) × (Int) × (Int) × (List (YT8)) × (Int) × (Int) × (Int) × (Int) × (Int) × (Int) × (Int) × (Int) × (Int) × (List (YT6)) × (List (YT7))
abbrev H90 : Type := (Int) × (Int) × (Int) × (Int) × (Int) × (Int) × (Int) × (Int) × (Int) × (List (YT6)) × (List (YT7))
def Aja : Sk := ⟨[.lf (.pv (.slice (.int .u8)))], [], []⟩
def Ajb : Sk := ⟨[.agg [.pv (.int .i64), .pv (.int .i64), .pv (.int .i64), .pv (.int .i64), .pv (.int .i64), .own 0, .own 1, .pv (.int .i64), .pv (.int .i64)], .lf (.pv (.int .i64)), .lf (.pv (.int .i64))], [], [some (46, yt6), some (49, yt7)]⟩
def A7x : Sk := ⟨sparse 96 [(2, .lf (.ptr 0 0)), (8, .lf (.ptr 1 0)), (9, .lf (.ptr 2 0))], [q3, q2, q24], [some (46, yt6)]⟩
abbrev Ai4 := H88
def Rw : Ai4 → St := stOf A7x 528
def A7y : Sk := ⟨sparse 96 [(2, .lf (.ptr 0 0)), (8, .lf (.ptr 1 0)), (9, .lf (.ptr 2 0))], [q3, q2, q29], [some (46, yt6), some (49, yt7)]⟩
abbrev Ai5 := H89
def Rx : Ai5 → St := stOf A7y 528
def A7z : Sk := ⟨sparse 96 [(2, .lf (.ptr 0 0)), (8, .lf (.ptr 1 0)), (9, .lf (.ptr 2 0))], [q3, q2, q29], [some (46, yt6), some (49, yt7)]⟩
abbrev Ai6 := H89
def W6 : Ai6 → St := stOf A7z 528
def B6k (k : Nat) : EnvL := [(79, [Bmk k]), (80, [Bm5 k, Ot k]), (81, [Js k]), (82, [Aog k]), (83, [Su k]), (84, [Bm4 k]), (85, [Mf k]), (86, [I4 k]), (87, [Bmy k]), (88, [Jr k])]
def Da (k : Nat) : FnX H90 := mkX ({ mkC (B6k k) 528 0 0 with hint := fun i => look none [(12, some A7x), (20, some A7y), (22, some A7z)] i, bl := [54, 56], ef := [(51, (([1], []), ([], [99, 195, 291, 387, 483])))], ld := [(48, 9999), (49, 2), (54, 9999), (88, 9999), (89, 9999), (90, 1), (92, 9999), (93, 9999), (94, 1)], sr := [(2, 0), (54, 2)] }) k Tryz.f38 Ajb
def Vq (k : Nat) : (List (Int)) → Option H90 := hid (Ac (Da k).C k Tryz.f38 Aja Ajb)
def Bms (k : Nat) : Sig := Ab Aja Ajb (Vq k)
noncomputable def Ai7 (k : Nat) (J : JF H90) (L : LF H90) : (List (Int)) → Option H90
 | a0 => ((Vm k) (a0)).bind fun o1 => bif (o1.1 != (0 : Int)) then (some ((0 : Int), (0 : Int), (0 : Int), (0 : Int), (0 : Int), (0 : Int), (0 : Int), o1.1, o1.2.1, [], [])) else (((V0 k) (([99, 121, 99, 108, 101] : List Int), (0 : Int), (0 : Int), o1.2.2)).bind fun o2 => ((C0 k) (([116, 111] : List Int), o2.2.1, o2.2.2.1, o2.2.2.2)).bind fun o3 => ((C0 k) (([98, 121] : List Int), o3.2.1, o3.2.2.1, o3.2.2.2)).bind fun o4 => ((Cm k) (([59] : List Int), o4.2.1, o4.2.2.1, o4.2.2.2)).bind fun o5 => ((P3 k) (([112, 101, 97, 107] : List Int), o5.1, o5.2.1, o5.2.2)).bind fun o6 => ((Cm k) (([59] : List Int), o6.2.2.1, o6.2.2.2.1, o6.2.2.2.2)).bind fun o7 => L 12 [] k (Rw ((0 : Int), (0 : Int), (0 : Int), (0 : Int), (0 : Int), (0 : Int), (0 : Int), o7.1, o7.2.1, o7.2.2, o2.1, o3.1, o4.1, o6.1, o6.2.1, (0 : Int), (0 : Int), [])))
theorem B6l (k : Nat) (x : (List (Int))) : Vq k x = Ai7 k (Da k).J (Da k).L x := by
 refine (Af _ _).trans ?_; apply cutX (Da k) [] [] (st0 (Da k).C Tryz.f38 Aja x) [(20, []), (22, [])] [(12, [], k)] (Ai7 k · · x) <;> intros <;> kernel_rfl
noncomputable def Ai9 (k j12 : Nat) (J : JF H90) (L : LF H90) : Ai4 → Option H90
 | (a0, a1, a2, a3, a4, a5, a6, a7, a8, a9, a10, a11, a12, a13, a14, a15, a16, a17) => ((Gq k) (([110, 111, 100, 101] : List Int), ((List.length a17 : Nat) : Int), (12 : Int), a7, a8, a9)).bind fun o1 => bif o1.1 then (((Vz k) (o1.2.1, o1.2.2.1, o1.2.2.2)).bind fun o2 => app 144 a17 ([(o2.1, (o2.2.2.2.2.2.1, (o2.2.2.2.2.2.2.1, (o2.2.2.2.2.2.2.2.1, (o2.2.2.2.2.2.2.2.2.1, (o2.2.2.2.2.2.2.2.2.2, (o2.2.1, ())))))))] : List (YT6)) fun o3 => L 12 [] j12 (Rw (a0, a1, a2, a3, a4, a5, a6, o2.2.2.1, o2.2.2.2.1, o2.2.2.2.2.1, a10, a11, a12, a13, a14, a15, a16, o3))) else (((Il k) (([97, 114, 116, 101, 114, 121] : List Int), o1.2.1, o1.2.2.1, o1.2.2.2)).bind fun o4 => bif o4.1 then (((Fd k) (o4.2.1, o4.2.2.1, o4.2.2.2)).bind fun o5 => ((Vs k) (o5.2.2.2.2.1, o5.2.2.2.2.2.1, o5.2.2.2.2.2.2)).bind fun o6 => J 20 [] (Rx (a0, a1, a2, a3, a4, a5, a6, o6.2.2.1, o6.2.2.2.1, o6.2.2.2.2.1, a10, a11, a12, a13, a14, o6.1, o6.2.1, a17, o6.2.2.2.2.2))) else (J 20 [] (Rx (a0, a1, a2, a3, a4, a5, a6, o4.2.1, o4.2.2.1, o4.2.2.2, a10, a11, a12, a13, a14, a15, a16, a17, []))))
theorem B6n (k j12 : Nat) (x : Ai4) : (Da k).L 12 [] (j12 + 1) (Rw x) = Ai9 k j12 (Da k).J (Da k).L x := by
 apply cutX (Da k) [.r, .r, .r, .r, .r, .r, .r, .r, .r, .r, .r, .l, .b, .b] [j12] (Rw x) [(20, []), (22, [])] [(12, [], j12)] (Ai9 k j12 · · x) <;> intros <;> kernel_rfl
noncomputable def Ai8 (k : Nat) (J : JF H90) (L : LF H90) : Ai5 → Option H90
 | (a0, a1, a2, a3, a4, a5, a6, a7, a8, a9, a10, a11, a12, a13, a14, a15, a16, a17, a18) => idx zt8 a7 (0 : Int) fun o1 => bif (o1.1 != (0 : Int)) then (((Fw k) ((50 : Int), a7, a8, a9)).bind fun o2 => J 22 [] (W6 (a0, a1, a2, a3, a4, a5, a6, o2.1, o2.2.1, o2.2.2, a10, a11, a12, a13, a14, a15, a16, a17, a18))) else (J 22 [] (W6 (a0, a1, a2, a3, a4, a5, a6, a7, a8, a9, a10, a11, a12, a13, a14, a15, a16, a17, a18)))
theorem B6m (k : Nat) (x : Ai5) : (Da k).J 20 [] (Rx x) = Ai8 k (Da k).J (Da k).L x := by
 apply cutX (Da k) [.r, .r, .r, .r, .r, .r, .r, .r, .r, .r, .r, .r, .r] [] (Rx x) [(20, []), (22, [])] [(12, [], k)] (Ai8 k · · x) <;> intros <;> kernel_rfl
noncomputable def W7 (k : Nat) (J : JF H90) (L : LF H90) : Ai6 → Option H90
 | (a0, a1, a2, a3, a4, a5, a6, a7, a8, a9, a10, a11, a12, a13, a14, a15, a16, a17, a18) => bif (a8 != (0 : Int)) then (some ((0 : Int), (0 : Int), (0 : Int), (0 : Int), (0 : Int), (0 : Int), (0 : Int), a8, a9, [], [])) else (some (a10, a11, a12, a13, a14, a15, a16, (0 : Int), (0 : Int), a17, a18))
theorem A7w (k : Nat) (x : Ai6) : (Da k).J 22 [] (W6 x) = W7 k (Da k).J (Da k).L x := by
 apply cutX (Da k) [.r, .r, .r, .r, .r, .r, .r, .r, .r, .r, .r, .r, .r, .r] [] (W6 x) [(20, []), (22, [])] [(12, [], k)] (W7 k · · x) <;> intros <;> kernel_rfl
theorem Buv (k : Nat) : Aa Tryz.prog 38 (Bms k) := Ae (Da k).C k rfl ⟨⟨Bun k, trivial⟩, ⟨Bu8 k, P7 k, trivial⟩, ⟨Kb k, trivial⟩, ⟨Aqp k, trivial⟩, ⟨Vt k, trivial⟩, ⟨Bu7 k, trivial⟩, ⟨Mx k, trivial⟩, ⟨Jg k, trivial⟩, ⟨Bu1 k, trivial⟩, ⟨Ka k, trivial⟩, trivial⟩ Ad Tryz.func38 (by kernel_rfl)
def Ber : Sk := ⟨[], [], []⟩
def Bes : Sk := ⟨[.lf (.pv .bool)], [], []⟩
def Caw (k : Nat) : EnvL := [(39, [Bn8 k]), (38, [Bms k]), (8, [Aoi k]), (10, [Y1 k])]
def Bep (k : Nat) : Cfg := { mkC (Caw k) 89 0 0 with bl := [54, 56] }
def Mz (k : Nat) : Unit → Option Bool := hid (Ac (Bep k) k Tryz.f12 Ber Bes)
def Bn6 (k : Nat) : Sig := Ab Ber Bes (Mz k)
noncomputable def Beq (k : Nat) : Unit → Option Bool
 | _ => ((Qo k) (())).bind fun o1 => ((Vq k) (o1)).bind fun o2 => ((My k) (o2.1, o2.2.1, o2.2.2.1, o2.2.2.2.1, o2.2.2.2.2.1, o2.2.2.2.2.2.2.2.2.2.1, o2.2.2.2.2.2.2.2.2.2.2, o2.2.2.2.2.2.1, o2.2.2.2.2.2.2.1)).bind fun o3 => bif (o2.2.2.2.2.2.2.2.1 == (0 : Int)) then (bif (o3.2 == (0 : Int)) then (((Lb k) (o2.1, o2.2.1, o2.2.2.1, o2.2.2.2.1, o2.2.2.2.2.1, o2.2.2.2.2.2.2.2.2.2.1, o2.2.2.2.2.2.2.2.2.2.2, o2.2.2.2.2.2.1, o2.2.2.2.2.2.2.1)).bind fun o4 => bif o4 then (((Qo k) (())).bind fun o5 => bif (o3.1 == o5) then (((Lb k) ((-1 : Int), (0 : Int), (0 : Int), (0 : Int), (0 : Int), [], [], (0 : Int), (0 : Int))).bind fun o6 => some (!o6)) else (some false)) else (some false)) else (some false)) else (some false)
theorem Cax (k : Nat) (x : Unit) : Mz k x = Beq k x := (Af _ _).trans (by kernel_rfl)
theorem Bwi (k : Nat) : Aa Tryz.prog 12 (Bn6 k) := Ae (Bep k) k rfl ⟨⟨Bwk k, trivial⟩, ⟨Buv k, trivial⟩, ⟨Aqr k, trivial⟩, ⟨Ab6 k, trivial⟩, trivial⟩ Ad Tryz.func12 (by kernel_rfl)
abbrev H91 : Type := (List Int) × (List (YT8))
def fpwordi : Sk := ⟨[.lf (.ptr 0 0), .lf (.pv .str)], [[.own 0]], [some (135, yt8)]⟩
def fpwordo : Sk := ⟨[.lf (.fn 142 [] [(1, 0), (2, 0)])], [[.own 0], [.ptr 0 0], [.pv .str]], [some (135, yt8)]⟩
def A6u (k : Nat) : Cfg := { mkC [] 54 1 1 with bl := [54, 56] }
def cpword (k : Nat) : H91 → Option H91 := hid (Ac (A6u k) k Tryz.f93 fpwordi fpwordo)
def sgpword (k : Nat) : Sig := Ab fpwordi fpwordo (cpword k)
noncomputable def A6x (k : Nat) : H91 → Option H91
 | (a0, a1) => some (a0, a1)
theorem B50 (k : Nat) (x : H91) : cpword k x = A6x k x := (Af _ _).trans (by kernel_rfl)
theorem Bul (k : Nat) : Aa Tryz.prog 93 (sgpword k) := Ae (A6u k) (l := []) k rfl trivial Ad Tryz.func93 (by kernel_rfl)
abbrev H92 : Type := (Int) × (Int) × (Int) × (Int) × (Int) × (Int) × (Int) × (List (YT8))
def fpnumi : Sk := ⟨[.lf (.ptr 0 0), .lf (.ptr 1 0)], [[.own 0], q3], [some (135, yt8)]⟩
def fpnumo : Sk := ⟨[.lf (.fn 146 [] [(2, 0), (3, 0)])], [[.own 0], q3, [.ptr 0 0], [.ptr 1 0]], [some (135, yt8)]⟩
def A4x (k : Nat) : Cfg := { mkC [] 54 2 1 with bl := [54, 56] }
def cpnum (k : Nat) : H92 → Option H92 := hid (Ac (A4x k) k Tryz.f94 fpnumi fpnumo)
def sgpnum (k : Nat) : Sig := Ab fpnumi fpnumo (cpnum k)
noncomputable def A4z (k : Nat) : H92 → Option H92
 | (a0, a1, a2, a3, a4, a5, a6, a7) => some (a0, a1, a2, a3, a4, a5, a6, a7)
theorem fpnum_e (k : Nat) (x : H92) : cpnum k x = A4z k x := (Af _ _).trans (by kernel_rfl)
theorem Bt0 (k : Nat) : Aa Tryz.prog 94 (sgpnum k) := Ae (A4x k) (l := []) k rfl trivial Ad Tryz.func94 (by kernel_rfl)
def A15 : Sk := ⟨[.lf (.ptr 0 0), .lf (.ptr 1 1)], [[.own 0], q3], [some (135, yt8)]⟩
def A16 : Sk := ⟨[.lf (.fn 146 [] [(2, 0), (3, 0)])], [[.own 0], q3, [.ptr 0 0], [.ptr 1 1]], [some (135, yt8)]⟩
def A13 (k : Nat) : Cfg := { mkC [] 54 2 1 with bl := [54, 56] }
def Abg (k : Nat) : H92 → Option H92 := hid (Ac (A13 k) k Tryz.f94 A15 A16)
def Bk1 (k : Nat) : Sig := Ab A15 A16 (Abg k)
noncomputable def A14 (k : Nat) : H92 → Option H92
 | (a0, a1, a2, a3, a4, a5, a6, a7) => some (a0, a1, a2, a3, a4, a5, a6, a7)
theorem B3v (k : Nat) (x : H92) : Abg k x = A14 k x := (Af _ _).trans (by kernel_rfl)
theorem Bs5 (k : Nat) : Aa Tryz.prog 94 (Bk1 k) := Ae (A13 k) (l := []) k rfl trivial Ad Tryz.func94 (by kernel_rfl)
def A2d : Sk := ⟨[.lf (.ptr 0 0), .lf (.ptr 1 2)], [[.own 0], q3], [some (135, yt8)]⟩
def A2e : Sk := ⟨[.lf (.fn 146 [] [(2, 0), (3, 0)])], [[.own 0], q3, [.ptr 0 0], [.ptr 1 2]], [some (135, yt8)]⟩
def A2b (k : Nat) : Cfg := { mkC [] 54 2 1 with bl := [54, 56] }
def Abr (k : Nat) : H92 → Option H92 := hid (Ac (A2b k) k Tryz.f94 A2d A2e)
def Blc (k : Nat) : Sig := Ab A2d A2e (Abr k)
noncomputable def A2c (k : Nat) : H92 → Option H92
 | (a0, a1, a2, a3, a4, a5, a6, a7) => some (a0, a1, a2, a3, a4, a5, a6, a7)
theorem B3x (k : Nat) (x : H92) : Abr k x = A2c k x := (Af _ _).trans (by kernel_rfl)
theorem Bs7 (k : Nat) : Aa Tryz.prog 94 (Blc k) := Ae (A2b k) (l := []) k rfl trivial Ad Tryz.func94 (by kernel_rfl)
def fpfraci : Sk := ⟨[.lf (.ptr 0 0), .lf (.ptr 1 3)], [[.own 0], q3], [some (135, yt8)]⟩
def fpfraco : Sk := ⟨[.lf (.fn 147 [] [(2, 0), (3, 0)])], [[.own 0], q3, [.ptr 0 0], [.ptr 1 3]], [some (135, yt8)]⟩
def Axo (k : Nat) : Cfg := { mkC [] 54 2 1 with bl := [54, 56] }
def cpfrac (k : Nat) : H92 → Option H92 := hid (Ac (Axo k) k Tryz.f95 fpfraci fpfraco)
def sgpfrac (k : Nat) : Sig := Ab fpfraci fpfraco (cpfrac k)
noncomputable def Axq (k : Nat) : H92 → Option H92
 | (a0, a1, a2, a3, a4, a5, a6, a7) => some (a0, a1, a2, a3, a4, a5, a6, a7)
theorem B12 (k : Nat) (x : H92) : cpfrac k x = Axq k x := (Af _ _).trans (by kernel_rfl)
theorem Brx (k : Nat) : Aa Tryz.prog 95 (sgpfrac k) := Ae (Axo k) (l := []) k rfl trivial Ad Tryz.func95 (by kernel_rfl)
abbrev H93 : Type := (List Int) × (Int) × (Int) × (Int) × (Int) × (Int) × (Int) × (Int) × (Int) × (List (YT8))
abbrev H94 : Type := (Int) × (Int) × (Int) × (Int) × (Int) × (Int) × (Int) × (List Int) × (Int) × (List (YT8))
def Au6 : Sk := ⟨[.lf (.ptr 0 0), .lf (.pv .str), .lf (.pv (.int .i64)), .lf (.ptr 1 5), .lf (.fn 97 [(0, 0)] [])], [[.own 0], q3], [some (135, yt8)]⟩
def Au7 : Sk := ⟨[.lf (.fn 148 [] [(2, 0), (3, 0), (4, 0), (5, 0), (6, 0)])], [[.own 0], q3, [.ptr 0 0], [.pv .str], [.ptr 1 5], [.pv (.int .i64)], [.fn 97 [(0, 0)] []]], [some (135, yt8)]⟩
def Au3 (k : Nat) : Cfg := { mkC [] 60 2 1 with bl := [54, 56] }
def Aan (k : Nat) : H93 → Option H94 := hid (Ac (Au3 k) k Tryz.f96 Au6 Au7)
def Bjm (k : Nat) : Sig := Ab Au6 Au7 (Aan k)
noncomputable def Au5 (k : Nat) : H93 → Option H94
 | (a0, a1, a2, a3, a4, a5, a6, a7, a8, a9) => some (a2, a3, a4, a5, a6, a7, a8, a0, a1, a9)
theorem B0q (k : Nat) (x : H93) : Aan k x = Au5 k x := (Af _ _).trans (by kernel_rfl)
theorem Bq1 (k : Nat) : Aa Tryz.prog 96 (Bjm k) := Ae (Au3 k) (l := []) k rfl trivial Ad Tryz.func96 (by kernel_rfl)
abbrev H95 : Type := (List Int) × (Bool) × (List (YT8))
abbrev H96 : Type := (Bool) × (List Int) × (List (YT8))
def fpmaybei : Sk := ⟨[.lf (.ptr 0 0), .lf (.pv .str), .lf (.ptr 1 0)], [[.own 0], [.pv .bool]], [some (135, yt8)]⟩
def fpmaybeo : Sk := ⟨[.lf (.fn 161 [] [(2, 0), (3, 0), (4, 0)])], [[.own 0], [.pv .bool], [.ptr 0 0], [.pv .str], [.ptr 1 0]], [some (135, yt8)]⟩
def Ayd (k : Nat) : Cfg := { mkC [] 56 2 1 with bl := [54, 56] }
def cpmaybe (k : Nat) : H95 → Option H96 := hid (Ac (Ayd k) k Tryz.f98 fpmaybei fpmaybeo)
def sgpmaybe (k : Nat) : Sig := Ab fpmaybei fpmaybeo (cpmaybe k)
noncomputable def Ayf (k : Nat) : H95 → Option H96
 | (a0, a1, a2) => some (a1, a0, a2)
theorem B2d (k : Nat) (x : H95) : cpmaybe k x = Ayf k x := (Af _ _).trans (by kernel_rfl)
theorem Br3 (k : Nat) : Aa Tryz.prog 98 (sgpmaybe k) := Ae (Ayd k) (l := []) k rfl trivial Ad Tryz.func98 (by kernel_rfl)
def fpisi : Sk := ⟨[.lf (.ptr 0 0), .lf (.pv .str)], [[.own 0]], [some (135, yt8)]⟩
def fpiso : Sk := ⟨[.lf (.pv .bool)], fpisi.boxes, [some (135, yt8)]⟩
def Axy (k : Nat) : Cfg := mkC [] 62 1 1
def cpis (k : Nat) : H91 → Option ((Bool) × (List (YT8))) := hid (Ac (Axy k) k Tryz.f143 fpisi fpiso)
def sgpis (k : Nat) : Sig := Ab fpisi fpiso (cpis k)
noncomputable def Axz (k : Nat) : H91 → Option ((Bool) × (List (YT8)))
 | (a0, a1) => bif (inB (0 : Int) (List.length a1)) then some (((rdA zt8 a1 (Int.toNat (0 : Int))).2.1 == a0), a1) else none
theorem fpis_e (k : Nat) (x : H91) : cpis k x = Axz k x := (Af _ _).trans (by kernel_rfl)
theorem cpis_ok (k : Nat) : Aa Tryz.prog 143 (sgpis k) := Ae (Axy k) (l := []) k rfl trivial Ad Tryz.func143 (by kernel_rfl)
def fpfaili : Sk := ⟨[.lf (.ptr 0 0), .lf (.pv (.int .i64))], [[.own 0]], [some (135, yt8)]⟩
def fpfailo : Sk := ⟨[.lf (.erp 88 [(.int .i64), (.int .i64)])], fpfaili.boxes, [some (135, yt8)]⟩
def Axb (k : Nat) : Cfg := { mkC [] 64 1 1 with bl := [54, 56] }
def cpfail (k : Nat) : ((Int) × (List (YT8))) → Option H62 := hid (Ac (Axb k) k Tryz.f144 fpfaili fpfailo)
def sgpfail (k : Nat) : Sig := Ab fpfaili fpfailo (cpfail k)
noncomputable def Axc (k : Nat) : ((Int) × (List (YT8))) → Option H62
 | (a0, a1) => bif (inB (0 : Int) (List.length a1)) then some (false, a0, (rdA zt8 a1 (Int.toNat (0 : Int))).2.2.2.1, a1) else none
theorem B1w (k : Nat) (x : ((Int) × (List (YT8)))) : cpfail k x = Axc k x := (Af _ _).trans (by kernel_rfl)
theorem Brs (k : Nat) : Aa Tryz.prog 144 (sgpfail k) := Ae (Axb k) (l := []) k rfl trivial Ad Tryz.func144 (by kernel_rfl)
abbrev H97 : Type := (Int) × (List Int) × (Int) × (Int) × (List (YT8))
def fptakei : Sk := ⟨[.lf (.ptr 0 0)], [[.own 0]], [some (135, yt8)]⟩
def fptakeo : Sk := ⟨[.agg [.pv (.int .i64), .pv .str, .pv (.int .i64), .pv (.int .i64)]], [[.pv (.slice yt8)]], [none]⟩
def A6i (k : Nat) : Cfg := { mkC [] 70 1 1 with bl := [54, 56] }
def cptake (k : Nat) : (List (YT8)) → Option H97 := hid (Ac (A6i k) k Tryz.f145 fptakei fptakeo)
def sgptake (k : Nat) : Sig := Ab fptakei fptakeo (cptake k)
noncomputable def A6j (k : Nat) : (List (YT8)) → Option H97
 | a0 => bif (inB (0 : Int) (List.length a0)) then bif ((rdA zt8 a0 (Int.toNat (0 : Int))).1 != (0 : Int)) then (bif (cutB (1 : Int) (((List.length a0) : Nat) : Int) (List.length a0)) then some ((rdA zt8 a0 (Int.toNat (0 : Int))).1, (rdA zt8 a0 (Int.toNat (0 : Int))).2.1, (rdA zt8 a0 (Int.toNat (0 : Int))).2.2.1, (rdA zt8 a0 (Int.toNat (0 : Int))).2.2.2.1, (cutL a0 (1 : Int) (((List.length a0) : Nat) : Int))) else none) else (some ((rdA zt8 a0 (Int.toNat (0 : Int))).1, (rdA zt8 a0 (Int.toNat (0 : Int))).2.1, (rdA zt8 a0 (Int.toNat (0 : Int))).2.2.1, (rdA zt8 a0 (Int.toNat (0 : Int))).2.2.2.1, a0)) else none
theorem B5u (k : Nat) (x : (List (YT8))) : cptake k x = A6j k x := (Af _ _).trans (by kernel_rfl)
theorem Bui (k : Nat) : Aa Tryz.prog 145 (sgptake k) := Ae (A6i k) (l := []) k rfl trivial Ad Tryz.func145 (by kernel_rfl)
abbrev H98 : Type := (Bool) × (Int) × (Int) × (List Int) × (List (YT8))
def A6v : Sk := ⟨[.lf (.ptr 0 0), .lf (.ptr 1 0)], [[.ptr 2 0], [.pv .str], [.own 0]], [some (135, yt8)]⟩
def A6w : Sk := ⟨[.lf (.erp 88 [(.int .i64), (.int .i64)])], [[.ptr 2 0], [.pv .str], [.pv (.slice yt8)]], [none]⟩
def B5y (k : Nat) : EnvL := [(143, [sgpis k]), (144, [sgpfail k]), (145, [sgptake k])]
def A6s (k : Nat) : Cfg := mkC (B5y k) 59 3 1
def Vl (k : Nat) : H91 → Option H98 := hid (Ac (A6s k) k Tryz.f142 A6v A6w)
def Bmi (k : Nat) : Sig := Ab A6v A6w (Vl k)
noncomputable def A6t (k : Nat) : H91 → Option H98
 | (a0, a1) => ((cpis k) (a0, a1)).bind fun o1 => bif (!o1.1) then (((cpfail k) ((50 : Int), o1.2)).bind fun o2 => some (o2.1, o2.2.1, o2.2.2.1, a0, o2.2.2.2)) else (((cptake k) (o1.2)).bind fun o3 => some (true, (0 : Int), (0 : Int), a0, o3.2.2.2.2))
theorem B5z (k : Nat) (x : H91) : Vl k x = A6t k x := (Af _ _).trans (by kernel_rfl)
theorem Buk (k : Nat) : Aa Tryz.prog 142 (Bmi k) := Ae (A6s k) k rfl ⟨⟨cpis_ok k, trivial⟩, ⟨Brs k, trivial⟩, ⟨Bui k, trivial⟩, trivial⟩ Ad Tryz.func142 (by kernel_rfl)
def Ago : Sk := ⟨[.lf (.ptr 0 0), .lf (.pv (.int .i64))], [[.pv (.slice yt8)]], []⟩
def Axa : Sk := ⟨[.lf (.erp 88 [(.int .i64), (.int .i64)])], Ago.boxes, []⟩
def Aw8 (k : Nat) : Cfg := { mkC [] 64 1 0 with bl := [54, 56] }
def A7 (k : Nat) : ((Int) × (List (YT8))) → Option H62 := hid (Ac (Aw8 k) k Tryz.f144 Ago Axa)
def A9 (k : Nat) : Sig := Ab Ago Axa (A7 k)
noncomputable def Aw9 (k : Nat) : ((Int) × (List (YT8))) → Option H62
 | (a0, a1) => idx zt8 a1 (0 : Int) fun o1 => some (false, a0, o1.2.2.2.1, a1)
theorem B1v (k : Nat) (x : ((Int) × (List (YT8)))) : A7 k x = Aw9 k x := (Af _ _).trans (by kernel_rfl)
theorem Bb (k : Nat) : Aa Tryz.prog 144 (A9 k) := Ae (Aw8 k) (l := []) k rfl trivial Ad Tryz.func144 (by kernel_rfl)
def Ah7 : Sk := ⟨[.lf (.ptr 0 0)], [[.pv (.slice yt8)]], []⟩
def A6h : Sk := ⟨[.agg [.pv (.int .i64), .pv .str, .pv (.int .i64), .pv (.int .i64)]], Ah7.boxes, []⟩
def A6f (k : Nat) : Cfg := { mkC [] 70 1 0 with bl := [54, 56] }
def A4 (k : Nat) : (List (YT8)) → Option H97 := hid (Ac (A6f k) k Tryz.f145 Ah7 A6h)
def Ba (k : Nat) : Sig := Ab Ah7 A6h (A4 k)
noncomputable def A6g (k : Nat) : (List (YT8)) → Option H97
 | a0 => idx zt8 a0 (0 : Int) fun o1 => bif (o1.1 != (0 : Int)) then (cut a0 (1 : Int) (((List.length a0) : Nat) : Int) fun o2 => some (o1.1, o1.2.1, o1.2.2.1, o1.2.2.2.1, o2)) else (some (o1.1, o1.2.1, o1.2.2.1, o1.2.2.2.1, a0))
theorem B5t (k : Nat) (x : (List (YT8))) : A4 k x = A6g k x := (Af _ _).trans (by kernel_rfl)
theorem Bc (k : Nat) : Aa Tryz.prog 145 (Ba k) := Ae (A6f k) (l := []) k rfl trivial Ad Tryz.func145 (by kernel_rfl)
abbrev H99 : Type := (List (YT8)) × (Int) × (Int) × (Int) × (Int) × (Int) × (Int) × (Int)
abbrev H100 : Type := (Bool) × (Int) × (Int) × (List (YT8)) × (Int) × (Int) × (Int) × (Int) × (Int) × (Int) × (Int)
def Ahz : Sk := ⟨[.lf (.ptr 0 0), .lf (.ptr 1 0)], [[.ptr 2 0], [.ptr 3 0], [.pv (.slice yt8)], q3], []⟩
def A4y : Sk := ⟨[.lf (.erp 88 [(.int .i64), (.int .i64)])], Ahz.boxes, []⟩
def fpnumCE (k : Nat) : EnvL := [(144, [A9 k]), (145, [Ba k])]
def A4v (k : Nat) : Cfg := { mkC (fpnumCE k) 66 4 0 with ef := [(15, (([2], []), ([], [])))], ld := [(13, 1), (14, 0), (17, 9999)], sr := [(17, 3)] }
def Us (k : Nat) : H99 → Option H100 := hid (Ac (A4v k) k Tryz.f146 Ahz A4y)
def Bll (k : Nat) : Sig := Ab Ahz A4y (Us k)
noncomputable def A4w (k : Nat) : H99 → Option H100
 | (a0, a1, a2, a3, a4, a5, a6, a7) => idx zt8 a0 (0 : Int) fun o1 => bif (o1.1 != (2 : Int)) then (((A7 k) ((50 : Int), a0)).bind fun o2 => some (o2.1, o2.2.1, o2.2.2.1, o2.2.2.2, a1, a2, a3, a4, a5, a6, a7)) else (((A4 k) (a0)).bind fun o3 => some (true, (0 : Int), (0 : Int), o3.2.2.2.2, o3.2.2.1, a2, a3, a4, a5, a6, a7))
theorem B49 (k : Nat) (x : H99) : Us k x = A4w k x := (Af _ _).trans (by kernel_rfl)
theorem Btz (k : Nat) : Aa Tryz.prog 146 (Bll k) := Ae (A4v k) k rfl ⟨⟨Bb k, trivial⟩, ⟨Bc k, trivial⟩, trivial⟩ Ad Tryz.func146 (by kernel_rfl)
def Agr : Sk := ⟨[.lf (.ptr 0 0), .lf (.pv .str)], [[.pv (.slice yt8)]], []⟩
def Axx : Sk := ⟨[.lf (.pv .bool)], Agr.boxes, []⟩
def Axv (k : Nat) : Cfg := mkC [] 62 1 0
def Dh (k : Nat) : H91 → Option ((Bool) × (List (YT8))) := hid (Ac (Axv k) k Tryz.f143 Agr Axx)
def Ep (k : Nat) : Sig := Ab Agr Axx (Dh k)
noncomputable def Axw (k : Nat) : H91 → Option ((Bool) × (List (YT8)))
 | (a0, a1) => idx zt8 a1 (0 : Int) fun o1 => some ((o1.2.1 == a0), a1)
theorem B16 (k : Nat) (x : H91) : Dh k x = Axw k x := (Af _ _).trans (by kernel_rfl)
theorem Et (k : Nat) : Aa Tryz.prog 143 (Ep k) := Ae (Axv k) (l := []) k rfl trivial Ad Tryz.func143 (by kernel_rfl)
def Ah8 : Sk := ⟨[.lf (.ptr 0 0), .lf (.ptr 1 0)], [[.ptr 2 0], [.pv .str], [.pv (.slice yt8)]], []⟩
def A6r : Sk := ⟨[.lf (.erp 88 [(.int .i64), (.int .i64)])], Ah8.boxes, []⟩
def B5w (k : Nat) : EnvL := [(143, [Ep k]), (144, [A9 k]), (145, [Ba k])]
def A6p (k : Nat) : Cfg := mkC (B5w k) 59 3 0
def Bj (k : Nat) : H91 → Option H98 := hid (Ac (A6p k) k Tryz.f142 Ah8 A6r)
def Fm (k : Nat) : Sig := Ab Ah8 A6r (Bj k)
noncomputable def A6q (k : Nat) : H91 → Option H98
 | (a0, a1) => ((Dh k) (a0, a1)).bind fun o1 => bif (!o1.1) then (((A7 k) ((50 : Int), o1.2)).bind fun o2 => some (o2.1, o2.2.1, o2.2.2.1, a0, o2.2.2.2)) else (((A4 k) (o1.2)).bind fun o3 => some (true, (0 : Int), (0 : Int), a0, o3.2.2.2.2))
theorem B5x (k : Nat) (x : H91) : Bj k x = A6q k x := (Af _ _).trans (by kernel_rfl)
theorem Fv (k : Nat) : Aa Tryz.prog 142 (Fm k) := Ae (A6p k) k rfl ⟨⟨Et k, trivial⟩, ⟨Bb k, trivial⟩, ⟨Bc k, trivial⟩, trivial⟩ Ad Tryz.func142 (by kernel_rfl)
def Ahp : Sk := ⟨[.lf (.ptr 0 0), .lf (.ptr 1 0)], [[.ptr 2 0], [.ptr 3 1], [.pv (.slice yt8)], q3], []⟩
def A33 : Sk := ⟨[.lf (.erp 88 [(.int .i64), (.int .i64)])], Ahp.boxes, []⟩
def B4p (k : Nat) : EnvL := [(144, [A9 k]), (145, [Ba k])]
def A31 (k : Nat) : Cfg := { mkC (B4p k) 66 4 0 with ef := [(15, (([2], []), ([], [])))], ld := [(13, 1), (14, 0), (17, 9999)], sr := [(17, 3)] }
def Ut (k : Nat) : H99 → Option H100 := hid (Ac (A31 k) k Tryz.f146 Ahp A33)
def Blm (k : Nat) : Sig := Ab Ahp A33 (Ut k)
noncomputable def A32 (k : Nat) : H99 → Option H100
 | (a0, a1, a2, a3, a4, a5, a6, a7) => idx zt8 a0 (0 : Int) fun o1 => bif (o1.1 != (2 : Int)) then (((A7 k) ((50 : Int), a0)).bind fun o2 => some (o2.1, o2.2.1, o2.2.2.1, o2.2.2.2, a1, a2, a3, a4, a5, a6, a7)) else (((A4 k) (a0)).bind fun o3 => some (true, (0 : Int), (0 : Int), o3.2.2.2.2, a1, o3.2.2.1, a3, a4, a5, a6, a7))
theorem B4q (k : Nat) (x : H99) : Ut k x = A32 k x := (Af _ _).trans (by kernel_rfl)
theorem Btp (k : Nat) : Aa Tryz.prog 146 (Blm k) := Ae (A31 k) k rfl ⟨⟨Bb k, trivial⟩, ⟨Bc k, trivial⟩, trivial⟩ Ad Tryz.func146 (by kernel_rfl)
def Ahr : Sk := ⟨[.lf (.ptr 0 0), .lf (.ptr 1 0)], [[.ptr 2 0], [.ptr 3 2], [.pv (.slice yt8)], q3], []⟩
def A39 : Sk := ⟨[.lf (.erp 88 [(.int .i64), (.int .i64)])], Ahr.boxes, []⟩
def B4t (k : Nat) : EnvL := [(144, [A9 k]), (145, [Ba k])]
def A37 (k : Nat) : Cfg := { mkC (B4t k) 66 4 0 with ef := [(15, (([2], []), ([], [])))], ld := [(13, 1), (14, 0), (17, 9999)], sr := [(17, 3)] }
def U4 (k : Nat) : H99 → Option H100 := hid (Ac (A37 k) k Tryz.f146 Ahr A39)
def Blx (k : Nat) : Sig := Ab Ahr A39 (U4 k)
noncomputable def A38 (k : Nat) : H99 → Option H100
 | (a0, a1, a2, a3, a4, a5, a6, a7) => idx zt8 a0 (0 : Int) fun o1 => bif (o1.1 != (2 : Int)) then (((A7 k) ((50 : Int), a0)).bind fun o2 => some (o2.1, o2.2.1, o2.2.2.1, o2.2.2.2, a1, a2, a3, a4, a5, a6, a7)) else (((A4 k) (a0)).bind fun o3 => some (true, (0 : Int), (0 : Int), o3.2.2.2.2, a1, a2, o3.2.2.1, a4, a5, a6, a7))
theorem B4u (k : Nat) (x : H99) : U4 k x = A38 k x := (Af _ _).trans (by kernel_rfl)
theorem Btr (k : Nat) : Aa Tryz.prog 146 (Blx k) := Ae (A37 k) k rfl ⟨⟨Bb k, trivial⟩, ⟨Bc k, trivial⟩, trivial⟩ Ad Tryz.func146 (by kernel_rfl)
def A2h : Sk := ⟨[.lf (.ptr 0 0), .lf (.ptr 1 3)], [[.pv (.slice yt8)], q3], []⟩
def A2i : Sk := ⟨[.lf (.fn 146 [] [(2, 0), (3, 0)])], [[.pv (.slice yt8)], q3, [.ptr 0 0], [.ptr 1 3]], []⟩
def A2f (k : Nat) : Cfg := { mkC [] 54 2 0 with bl := [54, 56] }
def Abt (k : Nat) : H99 → Option H99 := hid (Ac (A2f k) k Tryz.f94 A2h A2i)
def Ble (k : Nat) : Sig := Ab A2h A2i (Abt k)
noncomputable def A2g (k : Nat) : H99 → Option H99
 | (a0, a1, a2, a3, a4, a5, a6, a7) => some (a0, a1, a2, a3, a4, a5, a6, a7)
theorem B3y (k : Nat) (x : H99) : Abt k x = A2g k x := (Af _ _).trans (by kernel_rfl)
theorem Bs8 (k : Nat) : Aa Tryz.prog 94 (Ble k) := Ae (A2f k) (l := []) k rfl trivial Ad Tryz.func94 (by kernel_rfl)
abbrev H101 : Type := (List (YT8)) × (List Int)
def A6n : Sk := ⟨[.lf (.ptr 0 0), .lf (.pv .str)], [[.pv (.slice yt8)]], []⟩
def A6o : Sk := ⟨[.lf (.fn 142 [] [(1, 0), (2, 0)])], [[.pv (.slice yt8)], [.ptr 0 0], [.pv .str]], []⟩
def A6m (k : Nat) : Cfg := { mkC [] 54 1 0 with bl := [54, 56] }
def Bp (k : Nat) : H91 → Option H101 := hid (Ac (A6m k) k Tryz.f93 A6n A6o)
def Fl (k : Nat) : Sig := Ab A6n A6o (Bp k)
noncomputable def Fh (k : Nat) : H91 → Option H101
 | (a0, a1) => some (a1, a0)
theorem Fz (k : Nat) (x : H91) : Bp k x = Fh k x := (Af _ _).trans (by kernel_rfl)
theorem Fu (k : Nat) : Aa Tryz.prog 93 (Fl k) := Ae (A6m k) (l := []) k rfl trivial Ad Tryz.func93 (by kernel_rfl)
def A2l : Sk := ⟨[.lf (.ptr 0 0), .lf (.ptr 1 4)], [[.pv (.slice yt8)], q3], []⟩
def A2m : Sk := ⟨[.lf (.fn 146 [] [(2, 0), (3, 0)])], [[.pv (.slice yt8)], q3, [.ptr 0 0], [.ptr 1 4]], []⟩
def A2j (k : Nat) : Cfg := { mkC [] 54 2 0 with bl := [54, 56] }
def Abu (k : Nat) : H99 → Option H99 := hid (Ac (A2j k) k Tryz.f94 A2l A2m)
def Blf (k : Nat) : Sig := Ab A2l A2m (Abu k)
noncomputable def A2k (k : Nat) : H99 → Option H99
 | (a0, a1, a2, a3, a4, a5, a6, a7) => some (a0, a1, a2, a3, a4, a5, a6, a7)
theorem B3z (k : Nat) (x : H99) : Abu k x = A2k k x := (Af _ _).trans (by kernel_rfl)
theorem Bs9 (k : Nat) : Aa Tryz.prog 94 (Blf k) := Ae (A2j k) (l := []) k rfl trivial Ad Tryz.func94 (by kernel_rfl)
def Ahs : Sk := ⟨[.lf (.ptr 0 0), .lf (.ptr 1 0)], [[.ptr 2 0], [.ptr 3 3], [.pv (.slice yt8)], q3], []⟩
def A4c : Sk := ⟨[.lf (.erp 88 [(.int .i64), (.int .i64)])], Ahs.boxes, []⟩
def B4v (k : Nat) : EnvL := [(144, [A9 k]), (145, [Ba k])]
def A4a (k : Nat) : Cfg := { mkC (B4v k) 66 4 0 with ef := [(15, (([2], []), ([], [])))], ld := [(13, 1), (14, 0), (17, 9999)], sr := [(17, 3)] }
def U6 (k : Nat) : H99 → Option H100 := hid (Ac (A4a k) k Tryz.f146 Ahs A4c)
def Blz (k : Nat) : Sig := Ab Ahs A4c (U6 k)
noncomputable def A4b (k : Nat) : H99 → Option H100
 | (a0, a1, a2, a3, a4, a5, a6, a7) => idx zt8 a0 (0 : Int) fun o1 => bif (o1.1 != (2 : Int)) then (((A7 k) ((50 : Int), a0)).bind fun o2 => some (o2.1, o2.2.1, o2.2.2.1, o2.2.2.2, a1, a2, a3, a4, a5, a6, a7)) else (((A4 k) (a0)).bind fun o3 => some (true, (0 : Int), (0 : Int), o3.2.2.2.2, a1, a2, a3, o3.2.2.1, a5, a6, a7))
theorem B4w (k : Nat) (x : H99) : U6 k x = A4b k x := (Af _ _).trans (by kernel_rfl)
theorem Bts (k : Nat) : Aa Tryz.prog 146 (Blz k) := Ae (A4a k) k rfl ⟨⟨Bb k, trivial⟩, ⟨Bc k, trivial⟩, trivial⟩ Ad Tryz.func146 (by kernel_rfl)
def Aht : Sk := ⟨[.lf (.ptr 0 0), .lf (.ptr 1 0)], [[.ptr 2 0], [.ptr 3 4], [.pv (.slice yt8)], q3], []⟩
def A4f : Sk := ⟨[.lf (.erp 88 [(.int .i64), (.int .i64)])], Aht.boxes, []⟩
def B4x (k : Nat) : EnvL := [(144, [A9 k]), (145, [Ba k])]
def A4d (k : Nat) : Cfg := { mkC (B4x k) 66 4 0 with ef := [(15, (([2], []), ([], [])))], ld := [(13, 1), (14, 0), (17, 9999)], sr := [(17, 3)] }
def U7 (k : Nat) : H99 → Option H100 := hid (Ac (A4d k) k Tryz.f146 Aht A4f)
def Bl0 (k : Nat) : Sig := Ab Aht A4f (U7 k)
noncomputable def A4e (k : Nat) : H99 → Option H100
 | (a0, a1, a2, a3, a4, a5, a6, a7) => idx zt8 a0 (0 : Int) fun o1 => bif (o1.1 != (2 : Int)) then (((A7 k) ((50 : Int), a0)).bind fun o2 => some (o2.1, o2.2.1, o2.2.2.1, o2.2.2.2, a1, a2, a3, a4, a5, a6, a7)) else (((A4 k) (a0)).bind fun o3 => some (true, (0 : Int), (0 : Int), o3.2.2.2.2, a1, a2, a3, a4, o3.2.2.1, a6, a7))
theorem B4y (k : Nat) (x : H99) : U7 k x = A4e k x := (Af _ _).trans (by kernel_rfl)
theorem Btt (k : Nat) : Aa Tryz.prog 146 (Bl0 k) := Ae (A4d k) k rfl ⟨⟨Bb k, trivial⟩, ⟨Bc k, trivial⟩, trivial⟩ Ad Tryz.func146 (by kernel_rfl)
abbrev H102 : Type := (List (YT8)) × (List Int) × (Int) × (Int) × (Int) × (Int) × (Int) × (Int) × (Int)
abbrev H103 : Type := (Bool) × (Int) × (Int) × (List (YT8)) × (List Int) × (Int) × (Int) × (Int) × (Int) × (Int) × (Int) × (Int)
def Agh : Sk := ⟨[.lf (.ptr 0 0), .lf (.sb 1 3)], [[.pv (.slice yt8)], q6, [.ptr 0 0], [.ptr 8 3], [.ptr 0 0], [.pv .str], [.ptr 0 0], [.ptr 8 4], q3], []⟩
def Awd : Sk := ⟨[.lf (.erp 88 [(.int .i64), (.int .i64)])], Agh.boxes, []⟩
def B1f (k : Nat) : EnvL := [(146, [Blz k, Bl0 k]), (142, [Fm k])]
def Awb (k : Nat) : Cfg := mkC (B1f k) 68 9 0
def Aat (k : Nat) : H102 → Option H103 := hid (Ac (Awb k) (k + 32) Tryz.f92 Agh Awd)
def Bjw (k : Nat) : Sig := Ab Agh Awd (Aat k)
noncomputable def Awc (k : Nat) : H102 → Option H103
 | (a0, a1, a2, a3, a4, a5, a6, a7, a8) => ((U6 k) (a0, a2, a3, a4, a5, a6, a7, a8)).bind fun o1 => bif (!o1.1) then (some (o1.1, o1.2.1, o1.2.2.1, o1.2.2.2.1, a1, o1.2.2.2.2.1, o1.2.2.2.2.2.1, o1.2.2.2.2.2.2.1, o1.2.2.2.2.2.2.2.1, o1.2.2.2.2.2.2.2.2.1, o1.2.2.2.2.2.2.2.2.2.1, o1.2.2.2.2.2.2.2.2.2.2)) else (((Bj k) (a1, o1.2.2.2.1)).bind fun o2 => bif (!o2.1) then (some (o2.1, o2.2.1, o2.2.2.1, o2.2.2.2.2, o2.2.2.2.1, o1.2.2.2.2.1, o1.2.2.2.2.2.1, o1.2.2.2.2.2.2.1, o1.2.2.2.2.2.2.2.1, o1.2.2.2.2.2.2.2.2.1, o1.2.2.2.2.2.2.2.2.2.1, o1.2.2.2.2.2.2.2.2.2.2)) else (((U7 k) (o2.2.2.2.2, o1.2.2.2.2.1, o1.2.2.2.2.2.1, o1.2.2.2.2.2.2.1, o1.2.2.2.2.2.2.2.1, o1.2.2.2.2.2.2.2.2.1, o1.2.2.2.2.2.2.2.2.2.1, o1.2.2.2.2.2.2.2.2.2.2)).bind fun o3 => bif (!o3.1) then (some (o3.1, o3.2.1, o3.2.2.1, o3.2.2.2.1, o2.2.2.2.1, o3.2.2.2.2.1, o3.2.2.2.2.2.1, o3.2.2.2.2.2.2.1, o3.2.2.2.2.2.2.2.1, o3.2.2.2.2.2.2.2.2.1, o3.2.2.2.2.2.2.2.2.2.1, o3.2.2.2.2.2.2.2.2.2.2)) else (some (true, (0 : Int), (0 : Int), o3.2.2.2.1, o2.2.2.2.1, o3.2.2.2.2.1, o3.2.2.2.2.2.1, o3.2.2.2.2.2.2.1, o3.2.2.2.2.2.2.2.1, o3.2.2.2.2.2.2.2.2.1, o3.2.2.2.2.2.2.2.2.2.1, o3.2.2.2.2.2.2.2.2.2.2))))
theorem B1g (k : Nat) (x : H102) : Aat k x = Awc k x := (Af _ _).trans (by kernel_rfl)
theorem Brj (k : Nat) : Aa Tryz.prog 92 (Bjw k) := Ae (Awb k) (k + 32) rfl ⟨⟨Bts k, Btt k, trivial⟩, ⟨Fv k, trivial⟩, trivial⟩ Ad Tryz.func92 (by kernel_rfl)
def Agq : Sk := ⟨[.lf (.ptr 0 0), .lf (.ptr 1 0)], [[.ptr 2 0], [.ptr 3 3], [.pv (.slice yt8)], q3], []⟩
def Axp : Sk := ⟨[.lf (.erp 88 [(.int .i64), (.int .i64)])], Agq.boxes, []⟩
def B10 (k : Nat) : EnvL := [(94, [Ble k, Blf k]), (93, [Fl k]), (92, [Bjw k])]
def Axm (k : Nat) : Cfg := { mkC (B10 k) 84 4 0 with ef := [(8, (([2, 3], []), ([56, 74], []))), (10, (([2], []), ([58, 76], []))), (15, (([2, 3], []), ([63, 81], []))), (17, (([2, 3, 56, 58, 63, 64, 74, 76, 81], []), ([], [])))], ld := [(3, 0), (4, 0), (5, 1), (6, 9999), (7, 9999), (9, 0), (11, 0), (12, 1), (13, 9999), (14, 9999)], rb := [16] }
def Uc (k : Nat) : H99 → Option H100 := hid (Ac (Axm k) k Tryz.f147 Agq Axp)
def Bj9 (k : Nat) : Sig := Ab Agq Axp (Uc k)
noncomputable def Axn (k : Nat) : H99 → Option H100
 | (a0, a1, a2, a3, a4, a5, a6, a7) => ((Abt k) (a0, a1, a2, a3, a4, a5, a6, a7)).bind fun o1 => ((Bp k) (([47] : List Int), o1.1)).bind fun o2 => ((Abu k) (o2.1, o1.2.1, o1.2.2.1, o1.2.2.2.1, o1.2.2.2.2.1, o1.2.2.2.2.2.1, o1.2.2.2.2.2.2.1, o1.2.2.2.2.2.2.2)).bind fun o3 => ((Aat k) (o3.1, o2.2, o3.2.1, o3.2.2.1, o3.2.2.2.1, o3.2.2.2.2.1, o3.2.2.2.2.2.1, o3.2.2.2.2.2.2.1, o3.2.2.2.2.2.2.2)).bind fun o4 => some (o4.1, o4.2.1, o4.2.2.1, o4.2.2.2.1, o4.2.2.2.2.2.1, o4.2.2.2.2.2.2.1, o4.2.2.2.2.2.2.2.1, o4.2.2.2.2.2.2.2.2.1, o4.2.2.2.2.2.2.2.2.2.1, o4.2.2.2.2.2.2.2.2.2.2.1, o4.2.2.2.2.2.2.2.2.2.2.2)
theorem B11 (k : Nat) (x : H99) : Uc k x = Axn k x := (Af _ _).trans (by kernel_rfl)
theorem Brw (k : Nat) : Aa Tryz.prog 147 (Bj9 k) := Ae (Axm k) k rfl ⟨⟨Bs8 k, Bs9 k, trivial⟩, ⟨Fu k, trivial⟩, ⟨Brj k, trivial⟩, trivial⟩ Ad Tryz.func147 (by kernel_rfl)
abbrev H104 : Type := (List (YT8)) × (List Int) × (Int)
def fpplacei : Sk := ⟨[.lf (.ptr 0 0), .lf (.ptr 1 6)], [[.pv (.slice yt8)], q7], []⟩
def fpplaceo : Sk := ⟨[.lf (.fn 191 [] [(2, 0), (3, 0)])], [[.pv (.slice yt8)], q7, [.ptr 0 0], [.ptr 1 6]], []⟩
def A53 (k : Nat) : Cfg := { mkC [] 54 2 0 with bl := [54, 56] }
def cpplace (k : Nat) : H104 → Option H104 := hid (Ac (A53 k) k Tryz.f149 fpplacei fpplaceo)
def sgpplace (k : Nat) : Sig := Ab fpplacei fpplaceo (cpplace k)
noncomputable def A55 (k : Nat) : H104 → Option H104
 | (a0, a1, a2) => some (a0, a1, a2)
theorem B5n (k : Nat) (x : H104) : cpplace k x = A55 k x := (Af _ _).trans (by kernel_rfl)
theorem Bud (k : Nat) : Aa Tryz.prog 149 (sgpplace k) := Ae (A53 k) (l := []) k rfl trivial Ad Tryz.func149 (by kernel_rfl)
def fpnamei : Sk := ⟨[.lf (.ptr 0 0), .lf (.ptr 1 0)], [[.pv (.slice yt8)], q7], []⟩
def fpnameo : Sk := ⟨[.lf (.fn 192 [] [(2, 0), (3, 0)])], [[.pv (.slice yt8)], q7, [.ptr 0 0], [.ptr 1 0]], []⟩
def A0f (k : Nat) : Cfg := { mkC [] 54 2 0 with bl := [54, 56] }
def cpname (k : Nat) : H104 → Option H104 := hid (Ac (A0f k) k Tryz.f150 fpnamei fpnameo)
def sgpname (k : Nat) : Sig := Ab fpnamei fpnameo (cpname k)
noncomputable def A0h (k : Nat) : H104 → Option H104
 | (a0, a1, a2) => some (a0, a1, a2)
theorem B29 (k : Nat) (x : H104) : cpname k x = A0h k x := (Af _ _).trans (by kernel_rfl)
theorem Bso (k : Nat) : Aa Tryz.prog 150 (sgpname k) := Ae (A0f k) (l := []) k rfl trivial Ad Tryz.func150 (by kernel_rfl)
abbrev H105 : Type := (List Int) × (Int) × (List (YT8)) × (List Int) × (Int)
abbrev H106 : Type := (List (YT8)) × (List Int) × (Int) × (List Int) × (Int)
def Au1 : Sk := ⟨[.lf (.ptr 0 0), .lf (.pv .str), .lf (.pv (.int .i64)), .lf (.ptr 1 1), .lf (.fn 152 [(0, 0)] [])], [[.pv (.slice yt8)], q7], []⟩
def Au2 : Sk := ⟨[.lf (.fn 194 [] [(2, 0), (3, 0), (4, 0), (5, 0), (6, 0)])], [[.pv (.slice yt8)], q7, [.ptr 0 0], [.pv .str], [.ptr 1 1], [.pv (.int .i64)], [.fn 152 [(0, 0)] []]], []⟩
def Auy (k : Nat) : Cfg := { mkC [] 60 2 0 with bl := [54, 56] }
def Aam (k : Nat) : H105 → Option H106 := hid (Ac (Auy k) k Tryz.f151 Au1 Au2)
def Bjk (k : Nat) : Sig := Ab Au1 Au2 (Aam k)
noncomputable def Au0 (k : Nat) : H105 → Option H106
 | (a0, a1, a2, a3, a4) => some (a2, a3, a4, a0, a1)
theorem B0n (k : Nat) (x : H105) : Aam k x = Au0 k x := (Af _ _).trans (by kernel_rfl)
theorem Bqz (k : Nat) : Aa Tryz.prog 151 (Bjk k) := Ae (Auy k) (l := []) k rfl trivial Ad Tryz.func151 (by kernel_rfl)
def Avb : Sk := ⟨[.lf (.ptr 0 0), .lf (.pv .str), .lf (.pv (.int .i64)), .lf (.ptr 1 2), .lf (.fn 154 [(0, 0)] [])], [[.pv (.slice yt8)], q7], []⟩
def Avc : Sk := ⟨[.lf (.fn 195 [] [(2, 0), (3, 0), (4, 0), (5, 0), (6, 0)])], [[.pv (.slice yt8)], q7, [.ptr 0 0], [.pv .str], [.ptr 1 2], [.pv (.int .i64)], [.fn 154 [(0, 0)] []]], []⟩
def Au8 (k : Nat) : Cfg := { mkC [] 60 2 0 with bl := [54, 56] }
def Aao (k : Nat) : H105 → Option H106 := hid (Ac (Au8 k) k Tryz.f153 Avb Avc)
def Bjo (k : Nat) : Sig := Ab Avb Avc (Aao k)
noncomputable def Ava (k : Nat) : H105 → Option H106
 | (a0, a1, a2, a3, a4) => some (a2, a3, a4, a0, a1)
theorem B0t (k : Nat) (x : H105) : Aao k x = Ava k x := (Af _ _).trans (by kernel_rfl)
theorem Bq3 (k : Nat) : Aa Tryz.prog 153 (Bjo k) := Ae (Au8 k) (l := []) k rfl trivial Ad Tryz.func153 (by kernel_rfl)
def Avg : Sk := ⟨[.lf (.ptr 0 0), .lf (.pv .str), .lf (.pv (.int .i64)), .lf (.ptr 1 3), .lf (.fn 156 [(0, 0)] [])], [[.pv (.slice yt8)], q7], []⟩
def Avh : Sk := ⟨[.lf (.fn 196 [] [(2, 0), (3, 0), (4, 0), (5, 0), (6, 0)])], [[.pv (.slice yt8)], q7, [.ptr 0 0], [.pv .str], [.ptr 1 3], [.pv (.int .i64)], [.fn 156 [(0, 0)] []]], []⟩
def Avd (k : Nat) : Cfg := { mkC [] 60 2 0 with bl := [54, 56] }
def Aap (k : Nat) : H105 → Option H106 := hid (Ac (Avd k) k Tryz.f155 Avg Avh)
def Bjq (k : Nat) : Sig := Ab Avg Avh (Aap k)
noncomputable def Avf (k : Nat) : H105 → Option H106
 | (a0, a1, a2, a3, a4) => some (a2, a3, a4, a0, a1)
theorem B0w (k : Nat) (x : H105) : Aap k x = Avf k x := (Af _ _).trans (by kernel_rfl)
theorem Bq5 (k : Nat) : Aa Tryz.prog 155 (Bjq k) := Ae (Avd k) (l := []) k rfl trivial Ad Tryz.func155 (by kernel_rfl)
def Auw : Sk := ⟨[.lf (.ptr 0 0), .lf (.pv .str), .lf (.pv (.int .i64)), .lf (.ptr 1 4), .lf (.fn 158 [(0, 0)] [])], [[.pv (.slice yt8)], q7], []⟩
def Aux : Sk := ⟨[.lf (.fn 198 [] [(2, 0), (3, 0), (4, 0), (5, 0), (6, 0)])], [[.pv (.slice yt8)], q7, [.ptr 0 0], [.pv .str], [.ptr 1 4], [.pv (.int .i64)], [.fn 158 [(0, 0)] []]], []⟩
def Aut (k : Nat) : Cfg := { mkC [] 60 2 0 with bl := [54, 56] }
def Aal (k : Nat) : H105 → Option H106 := hid (Ac (Aut k) k Tryz.f157 Auw Aux)
def Bji (k : Nat) : Sig := Ab Auw Aux (Aal k)
noncomputable def Auv (k : Nat) : H105 → Option H106
 | (a0, a1, a2, a3, a4) => some (a2, a3, a4, a0, a1)
theorem B0k (k : Nat) (x : H105) : Aal k x = Auv k x := (Af _ _).trans (by kernel_rfl)
theorem Bqx (k : Nat) : Aa Tryz.prog 157 (Bji k) := Ae (Aut k) (l := []) k rfl trivial Ad Tryz.func157 (by kernel_rfl)
def Aur : Sk := ⟨[.lf (.ptr 0 0), .lf (.pv .str), .lf (.pv (.int .i64)), .lf (.ptr 1 5), .lf (.fn 160 [(0, 0)] [])], [[.pv (.slice yt8)], q7], []⟩
def Aus : Sk := ⟨[.lf (.fn 202 [] [(2, 0), (3, 0), (4, 0), (5, 0), (6, 0)])], [[.pv (.slice yt8)], q7, [.ptr 0 0], [.pv .str], [.ptr 1 5], [.pv (.int .i64)], [.fn 160 [(0, 0)] []]], []⟩
def Auo (k : Nat) : Cfg := { mkC [] 60 2 0 with bl := [54, 56] }
def Aak (k : Nat) : H105 → Option H106 := hid (Ac (Auo k) k Tryz.f159 Aur Aus)
def Bjg (k : Nat) : Sig := Ab Aur Aus (Aak k)
noncomputable def Auq (k : Nat) : H105 → Option H106
 | (a0, a1, a2, a3, a4) => some (a2, a3, a4, a0, a1)
theorem B0h (k : Nat) (x : H105) : Aak k x = Auq k x := (Af _ _).trans (by kernel_rfl)
theorem Bqv (k : Nat) : Aa Tryz.prog 159 (Bjg k) := Ae (Auo k) (l := []) k rfl trivial Ad Tryz.func159 (by kernel_rfl)
def Ah5 : Sk := ⟨[.lf (.ptr 0 0), .lf (.ptr 1 0)], [[.ptr 2 0], [.ptr 3 6], [.pv (.slice yt8)], q7], []⟩
def A54 : Sk := ⟨[.lf (.nil .ifc)], Ah5.boxes, []⟩
def A51 (k : Nat) : Cfg := { mkC [] 60 4 0 with ld := [(3, 1), (4, 0), (5, 9999), (6, 9999), (7, 2), (9, 9999), (10, 9999), (11, 9999)], sr := [(11, 3)] }
def Vd (k : Nat) : H104 → Option H104 := hid (Ac (A51 k) k Tryz.f191 Ah5 A54)
def Bmb (k : Nat) : Sig := Ab Ah5 A54 (Vd k)
noncomputable def A52 (k : Nat) : H104 → Option H104
 | (a0, a1, a2) => idx zt8 a0 (0 : Int) fun o1 => some (a0, a1, o1.2.2.2.1)
theorem B5m (k : Nat) (x : H104) : Vd k x = A52 k x := (Af _ _).trans (by kernel_rfl)
theorem Buc (k : Nat) : Aa Tryz.prog 191 (Bmb k) := Ae (A51 k) (l := []) k rfl trivial Ad Tryz.func191 (by kernel_rfl)
def fpnamedi : Sk := ⟨[.lf (.ptr 0 0)], [[.pv (.slice yt8)]], []⟩
def fpnamedo : Sk := ⟨[.lf (.pv .bool)], fpnamedi.boxes, []⟩
def B3c (k : Nat) : EnvL := [(119, [Y0 k])]
def A0m (k : Nat) : Cfg := mkC (B3c k) 70 1 0
def cpnamed (k : Nat) : (List (YT8)) → Option ((Bool) × (List (YT8))) := hid (Ac (A0m k) k Tryz.f193 fpnamedi fpnamedo)
def sgpnamed (k : Nat) : Sig := Ab fpnamedi fpnamedo (cpnamed k)
noncomputable def A0n (k : Nat) : (List (YT8)) → Option ((Bool) × (List (YT8)))
 | a0 => idx zt8 a0 (0 : Int) fun o1 => bif (o1.1 == (1 : Int)) then (idx zt8 a0 (0 : Int) fun o2 => ((Mp k) (o2.2.1)).bind fun o3 => some ((!o3), a0)) else (some (false, a0))
theorem B3d (k : Nat) (x : (List (YT8))) : cpnamed k x = A0n k x := (Af _ _).trans (by kernel_rfl)
theorem Gp (k : Nat) : Aa Tryz.prog 193 (sgpnamed k) := Ae (A0m k) k rfl ⟨⟨Aag k, trivial⟩, trivial⟩ Ad Tryz.func193 (by kernel_rfl)
abbrev H107 : Type := (Bool) × (Int) × (Int) × (List (YT8)) × (List Int) × (Int)
def Ag4 : Sk := ⟨[.lf (.ptr 0 0), .lf (.ptr 1 0)], [[.ptr 2 0], [.ptr 3 0], [.pv (.slice yt8)], q7], []⟩
def A0g : Sk := ⟨[.lf (.erp 88 [(.int .i64), (.int .i64)])], Ag4.boxes, []⟩
def B27 (k : Nat) : EnvL := [(193, [sgpnamed k]), (144, [A9 k]), (145, [Ba k])]
def A0d (k : Nat) : Cfg := { mkC (B27 k) 61 4 0 with ef := [(10, (([2], []), ([], [])))], ld := [(8, 1), (9, 0), (12, 9999)], sr := [(12, 3)] }
def Uf (k : Nat) : H104 → Option H107 := hid (Ac (A0d k) k Tryz.f192 Ag4 A0g)
def Bkn (k : Nat) : Sig := Ab Ag4 A0g (Uf k)
noncomputable def A0e (k : Nat) : H104 → Option H107
 | (a0, a1, a2) => ((cpnamed k) (a0)).bind fun o1 => bif (!o1.1) then (((A7 k) ((50 : Int), o1.2)).bind fun o2 => some (o2.1, o2.2.1, o2.2.2.1, o2.2.2.2, a1, a2)) else (((A4 k) (o1.2)).bind fun o3 => some (true, (0 : Int), (0 : Int), o3.2.2.2.2, o3.2.1, a2))
theorem B28 (k : Nat) (x : H104) : Uf k x = A0e k x := (Af _ _).trans (by kernel_rfl)
theorem Bsn (k : Nat) : Aa Tryz.prog 192 (Bkn k) := Ae (A0d k) k rfl ⟨⟨Gp k, trivial⟩, ⟨Bb k, trivial⟩, ⟨Bc k, trivial⟩, trivial⟩ Ad Tryz.func192 (by kernel_rfl)
abbrev H108 : Type := (List (YT8)) × (List Int) × (Int) × (Int) × (Int) × (Int) × (Int) × (Int) × (Int) × (Int) × (Int) × (Int)
def A44 : Sk := ⟨[.lf (.ptr 0 0), .lf (.ptr 1 10)], [[.pv (.slice yt8)], q9], []⟩
def A45 : Sk := ⟨[.lf (.fn 191 [] [(2, 0), (3, 0)])], [[.pv (.slice yt8)], q9, [.ptr 0 0], [.ptr 1 10]], []⟩
def A42 (k : Nat) : Cfg := { mkC [] 54 2 0 with bl := [54, 56] }
def Ab0 (k : Nat) : H108 → Option H108 := hid (Ac (A42 k) k Tryz.f149 A44 A45)
def Bl6 (k : Nat) : Sig := Ab A44 A45 (Ab0 k)
noncomputable def A43 (k : Nat) : H108 → Option H108
 | (a0, a1, a2, a3, a4, a5, a6, a7, a8, a9, a10, a11) => some (a0, a1, a2, a3, a4, a5, a6, a7, a8, a9, a10, a11)
theorem B5c (k : Nat) (x : H108) : Ab0 k x = A43 k x := (Af _ _).trans (by kernel_rfl)
theorem Bt2 (k : Nat) : Aa Tryz.prog 149 (Bl6 k) := Ae (A42 k) (l := []) k rfl trivial Ad Tryz.func149 (by kernel_rfl)
def Aym : Sk := ⟨[.lf (.ptr 0 0), .lf (.ptr 1 0)], [[.pv (.slice yt8)], q9], []⟩
def Ayn : Sk := ⟨[.lf (.fn 192 [] [(2, 0), (3, 0)])], [[.pv (.slice yt8)], q9, [.ptr 0 0], [.ptr 1 0]], []⟩
def Ayk (k : Nat) : Cfg := { mkC [] 54 2 0 with bl := [54, 56] }
def Aa6 (k : Nat) : H108 → Option H108 := hid (Ac (Ayk k) k Tryz.f150 Aym Ayn)
def Bke (k : Nat) : Sig := Ab Aym Ayn (Aa6 k)
noncomputable def Ayl (k : Nat) : H108 → Option H108
 | (a0, a1, a2, a3, a4, a5, a6, a7, a8, a9, a10, a11) => some (a0, a1, a2, a3, a4, a5, a6, a7, a8, a9, a10, a11)
theorem B2f (k : Nat) (x : H108) : Aa6 k x = Ayl k x := (Af _ _).trans (by kernel_rfl)
theorem Br5 (k : Nat) : Aa Tryz.prog 150 (Bke k) := Ae (Ayk k) (l := []) k rfl trivial Ad Tryz.func150 (by kernel_rfl)
def A2p : Sk := ⟨[.lf (.ptr 0 0), .lf (.ptr 1 1)], [[.pv (.slice yt8)], q9], []⟩
def A2q : Sk := ⟨[.lf (.fn 146 [] [(2, 0), (3, 0)])], [[.pv (.slice yt8)], q9, [.ptr 0 0], [.ptr 1 1]], []⟩
def A2n (k : Nat) : Cfg := { mkC [] 54 2 0 with bl := [54, 56] }
def Abv (k : Nat) : H108 → Option H108 := hid (Ac (A2n k) k Tryz.f94 A2p A2q)
def Blg (k : Nat) : Sig := Ab A2p A2q (Abv k)
noncomputable def A2o (k : Nat) : H108 → Option H108
 | (a0, a1, a2, a3, a4, a5, a6, a7, a8, a9, a10, a11) => some (a0, a1, a2, a3, a4, a5, a6, a7, a8, a9, a10, a11)
theorem B30 (k : Nat) (x : H108) : Abv k x = A2o k x := (Af _ _).trans (by kernel_rfl)
theorem Bta (k : Nat) : Aa Tryz.prog 94 (Blg k) := Ae (A2n k) (l := []) k rfl trivial Ad Tryz.func94 (by kernel_rfl)
def A2t : Sk := ⟨[.lf (.ptr 0 0), .lf (.ptr 1 2)], [[.pv (.slice yt8)], q9], []⟩
def A2u : Sk := ⟨[.lf (.fn 146 [] [(2, 0), (3, 0)])], [[.pv (.slice yt8)], q9, [.ptr 0 0], [.ptr 1 2]], []⟩
def A2r (k : Nat) : Cfg := { mkC [] 54 2 0 with bl := [54, 56] }
def Abw (k : Nat) : H108 → Option H108 := hid (Ac (A2r k) k Tryz.f94 A2t A2u)
def Blh (k : Nat) : Sig := Ab A2t A2u (Abw k)
noncomputable def A2s (k : Nat) : H108 → Option H108
 | (a0, a1, a2, a3, a4, a5, a6, a7, a8, a9, a10, a11) => some (a0, a1, a2, a3, a4, a5, a6, a7, a8, a9, a10, a11)
theorem B31 (k : Nat) (x : H108) : Abw k x = A2s k x := (Af _ _).trans (by kernel_rfl)
theorem Btb (k : Nat) : Aa Tryz.prog 94 (Blh k) := Ae (A2r k) (l := []) k rfl trivial Ad Tryz.func94 (by kernel_rfl)
def Axh : Sk := ⟨[.lf (.ptr 0 0), .lf (.ptr 1 3)], [[.pv (.slice yt8)], q9], []⟩
def Axi : Sk := ⟨[.lf (.fn 147 [] [(2, 0), (3, 0)])], [[.pv (.slice yt8)], q9, [.ptr 0 0], [.ptr 1 3]], []⟩
def Axf (k : Nat) : Cfg := { mkC [] 54 2 0 with bl := [54, 56] }
def Aa3 (k : Nat) : H108 → Option H108 := hid (Ac (Axf k) k Tryz.f95 Axh Axi)
def Bj8 (k : Nat) : Sig := Ab Axh Axi (Aa3 k)
noncomputable def Axg (k : Nat) : H108 → Option H108
 | (a0, a1, a2, a3, a4, a5, a6, a7, a8, a9, a10, a11) => some (a0, a1, a2, a3, a4, a5, a6, a7, a8, a9, a10, a11)
theorem B1x (k : Nat) (x : H108) : Aa3 k x = Axg k x := (Af _ _).trans (by kernel_rfl)
theorem Bru (k : Nat) : Aa Tryz.prog 95 (Bj8 k) := Ae (Axf k) (l := []) k rfl trivial Ad Tryz.func95 (by kernel_rfl)
def A2x : Sk := ⟨[.lf (.ptr 0 0), .lf (.ptr 1 5)], [[.pv (.slice yt8)], q9], []⟩
def A2y : Sk := ⟨[.lf (.fn 146 [] [(2, 0), (3, 0)])], [[.pv (.slice yt8)], q9, [.ptr 0 0], [.ptr 1 5]], []⟩
def A2v (k : Nat) : Cfg := { mkC [] 54 2 0 with bl := [54, 56] }
def Abx (k : Nat) : H108 → Option H108 := hid (Ac (A2v k) k Tryz.f94 A2x A2y)
def Bli (k : Nat) : Sig := Ab A2x A2y (Abx k)
noncomputable def A2w (k : Nat) : H108 → Option H108
 | (a0, a1, a2, a3, a4, a5, a6, a7, a8, a9, a10, a11) => some (a0, a1, a2, a3, a4, a5, a6, a7, a8, a9, a10, a11)
theorem B32 (k : Nat) (x : H108) : Abx k x = A2w k x := (Af _ _).trans (by kernel_rfl)
theorem Btc (k : Nat) : Aa Tryz.prog 94 (Bli k) := Ae (A2v k) (l := []) k rfl trivial Ad Tryz.func94 (by kernel_rfl)
abbrev H109 : Type := (List Int) × (List (YT8)) × (Bool)
abbrev H110 : Type := (List (YT8)) × (Bool) × (List Int)
def Ax2 : Sk := ⟨[.lf (.ptr 0 0), .lf (.pv .str), .lf (.ptr 1 0)], [[.pv (.slice yt8)], [.pv .bool]], []⟩
def Ax3 : Sk := ⟨[.lf (.fn 161 [] [(2, 0), (3, 0), (4, 0)])], [[.pv (.slice yt8)], [.pv .bool], [.ptr 0 0], [.pv .str], [.ptr 1 0]], []⟩
def Ax0 (k : Nat) : Cfg := { mkC [] 56 2 0 with bl := [54, 56] }
def Aa4 (k : Nat) : H109 → Option H110 := hid (Ac (Ax0 k) k Tryz.f98 Ax2 Ax3)
def Bkb (k : Nat) : Sig := Ab Ax2 Ax3 (Aa4 k)
noncomputable def Ax1 (k : Nat) : H109 → Option H110
 | (a0, a1, a2) => some (a1, a2, a0)
theorem B17 (k : Nat) (x : H109) : Aa4 k x = Ax1 k x := (Af _ _).trans (by kernel_rfl)
theorem Br0 (k : Nat) : Aa Tryz.prog 98 (Bkb k) := Ae (Ax0 k) (l := []) k rfl trivial Ad Tryz.func98 (by kernel_rfl)
def A21 : Sk := ⟨[.lf (.ptr 0 0), .lf (.ptr 1 6)], [[.pv (.slice yt8)], q9], []⟩
def A22 : Sk := ⟨[.lf (.fn 146 [] [(2, 0), (3, 0)])], [[.pv (.slice yt8)], q9, [.ptr 0 0], [.ptr 1 6]], []⟩
def A2z (k : Nat) : Cfg := { mkC [] 54 2 0 with bl := [54, 56] }
def Aby (k : Nat) : H108 → Option H108 := hid (Ac (A2z k) k Tryz.f94 A21 A22)
def Blj (k : Nat) : Sig := Ab A21 A22 (Aby k)
noncomputable def A20 (k : Nat) : H108 → Option H108
 | (a0, a1, a2, a3, a4, a5, a6, a7, a8, a9, a10, a11) => some (a0, a1, a2, a3, a4, a5, a6, a7, a8, a9, a10, a11)
theorem B33 (k : Nat) (x : H108) : Aby k x = A20 k x := (Af _ _).trans (by kernel_rfl)
theorem Btd (k : Nat) : Aa Tryz.prog 94 (Blj k) := Ae (A2z k) (l := []) k rfl trivial Ad Tryz.func94 (by kernel_rfl)
def A25 : Sk := ⟨[.lf (.ptr 0 0), .lf (.ptr 1 7)], [[.pv (.slice yt8)], q9], []⟩
def A26 : Sk := ⟨[.lf (.fn 146 [] [(2, 0), (3, 0)])], [[.pv (.slice yt8)], q9, [.ptr 0 0], [.ptr 1 7]], []⟩
def A23 (k : Nat) : Cfg := { mkC [] 54 2 0 with bl := [54, 56] }
def Abz (k : Nat) : H108 → Option H108 := hid (Ac (A23 k) k Tryz.f94 A25 A26)
def Blk (k : Nat) : Sig := Ab A25 A26 (Abz k)
noncomputable def A24 (k : Nat) : H108 → Option H108
 | (a0, a1, a2, a3, a4, a5, a6, a7, a8, a9, a10, a11) => some (a0, a1, a2, a3, a4, a5, a6, a7, a8, a9, a10, a11)
theorem B34 (k : Nat) (x : H108) : Abz k x = A24 k x := (Af _ _).trans (by kernel_rfl)
theorem Bte (k : Nat) : Aa Tryz.prog 94 (Blk k) := Ae (A23 k) (l := []) k rfl trivial Ad Tryz.func94 (by kernel_rfl)
def A01 : Sk := ⟨[.lf (.ptr 0 0), .lf (.ptr 1 8)], [[.pv (.slice yt8)], q9], []⟩
def A02 : Sk := ⟨[.lf (.fn 146 [] [(2, 0), (3, 0)])], [[.pv (.slice yt8)], q9, [.ptr 0 0], [.ptr 1 8]], []⟩
def A0z (k : Nat) : Cfg := { mkC [] 54 2 0 with bl := [54, 56] }
def Abh (k : Nat) : H108 → Option H108 := hid (Ac (A0z k) k Tryz.f94 A01 A02)
def Bk2 (k : Nat) : Sig := Ab A01 A02 (Abh k)
noncomputable def A00 (k : Nat) : H108 → Option H108
 | (a0, a1, a2, a3, a4, a5, a6, a7, a8, a9, a10, a11) => some (a0, a1, a2, a3, a4, a5, a6, a7, a8, a9, a10, a11)
theorem B3l (k : Nat) (x : H108) : Abh k x = A00 k x := (Af _ _).trans (by kernel_rfl)
theorem Bsv (k : Nat) : Aa Tryz.prog 94 (Bk2 k) := Ae (A0z k) (l := []) k rfl trivial Ad Tryz.func94 (by kernel_rfl)
def A05 : Sk := ⟨[.lf (.ptr 0 0), .lf (.ptr 1 9)], [[.pv (.slice yt8)], q9], []⟩
def A06 : Sk := ⟨[.lf (.fn 146 [] [(2, 0), (3, 0)])], [[.pv (.slice yt8)], q9, [.ptr 0 0], [.ptr 1 9]], []⟩
def A03 (k : Nat) : Cfg := { mkC [] 54 2 0 with bl := [54, 56] }
def Abi (k : Nat) : H108 → Option H108 := hid (Ac (A03 k) k Tryz.f94 A05 A06)
def Bk3 (k : Nat) : Sig := Ab A05 A06 (Abi k)
noncomputable def A04 (k : Nat) : H108 → Option H108
 | (a0, a1, a2, a3, a4, a5, a6, a7, a8, a9, a10, a11) => some (a0, a1, a2, a3, a4, a5, a6, a7, a8, a9, a10, a11)
theorem B3m (k : Nat) (x : H108) : Abi k x = A04 k x := (Af _ _).trans (by kernel_rfl)
theorem Bsw (k : Nat) : Aa Tryz.prog 94 (Bk3 k) := Ae (A03 k) (l := []) k rfl trivial Ad Tryz.func94 (by kernel_rfl)
def Ah0 : Sk := ⟨[.lf (.ptr 0 0), .lf (.ptr 1 0)], [[.ptr 2 0], [.ptr 3 10], [.pv (.slice yt8)], q9], []⟩
def A5o : Sk := ⟨[.lf (.nil .ifc)], Ah0.boxes, []⟩
def A5m (k : Nat) : Cfg := { mkC [] 60 4 0 with ld := [(3, 1), (4, 0), (5, 9999), (6, 9999), (7, 2), (9, 9999), (10, 9999), (11, 9999)], sr := [(11, 3)] }
def Ve (k : Nat) : H108 → Option H108 := hid (Ac (A5m k) k Tryz.f191 Ah0 A5o)
def Bmc (k : Nat) : Sig := Ab Ah0 A5o (Ve k)
noncomputable def A5n (k : Nat) : H108 → Option H108
 | (a0, a1, a2, a3, a4, a5, a6, a7, a8, a9, a10, a11) => idx zt8 a0 (0 : Int) fun o1 => some (a0, a1, a2, a3, a4, a5, a6, a7, a8, a9, a10, o1.2.2.2.1)
theorem B5h (k : Nat) (x : H108) : Ve k x = A5n k x := (Af _ _).trans (by kernel_rfl)
theorem Bt7 (k : Nat) : Aa Tryz.prog 191 (Bmc k) := Ae (A5m k) (l := []) k rfl trivial Ad Tryz.func191 (by kernel_rfl)
end
noncomputable section
abbrev H111 : Type := (Bool) × (Int) × (Int) × (List (YT8)) × (List Int) × (Int) × (Int) × (Int) × (Int) × (Int) × (Int) × (Int) × (Int) × (Int) × (Int)
def Agv : Sk := ⟨[.lf (.ptr 0 0), .lf (.ptr 1 0)], [[.ptr 2 0], [.ptr 3 0], [.pv (.slice yt8)], q9], []⟩
def Azo : Sk := ⟨[.lf (.erp 88 [(.int .i64), (.int .i64)])], Agv.boxes, []⟩
def B2p (k : Nat) : EnvL := [(193, [sgpnamed k]), (144, [A9 k]), (145, [Ba k])]
def Azm (k : Nat) : Cfg := { mkC (B2p k) 61 4 0 with ef := [(10, (([2], []), ([], [])))], ld := [(8, 1), (9, 0), (12, 9999)], sr := [(12, 3)] }
def Ug (k : Nat) : H108 → Option H111 := hid (Ac (Azm k) k Tryz.f192 Agv Azo)
def Bko (k : Nat) : Sig := Ab Agv Azo (Ug k)
noncomputable def Azn (k : Nat) : H108 → Option H111
 | (a0, a1, a2, a3, a4, a5, a6, a7, a8, a9, a10, a11) => ((cpnamed k) (a0)).bind fun o1 => bif (!o1.1) then (((A7 k) ((50 : Int), o1.2)).bind fun o2 => some (o2.1, o2.2.1, o2.2.2.1, o2.2.2.2, a1, a2, a3, a4, a5, a6, a7, a8, a9, a10, a11)) else (((A4 k) (o1.2)).bind fun o3 => some (true, (0 : Int), (0 : Int), o3.2.2.2.2, o3.2.1, a2, a3, a4, a5, a6, a7, a8, a9, a10, a11))
theorem B2q (k : Nat) (x : H108) : Ug k x = Azn k x := (Af _ _).trans (by kernel_rfl)
theorem Bse (k : Nat) : Aa Tryz.prog 192 (Bko k) := Ae (Azm k) k rfl ⟨⟨Gp k, trivial⟩, ⟨Bb k, trivial⟩, ⟨Bc k, trivial⟩, trivial⟩ Ad Tryz.func192 (by kernel_rfl)
def Ahu : Sk := ⟨[.lf (.ptr 0 0), .lf (.ptr 1 0)], [[.ptr 2 0], [.ptr 3 1], [.pv (.slice yt8)], q9], []⟩
def A4i : Sk := ⟨[.lf (.erp 88 [(.int .i64), (.int .i64)])], Ahu.boxes, []⟩
def B4z (k : Nat) : EnvL := [(144, [A9 k]), (145, [Ba k])]
def A4g (k : Nat) : Cfg := { mkC (B4z k) 66 4 0 with ef := [(15, (([2], []), ([], [])))], ld := [(13, 1), (14, 0), (17, 9999)], sr := [(17, 3)] }
def U8 (k : Nat) : H108 → Option H111 := hid (Ac (A4g k) k Tryz.f146 Ahu A4i)
def Bl1 (k : Nat) : Sig := Ab Ahu A4i (U8 k)
noncomputable def A4h (k : Nat) : H108 → Option H111
 | (a0, a1, a2, a3, a4, a5, a6, a7, a8, a9, a10, a11) => idx zt8 a0 (0 : Int) fun o1 => bif (o1.1 != (2 : Int)) then (((A7 k) ((50 : Int), a0)).bind fun o2 => some (o2.1, o2.2.1, o2.2.2.1, o2.2.2.2, a1, a2, a3, a4, a5, a6, a7, a8, a9, a10, a11)) else (((A4 k) (a0)).bind fun o3 => some (true, (0 : Int), (0 : Int), o3.2.2.2.2, a1, o3.2.2.1, a3, a4, a5, a6, a7, a8, a9, a10, a11))
theorem B40 (k : Nat) (x : H108) : U8 k x = A4h k x := (Af _ _).trans (by kernel_rfl)
theorem Btu (k : Nat) : Aa Tryz.prog 146 (Bl1 k) := Ae (A4g k) k rfl ⟨⟨Bb k, trivial⟩, ⟨Bc k, trivial⟩, trivial⟩ Ad Tryz.func146 (by kernel_rfl)
def Ahv : Sk := ⟨[.lf (.ptr 0 0), .lf (.ptr 1 0)], [[.ptr 2 0], [.ptr 3 2], [.pv (.slice yt8)], q9], []⟩
def A4l : Sk := ⟨[.lf (.erp 88 [(.int .i64), (.int .i64)])], Ahv.boxes, []⟩
def B41 (k : Nat) : EnvL := [(144, [A9 k]), (145, [Ba k])]
def A4j (k : Nat) : Cfg := { mkC (B41 k) 66 4 0 with ef := [(15, (([2], []), ([], [])))], ld := [(13, 1), (14, 0), (17, 9999)], sr := [(17, 3)] }
def U9 (k : Nat) : H108 → Option H111 := hid (Ac (A4j k) k Tryz.f146 Ahv A4l)
def Bl2 (k : Nat) : Sig := Ab Ahv A4l (U9 k)
noncomputable def A4k (k : Nat) : H108 → Option H111
 | (a0, a1, a2, a3, a4, a5, a6, a7, a8, a9, a10, a11) => idx zt8 a0 (0 : Int) fun o1 => bif (o1.1 != (2 : Int)) then (((A7 k) ((50 : Int), a0)).bind fun o2 => some (o2.1, o2.2.1, o2.2.2.1, o2.2.2.2, a1, a2, a3, a4, a5, a6, a7, a8, a9, a10, a11)) else (((A4 k) (a0)).bind fun o3 => some (true, (0 : Int), (0 : Int), o3.2.2.2.2, a1, a2, o3.2.2.1, a4, a5, a6, a7, a8, a9, a10, a11))
theorem B42 (k : Nat) (x : H108) : U9 k x = A4k k x := (Af _ _).trans (by kernel_rfl)
theorem Btv (k : Nat) : Aa Tryz.prog 146 (Bl2 k) := Ae (A4j k) k rfl ⟨⟨Bb k, trivial⟩, ⟨Bc k, trivial⟩, trivial⟩ Ad Tryz.func146 (by kernel_rfl)
def A09 : Sk := ⟨[.lf (.ptr 0 0), .lf (.ptr 1 3)], [[.pv (.slice yt8)], q9], []⟩
def A1a : Sk := ⟨[.lf (.fn 146 [] [(2, 0), (3, 0)])], [[.pv (.slice yt8)], q9, [.ptr 0 0], [.ptr 1 3]], []⟩
def A07 (k : Nat) : Cfg := { mkC [] 54 2 0 with bl := [54, 56] }
def Abj (k : Nat) : H108 → Option H108 := hid (Ac (A07 k) k Tryz.f94 A09 A1a)
def Bk4 (k : Nat) : Sig := Ab A09 A1a (Abj k)
noncomputable def A08 (k : Nat) : H108 → Option H108
 | (a0, a1, a2, a3, a4, a5, a6, a7, a8, a9, a10, a11) => some (a0, a1, a2, a3, a4, a5, a6, a7, a8, a9, a10, a11)
theorem B3n (k : Nat) (x : H108) : Abj k x = A08 k x := (Af _ _).trans (by kernel_rfl)
theorem Bsx (k : Nat) : Aa Tryz.prog 94 (Bk4 k) := Ae (A07 k) (l := []) k rfl trivial Ad Tryz.func94 (by kernel_rfl)
def A1d : Sk := ⟨[.lf (.ptr 0 0), .lf (.ptr 1 4)], [[.pv (.slice yt8)], q9], []⟩
def A1e : Sk := ⟨[.lf (.fn 146 [] [(2, 0), (3, 0)])], [[.pv (.slice yt8)], q9, [.ptr 0 0], [.ptr 1 4]], []⟩
def A1b (k : Nat) : Cfg := { mkC [] 54 2 0 with bl := [54, 56] }
def Abk (k : Nat) : H108 → Option H108 := hid (Ac (A1b k) k Tryz.f94 A1d A1e)
def Bk5 (k : Nat) : Sig := Ab A1d A1e (Abk k)
noncomputable def A1c (k : Nat) : H108 → Option H108
 | (a0, a1, a2, a3, a4, a5, a6, a7, a8, a9, a10, a11) => some (a0, a1, a2, a3, a4, a5, a6, a7, a8, a9, a10, a11)
theorem B3o (k : Nat) (x : H108) : Abk k x = A1c k x := (Af _ _).trans (by kernel_rfl)
theorem Bsy (k : Nat) : Aa Tryz.prog 94 (Bk5 k) := Ae (A1b k) (l := []) k rfl trivial Ad Tryz.func94 (by kernel_rfl)
def Ahw : Sk := ⟨[.lf (.ptr 0 0), .lf (.ptr 1 0)], [[.ptr 2 0], [.ptr 3 3], [.pv (.slice yt8)], q9], []⟩
def A4o : Sk := ⟨[.lf (.erp 88 [(.int .i64), (.int .i64)])], Ahw.boxes, []⟩
def B43 (k : Nat) : EnvL := [(144, [A9 k]), (145, [Ba k])]
def A4m (k : Nat) : Cfg := { mkC (B43 k) 66 4 0 with ef := [(15, (([2], []), ([], [])))], ld := [(13, 1), (14, 0), (17, 9999)], sr := [(17, 3)] }
def Va (k : Nat) : H108 → Option H111 := hid (Ac (A4m k) k Tryz.f146 Ahw A4o)
def Bl3 (k : Nat) : Sig := Ab Ahw A4o (Va k)
noncomputable def A4n (k : Nat) : H108 → Option H111
 | (a0, a1, a2, a3, a4, a5, a6, a7, a8, a9, a10, a11) => idx zt8 a0 (0 : Int) fun o1 => bif (o1.1 != (2 : Int)) then (((A7 k) ((50 : Int), a0)).bind fun o2 => some (o2.1, o2.2.1, o2.2.2.1, o2.2.2.2, a1, a2, a3, a4, a5, a6, a7, a8, a9, a10, a11)) else (((A4 k) (a0)).bind fun o3 => some (true, (0 : Int), (0 : Int), o3.2.2.2.2, a1, a2, a3, o3.2.2.1, a5, a6, a7, a8, a9, a10, a11))
theorem B44 (k : Nat) (x : H108) : Va k x = A4n k x := (Af _ _).trans (by kernel_rfl)
theorem Btw (k : Nat) : Aa Tryz.prog 146 (Bl3 k) := Ae (A4m k) k rfl ⟨⟨Bb k, trivial⟩, ⟨Bc k, trivial⟩, trivial⟩ Ad Tryz.func146 (by kernel_rfl)
def Ahx : Sk := ⟨[.lf (.ptr 0 0), .lf (.ptr 1 0)], [[.ptr 2 0], [.ptr 3 4], [.pv (.slice yt8)], q9], []⟩
def A4r : Sk := ⟨[.lf (.erp 88 [(.int .i64), (.int .i64)])], Ahx.boxes, []⟩
def B45 (k : Nat) : EnvL := [(144, [A9 k]), (145, [Ba k])]
def A4p (k : Nat) : Cfg := { mkC (B45 k) 66 4 0 with ef := [(15, (([2], []), ([], [])))], ld := [(13, 1), (14, 0), (17, 9999)], sr := [(17, 3)] }
def Vb (k : Nat) : H108 → Option H111 := hid (Ac (A4p k) k Tryz.f146 Ahx A4r)
def Bl4 (k : Nat) : Sig := Ab Ahx A4r (Vb k)
noncomputable def A4q (k : Nat) : H108 → Option H111
 | (a0, a1, a2, a3, a4, a5, a6, a7, a8, a9, a10, a11) => idx zt8 a0 (0 : Int) fun o1 => bif (o1.1 != (2 : Int)) then (((A7 k) ((50 : Int), a0)).bind fun o2 => some (o2.1, o2.2.1, o2.2.2.1, o2.2.2.2, a1, a2, a3, a4, a5, a6, a7, a8, a9, a10, a11)) else (((A4 k) (a0)).bind fun o3 => some (true, (0 : Int), (0 : Int), o3.2.2.2.2, a1, a2, a3, a4, o3.2.2.1, a6, a7, a8, a9, a10, a11))
theorem B46 (k : Nat) (x : H108) : Vb k x = A4q k x := (Af _ _).trans (by kernel_rfl)
theorem Btx (k : Nat) : Aa Tryz.prog 146 (Bl4 k) := Ae (A4p k) k rfl ⟨⟨Bb k, trivial⟩, ⟨Bc k, trivial⟩, trivial⟩ Ad Tryz.func146 (by kernel_rfl)
abbrev H112 : Type := (List (YT8)) × (List Int) × (List Int) × (Int) × (Int) × (Int) × (Int) × (Int) × (Int) × (Int) × (Int) × (Int) × (Int)
abbrev H113 : Type := (Bool) × (Int) × (Int) × (List (YT8)) × (List Int) × (List Int) × (Int) × (Int) × (Int) × (Int) × (Int) × (Int) × (Int) × (Int) × (Int) × (Int)
def Agj : Sk := ⟨[.lf (.ptr 0 0), .lf (.sb 1 3)], [[.pv (.slice yt8)], q6, [.ptr 0 0], [.ptr 8 3], [.ptr 0 0], [.pv .str], [.ptr 0 0], [.ptr 8 4], q9], []⟩
def Awn : Sk := ⟨[.lf (.erp 88 [(.int .i64), (.int .i64)])], Agj.boxes, []⟩
def B1l (k : Nat) : EnvL := [(146, [Bl3 k, Bl4 k]), (142, [Fm k])]
def Awl (k : Nat) : Cfg := mkC (B1l k) 68 9 0
def Aaz (k : Nat) : H112 → Option H113 := hid (Ac (Awl k) (k + 32) Tryz.f92 Agj Awn)
def Bj4 (k : Nat) : Sig := Ab Agj Awn (Aaz k)
noncomputable def Awm (k : Nat) : H112 → Option H113
 | (a0, a1, a2, a3, a4, a5, a6, a7, a8, a9, a10, a11, a12) => ((Va k) (a0, a2, a3, a4, a5, a6, a7, a8, a9, a10, a11, a12)).bind fun o1 => bif (!o1.1) then (some (o1.1, o1.2.1, o1.2.2.1, o1.2.2.2.1, a1, o1.2.2.2.2.1, o1.2.2.2.2.2.1, o1.2.2.2.2.2.2.1, o1.2.2.2.2.2.2.2.1, o1.2.2.2.2.2.2.2.2.1, o1.2.2.2.2.2.2.2.2.2.1, o1.2.2.2.2.2.2.2.2.2.2.1, o1.2.2.2.2.2.2.2.2.2.2.2.1, o1.2.2.2.2.2.2.2.2.2.2.2.2.1, o1.2.2.2.2.2.2.2.2.2.2.2.2.2.1, o1.2.2.2.2.2.2.2.2.2.2.2.2.2.2)) else (((Bj k) (a1, o1.2.2.2.1)).bind fun o2 => bif (!o2.1) then (some (o2.1, o2.2.1, o2.2.2.1, o2.2.2.2.2, o2.2.2.2.1, o1.2.2.2.2.1, o1.2.2.2.2.2.1, o1.2.2.2.2.2.2.1, o1.2.2.2.2.2.2.2.1, o1.2.2.2.2.2.2.2.2.1, o1.2.2.2.2.2.2.2.2.2.1, o1.2.2.2.2.2.2.2.2.2.2.1, o1.2.2.2.2.2.2.2.2.2.2.2.1, o1.2.2.2.2.2.2.2.2.2.2.2.2.1, o1.2.2.2.2.2.2.2.2.2.2.2.2.2.1, o1.2.2.2.2.2.2.2.2.2.2.2.2.2.2)) else (((Vb k) (o2.2.2.2.2, o1.2.2.2.2.1, o1.2.2.2.2.2.1, o1.2.2.2.2.2.2.1, o1.2.2.2.2.2.2.2.1, o1.2.2.2.2.2.2.2.2.1, o1.2.2.2.2.2.2.2.2.2.1, o1.2.2.2.2.2.2.2.2.2.2.1, o1.2.2.2.2.2.2.2.2.2.2.2.1, o1.2.2.2.2.2.2.2.2.2.2.2.2.1, o1.2.2.2.2.2.2.2.2.2.2.2.2.2.1, o1.2.2.2.2.2.2.2.2.2.2.2.2.2.2)).bind fun o3 => bif (!o3.1) then (some (o3.1, o3.2.1, o3.2.2.1, o3.2.2.2.1, o2.2.2.2.1, o3.2.2.2.2.1, o3.2.2.2.2.2.1, o3.2.2.2.2.2.2.1, o3.2.2.2.2.2.2.2.1, o3.2.2.2.2.2.2.2.2.1, o3.2.2.2.2.2.2.2.2.2.1, o3.2.2.2.2.2.2.2.2.2.2.1, o3.2.2.2.2.2.2.2.2.2.2.2.1, o3.2.2.2.2.2.2.2.2.2.2.2.2.1, o3.2.2.2.2.2.2.2.2.2.2.2.2.2.1, o3.2.2.2.2.2.2.2.2.2.2.2.2.2.2)) else (some (true, (0 : Int), (0 : Int), o3.2.2.2.1, o2.2.2.2.1, o3.2.2.2.2.1, o3.2.2.2.2.2.1, o3.2.2.2.2.2.2.1, o3.2.2.2.2.2.2.2.1, o3.2.2.2.2.2.2.2.2.1, o3.2.2.2.2.2.2.2.2.2.1, o3.2.2.2.2.2.2.2.2.2.2.1, o3.2.2.2.2.2.2.2.2.2.2.2.1, o3.2.2.2.2.2.2.2.2.2.2.2.2.1, o3.2.2.2.2.2.2.2.2.2.2.2.2.2.1, o3.2.2.2.2.2.2.2.2.2.2.2.2.2.2))))
theorem B1m (k : Nat) (x : H112) : Aaz k x = Awm k x := (Af _ _).trans (by kernel_rfl)
theorem Brm (k : Nat) : Aa Tryz.prog 92 (Bj4 k) := Ae (Awl k) (k + 32) rfl ⟨⟨Btw k, Btx k, trivial⟩, ⟨Fv k, trivial⟩, trivial⟩ Ad Tryz.func92 (by kernel_rfl)
def Agp : Sk := ⟨[.lf (.ptr 0 0), .lf (.ptr 1 0)], [[.ptr 2 0], [.ptr 3 3], [.pv (.slice yt8)], q9], []⟩
def Axl : Sk := ⟨[.lf (.erp 88 [(.int .i64), (.int .i64)])], Agp.boxes, []⟩
def B1y (k : Nat) : EnvL := [(94, [Bk4 k, Bk5 k]), (93, [Fl k]), (92, [Bj4 k])]
def Axj (k : Nat) : Cfg := { mkC (B1y k) 84 4 0 with ef := [(8, (([2, 3], []), ([56, 74], []))), (10, (([2], []), ([58, 76], []))), (15, (([2, 3], []), ([63, 81], []))), (17, (([2, 3, 56, 58, 63, 64, 74, 76, 81], []), ([], [])))], ld := [(3, 0), (4, 0), (5, 1), (6, 9999), (7, 9999), (9, 0), (11, 0), (12, 1), (13, 9999), (14, 9999)], rb := [16] }
def Ud (k : Nat) : H108 → Option H111 := hid (Ac (Axj k) k Tryz.f147 Agp Axl)
def Bka (k : Nat) : Sig := Ab Agp Axl (Ud k)
noncomputable def Axk (k : Nat) : H108 → Option H111
 | (a0, a1, a2, a3, a4, a5, a6, a7, a8, a9, a10, a11) => ((Abj k) (a0, a1, a2, a3, a4, a5, a6, a7, a8, a9, a10, a11)).bind fun o1 => ((Bp k) (([47] : List Int), o1.1)).bind fun o2 => ((Abk k) (o2.1, o1.2.1, o1.2.2.1, o1.2.2.2.1, o1.2.2.2.2.1, o1.2.2.2.2.2.1, o1.2.2.2.2.2.2.1, o1.2.2.2.2.2.2.2.1, o1.2.2.2.2.2.2.2.2.1, o1.2.2.2.2.2.2.2.2.2.1, o1.2.2.2.2.2.2.2.2.2.2.1, o1.2.2.2.2.2.2.2.2.2.2.2)).bind fun o3 => ((Aaz k) (o3.1, o2.2, o3.2.1, o3.2.2.1, o3.2.2.2.1, o3.2.2.2.2.1, o3.2.2.2.2.2.1, o3.2.2.2.2.2.2.1, o3.2.2.2.2.2.2.2.1, o3.2.2.2.2.2.2.2.2.1, o3.2.2.2.2.2.2.2.2.2.1, o3.2.2.2.2.2.2.2.2.2.2.1, o3.2.2.2.2.2.2.2.2.2.2.2)).bind fun o4 => some (o4.1, o4.2.1, o4.2.2.1, o4.2.2.2.1, o4.2.2.2.2.2.1, o4.2.2.2.2.2.2.1, o4.2.2.2.2.2.2.2.1, o4.2.2.2.2.2.2.2.2.1, o4.2.2.2.2.2.2.2.2.2.1, o4.2.2.2.2.2.2.2.2.2.2.1, o4.2.2.2.2.2.2.2.2.2.2.2.1, o4.2.2.2.2.2.2.2.2.2.2.2.2.1, o4.2.2.2.2.2.2.2.2.2.2.2.2.2.1, o4.2.2.2.2.2.2.2.2.2.2.2.2.2.2.1, o4.2.2.2.2.2.2.2.2.2.2.2.2.2.2.2)
theorem B1z (k : Nat) (x : H108) : Ud k x = Axk k x := (Af _ _).trans (by kernel_rfl)
theorem Brv (k : Nat) : Aa Tryz.prog 147 (Bka k) := Ae (Axj k) k rfl ⟨⟨Bsx k, Bsy k, trivial⟩, ⟨Fu k, trivial⟩, ⟨Brm k, trivial⟩, trivial⟩ Ad Tryz.func147 (by kernel_rfl)
def Ahy : Sk := ⟨[.lf (.ptr 0 0), .lf (.ptr 1 0)], [[.ptr 2 0], [.ptr 3 5], [.pv (.slice yt8)], q9], []⟩
def A4u : Sk := ⟨[.lf (.erp 88 [(.int .i64), (.int .i64)])], Ahy.boxes, []⟩
def B47 (k : Nat) : EnvL := [(144, [A9 k]), (145, [Ba k])]
def A4s (k : Nat) : Cfg := { mkC (B47 k) 66 4 0 with ef := [(15, (([2], []), ([], [])))], ld := [(13, 1), (14, 0), (17, 9999)], sr := [(17, 3)] }
def Vc (k : Nat) : H108 → Option H111 := hid (Ac (A4s k) k Tryz.f146 Ahy A4u)
def Bl5 (k : Nat) : Sig := Ab Ahy A4u (Vc k)
noncomputable def A4t (k : Nat) : H108 → Option H111
 | (a0, a1, a2, a3, a4, a5, a6, a7, a8, a9, a10, a11) => idx zt8 a0 (0 : Int) fun o1 => bif (o1.1 != (2 : Int)) then (((A7 k) ((50 : Int), a0)).bind fun o2 => some (o2.1, o2.2.1, o2.2.2.1, o2.2.2.2, a1, a2, a3, a4, a5, a6, a7, a8, a9, a10, a11)) else (((A4 k) (a0)).bind fun o3 => some (true, (0 : Int), (0 : Int), o3.2.2.2.2, a1, a2, a3, a4, a5, o3.2.2.1, a7, a8, a9, a10, a11))
theorem B48 (k : Nat) (x : H108) : Vc k x = A4t k x := (Af _ _).trans (by kernel_rfl)
theorem Bty (k : Nat) : Aa Tryz.prog 146 (Bl5 k) := Ae (A4s k) k rfl ⟨⟨Bb k, trivial⟩, ⟨Bc k, trivial⟩, trivial⟩ Ad Tryz.func146 (by kernel_rfl)
def Agt : Sk := ⟨[.lf (.ptr 0 0), .lf (.ptr 1 0), .lf (.ptr 2 0)], [[.ptr 3 0], [.pv .str], [.ptr 4 0], [.pv (.slice yt8)], [.pv .bool]], []⟩
def Aye : Sk := ⟨[.lf (.nil .ifc)], Agt.boxes, []⟩
def B2b (k : Nat) : EnvL := [(143, [Ep k]), (145, [Ba k])]
def Ayb (k : Nat) : Cfg := mkC (B2b k) 59 5 0
def Ps (k : Nat) : H109 → Option H109 := hid (Ac (Ayb k) k Tryz.f161 Agt Aye)
def Aob (k : Nat) : Sig := Ab Agt Aye (Ps k)
noncomputable def Ayc (k : Nat) : H109 → Option H109
 | (a0, a1, a2) => ((Dh k) (a0, a1)).bind fun o1 => bif o1.1 then (((A4 k) (o1.2)).bind fun o2 => some (a0, o2.2.2.2.2, true)) else (some (a0, o1.2, a2))
theorem B2c (k : Nat) (x : H109) : Ps k x = Ayc k x := (Af _ _).trans (by kernel_rfl)
theorem Aqk (k : Nat) : Aa Tryz.prog 161 (Aob k) := Ae (Ayb k) k rfl ⟨⟨Et k, trivial⟩, ⟨Bc k, trivial⟩, trivial⟩ Ad Tryz.func161 (by kernel_rfl)
def Ahf : Sk := ⟨[.lf (.ptr 0 0), .lf (.ptr 1 0)], [[.ptr 2 0], [.ptr 3 6], [.pv (.slice yt8)], q9], []⟩
def A29 : Sk := ⟨[.lf (.erp 88 [(.int .i64), (.int .i64)])], Ahf.boxes, []⟩
def B35 (k : Nat) : EnvL := [(144, [A9 k]), (145, [Ba k])]
def A27 (k : Nat) : Cfg := { mkC (B35 k) 66 4 0 with ef := [(15, (([2], []), ([], [])))], ld := [(13, 1), (14, 0), (17, 9999)], sr := [(17, 3)] }
def Uu (k : Nat) : H108 → Option H111 := hid (Ac (A27 k) k Tryz.f146 Ahf A29)
def Bln (k : Nat) : Sig := Ab Ahf A29 (Uu k)
noncomputable def A28 (k : Nat) : H108 → Option H111
 | (a0, a1, a2, a3, a4, a5, a6, a7, a8, a9, a10, a11) => idx zt8 a0 (0 : Int) fun o1 => bif (o1.1 != (2 : Int)) then (((A7 k) ((50 : Int), a0)).bind fun o2 => some (o2.1, o2.2.1, o2.2.2.1, o2.2.2.2, a1, a2, a3, a4, a5, a6, a7, a8, a9, a10, a11)) else (((A4 k) (a0)).bind fun o3 => some (true, (0 : Int), (0 : Int), o3.2.2.2.2, a1, a2, a3, a4, a5, a6, o3.2.2.1, a8, a9, a10, a11))
theorem B36 (k : Nat) (x : H108) : Uu k x = A28 k x := (Af _ _).trans (by kernel_rfl)
theorem Btf (k : Nat) : Aa Tryz.prog 146 (Bln k) := Ae (A27 k) k rfl ⟨⟨Bb k, trivial⟩, ⟨Bc k, trivial⟩, trivial⟩ Ad Tryz.func146 (by kernel_rfl)
def Ahg : Sk := ⟨[.lf (.ptr 0 0), .lf (.ptr 1 0)], [[.ptr 2 0], [.ptr 3 7], [.pv (.slice yt8)], q9], []⟩
def A3c : Sk := ⟨[.lf (.erp 88 [(.int .i64), (.int .i64)])], Ahg.boxes, []⟩
def B37 (k : Nat) : EnvL := [(144, [A9 k]), (145, [Ba k])]
def A3a (k : Nat) : Cfg := { mkC (B37 k) 66 4 0 with ef := [(15, (([2], []), ([], [])))], ld := [(13, 1), (14, 0), (17, 9999)], sr := [(17, 3)] }
def Uv (k : Nat) : H108 → Option H111 := hid (Ac (A3a k) k Tryz.f146 Ahg A3c)
def Blo (k : Nat) : Sig := Ab Ahg A3c (Uv k)
noncomputable def A3b (k : Nat) : H108 → Option H111
 | (a0, a1, a2, a3, a4, a5, a6, a7, a8, a9, a10, a11) => idx zt8 a0 (0 : Int) fun o1 => bif (o1.1 != (2 : Int)) then (((A7 k) ((50 : Int), a0)).bind fun o2 => some (o2.1, o2.2.1, o2.2.2.1, o2.2.2.2, a1, a2, a3, a4, a5, a6, a7, a8, a9, a10, a11)) else (((A4 k) (a0)).bind fun o3 => some (true, (0 : Int), (0 : Int), o3.2.2.2.2, a1, a2, a3, a4, a5, a6, a7, o3.2.2.1, a9, a10, a11))
theorem B38 (k : Nat) (x : H108) : Uv k x = A3b k x := (Af _ _).trans (by kernel_rfl)
theorem Btg (k : Nat) : Aa Tryz.prog 146 (Blo k) := Ae (A3a k) k rfl ⟨⟨Bb k, trivial⟩, ⟨Bc k, trivial⟩, trivial⟩ Ad Tryz.func146 (by kernel_rfl)
def Ahh : Sk := ⟨[.lf (.ptr 0 0), .lf (.ptr 1 0)], [[.ptr 2 0], [.ptr 3 8], [.pv (.slice yt8)], q9], []⟩
def A3f : Sk := ⟨[.lf (.erp 88 [(.int .i64), (.int .i64)])], Ahh.boxes, []⟩
def B39 (k : Nat) : EnvL := [(144, [A9 k]), (145, [Ba k])]
def A3d (k : Nat) : Cfg := { mkC (B39 k) 66 4 0 with ef := [(15, (([2], []), ([], [])))], ld := [(13, 1), (14, 0), (17, 9999)], sr := [(17, 3)] }
def Uw (k : Nat) : H108 → Option H111 := hid (Ac (A3d k) k Tryz.f146 Ahh A3f)
def Blp (k : Nat) : Sig := Ab Ahh A3f (Uw k)
noncomputable def A3e (k : Nat) : H108 → Option H111
 | (a0, a1, a2, a3, a4, a5, a6, a7, a8, a9, a10, a11) => idx zt8 a0 (0 : Int) fun o1 => bif (o1.1 != (2 : Int)) then (((A7 k) ((50 : Int), a0)).bind fun o2 => some (o2.1, o2.2.1, o2.2.2.1, o2.2.2.2, a1, a2, a3, a4, a5, a6, a7, a8, a9, a10, a11)) else (((A4 k) (a0)).bind fun o3 => some (true, (0 : Int), (0 : Int), o3.2.2.2.2, a1, a2, a3, a4, a5, a6, a7, a8, o3.2.2.1, a10, a11))
theorem B4a (k : Nat) (x : H108) : Uw k x = A3e k x := (Af _ _).trans (by kernel_rfl)
theorem Bth (k : Nat) : Aa Tryz.prog 146 (Blp k) := Ae (A3d k) k rfl ⟨⟨Bb k, trivial⟩, ⟨Bc k, trivial⟩, trivial⟩ Ad Tryz.func146 (by kernel_rfl)
def Ahi : Sk := ⟨[.lf (.ptr 0 0), .lf (.ptr 1 0)], [[.ptr 2 0], [.ptr 3 9], [.pv (.slice yt8)], q9], []⟩
def A3i : Sk := ⟨[.lf (.erp 88 [(.int .i64), (.int .i64)])], Ahi.boxes, []⟩
def B4b (k : Nat) : EnvL := [(144, [A9 k]), (145, [Ba k])]
def A3g (k : Nat) : Cfg := { mkC (B4b k) 66 4 0 with ef := [(15, (([2], []), ([], [])))], ld := [(13, 1), (14, 0), (17, 9999)], sr := [(17, 3)] }
def Ux (k : Nat) : H108 → Option H111 := hid (Ac (A3g k) k Tryz.f146 Ahi A3i)
def Blq (k : Nat) : Sig := Ab Ahi A3i (Ux k)
noncomputable def A3h (k : Nat) : H108 → Option H111
 | (a0, a1, a2, a3, a4, a5, a6, a7, a8, a9, a10, a11) => idx zt8 a0 (0 : Int) fun o1 => bif (o1.1 != (2 : Int)) then (((A7 k) ((50 : Int), a0)).bind fun o2 => some (o2.1, o2.2.1, o2.2.2.1, o2.2.2.2, a1, a2, a3, a4, a5, a6, a7, a8, a9, a10, a11)) else (((A4 k) (a0)).bind fun o3 => some (true, (0 : Int), (0 : Int), o3.2.2.2.2, a1, a2, a3, a4, a5, a6, a7, a8, a9, o3.2.2.1, a11))
theorem B4c (k : Nat) (x : H108) : Ux k x = A3h k x := (Af _ _).trans (by kernel_rfl)
theorem Bti (k : Nat) : Aa Tryz.prog 146 (Blq k) := Ae (A3g k) k rfl ⟨⟨Bb k, trivial⟩, ⟨Bc k, trivial⟩, trivial⟩ Ad Tryz.func146 (by kernel_rfl)
abbrev H114 : Type := (List (YT8)) × (List Int) × (List Int) × (List Int) × (List Int) × (List Int) × (List Int) × (List Int) × (List Int) × (List Int) × (List Int) × (List Int) × (Int) × (Int) × (Int) × (Int) × (Int) × (Int) × (Int) × (Int) × (Int) × (Int) × (Bool)
abbrev H115 : Type := (Bool) × (Int) × (Int) × (List (YT8)) × (List Int) × (List Int) × (List Int) × (List Int) × (List Int) × (List Int) × (List Int) × (List Int) × (List Int) × (List Int) × (List Int) × (Int) × (Int) × (Int) × (Int) × (Int) × (Int) × (Int) × (Int) × (Int) × (Int) × (Bool)
def Agi : Sk := ⟨[.lf (.ptr 0 0), .lf (.sb 1 20)], [[.pv (.slice yt8)], q10, [.ptr 0 0], [.ptr 43 10], [.ptr 0 0], [.ptr 43 0], [.ptr 0 0], [.pv .str], [.ptr 0 0], [.ptr 43 1], [.ptr 0 0], [.pv .str], [.ptr 0 0], [.ptr 43 2], [.ptr 0 0], [.pv .str], [.ptr 0 0], [.ptr 43 3], [.ptr 0 0], [.pv .str], [.ptr 0 0], [.ptr 43 5], [.ptr 0 0], [.pv .str], [.ptr 0 0], [.pv .str], [.ptr 44 0], [.ptr 0 0], [.ptr 43 6], [.ptr 0 0], [.pv .str], [.ptr 0 0], [.ptr 43 7], [.ptr 0 0], [.pv .str], [.ptr 0 0], [.ptr 43 8], [.ptr 0 0], [.pv .str], [.ptr 0 0], [.ptr 43 9], [.ptr 0 0], [.pv .str], q9, [.pv .bool]], []⟩
def Awk : Sk := ⟨[.lf (.erp 88 [(.int .i64), (.int .i64)])], Agi.boxes, []⟩
def B1j (k : Nat) : EnvL := [(191, [Bmc k]), (192, [Bko k]), (142, [Fm k]), (146, [Bl1 k, Bl2 k, Bl5 k, Bln k, Blo k, Blp k, Blq k]), (147, [Bka k]), (161, [Aob k])]
def Awi (k : Nat) : Cfg := mkC (B1j k) 68 45 0
def Aay (k : Nat) : H114 → Option H115 := hid (Ac (Awi k) (k + 32) Tryz.f92 Agi Awk)
def Bj3 (k : Nat) : Sig := Ab Agi Awk (Aay k)
noncomputable def Awj (k : Nat) : H114 → Option H115
 | (a0, a1, a2, a3, a4, a5, a6, a7, a8, a9, a10, a11, a12, a13, a14, a15, a16, a17, a18, a19, a20, a21, a22) => ((Ve k) (a0, a11, a12, a13, a14, a15, a16, a17, a18, a19, a20, a21)).bind fun o1 => ((Ug k) (o1.1, o1.2.1, o1.2.2.1, o1.2.2.2.1, o1.2.2.2.2.1, o1.2.2.2.2.2.1, o1.2.2.2.2.2.2.1, o1.2.2.2.2.2.2.2.1, o1.2.2.2.2.2.2.2.2.1, o1.2.2.2.2.2.2.2.2.2.1, o1.2.2.2.2.2.2.2.2.2.2.1, o1.2.2.2.2.2.2.2.2.2.2.2)).bind fun o2 => bif (!o2.1) then (some (o2.1, o2.2.1, o2.2.2.1, o2.2.2.2.1, a1, a2, a3, a4, a5, a6, a7, a8, a9, a10, o2.2.2.2.2.1, o2.2.2.2.2.2.1, o2.2.2.2.2.2.2.1, o2.2.2.2.2.2.2.2.1, o2.2.2.2.2.2.2.2.2.1, o2.2.2.2.2.2.2.2.2.2.1, o2.2.2.2.2.2.2.2.2.2.2.1, o2.2.2.2.2.2.2.2.2.2.2.2.1, o2.2.2.2.2.2.2.2.2.2.2.2.2.1, o2.2.2.2.2.2.2.2.2.2.2.2.2.2.1, o2.2.2.2.2.2.2.2.2.2.2.2.2.2.2, a22)) else (((Bj k) (a1, o2.2.2.2.1)).bind fun o3 => bif (!o3.1) then (some (o3.1, o3.2.1, o3.2.2.1, o3.2.2.2.2, o3.2.2.2.1, a2, a3, a4, a5, a6, a7, a8, a9, a10, o2.2.2.2.2.1, o2.2.2.2.2.2.1, o2.2.2.2.2.2.2.1, o2.2.2.2.2.2.2.2.1, o2.2.2.2.2.2.2.2.2.1, o2.2.2.2.2.2.2.2.2.2.1, o2.2.2.2.2.2.2.2.2.2.2.1, o2.2.2.2.2.2.2.2.2.2.2.2.1, o2.2.2.2.2.2.2.2.2.2.2.2.2.1, o2.2.2.2.2.2.2.2.2.2.2.2.2.2.1, o2.2.2.2.2.2.2.2.2.2.2.2.2.2.2, a22)) else (((U8 k) (o3.2.2.2.2, o2.2.2.2.2.1, o2.2.2.2.2.2.1, o2.2.2.2.2.2.2.1, o2.2.2.2.2.2.2.2.1, o2.2.2.2.2.2.2.2.2.1, o2.2.2.2.2.2.2.2.2.2.1, o2.2.2.2.2.2.2.2.2.2.2.1, o2.2.2.2.2.2.2.2.2.2.2.2.1, o2.2.2.2.2.2.2.2.2.2.2.2.2.1, o2.2.2.2.2.2.2.2.2.2.2.2.2.2.1, o2.2.2.2.2.2.2.2.2.2.2.2.2.2.2)).bind fun o4 => bif (!o4.1) then (some (o4.1, o4.2.1, o4.2.2.1, o4.2.2.2.1, o3.2.2.2.1, a2, a3, a4, a5, a6, a7, a8, a9, a10, o4.2.2.2.2.1, o4.2.2.2.2.2.1, o4.2.2.2.2.2.2.1, o4.2.2.2.2.2.2.2.1, o4.2.2.2.2.2.2.2.2.1, o4.2.2.2.2.2.2.2.2.2.1, o4.2.2.2.2.2.2.2.2.2.2.1, o4.2.2.2.2.2.2.2.2.2.2.2.1, o4.2.2.2.2.2.2.2.2.2.2.2.2.1, o4.2.2.2.2.2.2.2.2.2.2.2.2.2.1, o4.2.2.2.2.2.2.2.2.2.2.2.2.2.2, a22)) else (((Bj k) (a2, o4.2.2.2.1)).bind fun o5 => bif (!o5.1) then (some (o5.1, o5.2.1, o5.2.2.1, o5.2.2.2.2, o3.2.2.2.1, o5.2.2.2.1, a3, a4, a5, a6, a7, a8, a9, a10, o4.2.2.2.2.1, o4.2.2.2.2.2.1, o4.2.2.2.2.2.2.1, o4.2.2.2.2.2.2.2.1, o4.2.2.2.2.2.2.2.2.1, o4.2.2.2.2.2.2.2.2.2.1, o4.2.2.2.2.2.2.2.2.2.2.1, o4.2.2.2.2.2.2.2.2.2.2.2.1, o4.2.2.2.2.2.2.2.2.2.2.2.2.1, o4.2.2.2.2.2.2.2.2.2.2.2.2.2.1, o4.2.2.2.2.2.2.2.2.2.2.2.2.2.2, a22)) else (((U9 k) (o5.2.2.2.2, o4.2.2.2.2.1, o4.2.2.2.2.2.1, o4.2.2.2.2.2.2.1, o4.2.2.2.2.2.2.2.1, o4.2.2.2.2.2.2.2.2.1, o4.2.2.2.2.2.2.2.2.2.1, o4.2.2.2.2.2.2.2.2.2.2.1, o4.2.2.2.2.2.2.2.2.2.2.2.1, o4.2.2.2.2.2.2.2.2.2.2.2.2.1, o4.2.2.2.2.2.2.2.2.2.2.2.2.2.1, o4.2.2.2.2.2.2.2.2.2.2.2.2.2.2)).bind fun o6 => bif (!o6.1) then (some (o6.1, o6.2.1, o6.2.2.1, o6.2.2.2.1, o3.2.2.2.1, o5.2.2.2.1, a3, a4, a5, a6, a7, a8, a9, a10, o6.2.2.2.2.1, o6.2.2.2.2.2.1, o6.2.2.2.2.2.2.1, o6.2.2.2.2.2.2.2.1, o6.2.2.2.2.2.2.2.2.1, o6.2.2.2.2.2.2.2.2.2.1, o6.2.2.2.2.2.2.2.2.2.2.1, o6.2.2.2.2.2.2.2.2.2.2.2.1, o6.2.2.2.2.2.2.2.2.2.2.2.2.1, o6.2.2.2.2.2.2.2.2.2.2.2.2.2.1, o6.2.2.2.2.2.2.2.2.2.2.2.2.2.2, a22)) else (((Bj k) (a3, o6.2.2.2.1)).bind fun o7 => bif (!o7.1) then (some (o7.1, o7.2.1, o7.2.2.1, o7.2.2.2.2, o3.2.2.2.1, o5.2.2.2.1, o7.2.2.2.1, a4, a5, a6, a7, a8, a9, a10, o6.2.2.2.2.1, o6.2.2.2.2.2.1, o6.2.2.2.2.2.2.1, o6.2.2.2.2.2.2.2.1, o6.2.2.2.2.2.2.2.2.1, o6.2.2.2.2.2.2.2.2.2.1, o6.2.2.2.2.2.2.2.2.2.2.1, o6.2.2.2.2.2.2.2.2.2.2.2.1, o6.2.2.2.2.2.2.2.2.2.2.2.2.1, o6.2.2.2.2.2.2.2.2.2.2.2.2.2.1, o6.2.2.2.2.2.2.2.2.2.2.2.2.2.2, a22)) else (((Ud k) (o7.2.2.2.2, o6.2.2.2.2.1, o6.2.2.2.2.2.1, o6.2.2.2.2.2.2.1, o6.2.2.2.2.2.2.2.1, o6.2.2.2.2.2.2.2.2.1, o6.2.2.2.2.2.2.2.2.2.1, o6.2.2.2.2.2.2.2.2.2.2.1, o6.2.2.2.2.2.2.2.2.2.2.2.1, o6.2.2.2.2.2.2.2.2.2.2.2.2.1, o6.2.2.2.2.2.2.2.2.2.2.2.2.2.1, o6.2.2.2.2.2.2.2.2.2.2.2.2.2.2)).bind fun o8 => bif (!o8.1) then (some (o8.1, o8.2.1, o8.2.2.1, o8.2.2.2.1, o3.2.2.2.1, o5.2.2.2.1, o7.2.2.2.1, a4, a5, a6, a7, a8, a9, a10, o8.2.2.2.2.1, o8.2.2.2.2.2.1, o8.2.2.2.2.2.2.1, o8.2.2.2.2.2.2.2.1, o8.2.2.2.2.2.2.2.2.1, o8.2.2.2.2.2.2.2.2.2.1, o8.2.2.2.2.2.2.2.2.2.2.1, o8.2.2.2.2.2.2.2.2.2.2.2.1, o8.2.2.2.2.2.2.2.2.2.2.2.2.1, o8.2.2.2.2.2.2.2.2.2.2.2.2.2.1, o8.2.2.2.2.2.2.2.2.2.2.2.2.2.2, a22)) else (((Bj k) (a4, o8.2.2.2.1)).bind fun o9 => bif (!o9.1) then (some (o9.1, o9.2.1, o9.2.2.1, o9.2.2.2.2, o3.2.2.2.1, o5.2.2.2.1, o7.2.2.2.1, o9.2.2.2.1, a5, a6, a7, a8, a9, a10, o8.2.2.2.2.1, o8.2.2.2.2.2.1, o8.2.2.2.2.2.2.1, o8.2.2.2.2.2.2.2.1, o8.2.2.2.2.2.2.2.2.1, o8.2.2.2.2.2.2.2.2.2.1, o8.2.2.2.2.2.2.2.2.2.2.1, o8.2.2.2.2.2.2.2.2.2.2.2.1, o8.2.2.2.2.2.2.2.2.2.2.2.2.1, o8.2.2.2.2.2.2.2.2.2.2.2.2.2.1, o8.2.2.2.2.2.2.2.2.2.2.2.2.2.2, a22)) else (((Vc k) (o9.2.2.2.2, o8.2.2.2.2.1, o8.2.2.2.2.2.1, o8.2.2.2.2.2.2.1, o8.2.2.2.2.2.2.2.1, o8.2.2.2.2.2.2.2.2.1, o8.2.2.2.2.2.2.2.2.2.1, o8.2.2.2.2.2.2.2.2.2.2.1, o8.2.2.2.2.2.2.2.2.2.2.2.1, o8.2.2.2.2.2.2.2.2.2.2.2.2.1, o8.2.2.2.2.2.2.2.2.2.2.2.2.2.1, o8.2.2.2.2.2.2.2.2.2.2.2.2.2.2)).bind fun o10 => bif (!o10.1) then (some (o10.1, o10.2.1, o10.2.2.1, o10.2.2.2.1, o3.2.2.2.1, o5.2.2.2.1, o7.2.2.2.1, o9.2.2.2.1, a5, a6, a7, a8, a9, a10, o10.2.2.2.2.1, o10.2.2.2.2.2.1, o10.2.2.2.2.2.2.1, o10.2.2.2.2.2.2.2.1, o10.2.2.2.2.2.2.2.2.1, o10.2.2.2.2.2.2.2.2.2.1, o10.2.2.2.2.2.2.2.2.2.2.1, o10.2.2.2.2.2.2.2.2.2.2.2.1, o10.2.2.2.2.2.2.2.2.2.2.2.2.1, o10.2.2.2.2.2.2.2.2.2.2.2.2.2.1, o10.2.2.2.2.2.2.2.2.2.2.2.2.2.2, a22)) else (((Bj k) (a5, o10.2.2.2.1)).bind fun o11 => bif (!o11.1) then (some (o11.1, o11.2.1, o11.2.2.1, o11.2.2.2.2, o3.2.2.2.1, o5.2.2.2.1, o7.2.2.2.1, o9.2.2.2.1, o11.2.2.2.1, a6, a7, a8, a9, a10, o10.2.2.2.2.1, o10.2.2.2.2.2.1, o10.2.2.2.2.2.2.1, o10.2.2.2.2.2.2.2.1, o10.2.2.2.2.2.2.2.2.1, o10.2.2.2.2.2.2.2.2.2.1, o10.2.2.2.2.2.2.2.2.2.2.1, o10.2.2.2.2.2.2.2.2.2.2.2.1, o10.2.2.2.2.2.2.2.2.2.2.2.2.1, o10.2.2.2.2.2.2.2.2.2.2.2.2.2.1, o10.2.2.2.2.2.2.2.2.2.2.2.2.2.2, a22)) else (((Ps k) (a6, o11.2.2.2.2, a22)).bind fun o12 => ((Uu k) (o12.2.1, o10.2.2.2.2.1, o10.2.2.2.2.2.1, o10.2.2.2.2.2.2.1, o10.2.2.2.2.2.2.2.1, o10.2.2.2.2.2.2.2.2.1, o10.2.2.2.2.2.2.2.2.2.1, o10.2.2.2.2.2.2.2.2.2.2.1, o10.2.2.2.2.2.2.2.2.2.2.2.1, o10.2.2.2.2.2.2.2.2.2.2.2.2.1, o10.2.2.2.2.2.2.2.2.2.2.2.2.2.1, o10.2.2.2.2.2.2.2.2.2.2.2.2.2.2)).bind fun o13 => bif (!o13.1) then (some (o13.1, o13.2.1, o13.2.2.1, o13.2.2.2.1, o3.2.2.2.1, o5.2.2.2.1, o7.2.2.2.1, o9.2.2.2.1, o11.2.2.2.1, o12.1, a7, a8, a9, a10, o13.2.2.2.2.1, o13.2.2.2.2.2.1, o13.2.2.2.2.2.2.1, o13.2.2.2.2.2.2.2.1, o13.2.2.2.2.2.2.2.2.1, o13.2.2.2.2.2.2.2.2.2.1, o13.2.2.2.2.2.2.2.2.2.2.1, o13.2.2.2.2.2.2.2.2.2.2.2.1, o13.2.2.2.2.2.2.2.2.2.2.2.2.1, o13.2.2.2.2.2.2.2.2.2.2.2.2.2.1, o13.2.2.2.2.2.2.2.2.2.2.2.2.2.2, o12.2.2)) else (((Bj k) (a7, o13.2.2.2.1)).bind fun o14 => bif (!o14.1) then (some (o14.1, o14.2.1, o14.2.2.1, o14.2.2.2.2, o3.2.2.2.1, o5.2.2.2.1, o7.2.2.2.1, o9.2.2.2.1, o11.2.2.2.1, o12.1, o14.2.2.2.1, a8, a9, a10, o13.2.2.2.2.1, o13.2.2.2.2.2.1, o13.2.2.2.2.2.2.1, o13.2.2.2.2.2.2.2.1, o13.2.2.2.2.2.2.2.2.1, o13.2.2.2.2.2.2.2.2.2.1, o13.2.2.2.2.2.2.2.2.2.2.1, o13.2.2.2.2.2.2.2.2.2.2.2.1, o13.2.2.2.2.2.2.2.2.2.2.2.2.1, o13.2.2.2.2.2.2.2.2.2.2.2.2.2.1, o13.2.2.2.2.2.2.2.2.2.2.2.2.2.2, o12.2.2)) else (((Uv k) (o14.2.2.2.2, o13.2.2.2.2.1, o13.2.2.2.2.2.1, o13.2.2.2.2.2.2.1, o13.2.2.2.2.2.2.2.1, o13.2.2.2.2.2.2.2.2.1, o13.2.2.2.2.2.2.2.2.2.1, o13.2.2.2.2.2.2.2.2.2.2.1, o13.2.2.2.2.2.2.2.2.2.2.2.1, o13.2.2.2.2.2.2.2.2.2.2.2.2.1, o13.2.2.2.2.2.2.2.2.2.2.2.2.2.1, o13.2.2.2.2.2.2.2.2.2.2.2.2.2.2)).bind fun o15 => bif (!o15.1) then (some (o15.1, o15.2.1, o15.2.2.1, o15.2.2.2.1, o3.2.2.2.1, o5.2.2.2.1, o7.2.2.2.1, o9.2.2.2.1, o11.2.2.2.1, o12.1, o14.2.2.2.1, a8, a9, a10, o15.2.2.2.2.1, o15.2.2.2.2.2.1, o15.2.2.2.2.2.2.1, o15.2.2.2.2.2.2.2.1, o15.2.2.2.2.2.2.2.2.1, o15.2.2.2.2.2.2.2.2.2.1, o15.2.2.2.2.2.2.2.2.2.2.1, o15.2.2.2.2.2.2.2.2.2.2.2.1, o15.2.2.2.2.2.2.2.2.2.2.2.2.1, o15.2.2.2.2.2.2.2.2.2.2.2.2.2.1, o15.2.2.2.2.2.2.2.2.2.2.2.2.2.2, o12.2.2)) else (((Bj k) (a8, o15.2.2.2.1)).bind fun o16 => bif (!o16.1) then (some (o16.1, o16.2.1, o16.2.2.1, o16.2.2.2.2, o3.2.2.2.1, o5.2.2.2.1, o7.2.2.2.1, o9.2.2.2.1, o11.2.2.2.1, o12.1, o14.2.2.2.1, o16.2.2.2.1, a9, a10, o15.2.2.2.2.1, o15.2.2.2.2.2.1, o15.2.2.2.2.2.2.1, o15.2.2.2.2.2.2.2.1, o15.2.2.2.2.2.2.2.2.1, o15.2.2.2.2.2.2.2.2.2.1, o15.2.2.2.2.2.2.2.2.2.2.1, o15.2.2.2.2.2.2.2.2.2.2.2.1, o15.2.2.2.2.2.2.2.2.2.2.2.2.1, o15.2.2.2.2.2.2.2.2.2.2.2.2.2.1, o15.2.2.2.2.2.2.2.2.2.2.2.2.2.2, o12.2.2)) else (((Uw k) (o16.2.2.2.2, o15.2.2.2.2.1, o15.2.2.2.2.2.1, o15.2.2.2.2.2.2.1, o15.2.2.2.2.2.2.2.1, o15.2.2.2.2.2.2.2.2.1, o15.2.2.2.2.2.2.2.2.2.1, o15.2.2.2.2.2.2.2.2.2.2.1, o15.2.2.2.2.2.2.2.2.2.2.2.1, o15.2.2.2.2.2.2.2.2.2.2.2.2.1, o15.2.2.2.2.2.2.2.2.2.2.2.2.2.1, o15.2.2.2.2.2.2.2.2.2.2.2.2.2.2)).bind fun o17 => bif (!o17.1) then (some (o17.1, o17.2.1, o17.2.2.1, o17.2.2.2.1, o3.2.2.2.1, o5.2.2.2.1, o7.2.2.2.1, o9.2.2.2.1, o11.2.2.2.1, o12.1, o14.2.2.2.1, o16.2.2.2.1, a9, a10, o17.2.2.2.2.1, o17.2.2.2.2.2.1, o17.2.2.2.2.2.2.1, o17.2.2.2.2.2.2.2.1, o17.2.2.2.2.2.2.2.2.1, o17.2.2.2.2.2.2.2.2.2.1, o17.2.2.2.2.2.2.2.2.2.2.1, o17.2.2.2.2.2.2.2.2.2.2.2.1, o17.2.2.2.2.2.2.2.2.2.2.2.2.1, o17.2.2.2.2.2.2.2.2.2.2.2.2.2.1, o17.2.2.2.2.2.2.2.2.2.2.2.2.2.2, o12.2.2)) else (((Bj k) (a9, o17.2.2.2.1)).bind fun o18 => bif (!o18.1) then (some (o18.1, o18.2.1, o18.2.2.1, o18.2.2.2.2, o3.2.2.2.1, o5.2.2.2.1, o7.2.2.2.1, o9.2.2.2.1, o11.2.2.2.1, o12.1, o14.2.2.2.1, o16.2.2.2.1, o18.2.2.2.1, a10, o17.2.2.2.2.1, o17.2.2.2.2.2.1, o17.2.2.2.2.2.2.1, o17.2.2.2.2.2.2.2.1, o17.2.2.2.2.2.2.2.2.1, o17.2.2.2.2.2.2.2.2.2.1, o17.2.2.2.2.2.2.2.2.2.2.1, o17.2.2.2.2.2.2.2.2.2.2.2.1, o17.2.2.2.2.2.2.2.2.2.2.2.2.1, o17.2.2.2.2.2.2.2.2.2.2.2.2.2.1, o17.2.2.2.2.2.2.2.2.2.2.2.2.2.2, o12.2.2)) else (((Ux k) (o18.2.2.2.2, o17.2.2.2.2.1, o17.2.2.2.2.2.1, o17.2.2.2.2.2.2.1, o17.2.2.2.2.2.2.2.1, o17.2.2.2.2.2.2.2.2.1, o17.2.2.2.2.2.2.2.2.2.1, o17.2.2.2.2.2.2.2.2.2.2.1, o17.2.2.2.2.2.2.2.2.2.2.2.1, o17.2.2.2.2.2.2.2.2.2.2.2.2.1, o17.2.2.2.2.2.2.2.2.2.2.2.2.2.1, o17.2.2.2.2.2.2.2.2.2.2.2.2.2.2)).bind fun o19 => bif (!o19.1) then (some (o19.1, o19.2.1, o19.2.2.1, o19.2.2.2.1, o3.2.2.2.1, o5.2.2.2.1, o7.2.2.2.1, o9.2.2.2.1, o11.2.2.2.1, o12.1, o14.2.2.2.1, o16.2.2.2.1, o18.2.2.2.1, a10, o19.2.2.2.2.1, o19.2.2.2.2.2.1, o19.2.2.2.2.2.2.1, o19.2.2.2.2.2.2.2.1, o19.2.2.2.2.2.2.2.2.1, o19.2.2.2.2.2.2.2.2.2.1, o19.2.2.2.2.2.2.2.2.2.2.1, o19.2.2.2.2.2.2.2.2.2.2.2.1, o19.2.2.2.2.2.2.2.2.2.2.2.2.1, o19.2.2.2.2.2.2.2.2.2.2.2.2.2.1, o19.2.2.2.2.2.2.2.2.2.2.2.2.2.2, o12.2.2)) else (((Bj k) (a10, o19.2.2.2.1)).bind fun o20 => bif (!o20.1) then (some (o20.1, o20.2.1, o20.2.2.1, o20.2.2.2.2, o3.2.2.2.1, o5.2.2.2.1, o7.2.2.2.1, o9.2.2.2.1, o11.2.2.2.1, o12.1, o14.2.2.2.1, o16.2.2.2.1, o18.2.2.2.1, o20.2.2.2.1, o19.2.2.2.2.1, o19.2.2.2.2.2.1, o19.2.2.2.2.2.2.1, o19.2.2.2.2.2.2.2.1, o19.2.2.2.2.2.2.2.2.1, o19.2.2.2.2.2.2.2.2.2.1, o19.2.2.2.2.2.2.2.2.2.2.1, o19.2.2.2.2.2.2.2.2.2.2.2.1, o19.2.2.2.2.2.2.2.2.2.2.2.2.1, o19.2.2.2.2.2.2.2.2.2.2.2.2.2.1, o19.2.2.2.2.2.2.2.2.2.2.2.2.2.2, o12.2.2)) else (some (true, (0 : Int), (0 : Int), o20.2.2.2.2, o3.2.2.2.1, o5.2.2.2.1, o7.2.2.2.1, o9.2.2.2.1, o11.2.2.2.1, o12.1, o14.2.2.2.1, o16.2.2.2.1, o18.2.2.2.1, o20.2.2.2.1, o19.2.2.2.2.1, o19.2.2.2.2.2.1, o19.2.2.2.2.2.2.1, o19.2.2.2.2.2.2.2.1, o19.2.2.2.2.2.2.2.2.1, o19.2.2.2.2.2.2.2.2.2.1, o19.2.2.2.2.2.2.2.2.2.2.1, o19.2.2.2.2.2.2.2.2.2.2.2.1, o19.2.2.2.2.2.2.2.2.2.2.2.2.1, o19.2.2.2.2.2.2.2.2.2.2.2.2.2.1, o19.2.2.2.2.2.2.2.2.2.2.2.2.2.2, o12.2.2)))))))))))))))))))
theorem B1k (k : Nat) (x : H114) : Aay k x = Awj k x := (Af _ _).trans (by kernel_rfl)
theorem Brl (k : Nat) : Aa Tryz.prog 92 (Bj3 k) := Ae (Awi k) (k + 32) rfl ⟨⟨Bt7 k, trivial⟩, ⟨Bse k, trivial⟩, ⟨Fv k, trivial⟩, ⟨Btu k, Btv k, Bty k, Btf k, Btg k, Bth k, Bti k, trivial⟩, ⟨Brv k, trivial⟩, ⟨Aqk k, trivial⟩, trivial⟩ Ad Tryz.func92 (by kernel_rfl)
abbrev H116 : Type := (List Int) × (Int) × (Int) × (Int) × (Int) × (Int) × (Int) × (Int) × (Int) × (Int) × (Int) × (Bool) × (Int) × (Int) × (List (YT8))
def fpheadi : Sk := ⟨[.lf (.ptr 0 0)], [[.pv (.slice yt8)]], []⟩
def fpheado : Sk := ⟨[.agg [.pv .str, .pv (.int .i64), .pv (.int .i64), .pv (.int .i64), .pv (.int .i64), .pv (.int .i64), .pv (.int .i64), .pv (.int .i64), .pv (.int .i64), .pv (.int .i64), .pv (.int .i64)], .lf (.erp 88 [(.int .i64), (.int .i64)])], fpheadi.boxes, []⟩
def fpheadE (k : Nat) : EnvL := [(149, [Bl6 k]), (150, [Bke k]), (93, [Fl k]), (94, [Blg k, Blh k, Bli k, Blj k, Blk k, Bk2 k, Bk3 k]), (95, [Bj8 k]), (98, [Bkb k]), (92, [Bj3 k])]
def Axt (k : Nat) : Cfg := { mkC (fpheadE k) 154 1 0 with bl := [54, 56] }
def cphead (k : Nat) : (List (YT8)) → Option H116 := hid (Ac (Axt k) k Tryz.f152 fpheadi fpheado)
def sgphead (k : Nat) : Sig := Ab fpheadi fpheado (cphead k)
noncomputable def Axu (k : Nat) : (List (YT8)) → Option H116
 | a0 => ((Ab0 k) (a0, ([] : List Int), (0 : Int), (0 : Int), (0 : Int), (0 : Int), (0 : Int), (0 : Int), (0 : Int), (0 : Int), (0 : Int), (0 : Int))).bind fun o1 => ((Aa6 k) (o1.1, o1.2.1, o1.2.2.1, o1.2.2.2.1, o1.2.2.2.2.1, o1.2.2.2.2.2.1, o1.2.2.2.2.2.2.1, o1.2.2.2.2.2.2.2.1, o1.2.2.2.2.2.2.2.2.1, o1.2.2.2.2.2.2.2.2.2.1, o1.2.2.2.2.2.2.2.2.2.2.1, o1.2.2.2.2.2.2.2.2.2.2.2)).bind fun o2 => ((Bp k) (([118, 111, 108, 117, 109, 101] : List Int), o2.1)).bind fun o3 => ((Abv k) (o3.1, o2.2.1, o2.2.2.1, o2.2.2.2.1, o2.2.2.2.2.1, o2.2.2.2.2.2.1, o2.2.2.2.2.2.2.1, o2.2.2.2.2.2.2.2.1, o2.2.2.2.2.2.2.2.2.1, o2.2.2.2.2.2.2.2.2.2.1, o2.2.2.2.2.2.2.2.2.2.2.1, o2.2.2.2.2.2.2.2.2.2.2.2)).bind fun o4 => ((Bp k) (([102, 108, 111, 119] : List Int), o4.1)).bind fun o5 => ((Abw k) (o5.1, o4.2.1, o4.2.2.1, o4.2.2.2.1, o4.2.2.2.2.1, o4.2.2.2.2.2.1, o4.2.2.2.2.2.2.1, o4.2.2.2.2.2.2.2.1, o4.2.2.2.2.2.2.2.2.1, o4.2.2.2.2.2.2.2.2.2.1, o4.2.2.2.2.2.2.2.2.2.2.1, o4.2.2.2.2.2.2.2.2.2.2.2)).bind fun o6 => ((Bp k) (([117, 115, 101] : List Int), o6.1)).bind fun o7 => ((Aa3 k) (o7.1, o6.2.1, o6.2.2.1, o6.2.2.2.1, o6.2.2.2.2.1, o6.2.2.2.2.2.1, o6.2.2.2.2.2.2.1, o6.2.2.2.2.2.2.2.1, o6.2.2.2.2.2.2.2.2.1, o6.2.2.2.2.2.2.2.2.2.1, o6.2.2.2.2.2.2.2.2.2.2.1, o6.2.2.2.2.2.2.2.2.2.2.2)).bind fun o8 => ((Bp k) (([115, 112, 101, 101, 100] : List Int), o8.1)).bind fun o9 => ((Abx k) (o9.1, o8.2.1, o8.2.2.1, o8.2.2.2.1, o8.2.2.2.2.1, o8.2.2.2.2.2.1, o8.2.2.2.2.2.2.1, o8.2.2.2.2.2.2.2.1, o8.2.2.2.2.2.2.2.2.1, o8.2.2.2.2.2.2.2.2.2.1, o8.2.2.2.2.2.2.2.2.2.2.1, o8.2.2.2.2.2.2.2.2.2.2.2)).bind fun o10 => ((Bp k) (([103, 114, 97, 100, 101] : List Int), o10.1)).bind fun o11 => ((Aa4 k) (([45] : List Int), o11.1, false)).bind fun o12 => ((Aby k) (o12.1, o10.2.1, o10.2.2.1, o10.2.2.2.1, o10.2.2.2.2.1, o10.2.2.2.2.2.1, o10.2.2.2.2.2.2.1, o10.2.2.2.2.2.2.2.1, o10.2.2.2.2.2.2.2.2.1, o10.2.2.2.2.2.2.2.2.2.1, o10.2.2.2.2.2.2.2.2.2.2.1, o10.2.2.2.2.2.2.2.2.2.2.2)).bind fun o13 => ((Bp k) (([119, 105, 100, 116, 104] : List Int), o13.1)).bind fun o14 => ((Abz k) (o14.1, o13.2.1, o13.2.2.1, o13.2.2.2.1, o13.2.2.2.2.1, o13.2.2.2.2.2.1, o13.2.2.2.2.2.2.1, o13.2.2.2.2.2.2.2.1, o13.2.2.2.2.2.2.2.2.1, o13.2.2.2.2.2.2.2.2.2.1, o13.2.2.2.2.2.2.2.2.2.2.1, o13.2.2.2.2.2.2.2.2.2.2.2)).bind fun o15 => ((Bp k) (([108, 101, 110, 103, 116, 104] : List Int), o15.1)).bind fun o16 => ((Abh k) (o16.1, o15.2.1, o15.2.2.1, o15.2.2.2.1, o15.2.2.2.2.1, o15.2.2.2.2.2.1, o15.2.2.2.2.2.2.1, o15.2.2.2.2.2.2.2.1, o15.2.2.2.2.2.2.2.2.1, o15.2.2.2.2.2.2.2.2.2.1, o15.2.2.2.2.2.2.2.2.2.2.1, o15.2.2.2.2.2.2.2.2.2.2.2)).bind fun o17 => ((Bp k) (([103, 114, 101, 101, 110] : List Int), o17.1)).bind fun o18 => ((Abi k) (o18.1, o17.2.1, o17.2.2.1, o17.2.2.2.1, o17.2.2.2.2.1, o17.2.2.2.2.2.1, o17.2.2.2.2.2.2.1, o17.2.2.2.2.2.2.2.1, o17.2.2.2.2.2.2.2.2.1, o17.2.2.2.2.2.2.2.2.2.1, o17.2.2.2.2.2.2.2.2.2.2.1, o17.2.2.2.2.2.2.2.2.2.2.2)).bind fun o19 => ((Bp k) (([59] : List Int), o19.1)).bind fun o20 => ((Aay k) (o20.1, o3.2, o5.2, o7.2, o9.2, o11.2, o12.2.2, o14.2, o16.2, o18.2, o20.2, o19.2.1, o19.2.2.1, o19.2.2.2.1, o19.2.2.2.2.1, o19.2.2.2.2.2.1, o19.2.2.2.2.2.2.1, o19.2.2.2.2.2.2.2.1, o19.2.2.2.2.2.2.2.2.1, o19.2.2.2.2.2.2.2.2.2.1, o19.2.2.2.2.2.2.2.2.2.2.1, o19.2.2.2.2.2.2.2.2.2.2.2, o12.2.1)).bind fun o21 => bif o21.2.2.2.2.2.2.2.2.2.2.2.2.2.2.2.2.2.2.2.2.2.2.2.2.2 then (some (o21.2.2.2.2.2.2.2.2.2.2.2.2.2.2.1, o21.2.2.2.2.2.2.2.2.2.2.2.2.2.2.2.1, o21.2.2.2.2.2.2.2.2.2.2.2.2.2.2.2.2.1, o21.2.2.2.2.2.2.2.2.2.2.2.2.2.2.2.2.2.1, o21.2.2.2.2.2.2.2.2.2.2.2.2.2.2.2.2.2.2.1, o21.2.2.2.2.2.2.2.2.2.2.2.2.2.2.2.2.2.2.2.1, (negI .i64 o21.2.2.2.2.2.2.2.2.2.2.2.2.2.2.2.2.2.2.2.2.1), o21.2.2.2.2.2.2.2.2.2.2.2.2.2.2.2.2.2.2.2.2.2.1, o21.2.2.2.2.2.2.2.2.2.2.2.2.2.2.2.2.2.2.2.2.2.2.1, o21.2.2.2.2.2.2.2.2.2.2.2.2.2.2.2.2.2.2.2.2.2.2.2.1, o21.2.2.2.2.2.2.2.2.2.2.2.2.2.2.2.2.2.2.2.2.2.2.2.2.1, o21.1, o21.2.1, o21.2.2.1, o21.2.2.2.1)) else (some (o21.2.2.2.2.2.2.2.2.2.2.2.2.2.2.1, o21.2.2.2.2.2.2.2.2.2.2.2.2.2.2.2.1, o21.2.2.2.2.2.2.2.2.2.2.2.2.2.2.2.2.1, o21.2.2.2.2.2.2.2.2.2.2.2.2.2.2.2.2.2.1, o21.2.2.2.2.2.2.2.2.2.2.2.2.2.2.2.2.2.2.1, o21.2.2.2.2.2.2.2.2.2.2.2.2.2.2.2.2.2.2.2.1, o21.2.2.2.2.2.2.2.2.2.2.2.2.2.2.2.2.2.2.2.2.1, o21.2.2.2.2.2.2.2.2.2.2.2.2.2.2.2.2.2.2.2.2.2.1, o21.2.2.2.2.2.2.2.2.2.2.2.2.2.2.2.2.2.2.2.2.2.2.1, o21.2.2.2.2.2.2.2.2.2.2.2.2.2.2.2.2.2.2.2.2.2.2.2.1, o21.2.2.2.2.2.2.2.2.2.2.2.2.2.2.2.2.2.2.2.2.2.2.2.2.1, o21.1, o21.2.1, o21.2.2.1, o21.2.2.2.1))
theorem B15 (k : Nat) (x : (List (YT8))) : cphead k x = Axu k x := (Af _ _).trans (by kernel_rfl)
theorem Brz (k : Nat) : Aa Tryz.prog 152 (sgphead k) := Ae (Axt k) k rfl ⟨⟨Bt2 k, trivial⟩, ⟨Br5 k, trivial⟩, ⟨Fu k, trivial⟩, ⟨Bta k, Btb k, Btc k, Btd k, Bte k, Bsv k, Bsw k, trivial⟩, ⟨Bru k, trivial⟩, ⟨Br0 k, trivial⟩, ⟨Brl k, trivial⟩, trivial⟩ Ad Tryz.func152 (by kernel_rfl)
abbrev H117 : Type := (List Int) × (Int) × (List (YT8)) × (List Int) × (Int) × (List (YT1))
abbrev H118 : Type := (Bool) × (Int) × (Int) × (List Int) × (Int) × (List (YT8)) × (List Int) × (Int) × (List (YT1))
def Afl : Sk := ⟨[.lf (.ptr 0 0), .lf (.ptr 1 0), .lf (.ptr 2 0), .lf (.ptr 3 0), .lf (.ptr 4 0)], [[.ptr 5 0], [.pv .str], [.ptr 6 1], [.pv (.int .i64)], [.fn 152 [(5, 0)] []], [.pv (.slice yt8)], q7], []⟩
def Afm : Sk := ⟨[.lf (.erp 88 [(.int .i64), (.int .i64)])], [[.ptr 5 0], [.pv .str], [.ptr 6 1], [.pv (.int .i64)], [.fn 152 [(5, 0)] []], [.pv (.slice yt8)], q13], [some (95, yt1)]⟩
def Auz : Sk := ⟨sparse 37 [(0, .lf (.ptr 0 0)), (1, .lf (.ptr 1 0)), (2, .lf (.ptr 2 0)), (3, .lf (.ptr 3 0)), (4, .lf (.ptr 4 0))], [[.ptr 5 0], [.pv .str], [.ptr 6 1], [.pv (.int .i64)], [.fn 152 [(5, 0)] []], [.pv (.slice yt8)], q13], [some (95, yt1)]⟩
abbrev Afi := H117
def Rf : Afi → St := stOf Auz 85
def B0l (k : Nat) : EnvL := [(143, [Ep k]), (144, [A9 k]), (145, [Ba k]), (152, [sgphead k])]
def Hf (k : Nat) : FnX H118 := mkX ({ mkC (B0l k) 85 7 0 with hint := fun i => look none [(1, some Auz)] i, bl := [54, 56], ld := [(29, 2), (30, 2), (31, 9999), (32, 6), (33, 54), (36, 9999)], sr := [(36, 6)] }) k Tryz.f194 Afm
def T4 (k : Nat) : H105 → Option H118 := hid (Ac (Hf k).C k Tryz.f194 Afl Afm)
def Bjl (k : Nat) : Sig := Ab Afl Afm (T4 k)
noncomputable def Afk (k : Nat) (J : JF H118) (L : LF H118) : H105 → Option H118
 | (a0, a1, a2, a3, a4) => L 1 [] k (Rf (a0, a1, a2, a3, a4, []))
theorem B0m (k : Nat) (x : H105) : T4 k x = Afk k (Hf k).J (Hf k).L x := by
 refine (Af _ _).trans ?_; apply cutX (Hf k) [] [] (st0 (Hf k).C Tryz.f194 Afl x) [] [(1, [], k)] (Afk k · · x) <;> intros <;> kernel_rfl
noncomputable def Rg (k j1 : Nat) (J : JF H118) (L : LF H118) : Afi → Option H118
 | (a0, a1, a2, a3, a4, a5) => ((Dh k) (a0, a2)).bind fun o1 => bif o1.1 then (bif (((List.length a5 : Nat) : Int) == a1) then (((A7 k) ((4 : Int), o1.2)).bind fun o2 => some (o2.1, o2.2.1, o2.2.2.1, a0, a1, o2.2.2.2, a3, a4, a5)) else (((A4 k) (o1.2)).bind fun o3 => ((cphead k) (o3.2.2.2.2)).bind fun o4 => bif (!o4.2.2.2.2.2.2.2.2.2.2.2.1) then (some (o4.2.2.2.2.2.2.2.2.2.2.2.1, o4.2.2.2.2.2.2.2.2.2.2.2.2.1, o4.2.2.2.2.2.2.2.2.2.2.2.2.2.1, a0, a1, o4.2.2.2.2.2.2.2.2.2.2.2.2.2.2, a3, a4, a5)) else (app 96 a5 ([(o4.1, (o4.2.1, (o4.2.2.1, ((o4.2.2.2.1, (o4.2.2.2.2.1, ())), (o4.2.2.2.2.2.1, (o4.2.2.2.2.2.2.1, (o4.2.2.2.2.2.2.2.1, (o4.2.2.2.2.2.2.2.2.1, (o4.2.2.2.2.2.2.2.2.2.1, (o4.2.2.2.2.2.2.2.2.2.2.1, ()))))))))))] : List (YT1)) fun o5 => L 1 [] j1 (Rf (a0, a1, o4.2.2.2.2.2.2.2.2.2.2.2.2.2.2, a3, a4, o5))))) else (some (true, (0 : Int), (0 : Int), a0, a1, o1.2, a3, a4, a5))
theorem Afj (k j1 : Nat) (x : Afi) : (Hf k).L 1 [] (j1 + 1) (Rf x) = Rg k j1 (Hf k).J (Hf k).L x := by
 apply cutX (Hf k) [.r, .l, .b, .b] [j1] (Rf x) [] [(1, [], j1)] (Rg k j1 · · x) <;> intros <;> kernel_rfl
theorem Bqy (k : Nat) : Aa Tryz.prog 194 (Bjl k) := Ae (Hf k).C k rfl ⟨⟨Et k, trivial⟩, ⟨Bb k, trivial⟩, ⟨Bc k, trivial⟩, ⟨Brz k, trivial⟩, trivial⟩ Ad Tryz.func194 (by kernel_rfl)
abbrev H119 : Type := (List (YT8)) × (List Int) × (List Int) × (Int) × (Int) × (Int) × (Int)
def A48 : Sk := ⟨[.lf (.ptr 0 0), .lf (.ptr 1 5)], [[.pv (.slice yt8)], q14], []⟩
def A49 : Sk := ⟨[.lf (.fn 191 [] [(2, 0), (3, 0)])], [[.pv (.slice yt8)], q14, [.ptr 0 0], [.ptr 1 5]], []⟩
def A46 (k : Nat) : Cfg := { mkC [] 54 2 0 with bl := [54, 56] }
def Ab1 (k : Nat) : H119 → Option H119 := hid (Ac (A46 k) k Tryz.f149 A48 A49)
def Bl7 (k : Nat) : Sig := Ab A48 A49 (Ab1 k)
noncomputable def A47 (k : Nat) : H119 → Option H119
 | (a0, a1, a2, a3, a4, a5, a6) => some (a0, a1, a2, a3, a4, a5, a6)
theorem B5d (k : Nat) (x : H119) : Ab1 k x = A47 k x := (Af _ _).trans (by kernel_rfl)
theorem Bt3 (k : Nat) : Aa Tryz.prog 149 (Bl7 k) := Ae (A46 k) (l := []) k rfl trivial Ad Tryz.func149 (by kernel_rfl)
def Ayq : Sk := ⟨[.lf (.ptr 0 0), .lf (.ptr 1 0)], [[.pv (.slice yt8)], q14], []⟩
def Ayr : Sk := ⟨[.lf (.fn 192 [] [(2, 0), (3, 0)])], [[.pv (.slice yt8)], q14, [.ptr 0 0], [.ptr 1 0]], []⟩
def Ayo (k : Nat) : Cfg := { mkC [] 54 2 0 with bl := [54, 56] }
def Aa8 (k : Nat) : H119 → Option H119 := hid (Ac (Ayo k) k Tryz.f150 Ayq Ayr)
def Bkg (k : Nat) : Sig := Ab Ayq Ayr (Aa8 k)
noncomputable def Ayp (k : Nat) : H119 → Option H119
 | (a0, a1, a2, a3, a4, a5, a6) => some (a0, a1, a2, a3, a4, a5, a6)
theorem B2g (k : Nat) (x : H119) : Aa8 k x = Ayp k x := (Af _ _).trans (by kernel_rfl)
theorem Br6 (k : Nat) : Aa Tryz.prog 150 (Bkg k) := Ae (Ayo k) (l := []) k rfl trivial Ad Tryz.func150 (by kernel_rfl)
def Ayu : Sk := ⟨[.lf (.ptr 0 0), .lf (.ptr 1 1)], [[.pv (.slice yt8)], q14], []⟩
def Ayv : Sk := ⟨[.lf (.fn 192 [] [(2, 0), (3, 0)])], [[.pv (.slice yt8)], q14, [.ptr 0 0], [.ptr 1 1]], []⟩
def Ays (k : Nat) : Cfg := { mkC [] 54 2 0 with bl := [54, 56] }
def Aa9 (k : Nat) : H119 → Option H119 := hid (Ac (Ays k) k Tryz.f150 Ayu Ayv)
def Bkh (k : Nat) : Sig := Ab Ayu Ayv (Aa9 k)
noncomputable def Ayt (k : Nat) : H119 → Option H119
 | (a0, a1, a2, a3, a4, a5, a6) => some (a0, a1, a2, a3, a4, a5, a6)
theorem B2h (k : Nat) (x : H119) : Aa9 k x = Ayt k x := (Af _ _).trans (by kernel_rfl)
theorem Br7 (k : Nat) : Aa Tryz.prog 150 (Bkh k) := Ae (Ays k) (l := []) k rfl trivial Ad Tryz.func150 (by kernel_rfl)
def A1h : Sk := ⟨[.lf (.ptr 0 0), .lf (.ptr 1 2)], [[.pv (.slice yt8)], q14], []⟩
def A1i : Sk := ⟨[.lf (.fn 146 [] [(2, 0), (3, 0)])], [[.pv (.slice yt8)], q14, [.ptr 0 0], [.ptr 1 2]], []⟩
def A1f (k : Nat) : Cfg := { mkC [] 54 2 0 with bl := [54, 56] }
def Abl (k : Nat) : H119 → Option H119 := hid (Ac (A1f k) k Tryz.f94 A1h A1i)
def Bk6 (k : Nat) : Sig := Ab A1h A1i (Abl k)
noncomputable def A1g (k : Nat) : H119 → Option H119
 | (a0, a1, a2, a3, a4, a5, a6) => some (a0, a1, a2, a3, a4, a5, a6)
theorem B3p (k : Nat) (x : H119) : Abl k x = A1g k x := (Af _ _).trans (by kernel_rfl)
theorem Bsz (k : Nat) : Aa Tryz.prog 94 (Bk6 k) := Ae (A1f k) (l := []) k rfl trivial Ad Tryz.func94 (by kernel_rfl)
def A1l : Sk := ⟨[.lf (.ptr 0 0), .lf (.ptr 1 3)], [[.pv (.slice yt8)], q14], []⟩
def A1m : Sk := ⟨[.lf (.fn 146 [] [(2, 0), (3, 0)])], [[.pv (.slice yt8)], q14, [.ptr 0 0], [.ptr 1 3]], []⟩
def A1j (k : Nat) : Cfg := { mkC [] 54 2 0 with bl := [54, 56] }
def Abm (k : Nat) : H119 → Option H119 := hid (Ac (A1j k) k Tryz.f94 A1l A1m)
def Bk7 (k : Nat) : Sig := Ab A1l A1m (Abm k)
noncomputable def A1k (k : Nat) : H119 → Option H119
 | (a0, a1, a2, a3, a4, a5, a6) => some (a0, a1, a2, a3, a4, a5, a6)
theorem B3q (k : Nat) (x : H119) : Abm k x = A1k k x := (Af _ _).trans (by kernel_rfl)
theorem Bs0 (k : Nat) : Aa Tryz.prog 94 (Bk7 k) := Ae (A1j k) (l := []) k rfl trivial Ad Tryz.func94 (by kernel_rfl)
def A1p : Sk := ⟨[.lf (.ptr 0 0), .lf (.ptr 1 4)], [[.pv (.slice yt8)], q14], []⟩
def A1q : Sk := ⟨[.lf (.fn 146 [] [(2, 0), (3, 0)])], [[.pv (.slice yt8)], q14, [.ptr 0 0], [.ptr 1 4]], []⟩
def A1n (k : Nat) : Cfg := { mkC [] 54 2 0 with bl := [54, 56] }
def Abn (k : Nat) : H119 → Option H119 := hid (Ac (A1n k) k Tryz.f94 A1p A1q)
def Bk8 (k : Nat) : Sig := Ab A1p A1q (Abn k)
noncomputable def A1o (k : Nat) : H119 → Option H119
 | (a0, a1, a2, a3, a4, a5, a6) => some (a0, a1, a2, a3, a4, a5, a6)
theorem B3r (k : Nat) (x : H119) : Abn k x = A1o k x := (Af _ _).trans (by kernel_rfl)
theorem Bs1 (k : Nat) : Aa Tryz.prog 94 (Bk8 k) := Ae (A1n k) (l := []) k rfl trivial Ad Tryz.func94 (by kernel_rfl)
def Ah1 : Sk := ⟨[.lf (.ptr 0 0), .lf (.ptr 1 0)], [[.ptr 2 0], [.ptr 3 5], [.pv (.slice yt8)], q14], []⟩
def A5r : Sk := ⟨[.lf (.nil .ifc)], Ah1.boxes, []⟩
def A5p (k : Nat) : Cfg := { mkC [] 60 4 0 with ld := [(3, 1), (4, 0), (5, 9999), (6, 9999), (7, 2), (9, 9999), (10, 9999), (11, 9999)], sr := [(11, 3)] }
def Vf (k : Nat) : H119 → Option H119 := hid (Ac (A5p k) k Tryz.f191 Ah1 A5r)
def Bmd (k : Nat) : Sig := Ab Ah1 A5r (Vf k)
noncomputable def A5q (k : Nat) : H119 → Option H119
 | (a0, a1, a2, a3, a4, a5, a6) => idx zt8 a0 (0 : Int) fun o1 => some (a0, a1, a2, a3, a4, a5, o1.2.2.2.1)
theorem B5i (k : Nat) (x : H119) : Vf k x = A5q k x := (Af _ _).trans (by kernel_rfl)
theorem Bt8 (k : Nat) : Aa Tryz.prog 191 (Bmd k) := Ae (A5p k) (l := []) k rfl trivial Ad Tryz.func191 (by kernel_rfl)
abbrev H120 : Type := (Bool) × (Int) × (Int) × (List (YT8)) × (List Int) × (List Int) × (Int) × (Int) × (Int) × (Int)
def Agw : Sk := ⟨[.lf (.ptr 0 0), .lf (.ptr 1 0)], [[.ptr 2 0], [.ptr 3 0], [.pv (.slice yt8)], q14], []⟩
def Azr : Sk := ⟨[.lf (.erp 88 [(.int .i64), (.int .i64)])], Agw.boxes, []⟩
def B2r (k : Nat) : EnvL := [(193, [sgpnamed k]), (144, [A9 k]), (145, [Ba k])]
def Azp (k : Nat) : Cfg := { mkC (B2r k) 61 4 0 with ef := [(10, (([2], []), ([], [])))], ld := [(8, 1), (9, 0), (12, 9999)], sr := [(12, 3)] }
def Ui (k : Nat) : H119 → Option H120 := hid (Ac (Azp k) k Tryz.f192 Agw Azr)
def Bkq (k : Nat) : Sig := Ab Agw Azr (Ui k)
noncomputable def Azq (k : Nat) : H119 → Option H120
 | (a0, a1, a2, a3, a4, a5, a6) => ((cpnamed k) (a0)).bind fun o1 => bif (!o1.1) then (((A7 k) ((50 : Int), o1.2)).bind fun o2 => some (o2.1, o2.2.1, o2.2.2.1, o2.2.2.2, a1, a2, a3, a4, a5, a6)) else (((A4 k) (o1.2)).bind fun o3 => some (true, (0 : Int), (0 : Int), o3.2.2.2.2, o3.2.1, a2, a3, a4, a5, a6))
theorem B2s (k : Nat) (x : H119) : Ui k x = Azq k x := (Af _ _).trans (by kernel_rfl)
theorem Bsf (k : Nat) : Aa Tryz.prog 192 (Bkq k) := Ae (Azp k) k rfl ⟨⟨Gp k, trivial⟩, ⟨Bb k, trivial⟩, ⟨Bc k, trivial⟩, trivial⟩ Ad Tryz.func192 (by kernel_rfl)
def Agx : Sk := ⟨[.lf (.ptr 0 0), .lf (.ptr 1 0)], [[.ptr 2 0], [.ptr 3 1], [.pv (.slice yt8)], q14], []⟩
def Azu : Sk := ⟨[.lf (.erp 88 [(.int .i64), (.int .i64)])], Agx.boxes, []⟩
def B2t (k : Nat) : EnvL := [(193, [sgpnamed k]), (144, [A9 k]), (145, [Ba k])]
def Azs (k : Nat) : Cfg := { mkC (B2t k) 61 4 0 with ef := [(10, (([2], []), ([], [])))], ld := [(8, 1), (9, 0), (12, 9999)], sr := [(12, 3)] }
def Uj (k : Nat) : H119 → Option H120 := hid (Ac (Azs k) k Tryz.f192 Agx Azu)
def Bkr (k : Nat) : Sig := Ab Agx Azu (Uj k)
noncomputable def Azt (k : Nat) : H119 → Option H120
 | (a0, a1, a2, a3, a4, a5, a6) => ((cpnamed k) (a0)).bind fun o1 => bif (!o1.1) then (((A7 k) ((50 : Int), o1.2)).bind fun o2 => some (o2.1, o2.2.1, o2.2.2.1, o2.2.2.2, a1, a2, a3, a4, a5, a6)) else (((A4 k) (o1.2)).bind fun o3 => some (true, (0 : Int), (0 : Int), o3.2.2.2.2, a1, o3.2.1, a3, a4, a5, a6))
theorem B2u (k : Nat) (x : H119) : Uj k x = Azt k x := (Af _ _).trans (by kernel_rfl)
theorem Bsg (k : Nat) : Aa Tryz.prog 192 (Bkr k) := Ae (Azs k) k rfl ⟨⟨Gp k, trivial⟩, ⟨Bb k, trivial⟩, ⟨Bc k, trivial⟩, trivial⟩ Ad Tryz.func192 (by kernel_rfl)
def Ahj : Sk := ⟨[.lf (.ptr 0 0), .lf (.ptr 1 0)], [[.ptr 2 0], [.ptr 3 2], [.pv (.slice yt8)], q14], []⟩
def A3l : Sk := ⟨[.lf (.erp 88 [(.int .i64), (.int .i64)])], Ahj.boxes, []⟩
def B4d (k : Nat) : EnvL := [(144, [A9 k]), (145, [Ba k])]
def A3j (k : Nat) : Cfg := { mkC (B4d k) 66 4 0 with ef := [(15, (([2], []), ([], [])))], ld := [(13, 1), (14, 0), (17, 9999)], sr := [(17, 3)] }
def Uy (k : Nat) : H119 → Option H120 := hid (Ac (A3j k) k Tryz.f146 Ahj A3l)
def Blr (k : Nat) : Sig := Ab Ahj A3l (Uy k)
noncomputable def A3k (k : Nat) : H119 → Option H120
 | (a0, a1, a2, a3, a4, a5, a6) => idx zt8 a0 (0 : Int) fun o1 => bif (o1.1 != (2 : Int)) then (((A7 k) ((50 : Int), a0)).bind fun o2 => some (o2.1, o2.2.1, o2.2.2.1, o2.2.2.2, a1, a2, a3, a4, a5, a6)) else (((A4 k) (a0)).bind fun o3 => some (true, (0 : Int), (0 : Int), o3.2.2.2.2, a1, a2, o3.2.2.1, a4, a5, a6))
theorem B4e (k : Nat) (x : H119) : Uy k x = A3k k x := (Af _ _).trans (by kernel_rfl)
theorem Btj (k : Nat) : Aa Tryz.prog 146 (Blr k) := Ae (A3j k) k rfl ⟨⟨Bb k, trivial⟩, ⟨Bc k, trivial⟩, trivial⟩ Ad Tryz.func146 (by kernel_rfl)
def Ahk : Sk := ⟨[.lf (.ptr 0 0), .lf (.ptr 1 0)], [[.ptr 2 0], [.ptr 3 3], [.pv (.slice yt8)], q14], []⟩
def A3o : Sk := ⟨[.lf (.erp 88 [(.int .i64), (.int .i64)])], Ahk.boxes, []⟩
def B4f (k : Nat) : EnvL := [(144, [A9 k]), (145, [Ba k])]
def A3m (k : Nat) : Cfg := { mkC (B4f k) 66 4 0 with ef := [(15, (([2], []), ([], [])))], ld := [(13, 1), (14, 0), (17, 9999)], sr := [(17, 3)] }
def Uz (k : Nat) : H119 → Option H120 := hid (Ac (A3m k) k Tryz.f146 Ahk A3o)
def Bls (k : Nat) : Sig := Ab Ahk A3o (Uz k)
noncomputable def A3n (k : Nat) : H119 → Option H120
 | (a0, a1, a2, a3, a4, a5, a6) => idx zt8 a0 (0 : Int) fun o1 => bif (o1.1 != (2 : Int)) then (((A7 k) ((50 : Int), a0)).bind fun o2 => some (o2.1, o2.2.1, o2.2.2.1, o2.2.2.2, a1, a2, a3, a4, a5, a6)) else (((A4 k) (a0)).bind fun o3 => some (true, (0 : Int), (0 : Int), o3.2.2.2.2, a1, a2, a3, o3.2.2.1, a5, a6))
theorem B4g (k : Nat) (x : H119) : Uz k x = A3n k x := (Af _ _).trans (by kernel_rfl)
theorem Btk (k : Nat) : Aa Tryz.prog 146 (Bls k) := Ae (A3m k) k rfl ⟨⟨Bb k, trivial⟩, ⟨Bc k, trivial⟩, trivial⟩ Ad Tryz.func146 (by kernel_rfl)
def Ahl : Sk := ⟨[.lf (.ptr 0 0), .lf (.ptr 1 0)], [[.ptr 2 0], [.ptr 3 4], [.pv (.slice yt8)], q14], []⟩
def A3r : Sk := ⟨[.lf (.erp 88 [(.int .i64), (.int .i64)])], Ahl.boxes, []⟩
def B4h (k : Nat) : EnvL := [(144, [A9 k]), (145, [Ba k])]
def A3p (k : Nat) : Cfg := { mkC (B4h k) 66 4 0 with ef := [(15, (([2], []), ([], [])))], ld := [(13, 1), (14, 0), (17, 9999)], sr := [(17, 3)] }
def U0 (k : Nat) : H119 → Option H120 := hid (Ac (A3p k) k Tryz.f146 Ahl A3r)
def Blt (k : Nat) : Sig := Ab Ahl A3r (U0 k)
noncomputable def A3q (k : Nat) : H119 → Option H120
 | (a0, a1, a2, a3, a4, a5, a6) => idx zt8 a0 (0 : Int) fun o1 => bif (o1.1 != (2 : Int)) then (((A7 k) ((50 : Int), a0)).bind fun o2 => some (o2.1, o2.2.1, o2.2.2.1, o2.2.2.2, a1, a2, a3, a4, a5, a6)) else (((A4 k) (a0)).bind fun o3 => some (true, (0 : Int), (0 : Int), o3.2.2.2.2, a1, a2, a3, a4, o3.2.2.1, a6))
theorem B4i (k : Nat) (x : H119) : U0 k x = A3q k x := (Af _ _).trans (by kernel_rfl)
theorem Btl (k : Nat) : Aa Tryz.prog 146 (Blt k) := Ae (A3p k) k rfl ⟨⟨Bb k, trivial⟩, ⟨Bc k, trivial⟩, trivial⟩ Ad Tryz.func146 (by kernel_rfl)
abbrev H121 : Type := (List (YT8)) × (List Int) × (List Int) × (List Int) × (List Int) × (List Int) × (List Int) × (List Int) × (Int) × (Int) × (Int) × (Int)
abbrev H122 : Type := (Bool) × (Int) × (Int) × (List (YT8)) × (List Int) × (List Int) × (List Int) × (List Int) × (List Int) × (List Int) × (List Int) × (Int) × (Int) × (Int) × (Int)
def Agk : Sk := ⟨[.lf (.ptr 0 0), .lf (.sb 1 11)], [[.pv (.slice yt8)], q15, [.ptr 0 0], [.ptr 24 5], [.ptr 0 0], [.ptr 24 0], [.ptr 0 0], [.pv .str], [.ptr 0 0], [.ptr 24 1], [.ptr 0 0], [.pv .str], [.ptr 0 0], [.ptr 24 2], [.ptr 0 0], [.pv .str], [.ptr 0 0], [.ptr 24 3], [.ptr 0 0], [.pv .str], [.ptr 0 0], [.ptr 24 4], [.ptr 0 0], [.pv .str], q14], []⟩
def Awq : Sk := ⟨[.lf (.erp 88 [(.int .i64), (.int .i64)])], Agk.boxes, []⟩
def B1n (k : Nat) : EnvL := [(191, [Bmd k]), (192, [Bkq k, Bkr k]), (142, [Fm k]), (146, [Blr k, Bls k, Blt k])]
def Awo (k : Nat) : Cfg := mkC (B1n k) 68 25 0
def Aa0 (k : Nat) : H121 → Option H122 := hid (Ac (Awo k) (k + 32) Tryz.f92 Agk Awq)
def Bj5 (k : Nat) : Sig := Ab Agk Awq (Aa0 k)
noncomputable def Awp (k : Nat) : H121 → Option H122
 | (a0, a1, a2, a3, a4, a5, a6, a7, a8, a9, a10, a11) => ((Vf k) (a0, a6, a7, a8, a9, a10, a11)).bind fun o1 => ((Ui k) (o1.1, o1.2.1, o1.2.2.1, o1.2.2.2.1, o1.2.2.2.2.1, o1.2.2.2.2.2.1, o1.2.2.2.2.2.2)).bind fun o2 => bif (!o2.1) then (some (o2.1, o2.2.1, o2.2.2.1, o2.2.2.2.1, a1, a2, a3, a4, a5, o2.2.2.2.2.1, o2.2.2.2.2.2.1, o2.2.2.2.2.2.2.1, o2.2.2.2.2.2.2.2.1, o2.2.2.2.2.2.2.2.2.1, o2.2.2.2.2.2.2.2.2.2)) else (((Bj k) (a1, o2.2.2.2.1)).bind fun o3 => bif (!o3.1) then (some (o3.1, o3.2.1, o3.2.2.1, o3.2.2.2.2, o3.2.2.2.1, a2, a3, a4, a5, o2.2.2.2.2.1, o2.2.2.2.2.2.1, o2.2.2.2.2.2.2.1, o2.2.2.2.2.2.2.2.1, o2.2.2.2.2.2.2.2.2.1, o2.2.2.2.2.2.2.2.2.2)) else (((Uj k) (o3.2.2.2.2, o2.2.2.2.2.1, o2.2.2.2.2.2.1, o2.2.2.2.2.2.2.1, o2.2.2.2.2.2.2.2.1, o2.2.2.2.2.2.2.2.2.1, o2.2.2.2.2.2.2.2.2.2)).bind fun o4 => bif (!o4.1) then (some (o4.1, o4.2.1, o4.2.2.1, o4.2.2.2.1, o3.2.2.2.1, a2, a3, a4, a5, o4.2.2.2.2.1, o4.2.2.2.2.2.1, o4.2.2.2.2.2.2.1, o4.2.2.2.2.2.2.2.1, o4.2.2.2.2.2.2.2.2.1, o4.2.2.2.2.2.2.2.2.2)) else (((Bj k) (a2, o4.2.2.2.1)).bind fun o5 => bif (!o5.1) then (some (o5.1, o5.2.1, o5.2.2.1, o5.2.2.2.2, o3.2.2.2.1, o5.2.2.2.1, a3, a4, a5, o4.2.2.2.2.1, o4.2.2.2.2.2.1, o4.2.2.2.2.2.2.1, o4.2.2.2.2.2.2.2.1, o4.2.2.2.2.2.2.2.2.1, o4.2.2.2.2.2.2.2.2.2)) else (((Uy k) (o5.2.2.2.2, o4.2.2.2.2.1, o4.2.2.2.2.2.1, o4.2.2.2.2.2.2.1, o4.2.2.2.2.2.2.2.1, o4.2.2.2.2.2.2.2.2.1, o4.2.2.2.2.2.2.2.2.2)).bind fun o6 => bif (!o6.1) then (some (o6.1, o6.2.1, o6.2.2.1, o6.2.2.2.1, o3.2.2.2.1, o5.2.2.2.1, a3, a4, a5, o6.2.2.2.2.1, o6.2.2.2.2.2.1, o6.2.2.2.2.2.2.1, o6.2.2.2.2.2.2.2.1, o6.2.2.2.2.2.2.2.2.1, o6.2.2.2.2.2.2.2.2.2)) else (((Bj k) (a3, o6.2.2.2.1)).bind fun o7 => bif (!o7.1) then (some (o7.1, o7.2.1, o7.2.2.1, o7.2.2.2.2, o3.2.2.2.1, o5.2.2.2.1, o7.2.2.2.1, a4, a5, o6.2.2.2.2.1, o6.2.2.2.2.2.1, o6.2.2.2.2.2.2.1, o6.2.2.2.2.2.2.2.1, o6.2.2.2.2.2.2.2.2.1, o6.2.2.2.2.2.2.2.2.2)) else (((Uz k) (o7.2.2.2.2, o6.2.2.2.2.1, o6.2.2.2.2.2.1, o6.2.2.2.2.2.2.1, o6.2.2.2.2.2.2.2.1, o6.2.2.2.2.2.2.2.2.1, o6.2.2.2.2.2.2.2.2.2)).bind fun o8 => bif (!o8.1) then (some (o8.1, o8.2.1, o8.2.2.1, o8.2.2.2.1, o3.2.2.2.1, o5.2.2.2.1, o7.2.2.2.1, a4, a5, o8.2.2.2.2.1, o8.2.2.2.2.2.1, o8.2.2.2.2.2.2.1, o8.2.2.2.2.2.2.2.1, o8.2.2.2.2.2.2.2.2.1, o8.2.2.2.2.2.2.2.2.2)) else (((Bj k) (a4, o8.2.2.2.1)).bind fun o9 => bif (!o9.1) then (some (o9.1, o9.2.1, o9.2.2.1, o9.2.2.2.2, o3.2.2.2.1, o5.2.2.2.1, o7.2.2.2.1, o9.2.2.2.1, a5, o8.2.2.2.2.1, o8.2.2.2.2.2.1, o8.2.2.2.2.2.2.1, o8.2.2.2.2.2.2.2.1, o8.2.2.2.2.2.2.2.2.1, o8.2.2.2.2.2.2.2.2.2)) else (((U0 k) (o9.2.2.2.2, o8.2.2.2.2.1, o8.2.2.2.2.2.1, o8.2.2.2.2.2.2.1, o8.2.2.2.2.2.2.2.1, o8.2.2.2.2.2.2.2.2.1, o8.2.2.2.2.2.2.2.2.2)).bind fun o10 => bif (!o10.1) then (some (o10.1, o10.2.1, o10.2.2.1, o10.2.2.2.1, o3.2.2.2.1, o5.2.2.2.1, o7.2.2.2.1, o9.2.2.2.1, a5, o10.2.2.2.2.1, o10.2.2.2.2.2.1, o10.2.2.2.2.2.2.1, o10.2.2.2.2.2.2.2.1, o10.2.2.2.2.2.2.2.2.1, o10.2.2.2.2.2.2.2.2.2)) else (((Bj k) (a5, o10.2.2.2.1)).bind fun o11 => bif (!o11.1) then (some (o11.1, o11.2.1, o11.2.2.1, o11.2.2.2.2, o3.2.2.2.1, o5.2.2.2.1, o7.2.2.2.1, o9.2.2.2.1, o11.2.2.2.1, o10.2.2.2.2.1, o10.2.2.2.2.2.1, o10.2.2.2.2.2.2.1, o10.2.2.2.2.2.2.2.1, o10.2.2.2.2.2.2.2.2.1, o10.2.2.2.2.2.2.2.2.2)) else (some (true, (0 : Int), (0 : Int), o11.2.2.2.2, o3.2.2.2.1, o5.2.2.2.1, o7.2.2.2.1, o9.2.2.2.1, o11.2.2.2.1, o10.2.2.2.2.1, o10.2.2.2.2.2.1, o10.2.2.2.2.2.2.1, o10.2.2.2.2.2.2.2.1, o10.2.2.2.2.2.2.2.2.1, o10.2.2.2.2.2.2.2.2.2)))))))))))
theorem B1o (k : Nat) (x : H121) : Aa0 k x = Awp k x := (Af _ _).trans (by kernel_rfl)
theorem Brn (k : Nat) : Aa Tryz.prog 92 (Bj5 k) := Ae (Awo k) (k + 32) rfl ⟨⟨Bt8 k, trivial⟩, ⟨Bsf k, Bsg k, trivial⟩, ⟨Fv k, trivial⟩, ⟨Btj k, Btk k, Btl k, trivial⟩, trivial⟩ Ad Tryz.func92 (by kernel_rfl)
abbrev H123 : Type := (List Int) × (List Int) × (Int) × (Int) × (Int) × (Int) × (Bool) × (Int) × (Int) × (List (YT8))
def fpwalki : Sk := ⟨[.lf (.ptr 0 0)], [[.pv (.slice yt8)]], []⟩
def fpwalko : Sk := ⟨[.agg [.pv .str, .pv .str, .pv (.int .i64), .pv (.int .i64), .pv (.int .i64), .pv (.int .i64)], .lf (.erp 88 [(.int .i64), (.int .i64)])], fpwalki.boxes, []⟩
def fpwalkE (k : Nat) : EnvL := [(149, [Bl7 k]), (150, [Bkg k, Bkh k]), (93, [Fl k]), (94, [Bk6 k, Bk7 k, Bk8 k]), (92, [Bj5 k])]
def A6k (k : Nat) : Cfg := { mkC (fpwalkE k) 107 1 0 with bl := [54, 56] }
def cpwalk (k : Nat) : (List (YT8)) → Option H123 := hid (Ac (A6k k) k Tryz.f154 fpwalki fpwalko)
def sgpwalk (k : Nat) : Sig := Ab fpwalki fpwalko (cpwalk k)
noncomputable def A6l (k : Nat) : (List (YT8)) → Option H123
 | a0 => ((Ab1 k) (a0, ([] : List Int), ([] : List Int), (0 : Int), (0 : Int), (0 : Int), (0 : Int))).bind fun o1 => ((Aa8 k) (o1.1, o1.2.1, o1.2.2.1, o1.2.2.2.1, o1.2.2.2.2.1, o1.2.2.2.2.2.1, o1.2.2.2.2.2.2)).bind fun o2 => ((Bp k) (([119, 105, 116, 104] : List Int), o2.1)).bind fun o3 => ((Aa9 k) (o3.1, o2.2.1, o2.2.2.1, o2.2.2.2.1, o2.2.2.2.2.1, o2.2.2.2.2.2.1, o2.2.2.2.2.2.2)).bind fun o4 => ((Bp k) (([108, 111, 110, 103] : List Int), o4.1)).bind fun o5 => ((Abl k) (o5.1, o4.2.1, o4.2.2.1, o4.2.2.2.1, o4.2.2.2.2.1, o4.2.2.2.2.2.1, o4.2.2.2.2.2.2)).bind fun o6 => ((Bp k) (([112, 97, 99, 101] : List Int), o6.1)).bind fun o7 => ((Abm k) (o7.1, o6.2.1, o6.2.2.1, o6.2.2.2.1, o6.2.2.2.2.1, o6.2.2.2.2.2.1, o6.2.2.2.2.2.2)).bind fun o8 => ((Bp k) (([108, 101, 97, 115, 116] : List Int), o8.1)).bind fun o9 => ((Abn k) (o9.1, o8.2.1, o8.2.2.1, o8.2.2.2.1, o8.2.2.2.2.1, o8.2.2.2.2.2.1, o8.2.2.2.2.2.2)).bind fun o10 => ((Bp k) (([59] : List Int), o10.1)).bind fun o11 => ((Aa0 k) (o11.1, o3.2, o5.2, o7.2, o9.2, o11.2, o10.2.1, o10.2.2.1, o10.2.2.2.1, o10.2.2.2.2.1, o10.2.2.2.2.2.1, o10.2.2.2.2.2.2)).bind fun o12 => some (o12.2.2.2.2.2.2.2.2.2.1, o12.2.2.2.2.2.2.2.2.2.2.1, o12.2.2.2.2.2.2.2.2.2.2.2.1, o12.2.2.2.2.2.2.2.2.2.2.2.2.1, o12.2.2.2.2.2.2.2.2.2.2.2.2.2.1, o12.2.2.2.2.2.2.2.2.2.2.2.2.2.2, o12.1, o12.2.1, o12.2.2.1, o12.2.2.2.1)
theorem B5v (k : Nat) (x : (List (YT8))) : cpwalk k x = A6l k x := (Af _ _).trans (by kernel_rfl)
theorem Buj (k : Nat) : Aa Tryz.prog 154 (sgpwalk k) := Ae (A6k k) k rfl ⟨⟨Bt3 k, trivial⟩, ⟨Br6 k, Br7 k, trivial⟩, ⟨Fu k, trivial⟩, ⟨Bsz k, Bs0 k, Bs1 k, trivial⟩, ⟨Brn k, trivial⟩, trivial⟩ Ad Tryz.func154 (by kernel_rfl)
abbrev H124 : Type := (List Int) × (Int) × (List (YT8)) × (List Int) × (Int) × (List (YT1)) × (List (YT2))
abbrev H125 : Type := (Bool) × (Int) × (Int) × (List Int) × (Int) × (List (YT8)) × (List Int) × (Int) × (List (YT1)) × (List (YT2))
def Afv : Sk := ⟨[.lf (.ptr 0 0), .lf (.ptr 1 0), .lf (.ptr 2 0), .lf (.ptr 3 0), .lf (.ptr 4 0)], [[.ptr 5 0], [.pv .str], [.ptr 6 2], [.pv (.int .i64)], [.fn 154 [(5, 0)] []], [.pv (.slice yt8)], q13], [some (95, yt1)]⟩
def Afw : Sk := ⟨[.lf (.erp 88 [(.int .i64), (.int .i64)])], [[.ptr 5 0], [.pv .str], [.ptr 6 2], [.pv (.int .i64)], [.fn 154 [(5, 0)] []], [.pv (.slice yt8)], q16], [some (95, yt1), some (97, yt2)]⟩
def Au9 : Sk := ⟨sparse 37 [(0, .lf (.ptr 0 0)), (1, .lf (.ptr 1 0)), (2, .lf (.ptr 2 0)), (3, .lf (.ptr 3 0)), (4, .lf (.ptr 4 0))], [[.ptr 5 0], [.pv .str], [.ptr 6 2], [.pv (.int .i64)], [.fn 154 [(5, 0)] []], [.pv (.slice yt8)], q16], [some (95, yt1), some (97, yt2)]⟩
abbrev Afs := H124
def Rj : Afs → St := stOf Au9 85
def B0r (k : Nat) : EnvL := [(143, [Ep k]), (144, [A9 k]), (145, [Ba k]), (154, [sgpwalk k])]
def Hh (k : Nat) : FnX H125 := mkX ({ mkC (B0r k) 85 7 1 with hint := fun i => look none [(1, some Au9)] i, bl := [54, 56], ld := [(29, 2), (30, 2), (31, 9999), (32, 6), (33, 54), (36, 9999)], sr := [(36, 6)] }) k Tryz.f195 Afw
def T6 (k : Nat) : H117 → Option H125 := hid (Ac (Hh k).C k Tryz.f195 Afv Afw)
def Bjp (k : Nat) : Sig := Ab Afv Afw (T6 k)
noncomputable def Afu (k : Nat) (J : JF H125) (L : LF H125) : H117 → Option H125
 | (a0, a1, a2, a3, a4, a5) => L 1 [] k (Rj (a0, a1, a2, a3, a4, a5, []))
theorem B0s (k : Nat) (x : H117) : T6 k x = Afu k (Hh k).J (Hh k).L x := by
 refine (Af _ _).trans ?_; apply cutX (Hh k) [] [] (st0 (Hh k).C Tryz.f195 Afv x) [] [(1, [], k)] (Afu k · · x) <;> intros <;> kernel_rfl
noncomputable def Rk (k j1 : Nat) (J : JF H125) (L : LF H125) : Afs → Option H125
 | (a0, a1, a2, a3, a4, a5, a6) => ((Dh k) (a0, a2)).bind fun o1 => bif o1.1 then (bif (((List.length a6 : Nat) : Int) == a1) then (((A7 k) ((4 : Int), o1.2)).bind fun o2 => some (o2.1, o2.2.1, o2.2.2.1, a0, a1, o2.2.2.2, a3, a4, a5, a6)) else (((A4 k) (o1.2)).bind fun o3 => ((cpwalk k) (o3.2.2.2.2)).bind fun o4 => bif (!o4.2.2.2.2.2.2.1) then (some (o4.2.2.2.2.2.2.1, o4.2.2.2.2.2.2.2.1, o4.2.2.2.2.2.2.2.2.1, a0, a1, o4.2.2.2.2.2.2.2.2.2, a3, a4, a5, a6)) else (app 64 a6 ([(o4.1, (o4.2.1, (o4.2.2.1, (o4.2.2.2.1, (o4.2.2.2.2.1, (o4.2.2.2.2.2.1, ()))))))] : List (YT2)) fun o5 => L 1 [] j1 (Rj (a0, a1, o4.2.2.2.2.2.2.2.2.2, a3, a4, a5, o5))))) else (some (true, (0 : Int), (0 : Int), a0, a1, o1.2, a3, a4, a5, a6))
theorem Aft (k j1 : Nat) (x : Afs) : (Hh k).L 1 [] (j1 + 1) (Rj x) = Rk k j1 (Hh k).J (Hh k).L x := by
 apply cutX (Hh k) [.r, .l, .b, .b] [j1] (Rj x) [] [(1, [], j1)] (Rk k j1 · · x) <;> intros <;> kernel_rfl
theorem Bq2 (k : Nat) : Aa Tryz.prog 195 (Bjp k) := Ae (Hh k).C k rfl ⟨⟨Et k, trivial⟩, ⟨Bb k, trivial⟩, ⟨Bc k, trivial⟩, ⟨Buj k, trivial⟩, trivial⟩ Ad Tryz.func195 (by kernel_rfl)
def A5c : Sk := ⟨[.lf (.ptr 0 0), .lf (.ptr 1 2)], [[.pv (.slice yt8)], [.pv .str, .nil .sl, .pv (.int .i64)]], []⟩
def A5d : Sk := ⟨[.lf (.fn 191 [] [(2, 0), (3, 0)])], [[.pv (.slice yt8)], [.pv .str, .nil .sl, .pv (.int .i64)], [.ptr 0 0], [.ptr 1 2]], []⟩
def A5a (k : Nat) : Cfg := { mkC [] 54 2 0 with bl := [54, 56] }
def Ab2 (k : Nat) : H104 → Option H104 := hid (Ac (A5a k) k Tryz.f149 A5c A5d)
def Bl8 (k : Nat) : Sig := Ab A5c A5d (Ab2 k)
noncomputable def A5b (k : Nat) : H104 → Option H104
 | (a0, a1, a2) => some (a0, a1, a2)
theorem B5e (k : Nat) (x : H104) : Ab2 k x = A5b k x := (Af _ _).trans (by kernel_rfl)
theorem Bt4 (k : Nat) : Aa Tryz.prog 149 (Bl8 k) := Ae (A5a k) (l := []) k rfl trivial Ad Tryz.func149 (by kernel_rfl)
def Ayy : Sk := ⟨[.lf (.ptr 0 0), .lf (.ptr 1 0)], [[.pv (.slice yt8)], [.pv .str, .nil .sl, .pv (.int .i64)]], []⟩
def Ayz : Sk := ⟨[.lf (.fn 192 [] [(2, 0), (3, 0)])], [[.pv (.slice yt8)], [.pv .str, .nil .sl, .pv (.int .i64)], [.ptr 0 0], [.ptr 1 0]], []⟩
def Ayw (k : Nat) : Cfg := { mkC [] 54 2 0 with bl := [54, 56] }
def Aba (k : Nat) : H104 → Option H104 := hid (Ac (Ayw k) k Tryz.f150 Ayy Ayz)
def Bki (k : Nat) : Sig := Ab Ayy Ayz (Aba k)
noncomputable def Ayx (k : Nat) : H104 → Option H104
 | (a0, a1, a2) => some (a0, a1, a2)
theorem B2i (k : Nat) (x : H104) : Aba k x = Ayx k x := (Af _ _).trans (by kernel_rfl)
theorem Br8 (k : Nat) : Aa Tryz.prog 150 (Bki k) := Ae (Ayw k) (l := []) k rfl trivial Ad Tryz.func150 (by kernel_rfl)
abbrev H126 : Type := (Int) × (List (YT8)) × (List Int) × (Int)
abbrev H127 : Type := (List (YT8)) × (List Int) × (Int) × (Int)
def fpnamesi : Sk := ⟨[.lf (.ptr 0 0), .lf (.ptr 1 1), .lf (.pv (.int .i64))], [[.pv (.slice yt8)], [.pv .str, .nil .sl, .pv (.int .i64)]], []⟩
def fpnameso : Sk := ⟨[.lf (.fn 211 [] [(2, 0), (3, 0), (4, 0)])], [[.pv (.slice yt8)], [.pv .str, .nil .sl, .pv (.int .i64)], [.ptr 1 1], [.pv (.int .i64)], [.ptr 0 0]], []⟩
def A0u (k : Nat) : Cfg := { mkC [] 56 2 0 with bl := [54, 56] }
def cpnames (k : Nat) : H126 → Option H127 := hid (Ac (A0u k) k Tryz.f197 fpnamesi fpnameso)
def sgpnames (k : Nat) : Sig := Ab fpnamesi fpnameso (cpnames k)
noncomputable def A0v (k : Nat) : H126 → Option H127
 | (a0, a1, a2, a3) => some (a1, a2, a3, a0)
theorem B3j (k : Nat) (x : H126) : cpnames k x = A0v k x := (Af _ _).trans (by kernel_rfl)
theorem Bss (k : Nat) : Aa Tryz.prog 197 (sgpnames k) := Ae (A0u k) (l := []) k rfl trivial Ad Tryz.func197 (by kernel_rfl)
end
end Go.Proofs.YtipcabmhdokfjaaGreatDoorV
