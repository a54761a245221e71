import Derived.Test.YtcmmgllmncllfaaGreatDoorC6
import Derived.Test.YtcmmgllmncllfaaGreatDoorC3
/-! Joined, names shortened: G2, G3, VM, LxS, LxP, LxR, LxQ, FG0, FG1, FG2, FA, FB, FC. -/
set_option linter.unusedVariables false
set_option linter.unusedSimpArgs false
set_option maxHeartbeats 4000000
set_option maxRecDepth 100000
namespace Go.Proofs.YtcmmgllmncllfaaGreatDoorV
open Go Go.RowKit
noncomputable section
def q3 : List SL := [.pv .str, .pv (.int .i64), .pv (.int .i64), .pv (.int .i64), .pv (.slice yt0)]
def Aqc : Sk := ⟨[], [], []⟩
def Aqd : Sk := ⟨[.lf (.pv .str)], [], []⟩
def Aqa (k : Nat) : Cfg := mkC [] 49 0 0
def It (k : Nat) : Unit → Option (List Int) := hid (Ag (Aqa k) k Tryz.f30 Aqc Aqd)
def Aeg (k : Nat) : Sig := Af Aqc Aqd (It k)
noncomputable def Aqb (k : Nat) : Unit → Option (List Int)
 | _ => some ([112, 108, 97, 110, 32, 99, 121, 99, 108, 101, 32, 54, 48, 48, 59, 10, 110, 111, 100, 101, 32, 97, 32, 111, 102, 102, 115, 101, 116, 32, 48, 32, 115, 117, 109, 32, 49, 49, 47, 50, 48, 32, 123, 10, 32, 32, 103, 114, 111, 117, 112, 32, 123, 10, 32, 32, 32, 32, 114, 105, 110, 103, 32, 123, 10, 32, 32, 32, 32, 32, 32, 112, 104, 97, 115, 101, 32, 112, 32, 115, 112, 108, 105, 116, 32, 51, 48, 48, 32, 121, 101, 108, 108, 111, 119, 32, 51, 53, 32, 114, 101, 100, 32, 49, 54, 32, 119, 97, 108, 107, 32, 119, 32, 55, 48, 32, 102, 108, 97, 115, 104, 32, 49, 50, 53, 59, 10, 32, 32, 32, 32, 32, 32, 112, 104, 97, 115, 101, 32, 113, 32, 115, 112, 108, 105, 116, 32, 51, 48, 48, 32, 121, 101, 108, 108, 111, 119, 32, 51, 48, 32, 114, 101, 100, 32, 50, 48, 59, 10, 32, 32, 32, 32, 125, 10, 32, 32, 125, 10, 125, 10, 111, 117, 116, 32, 48, 32, 50, 52, 57, 59, 10, 105, 110, 32, 49, 48, 32, 50, 48, 48, 59, 10, 98, 101, 115, 116, 32, 121, 101, 115, 59, 10, 115, 112, 101, 110, 116, 32, 49, 55, 59, 10] : List Int)
theorem A7m (k : Nat) (x : Unit) : It k x = Aqb k x := (Ae _ _).trans (by kernel_rfl)
theorem A0a (k : Nat) : Ac Tryz.prog 30 (Aeg k) := Ah (Aqa k) (l := []) k rfl trivial Ad Tryz.func30 (by kernel_rfl)
abbrev H62 : Type := (List Int) × (List (YT4))
def Yo : Sk := ⟨[.lf (.ptr 0 0), .lf (.pv .str)], [[.own 0]], [some (83, yt4)]⟩
def Ak8 : Sk := ⟨[.lf (.pv .bool)], Yo.boxes, [some (83, yt4)]⟩
def Ak7 (k : Nat) : Cfg := mkC [] 62 1 1
def Ays (k : Nat) : H62 → Option ((Bool) × (List (YT4))) := hid (Ag (Ak7 k) k Tryz.f59 Yo Ak8)
def Aui (k : Nat) : Sig := Af Yo Ak8 (Ays k)
theorem Ayt (k : Nat) : Ac Tryz.prog 59 (Aui k) := Ah (Ak7 k) (l := []) k rfl trivial Ad Tryz.func59 (by kernel_rfl)
abbrev H63 : Type := (List (YT4)) ⊕ ((Int) × (Int))
def Rq : Sk := ⟨[.lf (.ptr 0 0), .lf (.pv (.int .i64))], [[.own 0]], [some (83, yt4)]⟩
def Ym : Sk := ⟨[], Rq.boxes, [some (83, yt4)]⟩
def Ak3 (k : Nat) : Cfg := mkC [] 62 1 1
def Ayq (k : Nat) : ((Int) × (List (YT4))) → Option H63 := hid (Ba (Ak3 k) k Tryz.f61 Rq Ym 75 [(.int .i64), (.int .i64)] true)
def Auh (k : Nat) : Sig := ⟨Rq, Ym, Bd Rq.tys Ym.tys 75 [(.int .i64), (.int .i64)] true (Ayq k)⟩
theorem Ayr (k : Nat) : Ac Tryz.prog 61 (Auh k) := Bv (Ak3 k) (l := []) k 75 [(.int .i64), (.int .i64)] true rfl trivial Ad Tryz.func61 (by kernel_rfl)
abbrev H64 : Type := (Int) × (List Int) × (Int) × (Int) × (List (YT4))
def Aln : Sk := ⟨[.lf (.ptr 0 0)], [[.own 0]], [some (83, yt4)]⟩
def Alo : Sk := ⟨[.agg [.pv (.int .i64), .pv .str, .pv (.int .i64), .pv (.int .i64)]], [[.pv (.slice yt4)]], [none]⟩
def Alm (k : Nat) : Cfg := { mkC [] 70 1 1 with bl := [58, 60] }
def Ayz (k : Nat) : (List (YT4)) → Option H64 := hid (Ag (Alm k) k Tryz.f60 Aln Alo)
def Auo (k : Nat) : Sig := Af Aln Alo (Ayz k)
theorem Ay0 (k : Nat) : Ac Tryz.prog 60 (Auo k) := Ah (Alm k) (l := []) k rfl trivial Ad Tryz.func60 (by kernel_rfl)
def Yn : Sk := ⟨[.lf (.ptr 0 0), .lf (.pv .str)], [[.pv (.slice yt4)]], []⟩
def Ak6 : Sk := ⟨[.lf (.pv .bool)], Yn.boxes, []⟩
def Ak4 (k : Nat) : Cfg := mkC [] 62 1 0
def D5 (k : Nat) : H62 → Option ((Bool) × (List (YT4))) := hid (Ag (Ak4 k) k Tryz.f59 Yn Ak6)
def G7 (k : Nat) : Sig := Af Yn Ak6 (D5 k)
noncomputable def Ak5 (k : Nat) : H62 → Option ((Bool) × (List (YT4)))
 | (a0, a1) => idx zt4 a1 (0 : Int) fun o1 => some ((o1.2.1 == a0), a1)
theorem A3v (k : Nat) (x : H62) : D5 k x = Ak5 k x := (Ae _ _).trans (by kernel_rfl)
theorem Hn (k : Nat) : Ac Tryz.prog 59 (G7 k) := Ah (Ak4 k) (l := []) k rfl trivial Ad Tryz.func59 (by kernel_rfl)
def Rp : Sk := ⟨[.lf (.ptr 0 0), .lf (.pv (.int .i64))], [[.pv (.slice yt4)]], []⟩
def Yl : Sk := ⟨[], Rp.boxes, []⟩
def Ak1 (k : Nat) : Cfg := mkC [] 62 1 0
def B0 (k : Nat) : ((Int) × (List (YT4))) → Option H63 := hid (Ba (Ak1 k) k Tryz.f61 Rp Yl 75 [(.int .i64), (.int .i64)] true)
def Eh (k : Nat) : Sig := ⟨Rp, Yl, Bd Rp.tys Yl.tys 75 [(.int .i64), (.int .i64)] true (B0 k)⟩
noncomputable def Ak2 (k : Nat) : ((Int) × (List (YT4))) → Option H63
 | (a0, a1) => idx zt4 a1 (0 : Int) fun o1 => some (.inr (a0, o1.2.2.2.1))
theorem A3u (k : Nat) (x : ((Int) × (List (YT4)))) : B0 k x = Ak2 k x := (Ae _ _).trans (by kernel_rfl)
theorem Ep (k : Nat) : Ac Tryz.prog 61 (Eh k) := Bv (Ak1 k) (l := []) k 75 [(.int .i64), (.int .i64)] true rfl trivial Ad Tryz.func61 (by kernel_rfl)
def Y1 : Sk := ⟨[.lf (.ptr 0 0)], [[.pv (.slice yt4)]], []⟩
def All : Sk := ⟨[.agg [.pv (.int .i64), .pv .str, .pv (.int .i64), .pv (.int .i64)]], Y1.boxes, []⟩
def Alj (k : Nat) : Cfg := { mkC [] 70 1 0 with bl := [58, 60] }
def D6 (k : Nat) : (List (YT4)) → Option H64 := hid (Ag (Alj k) k Tryz.f60 Y1 All)
def Jf (k : Nat) : Sig := Af Y1 All (D6 k)
noncomputable def Alk (k : Nat) : (List (YT4)) → Option H64
 | a0 => idx zt4 a0 (0 : Int) fun o1 => bif (o1.1 != (0 : Int)) then (cut a0 (1 : Int) (((List.length a0) : Nat) : Int) fun o2 => some (o1.1, o1.2.1, o1.2.2.1, o1.2.2.2.1, o2)) else (some (o1.1, o1.2.1, o1.2.2.1, o1.2.2.2.1, a0))
theorem A4h (k : Nat) (x : (List (YT4))) : D6 k x = Alk k x := (Ae _ _).trans (by kernel_rfl)
theorem Ju (k : Nat) : Ac Tryz.prog 60 (Jf k) := Ah (Alj k) (l := []) k rfl trivial Ad Tryz.func60 (by kernel_rfl)
abbrev H65 : Type := (List (List Int)) × (Int) × (Int) × (List (YT4))
abbrev H66 : Type := (List (List Int)) × (List (YT4))
def R8 : Sk := ⟨[.lf (.ptr 0 0), .lf (.pv (.slice .str))], [[.own 0]], [some (83, yt4)]⟩
def R9 : Sk := ⟨[], [[.pv (.slice yt4)]], [none]⟩
def Aly : Sk := ⟨sparse 21 [(0, .lf (.ptr 0 0)), (6, .lf (.pv (.slice .str))), (7, .lf (.pv (.int .i64))), (8, .lf (.pv (.int .i64)))], [[.pv (.slice yt4)]], [none]⟩
abbrev Y7 := H65
def J9 : Y7 → St := stOf Aly 69
def A4q (k : Nat) : EnvL := [(59, [Aui k, G7 k]), (61, [Auh k, Eh k]), (60, [Auo k, Jf k])]
def E5 (k : Nat) : FnX H63 := mkXP ({ mkC (A4q k) 69 1 1 with hint := fun i => look none [(1, some Aly)] i }) k Tryz.f55 R9 75 [(.int .i64), (.int .i64)] true
def Qg (k : Nat) : H66 → Option H63 := hid (Ba (E5 k).C k Tryz.f55 R8 R9 75 [(.int .i64), (.int .i64)] true)
def Aus (k : Nat) : Sig := ⟨R8, R9, Bd R8.tys R9.tys 75 [(.int .i64), (.int .i64)] true (Qg k)⟩
noncomputable def Y8 (k : Nat) (J : JF H63) (L : LF H63) : H66 → Option H63
 | (a0, a1) => L 1 [] k (J9 (a0, ((List.length a0 : Nat) : Int), (0 : Int), a1))
theorem A4r (k : Nat) (x : H66) : Qg k x = Y8 k (E5 k).J (E5 k).L x := by
 refine (Ae _ _).trans ?_; apply cutX (E5 k) [] [] (st0 (E5 k).C Tryz.f55 R8 x) [] [(1, [], k)] (Y8 k · · x) <;> intros <;> kernel_rfl
noncomputable def R7 (k j1 : Nat) (J : JF H63) (L : LF H63) : Y7 → Option H63
 | (a0, a1, a2, a3) => bif (decide (a2 < a1)) then (idx [] a0 a2 fun o1 => ((D5 k) (o1, a3)).bind fun o2 => bif (!o2.1) then (((B0 k) ((50 : Int), o2.2)).bind (orP (fun o3 => ((D6 k) (o3)).bind fun o5 => L 1 [] j1 (J9 (a0, a1, (IntKind.wrap .i64 (a2 + (1 : Int))), o5.2.2.2.2))) (fun o4 => some (.inr (o4.1, o4.2))))) else (((D6 k) (o2.2)).bind fun o6 => L 1 [] j1 (J9 (a0, a1, (IntKind.wrap .i64 (a2 + (1 : Int))), o6.2.2.2.2)))) else (some (.inl a3))
theorem Alx (k j1 : Nat) (x : Y7) : (E5 k).L 1 [] (j1 + 1) (J9 x) = R7 k j1 (E5 k).J (E5 k).L x := by
 apply cutX (E5 k) [.r, .b, .b] [j1] (J9 x) [] [(1, [], j1)] (R7 k j1 · · x) <;> intros <;> kernel_rfl
theorem Ay4 (k : Nat) : Ac Tryz.prog 55 (Aus k) := Bv (E5 k).C k 75 [(.int .i64), (.int .i64)] true rfl ⟨⟨Ayt k, Hn k, trivial⟩, ⟨Ayr k, Ep k, trivial⟩, ⟨Ay0 k, Ju k, trivial⟩, trivial⟩ Ad Tryz.func55 (by kernel_rfl)
abbrev H67 : Type := ((Int) × (List (YT4))) ⊕ ((Int) × (Int))
def Rv : Sk := ⟨[.lf (.ptr 0 0), .lf (.pv (.slice .str))], [[.own 0]], [some (83, yt4)]⟩
def Rw : Sk := ⟨[.lf (.pv (.int .i64))], [[.pv (.slice yt4)]], [none]⟩
def Alb : Sk := ⟨sparse 21 [(0, .lf (.ptr 0 0))], [[.pv (.slice yt4)]], [none]⟩
abbrev A35 := (List (YT4))
def Ru : A35 → St := stOf Alb 69
def A34 (k : Nat) : EnvL := [(55, [Aus k]), (61, [Eh k]), (60, [Jf k])]
def Fy (k : Nat) : FnX H67 := mkXP ({ mkC (A34 k) 69 1 1 with hint := fun i => look none [(4, some Alb)] i }) k Tryz.f54 Rw 75 [(.int .i64), (.int .i64)] true
def P9 (k : Nat) : H66 → Option H67 := hid (Ba (Fy k).C k Tryz.f54 Rv Rw 75 [(.int .i64), (.int .i64)] true)
def Auj (k : Nat) : Sig := ⟨Rv, Rw, Bd Rv.tys Rw.tys 75 [(.int .i64), (.int .i64)] true (P9 k)⟩
noncomputable def Yt (k : Nat) (J : JF H67) (L : LF H67) : H66 → Option H67
 | (a0, a1) => ((Qg k) (a0, a1)).bind (orP (fun o1 => idx zt4 o1 (0 : Int) fun o3 => bif (o3.1 != (2 : Int)) then (((B0 k) ((50 : Int), o1)).bind (orP (fun o4 => J 4 [] (Ru (o4))) (fun o5 => some (.inr (o5.1, o5.2))))) else (J 4 [] (Ru (o1)))) (fun o2 => some (.inr (o2.1, o2.2))))
theorem A36 (k : Nat) (x : H66) : P9 k x = Yt k (Fy k).J (Fy k).L x := by
 refine (Ae _ _).trans ?_; apply cutX (Fy k) [] [] (st0 (Fy k).C Tryz.f54 Rv x) [(4, [])] [] (Yt k · · x) <;> intros <;> kernel_rfl
noncomputable def Yu (k : Nat) (J : JF H67) (L : LF H67) : (List (YT4)) → Option H67
 | a0 => ((D6 k) (a0)).bind fun o1 => some (.inl (o1.2.2.1, o1.2.2.2.2))
theorem A37 (k : Nat) (x : (List (YT4))) : (Fy k).J 4 [] (Ru x) = Yu k (Fy k).J (Fy k).L x := by
 apply cutX (Fy k) [.r, .r, .r] [] (Ru x) [(4, [])] [] (Yu k · · x) <;> intros <;> kernel_rfl
theorem Ayu (k : Nat) : Ac Tryz.prog 54 (Auj k) := Bv (Fy k).C k 75 [(.int .i64), (.int .i64)] true rfl ⟨⟨Ay4 k, trivial⟩, ⟨Ep k, trivial⟩, ⟨Ju k, trivial⟩, trivial⟩ Ad Tryz.func54 (by kernel_rfl)
def Nf : Sk := ⟨[.lf (.ptr 0 0), .lf (.pv (.slice .str))], [[.pv (.slice yt4)]], []⟩
def R6 : Sk := ⟨[], Nf.boxes, []⟩
def Alw : Sk := ⟨sparse 21 [(0, .lf (.ptr 0 0)), (6, .lf (.pv (.slice .str))), (7, .lf (.pv (.int .i64))), (8, .lf (.pv (.int .i64)))], [[.pv (.slice yt4)]], []⟩
abbrev Y5 := H65
def J8 : Y5 → St := stOf Alw 69
def A4o (k : Nat) : EnvL := [(59, [G7 k]), (61, [Eh k]), (60, [Jf k])]
def E6 (k : Nat) : FnX H63 := mkXP ({ mkC (A4o k) 69 1 0 with hint := fun i => look none [(1, some Alw)] i }) k Tryz.f55 R6 75 [(.int .i64), (.int .i64)] true
def Bu (k : Nat) : H66 → Option H63 := hid (Ba (E6 k).C k Tryz.f55 Nf R6 75 [(.int .i64), (.int .i64)] true)
def Dz (k : Nat) : Sig := ⟨Nf, R6, Bd Nf.tys R6.tys 75 [(.int .i64), (.int .i64)] true (Bu k)⟩
noncomputable def Y6 (k : Nat) (J : JF H63) (L : LF H63) : H66 → Option H63
 | (a0, a1) => L 1 [] k (J8 (a0, ((List.length a0 : Nat) : Int), (0 : Int), a1))
theorem A4p (k : Nat) (x : H66) : Bu k x = Y6 k (E6 k).J (E6 k).L x := by
 refine (Ae _ _).trans ?_; apply cutX (E6 k) [] [] (st0 (E6 k).C Tryz.f55 Nf x) [] [(1, [], k)] (Y6 k · · x) <;> intros <;> kernel_rfl
noncomputable def R5 (k j1 : Nat) (J : JF H63) (L : LF H63) : Y5 → Option H63
 | (a0, a1, a2, a3) => bif (decide (a2 < a1)) then (idx [] a0 a2 fun o1 => ((D5 k) (o1, a3)).bind fun o2 => bif (!o2.1) then (((B0 k) ((50 : Int), o2.2)).bind (orP (fun o3 => ((D6 k) (o3)).bind fun o5 => L 1 [] j1 (J8 (a0, a1, (IntKind.wrap .i64 (a2 + (1 : Int))), o5.2.2.2.2))) (fun o4 => some (.inr (o4.1, o4.2))))) else (((D6 k) (o2.2)).bind fun o6 => L 1 [] j1 (J8 (a0, a1, (IntKind.wrap .i64 (a2 + (1 : Int))), o6.2.2.2.2)))) else (some (.inl a3))
theorem Alv (k j1 : Nat) (x : Y5) : (E6 k).L 1 [] (j1 + 1) (J8 x) = R5 k j1 (E6 k).J (E6 k).L x := by
 apply cutX (E6 k) [.r, .b, .b] [j1] (J8 x) [] [(1, [], j1)] (R5 k j1 · · x) <;> intros <;> kernel_rfl
theorem D7 (k : Nat) : Ac Tryz.prog 55 (Dz k) := Bv (E6 k).C k 75 [(.int .i64), (.int .i64)] true rfl ⟨⟨Hn k, trivial⟩, ⟨Ep k, trivial⟩, ⟨Ju k, trivial⟩, trivial⟩ Ad Tryz.func55 (by kernel_rfl)
abbrev H68 : Type := ((List Int) × (List (YT4))) ⊕ ((Int) × (Int))
def Nc : Sk := ⟨[.lf (.ptr 0 0)], [[.pv (.slice yt4)]], []⟩
def Rr : Sk := ⟨[.lf (.pv .str)], Nc.boxes, []⟩
def Ak9 : Sk := ⟨sparse 23 [(0, .lf (.ptr 0 0))], [[.pv (.slice yt4)]], []⟩
abbrev A3x := (List (YT4))
def Nb : A3x → St := stOf Ak9 71
def A3w (k : Nat) : EnvL := [(61, [Eh k]), (78, [Ad4 k]), (60, [Jf k])]
def Fx (k : Nat) : FnX H68 := mkXP ({ mkC (A3w k) 71 1 0 with hint := fun i => look none [(4, some Ak9)] i, bl := [58, 60] }) k Tryz.f88 Rr 75 [(.int .i64), (.int .i64)] true
def Js (k : Nat) : (List (YT4)) → Option H68 := hid (Ba (Fx k).C k Tryz.f88 Nc Rr 75 [(.int .i64), (.int .i64)] true)
def Uf (k : Nat) : Sig := ⟨Nc, Rr, Bd Nc.tys Rr.tys 75 [(.int .i64), (.int .i64)] true (Js k)⟩
noncomputable def Yp (k : Nat) (J : JF H68) (L : LF H68) : (List (YT4)) → Option H68
 | a0 => idx zt4 a0 (0 : Int) fun o1 => bif (o1.1 != (1 : Int)) then (((B0 k) ((50 : Int), a0)).bind (orP (fun o2 => J 4 [] (Nb (o2))) (fun o3 => some (.inr (o3.1, o3.2))))) else (((L5 k) (o1.2.1)).bind fun o4 => bif o4 then (((B0 k) ((50 : Int), a0)).bind (orP (fun o5 => J 4 [] (Nb (o5))) (fun o6 => some (.inr (o6.1, o6.2))))) else (J 4 [] (Nb (a0))))
theorem A3y (k : Nat) (x : (List (YT4))) : Js k x = Yp k (Fx k).J (Fx k).L x := by
 refine (Ae _ _).trans ?_; apply cutX (Fx k) [] [] (st0 (Fx k).C Tryz.f88 Nc x) [(4, [])] [] (Yp k · · x) <;> intros <;> kernel_rfl
noncomputable def Yq (k : Nat) (J : JF H68) (L : LF H68) : (List (YT4)) → Option H68
 | a0 => ((D6 k) (a0)).bind fun o1 => some (.inl (o1.2.1, o1.2.2.2.2))
theorem A3z (k : Nat) (x : (List (YT4))) : (Fx k).J 4 [] (Nb x) = Yq k (Fx k).J (Fx k).L x := by
 apply cutX (Fx k) [.r, .r] [] (Nb x) [(4, [])] [] (Yq k · · x) <;> intros <;> kernel_rfl
theorem Vr (k : Nat) : Ac Tryz.prog 88 (Uf k) := Bv (Fx k).C k 75 [(.int .i64), (.int .i64)] true rfl ⟨⟨Ep k, trivial⟩, ⟨Afo k, trivial⟩, ⟨Ju k, trivial⟩, trivial⟩ Ad Tryz.func88 (by kernel_rfl)
def Nd : Sk := ⟨[.lf (.ptr 0 0), .lf (.pv (.slice .str))], [[.pv (.slice yt4)]], []⟩
def Rt : Sk := ⟨[.lf (.pv (.int .i64))], Nd.boxes, []⟩
def Ala : Sk := ⟨sparse 21 [(0, .lf (.ptr 0 0))], [[.pv (.slice yt4)]], []⟩
abbrev A31 := (List (YT4))
def Rs : A31 → St := stOf Ala 69
def A30 (k : Nat) : EnvL := [(55, [Dz k]), (61, [Eh k]), (60, [Jf k])]
def Fz (k : Nat) : FnX H67 := mkXP ({ mkC (A30 k) 69 1 0 with hint := fun i => look none [(4, some Ala)] i }) k Tryz.f54 Rt 75 [(.int .i64), (.int .i64)] true
def Dj (k : Nat) : H66 → Option H67 := hid (Ba (Fz k).C k Tryz.f54 Nd Rt 75 [(.int .i64), (.int .i64)] true)
def K8 (k : Nat) : Sig := ⟨Nd, Rt, Bd Nd.tys Rt.tys 75 [(.int .i64), (.int .i64)] true (Dj k)⟩
noncomputable def Yr (k : Nat) (J : JF H67) (L : LF H67) : H66 → Option H67
 | (a0, a1) => ((Bu k) (a0, a1)).bind (orP (fun o1 => idx zt4 o1 (0 : Int) fun o3 => bif (o3.1 != (2 : Int)) then (((B0 k) ((50 : Int), o1)).bind (orP (fun o4 => J 4 [] (Rs (o4))) (fun o5 => some (.inr (o5.1, o5.2))))) else (J 4 [] (Rs (o1)))) (fun o2 => some (.inr (o2.1, o2.2))))
theorem A32 (k : Nat) (x : H66) : Dj k x = Yr k (Fz k).J (Fz k).L x := by
 refine (Ae _ _).trans ?_; apply cutX (Fz k) [] [] (st0 (Fz k).C Tryz.f54 Nd x) [(4, [])] [] (Yr k · · x) <;> intros <;> kernel_rfl
noncomputable def Ys (k : Nat) (J : JF H67) (L : LF H67) : (List (YT4)) → Option H67
 | a0 => ((D6 k) (a0)).bind fun o1 => some (.inl (o1.2.2.1, o1.2.2.2.2))
theorem A33 (k : Nat) (x : (List (YT4))) : (Fz k).J 4 [] (Rs x) = Ys k (Fz k).J (Fz k).L x := by
 apply cutX (Fz k) [.r, .r, .r] [] (Rs x) [(4, [])] [] (Ys k · · x) <;> intros <;> kernel_rfl
theorem Mh (k : Nat) : Ac Tryz.prog 54 (K8 k) := Bv (Fz k).C k 75 [(.int .i64), (.int .i64)] true rfl ⟨⟨D7 k, trivial⟩, ⟨Ep k, trivial⟩, ⟨Ju k, trivial⟩, trivial⟩ Ad Tryz.func54 (by kernel_rfl)
abbrev H69 : Type := ((List Int) × (Int) × (Int) × (List (YT4))) ⊕ ((Int) × (Int))
def R3 : Sk := ⟨[.lf (.ptr 0 0)], [[.pv (.slice yt4)]], []⟩
def Y3 : Sk := ⟨[.agg [.pv .str, .pv (.int .i64), .pv (.int .i64)]], R3.boxes, []⟩
def A4k (k : Nat) : EnvL := [(88, [Uf k]), (54, [K8 k])]
def Alr (k : Nat) : Cfg := { mkC (A4k k) 59 1 0 with bl := [58, 60] }
def Qf (k : Nat) : (List (YT4)) → Option H69 := hid (Ba (Alr k) k Tryz.f138 R3 Y3 75 [(.int .i64), (.int .i64)] true)
def Auq (k : Nat) : Sig := ⟨R3, Y3, Bd R3.tys Y3.tys 75 [(.int .i64), (.int .i64)] true (Qf k)⟩
noncomputable def Als (k : Nat) : (List (YT4)) → Option H69
 | a0 => ((Js k) (a0)).bind (orP (fun o1 => ((Dj k) ([], o1.2)).bind (orP (fun o3 => ((Dj k) (([([102, 108, 97, 115, 104] : List Int)] : List (List Int)), o3.2)).bind (orP (fun o5 => some (.inl (o1.1, o3.1, o5.1, o5.2))) (fun o6 => some (.inr (o6.1, o6.2))))) (fun o4 => some (.inr (o4.1, o4.2))))) (fun o2 => some (.inr (o2.1, o2.2))))
theorem A4l (k : Nat) (x : (List (YT4))) : Qf k x = Als k x := (Ae _ _).trans (by kernel_rfl)
theorem Ay2 (k : Nat) : Ac Tryz.prog 138 (Auq k) := Bv (Alr k) k 75 [(.int .i64), (.int .i64)] true rfl ⟨⟨Vr k, trivial⟩, ⟨Mh k, trivial⟩, trivial⟩ Ad Tryz.func138 (by kernel_rfl)
abbrev H70 : Type := (List Int) × (Int) × (Int) × (List (YT4)) × (List (YT0))
abbrev H71 : Type := (List Int) × (Int) × (Int) × (List (YT4))
abbrev H72 : Type := ((List (YT4)) × (List (YT0))) ⊕ ((Int) × (Int))
def Nk : Sk := ⟨[.lf (.ptr 0 0), .lf (.pv .str), .lf (.pv (.int .i64)), .lf (.pv (.int .i64)), .lf (.fn 138 [(0, 0)] [])], [[.pv (.slice yt4)]], []⟩
def Se : Sk := ⟨[.lf (.own 0)], Nk.boxes, [some (54, yt0)]⟩
def Al7 : Sk := ⟨sparse 37 [(0, .lf (.ptr 0 0)), (1, .lf (.pv .str)), (2, .lf (.pv (.int .i64))), (3, .lf (.pv (.int .i64))), (4, .lf (.fn 138 [(0, 0)] [])), (11, .lf (.own 0))], [[.pv (.slice yt4)]], [some (54, yt0)]⟩
abbrev Zt := H70
def Ke : Zt → St := stOf Al7 85
def Al8 : Sk := ⟨sparse 37 [(0, .lf (.ptr 0 0)), (1, .lf (.pv .str)), (2, .lf (.pv (.int .i64))), (3, .lf (.pv (.int .i64))), (4, .lf (.fn 138 [(0, 0)] [])), (11, .lf (.own 0))], [[.pv (.slice yt4)]], [some (54, yt0)]⟩
abbrev Zu := H70
def I2 : Zu → St := stOf Al8 85
def A48 (k : Nat) : EnvL := [(59, [G7 k]), (61, [Eh k]), (55, [Dz k]), (138, [Auq k])]
def Cz (k : Nat) : FnX H72 := mkXP ({ mkC (A48 k) 85 1 0 with hint := fun i => look none [(2, some Al7), (5, some Al8)] i }) k Tryz.f137 Se 75 [(.int .i64), (.int .i64)] true
def Ql (k : Nat) : H71 → Option H72 := hid (Ba (Cz k).C k Tryz.f137 Nk Se 75 [(.int .i64), (.int .i64)] true)
def Aux (k : Nat) : Sig := ⟨Nk, Se, Bd Nk.tys Se.tys 75 [(.int .i64), (.int .i64)] true (Ql k)⟩
noncomputable def Zv (k : Nat) (J : JF H72) (L : LF H72) : H71 → Option H72
 | (a0, a1, a2, a3) => L 2 [] k (Ke (a0, a1, a2, a3, []))
theorem A49 (k : Nat) (x : H71) : Ql k x = Zv k (Cz k).J (Cz k).L x := by
 refine (Ae _ _).trans ?_; apply cutX (Cz k) [] [] (st0 (Cz k).C Tryz.f137 Nk x) [] [(2, [], k)] (Zv k · · x) <;> intros <;> kernel_rfl
noncomputable def Zx (k j2 : Nat) (J : JF H72) (L : LF H72) : Zt → Option H72
 | (a0, a1, a2, a3, a4) => ((D5 k) (a0, a3)).bind fun o1 => bif o1.1 then (bif (((List.length a4 : Nat) : Int) == a2) then (((B0 k) ((4 : Int), o1.2)).bind (orP (fun o2 => J 5 [j2] (I2 (a0, a1, a2, o2, a4))) (fun o3 => some (.inr (o3.1, o3.2))))) else (J 5 [j2] (I2 (a0, a1, a2, o1.2, a4)))) else (bif (decide (((List.length a4 : Nat) : Int) < a1)) then (bif (((List.length a4 : Nat) : Int) == a2) then (((B0 k) ((4 : Int), o1.2)).bind (orP (fun o4 => J 5 [j2] (I2 (a0, a1, a2, o4, a4))) (fun o5 => some (.inr (o5.1, o5.2))))) else (J 5 [j2] (I2 (a0, a1, a2, o1.2, a4)))) else (some (.inl (o1.2, a4))))
theorem A5b (k j2 : Nat) (x : Zt) : (Cz k).L 2 [] (j2 + 1) (Ke x) = Zx k j2 (Cz k).J (Cz k).L x := by
 apply cutX (Cz k) [.r, .r, .l, .b, .b] [j2] (Ke x) [(5, [j2])] [(2, [], j2)] (Zx k j2 · · x) <;> intros <;> kernel_rfl
noncomputable def Zw (k j2 : Nat) (J : JF H72) (L : LF H72) : Zu → Option H72
 | (a0, a1, a2, a3, a4) => ((Bu k) (([a0] : List (List Int)), a3)).bind (orP (fun o1 => ((Qf k) (o1)).bind (orP (fun o3 => app 32 a4 ([(o3.1, (o3.2.1, (o3.2.2.1, ())))] : List (YT0)) fun o5 => L 2 [] j2 (Ke (a0, a1, a2, o3.2.2.2, o5))) (fun o4 => some (.inr (o4.1, o4.2))))) (fun o2 => some (.inr (o2.1, o2.2))))
theorem A5a (k j2 : Nat) (x : Zu) : (Cz k).J 5 [j2] (I2 x) = Zw k j2 (Cz k).J (Cz k).L x := by
 apply cutX (Cz k) [.r, .r, .l, .b, .b, .r, .b, .r] [j2] (I2 x) [(5, [j2])] [(2, [], j2)] (Zw k j2 · · x) <;> intros <;> kernel_rfl
theorem Ay9 (k : Nat) : Ac Tryz.prog 137 (Aux k) := Bv (Cz k).C k 75 [(.int .i64), (.int .i64)] true rfl ⟨⟨Hn k, trivial⟩, ⟨Ep k, trivial⟩, ⟨D7 k, trivial⟩, ⟨Ay2 k, trivial⟩, trivial⟩ Ad Tryz.func137 (by kernel_rfl)
abbrev H73 : Type := ((List Int) × (Int) × (Int) × (Int) × (List (YT4)) × (List (YT0))) ⊕ ((Int) × (Int))
def R0 : Sk := ⟨[.lf (.ptr 0 0)], [[.pv (.slice yt4)]], []⟩
def Yz : Sk := ⟨[.agg [.pv .str, .pv (.int .i64), .pv (.int .i64), .pv (.int .i64), .own 0]], R0.boxes, [some (54, yt0)]⟩
def A4d (k : Nat) : EnvL := [(88, [Uf k]), (54, [K8 k]), (137, [Aux k]), (55, [Dz k])]
def Alf (k : Nat) : Cfg := { mkC (A4d k) 74 1 0 with bl := [58, 60] }
def Qc (k : Nat) : (List (YT4)) → Option H73 := hid (Ba (Alf k) k Tryz.f126 R0 Yz 75 [(.int .i64), (.int .i64)] true)
def Aum (k : Nat) : Sig := ⟨R0, Yz, Bd R0.tys Yz.tys 75 [(.int .i64), (.int .i64)] true (Qc k)⟩
noncomputable def Alg (k : Nat) : (List (YT4)) → Option H73
 | a0 => ((Js k) (a0)).bind (orP (fun o1 => ((Dj k) (([([115, 112, 108, 105, 116] : List Int)] : List (List Int)), o1.2)).bind (orP (fun o3 => ((Dj k) (([([121, 101, 108, 108, 111, 119] : List Int)] : List (List Int)), o3.2)).bind (orP (fun o5 => ((Dj k) (([([114, 101, 100] : List Int)] : List (List Int)), o5.2)).bind (orP (fun o7 => ((Ql k) (([119, 97, 108, 107] : List Int), (0 : Int), (8 : Int), o7.2)).bind (orP (fun o9 => ((Bu k) (([([59] : List Int)] : List (List Int)), o9.1)).bind (orP (fun o11 => some (.inl (o1.1, o3.1, o5.1, o7.1, o11, o9.2))) (fun o12 => some (.inr (o12.1, o12.2))))) (fun o10 => some (.inr (o10.1, o10.2))))) (fun o8 => some (.inr (o8.1, o8.2))))) (fun o6 => some (.inr (o6.1, o6.2))))) (fun o4 => some (.inr (o4.1, o4.2))))) (fun o2 => some (.inr (o2.1, o2.2))))
theorem A4e (k : Nat) (x : (List (YT4))) : Qc k x = Alg k x := (Ae _ _).trans (by kernel_rfl)
theorem Ayx (k : Nat) : Ac Tryz.prog 126 (Aum k) := Bv (Alf k) k 75 [(.int .i64), (.int .i64)] true rfl ⟨⟨Vr k, trivial⟩, ⟨Mh k, trivial⟩, ⟨Ay9 k, trivial⟩, ⟨D7 k, trivial⟩, trivial⟩ Ad Tryz.func126 (by kernel_rfl)
abbrev H74 : Type := (List Int) × (Int) × (Int) × (List (YT4)) × (List (YT1))
abbrev H75 : Type := ((List (YT4)) × (List (YT1))) ⊕ ((Int) × (Int))
def Nh : Sk := ⟨[.lf (.ptr 0 0), .lf (.pv .str), .lf (.pv (.int .i64)), .lf (.pv (.int .i64)), .lf (.fn 126 [(0, 0)] [])], [[.pv (.slice yt4)]], []⟩
def Sb : Sk := ⟨[.lf (.own 0)], Nh.boxes, [some (52, yt1)]⟩
def Al1 : Sk := ⟨sparse 37 [(0, .lf (.ptr 0 0)), (1, .lf (.pv .str)), (2, .lf (.pv (.int .i64))), (3, .lf (.pv (.int .i64))), (4, .lf (.fn 126 [(0, 0)] [])), (11, .lf (.own 0))], [[.pv (.slice yt4)]], [some (52, yt1)]⟩
abbrev Ze := H74
def Kb : Ze → St := stOf Al1 86
def Al2 : Sk := ⟨sparse 37 [(0, .lf (.ptr 0 0)), (1, .lf (.pv .str)), (2, .lf (.pv (.int .i64))), (3, .lf (.pv (.int .i64))), (4, .lf (.fn 126 [(0, 0)] [])), (11, .lf (.own 0))], [[.pv (.slice yt4)]], [some (52, yt1)]⟩
abbrev Zf := H74
def Iz : Zf → St := stOf Al2 86
def A4w (k : Nat) : EnvL := [(59, [G7 k]), (61, [Eh k]), (55, [Dz k]), (126, [Aum k])]
def Cw (k : Nat) : FnX H75 := mkXP ({ mkC (A4w k) 86 1 0 with hint := fun i => look none [(2, some Al1), (5, some Al2)] i }) k Tryz.f136 Sb 75 [(.int .i64), (.int .i64)] true
def Qi (k : Nat) : H71 → Option H75 := hid (Ba (Cw k).C k Tryz.f136 Nh Sb 75 [(.int .i64), (.int .i64)] true)
def Auu (k : Nat) : Sig := ⟨Nh, Sb, Bd Nh.tys Sb.tys 75 [(.int .i64), (.int .i64)] true (Qi k)⟩
noncomputable def Zg (k : Nat) (J : JF H75) (L : LF H75) : H71 → Option H75
 | (a0, a1, a2, a3) => L 2 [] k (Kb (a0, a1, a2, a3, []))
theorem A4x (k : Nat) (x : H71) : Qi k x = Zg k (Cw k).J (Cw k).L x := by
 refine (Ae _ _).trans ?_; apply cutX (Cw k) [] [] (st0 (Cw k).C Tryz.f136 Nh x) [] [(2, [], k)] (Zg k · · x) <;> intros <;> kernel_rfl
noncomputable def Zi (k j2 : Nat) (J : JF H75) (L : LF H75) : Ze → Option H75
 | (a0, a1, a2, a3, a4) => ((D5 k) (a0, a3)).bind fun o1 => bif o1.1 then (bif (((List.length a4 : Nat) : Int) == a2) then (((B0 k) ((4 : Int), o1.2)).bind (orP (fun o2 => J 5 [j2] (Iz (a0, a1, a2, o2, a4))) (fun o3 => some (.inr (o3.1, o3.2))))) else (J 5 [j2] (Iz (a0, a1, a2, o1.2, a4)))) else (bif (decide (((List.length a4 : Nat) : Int) < a1)) then (bif (((List.length a4 : Nat) : Int) == a2) then (((B0 k) ((4 : Int), o1.2)).bind (orP (fun o4 => J 5 [j2] (Iz (a0, a1, a2, o4, a4))) (fun o5 => some (.inr (o5.1, o5.2))))) else (J 5 [j2] (Iz (a0, a1, a2, o1.2, a4)))) else (some (.inl (o1.2, a4))))
theorem A4z (k j2 : Nat) (x : Ze) : (Cw k).L 2 [] (j2 + 1) (Kb x) = Zi k j2 (Cw k).J (Cw k).L x := by
 apply cutX (Cw k) [.r, .r, .l, .b, .b] [j2] (Kb x) [(5, [j2])] [(2, [], j2)] (Zi k j2 · · x) <;> intros <;> kernel_rfl
noncomputable def Zh (k j2 : Nat) (J : JF H75) (L : LF H75) : Zf → Option H75
 | (a0, a1, a2, a3, a4) => ((Bu k) (([a0] : List (List Int)), a3)).bind (orP (fun o1 => ((Qc k) (o1)).bind (orP (fun o3 => app 64 a4 ([(o3.1, (o3.2.1, (o3.2.2.1, (o3.2.2.2.1, (o3.2.2.2.2.2, ())))))] : List (YT1)) fun o5 => L 2 [] j2 (Kb (a0, a1, a2, o3.2.2.2.2.1, o5))) (fun o4 => some (.inr (o4.1, o4.2))))) (fun o2 => some (.inr (o2.1, o2.2))))
theorem A4y (k j2 : Nat) (x : Zf) : (Cw k).J 5 [j2] (Iz x) = Zh k j2 (Cw k).J (Cw k).L x := by
 apply cutX (Cw k) [.r, .r, .l, .b, .b, .r, .b, .r] [j2] (Iz x) [(5, [j2])] [(2, [], j2)] (Zh k j2 · · x) <;> intros <;> kernel_rfl
theorem Ay6 (k : Nat) : Ac Tryz.prog 136 (Auu k) := Bv (Cw k).C k 75 [(.int .i64), (.int .i64)] true rfl ⟨⟨Hn k, trivial⟩, ⟨Ep k, trivial⟩, ⟨D7 k, trivial⟩, ⟨Ayx k, trivial⟩, trivial⟩ Ad Tryz.func136 (by kernel_rfl)
def Rn : Sk := ⟨[.lf (.ptr 0 0), .lf (.pv .str), .lf (.pv (.int .i64)), .lf (.pv (.int .i64)), .lf (.fn 126 [(0, 0)] [])], [[.pv (.slice yt4)]], []⟩
def Yj : Sk := ⟨[.lf (.own 0)], Rn.boxes, [some (52, yt1)]⟩
def A3l (k : Nat) : EnvL := [(55, [Dz k]), (136, [Auu k])]
def Akp (k : Nat) : Cfg := mkC (A3l k) 74 1 0
def P5 (k : Nat) : H71 → Option H75 := hid (Ba (Akp k) k Tryz.f125 Rn Yj 75 [(.int .i64), (.int .i64)] true)
def Aue (k : Nat) : Sig := ⟨Rn, Yj, Bd Rn.tys Yj.tys 75 [(.int .i64), (.int .i64)] true (P5 k)⟩
noncomputable def Akq (k : Nat) : H71 → Option H75
 | (a0, a1, a2, a3) => ((Bu k) (([([123] : List Int)] : List (List Int)), a3)).bind (orP (fun o1 => ((Qi k) (a0, a1, a2, o1)).bind (orP (fun o3 => ((Bu k) (([([125] : List Int)] : List (List Int)), o3.1)).bind (orP (fun o5 => some (.inl (o5, o3.2))) (fun o6 => some (.inr (o6.1, o6.2))))) (fun o4 => some (.inr (o4.1, o4.2))))) (fun o2 => some (.inr (o2.1, o2.2))))
theorem A3m (k : Nat) (x : H71) : P5 k x = Akq k x := (Ae _ _).trans (by kernel_rfl)
theorem Ayn (k : Nat) : Ac Tryz.prog 125 (Aue k) := Bv (Akp k) k 75 [(.int .i64), (.int .i64)] true rfl ⟨⟨D7 k, trivial⟩, ⟨Ay6 k, trivial⟩, trivial⟩ Ad Tryz.func125 (by kernel_rfl)
def Rz : Sk := ⟨[.lf (.ptr 0 0)], [[.pv (.slice yt4)]], []⟩
def Yy : Sk := ⟨[.lf (.own 0)], Rz.boxes, [some (52, yt1)]⟩
def A4b (k : Nat) : EnvL := [(125, [Aue k])]
def Ald (k : Nat) : Cfg := mkC (A4b k) 56 1 0
def Qb (k : Nat) : (List (YT4)) → Option H75 := hid (Ba (Ald k) k Tryz.f111 Rz Yy 75 [(.int .i64), (.int .i64)] true)
def Aul (k : Nat) : Sig := ⟨Rz, Yy, Bd Rz.tys Yy.tys 75 [(.int .i64), (.int .i64)] true (Qb k)⟩
noncomputable def Ale (k : Nat) : (List (YT4)) → Option H75
 | a0 => ((P5 k) (([112, 104, 97, 115, 101] : List Int), (1 : Int), (4 : Int), a0)).bind (orP (fun o1 => some (.inl (o1.1, o1.2))) (fun o2 => some (.inr (o2.1, o2.2))))
theorem A4c (k : Nat) (x : (List (YT4))) : Qb k x = Ale k x := (Ae _ _).trans (by kernel_rfl)
theorem Ayw (k : Nat) : Ac Tryz.prog 111 (Aul k) := Bv (Ald k) k 75 [(.int .i64), (.int .i64)] true rfl ⟨⟨Ayn k, trivial⟩, trivial⟩ Ad Tryz.func111 (by kernel_rfl)
abbrev H76 : Type := (List Int) × (Int) × (Int) × (List (YT4)) × (List (List (YT1)))
abbrev H77 : Type := ((List (YT4)) × (List (List (YT1)))) ⊕ ((Int) × (Int))
def Ng : Sk := ⟨[.lf (.ptr 0 0), .lf (.pv .str), .lf (.pv (.int .i64)), .lf (.pv (.int .i64)), .lf (.fn 111 [(0, 0)] [])], [[.pv (.slice yt4)]], []⟩
def Sa : Sk := ⟨[.lf (.own 0)], Ng.boxes, [some (49, (.slice yt1))]⟩
def Alz : Sk := ⟨sparse 37 [(0, .lf (.ptr 0 0)), (1, .lf (.pv .str)), (2, .lf (.pv (.int .i64))), (3, .lf (.pv (.int .i64))), (4, .lf (.fn 111 [(0, 0)] [])), (11, .lf (.own 0))], [[.pv (.slice yt4)]], [some (49, (.slice yt1))]⟩
abbrev Y9 := H76
def Ka : Y9 → St := stOf Alz 86
def Al0 : Sk := ⟨sparse 37 [(0, .lf (.ptr 0 0)), (1, .lf (.pv .str)), (2, .lf (.pv (.int .i64))), (3, .lf (.pv (.int .i64))), (4, .lf (.fn 111 [(0, 0)] [])), (11, .lf (.own 0))], [[.pv (.slice yt4)]], [some (49, (.slice yt1))]⟩
abbrev Za := H76
def Iy : Za → St := stOf Al0 86
def A4s (k : Nat) : EnvL := [(59, [G7 k]), (61, [Eh k]), (55, [Dz k]), (111, [Aul k])]
def Cv (k : Nat) : FnX H77 := mkXP ({ mkC (A4s k) 86 1 0 with hint := fun i => look none [(2, some Alz), (5, some Al0)] i }) k Tryz.f124 Sa 75 [(.int .i64), (.int .i64)] true
def Qh (k : Nat) : H71 → Option H77 := hid (Ba (Cv k).C k Tryz.f124 Ng Sa 75 [(.int .i64), (.int .i64)] true)
def Aut (k : Nat) : Sig := ⟨Ng, Sa, Bd Ng.tys Sa.tys 75 [(.int .i64), (.int .i64)] true (Qh k)⟩
noncomputable def Zb (k : Nat) (J : JF H77) (L : LF H77) : H71 → Option H77
 | (a0, a1, a2, a3) => L 2 [] k (Ka (a0, a1, a2, a3, []))
theorem A4t (k : Nat) (x : H71) : Qh k x = Zb k (Cv k).J (Cv k).L x := by
 refine (Ae _ _).trans ?_; apply cutX (Cv k) [] [] (st0 (Cv k).C Tryz.f124 Ng x) [] [(2, [], k)] (Zb k · · x) <;> intros <;> kernel_rfl
noncomputable def Zd (k j2 : Nat) (J : JF H77) (L : LF H77) : Y9 → Option H77
 | (a0, a1, a2, a3, a4) => ((D5 k) (a0, a3)).bind fun o1 => bif o1.1 then (bif (((List.length a4 : Nat) : Int) == a2) then (((B0 k) ((4 : Int), o1.2)).bind (orP (fun o2 => J 5 [j2] (Iy (a0, a1, a2, o2, a4))) (fun o3 => some (.inr (o3.1, o3.2))))) else (J 5 [j2] (Iy (a0, a1, a2, o1.2, a4)))) else (bif (decide (((List.length a4 : Nat) : Int) < a1)) then (bif (((List.length a4 : Nat) : Int) == a2) then (((B0 k) ((4 : Int), o1.2)).bind (orP (fun o4 => J 5 [j2] (Iy (a0, a1, a2, o4, a4))) (fun o5 => some (.inr (o5.1, o5.2))))) else (J 5 [j2] (Iy (a0, a1, a2, o1.2, a4)))) else (some (.inl (o1.2, a4))))
theorem A4v (k j2 : Nat) (x : Y9) : (Cv k).L 2 [] (j2 + 1) (Ka x) = Zd k j2 (Cv k).J (Cv k).L x := by
 apply cutX (Cv k) [.r, .r, .l, .b, .b] [j2] (Ka x) [(5, [j2])] [(2, [], j2)] (Zd k j2 · · x) <;> intros <;> kernel_rfl
noncomputable def Zc (k j2 : Nat) (J : JF H77) (L : LF H77) : Za → Option H77
 | (a0, a1, a2, a3, a4) => ((Bu k) (([a0] : List (List Int)), a3)).bind (orP (fun o1 => ((Qb k) (o1)).bind (orP (fun o3 => app 24 a4 ([o3.2] : List (List (YT1))) fun o5 => L 2 [] j2 (Ka (a0, a1, a2, o3.1, o5))) (fun o4 => some (.inr (o4.1, o4.2))))) (fun o2 => some (.inr (o2.1, o2.2))))
theorem A4u (k j2 : Nat) (x : Za) : (Cv k).J 5 [j2] (Iy x) = Zc k j2 (Cv k).J (Cv k).L x := by
 apply cutX (Cv k) [.r, .r, .l, .b, .b, .r, .b, .r] [j2] (Iy x) [(5, [j2])] [(2, [], j2)] (Zc k j2 · · x) <;> intros <;> kernel_rfl
theorem Ay5 (k : Nat) : Ac Tryz.prog 124 (Aut k) := Bv (Cv k).C k 75 [(.int .i64), (.int .i64)] true rfl ⟨⟨Hn k, trivial⟩, ⟨Ep k, trivial⟩, ⟨D7 k, trivial⟩, ⟨Ayw k, trivial⟩, trivial⟩ Ad Tryz.func124 (by kernel_rfl)
def Rm : Sk := ⟨[.lf (.ptr 0 0), .lf (.pv .str), .lf (.pv (.int .i64)), .lf (.pv (.int .i64)), .lf (.fn 111 [(0, 0)] [])], [[.pv (.slice yt4)]], []⟩
def Yi : Sk := ⟨[.lf (.own 0)], Rm.boxes, [some (49, (.slice yt1))]⟩
def A3j (k : Nat) : EnvL := [(55, [Dz k]), (124, [Aut k])]
def Akn (k : Nat) : Cfg := mkC (A3j k) 74 1 0
def P4 (k : Nat) : H71 → Option H77 := hid (Ba (Akn k) k Tryz.f110 Rm Yi 75 [(.int .i64), (.int .i64)] true)
def Aud (k : Nat) : Sig := ⟨Rm, Yi, Bd Rm.tys Yi.tys 75 [(.int .i64), (.int .i64)] true (P4 k)⟩
noncomputable def Ako (k : Nat) : H71 → Option H77
 | (a0, a1, a2, a3) => ((Bu k) (([([123] : List Int)] : List (List Int)), a3)).bind (orP (fun o1 => ((Qh k) (a0, a1, a2, o1)).bind (orP (fun o3 => ((Bu k) (([([125] : List Int)] : List (List Int)), o3.1)).bind (orP (fun o5 => some (.inl (o5, o3.2))) (fun o6 => some (.inr (o6.1, o6.2))))) (fun o4 => some (.inr (o4.1, o4.2))))) (fun o2 => some (.inr (o2.1, o2.2))))
theorem A3k (k : Nat) (x : H71) : P4 k x = Ako k x := (Ae _ _).trans (by kernel_rfl)
theorem Aym (k : Nat) : Ac Tryz.prog 110 (Aud k) := Bv (Akn k) k 75 [(.int .i64), (.int .i64)] true rfl ⟨⟨D7 k, trivial⟩, ⟨Ay5 k, trivial⟩, trivial⟩ Ad Tryz.func110 (by kernel_rfl)
def R1 : Sk := ⟨[.lf (.ptr 0 0)], [[.pv (.slice yt4)]], []⟩
def Y0 : Sk := ⟨[.agg [.own 0]], R1.boxes, [some (49, (.slice yt1))]⟩
def A4f (k : Nat) : EnvL := [(110, [Aud k])]
def Alh (k : Nat) : Cfg := { mkC (A4f k) 57 1 0 with bl := [58, 60] }
def Qd (k : Nat) : (List (YT4)) → Option H77 := hid (Ba (Alh k) k Tryz.f90 R1 Y0 75 [(.int .i64), (.int .i64)] true)
def Aun (k : Nat) : Sig := ⟨R1, Y0, Bd R1.tys Y0.tys 75 [(.int .i64), (.int .i64)] true (Qd k)⟩
noncomputable def Ali (k : Nat) : (List (YT4)) → Option H77
 | a0 => ((P4 k) (([114, 105, 110, 103] : List Int), (1 : Int), (2 : Int), a0)).bind (orP (fun o1 => some (.inl (o1.1, o1.2))) (fun o2 => some (.inr (o2.1, o2.2))))
theorem A4g (k : Nat) (x : (List (YT4))) : Qd k x = Ali k x := (Ae _ _).trans (by kernel_rfl)
theorem Ayy (k : Nat) : Ac Tryz.prog 90 (Aun k) := Bv (Alh k) k 75 [(.int .i64), (.int .i64)] true rfl ⟨⟨Aym k, trivial⟩, trivial⟩ Ad Tryz.func90 (by kernel_rfl)
end
noncomputable section
abbrev H78 : Type := (List Int) × (Int) × (Int) × (List (YT4)) × (List ((List (List (YT1))) × (Unit)))
abbrev H79 : Type := ((List (YT4)) × (List ((List (List (YT1))) × (Unit)))) ⊕ ((Int) × (Int))
def Ni : Sk := ⟨[.lf (.ptr 0 0), .lf (.pv .str), .lf (.pv (.int .i64)), .lf (.pv (.int .i64)), .lf (.fn 90 [(0, 0)] [])], [[.pv (.slice yt4)]], []⟩
def Sc : Sk := ⟨[.lf (.own 0)], Ni.boxes, [some (48, (.cons (.slice (.slice yt1)) .nil))]⟩
def Al3 : Sk := ⟨sparse 37 [(0, .lf (.ptr 0 0)), (1, .lf (.pv .str)), (2, .lf (.pv (.int .i64))), (3, .lf (.pv (.int .i64))), (4, .lf (.fn 90 [(0, 0)] [])), (11, .lf (.own 0))], [[.pv (.slice yt4)]], [some (48, (.cons (.slice (.slice yt1)) .nil))]⟩
abbrev Zj := H78
def Kc : Zj → St := stOf Al3 86
def Al4 : Sk := ⟨sparse 37 [(0, .lf (.ptr 0 0)), (1, .lf (.pv .str)), (2, .lf (.pv (.int .i64))), (3, .lf (.pv (.int .i64))), (4, .lf (.fn 90 [(0, 0)] [])), (11, .lf (.own 0))], [[.pv (.slice yt4)]], [some (48, (.cons (.slice (.slice yt1)) .nil))]⟩
abbrev Zk := H78
def I0 : Zk → St := stOf Al4 86
def A40 (k : Nat) : EnvL := [(59, [G7 k]), (61, [Eh k]), (55, [Dz k]), (90, [Aun k])]
def Cx (k : Nat) : FnX H79 := mkXP ({ mkC (A40 k) 86 1 0 with hint := fun i => look none [(2, some Al3), (5, some Al4)] i }) k Tryz.f109 Sc 75 [(.int .i64), (.int .i64)] true
def Qj (k : Nat) : H71 → Option H79 := hid (Ba (Cx k).C k Tryz.f109 Ni Sc 75 [(.int .i64), (.int .i64)] true)
def Auv (k : Nat) : Sig := ⟨Ni, Sc, Bd Ni.tys Sc.tys 75 [(.int .i64), (.int .i64)] true (Qj k)⟩
noncomputable def Zl (k : Nat) (J : JF H79) (L : LF H79) : H71 → Option H79
 | (a0, a1, a2, a3) => L 2 [] k (Kc (a0, a1, a2, a3, []))
theorem A41 (k : Nat) (x : H71) : Qj k x = Zl k (Cx k).J (Cx k).L x := by
 refine (Ae _ _).trans ?_; apply cutX (Cx k) [] [] (st0 (Cx k).C Tryz.f109 Ni x) [] [(2, [], k)] (Zl k · · x) <;> intros <;> kernel_rfl
noncomputable def Zn (k j2 : Nat) (J : JF H79) (L : LF H79) : Zj → Option H79
 | (a0, a1, a2, a3, a4) => ((D5 k) (a0, a3)).bind fun o1 => bif o1.1 then (bif (((List.length a4 : Nat) : Int) == a2) then (((B0 k) ((4 : Int), o1.2)).bind (orP (fun o2 => J 5 [j2] (I0 (a0, a1, a2, o2, a4))) (fun o3 => some (.inr (o3.1, o3.2))))) else (J 5 [j2] (I0 (a0, a1, a2, o1.2, a4)))) else (bif (decide (((List.length a4 : Nat) : Int) < a1)) then (bif (((List.length a4 : Nat) : Int) == a2) then (((B0 k) ((4 : Int), o1.2)).bind (orP (fun o4 => J 5 [j2] (I0 (a0, a1, a2, o4, a4))) (fun o5 => some (.inr (o5.1, o5.2))))) else (J 5 [j2] (I0 (a0, a1, a2, o1.2, a4)))) else (some (.inl (o1.2, a4))))
theorem A43 (k j2 : Nat) (x : Zj) : (Cx k).L 2 [] (j2 + 1) (Kc x) = Zn k j2 (Cx k).J (Cx k).L x := by
 apply cutX (Cx k) [.r, .r, .l, .b, .b] [j2] (Kc x) [(5, [j2])] [(2, [], j2)] (Zn k j2 · · x) <;> intros <;> kernel_rfl
noncomputable def Zm (k j2 : Nat) (J : JF H79) (L : LF H79) : Zk → Option H79
 | (a0, a1, a2, a3, a4) => ((Bu k) (([a0] : List (List Int)), a3)).bind (orP (fun o1 => ((Qd k) (o1)).bind (orP (fun o3 => app 24 a4 ([(o3.2, ())] : List ((List (List (YT1))) × (Unit))) fun o5 => L 2 [] j2 (Kc (a0, a1, a2, o3.1, o5))) (fun o4 => some (.inr (o4.1, o4.2))))) (fun o2 => some (.inr (o2.1, o2.2))))
theorem A42 (k j2 : Nat) (x : Zk) : (Cx k).J 5 [j2] (I0 x) = Zm k j2 (Cx k).J (Cx k).L x := by
 apply cutX (Cx k) [.r, .r, .l, .b, .b, .r, .b, .r] [j2] (I0 x) [(5, [j2])] [(2, [], j2)] (Zm k j2 · · x) <;> intros <;> kernel_rfl
theorem Ay7 (k : Nat) : Ac Tryz.prog 109 (Auv k) := Bv (Cx k).C k 75 [(.int .i64), (.int .i64)] true rfl ⟨⟨Hn k, trivial⟩, ⟨Ep k, trivial⟩, ⟨D7 k, trivial⟩, ⟨Ayy k, trivial⟩, trivial⟩ Ad Tryz.func109 (by kernel_rfl)
def Ro : Sk := ⟨[.lf (.ptr 0 0), .lf (.pv .str), .lf (.pv (.int .i64)), .lf (.pv (.int .i64)), .lf (.fn 90 [(0, 0)] [])], [[.pv (.slice yt4)]], []⟩
def Yk : Sk := ⟨[.lf (.own 0)], Ro.boxes, [some (48, (.cons (.slice (.slice yt1)) .nil))]⟩
def A3n (k : Nat) : EnvL := [(55, [Dz k]), (109, [Auv k])]
def Akr (k : Nat) : Cfg := mkC (A3n k) 74 1 0
def P6 (k : Nat) : H71 → Option H79 := hid (Ba (Akr k) k Tryz.f89 Ro Yk 75 [(.int .i64), (.int .i64)] true)
def Auf (k : Nat) : Sig := ⟨Ro, Yk, Bd Ro.tys Yk.tys 75 [(.int .i64), (.int .i64)] true (P6 k)⟩
noncomputable def Aks (k : Nat) : H71 → Option H79
 | (a0, a1, a2, a3) => ((Bu k) (([([123] : List Int)] : List (List Int)), a3)).bind (orP (fun o1 => ((Qj k) (a0, a1, a2, o1)).bind (orP (fun o3 => ((Bu k) (([([125] : List Int)] : List (List Int)), o3.1)).bind (orP (fun o5 => some (.inl (o5, o3.2))) (fun o6 => some (.inr (o6.1, o6.2))))) (fun o4 => some (.inr (o4.1, o4.2))))) (fun o2 => some (.inr (o2.1, o2.2))))
theorem A3o (k : Nat) (x : H71) : P6 k x = Aks k x := (Ae _ _).trans (by kernel_rfl)
theorem Ayo (k : Nat) : Ac Tryz.prog 89 (Auf k) := Bv (Akr k) k 75 [(.int .i64), (.int .i64)] true rfl ⟨⟨D7 k, trivial⟩, ⟨Ay7 k, trivial⟩, trivial⟩ Ad Tryz.func89 (by kernel_rfl)
abbrev H80 : Type := ((List Int) × (Int) × (Int) × (Int) × (List (YT4)) × (List ((List (List (YT1))) × (Unit)))) ⊕ ((Int) × (Int))
def R2 : Sk := ⟨[.lf (.ptr 0 0)], [[.pv (.slice yt4)]], []⟩
def Y2 : Sk := ⟨[.agg [.pv .str, .pv (.int .i64), .own 0, .pv (.int .i64), .pv (.int .i64)]], R2.boxes, [some (48, (.cons (.slice (.slice yt1)) .nil))]⟩
def A4i (k : Nat) : EnvL := [(88, [Uf k]), (54, [K8 k]), (89, [Auf k])]
def Alp (k : Nat) : Cfg := { mkC (A4i k) 75 1 0 with bl := [58, 60] }
def Qe (k : Nat) : (List (YT4)) → Option H80 := hid (Ba (Alp k) k Tryz.f57 R2 Y2 75 [(.int .i64), (.int .i64)] true)
def Aup (k : Nat) : Sig := ⟨R2, Y2, Bd R2.tys Y2.tys 75 [(.int .i64), (.int .i64)] true (Qe k)⟩
noncomputable def Alq (k : Nat) : (List (YT4)) → Option H80
 | a0 => ((Js k) (a0)).bind (orP (fun o1 => ((Dj k) (([([111, 102, 102, 115, 101, 116] : List Int)] : List (List Int)), o1.2)).bind (orP (fun o3 => ((Dj k) (([([115, 117, 109] : List Int)] : List (List Int)), o3.2)).bind (orP (fun o5 => ((Dj k) (([([47] : List Int)] : List (List Int)), o5.2)).bind (orP (fun o7 => ((P6 k) (([103, 114, 111, 117, 112] : List Int), (0 : Int), (4 : Int), o7.2)).bind (orP (fun o9 => some (.inl (o1.1, o3.1, o5.1, o7.1, o9.1, o9.2))) (fun o10 => some (.inr (o10.1, o10.2))))) (fun o8 => some (.inr (o8.1, o8.2))))) (fun o6 => some (.inr (o6.1, o6.2))))) (fun o4 => some (.inr (o4.1, o4.2))))) (fun o2 => some (.inr (o2.1, o2.2))))
theorem A4j (k : Nat) (x : (List (YT4))) : Qe k x = Alq k x := (Ae _ _).trans (by kernel_rfl)
theorem Ay1 (k : Nat) : Ac Tryz.prog 57 (Aup k) := Bv (Alp k) k 75 [(.int .i64), (.int .i64)] true rfl ⟨⟨Vr k, trivial⟩, ⟨Mh k, trivial⟩, ⟨Ayo k, trivial⟩, trivial⟩ Ad Tryz.func57 (by kernel_rfl)
abbrev H81 : Type := (List Int) × (Int) × (Int) × (List (YT4)) × (List (YT3))
abbrev H82 : Type := ((List (YT4)) × (List (YT3))) ⊕ ((Int) × (Int))
def Nj : Sk := ⟨[.lf (.ptr 0 0), .lf (.pv .str), .lf (.pv (.int .i64)), .lf (.pv (.int .i64)), .lf (.fn 57 [(0, 0)] [])], [[.pv (.slice yt4)]], []⟩
def Sd : Sk := ⟨[.lf (.own 0)], Nj.boxes, [some (45, yt3)]⟩
def Al5 : Sk := ⟨sparse 37 [(0, .lf (.ptr 0 0)), (1, .lf (.pv .str)), (2, .lf (.pv (.int .i64))), (3, .lf (.pv (.int .i64))), (4, .lf (.fn 57 [(0, 0)] [])), (11, .lf (.own 0))], [[.pv (.slice yt4)]], [some (45, yt3)]⟩
abbrev Zo := H81
def Kd : Zo → St := stOf Al5 86
def Al6 : Sk := ⟨sparse 37 [(0, .lf (.ptr 0 0)), (1, .lf (.pv .str)), (2, .lf (.pv (.int .i64))), (3, .lf (.pv (.int .i64))), (4, .lf (.fn 57 [(0, 0)] [])), (11, .lf (.own 0))], [[.pv (.slice yt4)]], [some (45, yt3)]⟩
abbrev Zp := H81
def I1 : Zp → St := stOf Al6 86
def A44 (k : Nat) : EnvL := [(59, [G7 k]), (61, [Eh k]), (55, [Dz k]), (57, [Aup k])]
def Cy (k : Nat) : FnX H82 := mkXP ({ mkC (A44 k) 86 1 0 with hint := fun i => look none [(2, some Al5), (5, some Al6)] i }) k Tryz.f56 Sd 75 [(.int .i64), (.int .i64)] true
def Qk (k : Nat) : H71 → Option H82 := hid (Ba (Cy k).C k Tryz.f56 Nj Sd 75 [(.int .i64), (.int .i64)] true)
def Auw (k : Nat) : Sig := ⟨Nj, Sd, Bd Nj.tys Sd.tys 75 [(.int .i64), (.int .i64)] true (Qk k)⟩
noncomputable def Zq (k : Nat) (J : JF H82) (L : LF H82) : H71 → Option H82
 | (a0, a1, a2, a3) => L 2 [] k (Kd (a0, a1, a2, a3, []))
theorem A45 (k : Nat) (x : H71) : Qk k x = Zq k (Cy k).J (Cy k).L x := by
 refine (Ae _ _).trans ?_; apply cutX (Cy k) [] [] (st0 (Cy k).C Tryz.f56 Nj x) [] [(2, [], k)] (Zq k · · x) <;> intros <;> kernel_rfl
noncomputable def Zs (k j2 : Nat) (J : JF H82) (L : LF H82) : Zo → Option H82
 | (a0, a1, a2, a3, a4) => ((D5 k) (a0, a3)).bind fun o1 => bif o1.1 then (bif (((List.length a4 : Nat) : Int) == a2) then (((B0 k) ((4 : Int), o1.2)).bind (orP (fun o2 => J 5 [j2] (I1 (a0, a1, a2, o2, a4))) (fun o3 => some (.inr (o3.1, o3.2))))) else (J 5 [j2] (I1 (a0, a1, a2, o1.2, a4)))) else (bif (decide (((List.length a4 : Nat) : Int) < a1)) then (bif (((List.length a4 : Nat) : Int) == a2) then (((B0 k) ((4 : Int), o1.2)).bind (orP (fun o4 => J 5 [j2] (I1 (a0, a1, a2, o4, a4))) (fun o5 => some (.inr (o5.1, o5.2))))) else (J 5 [j2] (I1 (a0, a1, a2, o1.2, a4)))) else (some (.inl (o1.2, a4))))
theorem A47 (k j2 : Nat) (x : Zo) : (Cy k).L 2 [] (j2 + 1) (Kd x) = Zs k j2 (Cy k).J (Cy k).L x := by
 apply cutX (Cy k) [.r, .r, .l, .b, .b] [j2] (Kd x) [(5, [j2])] [(2, [], j2)] (Zs k j2 · · x) <;> intros <;> kernel_rfl
noncomputable def Zr (k j2 : Nat) (J : JF H82) (L : LF H82) : Zp → Option H82
 | (a0, a1, a2, a3, a4) => ((Bu k) (([a0] : List (List Int)), a3)).bind (orP (fun o1 => ((Qe k) (o1)).bind (orP (fun o3 => app 64 a4 ([(o3.1, (o3.2.1, (o3.2.2.2.2.2, ((o3.2.2.1, (o3.2.2.2.1, ())), ()))))] : List (YT3)) fun o5 => L 2 [] j2 (Kd (a0, a1, a2, o3.2.2.2.2.1, o5))) (fun o4 => some (.inr (o4.1, o4.2))))) (fun o2 => some (.inr (o2.1, o2.2))))
theorem A46 (k j2 : Nat) (x : Zp) : (Cy k).J 5 [j2] (I1 x) = Zr k j2 (Cy k).J (Cy k).L x := by
 apply cutX (Cy k) [.r, .r, .l, .b, .b, .r, .b, .r] [j2] (I1 x) [(5, [j2])] [(2, [], j2)] (Zr k j2 · · x) <;> intros <;> kernel_rfl
theorem Ay8 (k : Nat) : Ac Tryz.prog 56 (Auw k) := Bv (Cy k).C k 75 [(.int .i64), (.int .i64)] true rfl ⟨⟨Hn k, trivial⟩, ⟨Ep k, trivial⟩, ⟨D7 k, trivial⟩, ⟨Ay1 k, trivial⟩, trivial⟩ Ad Tryz.func56 (by kernel_rfl)
abbrev H83 : Type := ((Int) × (Int) × (List (YT4))) ⊕ ((Int) × (Int))
def R4 : Sk := ⟨[.lf (.ptr 0 0), .lf (.pv .str)], [[.pv (.slice yt4)]], []⟩
def Y4 : Sk := ⟨[.agg [.pv (.int .i64), .pv (.int .i64)]], R4.boxes, []⟩
def A4m (k : Nat) : EnvL := [(54, [K8 k]), (55, [Dz k])]
def Alt (k : Nat) : Cfg := { mkC (A4m k) 65 1 0 with bl := [58, 60] }
def Mi (k : Nat) : H62 → Option H83 := hid (Ba (Alt k) k Tryz.f58 R4 Y4 75 [(.int .i64), (.int .i64)] true)
def Aur (k : Nat) : Sig := ⟨R4, Y4, Bd R4.tys Y4.tys 75 [(.int .i64), (.int .i64)] true (Mi k)⟩
noncomputable def Alu (k : Nat) : H62 → Option H83
 | (a0, a1) => ((Dj k) (([a0] : List (List Int)), a1)).bind (orP (fun o1 => ((Dj k) ([], o1.2)).bind (orP (fun o3 => ((Bu k) (([([59] : List Int)] : List (List Int)), o3.2)).bind (orP (fun o5 => some (.inl (o1.1, o3.1, o5))) (fun o6 => some (.inr (o6.1, o6.2))))) (fun o4 => some (.inr (o4.1, o4.2))))) (fun o2 => some (.inr (o2.1, o2.2))))
theorem A4n (k : Nat) (x : H62) : Mi k x = Alu k x := (Ae _ _).trans (by kernel_rfl)
theorem Ay3 (k : Nat) : Ac Tryz.prog 58 (Aur k) := Bv (Alt k) k 75 [(.int .i64), (.int .i64)] true rfl ⟨⟨Mh k, trivial⟩, ⟨D7 k, trivial⟩, trivial⟩ Ad Tryz.func58 (by kernel_rfl)
def q4 : List SL := [.pv (.int .i64), .nil .sl, .pv (.int .i64), .pv (.int .i64), .pv (.int .i64), .pv (.int .i64), .pv .bool, .pv (.int .i64)]
def q5 : List SL := [.pv (.int .i64), .own 1, .pv (.int .i64), .pv (.int .i64), .pv (.int .i64), .pv (.int .i64), .pv .bool, .pv (.int .i64)]
abbrev H84 : Type := (List (YT4)) × (Int) × (Int) × (Int) × (Int) × (Int) × (Bool) × (Int) × (Int) × (Int) × (Int) × (Int) × (Int) × (Bool) × (Int) × (List (YT3))
abbrev H85 : Type := ((Int) × (Int) × (Int) × (Int) × (Int) × (Bool) × (Int) × (List (YT4)) × (List (YT3))) ⊕ ((Int) × (Int))
def Rx : Sk := ⟨[.lf (.ptr 0 0)], [[.own 0]], [some (83, yt4)]⟩
def Ry : Sk := ⟨[.agg [.pv (.int .i64), .own 1, .pv (.int .i64), .pv (.int .i64), .pv (.int .i64), .pv (.int .i64), .pv .bool, .pv (.int .i64)]], [[.pv (.slice yt4)]], [none, some (45, yt3)]⟩
def Alc : Sk := ⟨sparse 53 [(0, .lf (.ptr 0 0)), (2, .lf (.ptr 1 0)), (3, .lf (.ptr 2 0))], [[.pv (.slice yt4)], q4, q5], [none, some (45, yt3)]⟩
abbrev Yv := H84
def J7 : Yv → St := stOf Alc 102
def A38 (k : Nat) : EnvL := [(54, [Auj k, K8 k]), (55, [Dz k]), (56, [Auw k]), (58, [Aur k]), (59, [G7 k]), (60, [Jf k]), (61, [Eh k])]
def D9 (k : Nat) : FnX H85 := mkXP ({ mkC (A38 k) 102 1 1 with hint := fun i => look none [(11, some Alc)] i, bl := [58, 60] }) k Tryz.f33 Ry 75 [(.int .i64), (.int .i64)] true
def Qa (k : Nat) : (List (YT4)) → Option H85 := hid (Ba (D9 k).C k Tryz.f33 Rx Ry 75 [(.int .i64), (.int .i64)] true)
def Auk (k : Nat) : Sig := ⟨Rx, Ry, Bd Rx.tys Ry.tys 75 [(.int .i64), (.int .i64)] true (Qa k)⟩
noncomputable def Yw (k : Nat) (J : JF H85) (L : LF H85) : (List (YT4)) → Option H85
 | a0 => ((P9 k) (([([112, 108, 97, 110] : List Int), ([99, 121, 99, 108, 101] : List Int)] : List (List Int)), a0)).bind (orP (fun o1 => ((Bu k) (([([59] : List Int)] : List (List Int)), o1.2)).bind (orP (fun o3 => ((Qk k) (([110, 111, 100, 101] : List Int), (0 : Int), (12 : Int), o3)).bind (orP (fun o5 => ((Mi k) (([111, 117, 116] : List Int), o5.1)).bind (orP (fun o7 => ((Mi k) (([105, 110] : List Int), o7.2.2)).bind (orP (fun o9 => ((Bu k) (([([98, 101, 115, 116] : List Int)] : List (List Int)), o9.2.2)).bind (orP (fun o11 => ((D5 k) (([121, 101, 115] : List Int), o11)).bind fun o13 => bif o13.1 then (((D6 k) (o13.2)).bind fun o14 => J 11 [] (J7 (o14.2.2.2.2, (0 : Int), (0 : Int), (0 : Int), (0 : Int), (0 : Int), false, (0 : Int), o1.1, o7.1, o7.2.1, o9.1, o9.2.1, o13.1, (0 : Int), o5.2))) else (((Bu k) (([([110, 111] : List Int)] : List (List Int)), o13.2)).bind (orP (fun o15 => J 11 [] (J7 (o15, (0 : Int), (0 : Int), (0 : Int), (0 : Int), (0 : Int), false, (0 : Int), o1.1, o7.1, o7.2.1, o9.1, o9.2.1, o13.1, (0 : Int), o5.2))) (fun o16 => some (.inr (o16.1, o16.2)))))) (fun o12 => some (.inr (o12.1, o12.2))))) (fun o10 => some (.inr (o10.1, o10.2))))) (fun o8 => some (.inr (o8.1, o8.2))))) (fun o6 => some (.inr (o6.1, o6.2))))) (fun o4 => some (.inr (o4.1, o4.2))))) (fun o2 => some (.inr (o2.1, o2.2))))
theorem A39 (k : Nat) (x : (List (YT4))) : Qa k x = Yw k (D9 k).J (D9 k).L x := by
 refine (Ae _ _).trans ?_; apply cutX (D9 k) [] [] (st0 (D9 k).C Tryz.f33 Rx x) [(11, [])] [] (Yw k · · x) <;> intros <;> kernel_rfl
noncomputable def Yx (k : Nat) (J : JF H85) (L : LF H85) : Yv → Option H85
 | (a0, a1, a2, a3, a4, a5, a6, a7, a8, a9, a10, a11, a12, a13, a14, a15) => ((Dj k) (([([59] : List Int), ([115, 112, 101, 110, 116] : List Int)] : List (List Int)), a0)).bind (orP (fun o1 => ((Bu k) (([([59] : List Int)] : List (List Int)), o1.2)).bind (orP (fun o3 => idx zt4 o3 (0 : Int) fun o5 => bif (o5.1 != (0 : Int)) then (((B0 k) ((50 : Int), o3)).bind (orP (fun o6 => some (.inl (a8, a9, a10, a11, a12, a13, o1.1, o6, a15))) (fun o7 => some (.inr (o7.1, o7.2))))) else (some (.inl (a8, a9, a10, a11, a12, a13, o1.1, o3, a15)))) (fun o4 => some (.inr (o4.1, o4.2))))) (fun o2 => some (.inr (o2.1, o2.2))))
theorem A4a (k : Nat) (x : Yv) : (D9 k).J 11 [] (J7 x) = Yx k (D9 k).J (D9 k).L x := by
 apply cutX (D9 k) [.r, .r, .r, .r, .r, .r, .r, .r] [] (J7 x) [(11, [])] [] (Yx k · · x) <;> intros <;> kernel_rfl
theorem Ayv (k : Nat) : Ac Tryz.prog 33 (Auk k) := Bv (D9 k).C k 75 [(.int .i64), (.int .i64)] true rfl ⟨⟨Ayu k, Mh k, trivial⟩, ⟨D7 k, trivial⟩, ⟨Ay8 k, trivial⟩, ⟨Ay3 k, trivial⟩, ⟨Hn k, trivial⟩, ⟨Ju k, trivial⟩, ⟨Ep k, trivial⟩, trivial⟩ Ad Tryz.func33 (by kernel_rfl)
abbrev H86 : Type := (Int) × (Int) × (Int) × (Int) × (Int) × (Bool) × (Int) × (Int) × (Int) × (List (YT3))
def Ai5 : Sk := ⟨[.lf (.pv (.slice (.int .u8)))], [], []⟩
def Ai6 : Sk := ⟨[.agg [.pv (.int .i64), .own 0, .pv (.int .i64), .pv (.int .i64), .pv (.int .i64), .pv (.int .i64), .pv .bool, .pv (.int .i64)], .lf (.pv (.int .i64)), .lf (.pv (.int .i64))], [], [some (45, yt3)]⟩
def A2s : Sk := ⟨sparse 22 [(0, .lf (.pv (.slice (.int .u8)))), (2, .lf (.ptr 0 0)), (3, .lf (.ptr 1 0)), (4, .lf (.ptr 2 0)), (5, .lf (.own 0)), (7, .lf (.pv (.slice (.int .u8)))), (9, .lf (.own 0)), (10, .lf (.pv (.int .i64))), (11, .lf (.pv (.int .i64))), (12, .lf (.pv (.int .i64))), (13, .lf (.pv .bool)), (17, .lf (.fn 32 [] [(0, 0), (1, 0), (2, 0)]))], [q4, [.pv (.int .i64)], [.pv (.int .i64)]], [some (83, yt4)]⟩
def Ai3 (k : Nat) : EnvL := [(31, [Ad5 k]), (33, [Auk k])]
def Ai0 (k : Nat) : Cfg := { mkC (Ai3 k) 71 0 0 with bl := [58, 60], ld := [(15, 51), (16, 52)], sr := [(2, 50), (3, 51), (4, 52)] }
def Ai1 (k : Nat) : Cfg := { mkC (Ai3 k) 71 3 0 with bl := [58, 60], ld := [(15, 51), (16, 52)], sr := [(2, 50), (3, 51), (4, 52)] }
def Ai2 : DefC := { g := 32, kd := A2s, caps := [0, 1, 2], pt := 75, tp := [(.int .i64), (.int .i64)], pg := true, new := Dw }
def Hk (k : Nat) : (List (Int)) → Option H86 := hid (M7 (Ai0 k) (Ai1 k) Ai2 k Tryz.f12 3 Ai5 Ai6)
def Ad8 (k : Nat) : Sig := Af Ai5 Ai6 (Hk k)
noncomputable def Ai4 (k : Nat) : (List (Int)) → Option H86
 | a0 => ((L6 k) (a0)).bind fun o1 => bif (o1.1 != (0 : Int)) then (some ((0 : Int), (0 : Int), (0 : Int), (0 : Int), (0 : Int), false, (0 : Int), o1.1, o1.2.1, [])) else (((Qa k) (o1.2.2)).bind (orP (fun o2 => some (o2.1, o2.2.1, o2.2.2.1, o2.2.2.2.1, o2.2.2.2.2.1, o2.2.2.2.2.2.1, o2.2.2.2.2.2.2.1, (0 : Int), (0 : Int), o2.2.2.2.2.2.2.2.2)) (fun o3 => some ((0 : Int), (0 : Int), (0 : Int), (0 : Int), (0 : Int), false, (0 : Int), o3.1, o3.2, []))))
theorem A2r (k : Nat) (x : (List (Int))) : Hk k x = Ai4 k x := (Ae _ _).trans (by kernel_rfl)
theorem Aya (k : Nat) : Ac Tryz.prog 12 (Ad8 k) := sgOKD (Ai0 k) (Ai1 k) Ai2 k 3 rfl rfl ⟨⟨Afp k, trivial⟩, ⟨Ayv k, trivial⟩, trivial⟩ Ad rfl (clo32_R _ _ rfl) (clo32_P _ _ rfl) Tryz.func12 (by kernel_rfl)
def Ap8 : Sk := ⟨[], [], []⟩
def Ap9 : Sk := ⟨[.lf (.pv .bool)], [], []⟩
def A7k (k : Nat) : EnvL := [(30, [Aeg k]), (12, [Ad8 k]), (7, [Ue k]), (9, [On k])]
def Ap6 (k : Nat) : Cfg := { mkC (A7k k) 124 0 0 with bl := [58, 60] }
def Q8 (k : Nat) : Unit → Option Bool := hid (Ag (Ap6 k) k Tryz.f11 Ap8 Ap9)
noncomputable def Ap7 (k : Nat) : Unit → Option Bool
 | _ => ((It k) (())).bind fun o1 => ((Hk k) (o1)).bind fun o2 => bif (o2.2.2.2.2.2.2.2.1 != (0 : Int)) then (some false) else (bif (((List.length o2.2.2.2.2.2.2.2.2.2 : Nat) : Int) != (1 : Int)) then (some false) else (bif (inB (0 : Int) (List.length o2.2.2.2.2.2.2.2.2.2)) then bif (((List.length (rdA zt3 o2.2.2.2.2.2.2.2.2.2 (Int.toNat (0 : Int))).2.2.1 : Nat) : Int) != (1 : Int)) then (some false) else (((Hl k) (o2.1, o2.2.2.2.2.2.2.2.2.2, o2.2.1, o2.2.2.1, o2.2.2.2.1, o2.2.2.2.2.1, o2.2.2.2.2.2.1, o2.2.2.2.2.2.2.1)).bind fun o3 => bif (decide (0 < List.length ([(112 : Int), (108 : Int), (97 : Int), (110 : Int), (32 : Int), (99 : Int), (121 : Int), (99 : Int), (108 : Int), (101 : Int), (32 : Int), (53 : Int), (59 : Int), (32 : Int), (110 : Int), (111 : Int), (100 : Int), (101 : Int)] : List (Int)))) then ((Hk k) (([(112 : Int), (108 : Int), (97 : Int), (110 : Int), (32 : Int), (99 : Int), (121 : Int), (99 : Int), (108 : Int), (101 : Int), (32 : Int), (53 : Int), (59 : Int), (32 : Int), (110 : Int), (111 : Int), (100 : Int), (101 : Int)] : List (Int)))).bind fun o4 => bif (o3.2 == (0 : Int)) then (((It k) (())).bind fun o5 => bif (o3.1 == o5) then (((Hm k) (o2.1, o2.2.2.2.2.2.2.2.2.2, o2.2.1, o2.2.2.1, o2.2.2.2.1, o2.2.2.2.2.1, o2.2.2.2.2.2.1, o2.2.2.2.2.2.2.1)).bind fun o6 => bif o6 then (bif o2.2.2.2.2.2.1 then (bif (o2.2.2.2.2.1 == (200 : Int)) then (bif (o4.2.2.2.2.2.2.2.1 == (50 : Int)) then (some (o4.2.2.2.2.2.2.2.2.1 == (18 : Int))) else (some false)) else (some false)) else (some false)) else (some false)) else (some false)) else (some false) else none) else none))
theorem A7l (k : Nat) (x : Unit) : Q8 k x = Ap7 k x := (Ae _ _).trans (by kernel_rfl)
def A7i : Sk := ⟨[], [], []⟩
def A7j : Sk := ⟨[.lf (.pv .bool)], [], []⟩
def A7g (k : Nat) : EnvL := [(30, [Aeg k]), (12, [Ad8 k]), (7, [Ue k]), (9, [On k])]
def A7f (k : Nat) : Cfg := { mkC (A7g k) 124 0 0 with bl := [58, 60] }
def Af8 (k : Nat) : Unit → Option Bool := hid (Ag (A7f k) k Tryz.f11 A7i A7j)
def Bdi (k : Nat) : Sig := Af A7i A7j (Af8 k)
noncomputable def Ap5 (k : Nat) : Unit → Option Bool
 | _ => ((It k) (())).bind fun o1 => ((Hk k) (o1)).bind fun o2 => bif (o2.2.2.2.2.2.2.2.1 != (0 : Int)) then (some false) else (bif (((List.length o2.2.2.2.2.2.2.2.2.2 : Nat) : Int) != (1 : Int)) then (some false) else (bif (inB (0 : Int) (List.length o2.2.2.2.2.2.2.2.2.2)) then bif (((List.length (rdA zt3 o2.2.2.2.2.2.2.2.2.2 (Int.toNat (0 : Int))).2.2.1 : Nat) : Int) != (1 : Int)) then (some false) else (((Hl k) (o2.1, o2.2.2.2.2.2.2.2.2.2, o2.2.1, o2.2.2.1, o2.2.2.2.1, o2.2.2.2.2.1, o2.2.2.2.2.2.1, o2.2.2.2.2.2.2.1)).bind fun o3 => bif (decide (0 < List.length ([(112 : Int), (108 : Int), (97 : Int), (110 : Int), (32 : Int), (99 : Int), (121 : Int), (99 : Int), (108 : Int), (101 : Int), (32 : Int), (53 : Int), (59 : Int), (32 : Int), (110 : Int), (111 : Int), (100 : Int), (101 : Int)] : List (Int)))) then ((Hk k) (([(112 : Int), (108 : Int), (97 : Int), (110 : Int), (32 : Int), (99 : Int), (121 : Int), (99 : Int), (108 : Int), (101 : Int), (32 : Int), (53 : Int), (59 : Int), (32 : Int), (110 : Int), (111 : Int), (100 : Int), (101 : Int)] : List (Int)))).bind fun o4 => bif (o3.2 == (0 : Int)) then (((It k) (())).bind fun o5 => bif (o3.1 == o5) then (((Hm k) (o2.1, o2.2.2.2.2.2.2.2.2.2, o2.2.1, o2.2.2.1, o2.2.2.2.1, o2.2.2.2.2.1, o2.2.2.2.2.2.1, o2.2.2.2.2.2.2.1)).bind fun o6 => bif o6 then (bif o2.2.2.2.2.2.1 then (bif (o2.2.2.2.2.1 == (200 : Int)) then (bif (o4.2.2.2.2.2.2.2.1 == (50 : Int)) then (some (o4.2.2.2.2.2.2.2.2.1 == (18 : Int))) else (some false)) else (some false)) else (some false)) else (some false)) else (some false)) else (some false) else none) else none))
theorem A7h (k : Nat) (x : Unit) : Af8 k x = Ap5 k x := (Ae _ _).trans (by kernel_rfl)
theorem Bds (k : Nat) : Ac Tryz.prog 11 (Bdi k) := Ah (A7f k) k rfl ⟨⟨A0a k, trivial⟩, ⟨Aya k, trivial⟩, ⟨Afy k, trivial⟩, ⟨Vl k, trivial⟩, trivial⟩ Ad Tryz.func11 (by kernel_rfl)
abbrev H87 : Type := (List (YT0)) × (List (YT0)) × (Int)
abbrev H88 : Type := (List (YT0)) × (List (YT0))
def Bb9 : Sk := ⟨[.lf (.pv (.slice yt0)), .lf (.pv (.slice yt0))], [], []⟩
def Bca : Sk := ⟨[.lf (.pv .bool)], [], []⟩
def Bcw : Sk := ⟨sparse 26 [(0, .lf (.pv (.slice yt0))), (1, .lf (.pv (.slice yt0))), (5, .lf (.pv (.int .i64)))], [], []⟩
abbrev Bb7 := H87
def Bbm : Bb7 → St := stOf Bcw 74
def L3 (k : Nat) : FnX Bool := mkX ({ mkC [] 74 0 0 with hint := fun i => look none [(4, some Bcw)] i }) k Tryz.f62 Bca
def Bbr (k : Nat) : H88 → Option Bool := hid (Ag (L3 k).C k Tryz.f62 Bb9 Bca)
def Bdf (k : Nat) : Sig := Af Bb9 Bca (Bbr k)
noncomputable def Bb8 (k : Nat) (J : JF Bool) (L : LF Bool) : H88 → Option Bool
 | (a0, a1) => bif (((List.length a0 : Nat) : Int) != ((List.length a1 : Nat) : Int)) then (some false) else (L 4 [] k (Bbm (a0, a1, (0 : Int))))
theorem Bdw (k : Nat) (x : H88) : Bbr k x = Bb8 k (L3 k).J (L3 k).L x := by
 refine (Ae _ _).trans ?_; apply cutX (L3 k) [] [] (st0 (L3 k).C Tryz.f62 Bb9 x) [] [(4, [], k)] (Bb8 k · · x) <;> intros <;> kernel_rfl
noncomputable def Bbu (k j4 : Nat) (J : JF Bool) (L : LF Bool) : Bb7 → Option Bool
 | (a0, a1, a2) => bif (decide (a2 < ((List.length a0 : Nat) : Int))) then (idx zt0 a0 a2 fun o1 => idx zt0 a1 a2 fun o2 => bif (!((eqS o1.1 o2.1) && ((eqI o1.2.1 o2.2.1) && ((eqI o1.2.2.1 o2.2.2.1) && true)))) then (some false) else (L 4 [] j4 (Bbm (a0, a1, (IntKind.wrap .i64 (a2 + (1 : Int))))))) else (some true)
theorem Bcv (k j4 : Nat) (x : Bb7) : (L3 k).L 4 [] (j4 + 1) (Bbm x) = Bbu k j4 (L3 k).J (L3 k).L x := by
 apply cutX (L3 k) [.r, .r, .l, .r, .b, .b] [j4] (Bbm x) [] [(4, [], j4)] (Bbu k j4 · · x) <;> intros <;> kernel_rfl
theorem Bdo (k : Nat) : Ac Tryz.prog 62 (Bdf k) := Ah (L3 k).C (l := []) k rfl trivial Ad Tryz.func62 (by kernel_rfl)
abbrev H89 : Type := (Int) × (List Int) × (Int) × (List ((List (List (YT1))) × (Unit))) × (Int) × (Int) × (List Int) × (Int) × (List ((List (List (YT1))) × (Unit))) × (Int) × (Int)
abbrev H90 : Type := (Int) × (List (List (YT1))) × (List (List (YT1))) × (Int) × (List Int) × (Int) × (List ((List (List (YT1))) × (Unit))) × (Int) × (Int) × (List Int) × (Int) × (List ((List (List (YT1))) × (Unit))) × (Int) × (Int)
abbrev H91 : Type := (Int) × (List (List (YT1))) × (List (List (YT1))) × (Int) × (Int) × (List Int) × (Int) × (List ((List (List (YT1))) × (Unit))) × (Int) × (Int) × (List Int) × (Int) × (List ((List (List (YT1))) × (Unit))) × (Int) × (Int)
abbrev H92 : Type := (List Int) × (Int) × (List ((List (List (YT1))) × (Unit))) × (Int) × (Int) × (List Int) × (Int) × (List ((List (List (YT1))) × (Unit))) × (Int) × (Int)
def Bcj : Sk := ⟨[.agg [.pv .str, .pv (.int .i64), .pv (.slice (.cons (.slice (.slice yt1)) .nil)), .pv (.int .i64), .pv (.int .i64)], .agg [.pv .str, .pv (.int .i64), .pv (.slice (.cons (.slice (.slice yt1)) .nil)), .pv (.int .i64), .pv (.int .i64)]], [], []⟩
def Bck : Sk := ⟨[.lf (.pv .bool)], [], []⟩
def Bc4 : Sk := ⟨sparse 138 [(2, .lf (.ptr 0 0)), (3, .lf (.ptr 1 0)), (5, .lf (.pv (.int .i64)))], [q0, q0], []⟩
abbrev Bch := H89
def Bbh : Bch → St := stOf Bc4 186
def Bc2 : Sk := ⟨sparse 138 [(2, .lf (.ptr 0 0)), (3, .lf (.ptr 1 0)), (5, .lf (.pv (.int .i64))), (6, .lf (.pv (.slice (.slice yt1)))), (7, .lf (.pv (.slice (.slice yt1)))), (8, .lf (.pv (.int .i64)))], [q0, q0], []⟩
abbrev Bcf := H90
def Bbg : Bcf → St := stOf Bc2 186
def Bc3 : Sk := ⟨sparse 138 [(2, .lf (.ptr 0 0)), (3, .lf (.ptr 1 0)), (5, .lf (.pv (.int .i64))), (6, .lf (.pv (.slice (.slice yt1)))), (7, .lf (.pv (.slice (.slice yt1)))), (8, .lf (.pv (.int .i64))), (9, .lf (.pv (.int .i64)))], [q0, q0], []⟩
abbrev Bcg := H91
def Bbo : Bcg → St := stOf Bc3 186
def Bdz (k : Nat) : EnvL := [(62, [Bdf k])]
def Beh (k : Nat) : FnX Bool := mkX ({ mkC (Bdz k) 186 0 0 with hint := fun i => look none [(4, some Bc4), (11, some Bc2), (16, some Bc3)] i, bl := [58, 60], ld := [(93, 9999), (96, 9999), (100, 9999), (103, 9999)], sr := [(10, 58), (11, 59)] }) k Tryz.f34 Bck
def Bbs (k : Nat) : H92 → Option Bool := hid (Ag (Beh k).C k Tryz.f34 Bcj Bck)
def Bdh (k : Nat) : Sig := Af Bcj Bck (Bbs k)
noncomputable def Bci (k : Nat) (J : JF Bool) (L : LF Bool) : H92 → Option Bool
 | (a0, a1, a2, a3, a4, a5, a6, a7, a8, a9) => bif (!(a0 == a5)) then (some false) else (bif (a1 != a6) then (some false) else (bif (!((eqI a3 a8) && ((eqI a4 a9) && true))) then (some false) else (bif (((List.length a2 : Nat) : Int) != ((List.length a7 : Nat) : Int)) then (some false) else (L 4 [] k (Bbh ((0 : Int), a0, a1, a2, a3, a4, a5, a6, a7, a8, a9))))))
theorem Bd0 (k : Nat) (x : H92) : Bbs k x = Bci k (Beh k).J (Beh k).L x := by
 refine (Ae _ _).trans ?_; apply cutX (Beh k) [] [] (st0 (Beh k).C Tryz.f34 Bcj x) [] [(4, [], k)] (Bci k · · x) <;> intros <;> kernel_rfl
noncomputable def Bby (k j4 : Nat) (J : JF Bool) (L : LF Bool) : Bch → Option Bool
 | (a0, a1, a2, a3, a4, a5, a6, a7, a8, a9, a10) => bif (decide (a0 < ((List.length a3 : Nat) : Int))) then (idx ([], ()) a3 a0 fun o1 => idx ([], ()) a8 a0 fun o2 => bif (((List.length o1.1 : Nat) : Int) != ((List.length o2.1 : Nat) : Int)) then (some false) else (L 11 [j4] k (Bbg (a0, o1.1, o2.1, (0 : Int), a1, a2, a3, a4, a5, a6, a7, a8, a9, a10)))) else (some true)
theorem Bc1 (k j4 : Nat) (x : Bch) : (Beh k).L 4 [] (j4 + 1) (Bbh x) = Bby k j4 (Beh k).J (Beh k).L x := by
 apply cutX (Beh k) [.r, .r, .l, .r, .b, .b] [j4] (Bbh x) [] [(4, [], j4), (11, [j4], k)] (Bby k j4 · · x) <;> intros <;> kernel_rfl
noncomputable def Bbw (k j4 j11 : Nat) (J : JF Bool) (L : LF Bool) : Bcf → Option Bool
 | (a0, a1, a2, a3, a4, a5, a6, a7, a8, a9, a10, a11, a12, a13) => bif (decide (a3 < ((List.length a1 : Nat) : Int))) then (idx [] a1 a3 fun o1 => idx [] a2 a3 fun o2 => bif (((List.length o1 : Nat) : Int) != ((List.length o2 : Nat) : Int)) then (some false) else (L 16 [j4, j11] k (Bbo (a0, a1, a2, a3, (0 : Int), a4, a5, a6, a7, a8, a9, a10, a11, a12, a13)))) else (L 4 [] j4 (Bbh ((IntKind.wrap .i64 (a0 + (1 : Int))), a4, a5, a6, a7, a8, a9, a10, a11, a12, a13)))
theorem Bcz (k j4 j11 : Nat) (x : Bcf) : (Beh k).L 11 [j4] (j11 + 1) (Bbg x) = Bbw k j4 j11 (Beh k).J (Beh k).L x := by
 apply cutX (Beh k) [.r, .r, .l, .r, .b, .b, .r, .l, .b, .r, .r, .r, .r, .b, .b] [j4, j11] (Bbg x) [] [(4, [], j4), (11, [j4], j11), (16, [j4, j11], k)] (Bbw k j4 j11 · · x) <;> intros <;> kernel_rfl
noncomputable def Bbx (k j4 j11 j16 : Nat) (J : JF Bool) (L : LF Bool) : Bcg → Option Bool
 | (a0, a1, a2, a3, a4, a5, a6, a7, a8, a9, a10, a11, a12, a13, a14) => idx [] a1 a3 fun o1 => bif (decide (a4 < ((List.length o1 : Nat) : Int))) then (idx [] a1 a3 fun o2 => idx zt1 o2 a4 fun o3 => idx [] a2 a3 fun o4 => idx zt1 o4 a4 fun o5 => bif (!(o3.1 == o5.1)) then (some false) else (bif (o3.2.1 != o5.2.1) then (some false) else (bif (o3.2.2.1 != o5.2.2.1) then (some false) else (bif (o3.2.2.2.1 != o5.2.2.2.1) then (some false) else (((Bbr k) (o3.2.2.2.2.1, o5.2.2.2.2.1)).bind fun o6 => bif (!o6) then (some false) else (L 16 [j4, j11] j16 (Bbo (a0, a1, a2, a3, (IntKind.wrap .i64 (a4 + (1 : Int))), a5, a6, a7, a8, a9, a10, a11, a12, a13, a14)))))))) else (L 11 [j4] j11 (Bbg (a0, a1, a2, (IntKind.wrap .i64 (a3 + (1 : Int))), a5, a6, a7, a8, a9, a10, a11, a12, a13, a14)))
theorem Bc0 (k j4 j11 j16 : Nat) (x : Bcg) : (Beh k).L 16 [j4, j11] (j16 + 1) (Bbo x) = Bbx k j4 j11 j16 (Beh k).J (Beh k).L x := by
 apply cutX (Beh k) [.r, .r, .l, .r, .b, .b, .r, .l, .b, .r, .r, .r, .r, .b, .b, .r, .l, .b, .r, .r, .b, .b] [j4, j11, j16] (Bbo x) [] [(4, [], j4), (11, [j4], j11), (16, [j4, j11], j16)] (Bbx k j4 j11 j16 · · x) <;> intros <;> kernel_rfl
theorem Bdq (k : Nat) : Ac Tryz.prog 34 (Bdh k) := Ah (Beh k).C k rfl ⟨⟨Bdo k, trivial⟩, trivial⟩ Ad Tryz.func34 (by kernel_rfl)
abbrev H93 : Type := (Int) × (Int) × (List (YT3)) × (Int) × (Int) × (Int) × (Int) × (Bool) × (Int) × (Int) × (List (YT3)) × (Int) × (Int) × (Int) × (Int) × (Bool) × (Int)
abbrev H94 : Type := (Int) × (List (YT3)) × (Int) × (Int) × (Int) × (Int) × (Bool) × (Int) × (Int) × (List (YT3)) × (Int) × (Int) × (Int) × (Int) × (Bool) × (Int)
def Bcd : Sk := ⟨[.agg [.pv (.int .i64), .pv (.slice yt3), .pv (.int .i64), .pv (.int .i64), .pv (.int .i64), .pv (.int .i64), .pv .bool, .pv (.int .i64)], .agg [.pv (.int .i64), .pv (.slice yt3), .pv (.int .i64), .pv (.int .i64), .pv (.int .i64), .pv (.int .i64), .pv .bool, .pv (.int .i64)]], [], []⟩
def Bce : Sk := ⟨[.lf (.pv .bool)], [], []⟩
def Bcy : Sk := ⟨sparse 67 [(2, .lf (.ptr 0 0)), (3, .lf (.ptr 1 0)), (5, .lf (.pv (.int .i64)))], [q1, q1], []⟩
abbrev Bcb := H93
def Bbn : Bcb → St := stOf Bcy 115
def Bdx (k : Nat) : EnvL := [(34, [Bdh k])]
def L4 (k : Nat) : FnX Bool := mkX ({ mkC (Bdx k) 115 0 0 with hint := fun i => look none [(4, some Bcy)] i, bl := [58, 60] }) k Tryz.f13 Bce
def Bbj (k : Nat) : H94 → Option Bool := hid (Ag (L4 k).C k Tryz.f13 Bcd Bce)
def Bdg (k : Nat) : Sig := Af Bcd Bce (Bbj k)
noncomputable def Bcc (k : Nat) (J : JF Bool) (L : LF Bool) : H94 → Option Bool
 | (a0, a1, a2, a3, a4, a5, a6, a7, a8, a9, a10, a11, a12, a13, a14, a15) => bif (a0 != a8) then (some false) else (bif (!((eqI a2 a10) && ((eqI a3 a11) && true))) then (some false) else (bif (!((eqI a4 a12) && ((eqI a5 a13) && true))) then (some false) else (bif (!(a6 == a14)) then (some false) else (bif (a7 != a15) then (some false) else (bif (((List.length a1 : Nat) : Int) != ((List.length a9 : Nat) : Int)) then (some false) else (L 4 [] k (Bbn ((0 : Int), a0, a1, a2, a3, a4, a5, a6, a7, a8, a9, a10, a11, a12, a13, a14, a15))))))))
theorem Bdy (k : Nat) (x : H94) : Bbj k x = Bcc k (L4 k).J (L4 k).L x := by
 refine (Ae _ _).trans ?_; apply cutX (L4 k) [] [] (st0 (L4 k).C Tryz.f13 Bcd x) [] [(4, [], k)] (Bcc k · · x) <;> intros <;> kernel_rfl
noncomputable def Bbv (k j4 : Nat) (J : JF Bool) (L : LF Bool) : Bcb → Option Bool
 | (a0, a1, a2, a3, a4, a5, a6, a7, a8, a9, a10, a11, a12, a13, a14, a15, a16) => bif (decide (a0 < ((List.length a2 : Nat) : Int))) then (idx zt3 a2 a0 fun o1 => idx zt3 a10 a0 fun o2 => ((Bbs k) (o1.1, o1.2.1, o1.2.2.1, o1.2.2.2.1.1, o1.2.2.2.1.2.1, o2.1, o2.2.1, o2.2.2.1, o2.2.2.2.1.1, o2.2.2.2.1.2.1)).bind fun o3 => bif (!o3) then (some false) else (L 4 [] j4 (Bbn ((IntKind.wrap .i64 (a0 + (1 : Int))), a1, a2, a3, a4, a5, a6, a7, a8, a9, a10, a11, a12, a13, a14, a15, a16)))) else (some true)
theorem Bcx (k j4 : Nat) (x : Bcb) : (L4 k).L 4 [] (j4 + 1) (Bbn x) = Bbv k j4 (L4 k).J (L4 k).L x := by
 apply cutX (L4 k) [.r, .r, .l, .r, .b, .b] [j4] (Bbn x) [] [(4, [], j4)] (Bbv k j4 · · x) <;> intros <;> kernel_rfl
theorem Bdp (k : Nat) : Ac Tryz.prog 13 (Bdg k) := Ah (L4 k).C k rfl ⟨⟨Bdq k, trivial⟩, trivial⟩ Ad Tryz.func13 (by kernel_rfl)
def Ben : Sk := ⟨[.agg [.pv (.int .i64), .pv (.slice yt3), .pv (.int .i64), .pv (.int .i64), .pv (.int .i64), .pv (.int .i64), .pv .bool, .pv (.int .i64)]], [], []⟩
def Beo : Sk := ⟨[.lf (.pv .bool)], [], []⟩
abbrev Ber := H5
def Beq (k : Nat) : EnvL := [(6, [Avq k]), (7, [Ue k]), (9, [On k]), (11, [Bdi k]), (12, [Ad8 k]), (13, [Bdg k])]
def Bem (k : Nat) : Cfg := { mkC (Beq k) 106 0 0 with bl := [58, 60] }
def Bel (k : Nat) : H5 → Option Bool := hid (Ag (Bem k) k Tryz.f4 Ben Beo)
def Bet (k : Nat) : Sig := Af Ben Beo (Bel k)
noncomputable def Bej (k : Nat) : H5 → Option Bool
 | (a0, a1, a2, a3, a4, a5, a6, a7) => ((Q7 k) (a0, a1, a2, a3, a4, a5, a6, a7)).bind fun o1 => bif (!o1) then (some true) else (((Hl k) (a0, a1, a2, a3, a4, a5, a6, a7)).bind fun o2 => bif (o2.2 != (0 : Int)) then (bif (o2.2 == (1 : Int)) then (bif (((List.length o2.1 : Nat) : Int) == (0 : Int)) then (((Hm k) (a0, a1, a2, a3, a4, a5, a6, a7)).bind fun o3 => bif (!o3) then (((Af8 k) (())).bind fun o4 => some o4) else (some false)) else (some false)) else (some false)) else (((Hk k) (o2.1)).bind fun o5 => bif (decide (((List.length o2.1 : Nat) : Int) > (65536 : Int))) then (bif (o5.2.2.2.2.2.2.2.1 == (4 : Int)) then (((Af8 k) (())).bind fun o6 => some o6) else (some false)) else (bif (o5.2.2.2.2.2.2.2.1 == (0 : Int)) then (((Bbj k) (a0, a1, a2, a3, a4, a5, a6, a7, o5.1, o5.2.2.2.2.2.2.2.2.2, o5.2.1, o5.2.2.1, o5.2.2.2.1, o5.2.2.2.2.1, o5.2.2.2.2.2.1, o5.2.2.2.2.2.2.1)).bind fun o7 => bif o7 then (((Af8 k) (())).bind fun o8 => some o8) else (some false)) else (some false))))
theorem Bek (k : Nat) (x : H5) : Bel k x = Bej k x := (Ae _ _).trans (by kernel_rfl)
theorem Bep (k : Nat) : Ac Tryz.prog 4 (Bet k) := Ah (Bem k) k rfl ⟨⟨Az7 k, trivial⟩, ⟨Afy k, trivial⟩, ⟨Vl k, trivial⟩, ⟨Bds k, trivial⟩, ⟨Aya k, trivial⟩, ⟨Bdp k, trivial⟩, trivial⟩ Ad Tryz.func4 (by kernel_rfl)
def q6 : List SL := [.pv (.int .i64), .own 0, .pv (.int .i64), .pv (.int .i64), .pv (.int .i64), .pv (.int .i64), .pv .bool, .pv (.int .i64)]
end
section
variable {α β R : Type} {d : α} {l : List α} {i : Nat} {x : α}
theorem Jp (h : l[i]? = some x) : i < l.length := (List.getElem?_eq_some_iff.1 h).1
theorem B3 (h : l[i]? = some x) : x ∈ l := List.mem_of_getElem? h
theorem Pf (h : l[i]? = some x) : l.drop i = x :: l.drop (i + 1) := by
 obtain ⟨h1, h2⟩ := List.getElem?_eq_some_iff.1 h
 rw [List.drop_eq_getElem_cons h1, h2]
theorem At {K : α → Option R} (h : l[i]? = some x) : idx d l (i : Int) K = K x := by
 have := Jp h
 unfold idx
 rw [cinB, if_pos (by omega), rdA_nat, List.getD_eq_getElem?_getD, h]
 rfl
theorem A9 {a b : β} (h : l[i]? = some x) : (bif decide ((i : Int) < ((l.length : Nat) : Int)) then a else b) = a := by
 have := Jp h
 rw [cd, if_pos (by omega)]
theorem Be {a b : β} : (bif decide (((l.length : Nat) : Int) < ((l.length : Nat) : Int)) then a else b) = b := by
 rw [cd, if_neg (by omega)]
theorem Bi (h : l[i]? = some x) (hl : l.length < 1000000) : IntKind.wrap .i64 ((i : Int) + 1) = ((i + 1 : Nat) : Int) := by
 have := Jp h
 rw [w64 (by omega)]
 rfl
theorem As {a b : List Int} {K : List Int → Option R} (h : a.length + b.length ≤ 9223372036854775807) : cat a b K = K (a ++ b) := by
 unfold cat
 rw [cd]
 exact if_pos h
theorem Hf {n : Nat} {a b : List α} {K : List α → Option R} (h : (a.length + b.length) * n ≤ 140737488355328) (h2 : a.length + b.length ≤ 9223372036854775807) : app n a b K = K (a ++ b) := by
 unfold app
 rw [cappB, if_pos ⟨h, h2⟩]
theorem Acq (hz : i ≤ l.length) : i = l.length ∨ ∃ x, l[i]? = some x := by
 by_cases h : i < l.length
 ·exact .inr ⟨l[i], List.getElem?_eq_getElem h⟩
 ·exact .inl (by omega)
theorem Ae9 (l : List α) (p : α → Bool) (g : α → Option Bool) (F : Nat → Int → Option Int) (hl : l.length < 1000000)
  (hF : ∀ j i, F (j + 1) i = bif decide (i < ((l.length : Nat) : Int)) then (idx d l i fun o => (g o).bind fun o2 => bif o2 then some i else F j (IntKind.wrap .i64 (i + 1))) else some (-1))
  (hg : ∀ x ∈ l, g x = some (p x)) : ∀ (j i : Nat), l.length < i + j → i ≤ l.length → ∃ r, F j (i : Int) = some r ∧ decide (r ≥ 0) = (l.drop i).any p
 | 0, i, h, hi => by omega
 | j + 1, i, h, hi => by
  rw [hF]
  rcases Acq hi with rfl | ⟨x, hx⟩
  ·rw [Be, List.drop_length]
   exact ⟨_, rfl, rfl⟩
  ·rw [A9 hx, At hx, hg x (B3 hx), Option.bind_some, Bi hx hl, Pf hx, List.any_cons]
   cases p x with
   | true => exact ⟨_, rfl, by simp⟩
   | false => exact Ae9 l p g F hl hF hg j (i + 1) (by omega) (by have := Jp hx; omega)
theorem any_all (l : List α) (p : α → Bool) : l.any (fun x => !p x) = !(l.all p) := by
 induction l with
 | nil => rfl
 | cons x r ih => rw [List.any_cons, List.all_cons, ih, Bool.not_and]
theorem Aey (l : List α) (p : α → Bool) (F : Nat → Int → Option R) (e r : Option R)
  (h1 : ∀ j i x, l[i]? = some x → F (j + 1) ((i : Nat) : Int) = if p x then F j ((i + 1 : Nat) : Int) else e) (h0 : ∀ j, F (j + 1) ((l.length : Nat) : Int) = r) :
  ∀ (j i : Nat), l.length < i + j → i ≤ l.length → F j (i : Int) = if (l.drop i).all p then r else e
 | 0, i, h, hi => by omega
 | j + 1, i, h, hi => by
  rcases Acq hi with rfl | ⟨x, hx⟩
  ·rw [h0, List.drop_length]
   rfl
  ·rw [h1 j i x hx, Pf hx, List.all_cons]
   cases p x with
   | true => exact Aey l p F e r h1 h0 j (i + 1) (by omega) (by have := Jp hx; omega)
   | false => rfl
theorem Ft (l : List α) (p : α → Bool) (F : Nat → Int → Option R) (e r : Option R)
  (h1 : ∀ j i x, l[i]? = some x → F (j + 1) ((i : Nat) : Int) = if p x then F j ((i + 1 : Nat) : Int) else e) (h0 : ∀ j, F (j + 1) ((l.length : Nat) : Int) = r) (j : Nat) (h : l.length < j) :
  F j 0 = if l.all p then r else e := Aey l p F e r h1 h0 j 0 (by omega) (by omega)
theorem Afa (M : Nat) (l : List α) (f : α → List β) (F : Nat → Int → List β → Option R) (r : List β → Option R)
  (h1 : ∀ j i x b, l[i]? = some x → b.length + (f x).length ≤ M → F (j + 1) ((i : Nat) : Int) b = F j ((i + 1 : Nat) : Int) (b ++ f x)) (h0 : ∀ j b, b.length ≤ M → F (j + 1) ((l.length : Nat) : Int) b = r b) :
  ∀ (j i : Nat) (b : List β), l.length < i + j → i ≤ l.length → b.length + ((l.drop i).flatMap f).length ≤ M → F j (i : Int) b = r (b ++ (l.drop i).flatMap f)
 | 0, i, b, h, hi, hb => by omega
 | j + 1, i, b, h, hi, hb => by
  rcases Acq hi with rfl | ⟨x, hx⟩
  ·rw [h0 _ _ (by omega), List.drop_length]
   simp
  ·rw [Pf hx, List.flatMap_cons, List.length_append] at hb
   rw [h1 j i x b hx (by omega), Afa M l f F r h1 h0 j (i + 1) (b ++ f x) (by omega) (by have := Jp hx; omega) (by rw [List.length_append]; omega), Pf hx, List.flatMap_cons, List.append_assoc]
theorem D0 (M : Nat) (l : List α) (f : α → List β) (F : Nat → Int → List β → Option R) (r : List β → Option R)
  (h1 : ∀ j i x b, l[i]? = some x → b.length + (f x).length ≤ M → F (j + 1) ((i : Nat) : Int) b = F j ((i + 1 : Nat) : Int) (b ++ f x)) (h0 : ∀ j b, b.length ≤ M → F (j + 1) ((l.length : Nat) : Int) b = r b)
  (j : Nat) (b : List β) (h : l.length < j) (hb : b.length + (l.flatMap f).length ≤ M) : F j 0 b = r (b ++ l.flatMap f) :=
 Afa M l f F r h1 h0 j 0 b (by omega) (by omega) hb
theorem Gn (f : α → List β) (m : Nat) : ∀ (l : List α), (∀ x ∈ l, (f x).length ≤ m) → (l.flatMap f).length ≤ l.length * m
 | [], _ => by simp
 | x :: r, h => by
  have := h x (by simp)
  have IH := Gn f m r fun y hy => h y (by simp [hy])
  rw [List.flatMap_cons, List.length_append, List.length_cons, Nat.add_mul]
  omega
end
abbrev Tk := (Int) × ((List Int) × ((Int) × ((Int) × (Unit))))
def A5 (x : Int) : Bool := decide (97 ≤ x) && decide (x ≤ 122)
def Ak (x : Int) : Bool := decide (48 ≤ x) && decide (x ≤ 57)
def Bc (x : Int) : Bool := decide (x = 32 ∨ x = 9 ∨ x = 10 ∨ x = 13)
def C3 (x : Int) : Bool := decide (x = 123 ∨ x = 125 ∨ x = 44 ∨ x = 59 ∨ x = 58 ∨ x = 47 ∨ x = 45)
def Am (x : Int) : Bool := A5 x || (Ak x || decide (x = 95))
def drp : Bool → List Int → List Int
 | _, [] => []
 | true, x :: r => if x = 10 then drp false r else drp true r
 | false, x :: r => if x = 35 then drp true r else if Bc x then drp false r else x :: r
def valD (l : List Int) : Int := l.foldl (fun v c => 10 * v + (c - 48)) 0
def tok1 : List Int → Int × Int × List Int × Int × List Int
 | [] => (40, 0, [], 0, [])
 | x :: r =>
  if A5 x then (if 24 < ((x :: r).takeWhile Am).length then (4, 0, [], 0, []) else (0, 1, (x :: r).takeWhile Am, 0, (x :: r).dropWhile Am))
  else if Ak x then (if 18 < ((x :: r).takeWhile Ak).length then (4, 0, [], 0, []) else (0, 2, (x :: r).takeWhile Ak, valD ((x :: r).takeWhile Ak), (x :: r).dropWhile Ak))
  else if C3 x then (0, 3, [x], 0, r)
  else (40, 0, [], 0, [])
def lx (n : Nat) : Nat → List Int → Int × Int × List Tk
 | 0, _ => (0, 0, [])
 | f + 1, s => match drp false s with
  | [] => (0, 0, [(0, [], 0, (n : Int), ())])
  | x :: r => if (tok1 (x :: r)).1 = 0 then
    (if (lx n f (tok1 (x :: r)).2.2.2.2).1 = 0 then
     (0, 0, ((tok1 (x :: r)).2.1, (tok1 (x :: r)).2.2.1, (tok1 (x :: r)).2.2.2.1, ((n - (x :: r).length : Nat) : Int), ()) :: (lx n f (tok1 (x :: r)).2.2.2.2).2.2)
    else ((lx n f (tok1 (x :: r)).2.2.2.2).1, (lx n f (tok1 (x :: r)).2.2.2.2).2.1, []))
   else ((tok1 (x :: r)).1, ((n - (x :: r).length : Nat) : Int), [])
def toks (b : List Int) : Int × Int × List Tk := if 65536 < b.length then (4, 65536, []) else lx b.length (b.length + 1) b
theorem Ho : ∀ (m : Bool) (s : List Int), drp m s <:+ s
 | _, [] => by cases ‹Bool› <;> simp [drp]
 | true, x :: r => by
  rw [drp]; split
  ·exact (Ho false r).trans (List.suffix_cons x r)
  ·exact (Ho true r).trans (List.suffix_cons x r)
 | false, x :: r => by
  rw [drp]; split
  ·exact (Ho true r).trans (List.suffix_cons x r)
  ·split
   ·exact (Ho false r).trans (List.suffix_cons x r)
   ·exact List.suffix_refl _
theorem Jz (m : Bool) (s : List Int) : (drp m s).length ≤ s.length := (Ho m s).length_le
theorem Jy : ∀ (m : Bool) (s : List Int) {x : Int} {r : List Int}, drp m s = x :: r → x ≠ 35 ∧ Bc x = false
 | _, [], x, r, h => by cases ‹Bool› <;> simp [drp] at h
 | true, y :: q, x, r, h => by
  rw [drp] at h; split at h
  ·exact Jy false q h
  ·exact Jy true q h
 | false, y :: q, x, r, h => by
  rw [drp] at h; split at h
  ·exact Jy true q h
  ·split at h
   ·exact Jy false q h
   ·rename_i h1 h2
    cases h
    exact ⟨h1, by simpa using h2⟩
theorem Bba {c : Int} (h : Am c = false) : Ak c = false := by
 unfold Am at h
 simp only [Bool.or_eq_false_iff] at h
 exact h.2.1
theorem Jk {x : Int} {r : List Int} (h : (tok1 (x :: r)).1 = 0) :
  (tok1 (x :: r)).2.2.1 ++ (tok1 (x :: r)).2.2.2.2 = x :: r ∧ (tok1 (x :: r)).2.2.1 ≠ [] ∧ (tok1 (x :: r)).2.1 ≠ 0 ∧ (tok1 (x :: r)).2.2.1.length ≤ 24 := by
 simp only [tok1] at h ⊢
 split at h
 ·rename_i h1
  simp only [h1, if_true]
  split at h
  ·simp at h
  ·rename_i h2
   rw [if_neg h2]
   refine ⟨List.takeWhile_append_dropWhile, ?_, by simp, by simp only []; omega⟩
   have : Am x = true := by simp [Am, h1]
   simp [List.takeWhile_cons, this]
 ·rename_i h1
  simp only [h1, Bool.false_eq_true, if_false]
  split at h
  ·rename_i h2
   simp only [h2, if_true]
   split at h
   ·simp at h
   ·rename_i h3
    rw [if_neg h3]
    refine ⟨List.takeWhile_append_dropWhile, ?_, by simp, by simp only []; omega⟩
    simp [List.takeWhile_cons, h2]
  ·rename_i h2
   simp only [h2, Bool.false_eq_true, if_false]
   split at h
   ·rename_i h3; simp [h3]
   ·simp at h
theorem Ld {x : Int} {r : List Int} (h : (tok1 (x :: r)).1 = 0) : (tok1 (x :: r)).2.2.2.2.length ≤ r.length := by
 obtain ⟨h1, h2, _⟩ := Jk h
 have e := congrArg List.length h1
 rw [List.length_append, List.length_cons] at e
 have : (tok1 (x :: r)).2.2.1.length ≠ 0 := fun h => h2 (List.length_eq_zero_iff.1 h)
 omega
theorem Ac0 (n : Nat) : ∀ (f f' : Nat) (s : List Int), s.length < f → s.length < f' → lx n f s = lx n f' s
 | 0, _, _, h, _ => by omega
 | _ + 1, 0, _, _, h => by omega
 | f + 1, f' + 1, s, h, h' => by
  have hl := Jz false s
  rw [lx, lx]
  cases hd : drp false s with
  | nil => rfl
  | cons x r =>
   rw [hd, List.length_cons] at hl
   simp only []
   by_cases h0 : (tok1 (x :: r)).1 = 0
   ·have := Ld h0
    rw [if_pos h0, if_pos h0, Ac0 n f f' _ (by omega) (by omega)]
   ·rw [if_neg h0, if_neg h0]
theorem lx_err (n : Nat) : ∀ (f : Nat) (s : List Int), (lx n f s).1 = 0 → (lx n f s).2.1 = 0
 | 0, s, _ => rfl
 | f + 1, s, h => by
  rw [lx] at h ⊢
  cases hd : drp false s with
  | nil => rfl
  | cons x r =>
   rw [hd] at h
   simp only [] at h ⊢
   split at h
   ·rename_i h0
    rw [if_pos h0]
    split at h
    ·rename_i h1; rw [if_pos h1]
    ·rename_i h1; exact absurd h h1
   ·rename_i h0; exact absurd h h0
def kdS (a : Int) : Int := if A5 a then 3 else if Ak a then 4 else if Bc a then 1 else if a = 35 then 2 else if a = 95 then 6 else if C3 a then 5 else 0
theorem Aqv (k : Nat) (a : Int) : clexkind k a = some (kdS a) := by
 skip
 rw [A10, Xr, A11, Xs, A12, Xt]
 simp only [cd, cbeq]
 unfold kdS A5 Ak Bc C3
 simp only [Bool.and_eq_true, decide_eq_true_eq]
 repeat' (first | (exfalso; omega) | (refine iteS (fun _ => ?_) (fun _ => ?_)))
 all_goals (refine congrArg some ?_; repeat' (first | rfl | (exfalso; omega) | (refine iteR (fun _ => ?_) (fun _ => ?_))))
theorem kd1 (a : Int) : kdS a = 1 ↔ Bc a = true := by
 unfold kdS A5 Ak Bc C3
 simp only [Bool.and_eq_true, decide_eq_true_eq]
 repeat' split
 all_goals first | omega
theorem kd2 (a : Int) : kdS a = 2 ↔ a = 35 := by
 unfold kdS A5 Ak Bc C3
 simp only [Bool.and_eq_true, decide_eq_true_eq]
 repeat' split
 all_goals first | omega
theorem kd3 (a : Int) : kdS a = 3 ↔ A5 a = true := by
 unfold kdS A5 Ak Bc C3
 simp only [Bool.and_eq_true, decide_eq_true_eq]
 repeat' split
 all_goals first | omega
theorem kd4 (a : Int) : kdS a = 4 ↔ Ak a = true := by
 unfold kdS A5 Ak Bc C3
 simp only [Bool.and_eq_true, decide_eq_true_eq]
 repeat' split
 all_goals first | omega
theorem kd5 (a : Int) : kdS a = 5 ↔ C3 a = true := by
 unfold kdS A5 Ak Bc C3
 simp only [Bool.and_eq_true, decide_eq_true_eq]
 repeat' split
 all_goals first | omega
theorem kd6 (a : Int) : kdS a = 6 ↔ a = 95 := by
 unfold kdS A5 Ak Bc C3
 simp only [Bool.and_eq_true, decide_eq_true_eq]
 repeat' split
 all_goals first | omega
theorem Aqu (k : Nat) (b : List Int) (i : Nat) (h : i < b.length) : L7 k (b, (i : Int)) = some (kdS (b.getD i 0), b, (i : Int)) := by
 skip
 rw [A16, Ah9, cinB, if_pos (by omega), Gy, Aqv]; rfl
theorem A7y (k : Nat) (b : List Int) (i : Nat) (h : i < b.length) : Jr k (b, (i : Int)) = some (kdS (b.getD i 0)) := by
 skip
 rw [A14, Ah5, cinB, if_pos (by omega), Gy, Aqv]; rfl
def fstI (v : Int) : List Int → Option Nat
 | [] => none
 | x :: r => if v = x then some 0 else (fstI v r).map (· + 1)
theorem Aqo (k : Nat) (l : List Int) (v : Int) (hl : l.length < 9223372036854775807) : ∀ (j i : Nat), i ≤ l.length → l.length - i < j →
  (E0 k).L 2 [] j (M2 (l, v, (l.length : Int), (i : Int))) = some (match fstI v (l.drop i) with | some n => ((i + n : Nat) : Int) | none => -1)
 | 0, i, _, h => by omega
 | j + 1, i, hi, h => by
  rw [A1j, W4, cd, cinB, Gy]
  by_cases hlt : i < l.length
  ·rw [if_pos (by omega), if_pos (by omega), Dd hlt, fstI, cbeq]
   split
   ·rfl
   ·rw [w64 (by omega), Fs, Aqo k l v hl j (i + 1) (by omega) (by omega)]
    cases fstI v (l.drop (i + 1)) with
    | none => rfl
    | some n => simp only [Option.map_some]; congr 2; omega
  ·have hi2 : i = l.length := by omega
   rw [if_neg (by omega)]
   subst hi2
   simp [fstI]
theorem A7u (k : Nat) (l : List Int) (v : Int) (hk : l.length < k) (hl : l.length < 9223372036854775807) : Pr k (l, v) = some (match fstI v l with | some n => (n : Int) | none => -1) := by
 skip
 rw [A1i, W3]
 have := Aqo k l v hl k 0 (by omega) (by omega)
 simpa using this
theorem Apf : ∀ (s : List Int), drp true s = match fstI 10 s with | some n => drp false (s.drop n) | none => []
 | [] => rfl
 | x :: r => by
  rw [drp, fstI]
  by_cases h : x = 10
  ·subst h; simp [drp, Bc]
  ·rw [if_neg h, if_neg (fun e => h e.symm), Apf r]
   cases fstI 10 r <;> rfl
theorem Ape {v : Int} : ∀ {l : List Int} {n : Nat}, fstI v l = some n → n < l.length ∧ l.getD n 0 = v
 | [], n, h => by cases h
 | x :: r, n, h => by
  simp only [fstI] at h
  split at h
  ·rename_i e; cases h; exact ⟨by simp, by simp [e]⟩
  ·obtain ⟨m, hm, rfl⟩ := Option.map_eq_some_iff.1 h
   have := Ape hm
   exact ⟨by simp; omega, by simpa using this.2⟩
theorem Ui (k : Nat) (b : List Int) (hk : b.length < k) (hl : b.length < 1000000) : ∀ (j i : Nat), i ≤ b.length → b.length - i < j → (E4 k).L 0 [] j (Ix (b, (i : Int))) = some (b, ((b.length - (drp false (b.drop i)).length : Nat) : Int))
 | 0, i, _, h => by omega
 | j + 1, i, hi, h => by
  rw [A2i, X4, cd]
  by_cases hlt : i < b.length
  ·rw [if_pos (by omega), Aqu k b i hlt, Option.bind_some]
   dsimp only
   rw [cbeq, cbeq, Hi, if_pos (by omega : (0 : Int) ≤ i ∧ (i : Int) ≤ ((b.length : Nat) : Int) ∧ ((b.length : Nat) : Int) ≤ ((b.length : Nat) : Int)), Is, List.take_length, Dd hlt]
   simp only [kd1, kd2, drp]
   split
   ·rename_i h2
    rw [Apf, ← Dd hlt, A7u k _ _ (by rw [List.length_drop]; omega) (by rw [List.length_drop]; omega), Option.bind_some, Dd hlt, fstI, if_neg (by omega)]
    cases hf : fstI 10 (b.drop (i + 1)) with
    | none =>
     simp only [Option.map_none, cd]
     rw [if_neg (by omega), Ui k b hk hl j b.length (Nat.le_refl _) (by omega)]
     simp [drp]
    | some n =>
     obtain ⟨n1, n2⟩ := Ape hf
     rw [List.length_drop] at n1
     simp only [Option.map_some, cd]
     have hpos : ((n + 1 : Nat) : Int) ≥ 0 := by omega
     have hw : -9223372036854775808 ≤ (i : Int) + ((n + 1 : Nat) : Int) ∧ (i : Int) + ((n + 1 : Nat) : Int) ≤ 9223372036854775807 := by omega
     rw [if_pos hpos, w64 hw, show ((i : Int) + ((n + 1 : Nat) : Int)) = ((i + (n + 1) : Nat) : Int) by simp, Ui k b hk hl j (i + (n + 1)) (by omega) (by omega), List.drop_drop]
     rw [show i + 1 + n = i + (n + 1) by omega]
   ·split
    ·rw [w64 (by omega), Fs]
     exact Ui k b hk hl j (i + 1) (by omega) (by omega)
    ·rw [← Dd hlt, List.length_drop]
     congr 3
     omega
  ·rw [if_neg (by omega), List.drop_eq_nil_of_le (by omega)]
   simp [drp]
   omega
theorem Bag (k : Nat) (b : List Int) (hk : b.length < k) (hl : b.length < 1000000) (i : Nat) (hi : i ≤ b.length) : Pw k (b, (i : Int)) = some (b, ((b.length - (drp false (b.drop i)).length : Nat) : Int)) := by
 skip
 rw [A2h, X3, Ui k b hk hl k i hi (by omega)]
theorem Add (k : Nat) (b : List Int) (g : Int → Option Bool) (p : Int → Bool) (hg : ∀ x, g (kdS x) = some (p x)) (L : Nat → Int → List Int → Int → Option (List Int × List Int × Int))
  (hL : ∀ j a0 a1 a2, L (j + 1) a0 a1 a2 = bif (decide (a2 < ((List.length a1 : Nat) : Int))) then ((Jr k (a1, a2)).bind fun o1 => (g o1).bind fun o2 => bif o2 then L j a0 a1 (IntKind.wrap .i64 (a2 + (1 : Int))) else (bif (cutB a0 a2 (List.length a1)) then some ((cutL a1 a0 a2), a1, a2) else none)) else (bif (cutB a0 a2 (List.length a1)) then some ((cutL a1 a0 a2), a1, a2) else none)) (hl : b.length < 1000000) (s : Nat) :
  ∀ (j i : Nat), s ≤ i → i ≤ b.length → b.length - i < j → L j (s : Int) b (i : Int) = some ((b.take (i + ((b.drop i).takeWhile p).length)).drop s, b, ((i + ((b.drop i).takeWhile p).length : Nat) : Int))
 | 0, i, _, _, h => by omega
 | j + 1, i, hs, hi, h => by
  rw [hL, cd]
  by_cases hlt : i < b.length
  ·rw [if_pos (by omega), A7y k b i hlt, Option.bind_some, hg, Option.bind_some, Dd hlt, List.takeWhile_cons]
   cases hp : p (b.getD i 0) with
   | true =>
    rw [cond_true, w64 (by omega), Fs, Add k b g p hg L hL hl s j (i + 1) (by omega) (by omega) (by omega)]
    simp only [if_true, List.length_cons]
    rw [show i + 1 + ((b.drop (i + 1)).takeWhile p).length = i + (((b.drop (i + 1)).takeWhile p).length + 1) by omega]
   | false =>
    rw [cond_false, Hi, if_pos (by omega), Is]
    simp
  ·rw [if_neg (by omega), Hi, if_pos (by omega), Is, @List.drop_eq_nil_of_le _ b i (by omega)]
   simp
theorem Ul (p : Int → Bool) (b : List Int) (i : Nat) : (b.take (i + ((b.drop i).takeWhile p).length)).drop i = (b.drop i).takeWhile p := by
 rw [List.drop_take]
 simp only [Nat.add_sub_cancel_left]
 exact (List.prefix_iff_eq_take.1 (List.takeWhile_prefix p)).symm
theorem A8y (k : Nat) (b : List Int) (hk : b.length < k) (hl : b.length < 1000000) (i : Nat) (hi : i ≤ b.length) :
  Pu k (b, (i : Int)) = some ((b.drop i).takeWhile Am, b, ((i + ((b.drop i).takeWhile Am).length : Nat) : Int)) := by
 have := Add k b (Py k) Am (fun x => by
  skip
  rw [A2m, Ais, cbeq, cbeq]
  unfold Am
  have h6 : (kdS x == 6) = decide (x = 95) := by
   rw [Bool.eq_iff_iff]; simp [kd6]
  rw [h6]
  simp only [kd3, kd4]
  cases A5 x <;> cases Ak x <;> simp) (fun j a0 a1 a2 => (E2 k).L 2 [] j (M6 (a0, a1, a2))) (fun j a0 a1 a2 => A2f k j (a0, a1, a2)) hl i k i (Nat.le_refl _) (by omega) (by omega)
 skip
 rw [A2e, X0]
 rw [Ul] at this
 exact this
theorem A8x (k : Nat) (b : List Int) (hk : b.length < k) (hl : b.length < 1000000) (i : Nat) (hi : i ≤ b.length) :
  Pv k (b, (i : Int)) = some ((b.drop i).takeWhile Ak, b, ((i + ((b.drop i).takeWhile Ak).length : Nat) : Int)) := by
 have := Add k b (Pt k) Ak (fun x => by
  skip
  rw [A18, Aid]
  congr 1
  rw [Bool.eq_iff_iff]; simp [kd4]) (fun j a0 a1 a2 => (E3 k).L 2 [] j (M5 (a0, a1, a2))) (fun j a0 a1 a2 => A2c k j (a0, a1, a2)) hl i k i (Nat.le_refl _) (by omega) (by omega)
 skip
 rw [A2b, Xx]
 rw [Ul] at this
 exact this
theorem Od {p : Int → Bool} : ∀ {l : List Int} {x : Int}, x ∈ l.takeWhile p → p x = true
 | [], x, h => by simp at h
 | y :: l, x, h => by
  rw [List.takeWhile_cons] at h
  split at h
  ·rename_i hp
   rcases List.mem_cons.1 h with rfl | h
   ·exact hp
   ·exact Od h
  ·cases h
theorem Ar0 : ∀ (l : List Int) (acc m : Nat), acc < 10 ^ m → m + l.length ≤ 18 → (∀ c ∈ l, Ak c = true) →
  ∃ u : Nat, Lib.parseUintM (2 ^ 64 - 1) acc (u8s l) = .ok u ∧ u < 10 ^ 18 ∧ (u : Int) = l.foldl (fun v c => 10 * v + (c - 48)) (acc : Int)
 | [], acc, m, h1, h2, _ => ⟨acc, rfl, Nat.lt_of_lt_of_le h1 (Nat.pow_le_pow_right (by decide) (by simpa using h2)), rfl⟩
 | c :: r, acc, m, h1, h2, h3 => by
  have hc := h3 c (by simp)
  unfold Ak at hc
  simp only [Bool.and_eq_true, decide_eq_true_eq] at hc
  have hu : (UInt8.ofNat c.toNat).toNat = c.toNat := by rw [UInt8.toNat_ofNat']; omega
  have hm : m ≤ 17 := by simp at h2; omega
  have ha : acc < 10 ^ 17 := Nat.lt_of_lt_of_le h1 (Nat.pow_le_pow_right (by decide) hm)
  have hb : acc * 10 + (c.toNat - 48) < 10 ^ (m + 1) := by
   rw [Nat.pow_succ]
   omega
  have hb2 : acc * 10 + (c.toNat - 48) < 10 ^ 18 := Nat.lt_of_lt_of_le hb (Nat.pow_le_pow_right (by decide) (by omega))
  obtain ⟨u, e1, e2, e3⟩ := Ar0 r (acc * 10 + (c.toNat - 48)) (m + 1) hb (by simp at h2; omega) fun x hx => h3 x (by simp [hx])
  refine ⟨u, ?_, e2, ?_⟩
  ·show Lib.parseUintM _ _ (UInt8.ofNat c.toNat :: u8s r) = _
   simp only [Lib.parseUintM]
   rw [hu, if_pos (by omega), if_neg (by omega), if_neg (by omega)]
   exact e1
  ·rw [e3, List.foldl_cons]
   congr 1
   omega
theorem Awd : ∀ (l : List Int) (acc : Int) (m : Nat), 0 ≤ acc → acc < 10 ^ m → (∀ c ∈ l, Ak c = true) → 0 ≤ l.foldl (fun v c => 10 * v + (c - 48)) acc ∧ l.foldl (fun v c => 10 * v + (c - 48)) acc < 10 ^ (m + l.length)
 | [], acc, m, h0, h1, _ => ⟨h0, by simpa using h1⟩
 | c :: r, acc, m, h0, h1, h3 => by
  have hc := h3 c (by simp)
  unfold Ak at hc
  simp only [Bool.and_eq_true, decide_eq_true_eq] at hc
  have := Awd r (10 * acc + (c - 48)) (m + 1) (by omega) (by rw [Int.pow_succ]; omega) fun x hx => h3 x (by simp [hx])
  rw [List.foldl_cons, List.length_cons, show m + (r.length + 1) = m + 1 + r.length by omega]
  exact this
theorem A8u {l : List Int} (h0 : l ≠ []) (h1 : l.length ≤ 18) (h2 : ∀ x ∈ l, Ak x = true) : Kz (l, 10, 64) = some (valD l, true) := by
 unfold Kz
 rw [if_pos ⟨rfl, rfl, by simp only; omega⟩]
 obtain ⟨u, hu, hlt, hv⟩ := Ar0 l 0 0 (by decide) (by simpa using h1) h2
 have : Lib.parseIntB 64 (u8s l) = .ok (u : Int) := by
  cases l with
  | nil => exact absurd rfl h0
  | cons x r =>
   have hc := h2 x (by simp)
   unfold Ak at hc
   simp only [Bool.and_eq_true, decide_eq_true_eq] at hc
   have hx : (UInt8.ofNat x.toNat).toNat = x.toNat := by rw [UInt8.toNat_ofNat']; omega
   have hl : u8s (x :: r) = UInt8.ofNat x.toNat :: u8s r := rfl
   rw [hl] at hu ⊢
   have e1 : ¬ ((UInt8.ofNat x.toNat).toNat = 43 ∨ (UInt8.ofNat x.toNat).toNat = 45) := by omega
   have e2 : ¬ ((UInt8.ofNat x.toNat).toNat = 45) := by omega
   simp only [Lib.parseIntB, Lib.parseUintB, if_neg e1]
   rw [if_neg (by simp), hu]
   simp only [e2]
   rw [if_neg (by simp; omega), if_neg (by simp)]
   simp
 rw [this]
 simp only []
 have hv2 : (u : Int) = valD l := hv
 rw [if_pos, hv2]
 ·have h1 : (u : Int) < 10 ^ 18 := by exact_mod_cast hlt
  simp only [Lit.wf, Bool.and_eq_true, decide_eq_true_eq]
  constructor
  ·exact Int.le_trans (by decide) (Int.natCast_nonneg u)
  ·exact Int.le_trans (Int.le_of_lt h1) (by decide)
theorem Ba0 (k : Nat) (b : List Int) (hk : b.length < k) (hl : b.length < 1000000) (i : Nat) (hi : i < b.length) (hx : b.getD i 0 ≠ 35) (hb : Bc (b.getD i 0) = false) :
  ∃ q : Int, Px k (b, (i : Int)) = some ((tok1 (b.drop i)).2.1, (tok1 (b.drop i)).2.2.1, (tok1 (b.drop i)).2.2.2.1, 0, (tok1 (b.drop i)).1, b, q) ∧ ((tok1 (b.drop i)).1 = 0 → q = ((b.length - (tok1 (b.drop i)).2.2.2.2.length : Nat) : Int)) := by
 have e0 := Dd hi
 have elen : (b.drop i).length = b.length - i := List.length_drop
 skip
 rw [A2k, Aio, Aqu k b i hi, Option.bind_some]
 dsimp only
 rw [cbeq, cbeq, cbeq]
 simp only [kd3, kd4, kd5]
 split
 ·rename_i h3
  have hw := List.takeWhile_append_dropWhile (p := Am) (l := b.drop i)
  have hw2 := congrArg List.length hw
  rw [List.length_append, elen] at hw2
  skip
  rw [A2n, Aiv, A8y k b hk hl i (by omega), Option.bind_some]
  simp only [cd]
  have et : tok1 (b.drop i) = if 24 < ((b.drop i).takeWhile Am).length then (4, 0, [], 0, []) else (0, 1, (b.drop i).takeWhile Am, 0, (b.drop i).dropWhile Am) := by
   rw [e0, tok1, if_pos h3]
  rw [et]
  by_cases h24 : 24 < ((b.drop i).takeWhile Am).length
  ·rw [if_pos (by omega), if_pos h24]
   exact ⟨_, rfl, fun h => by simp at h⟩
  ·rw [if_neg (by omega), if_neg h24]
   exact ⟨_, rfl, fun _ => by simp only []; omega⟩
 ·rename_i h3
  split
  ·rename_i h4
   have hw := List.takeWhile_append_dropWhile (p := Ak) (l := b.drop i)
   have hw2 := congrArg List.length hw
   rw [List.length_append, elen] at hw2
   skip
   rw [A19, Aig, A8x k b hk hl i (by omega), Option.bind_some]
   simp only [cd]
   have et : tok1 (b.drop i) = if 18 < ((b.drop i).takeWhile Ak).length then (4, 0, [], 0, []) else (0, 2, (b.drop i).takeWhile Ak, valD ((b.drop i).takeWhile Ak), (b.drop i).dropWhile Ak) := by
    rw [e0, tok1, if_neg h3, if_pos h4]
   rw [et]
   by_cases h18 : 18 < ((b.drop i).takeWhile Ak).length
   ·rw [if_pos (by omega), if_pos h18]
    exact ⟨_, rfl, fun h => by simp at h⟩
   ·rw [if_neg (by omega), if_neg h18]
    rw [show Vx k ((b.drop i).takeWhile Ak, 10, 64) = some (valD ((b.drop i).takeWhile Ak), true) from A8u (by rw [e0, List.takeWhile_cons, if_pos h4]; simp) (by omega) (fun x hx => Od hx), Option.bind_some]
    exact ⟨_, rfl, fun _ => by simp only []; omega⟩
  ·rename_i h4
   have et : tok1 (b.drop i) = if C3 (b.getD i 0) then (0, 3, [b.getD i 0], 0, b.drop (i + 1)) else (40, 0, [], 0, []) := by
    rw [e0, tok1, if_neg h3, if_neg h4]
   rw [et]
   split
   ·rename_i h5
    rw [w64 (n := (i : Int) + 1) (by omega), w64 (by omega), Hi, if_pos (by omega), Fs]
    rw [show (((i + 1 : Nat) : Int) - 1) = (i : Int) by omega, Is]
    refine ⟨_, ?_, fun _ => rfl⟩
    have e1 : (b.take (i + 1)).drop i = [b.getD i 0] := by
     rw [List.drop_take, e0, show i + 1 - i = 1 by omega]; rfl
    rw [e1]
    congr 7
    simp only [List.length_drop]
    omega
   ·exact ⟨_, rfl, fun h => by simp at h⟩
theorem Av2 (k : Nat) (b : List Int) (hk : b.length < k) (hl : b.length < 1000000) : ∀ (j i : Nat) (out : List Tk), i ≤ b.length → b.length - i < j → out.length ≤ i →
  (E1 k).L 5 [] j (M4 (b, b, (i : Int), out)) = some ((lx b.length j (b.drop i)).1, (lx b.length j (b.drop i)).2.1, if (lx b.length j (b.drop i)).1 = 0 then out ++ (lx b.length j (b.drop i)).2.2 else [])
 | 0, i, out, _, h, _ => by omega
 | j + 1, i, out, hi, h, ho => by
  have hd := Jz false (b.drop i)
  have hsuf := (Ho false (b.drop i)).trans (List.drop_suffix i b)
  rw [List.length_drop] at hd
  rw [A1x, Xn, Bag k b hk hl i hi, Option.bind_some, lx]
  cases hs : drp false (b.drop i) with
  | nil =>
   dsimp only
   rw [List.length_nil, Nat.sub_zero, cbeq, if_pos rfl, cappB, if_pos (by simp only [List.length_cons, List.length_nil]; omega)]
   rfl
  | cons x r =>
   rw [hs] at hd hsuf
   obtain ⟨h35, hbl⟩ := Jy false _ hs
   have hsuf2 := List.suffix_iff_eq_drop.1 hsuf
   generalize hp : b.length - (x :: r).length = p at *
   have hlen2 : (x :: r).length ≤ b.length := by omega
   have hpl : p < b.length := by rw [List.length_cons] at hd hp; omega
   have hx : b.getD p 0 = x := by
    have := Dd hpl
    rw [← hsuf2] at this
    exact (List.cons.inj this).1.symm
   dsimp only
   rw [cbeq, if_neg (by omega)]
   obtain ⟨q, e, hq⟩ := Ba0 k b hk hl p hpl (by rw [hx]; exact h35) (by rw [hx]; exact hbl)
   rw [← hsuf2] at e hq
   rw [e, Option.bind_some]
   dsimp only
   rw [cbne]
   by_cases h0 : (tok1 (x :: r)).1 = 0
   ·have hr := Ld h0
    obtain ⟨s1, s2, s3, s4⟩ := Jk h0
    simp only [if_pos h0]
    rw [cappB, if_pos (by simp only [List.length_cons, List.length_nil]; omega), hq h0]
    rw [List.length_cons] at hd hp
    have hsub : b.drop (b.length - (tok1 (x :: r)).2.2.2.2.length) = (tok1 (x :: r)).2.2.2.2 := by
     have hs3 : (tok1 (x :: r)).2.2.2.2 <:+ b := (List.suffix_append _ _).trans (s1 ▸ hsuf)
     exact (List.suffix_iff_eq_drop.1 hs3).symm
    have := Av2 k b hk hl j (b.length - (tok1 (x :: r)).2.2.2.2.length) (out ++ [((tok1 (x :: r)).2.1, ((tok1 (x :: r)).2.2.1, ((tok1 (x :: r)).2.2.2.1, (((p : Nat) : Int), ()))))]) (by omega) (by omega) (by rw [List.length_append]; simp only [List.length_cons, List.length_nil]; omega)
    rw [hsub] at this
    rw [this]
    by_cases h1 : (lx b.length j (tok1 (x :: r)).2.2.2.2).1 = 0
    ·have hz := lx_err _ _ _ h1
     simp only [if_pos h1, h1, hz]
     simp
     omega
    ·simp only [if_neg h1]
   ·simp only [if_neg h0, hp]
theorem Av3 (k : Nat) (b : List Int) (hk : b.length < k) (hm : b.length < 1000000) : L6 k b = some (toks b) := by
 unfold toks
 rw [A1w, Xm, cd]
 by_cases hl : 65536 < b.length
 ·rw [if_pos (by omega), if_pos hl]
 ·rw [if_neg (by omega), if_neg hl, show (0 : Int) = ((0 : Nat) : Int) from rfl, Av2 k b hk (by omega) k 0 [] (Nat.zero_le _) (by omega) (Nat.zero_le _)]
  rw [List.drop_zero, Ac0 _ k (b.length + 1) b (by omega) (by omega), List.nil_append]
  have : ∀ (f : Nat) (s : List Int), (if (lx b.length f s).1 = 0 then (lx b.length f s).2.2 else []) = (lx b.length f s).2.2 := by
   intro f s
   split
   ·rfl
   ·rename_i h
    cases f with
    | zero => exact absurd rfl h
    | succ f =>
     rw [lx] at h ⊢
     cases hd : drp false s with
     | nil => rw [hd] at h; exact absurd rfl h
     | cons x r =>
      rw [hd] at h
      simp only [] at h ⊢
      split
      ·rename_i h0
       rw [if_pos h0] at h
       split
       ·rename_i h1; rw [if_pos h1] at h; exact absurd rfl h
       ·rfl
      ·rfl
  rw [this]
end Go.Proofs.YtcmmgllmncllfaaGreatDoorV
namespace Go.Proofs.YtcmmgllmncllfaaGreatDoorV
open Go Go.RowKit
end Go.Proofs.YtcmmgllmncllfaaGreatDoorV
namespace Go.Proofs.YtcmmgllmncllfaaGreatDoorV
open Go Go.RowKit
def Dy (kd : Int) (tx : List Int) (v : Int) : Bool := decide (tx ≠ [] ∧ drp false tx = tx ∧ tok1 tx = (0, kd, tx, v, []))
abbrev tkD : Tk := ((0 : Int), ([], ((0 : Int), ((0 : Int), ()))))
theorem Av5 (kd : Int) (tx : List Int) (v : Int) :
  ((toks tx).1 = 0 ∧ (toks tx).2.2.length = 2 ∧ ((toks tx).2.2.getD 0 tkD).1 = kd ∧ ((toks tx).2.2.getD 0 tkD).2.1 = tx ∧ ((toks tx).2.2.getD 0 tkD).2.2.1 = v) ↔ Dy kd tx v = true := by
 unfold Dy
 rw [decide_eq_true_eq]
 unfold toks
 by_cases hl : 65536 < tx.length
 ·rw [if_pos hl]
  constructor
  ·intro h; simp at h
  ·rintro ⟨h1, h2, h3⟩
   cases tx with
   | nil => exact absurd rfl h1
   | cons x r =>
    have := Jk (x := x) (r := r) (by rw [h3])
    rw [h3] at this
    have := this.2.2.2
    simp only [] at this
    omega
 ·rw [if_neg hl, lx]
  cases hd : drp false tx with
  | nil =>
   simp only []
   constructor
   ·intro h; simp at h
   ·rintro ⟨h1, h2, h3⟩; exact absurd h2.symm h1
  | cons x r =>
   simp only []
   by_cases h0 : (tok1 (x :: r)).1 = 0
   ·obtain ⟨s1, s2, s3, s4⟩ := Jk h0
    have hlen := Jz false tx
    rw [hd] at hlen
    have s5 := congrArg List.length s1
    rw [List.length_append] at s5
    have s6 := Ld h0
    rw [if_pos h0]
    generalize hq : (tok1 (x :: r)).2.2.2.2 = q at *
    by_cases h1 : (lx tx.length tx.length q).1 = 0
    ·rw [if_pos h1]
     simp only [List.length_cons, List.getD_cons_zero]
     constructor
     ·rintro ⟨_, g1, g2, g3, g4⟩
      rw [g3] at s5
      have hq0 : q = [] := by
       apply List.length_eq_zero_iff.1
       omega
      have htx : tx = x :: r := by rw [← s1, g3, hq0, List.append_nil]
      refine ⟨by rw [htx]; simp, by rw [← htx], ?_⟩
      have : tok1 tx = tok1 (x :: r) := by rw [htx]
      rw [this]
      ext1; exact h0
      ext1; exact g2
      ext1; exact g3
      ext1; exact g4
      show (tok1 (x :: r)).2.2.2.2 = []
      rw [hq, hq0]
     ·rintro ⟨g1, g2, g3⟩
      rw [← g2] at g3
      have hq0 : q = [] := by rw [← hq, g3]
      rw [g3]
      refine ⟨trivial, ?_, rfl, g2.symm ▸ rfl, rfl⟩
      have hpos : ∃ m, tx.length = m + 1 := ⟨tx.length - 1, by rw [List.length_cons] at hlen; omega⟩
      obtain ⟨m, hm⟩ := hpos
      rw [hq0, hm, lx]
      rfl
    ·rw [if_neg h1]
     constructor
     ·rintro ⟨g, _⟩; exact absurd g h1
     ·rintro ⟨g1, g2, g3⟩
      rw [← g2] at g3
      have hq0 : q = [] := by rw [← hq, g3]
      have hpos : ∃ m, tx.length = m + 1 := ⟨tx.length - 1, by rw [List.length_cons] at hlen; omega⟩
      obtain ⟨m, hm⟩ := hpos
      rw [hq0, hm, lx] at h1
      exact absurd rfl h1
   ·rw [if_neg h0]
    constructor
    ·rintro ⟨g, _⟩; exact absurd g h0
    ·rintro ⟨g1, g2, g3⟩
     rw [← g2] at g3
     rw [g3] at h0
     exact absurd rfl h0
theorem Ba2 {kd : Int} {tx : List Int} {v : Int} (h : Dy kd tx v = true) : ((toks tx).2.2.getD 0 tkD).2.2.2.1 = 0 := by
 unfold Dy at h
 rw [decide_eq_true_eq] at h
 obtain ⟨h1, h2, h3⟩ := h
 unfold toks
 cases tx with
 | nil => exact absurd rfl h1
 | cons x r =>
  have := Jk (x := x) (r := r) (by rw [h3])
  rw [h3] at this
  have h24 := this.2.2.2
  simp only [] at h24
  rw [if_neg (by omega), lx, h2]
  simp only [h3, if_true]
  have h0 : (lx (x :: r).length (x :: r).length []).1 = 0 := by
   rw [List.length_cons, lx]; rfl
  rw [if_pos h0]
  simp
theorem eqI_d (a b : Int) : eqI a b = decide (a = b) := by
 unfold eqI; rw [Bool.eq_iff_iff]; simp
theorem eqS_d (a b : List Int) : eqS a b = decide (a = b) := by
 unfold eqS; rw [Bool.eq_iff_iff]; simp
theorem A9m (k : Nat) (kd : Int) (tx : List Int) (v p : Int) (hk : tx.length < k) (hm : tx.length < 1000000) : Ps k (kd, tx, v, p) = some (Dy kd tx v) := by
 skip
 rw [A1u, Ahy, Av3 k tx hk hm, Option.bind_some, cbeq, cbeq, cinB]
 have T := Av5 kd tx v
 have Tp := @Ba2 kd tx v
 have hz : (Int.toNat 0) = 0 := rfl
 unfold rdA at *
 rw [hz]
 generalize toks tx = tt at *
 by_cases h0 : tt.1 = 0
 ·rw [if_pos h0]
  by_cases h2 : tt.2.2.length = 2
  ·rw [if_pos (by omega), if_pos (by omega), eqI_d, eqI_d, eqS_d, eqI_d]
   refine congrArg some ?_
   rw [Bool.eq_iff_iff]
   simp only [Bool.and_eq_true, decide_eq_true_eq, and_true]
   constructor
   ·rintro ⟨a1, a2, a3, a4⟩
    exact T.1 ⟨h0, h2, a1, a2, a3⟩
   ·intro h
    have := T.2 h
    exact ⟨this.2.2.1, this.2.2.2.1, this.2.2.2.2, Tp h⟩
  ·rw [if_neg (by omega)]
   refine congrArg some ?_
   rw [eq_comm, Bool.eq_false_iff]
   exact fun h => h2 (T.2 h).2.1
 ·rw [if_neg h0]
  refine congrArg some ?_
  rw [eq_comm, Bool.eq_false_iff]
  exact fun h => h0 (T.2 h).1
def resW : List (List Int) := [[99, 121, 99, 108, 101],
 [116, 111],
 [98, 121],
 [112, 101, 97, 107],
 [110, 111, 100, 101],
 [104, 101, 97, 100],
 [118, 111, 108, 117, 109, 101],
 [102, 108, 111, 119],
 [117, 115, 101],
 [115, 112, 101, 101, 100],
 [103, 114, 97, 100, 101],
 [119, 105, 100, 116, 104],
 [108, 101, 110, 103, 116, 104],
 [103, 114, 101, 101, 110],
 [119, 97, 108, 107],
 [119, 105, 116, 104],
 [108, 111, 110, 103],
 [112, 97, 99, 101],
 [108, 101, 97, 115, 116],
 [112, 104, 97, 115, 101],
 [103, 114, 111, 117, 112],
 [114, 105, 110, 103],
 [102, 114, 101, 101],
 [102, 111, 101],
 [97, 114, 116, 101, 114, 121],
 [115, 116, 111, 112],
 [111, 117, 116],
 [105, 110],
 [97, 104, 101, 97, 100],
 [98, 97, 99, 107],
 [119, 101, 105, 103, 104, 116, 115],
 [112, 108, 97, 110],
 [111, 102, 102, 115, 101, 116],
 [115, 117, 109],
 [115, 112, 108, 105, 116],
 [121, 101, 108, 108, 111, 119],
 [114, 101, 100],
 [102, 108, 97, 115, 104],
 [98, 101, 115, 116],
 [121, 101, 115],
 [110, 111],
 [115, 112, 101, 110, 116]]
def resB (s : List Int) : Bool := resW.contains s
set_option maxRecDepth 20000 in
theorem Ass (k : Nat) (s : List Int) : L5 k s = some (resB s) := by
 unfold resB resW
 skip
 rw [A1p, Xf, A1q, Xg, A1r, Xh, A1s, Xi]
 have step : ∀ (a : List Int) (x : Option Bool) (l : List (List Int)), x = some (l.contains s) → (bif s == a then some true else x) = some ((a :: l).contains s) := by
  intro a x l h
  rw [List.contains_cons]
  cases s == a with
  | true => simp
  | false => simp [h]
 repeat (refine step _ _ _ ?_)
 rfl
section
variable {α R : Type}
theorem Jx {d : α} (l : List α) (p : α → Bool) (g : α → Option Bool) (F : Nat → Int → Option Int) (k : Nat) (hl : l.length < 1000000) (hk : l.length < k)
  (hF : ∀ j i, F (j + 1) i = bif decide (i < ((l.length : Nat) : Int)) then (idx d l i fun o => (g o).bind fun o2 => bif o2 then some i else F j (IntKind.wrap .i64 (i + 1))) else some (-1))
  (c : Option Bool) (hc : c = (F k 0).bind fun o1 => some (decide (o1 ≥ 0))) (hg : ∀ x ∈ l, g x = some (!p x)) : c = some (!(l.all p)) := by
 obtain ⟨r, h1, h2⟩ := Ae9 l (fun x => !p x) g F hl hF hg k 0 (by omega) (by omega)
 rw [hc, show (0 : Int) = ((0 : Nat) : Int) from rfl, h1, Option.bind_some, ← any_all]
 exact congrArg some h2
end
def Bf (s : List Int) : Bool := Dy 1 s 0 && !resB s
def numB (n : Int) : Bool := decide (0 ≤ n) && decide (n ≤ 999999999999999999)
def byB (l : List Int) : Prop := ∀ x ∈ l, 0 ≤ x ∧ x ≤ 255
def digN : Nat → Nat → List Int
 | 0, _ => []
 | f + 1, n => if n < 10 then [((48 + n : Nat) : Int)] else digN f (n / 10) ++ [((48 + n % 10 : Nat) : Int)]
def numT (n : Int) : List Int := if n < 0 then 45 :: digN 18 n.natAbs else digN 18 n.natAbs
theorem V4 : ∀ (f n : Nat), n < 10 ^ f → 1 ≤ f → (Lib.decDigits n).map (fun b => (b.toNat : Int)) = digN f n
 | 0, n, _, h => by omega
 | f + 1, n, h, _ => by
  rw [Lib.decDigits, digN]
  by_cases h10 : n < 10
  ·rw [dif_pos h10, if_pos h10]
   simp
   omega
  ·have hf : n / 10 < 10 ^ f := by rw [Nat.pow_succ] at h; omega
   have h1 : 1 ≤ f := by
    rcases f with _ | f
    ·simp at h; omega
    ·omega
   rw [dif_neg h10, if_neg h10, List.map_append, V4 f (n / 10) hf h1]
   simp
   omega
theorem V5 : ∀ (f n : Nat), (digN f n).length ≤ f
 | 0, _ => Nat.zero_le _
 | f + 1, n => by
  rw [digN]
  have := V5 f (n / 10)
  split <;> simp <;> omega
theorem Agd : ∀ (f n : Nat), ∀ x ∈ digN f n, Ak x = true
 | 0, _, x, h => by cases h
 | f + 1, n, x, h => by
  rw [digN] at h
  unfold Ak
  split at h
  ·simp at h; simp; omega
  ·rcases List.mem_append.1 h with h | h
   ·exact Agd f _ x h
   ·simp at h; simp; omega
theorem digN_ne (f n : Nat) : digN (f + 1) n ≠ [] := by
 rw [digN]; split <;> simp
theorem A6 (n : Int) : (numT n).length ≤ 19 := by
 unfold numT
 have := V5 18 n.natAbs
 split <;> simp <;> omega
def inM (n : Int) : Prop := -999999999999999999 ≤ n ∧ n ≤ 999999999999999999
theorem Dm {n : Int} (h : numB n = true) : inM n := by
 unfold numB at h; unfold inM; simp at h; omega
theorem Aqs {n : Int} (h : inM n) : bs ⟨(Lib.itoa n).toArray⟩ = numT n := by
 unfold inM at h
 unfold bs Lib.itoa numT
 by_cases hn : n < 0
 ·rw [if_pos hn, if_pos hn]
  show ((45 : UInt8) :: Lib.decDigits n.natAbs).map _ = _
  rw [List.map_cons, V4 18 _ (by omega) (by omega)]
  rfl
 ·rw [if_neg hn, if_neg hn]
  show (Lib.decDigits n.toNat).map _ = _
  rw [V4 18 _ (by omega) (by omega), show n.toNat = n.natAbs by omega]
theorem Arg {s : List Int} (h : Bf s = true) : byB s ∧ s.length ≤ 24 ∧ s ≠ [] ∧ (∀ x ∈ s, Am x = true) ∧ (∃ c r, s = c :: r ∧ A5 c = true) := by
 unfold Bf Dy at h
 simp only [Bool.and_eq_true, decide_eq_true_eq] at h
 obtain ⟨⟨h0, h1, h2⟩, _⟩ := h
 cases s with
 | nil => exact absurd rfl h0
 | cons c r =>
  have hs := Jk (x := c) (r := r) (by rw [h2])
  rw [h2] at hs
  have hw : ∀ x ∈ c :: r, Am x = true := by
   intro x hx
   have h3 : (c :: r).takeWhile Am = c :: r ∧ A5 c = true := by
    simp only [tok1] at h2
    split at h2
    ·rename_i hc
     split at h2
     ·simp at h2
     ·simp only [Prod.mk.injEq] at h2
      exact ⟨h2.2.2.1, hc⟩
    ·split at h2
     ·split at h2 <;> simp at h2
     ·split at h2 <;> simp at h2
   rw [← h3.1] at hx
   exact Od hx
  have hc : A5 c = true := by
   simp only [tok1] at h2
   split at h2
   ·rename_i hc; exact hc
   ·split at h2
    ·split at h2 <;> simp at h2
    ·split at h2 <;> simp at h2
  refine ⟨fun x hx => ?_, hs.2.2.2, by simp, hw, c, r, rfl, hc⟩
  have := hw x hx
  unfold Am A5 Ak at this
  simp at this
  omega
theorem Gt {s : List Int} (h : Bf s = true) : s.length ≤ 24 := (Arg h).2.1
abbrev T3 := Int × List Int × Int
def strip (t : Tk) : T3 := (t.1, t.2.1, t.2.2.1)
def Lexes (s : List Int) (A : List T3) : Prop := ∀ n f, s.length < f → (lx n f s).1 = 0 ∧ (lx n f s).2.2.map strip = A
theorem A73 : Lexes [] [(0, [], 0)] := by
 intro n f hf
 obtain ⟨f, rfl⟩ : ∃ g, f = g + 1 := ⟨f - 1, by simp at hf; omega⟩
 rw [lx]
 exact ⟨rfl, rfl⟩
theorem Gr {c : Int} {s : List Int} {A : List T3} (hc : Bc c = true) (h : Lexes s A) : Lexes (c :: s) A := by
 intro n f hf
 obtain ⟨g, rfl⟩ : ∃ g, f = g + 1 := ⟨f - 1, by simp at hf; omega⟩
 rw [List.length_cons] at hf
 have hd : drp false (c :: s) = drp false s := by
  rw [drp]
  have h35 : c ≠ 35 := by
   intro e
   rw [e] at hc
   simp [Bc] at hc
  rw [if_neg h35, if_pos hc]
 have := h n (g + 1) (by omega)
 rw [lx] at this ⊢
 rw [hd]
 exact this
theorem Ti {x : Int} {r s : List Int} {kd v : Int} {tx : List Int} {A : List T3} (h1 : drp false (x :: r) = x :: r) (h2 : tok1 (x :: r) = (0, kd, tx, v, s)) (h : Lexes s A) : Lexes (x :: r) ((kd, tx, v) :: A) := by
 intro n f hf
 obtain ⟨g, rfl⟩ : ∃ g, f = g + 1 := ⟨f - 1, by simp at hf; omega⟩
 have hr := Ld (x := x) (r := r) (by rw [h2])
 rw [h2] at hr
 simp only [] at hr
 rw [List.length_cons] at hf
 have hs := h n g (by omega)
 rw [lx, h1]
 simp only []
 rw [h2]
 simp only [if_true]
 rw [if_pos hs.1]
 refine ⟨rfl, ?_⟩
 rw [List.map_cons, hs.2]
 rfl
theorem N9 {c : Int} {s : List Int} {A : List T3} (hc : C3 c = true) (h : Lexes s A) : Lexes (c :: s) ((3, [c], 0) :: A) := by
 have e1 : A5 c = false ∧ Ak c = false ∧ Bc c = false ∧ c ≠ 35 := by
  unfold C3 at hc
  simp only [decide_eq_true_eq] at hc
  unfold A5 Ak Bc
  simp
  omega
 refine Ti ?_ ?_ h
 ·rw [drp, if_neg e1.2.2.2, e1.2.2.1]; rfl
 ·rw [tok1, e1.1, e1.2.1, hc]; rfl
def Cuts : List Int → Prop
 | [] => True
 | c :: _ => Am c = false
theorem Ow {p : Int → Bool} : ∀ {l : List Int}, (∀ x ∈ l, p x = true) → ∀ {s : List Int}, (∀ c r, s = c :: r → p c = false) → (l ++ s).takeWhile p = l ∧ (l ++ s).dropWhile p = s
 | [], _, [], _ => ⟨rfl, rfl⟩
 | [], _, c :: s, hs => by
  have := hs c s rfl
  simp [List.takeWhile_cons, List.dropWhile_cons, this]
 | x :: l, hl, s, hs => by
  have IH := Ow (fun y hy => hl y (List.mem_cons_of_mem _ hy)) hs
  have := hl x (by simp)
  simp [List.takeWhile_cons, List.dropWhile_cons, this, IH.1, IH.2]
theorem A72 {w s : List Int} {A : List T3} (hw : Bf w = true) (hs : Cuts s) (h : Lexes s A) : Lexes (w ++ s) ((1, w, 0) :: A) := by
 obtain ⟨-, hl, hne, hall, c, r, rfl, hc⟩ := Arg hw
 have hcut : ∀ d q, s = d :: q → Am d = false := by rintro d q rfl; exact hs
 obtain ⟨t1, t2⟩ := Ow hall hcut
 have e : c ≠ 35 ∧ Bc c = false := by
  unfold A5 at hc
  unfold Bc
  simp at hc ⊢
  omega
 refine Ti (x := c) (r := r ++ s) ?_ ?_ h
 ·rw [drp, if_neg e.1, e.2]; rfl
 ·rw [List.cons_append] at t1 t2
  rw [tok1, hc, if_pos rfl, t1, t2, if_neg (by omega)]
theorem A74 {d s : List Int} {A : List T3} (hd : ∀ x ∈ d, Ak x = true) (hne : d ≠ []) (hl : d.length ≤ 18) (hs : Cuts s) (h : Lexes s A) : Lexes (d ++ s) ((2, d, valD d) :: A) := by
 cases d with
 | nil => exact absurd rfl hne
 | cons c r =>
  have hcut : ∀ e q, s = e :: q → Ak e = false := by rintro e q rfl; exact Bba hs
  obtain ⟨t1, t2⟩ := Ow hd hcut
  have hc := hd c (by simp)
  have e : c ≠ 35 ∧ Bc c = false ∧ A5 c = false := by
   unfold Ak at hc
   unfold Bc A5
   simp at hc ⊢
   omega
  refine Ti (x := c) (r := r ++ s) ?_ ?_ h
  ·rw [drp, if_neg e.1, e.2.1]; rfl
  ·rw [List.cons_append] at t1 t2
   rw [tok1, e.2.2, hc]
   simp only [Bool.false_eq_true, if_false, if_true]
   rw [t1, t2, if_neg (by omega)]
theorem Ba8 (l : List Int) (c : Int) : valD (l ++ [c]) = 10 * valD l + (c - 48) := by
 unfold valD
 rw [List.foldl_append]
 rfl
theorem Awc : ∀ (f n : Nat), n < 10 ^ f → 1 ≤ f → valD (digN f n) = n
 | 0, n, _, h => by omega
 | f + 1, n, h, _ => by
  rw [digN]
  by_cases h10 : n < 10
  ·rw [if_pos h10]
   simp [valD]
   omega
  ·rw [if_neg h10, Ba8, Awc f (n / 10) (by rw [Nat.pow_succ] at h; omega) (by
    rcases f with _ | f
    ·simp at h; omega
    ·omega)]
   omega
def numK (n : Int) : List T3 := bif decide (n < 0) then [(3, ([45] : List Int), 0), (2, digN 18 n.natAbs, -n)] else [(2, digN 18 n.natAbs, n)]
theorem Acy {n : Int} (hn : inM n) {s : List Int} {A : List T3} (hs : Cuts s) (h : Lexes s A) : Lexes (numT n ++ s) (numK n ++ A) := by
 unfold inM at hn
 have L := A74 (d := digN 18 n.natAbs) (Agd _ _) (digN_ne 17 _) (V5 _ _) hs h
 rw [Awc 18 _ (by omega) (by omega)] at L
 unfold numT numK
 by_cases h0 : n < 0
 ·rw [if_pos h0, show decide (n < 0) = true by simpa using h0]
  have e : ((n.natAbs : Nat) : Int) = -n := by omega
  rw [e] at L
  exact N9 (by decide) L
 ·rw [if_neg h0, show decide (n < 0) = false by simpa using h0]
  have e : ((n.natAbs : Nat) : Int) = n := by omega
  rw [e] at L
  exact L
def wd (s : List Int) : T3 := (1, s, 0)
def sg (s : List Int) : T3 := (3, s, 0)
def O1 : List Int → Bool
 | [] => false
 | c :: r => A5 c && (r.all Am && decide (r.length < 24))
theorem Tj {w s : List Int} {A : List T3} (hw : O1 w = true) (hs : Cuts s) (h : Lexes s A) : Lexes (w ++ s) (wd w :: A) := by
 cases w with
 | nil => cases hw
 | cons c r =>
  unfold O1 at hw
  simp only [Bool.and_eq_true, List.all_eq_true, decide_eq_true_eq] at hw
  obtain ⟨hc, hr, hl⟩ := hw
  have hall : ∀ x ∈ c :: r, Am x = true := by
   intro x hx
   rcases List.mem_cons.1 hx with rfl | hx
   ·simp [Am, hc]
   ·exact hr x hx
  have hcut : ∀ d q, s = d :: q → Am d = false := by rintro d q rfl; exact hs
  obtain ⟨t1, t2⟩ := Ow hall hcut
  have e : c ≠ 35 ∧ Bc c = false := by
   unfold A5 at hc
   unfold Bc
   simp at hc ⊢
   omega
  refine Ti (x := c) (r := r ++ s) ?_ ?_ h
  ·rw [drp, if_neg e.1, e.2]; rfl
  ·rw [List.cons_append] at t1 t2
   rw [tok1, hc, if_pos rfl, t1, t2, if_neg (by rw [List.length_cons]; omega)]
theorem kw (w : List Int) (hw : O1 w = true) {s : List Int} {A : List T3} (h : Lexes s A) : Lexes (32 :: (w ++ 32 :: s)) (wd w :: A) :=
 Gr (by decide) (Tj hw (show Am 32 = false by decide) (Gr (by decide) h))
theorem kw0 (w : List Int) (hw : O1 w = true) {s : List Int} {A : List T3} (h : Lexes s A) : Lexes (w ++ 32 :: s) (wd w :: A) := Tj hw (show Am 32 = false by decide) (Gr (by decide) h)
theorem semi {s : List Int} {A : List T3} (h : Lexes s A) : Lexes (59 :: 10 :: s) (sg ([59] : List Int) :: A) := N9 (by decide) (Gr (by decide) h)
theorem nm {w s : List Int} {A : List T3} (hw : Bf w = true) {c : Int} (hc : Am c = false) (h : Lexes (c :: s) A) : Lexes (w ++ c :: s) (wd w :: A) := A72 hw hc h
theorem nu {n : Int} (hn : inM n) {c : Int} {s : List Int} {A : List T3} (hc : Am c = false) (h : Lexes (c :: s) A) : Lexes (numT n ++ c :: s) (numK n ++ A) := Acy hn hc h
abbrev Cr : Type := List Int × Int × Int × Unit
abbrev Av : Type := List Int × Int × Int × Int × List Cr × Unit
abbrev Cg : Type := List (List Av) × Unit
abbrev TimT : Type := List Int × Int × List Cg × (Int × Int × Unit) × Unit
abbrev A3 : Type := Int × List TimT × Int × Int × Int × Int × Bool × Int
abbrev RE (α : Type) : Type := (α × List Tk) ⊕ (Int × List Tk)
def hd (l : List Tk) : Tk := l.headD tkD
def Al {α β : Type} (x : RE α) (f : α → List Tk → RE β) : RE β := match x with
 | .inl y => f y.1 y.2
 | .inr e => .inr e
def tk1 (l : List Tk) : List Tk := bif (hd l).1 != 0 then l.tail else l
def An : List (List Int) → List Tk → RE Unit
 | [], l => .inl ((), l)
 | w :: ws, l => bif (hd l).2.1 == w then An ws (tk1 l) else .inr (50, l)
def F5 (l : List Tk) : RE (List Int) := bif (hd l).1 != 1 || resB (hd l).2.1 then .inr (50, l) else .inl ((hd l).2.1, tk1 l)
def numC (l : List Tk) : RE Int := bif (hd l).1 != 2 then .inr (50, l) else .inl ((hd l).2.2.1, tk1 l)
def numP (ws : List (List Int)) (l : List Tk) : RE Int := Al (An ws l) fun _ l => numC l
def By {α : Type} (w : List Int) (least most : Int) (read : List Tk → RE α) : Nat → List Tk → List α → RE (List α)
 | 0, l, o => .inl (o, l)
 | f + 1, l, o => bif ((hd l).2.1 == w) || decide (((o.length : Nat) : Int) < least) then
   (bif ((o.length : Nat) : Int) == most then .inr (4, l) else Al (An [w] l) fun _ l => Al (read l) fun x l => By w least most read f l (o ++ [x]))
  else .inl (o, l)
def Gb (l : List Tk) : RE Cr := Al (F5 l) fun n l => Al (numP [] l) fun a l => Al (numP [([102, 108, 97, 115, 104] : List Int)] l) fun b l => .inl ((n, a, b, ()), l)
def Fp (l : List Tk) : RE Av :=
 Al (F5 l) fun n l => Al (numP [([115, 112, 108, 105, 116] : List Int)] l) fun a l => Al (numP [([121, 101, 108, 108, 111, 119] : List Int)] l) fun b l => Al (numP [([114, 101, 100] : List Int)] l) fun c l =>
  Al (By ([119, 97, 108, 107] : List Int) 0 8 Gb (l.length + 1) l []) fun ws l => Al (An [([59] : List Int)] l) fun _ l => .inl ((n, a, b, c, ws, ()), l)
def Em {α : Type} (w : List Int) (least most : Int) (read : List Tk → RE α) (l : List Tk) : RE (List α) :=
 Al (An [([123] : List Int)] l) fun _ l => Al (By w least most read (l.length + 1) l []) fun r l => Al (An [([125] : List Int)] l) fun _ l => .inl (r, l)
def Eg (l : List Tk) : RE (List Av) := Em ([112, 104, 97, 115, 101] : List Int) 1 4 Fp l
def Fq (l : List Tk) : RE Cg := Al (Em ([114, 105, 110, 103] : List Int) 1 2 Eg l) fun r l => .inl ((r, ()), l)
def Ga (l : List Tk) : RE TimT :=
 Al (F5 l) fun n l => Al (numP [([111, 102, 102, 115, 101, 116] : List Int)] l) fun o l => Al (numP [([115, 117, 109] : List Int)] l) fun a l => Al (numP [([47] : List Int)] l) fun b l =>
  Al (Em ([103, 114, 111, 117, 112] : List Int) 0 4 Fq l) fun g l => .inl ((n, o, g, (a, b, ()), ()), l)
def Jm (w : List Int) (l : List Tk) : RE (Int × Int) := Al (numP [w] l) fun a l => Al (numP [] l) fun b l => Al (An [([59] : List Int)] l) fun _ l => .inl ((a, b), l)
def Ln (l : List Tk) : RE Bool := bif (hd l).2.1 == ([121, 101, 115] : List Int) then .inl (true, tk1 l) else Al (An [([110, 111] : List Int)] l) fun _ l => .inl (false, l)
def endP (c : Int) (t : List TimT) (o i : Int × Int) (b : Bool) (l : List Tk) : RE A3 :=
 Al (numP [([59] : List Int), ([115, 112, 101, 110, 116] : List Int)] l) fun s l => Al (An [([59] : List Int)] l) fun _ l => bif (hd l).1 != 0 then .inr (50, l) else .inl ((c, t, o.1, o.2, i.1, i.2, b, s), l)
def Oi (l : List Tk) : RE A3 :=
 Al (numP [([112, 108, 97, 110] : List Int), ([99, 121, 99, 108, 101] : List Int)] l) fun c l => Al (An [([59] : List Int)] l) fun _ l => Al (By ([110, 111, 100, 101] : List Int) 0 12 Ga (l.length + 1) l []) fun t l =>
  Al (Jm ([111, 117, 116] : List Int) l) fun o l => Al (Jm ([105, 110] : List Int) l) fun i l => Al (An [([98, 101, 115, 116] : List Int)] l) fun _ l => Al (Ln l) fun b l => endP c t o i b l
def zeroP : A3 := (0, [], 0, 0, 0, 0, false, 0)
def Dg (b : List Int) : A3 × Int × Int :=
 bif (toks b).1 != 0 then (zeroP, (toks b).1, (toks b).2.1)
 else match Oi (toks b).2.2 with
  | .inl y => (y.1, 0, 0)
  | .inr e => (zeroP, e.1, (hd e.2).2.2.2.1)
def EndT (l : List Tk) : Prop := ∃ r t, l = r ++ [t] ∧ t.1 = 0
theorem EndT.ne {l : List Tk} (h : EndT l) : l ≠ [] := by
 obtain ⟨r, t, rfl, _⟩ := h
 simp
theorem EndT.tk1 {l : List Tk} (h : EndT l) : EndT (tk1 l) := by
 unfold Go.Proofs.YtcmmgllmncllfaaGreatDoorV.tk1
 cases hc : (hd l).1 != 0
 ·exact h
 ·obtain ⟨r, t, rfl, ht⟩ := h
  cases r with
  | nil => simp [hd, ht] at hc
  | cons a r => exact ⟨r, t, rfl, ht⟩
theorem Ael (l : List Tk) : tk1 l <:+ l := by
 unfold tk1
 cases (hd l).1 != 0
 ·exact List.suffix_rfl
 ·exact List.tail_suffix l
def lenB {α : Type} (l : List α) (a b : Nat) : Bool := decide (a ≤ l.length) && decide (l.length ≤ b)
def wlkB (w : Cr) : Bool := Bf w.1 && (numB w.2.1 && numB w.2.2.1)
def Cd (s : Av) : Bool := Bf s.1 && (numB s.2.1 && (numB s.2.2.1 && (numB s.2.2.2.1 && (lenB s.2.2.2.2.1 0 8 && s.2.2.2.2.1.all wlkB))))
def Cb (l : List Av) : Bool := lenB l 1 4 && l.all Cd
def Cn (g : Cg) : Bool := lenB g.1 1 2 && g.1.all Cb
def timB (t : TimT) : Bool := Bf t.1 && (numB t.2.1 && (numB t.2.2.2.1.1 && (numB t.2.2.2.1.2.1 && (lenB t.2.2.1 0 4 && t.2.2.1.all Cn))))
def Cl (p : A3) : Bool := numB p.1 && (numB p.2.2.1 && (numB p.2.2.2.1 && (numB p.2.2.2.2.1 && (numB p.2.2.2.2.2.1 && (numB p.2.2.2.2.2.2.2 && (lenB p.2.1 0 12 && p.2.1.all timB))))))
def TokG (t : Tk) : Prop := (t.1 = 1 → Dy 1 t.2.1 0 = true) ∧ (t.1 = 2 → numB t.2.2.1 = true) ∧ (t.1 = 0 → t.2.1 = [])
def Gd (l : List Tk) : Prop := ∀ t ∈ l, TokG t
theorem Gd.suf {l m : List Tk} (g : Gd l) (h : m <:+ l) : Gd m := fun t ht => g t (h.subset ht)
theorem Gd.hd {l : List Tk} (g : Gd l) (h : l ≠ []) : TokG (hd l) := by
 cases l with
 | nil => exact absurd rfl h
 | cons t r => exact g t (by simp)
theorem Ov {l m : List Tk} (h : l.map strip = m.map strip) : (hd l).1 = (hd m).1 ∧ (hd l).2.1 = (hd m).2.1 ∧ (hd l).2.2.1 = (hd m).2.2.1 := by
 cases l with
 | nil => cases m with | nil => exact ⟨rfl, rfl, rfl⟩ | cons => simp at h
 | cons t r => cases m with
  | nil => simp at h
  | cons u q =>
   simp only [List.map_cons, List.cons.injEq, strip, Prod.mk.injEq] at h
   exact h.1
theorem Avy {l m : List Tk} (h : l.map strip = m.map strip) : l.length = m.length := by
 have := congrArg List.length h
 simpa using this
theorem Avz {l m : List Tk} (h : l.map strip = m.map strip) : (tk1 l).map strip = (tk1 m).map strip := by
 unfold tk1
 rw [(Ov h).1]
 cases (Go.Proofs.YtcmmgllmncllfaaGreatDoorV.hd m).1 != 0
 ·exact h
 ·simp only [cond_true]
  rw [List.map_tail, List.map_tail, h]
def Rel {α : Type} (P : α → Prop) (l m : List Tk) : RE α → RE α → Prop
 | .inl a, .inl b => a.1 = b.1 ∧ a.2.map strip = b.2.map strip ∧ a.2 <:+ l ∧ b.2 <:+ m ∧ EndT a.2 ∧ EndT b.2 ∧ P a.1
 | .inr a, .inr b => a.1 = b.1 ∧ (a.1 = 50 ∨ a.1 = 4) ∧ a.2 <:+ l ∧ b.2 <:+ m
 | _, _ => False
theorem Bk {α β : Type} {P : α → Prop} {Q : β → Prop} {l m : List Tk} {x y : RE α} {f g : α → List Tk → RE β} (h : Rel P l m x y)
  (hf : ∀ a l' m', P a → l'.map strip = m'.map strip → l' <:+ l → EndT l' → EndT m' → Rel Q l' m' (f a l') (g a m')) : Rel Q l m (Al x f) (Al y g) := by
 cases x with
 | inr a => cases y with
  | inr b => exact h
  | inl b => exact h.elim
 | inl a => cases y with
  | inr b => exact h.elim
  | inl b =>
   obtain ⟨h1, h2, h3, h4, h5, h6, h7⟩ := h
   have h8 := hf a.1 a.2 b.2 h7 h2 h3 h5 h6
   show Rel Q l m (f a.1 a.2) (g b.1 b.2)
   rw [← h1]
   revert h8
   generalize f a.1 a.2 = u
   generalize g a.1 b.2 = v
   intro h8
   cases u with
   | inr c => cases v with
    | inr d => exact ⟨h8.1, h8.2.1, h8.2.2.1.trans h3, h8.2.2.2.trans h4⟩
    | inl d => exact h8.elim
   | inl c => cases v with
    | inr d => exact h8.elim
    | inl d =>
     obtain ⟨k1, k2, k3, k4, k5, k6, k7⟩ := h8
     exact ⟨k1, k2, k3.trans h3, k4.trans h4, k5, k6, k7⟩
theorem rel_imp {α : Type} {P Q : α → Prop} {l m : List Tk} {x y : RE α} (h : Rel P l m x y) (hpq : ∀ a, P a → Q a) : Rel Q l m x y := by
 cases x with
 | inr a => cases y with
  | inr b => exact h
  | inl b => exact h.elim
 | inl a => cases y with
  | inr b => exact h.elim
  | inl b => exact ⟨h.1, h.2.1, h.2.2.1, h.2.2.2.1, h.2.2.2.2.1, h.2.2.2.2.2.1, hpq _ h.2.2.2.2.2.2⟩
theorem rel_suf {α : Type} {P : α → Prop} {l m l' m' : List Tk} {x y : RE α} (h : Rel P l' m' x y) (h1 : l' <:+ l) (h2 : m' <:+ m) : Rel P l m x y := by
 cases x with
 | inr a => cases y with
  | inr b => exact ⟨h.1, h.2.1, h.2.2.1.trans h1, h.2.2.2.trans h2⟩
  | inl b => exact h.elim
 | inl a => cases y with
  | inr b => exact h.elim
  | inl b => exact ⟨h.1, h.2.1, h.2.2.1.trans h1, h.2.2.2.1.trans h2, h.2.2.2.2.1, h.2.2.2.2.2.1, h.2.2.2.2.2.2⟩
section
variable {l m : List Tk}
theorem Ib {α : Type} {P : α → Prop} {v : α} (h : l.map strip = m.map strip) (e1 : EndT l) (e2 : EndT m) (hv : P v) : Rel P l m (.inl (v, l)) (.inl (v, m)) := ⟨rfl, h, List.suffix_rfl, List.suffix_rfl, e1, e2, hv⟩
theorem Adr {α : Type} {P : α → Prop} {v : α} (h : l.map strip = m.map strip) (e1 : EndT l) (e2 : EndT m) (hv : P v) : Rel P l m (.inl (v, tk1 l)) (.inl (v, tk1 m)) := ⟨rfl, Avz h, Ael l, Ael m, e1.tk1, e2.tk1, hv⟩
theorem T6 {α : Type} {P : α → Prop} {c : Int} (hc : c = 50 ∨ c = 4) : Rel (α := α) P l m (.inr (c, l)) (.inr (c, m)) := ⟨rfl, hc, List.suffix_rfl, List.suffix_rfl⟩
theorem Gz : ∀ (ws : List (List Int)) {l m : List Tk}, l.map strip = m.map strip → EndT l → EndT m → Rel (fun _ => True) l m (An ws l) (An ws m)
 | [], l, m, h, e1, e2 => Ib h e1 e2 trivial
 | w :: ws, l, m, h, e1, e2 => by
  rw [An, An, (Ov h).2.1]
  cases (Go.Proofs.YtcmmgllmncllfaaGreatDoorV.hd m).2.1 == w
  ·exact T6 (.inl rfl)
  ·have IH := Gz ws (Avz h) e1.tk1 e2.tk1
   exact Bk (x := .inl ((), tk1 l)) (y := .inl ((), tk1 m)) (P := fun _ => True) (Adr h e1 e2 trivial) (f := fun _ l => An ws l) (g := fun _ l => An ws l) fun _ l' m' _ h' _ e1' e2' => Gz ws h' e1' e2'
theorem K5 (h : l.map strip = m.map strip) (e1 : EndT l) (e2 : EndT m) (g : Gd l) : Rel (fun s => Bf s = true) l m (F5 l) (F5 m) := by
 unfold F5
 obtain ⟨h1, h2, h3⟩ := Ov h
 rw [← h1, ← h2]
 cases hc : (Go.Proofs.YtcmmgllmncllfaaGreatDoorV.hd l).1 != 1 || resB (Go.Proofs.YtcmmgllmncllfaaGreatDoorV.hd l).2.1
 ·refine Adr h e1 e2 ?_
  simp only [Bool.or_eq_false_iff, bne_eq_false_iff_eq] at hc
  unfold Bf
  rw [(g.hd e1.ne).1 hc.1, hc.2]
  rfl
 ·exact T6 (.inl rfl)
theorem A9f (h : l.map strip = m.map strip) (e1 : EndT l) (e2 : EndT m) (g : Gd l) : Rel (fun n => numB n = true) l m (numC l) (numC m) := by
 unfold numC
 obtain ⟨h1, h2, h3⟩ := Ov h
 rw [← h1, ← h3]
 cases hc : (Go.Proofs.YtcmmgllmncllfaaGreatDoorV.hd l).1 != 2
 ·refine Adr h e1 e2 ?_
  exact (g.hd e1.ne).2.1 (by simpa using hc)
 ·exact T6 (.inl rfl)
theorem Bx (ws : List (List Int)) (h : l.map strip = m.map strip) (e1 : EndT l) (e2 : EndT m) (g : Gd l) : Rel (fun n => numB n = true) l m (numP ws l) (numP ws m) :=
 Bk (Gz ws h e1 e2) fun _ l' m' _ h' hs e1' e2' => A9f h' e1' e2' (g.suf hs)
theorem Awh {w : List Int} {l l' : List Tk} {u : Unit} (hw : w ≠ []) (g : Gd l) (e : EndT l) (h : An [w] l = .inl (u, l')) : l'.length < l.length := by
 rw [An] at h
 cases hc : (Go.Proofs.YtcmmgllmncllfaaGreatDoorV.hd l).2.1 == w <;> rw [hc] at h
 ·cases h
 ·simp only [cond_true, An] at h
  have h2 : tk1 l = l' := by cases h; rfl
  subst h2
  have hk : (Go.Proofs.YtcmmgllmncllfaaGreatDoorV.hd l).1 ≠ 0 := fun h0 => by
   have := (g.hd e.ne).2.2 h0
   rw [this] at hc
   exact hw (by simpa using hc.symm)
  unfold tk1
  rw [show ((Go.Proofs.YtcmmgllmncllfaaGreatDoorV.hd l).1 != 0) = true by simpa using hk, cond_true]
  have := List.length_pos_iff.2 e.ne
  rw [List.length_tail]; omega
theorem Ic {α : Type} {w : List Int} (hw : w ≠ []) {least most : Nat} {read : List Tk → RE α} {P : α → Prop} (hr : ∀ {l m : List Tk}, l.map strip = m.map strip → EndT l → EndT m → Gd l → Rel P l m (read l) (read m)) :
  ∀ (f : Nat) (l m : List Tk) (o : List α), l.map strip = m.map strip → EndT l → EndT m → Gd l → l.length < f → (∀ x ∈ o, P x) → o.length ≤ most →
  Rel (fun r => (∀ x ∈ r, P x) ∧ least ≤ r.length ∧ r.length ≤ most) l m (By w least most read f l o) (By w least most read f m o)
 | 0, l, m, o, _, _, _, _, hf, _, _ => by omega
 | f + 1, l, m, o, h, e1, e2, g, hf, ho, hm => by
  rw [By, By, ← (Ov h).2.1]
  cases hc : ((Go.Proofs.YtcmmgllmncllfaaGreatDoorV.hd l).2.1 == w) || decide (((o.length : Nat) : Int) < (least : Int))
  ·simp only [cond_false]
   refine Ib h e1 e2 ⟨ho, ?_, hm⟩
   simp only [Bool.or_eq_false_iff, decide_eq_false_iff_not] at hc
   omega
  ·simp only [cond_true]
   cases hq : ((o.length : Nat) : Int) == (most : Int)
   ·simp only [cond_false]
    have hq2 : ¬ ((o.length : Nat) : Int) = (most : Int) := by simpa using hq
    have hrw := Gz [w] h e1 e2
    cases hwd : An [w] l with
    | inr a =>
     rw [hwd] at hrw
     cases hwm : An [w] m with
     | inr b => rw [hwm] at hrw; exact hrw
     | inl b => rw [hwm] at hrw; exact hrw.elim
    | inl a =>
     have hlt := Awh hw g e1 (l' := a.2) (u := a.1) hwd
     rw [hwd] at hrw
     cases hwm : An [w] m with
     | inr b => rw [hwm] at hrw; exact hrw.elim
     | inl b =>
      rw [hwm] at hrw
      obtain ⟨q1, q2, q3, q4, q5, q6, _⟩ := hrw
      show Rel _ l m (Al (read a.2) fun x l => By w least most read f l (o ++ [x])) (Al (read b.2) fun x l => By w least most read f l (o ++ [x]))
      refine rel_suf (l' := a.2) (m' := b.2) ?_ q3 q4
      exact Bk (hr q2 q5 q6 (g.suf q3)) fun x l2 m2 hx h2 s2 d3 d4 => Ic hw hr f l2 m2 (o ++ [x]) h2 d3 d4 ((g.suf q3).suf s2) (by have := s2.length_le; omega)
       (fun y hy => by rcases List.mem_append.1 hy with hy | hy; exact ho y hy; rw [List.mem_singleton.1 hy]; exact hx) (by rw [List.length_append, List.length_singleton]; omega)
   ·exact T6 (.inr rfl)
theorem O8 {α : Type} {p : α → Bool} {l : List α} (h : ∀ x ∈ l, p x = true) : l.all p = true := List.all_eq_true.2 h
theorem Th {α : Type} {l : List α} {a b : Nat} (h1 : a ≤ l.length) (h2 : l.length ≤ b) : lenB l a b = true := by
 unfold lenB
 simp [h1, h2]
theorem Ads (h : l.map strip = m.map strip) (e1 : EndT l) (e2 : EndT m) (g : Gd l) : Rel (fun w => wlkB w = true) l m (Gb l) (Gb m) :=
 Bk (K5 h e1 e2 g) fun n l1 m1 p1 h1 s1 d1 d2 => Bk (Bx [] h1 d1 d2 (g.suf s1)) fun a l2 m2 p2 h2 s2 d3 d4 => Bk (Bx [([102, 108, 97, 115, 104] : List Int)] h2 d3 d4 ((g.suf s1).suf s2)) fun b l3 m3 p3 h3 s3 d5 d6 =>
  Ib h3 d5 d6 (by unfold wlkB; simp only; rw [p1, p2, p3]; rfl)
theorem Adp (h : l.map strip = m.map strip) (e1 : EndT l) (e2 : EndT m) (g : Gd l) : Rel (fun w => Cd w = true) l m (Fp l) (Fp m) :=
 Bk (K5 h e1 e2 g) fun n l1 m1 p1 h1 s1 d1 d2 => by
 have g1 := g.suf s1
 refine Bk (Bx [([115, 112, 108, 105, 116] : List Int)] h1 d1 d2 g1) fun a l2 m2 p2 h2 s2 d3 d4 => ?_
 have g2 := g1.suf s2
 refine Bk (Bx [([121, 101, 108, 108, 111, 119] : List Int)] h2 d3 d4 g2) fun b l3 m3 p3 h3 s3 d5 d6 => ?_
 have g3 := g2.suf s3
 refine Bk (Bx [([114, 101, 100] : List Int)] h3 d5 d6 g3) fun c l4 m4 p4 h4 s4 d7 d8 => ?_
 have g4 := g3.suf s4
 rw [← Avy h4]
 refine Bk (Ic (w := ([119, 97, 108, 107] : List Int)) (by decide) (least := 0) (most := 8) Ads (l4.length + 1) l4 m4 [] h4 d7 d8 g4 (Nat.lt_succ_self _) (fun x hx => by cases hx) (Nat.zero_le _)) fun ws l5 m5 p5 h5 s5 d9 d10 => ?_
 refine Bk (Gz [([59] : List Int)] h5 d9 d10) fun _ l6 m6 _ h6 s6 f1 f2 => ?_
 exact Ib h6 f1 f2 (by unfold Cd; simp only; rw [p1, p2, p3, p4, Th p5.2.1 p5.2.2, O8 p5.1]; rfl)
theorem Adn {α : Type} {w : List Int} (hw : w ≠ []) {least most : Nat} {read : List Tk → RE α} {P : α → Prop} (hr : ∀ {l m : List Tk}, l.map strip = m.map strip → EndT l → EndT m → Gd l → Rel P l m (read l) (read m))
  (h : l.map strip = m.map strip) (e1 : EndT l) (e2 : EndT m) (g : Gd l) : Rel (fun r => (∀ x ∈ r, P x) ∧ least ≤ r.length ∧ r.length ≤ most) l m (Em w least most read l) (Em w least most read m) :=
 Bk (Gz [([123] : List Int)] h e1 e2) fun _ l1 m1 _ h1 s1 d1 d2 => by
 rw [← Avy h1]
 refine Bk (Ic hw hr (l1.length + 1) l1 m1 [] h1 d1 d2 (g.suf s1) (Nat.lt_succ_self _) (fun x hx => by cases hx) (Nat.zero_le _)) fun r l2 m2 p2 h2 s2 d3 d4 => ?_
 exact Bk (Gz [([125] : List Int)] h2 d3 d4) fun _ l3 m3 _ h3 s3 d5 d6 => Ib h3 d5 d6 p2
theorem Ado (h : l.map strip = m.map strip) (e1 : EndT l) (e2 : EndT m) (g : Gd l) : Rel (fun r => Cb r = true) l m (Eg l) (Eg m) :=
 rel_imp (Adn (w := ([112, 104, 97, 115, 101] : List Int)) (by decide) (least := 1) (most := 4) Adp h e1 e2 g) fun r hr => by unfold Cb; rw [Th hr.2.1 hr.2.2, O8 hr.1]; rfl
theorem Adq (h : l.map strip = m.map strip) (e1 : EndT l) (e2 : EndT m) (g : Gd l) : Rel (fun r => Cn r = true) l m (Fq l) (Fq m) :=
 Bk (Adn (w := ([114, 105, 110, 103] : List Int)) (by decide) (least := 1) (most := 2) Ado h e1 e2 g) fun r l1 m1 hr h1 s1 d1 d2 => Ib h1 d1 d2 (by unfold Cn; simp only; rw [Th hr.2.1 hr.2.2, O8 hr.1]; rfl)
theorem Asn (h : l.map strip = m.map strip) (e1 : EndT l) (e2 : EndT m) (g : Gd l) : Rel (fun r => timB r = true) l m (Ga l) (Ga m) :=
 Bk (K5 h e1 e2 g) fun n l1 m1 p1 h1 s1 d1 d2 => by
 have g1 := g.suf s1
 refine Bk (Bx [([111, 102, 102, 115, 101, 116] : List Int)] h1 d1 d2 g1) fun a l2 m2 p2 h2 s2 d3 d4 => ?_
 have g2 := g1.suf s2
 refine Bk (Bx [([115, 117, 109] : List Int)] h2 d3 d4 g2) fun b l3 m3 p3 h3 s3 d5 d6 => ?_
 have g3 := g2.suf s3
 refine Bk (Bx [([47] : List Int)] h3 d5 d6 g3) fun c l4 m4 p4 h4 s4 d7 d8 => ?_
 refine Bk (Adn (w := ([103, 114, 111, 117, 112] : List Int)) (by decide) (least := 0) (most := 4) Adq h4 d7 d8 (g3.suf s4)) fun r l5 m5 hr h5 s5 d9 d10 => ?_
 exact Ib h5 d9 d10 (by unfold timB; simp only; rw [p1, p2, p3, p4, Th hr.2.1 hr.2.2, O8 hr.1]; rfl)
theorem Aso (w : List Int) (h : l.map strip = m.map strip) (e1 : EndT l) (e2 : EndT m) (g : Gd l) : Rel (fun r => numB r.1 = true ∧ numB r.2 = true) l m (Jm w l) (Jm w m) :=
 Bk (Bx [w] h e1 e2 g) fun a l1 m1 p1 h1 s1 d1 d2 => Bk (Bx [] h1 d1 d2 (g.suf s1)) fun b l2 m2 p2 h2 s2 d3 d4 => Bk (Gz [([59] : List Int)] h2 d3 d4) fun _ l3 m3 _ h3 s3 d5 d6 => Ib h3 d5 d6 ⟨p1, p2⟩
end
def Ei (w : Cr) : List (List Int) := [([32, 119, 97, 108, 107, 32] : List Int), w.1, ([32] : List Int), numT w.2.1, ([32, 102, 108, 97, 115, 104, 32] : List Int), numT w.2.2.1]
def Ot (s : Av) : List (List Int) := [([32, 32, 32, 32, 32, 32, 112, 104, 97, 115, 101, 32] : List Int), s.1, ([32, 115, 112, 108, 105, 116, 32] : List Int), numT s.2.1, ([32, 121, 101, 108, 108, 111, 119, 32] : List Int), numT s.2.2.1, ([32, 114, 101, 100, 32] : List Int), numT s.2.2.2.1]
def Ce (s : Av) : List Int := (Ot s).flatten ++ (s.2.2.2.2.1.flatMap (fun w => (Ei w).flatten) ++ ([59, 10] : List Int))
def Cc (l : List Av) : List Int := ([32, 32, 32, 32, 114, 105, 110, 103, 32, 123, 10] : List Int) ++ (l.flatMap Ce ++ ([32, 32, 32, 32, 125, 10] : List Int))
def Cf (g : Cg) : List Int := ([32, 32, 103, 114, 111, 117, 112, 32, 123, 10] : List Int) ++ (g.1.flatMap Cc ++ ([32, 32, 125, 10] : List Int))
def timX (t : TimT) : List (List Int) := [([110, 111, 100, 101, 32] : List Int), t.1, ([32, 111, 102, 102, 115, 101, 116, 32] : List Int), numT t.2.1, ([32, 115, 117, 109, 32] : List Int), numT t.2.2.2.1.1, ([47] : List Int), numT t.2.2.2.1.2.1, ([32, 123, 10] : List Int)]
def timT (t : TimT) : List Int := (timX t).flatten ++ (t.2.2.1.flatMap Cf ++ ([125, 10] : List Int))
def yesT (b : Bool) : List Int := bif b then ([121, 101, 115] : List Int) else ([110, 111] : List Int)
def Ig (p : A3) : List (List Int) := [([111, 117, 116, 32] : List Int), numT p.2.2.1, ([32] : List Int), numT p.2.2.2.1, ([59, 10] : List Int), ([105, 110, 32] : List Int), numT p.2.2.2.2.1, ([32] : List Int), numT p.2.2.2.2.2.1, ([59, 10] : List Int), ([98, 101, 115, 116, 32] : List Int), yesT p.2.2.2.2.2.2.1, ([59, 10] : List Int), ([115, 112, 101, 110, 116, 32] : List Int), numT p.2.2.2.2.2.2.2, ([59, 10] : List Int)]
def Bh (p : A3) : List Int := [([112, 108, 97, 110, 32, 99, 121, 99, 108, 101, 32] : List Int), numT p.1, ([59, 10] : List Int)].flatten ++ (p.2.1.flatMap timT ++ (Ig p).flatten)
def Jl (w : Cr) : List T3 := wd ([119, 97, 108, 107] : List Int) :: wd w.1 :: (numK w.2.1 ++ (wd ([102, 108, 97, 115, 104] : List Int) :: numK w.2.2.1))
def Oq (s : Av) : List T3 := wd ([112, 104, 97, 115, 101] : List Int) :: wd s.1 :: wd ([115, 112, 108, 105, 116] : List Int) :: (numK s.2.1 ++ (wd ([121, 101, 108, 108, 111, 119] : List Int) :: (numK s.2.2.1 ++ (wd ([114, 101, 100] : List Int) :: (numK s.2.2.2.1 ++ (s.2.2.2.2.1.flatMap Jl ++ [sg ([59] : List Int)]))))))
def Ol (l : List Av) : List T3 := wd ([114, 105, 110, 103] : List Int) :: sg ([123] : List Int) :: (l.flatMap Oq ++ [sg ([125] : List Int)])
def Ou (g : Cg) : List T3 := wd ([103, 114, 111, 117, 112] : List Int) :: sg ([123] : List Int) :: (g.1.flatMap Ol ++ [sg ([125] : List Int)])
def timK (t : TimT) : List T3 := wd ([110, 111, 100, 101] : List Int) :: wd t.1 :: wd ([111, 102, 102, 115, 101, 116] : List Int) :: (numK t.2.1 ++ (wd ([115, 117, 109] : List Int) :: (numK t.2.2.2.1.1 ++ (sg ([47] : List Int) :: (numK t.2.2.2.1.2.1 ++ (sg ([123] : List Int) :: (t.2.2.1.flatMap Ou ++ [sg ([125] : List Int)])))))))
def tailK (p : A3) : List T3 := wd ([111, 117, 116] : List Int) :: (numK p.2.2.1 ++ (numK p.2.2.2.1 ++ (sg ([59] : List Int) :: wd ([105, 110] : List Int) :: (numK p.2.2.2.2.1 ++ (numK p.2.2.2.2.2.1 ++ (sg ([59] : List Int) :: wd ([98, 101, 115, 116] : List Int) :: wd (yesT p.2.2.2.2.2.2.1) :: sg ([59] : List Int) :: wd ([115, 112, 101, 110, 116] : List Int) :: (numK p.2.2.2.2.2.2.2 ++ [sg ([59] : List Int), (0, [], 0)])))))))
def T2 (p : A3) : List T3 := wd ([112, 108, 97, 110] : List Int) :: wd ([99, 121, 99, 108, 101] : List Int) :: (numK p.1 ++ (sg ([59] : List Int) :: (p.2.1.flatMap timK ++ tailK p)))
theorem N8 {α : Type} {f : α → List Int} {g : α → List T3} : ∀ {l : List α}, (∀ x ∈ l, ∀ {s A}, Lexes s A → Lexes (f x ++ s) (g x ++ A)) → ∀ {s A}, Lexes s A → Lexes (l.flatMap f ++ s) (l.flatMap g ++ A)
 | [], _, s, A, h => h
 | x :: l, hx, s, A, h => by
  rw [List.flatMap_cons, List.flatMap_cons, List.append_assoc, List.append_assoc]
  exact hx x (by simp) (N8 (fun y hy => hx y (by simp [hy])) h)
theorem Uo {w : Cr} (h : wlkB w = true) : Bf w.1 = true ∧ inM w.2.1 ∧ inM w.2.2.1 := by
 unfold wlkB at h
 simp only [Bool.and_eq_true] at h
 exact ⟨h.1, Dm h.2.1, Dm h.2.2⟩
theorem Aq3 : ∀ {l : List Cr}, (∀ w ∈ l, wlkB w = true) → ∀ {s : List Int} {A : List T3}, Cuts s → Lexes s A → Cuts (l.flatMap (fun w => (Ei w).flatten) ++ s) ∧ Lexes (l.flatMap (fun w => (Ei w).flatten) ++ s) (l.flatMap Jl ++ A)
 | [], _, s, A, hc, h => ⟨hc, h⟩
 | w :: l, hw, s, A, hc, h => by
  obtain ⟨i1, i2⟩ := Aq3 (l := l) (fun y hy => hw y (List.mem_cons_of_mem _ hy)) hc h
  obtain ⟨q0, q1, q2⟩ := Uo (hw w (by simp))
  rw [List.flatMap_cons, List.flatMap_cons, List.append_assoc, List.append_assoc]
  generalize l.flatMap (fun w => (Ei w).flatten) ++ s = s' at i1 i2 ⊢
  generalize l.flatMap Jl ++ A = A' at i2 ⊢
  unfold Ei Jl
  simp only [List.flatten_cons, List.flatten_nil, List.append_nil, List.append_assoc, List.cons_append, List.nil_append]
  exact ⟨show Am 32 = false by decide, kw ([119, 97, 108, 107] : List Int) (by decide) (nm q0 (by decide) (Gr (by decide) (nu q1 (by decide) (kw ([102, 108, 97, 115, 104] : List Int) (by decide) (Acy q2 i1 i2)))))⟩
theorem La {s : Av} (h : Cd s = true) : Bf s.1 = true ∧ inM s.2.1 ∧ inM s.2.2.1 ∧ inM s.2.2.2.1 ∧ s.2.2.2.2.1.length ≤ 8 ∧ ∀ w ∈ s.2.2.2.2.1, wlkB w = true := by
 unfold Cd lenB at h
 simp only [Bool.and_eq_true, decide_eq_true_eq, List.all_eq_true] at h
 exact ⟨h.1, Dm h.2.1, Dm h.2.2.1, Dm h.2.2.2.1, h.2.2.2.2.1.2, h.2.2.2.2.2⟩
theorem kwn {w : List Int} (hw : O1 w = true) {s : List Int} {A : List T3} : ∀ (n : Nat), Lexes s A → Lexes (List.replicate n 32 ++ (w ++ 32 :: s)) (wd w :: A)
 | 0, h => kw0 w hw h
 | n + 1, h => by
  rw [List.replicate_succ, List.cons_append]
  exact Gr (by decide) (kwn hw n h)
theorem A77 {x : Av} (hb : Cd x = true) {s : List Int} {A : List T3} (hs : Lexes s A) : Lexes (Ce x ++ s) (Oq x ++ A) := by
 obtain ⟨q0, q1, q2, q3, q4, q5⟩ := La hb
 have hw := Aq3 q5 (s := ([59, 10] : List Int) ++ s) (A := sg ([59] : List Int) :: A) (show Am 59 = false by decide) (semi hs)
 unfold Ce Ot Oq
 simp only [List.flatten_cons, List.flatten_nil, List.append_nil, List.append_assoc, List.cons_append, List.nil_append]
 rw [show ([59, 10] : List Int) ++ s = 59 :: 10 :: s from rfl] at hw
 exact kwn (w := ([112, 104, 97, 115, 101] : List Int)) (by decide) 6 (nm q0 (by decide) (kw ([115, 112, 108, 105, 116] : List Int) (by decide) (nu q1 (by decide) (kw ([121, 101, 108, 108, 111, 119] : List Int) (by decide) (nu q2 (by decide) (kw ([114, 101, 100] : List Int) (by decide) (Acy q3 hw.1 hw.2)))))))
theorem brace {s : List Int} {A : List T3} (h : Lexes s A) : Lexes (123 :: 10 :: s) (sg ([123] : List Int) :: A) := N9 (by decide) (Gr (by decide) h)
theorem close {s : List Int} {A : List T3} (h : Lexes s A) : Lexes (125 :: 10 :: s) (sg ([125] : List Int) :: A) := N9 (by decide) (Gr (by decide) h)
theorem blk {s : List Int} {A : List T3} (h : Lexes s A) : Lexes (32 :: s) A := Gr (by decide) h
theorem A76 {x : List Av} (hb : Cb x = true) {s : List Int} {A : List T3} (hs : Lexes s A) : Lexes (Cc x ++ s) (Ol x ++ A) := by
 unfold Cb at hb
 simp only [Bool.and_eq_true, List.all_eq_true] at hb
 unfold Cc Ol
 simp only [List.append_assoc, List.cons_append, List.nil_append]
 exact kwn (w := ([114, 105, 110, 103] : List Int)) (by decide) 4 (brace (N8 (fun y hy _ _ h => A77 (hb.2 y hy) h) (blk (blk (blk (blk (close hs)))))))
theorem A78 {x : Cg} (hb : Cn x = true) {s : List Int} {A : List T3} (hs : Lexes s A) : Lexes (Cf x ++ s) (Ou x ++ A) := by
 unfold Cn at hb
 simp only [Bool.and_eq_true, List.all_eq_true] at hb
 unfold Cf Ou
 simp only [List.append_assoc, List.cons_append, List.nil_append]
 exact kwn (w := ([103, 114, 111, 117, 112] : List Int)) (by decide) 2 (brace (N8 (fun y hy _ _ h => A76 (hb.2 y hy) h) (blk (blk (close hs)))))
theorem Jj {t : TimT} (h : timB t = true) : Bf t.1 = true ∧ inM t.2.1 ∧ inM t.2.2.2.1.1 ∧ inM t.2.2.2.1.2.1 ∧ t.2.2.1.length ≤ 4 ∧ ∀ w ∈ t.2.2.1, Cn w = true := by
 unfold timB lenB at h
 simp only [Bool.and_eq_true, decide_eq_true_eq, List.all_eq_true] at h
 exact ⟨h.1, Dm h.2.1, Dm h.2.2.1, Dm h.2.2.2.1, h.2.2.2.2.1.2, h.2.2.2.2.2⟩
theorem A79 {x : TimT} (hb : timB x = true) {s : List Int} {A : List T3} (hs : Lexes s A) : Lexes (timT x ++ s) (timK x ++ A) := by
 obtain ⟨q0, q1, q2, q3, q4, q5⟩ := Jj hb
 unfold timT timX timK
 simp only [List.flatten_cons, List.flatten_nil, List.append_nil, List.append_assoc, List.cons_append, List.nil_append]
 exact kw0 ([110, 111, 100, 101] : List Int) (by decide) (nm q0 (by decide) (kw ([111, 102, 102, 115, 101, 116] : List Int) (by decide) (nu q1 (by decide) (kw ([115, 117, 109] : List Int) (by decide) (nu q2 (by decide) (N9 (by decide) (nu q3 (by decide) (blk (brace (N8 (fun y hy _ _ h => A78 (q5 y hy) h) (close hs)))))))))))
theorem K3 {p : A3} (h : Cl p = true) : inM p.1 ∧ inM p.2.2.1 ∧ inM p.2.2.2.1 ∧ inM p.2.2.2.2.1 ∧ inM p.2.2.2.2.2.1 ∧ inM p.2.2.2.2.2.2.2 ∧ p.2.1.length ≤ 12 ∧ ∀ w ∈ p.2.1, timB w = true := by
 unfold Cl lenB at h
 simp only [Bool.and_eq_true, decide_eq_true_eq, List.all_eq_true] at h
 exact ⟨Dm h.1, Dm h.2.1, Dm h.2.2.1, Dm h.2.2.2.1, Dm h.2.2.2.2.1, Dm h.2.2.2.2.2.1, h.2.2.2.2.2.2.1.2, h.2.2.2.2.2.2.2⟩
theorem A8a (b : Bool) {s : List Int} {A : List T3} (hs : Lexes s A) : Lexes (yesT b ++ 59 :: 10 :: s) (wd (yesT b) :: sg ([59] : List Int) :: A) := by
 cases b
 ·exact Tj (by decide) (show Am 59 = false by decide) (semi hs)
 ·exact Tj (by decide) (show Am 59 = false by decide) (semi hs)
theorem A75 {p : A3} (hb : Cl p = true) : Lexes (Bh p) (T2 p) := by
 obtain ⟨q0, q1, q2, q3, q4, q5, q6, q7⟩ := K3 hb
 unfold Bh Ig T2 tailK
 simp only [List.flatten_cons, List.flatten_nil, List.append_nil, List.append_assoc, List.cons_append, List.nil_append]
 exact kw0 ([112, 108, 97, 110] : List Int) (by decide) (kw0 ([99, 121, 99, 108, 101] : List Int) (by decide) (nu q0 (by decide) (semi (N8 (fun y hy _ _ h => A79 (q7 y hy) h)
  (kw0 ([111, 117, 116] : List Int) (by decide) (nu q1 (by decide) (blk (nu q2 (by decide) (semi (kw0 ([105, 110] : List Int) (by decide) (nu q3 (by decide) (blk (nu q4 (by decide) (semi (kw0 ([98, 101, 115, 116] : List Int) (by decide) (A8a _ (kw0 ([115, 112, 101, 110, 116] : List Int) (by decide) (nu q5 (by decide) (semi A73)))))))))))))))))))
end Go.Proofs.YtcmmgllmncllfaaGreatDoorV
