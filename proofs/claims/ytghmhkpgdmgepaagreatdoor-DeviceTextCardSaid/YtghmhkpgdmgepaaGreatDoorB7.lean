import Derived.Test.YtghmhkpgdmgepaaGreatDoorB6
import Derived.Test.YtghmhkpgdmgepaaGreatDoorB3
/-! Joined, names shortened: G1, G2, G3, VM. -/
set_option linter.unusedVariables false
set_option linter.unusedSimpArgs false
set_option maxHeartbeats 4000000
set_option maxRecDepth 100000
namespace Go.Proofs.YtghmhkpgdmgepaaGreatDoorV
open Go Go.RowKit
noncomputable section
def Tq : Sk := ⟨[.lf (.ptr 0 0), .lf (.pv .str), .lf (.pv (.int .i64)), .lf (.pv (.int .i64)), .lf (.fn 86 [(0, 0)] [])], [[.pv (.slice yt0)]], []⟩
def Ab9 : Sk := ⟨[.lf (.own 0)], Tq.boxes, [some (118, (.slice yt2))]⟩
def A7g (k : Nat) : EnvL := [(27, [Dw k]), (108, [Awu k])]
def Aor (k : Nat) : Cfg := mkC (A7g k) 74 1 0
def Rf (k : Nat) : H15 → Option H21 := hid (Al (Aor k) k Tryz.f85 Tq Ab9 39 [(.int .i64), (.int .i64)] true)
def Awe (k : Nat) : Sig := ⟨Tq, Ab9, Am Tq.tys Ab9.tys 39 [(.int .i64), (.int .i64)] true (Rf k)⟩
noncomputable def Aos (k : Nat) : H15 → Option H21
 | (a0, a1, a2, a3) => ((Bn k) (([([123] : List Int)] : List (List Int)), a3)).bind (orP (fun o1 => ((Rs k) (a0, a1, a2, o1)).bind (orP (fun o3 => ((Bn k) (([([125] : List Int)] : List (List Int)), o3.1)).bind (orP (fun o5 => some (.inl (o5, o3.2))) (fun o6 => some (.inr (o6.1, o6.2))))) (fun o4 => some (.inr (o4.1, o4.2))))) (fun o2 => some (.inr (o2.1, o2.2))))
theorem A7h (k : Nat) (x : H15) : Rf k x = Aos k x := (Ae _ _).trans (by kernel_rfl)
theorem A0x (k : Nat) : Ac Tryz.prog 85 (Awe k) := An (Aor k) k 39 [(.int .i64), (.int .i64)] true rfl ⟨⟨D6 k, trivial⟩, ⟨A1g k, trivial⟩, trivial⟩ Ad Tryz.func85 (by kernel_rfl)
def T7 : Sk := ⟨[.lf (.ptr 0 0)], [[.pv (.slice yt0)]], []⟩
def Acr : Sk := ⟨[.agg [.own 0]], T7.boxes, [some (118, (.slice yt2))]⟩
def A8c (k : Nat) : EnvL := [(85, [Awe k])]
def Apl (k : Nat) : Cfg := { mkC (A8c k) 57 1 0 with bl := [66, 68] }
def Ro (k : Nat) : (List (YT0)) → Option H21 := hid (Al (Apl k) k Tryz.f57 T7 Acr 39 [(.int .i64), (.int .i64)] true)
def Awo (k : Nat) : Sig := ⟨T7, Acr, Am T7.tys Acr.tys 39 [(.int .i64), (.int .i64)] true (Ro k)⟩
noncomputable def Apm (k : Nat) : (List (YT0)) → Option H21
 | a0 => ((Rf k) (([114, 105, 110, 103] : List Int), (1 : Int), (2 : Int), a0)).bind (orP (fun o1 => some (.inl (o1.1, o1.2))) (fun o2 => some (.inr (o2.1, o2.2))))
theorem A8d (k : Nat) (x : (List (YT0))) : Ro k x = Apm k x := (Ae _ _).trans (by kernel_rfl)
theorem A09 (k : Nat) : Ac Tryz.prog 57 (Awo k) := An (Apl k) k 39 [(.int .i64), (.int .i64)] true rfl ⟨⟨A0x k, trivial⟩, trivial⟩ Ad Tryz.func57 (by kernel_rfl)
abbrev H22 : Type := (List Int) × (Int) × (Int) × (List (YT0)) × (List ((List (List (YT2))) × (Unit)))
abbrev H23 : Type := ((List (YT0)) × (List ((List (List (YT2))) × (Unit)))) ⊕ ((Int) × (Int))
def O3 : Sk := ⟨[.lf (.ptr 0 0), .lf (.pv .str), .lf (.pv (.int .i64)), .lf (.pv (.int .i64)), .lf (.fn 57 [(0, 0)] [])], [[.pv (.slice yt0)]], []⟩
def Ui : Sk := ⟨[.lf (.own 0)], O3.boxes, [some (94, (.cons (.slice (.slice yt2)) .nil))]⟩
def Ap7 : Sk := ⟨sparse 37 [(0, .lf (.ptr 0 0)), (1, .lf (.pv .str)), (2, .lf (.pv (.int .i64))), (3, .lf (.pv (.int .i64))), (4, .lf (.fn 57 [(0, 0)] [])), (11, .lf (.own 0))], [[.pv (.slice yt0)]], [some (94, (.cons (.slice (.slice yt2)) .nil))]⟩
abbrev Adb := H22
def K7 : Adb → St := stOf Ap7 86
def Ap8 : Sk := ⟨sparse 37 [(0, .lf (.ptr 0 0)), (1, .lf (.pv .str)), (2, .lf (.pv (.int .i64))), (3, .lf (.pv (.int .i64))), (4, .lf (.fn 57 [(0, 0)] [])), (11, .lf (.own 0))], [[.pv (.slice yt0)]], [some (94, (.cons (.slice (.slice yt2)) .nil))]⟩
abbrev Adc := H22
def Ji : Adc → St := stOf Ap8 86
def A8x (k : Nat) : EnvL := [(31, [Hn k]), (33, [Eg k]), (27, [Dw k]), (57, [Awo k])]
def Cg (k : Nat) : FnX H23 := mkXP ({ mkC (A8x k) 86 1 0 with hint := fun i => look none [(2, some Ap7), (5, some Ap8)] i }) k Tryz.f84 Ui 39 [(.int .i64), (.int .i64)] true
def Ru (k : Nat) : H15 → Option H23 := hid (Al (Cg k).C k Tryz.f84 O3 Ui 39 [(.int .i64), (.int .i64)] true)
def Aww (k : Nat) : Sig := ⟨O3, Ui, Am O3.tys Ui.tys 39 [(.int .i64), (.int .i64)] true (Ru k)⟩
noncomputable def Add (k : Nat) (J : JF H23) (L : LF H23) : H15 → Option H23
 | (a0, a1, a2, a3) => L 2 [] k (K7 (a0, a1, a2, a3, []))
theorem A8y (k : Nat) (x : H15) : Ru k x = Add k (Cg k).J (Cg k).L x := by
 refine (Ae _ _).trans ?_; apply cutX (Cg k) [] [] (st0 (Cg k).C Tryz.f84 O3 x) [] [(2, [], k)] (Add k · · x) <;> intros <;> kernel_rfl
noncomputable def Adf (k j2 : Nat) (J : JF H23) (L : LF H23) : Adb → Option H23
 | (a0, a1, a2, a3, a4) => ((D4 k) (a0, a3)).bind fun o1 => bif o1.1 then (bif (((List.length a4 : Nat) : Int) == a2) then (((Bt k) ((4 : Int), o1.2)).bind (orP (fun o2 => J 5 [j2] (Ji (a0, a1, a2, o2, a4))) (fun o3 => some (.inr (o3.1, o3.2))))) else (J 5 [j2] (Ji (a0, a1, a2, o1.2, a4)))) else (bif (decide (((List.length a4 : Nat) : Int) < a1)) then (bif (((List.length a4 : Nat) : Int) == a2) then (((Bt k) ((4 : Int), o1.2)).bind (orP (fun o4 => J 5 [j2] (Ji (a0, a1, a2, o4, a4))) (fun o5 => some (.inr (o5.1, o5.2))))) else (J 5 [j2] (Ji (a0, a1, a2, o1.2, a4)))) else (some (.inl (o1.2, a4))))
theorem A80 (k j2 : Nat) (x : Adb) : (Cg k).L 2 [] (j2 + 1) (K7 x) = Adf k j2 (Cg k).J (Cg k).L x := by
 apply cutX (Cg k) [.r, .r, .l, .b, .b] [j2] (K7 x) [(5, [j2])] [(2, [], j2)] (Adf k j2 · · x) <;> intros <;> kernel_rfl
noncomputable def Ade (k j2 : Nat) (J : JF H23) (L : LF H23) : Adc → Option H23
 | (a0, a1, a2, a3, a4) => ((Bn k) (([a0] : List (List Int)), a3)).bind (orP (fun o1 => ((Ro k) (o1)).bind (orP (fun o3 => app 24 a4 ([(o3.2, ())] : List ((List (List (YT2))) × (Unit))) fun o5 => L 2 [] j2 (K7 (a0, a1, a2, o3.1, o5))) (fun o4 => some (.inr (o4.1, o4.2))))) (fun o2 => some (.inr (o2.1, o2.2))))
theorem A8z (k j2 : Nat) (x : Adc) : (Cg k).J 5 [j2] (Ji x) = Ade k j2 (Cg k).J (Cg k).L x := by
 apply cutX (Cg k) [.r, .r, .l, .b, .b, .r, .b, .r] [j2] (Ji x) [(5, [j2])] [(2, [], j2)] (Ade k j2 · · x) <;> intros <;> kernel_rfl
theorem A1i (k : Nat) : Ac Tryz.prog 84 (Aww k) := An (Cg k).C k 39 [(.int .i64), (.int .i64)] true rfl ⟨⟨Hy k, trivial⟩, ⟨En k, trivial⟩, ⟨D6 k, trivial⟩, ⟨A09 k, trivial⟩, trivial⟩ Ad Tryz.func84 (by kernel_rfl)
def Ts : Sk := ⟨[.lf (.ptr 0 0), .lf (.pv .str), .lf (.pv (.int .i64)), .lf (.pv (.int .i64)), .lf (.fn 57 [(0, 0)] [])], [[.pv (.slice yt0)]], []⟩
def Acb : Sk := ⟨[.lf (.own 0)], Ts.boxes, [some (94, (.cons (.slice (.slice yt2)) .nil))]⟩
def A7k (k : Nat) : EnvL := [(27, [Dw k]), (84, [Aww k])]
def Aov (k : Nat) : Cfg := mkC (A7k k) 74 1 0
def Rh (k : Nat) : H15 → Option H23 := hid (Al (Aov k) k Tryz.f56 Ts Acb 39 [(.int .i64), (.int .i64)] true)
def Awg (k : Nat) : Sig := ⟨Ts, Acb, Am Ts.tys Acb.tys 39 [(.int .i64), (.int .i64)] true (Rh k)⟩
noncomputable def Aow (k : Nat) : H15 → Option H23
 | (a0, a1, a2, a3) => ((Bn k) (([([123] : List Int)] : List (List Int)), a3)).bind (orP (fun o1 => ((Ru k) (a0, a1, a2, o1)).bind (orP (fun o3 => ((Bn k) (([([125] : List Int)] : List (List Int)), o3.1)).bind (orP (fun o5 => some (.inl (o5, o3.2))) (fun o6 => some (.inr (o6.1, o6.2))))) (fun o4 => some (.inr (o4.1, o4.2))))) (fun o2 => some (.inr (o2.1, o2.2))))
theorem A7l (k : Nat) (x : H15) : Rh k x = Aow k x := (Ae _ _).trans (by kernel_rfl)
theorem A0z (k : Nat) : Ac Tryz.prog 56 (Awg k) := An (Aov k) k 39 [(.int .i64), (.int .i64)] true rfl ⟨⟨D6 k, trivial⟩, ⟨A1i k, trivial⟩, trivial⟩ Ad Tryz.func56 (by kernel_rfl)
abbrev H24 : Type := ((List Int) × (Int) × (Int) × (Int) × (List (YT0)) × (List ((List (List (YT2))) × (Unit)))) ⊕ ((Int) × (Int))
def T8 : Sk := ⟨[.lf (.ptr 0 0)], [[.pv (.slice yt0)]], []⟩
def Acu : Sk := ⟨[.agg [.pv .str, .pv (.int .i64), .own 0, .pv (.int .i64), .pv (.int .i64)]], T8.boxes, [some (94, (.cons (.slice (.slice yt2)) .nil))]⟩
def A8f (k : Nat) : EnvL := [(55, [Vx k]), (26, [Lu k]), (56, [Awg k])]
def Apt (k : Nat) : Cfg := { mkC (A8f k) 75 1 0 with bl := [66, 68] }
def Rp (k : Nat) : (List (YT0)) → Option H24 := hid (Al (Apt k) k Tryz.f29 T8 Acu 39 [(.int .i64), (.int .i64)] true)
def Awq (k : Nat) : Sig := ⟨T8, Acu, Am T8.tys Acu.tys 39 [(.int .i64), (.int .i64)] true (Rp k)⟩
noncomputable def Apu (k : Nat) : (List (YT0)) → Option H24
 | a0 => ((Kj k) (a0)).bind (orP (fun o1 => ((Dd k) (([([111, 102, 102, 115, 101, 116] : List Int)] : List (List Int)), o1.2)).bind (orP (fun o3 => ((Dd k) (([([115, 117, 109] : List Int)] : List (List Int)), o3.2)).bind (orP (fun o5 => ((Dd k) (([([47] : List Int)] : List (List Int)), o5.2)).bind (orP (fun o7 => ((Rh k) (([103, 114, 111, 117, 112] : List Int), (0 : Int), (4 : Int), o7.2)).bind (orP (fun o9 => some (.inl (o1.1, o3.1, o5.1, o7.1, o9.1, o9.2))) (fun o10 => some (.inr (o10.1, o10.2))))) (fun o8 => some (.inr (o8.1, o8.2))))) (fun o6 => some (.inr (o6.1, o6.2))))) (fun o4 => some (.inr (o4.1, o4.2))))) (fun o2 => some (.inr (o2.1, o2.2))))
theorem A8g (k : Nat) (x : (List (YT0))) : Rp k x = Apu k x := (Ae _ _).trans (by kernel_rfl)
theorem A1c (k : Nat) : Ac Tryz.prog 29 (Awq k) := An (Apt k) k 39 [(.int .i64), (.int .i64)] true rfl ⟨⟨Xb k, trivial⟩, ⟨Nf k, trivial⟩, ⟨A0z k, trivial⟩, trivial⟩ Ad Tryz.func29 (by kernel_rfl)
abbrev H25 : Type := (List Int) × (Int) × (Int) × (List (YT0)) × (List (YT4))
abbrev H26 : Type := ((List (YT0)) × (List (YT4))) ⊕ ((Int) × (Int))
def O4 : Sk := ⟨[.lf (.ptr 0 0), .lf (.pv .str), .lf (.pv (.int .i64)), .lf (.pv (.int .i64)), .lf (.fn 29 [(0, 0)] [])], [[.pv (.slice yt0)]], []⟩
def Uj : Sk := ⟨[.lf (.own 0)], O4.boxes, [some (55, yt4)]⟩
def Ap9 : Sk := ⟨sparse 37 [(0, .lf (.ptr 0 0)), (1, .lf (.pv .str)), (2, .lf (.pv (.int .i64))), (3, .lf (.pv (.int .i64))), (4, .lf (.fn 29 [(0, 0)] [])), (11, .lf (.own 0))], [[.pv (.slice yt0)]], [some (55, yt4)]⟩
abbrev Adg := H25
def K8 : Adg → St := stOf Ap9 86
def Aqa : Sk := ⟨sparse 37 [(0, .lf (.ptr 0 0)), (1, .lf (.pv .str)), (2, .lf (.pv (.int .i64))), (3, .lf (.pv (.int .i64))), (4, .lf (.fn 29 [(0, 0)] [])), (11, .lf (.own 0))], [[.pv (.slice yt0)]], [some (55, yt4)]⟩
abbrev Adh := H25
def Jj : Adh → St := stOf Aqa 86
def A81 (k : Nat) : EnvL := [(31, [Hn k]), (33, [Eg k]), (27, [Dw k]), (29, [Awq k])]
def Ch (k : Nat) : FnX H26 := mkXP ({ mkC (A81 k) 86 1 0 with hint := fun i => look none [(2, some Ap9), (5, some Aqa)] i }) k Tryz.f28 Uj 39 [(.int .i64), (.int .i64)] true
def Rv (k : Nat) : H15 → Option H26 := hid (Al (Ch k).C k Tryz.f28 O4 Uj 39 [(.int .i64), (.int .i64)] true)
def Awx (k : Nat) : Sig := ⟨O4, Uj, Am O4.tys Uj.tys 39 [(.int .i64), (.int .i64)] true (Rv k)⟩
noncomputable def Adi (k : Nat) (J : JF H26) (L : LF H26) : H15 → Option H26
 | (a0, a1, a2, a3) => L 2 [] k (K8 (a0, a1, a2, a3, []))
theorem A82 (k : Nat) (x : H15) : Rv k x = Adi k (Ch k).J (Ch k).L x := by
 refine (Ae _ _).trans ?_; apply cutX (Ch k) [] [] (st0 (Ch k).C Tryz.f28 O4 x) [] [(2, [], k)] (Adi k · · x) <;> intros <;> kernel_rfl
noncomputable def Adk (k j2 : Nat) (J : JF H26) (L : LF H26) : Adg → Option H26
 | (a0, a1, a2, a3, a4) => ((D4 k) (a0, a3)).bind fun o1 => bif o1.1 then (bif (((List.length a4 : Nat) : Int) == a2) then (((Bt k) ((4 : Int), o1.2)).bind (orP (fun o2 => J 5 [j2] (Jj (a0, a1, a2, o2, a4))) (fun o3 => some (.inr (o3.1, o3.2))))) else (J 5 [j2] (Jj (a0, a1, a2, o1.2, a4)))) else (bif (decide (((List.length a4 : Nat) : Int) < a1)) then (bif (((List.length a4 : Nat) : Int) == a2) then (((Bt k) ((4 : Int), o1.2)).bind (orP (fun o4 => J 5 [j2] (Jj (a0, a1, a2, o4, a4))) (fun o5 => some (.inr (o5.1, o5.2))))) else (J 5 [j2] (Jj (a0, a1, a2, o1.2, a4)))) else (some (.inl (o1.2, a4))))
theorem A84 (k j2 : Nat) (x : Adg) : (Ch k).L 2 [] (j2 + 1) (K8 x) = Adk k j2 (Ch k).J (Ch k).L x := by
 apply cutX (Ch k) [.r, .r, .l, .b, .b] [j2] (K8 x) [(5, [j2])] [(2, [], j2)] (Adk k j2 · · x) <;> intros <;> kernel_rfl
noncomputable def Adj (k j2 : Nat) (J : JF H26) (L : LF H26) : Adh → Option H26
 | (a0, a1, a2, a3, a4) => ((Bn k) (([a0] : List (List Int)), a3)).bind (orP (fun o1 => ((Rp k) (o1)).bind (orP (fun o3 => app 64 a4 ([(o3.1, (o3.2.1, (o3.2.2.2.2.2, ((o3.2.2.1, (o3.2.2.2.1, ())), ()))))] : List (YT4)) fun o5 => L 2 [] j2 (K8 (a0, a1, a2, o3.2.2.2.2.1, o5))) (fun o4 => some (.inr (o4.1, o4.2))))) (fun o2 => some (.inr (o2.1, o2.2))))
theorem A83 (k j2 : Nat) (x : Adh) : (Ch k).J 5 [j2] (Jj x) = Adj k j2 (Ch k).J (Ch k).L x := by
 apply cutX (Ch k) [.r, .r, .l, .b, .b, .r, .b, .r] [j2] (Jj x) [(5, [j2])] [(2, [], j2)] (Adj k j2 · · x) <;> intros <;> kernel_rfl
theorem A1j (k : Nat) : Ac Tryz.prog 28 (Awx k) := An (Ch k).C k 39 [(.int .i64), (.int .i64)] true rfl ⟨⟨Hy k, trivial⟩, ⟨En k, trivial⟩, ⟨D6 k, trivial⟩, ⟨A1c k, trivial⟩, trivial⟩ Ad Tryz.func28 (by kernel_rfl)
abbrev H27 : Type := ((Int) × (Int) × (List (YT0))) ⊕ ((Int) × (Int))
def Ua : Sk := ⟨[.lf (.ptr 0 0), .lf (.pv .str)], [[.pv (.slice yt0)]], []⟩
def Acw : Sk := ⟨[.agg [.pv (.int .i64), .pv (.int .i64)]], Ua.boxes, []⟩
def A8j (k : Nat) : EnvL := [(26, [Lu k]), (27, [Dw k])]
def Apx (k : Nat) : Cfg := { mkC (A8j k) 65 1 0 with bl := [66, 68] }
def Ng (k : Nat) : H6 → Option H27 := hid (Al (Apx k) k Tryz.f30 Ua Acw 39 [(.int .i64), (.int .i64)] true)
def Aws (k : Nat) : Sig := ⟨Ua, Acw, Am Ua.tys Acw.tys 39 [(.int .i64), (.int .i64)] true (Ng k)⟩
noncomputable def Apy (k : Nat) : H6 → Option H27
 | (a0, a1) => ((Dd k) (([a0] : List (List Int)), a1)).bind (orP (fun o1 => ((Dd k) ([], o1.2)).bind (orP (fun o3 => ((Bn k) (([([59] : List Int)] : List (List Int)), o3.2)).bind (orP (fun o5 => some (.inl (o1.1, o3.1, o5))) (fun o6 => some (.inr (o6.1, o6.2))))) (fun o4 => some (.inr (o4.1, o4.2))))) (fun o2 => some (.inr (o2.1, o2.2))))
theorem A8k (k : Nat) (x : H6) : Ng k x = Apy k x := (Ae _ _).trans (by kernel_rfl)
theorem A1e (k : Nat) : Ac Tryz.prog 30 (Aws k) := An (Apx k) k 39 [(.int .i64), (.int .i64)] true rfl ⟨⟨Nf k, trivial⟩, ⟨D6 k, trivial⟩, trivial⟩ Ad Tryz.func30 (by kernel_rfl)
def q1 : List SL := [.pv (.int .i64), .nil .sl, .pv (.int .i64), .pv (.int .i64), .pv (.int .i64), .pv (.int .i64), .pv .bool, .pv (.int .i64)]
def q2 : List SL := [.pv (.int .i64), .own 1, .pv (.int .i64), .pv (.int .i64), .pv (.int .i64), .pv (.int .i64), .pv .bool, .pv (.int .i64)]
abbrev H28 : Type := (List (YT0)) × (Int) × (Int) × (Int) × (Int) × (Int) × (Bool) × (Int) × (Int) × (Int) × (Int) × (Int) × (Int) × (Bool) × (Int) × (List (YT4))
abbrev H29 : Type := ((Int) × (Int) × (Int) × (Int) × (Int) × (Bool) × (Int) × (List (YT0)) × (List (YT4))) ⊕ ((Int) × (Int))
def T2 : Sk := ⟨[.lf (.ptr 0 0)], [[.own 0]], [some (76, yt0)]⟩
def T4 : Sk := ⟨[.agg [.pv (.int .i64), .own 1, .pv (.int .i64), .pv (.int .i64), .pv (.int .i64), .pv (.int .i64), .pv .bool, .pv (.int .i64)]], [[.pv (.slice yt0)]], [none, some (55, yt4)]⟩
def Apg : Sk := ⟨sparse 53 [(0, .lf (.ptr 0 0)), (2, .lf (.ptr 1 0)), (3, .lf (.ptr 2 0))], [[.pv (.slice yt0)], q1, q2], [none, some (55, yt4)]⟩
abbrev Acm := H28
def Kz : Acm → St := stOf Apg 102
def A75 (k : Nat) : EnvL := [(26, [Awk k, Lu k]), (27, [Dw k]), (28, [Awx k]), (30, [Aws k]), (31, [Hn k]), (32, [Jz k]), (33, [Eg k])]
def D9 (k : Nat) : FnX H29 := mkXP ({ mkC (A75 k) 102 1 1 with hint := fun i => look none [(11, some Apg)] i, bl := [66, 68] }) k Tryz.f11 T4 39 [(.int .i64), (.int .i64)] true
def Rl (k : Nat) : (List (YT0)) → Option H29 := hid (Al (D9 k).C k Tryz.f11 T2 T4 39 [(.int .i64), (.int .i64)] true)
def Awl (k : Nat) : Sig := ⟨T2, T4, Am T2.tys T4.tys 39 [(.int .i64), (.int .i64)] true (Rl k)⟩
noncomputable def Acn (k : Nat) (J : JF H29) (L : LF H29) : (List (YT0)) → Option H29
 | a0 => ((Rk k) (([([112, 108, 97, 110] : List Int), ([99, 121, 99, 108, 101] : List Int)] : List (List Int)), a0)).bind (orP (fun o1 => ((Bn k) (([([59] : List Int)] : List (List Int)), o1.2)).bind (orP (fun o3 => ((Rv k) (([110, 111, 100, 101] : List Int), (0 : Int), (12 : Int), o3)).bind (orP (fun o5 => ((Ng k) (([111, 117, 116] : List Int), o5.1)).bind (orP (fun o7 => ((Ng k) (([105, 110] : List Int), o7.2.2)).bind (orP (fun o9 => ((Bn k) (([([98, 101, 115, 116] : List Int)] : List (List Int)), o9.2.2)).bind (orP (fun o11 => ((D4 k) (([121, 101, 115] : List Int), o11)).bind fun o13 => bif o13.1 then (((D5 k) (o13.2)).bind fun o14 => J 11 [] (Kz (o14.2.2.2.2, (0 : Int), (0 : Int), (0 : Int), (0 : Int), (0 : Int), false, (0 : Int), o1.1, o7.1, o7.2.1, o9.1, o9.2.1, o13.1, (0 : Int), o5.2))) else (((Bn k) (([([110, 111] : List Int)] : List (List Int)), o13.2)).bind (orP (fun o15 => J 11 [] (Kz (o15, (0 : Int), (0 : Int), (0 : Int), (0 : Int), (0 : Int), false, (0 : Int), o1.1, o7.1, o7.2.1, o9.1, o9.2.1, o13.1, (0 : Int), o5.2))) (fun o16 => some (.inr (o16.1, o16.2)))))) (fun o12 => some (.inr (o12.1, o12.2))))) (fun o10 => some (.inr (o10.1, o10.2))))) (fun o8 => some (.inr (o8.1, o8.2))))) (fun o6 => some (.inr (o6.1, o6.2))))) (fun o4 => some (.inr (o4.1, o4.2))))) (fun o2 => some (.inr (o2.1, o2.2))))
theorem A76 (k : Nat) (x : (List (YT0))) : Rl k x = Acn k (D9 k).J (D9 k).L x := by
 refine (Ae _ _).trans ?_; apply cutX (D9 k) [] [] (st0 (D9 k).C Tryz.f11 T2 x) [(11, [])] [] (Acn k · · x) <;> intros <;> kernel_rfl
noncomputable def Aco (k : Nat) (J : JF H29) (L : LF H29) : Acm → Option H29
 | (a0, a1, a2, a3, a4, a5, a6, a7, a8, a9, a10, a11, a12, a13, a14, a15) => ((Dd k) (([([59] : List Int), ([115, 112, 101, 110, 116] : List Int)] : List (List Int)), a0)).bind (orP (fun o1 => ((Bn k) (([([59] : List Int)] : List (List Int)), o1.2)).bind (orP (fun o3 => idx zt0 o3 (0 : Int) fun o5 => bif (o5.1 != (0 : Int)) then (((Bt k) ((50 : Int), o3)).bind (orP (fun o6 => some (.inl (a8, a9, a10, a11, a12, a13, o1.1, o6, a15))) (fun o7 => some (.inr (o7.1, o7.2))))) else (some (.inl (a8, a9, a10, a11, a12, a13, o1.1, o3, a15)))) (fun o4 => some (.inr (o4.1, o4.2))))) (fun o2 => some (.inr (o2.1, o2.2))))
theorem A77 (k : Nat) (x : Acm) : (D9 k).J 11 [] (Kz x) = Aco k (D9 k).J (D9 k).L x := by
 apply cutX (D9 k) [.r, .r, .r, .r, .r, .r, .r, .r] [] (Kz x) [(11, [])] [] (Aco k · · x) <;> intros <;> kernel_rfl
theorem A06 (k : Nat) : Ac Tryz.prog 11 (Awl k) := An (D9 k).C k 39 [(.int .i64), (.int .i64)] true rfl ⟨⟨A05 k, Nf k, trivial⟩, ⟨D6 k, trivial⟩, ⟨A1j k, trivial⟩, ⟨A1e k, trivial⟩, ⟨Hy k, trivial⟩, ⟨Kk k, trivial⟩, ⟨En k, trivial⟩, trivial⟩ Ad Tryz.func11 (by kernel_rfl)
abbrev H30 : Type := (Int) × (Int) × (Int) × (Int) × (Int) × (Bool) × (Int) × (Int) × (Int) × (List (YT4))
def Am8 : Sk := ⟨[.lf (.pv (.slice (.int .u8)))], [], []⟩
def Am9 : Sk := ⟨[.agg [.pv (.int .i64), .own 0, .pv (.int .i64), .pv (.int .i64), .pv (.int .i64), .pv (.int .i64), .pv .bool, .pv (.int .i64)], .lf (.pv (.int .i64)), .lf (.pv (.int .i64))], [], [some (55, yt4)]⟩
def A6o : Sk := ⟨sparse 22 [(0, .lf (.pv (.slice (.int .u8)))), (2, .lf (.ptr 0 0)), (3, .lf (.ptr 1 0)), (4, .lf (.ptr 2 0)), (5, .lf (.own 0)), (7, .lf (.pv (.slice (.int .u8)))), (9, .lf (.own 0)), (10, .lf (.pv (.int .i64))), (11, .lf (.pv (.int .i64))), (12, .lf (.pv (.int .i64))), (13, .lf (.pv .bool)), (17, .lf (.fn 10 [] [(0, 0), (1, 0), (2, 0)]))], [q1, [.pv (.int .i64)], [.pv (.int .i64)]], [some (76, yt0)]⟩
def Am6 (k : Nat) : EnvL := [(9, [Af8 k]), (11, [Awl k])]
def Am3 (k : Nat) : Cfg := { mkC (Am6 k) 71 0 0 with bl := [66, 68], ld := [(15, 51), (16, 52)], sr := [(2, 50), (3, 51), (4, 52)] }
def Am4 (k : Nat) : Cfg := { mkC (Am6 k) 71 3 0 with bl := [66, 68], ld := [(15, 51), (16, 52)], sr := [(2, 50), (3, 51), (4, 52)] }
def Am5 : DefC := { g := 10, kd := A6o, caps := [0, 1, 2], pt := 39, tp := [(.int .i64), (.int .i64)], pg := true, new := Dr }
def M8 (k : Nat) : (List (Int)) → Option H30 := hid (Jf (Am3 k) (Am4 k) Am5 k Tryz.f4 3 Am8 Am9)
def Av0 (k : Nat) : Sig := Ag Am8 Am9 (M8 k)
noncomputable def Am7 (k : Nat) : (List (Int)) → Option H30
 | a0 => ((M0 k) (a0)).bind fun o1 => bif (o1.1 != (0 : Int)) then (some ((0 : Int), (0 : Int), (0 : Int), (0 : Int), (0 : Int), false, (0 : Int), o1.1, o1.2.1, [])) else (((Rl k) (o1.2.2)).bind (orP (fun o2 => some (o2.1, o2.2.1, o2.2.2.1, o2.2.2.2.1, o2.2.2.2.2.1, o2.2.2.2.2.2.1, o2.2.2.2.2.2.2.1, (0 : Int), (0 : Int), o2.2.2.2.2.2.2.2.2)) (fun o3 => some ((0 : Int), (0 : Int), (0 : Int), (0 : Int), (0 : Int), false, (0 : Int), o3.1, o3.2, []))))
theorem A6n (k : Nat) (x : (List (Int))) : M8 k x = Am7 k x := (Ae _ _).trans (by kernel_rfl)
theorem A0j (k : Nat) : Ac Tryz.prog 4 (Av0 k) := sgOKD (Am3 k) (Am4 k) Am5 k 3 rfl rfl ⟨⟨Ah1 k, trivial⟩, ⟨A06 k, trivial⟩, trivial⟩ Ad rfl (clo10_R _ _ rfl) (clo10_P _ _ rfl) Tryz.func4 (by kernel_rfl)
abbrev H31 : Type := (List (Int)) × (Int) × (Int) × (List (Int))
abbrev H32 : Type := (Int) × (List (Int)) × (Int) × (Int) × (List (Int))
abbrev H33 : Type := (List (Int)) × (List (Int))
def Tf : Sk := ⟨[.lf (.ptr 0 0), .lf (.pv (.slice (.int .i64)))], [[.own 0]], [some (5, (.int .u8))]⟩
def Tg : Sk := ⟨[], [[.own 1]], [none, some (5, (.int .u8))]⟩
def Ak1 : Sk := ⟨sparse 47 [(0, .lf (.ptr 0 0)), (7, .lf (.pv (.slice (.int .i64)))), (8, .lf (.pv (.int .i64))), (9, .lf (.pv (.int .i64)))], [[.own 1]], [none, some (5, (.int .u8))]⟩
abbrev Zn := H31
def Kw : Zn → St := stOf Ak1 95
def Ak2 : Sk := ⟨sparse 47 [(0, .lf (.ptr 0 0)), (5, .lf (.pv (.int .i64))), (7, .lf (.pv (.slice (.int .i64)))), (8, .lf (.pv (.int .i64))), (9, .lf (.pv (.int .i64)))], [[.own 1]], [none, some (5, (.int .u8))]⟩
abbrev Zo := H32
def Zq : Zo → St := stOf Ak2 95
def Ak3 : Sk := ⟨sparse 47 [(0, .lf (.ptr 0 0)), (6, .lf (.pv (.int .u64))), (7, .lf (.pv (.slice (.int .i64)))), (8, .lf (.pv (.int .i64))), (9, .lf (.pv (.int .i64)))], [[.own 1]], [none, some (5, (.int .u8))]⟩
abbrev Zp := H32
def Of : Zp → St := stOf Ak3 95
def Bo (k : Nat) : FnX ((List (Int)) ⊕ (Unit)) := mkXP ({ mkC [] 95 1 1 with hint := fun i => look none [(1, some Ak1), (5, some Ak2), (6, some Ak3)] i }) k Tryz.f13 Tg 45 [] true
def Cc (k : Nat) : H33 → Option ((List (Int)) ⊕ (Unit)) := hid (Al (Bo k).C k Tryz.f13 Tf Tg 45 [] true)
def Ft (k : Nat) : Sig := ⟨Tf, Tg, Am Tf.tys Tg.tys 45 [] true (Cc k)⟩
noncomputable def Zr (k : Nat) (J : JF ((List (Int)) ⊕ (Unit))) (L : LF ((List (Int)) ⊕ (Unit))) : H33 → Option ((List (Int)) ⊕ (Unit))
 | (a0, a1) => L 1 [] k (Kw (a0, ((List.length a0 : Nat) : Int), (0 : Int), a1))
theorem A4j (k : Nat) (x : H33) : Cc k x = Zr k (Bo k).J (Bo k).L x := by
 refine (Ae _ _).trans ?_; apply cutX (Bo k) [] [] (st0 (Bo k).C Tryz.f13 Tf x) [] [(1, [], k)] (Zr k · · x) <;> intros <;> kernel_rfl
noncomputable def Td (k j1 : Nat) (J : JF ((List (Int)) ⊕ (Unit))) (L : LF ((List (Int)) ⊕ (Unit))) : Zn → Option ((List (Int)) ⊕ (Unit))
 | (a0, a1, a2, a3) => bif (decide (a2 < a1)) then (idxI a0 a2 fun o1 => bif (decide (o1 < (0 : Int))) then (some (.inr ())) else (J 5 [j1] (Zq (o1, a0, a1, a2, a3)))) else (some (.inl a3))
theorem Akz (k j1 : Nat) (x : Zn) : (Bo k).L 1 [] (j1 + 1) (Kw x) = Td k j1 (Bo k).J (Bo k).L x := by
 apply cutX (Bo k) [.r, .b, .b] [j1] (Kw x) [(5, [j1])] [(1, [], j1), (6, [j1], k)] (Td k j1 · · x) <;> intros <;> kernel_rfl
noncomputable def Zs (k j1 : Nat) (J : JF ((List (Int)) ⊕ (Unit))) (L : LF ((List (Int)) ⊕ (Unit))) : Zo → Option ((List (Int)) ⊕ (Unit))
 | (a0, a1, a2, a3, a4) => L 6 [j1] k (Of ((IntKind.wrap .u64 a0), a1, a2, a3, a4))
theorem A4k (k j1 : Nat) (x : Zo) : (Bo k).J 5 [j1] (Zq x) = Zs k j1 (Bo k).J (Bo k).L x := by
 apply cutX (Bo k) [.r, .b, .b, .r, .r, .l, .b, .r, .r] [j1] (Zq x) [(5, [j1])] [(1, [], j1), (6, [j1], k)] (Zs k j1 · · x) <;> intros <;> kernel_rfl
noncomputable def Te (k j1 j6 : Nat) (J : JF ((List (Int)) ⊕ (Unit))) (L : LF ((List (Int)) ⊕ (Unit))) : Zp → Option ((List (Int)) ⊕ (Unit))
 | (a0, a1, a2, a3, a4) => bif (decide (a0 ≥ (128 : Int))) then (app 1 a4 ([(IntKind.wrap .u8 ((BitVec.ofInt (IntKind.bits .u8) (IntKind.wrap .u8 a0) ||| BitVec.ofInt (IntKind.bits .u8) (128 : Int)).toNat : Int))] : List (Int)) fun o1 => L 6 [j1] j6 (Of ((Int.fdiv a0 (2 ^ (min (Int.toNat (7 : Int)) (IntKind.bits .u64)))), a1, a2, a3, o1))) else (app 1 a4 ([(IntKind.wrap .u8 a0)] : List (Int)) fun o2 => L 1 [] j1 (Kw (a1, a2, (IntKind.wrap .i64 (a3 + (1 : Int))), o2)))
theorem Ak0 (k j1 j6 : Nat) (x : Zp) : (Bo k).L 6 [j1] (j6 + 1) (Of x) = Te k j1 j6 (Bo k).J (Bo k).L x := by
 apply cutX (Bo k) [.r, .b, .b, .r, .r, .l, .b, .r, .r, .r, .l, .b, .b] [j1, j6] (Of x) [(5, [j1])] [(1, [], j1), (6, [j1], j6)] (Te k j1 j6 · · x) <;> intros <;> kernel_rfl
theorem F4 (k : Nat) : Ac Tryz.prog 13 (Ft k) := An (Bo k).C (l := []) k 45 [] true rfl trivial Ad Tryz.func13 (by kernel_rfl)
abbrev H34 : Type := (List Int) × (List (Int))
def Tb : Sk := ⟨[.lf (.ptr 0 0), .lf (.pv .str)], [[.own 0]], [some (5, (.int .u8))]⟩
def Tc : Sk := ⟨[], [[.own 1]], [none, some (5, (.int .u8))]⟩
def Aky : Sk := ⟨sparse 23 [(0, .lf (.ptr 0 0)), (1, .lf (.pv .str))], [[.own 0]], [some (5, (.int .u8))]⟩
abbrev Zj := H34
def Zk : Zj → St := stOf Aky 72
def A4g (k : Nat) : EnvL := [(13, [Ft k])]
def F8 (k : Nat) : FnX ((List (Int)) ⊕ (Unit)) := mkXP ({ mkC (A4g k) 72 1 1 with hint := fun i => look none [(2, some Aky)] i }) k Tryz.f34 Tc 45 [] true
def Kg (k : Nat) : H34 → Option ((List (Int)) ⊕ (Unit)) := hid (Al (F8 k).C k Tryz.f34 Tb Tc 45 [] true)
def Vw (k : Nat) : Sig := ⟨Tb, Tc, Am Tb.tys Tc.tys 45 [] true (Kg k)⟩
noncomputable def Zl (k : Nat) (J : JF ((List (Int)) ⊕ (Unit))) (L : LF ((List (Int)) ⊕ (Unit))) : H34 → Option ((List (Int)) ⊕ (Unit))
 | (a0, a1) => bif (decide (((List.length a0 : Nat) : Int) > (24 : Int))) then (some (.inr ())) else (J 2 [] (Zk (a0, a1)))
theorem A4h (k : Nat) (x : H34) : Kg k x = Zl k (F8 k).J (F8 k).L x := by
 refine (Ae _ _).trans ?_; apply cutX (F8 k) [] [] (st0 (F8 k).C Tryz.f34 Tb x) [(2, [])] [] (Zl k · · x) <;> intros <;> kernel_rfl
noncomputable def Zm (k : Nat) (J : JF ((List (Int)) ⊕ (Unit))) (L : LF ((List (Int)) ⊕ (Unit))) : Zj → Option ((List (Int)) ⊕ (Unit))
 | (a0, a1) => ((Cc k) (([((List.length a0 : Nat) : Int)] : List (Int)), a1)).bind (orP (fun o1 => app 1 o1 a0 fun o3 => some (.inl o3)) (fun o2 => some (.inr ())))
theorem A4i (k : Nat) (x : Zj) : (F8 k).J 2 [] (Zk x) = Zm k (F8 k).J (F8 k).L x := by
 apply cutX (F8 k) [.r] [] (Zk x) [(2, [])] [] (Zm k · · x) <;> intros <;> kernel_rfl
theorem Wo (k : Nat) : Ac Tryz.prog 34 (Vw k) := An (F8 k).C k 45 [] true rfl ⟨⟨F4 k, trivial⟩, trivial⟩ Ad Tryz.func34 (by kernel_rfl)
abbrev H35 : Type := (List Int) × (Int) × (Int) × (List (Int))
def Z1 : Sk := ⟨[.lf (.ptr 0 0), .agg [.pv .str, .pv (.int .i64), .pv (.int .i64)]], [[.own 0]], [some (5, (.int .u8))]⟩
def Z2 : Sk := ⟨[], [[.own 1]], [none, some (5, (.int .u8))]⟩
def A4t (k : Nat) : EnvL := [(34, [Vw k]), (13, [Ft k])]
def Alc (k : Nat) : Cfg := { mkC (A4t k) 65 1 1 with bl := [66, 68] }
def My (k : Nat) : H35 → Option ((List (Int)) ⊕ (Unit)) := hid (Al (Alc k) k Tryz.f112 Z1 Z2 45 [] true)
def Avj (k : Nat) : Sig := ⟨Z1, Z2, Am Z1.tys Z2.tys 45 [] true (My k)⟩
noncomputable def Ald (k : Nat) : H35 → Option ((List (Int)) ⊕ (Unit))
 | (a0, a1, a2, a3) => ((Kg k) (a0, a3)).bind (orP (fun o1 => ((Cc k) (([a1, a2] : List (Int)), o1)).bind (orP (fun o3 => some (.inl o3)) (fun o4 => some (.inr ())))) (fun o2 => some (.inr ())))
theorem A4u (k : Nat) (x : H35) : My k x = Ald k x := (Ae _ _).trans (by kernel_rfl)
theorem Azu (k : Nat) : Ac Tryz.prog 112 (Avj k) := An (Alc k) k 45 [] true rfl ⟨⟨Wo k, trivial⟩, ⟨F4 k, trivial⟩, trivial⟩ Ad Tryz.func112 (by kernel_rfl)
abbrev H36 : Type := (List (YT1)) × (List (Int))
abbrev H37 : Type := (List (YT1)) × (Int) × (Int) × (List (Int))
abbrev H38 : Type := (List (YT1)) × (Int) × (List (Int))
def So : Sk := ⟨[.lf (.ptr 0 0), .lf (.pv (.slice yt1)), .lf (.pv (.int .i64)), .lf (.fn 112 [(0, 0)] [])], [[.own 0]], [some (5, (.int .u8))]⟩
def Sp : Sk := ⟨[], [[.own 1]], [none, some (5, (.int .u8))]⟩
def Aj5 : Sk := ⟨sparse 31 [(0, .lf (.ptr 0 0)), (1, .lf (.pv (.slice yt1))), (3, .lf (.fn 112 [(0, 0)] []))], [[.own 0]], [some (5, (.int .u8))]⟩
abbrev Yf := H36
def Yh : Yf → St := stOf Aj5 80
def Aj6 : Sk := ⟨sparse 31 [(0, .lf (.ptr 0 0)), (3, .lf (.fn 112 [(0, 0)] [])), (21, .lf (.pv (.slice yt1))), (22, .lf (.pv (.int .i64))), (23, .lf (.pv (.int .i64)))], [[.own 1]], [none, some (5, (.int .u8))]⟩
abbrev Yg := H37
def Nx : Yg → St := stOf Aj6 80
def A3b (k : Nat) : EnvL := [(13, [Ft k]), (112, [Avj k])]
def C5 (k : Nat) : FnX ((List (Int)) ⊕ (Unit)) := mkXP ({ mkC (A3b k) 80 1 1 with hint := fun i => look none [(2, some Aj5), (4, some Aj6)] i, bl := [66, 68] }) k Tryz.f111 Sp 45 [] true
def Qw (k : Nat) : H38 → Option ((List (Int)) ⊕ (Unit)) := hid (Al (C5 k).C k Tryz.f111 So Sp 45 [] true)
def Au2 (k : Nat) : Sig := ⟨So, Sp, Am So.tys Sp.tys 45 [] true (Qw k)⟩
noncomputable def Yi (k : Nat) (J : JF ((List (Int)) ⊕ (Unit))) (L : LF ((List (Int)) ⊕ (Unit))) : H38 → Option ((List (Int)) ⊕ (Unit))
 | (a0, a1, a2) => bif (decide (((List.length a0 : Nat) : Int) > a1)) then (some (.inr ())) else (J 2 [] (Yh (a0, a2)))
theorem A3c (k : Nat) (x : H38) : Qw k x = Yi k (C5 k).J (C5 k).L x := by
 refine (Ae _ _).trans ?_; apply cutX (C5 k) [] [] (st0 (C5 k).C Tryz.f111 So x) [(2, [])] [(4, [], k)] (Yi k · · x) <;> intros <;> kernel_rfl
noncomputable def Yj (k : Nat) (J : JF ((List (Int)) ⊕ (Unit))) (L : LF ((List (Int)) ⊕ (Unit))) : Yf → Option ((List (Int)) ⊕ (Unit))
 | (a0, a1) => ((Cc k) (([((List.length a0 : Nat) : Int)] : List (Int)), a1)).bind (orP (fun o1 => L 4 [] k (Nx (a0, ((List.length a0 : Nat) : Int), (0 : Int), o1))) (fun o2 => some (.inr ())))
theorem A3d (k : Nat) (x : Yf) : (C5 k).J 2 [] (Yh x) = Yj k (C5 k).J (C5 k).L x := by
 apply cutX (C5 k) [.r] [] (Yh x) [(2, [])] [(4, [], k)] (Yj k · · x) <;> intros <;> kernel_rfl
noncomputable def Yk (k j4 : Nat) (J : JF ((List (Int)) ⊕ (Unit))) (L : LF ((List (Int)) ⊕ (Unit))) : Yg → Option ((List (Int)) ⊕ (Unit))
 | (a0, a1, a2, a3) => bif (decide (a2 < a1)) then (idx zt1 a0 a2 fun o1 => ((My k) (o1.1, o1.2.1, o1.2.2.1, a3)).bind (orP (fun o2 => L 4 [] j4 (Nx (a0, a1, (IntKind.wrap .i64 (a2 + (1 : Int))), o2))) (fun o3 => some (.inr ())))) else (some (.inl a3))
theorem A3e (k j4 : Nat) (x : Yg) : (C5 k).L 4 [] (j4 + 1) (Nx x) = Yk k j4 (C5 k).J (C5 k).L x := by
 apply cutX (C5 k) [.r, .r, .r, .b, .b] [j4] (Nx x) [(2, [])] [(4, [], j4)] (Yk k j4 · · x) <;> intros <;> kernel_rfl
theorem Azd (k : Nat) : Ac Tryz.prog 111 (Au2 k) := An (C5 k).C k 45 [] true rfl ⟨⟨F4 k, trivial⟩, ⟨Azu k, trivial⟩, trivial⟩ Ad Tryz.func111 (by kernel_rfl)
abbrev H39 : Type := (List Int) × (Int) × (Int) × (Int) × (List (YT1)) × (List (Int))
def Zv : Sk := ⟨[.lf (.ptr 0 0), .agg [.pv .str, .pv (.int .i64), .pv (.int .i64), .pv (.int .i64), .pv (.slice yt1)]], [[.own 0]], [some (5, (.int .u8))]⟩
def Zw : Sk := ⟨[], [[.own 1]], [none, some (5, (.int .u8))]⟩
def A4n (k : Nat) : EnvL := [(34, [Vw k]), (13, [Ft k]), (111, [Au2 k])]
def Ak6 (k : Nat) : Cfg := { mkC (A4n k) 73 1 1 with bl := [66, 68] }
def Mv (k : Nat) : H39 → Option ((List (Int)) ⊕ (Unit)) := hid (Al (Ak6 k) k Tryz.f88 Zv Zw 45 [] true)
def Avg (k : Nat) : Sig := ⟨Zv, Zw, Am Zv.tys Zw.tys 45 [] true (Mv k)⟩
noncomputable def Ak7 (k : Nat) : H39 → Option ((List (Int)) ⊕ (Unit))
 | (a0, a1, a2, a3, a4, a5) => ((Kg k) (a0, a5)).bind (orP (fun o1 => ((Cc k) (([a1, a2, a3] : List (Int)), o1)).bind (orP (fun o3 => ((Qw k) (a4, (8 : Int), o3)).bind (orP (fun o5 => some (.inl o5)) (fun o6 => some (.inr ())))) (fun o4 => some (.inr ())))) (fun o2 => some (.inr ())))
theorem A4o (k : Nat) (x : H39) : Mv k x = Ak7 k x := (Ae _ _).trans (by kernel_rfl)
theorem Azr (k : Nat) : Ac Tryz.prog 88 (Avg k) := An (Ak6 k) k 45 [] true rfl ⟨⟨Wo k, trivial⟩, ⟨F4 k, trivial⟩, ⟨Azd k, trivial⟩, trivial⟩ Ad Tryz.func88 (by kernel_rfl)
abbrev H40 : Type := (List (YT2)) × (List (Int))
abbrev H41 : Type := (List (YT2)) × (Int) × (Int) × (List (Int))
abbrev H42 : Type := (List (YT2)) × (Int) × (List (Int))
def Sh : Sk := ⟨[.lf (.ptr 0 0), .lf (.pv (.slice yt2)), .lf (.pv (.int .i64)), .lf (.fn 88 [(0, 0)] [])], [[.own 0]], [some (5, (.int .u8))]⟩
def Si : Sk := ⟨[], [[.own 1]], [none, some (5, (.int .u8))]⟩
def Ajz : Sk := ⟨sparse 31 [(0, .lf (.ptr 0 0)), (1, .lf (.pv (.slice yt2))), (3, .lf (.fn 88 [(0, 0)] []))], [[.own 0]], [some (5, (.int .u8))]⟩
abbrev Xx := H40
def Xz : Xx → St := stOf Ajz 80
def Aj0 : Sk := ⟨sparse 31 [(0, .lf (.ptr 0 0)), (3, .lf (.fn 88 [(0, 0)] [])), (21, .lf (.pv (.slice yt2))), (22, .lf (.pv (.int .i64))), (23, .lf (.pv (.int .i64)))], [[.own 1]], [none, some (5, (.int .u8))]⟩
abbrev Xy := H41
def Nu : Xy → St := stOf Aj0 80
def A2z (k : Nat) : EnvL := [(13, [Ft k]), (88, [Avg k])]
def C2 (k : Nat) : FnX ((List (Int)) ⊕ (Unit)) := mkXP ({ mkC (A2z k) 80 1 1 with hint := fun i => look none [(2, some Ajz), (4, some Aj0)] i, bl := [66, 68] }) k Tryz.f87 Si 45 [] true
def Wl (k : Nat) : H42 → Option ((List (Int)) ⊕ (Unit)) := hid (Al (C2 k).C k Tryz.f87 Sh Si 45 [] true)
def Auz (k : Nat) : Sig := ⟨Sh, Si, Am Sh.tys Si.tys 45 [] true (Wl k)⟩
noncomputable def X0 (k : Nat) (J : JF ((List (Int)) ⊕ (Unit))) (L : LF ((List (Int)) ⊕ (Unit))) : H42 → Option ((List (Int)) ⊕ (Unit))
 | (a0, a1, a2) => bif (decide (((List.length a0 : Nat) : Int) > a1)) then (some (.inr ())) else (J 2 [] (Xz (a0, a2)))
theorem A20 (k : Nat) (x : H42) : Wl k x = X0 k (C2 k).J (C2 k).L x := by
 refine (Ae _ _).trans ?_; apply cutX (C2 k) [] [] (st0 (C2 k).C Tryz.f87 Sh x) [(2, [])] [(4, [], k)] (X0 k · · x) <;> intros <;> kernel_rfl
noncomputable def X1 (k : Nat) (J : JF ((List (Int)) ⊕ (Unit))) (L : LF ((List (Int)) ⊕ (Unit))) : Xx → Option ((List (Int)) ⊕ (Unit))
 | (a0, a1) => ((Cc k) (([((List.length a0 : Nat) : Int)] : List (Int)), a1)).bind (orP (fun o1 => L 4 [] k (Nu (a0, ((List.length a0 : Nat) : Int), (0 : Int), o1))) (fun o2 => some (.inr ())))
theorem A21 (k : Nat) (x : Xx) : (C2 k).J 2 [] (Xz x) = X1 k (C2 k).J (C2 k).L x := by
 apply cutX (C2 k) [.r] [] (Xz x) [(2, [])] [(4, [], k)] (X1 k · · x) <;> intros <;> kernel_rfl
noncomputable def X2 (k j4 : Nat) (J : JF ((List (Int)) ⊕ (Unit))) (L : LF ((List (Int)) ⊕ (Unit))) : Xy → Option ((List (Int)) ⊕ (Unit))
 | (a0, a1, a2, a3) => bif (decide (a2 < a1)) then (idx zt2 a0 a2 fun o1 => ((Mv k) (o1.1, o1.2.1, o1.2.2.1, o1.2.2.2.1, o1.2.2.2.2.1, a3)).bind (orP (fun o2 => L 4 [] j4 (Nu (a0, a1, (IntKind.wrap .i64 (a2 + (1 : Int))), o2))) (fun o3 => some (.inr ())))) else (some (.inl a3))
theorem A22 (k j4 : Nat) (x : Xy) : (C2 k).L 4 [] (j4 + 1) (Nu x) = X2 k j4 (C2 k).J (C2 k).L x := by
 apply cutX (C2 k) [.r, .r, .r, .b, .b] [j4] (Nu x) [(2, [])] [(4, [], j4)] (X2 k j4 · · x) <;> intros <;> kernel_rfl
theorem Aza (k : Nat) : Ac Tryz.prog 87 (Auz k) := An (C2 k).C k 45 [] true rfl ⟨⟨F4 k, trivial⟩, ⟨Azr k, trivial⟩, trivial⟩ Ad Tryz.func87 (by kernel_rfl)
def Zt : Sk := ⟨[.lf (.ptr 0 0), .lf (.pv (.slice yt2))], [[.own 0]], [some (5, (.int .u8))]⟩
def Zu : Sk := ⟨[], [[.own 1]], [none, some (5, (.int .u8))]⟩
def A4l (k : Nat) : EnvL := [(87, [Auz k])]
def Ak4 (k : Nat) : Cfg := mkC (A4l k) 58 1 1
def Mu (k : Nat) : H40 → Option ((List (Int)) ⊕ (Unit)) := hid (Al (Ak4 k) k Tryz.f59 Zt Zu 45 [] true)
def Avf (k : Nat) : Sig := ⟨Zt, Zu, Am Zt.tys Zu.tys 45 [] true (Mu k)⟩
noncomputable def Ak5 (k : Nat) : H40 → Option ((List (Int)) ⊕ (Unit))
 | (a0, a1) => ((Wl k) (a0, (4 : Int), a1)).bind (orP (fun o1 => some (.inl o1)) (fun o2 => some (.inr ())))
theorem A4m (k : Nat) (x : H40) : Mu k x = Ak5 k x := (Ae _ _).trans (by kernel_rfl)
theorem Azq (k : Nat) : Ac Tryz.prog 59 (Avf k) := An (Ak4 k) k 45 [] true rfl ⟨⟨Aza k, trivial⟩, trivial⟩ Ad Tryz.func59 (by kernel_rfl)
abbrev H43 : Type := (List (List (YT2))) × (List (Int))
abbrev H44 : Type := (List (List (YT2))) × (Int) × (Int) × (List (Int))
abbrev H45 : Type := (List (List (YT2))) × (Int) × (List (Int))
def Sf : Sk := ⟨[.lf (.ptr 0 0), .lf (.pv (.slice (.slice yt2))), .lf (.pv (.int .i64)), .lf (.fn 59 [(0, 0)] [])], [[.own 0]], [some (5, (.int .u8))]⟩
def Sg : Sk := ⟨[], [[.own 1]], [none, some (5, (.int .u8))]⟩
def Ajx : Sk := ⟨sparse 31 [(0, .lf (.ptr 0 0)), (1, .lf (.pv (.slice (.slice yt2)))), (3, .lf (.fn 59 [(0, 0)] []))], [[.own 0]], [some (5, (.int .u8))]⟩
abbrev Xr := H43
def Xt : Xr → St := stOf Ajx 80
def Ajy : Sk := ⟨sparse 31 [(0, .lf (.ptr 0 0)), (3, .lf (.fn 59 [(0, 0)] [])), (21, .lf (.pv (.slice (.slice yt2)))), (22, .lf (.pv (.int .i64))), (23, .lf (.pv (.int .i64)))], [[.own 1]], [none, some (5, (.int .u8))]⟩
abbrev Xs := H44
def Nt : Xs → St := stOf Ajy 80
def A2v (k : Nat) : EnvL := [(13, [Ft k]), (59, [Avf k])]
def C0 (k : Nat) : FnX ((List (Int)) ⊕ (Unit)) := mkXP ({ mkC (A2v k) 80 1 1 with hint := fun i => look none [(2, some Ajx), (4, some Ajy)] i }) k Tryz.f58 Sg 45 [] true
def Wk (k : Nat) : H45 → Option ((List (Int)) ⊕ (Unit)) := hid (Al (C0 k).C k Tryz.f58 Sf Sg 45 [] true)
def Auy (k : Nat) : Sig := ⟨Sf, Sg, Am Sf.tys Sg.tys 45 [] true (Wk k)⟩
noncomputable def Xu (k : Nat) (J : JF ((List (Int)) ⊕ (Unit))) (L : LF ((List (Int)) ⊕ (Unit))) : H45 → Option ((List (Int)) ⊕ (Unit))
 | (a0, a1, a2) => bif (decide (((List.length a0 : Nat) : Int) > a1)) then (some (.inr ())) else (J 2 [] (Xt (a0, a2)))
theorem A2w (k : Nat) (x : H45) : Wk k x = Xu k (C0 k).J (C0 k).L x := by
 refine (Ae _ _).trans ?_; apply cutX (C0 k) [] [] (st0 (C0 k).C Tryz.f58 Sf x) [(2, [])] [(4, [], k)] (Xu k · · x) <;> intros <;> kernel_rfl
noncomputable def Xv (k : Nat) (J : JF ((List (Int)) ⊕ (Unit))) (L : LF ((List (Int)) ⊕ (Unit))) : Xr → Option ((List (Int)) ⊕ (Unit))
 | (a0, a1) => ((Cc k) (([((List.length a0 : Nat) : Int)] : List (Int)), a1)).bind (orP (fun o1 => L 4 [] k (Nt (a0, ((List.length a0 : Nat) : Int), (0 : Int), o1))) (fun o2 => some (.inr ())))
theorem A2x (k : Nat) (x : Xr) : (C0 k).J 2 [] (Xt x) = Xv k (C0 k).J (C0 k).L x := by
 apply cutX (C0 k) [.r] [] (Xt x) [(2, [])] [(4, [], k)] (Xv k · · x) <;> intros <;> kernel_rfl
noncomputable def Xw (k j4 : Nat) (J : JF ((List (Int)) ⊕ (Unit))) (L : LF ((List (Int)) ⊕ (Unit))) : Xs → Option ((List (Int)) ⊕ (Unit))
 | (a0, a1, a2, a3) => bif (decide (a2 < a1)) then (idx [] a0 a2 fun o1 => ((Mu k) (o1, a3)).bind (orP (fun o2 => L 4 [] j4 (Nt (a0, a1, (IntKind.wrap .i64 (a2 + (1 : Int))), o2))) (fun o3 => some (.inr ())))) else (some (.inl a3))
theorem A2y (k j4 : Nat) (x : Xs) : (C0 k).L 4 [] (j4 + 1) (Nt x) = Xw k j4 (C0 k).J (C0 k).L x := by
 apply cutX (C0 k) [.r, .r, .r, .b, .b] [j4] (Nt x) [(2, [])] [(4, [], j4)] (Xw k j4 · · x) <;> intros <;> kernel_rfl
theorem Ay9 (k : Nat) : Ac Tryz.prog 58 (Auy k) := An (C0 k).C k 45 [] true rfl ⟨⟨F4 k, trivial⟩, ⟨Azq k, trivial⟩, trivial⟩ Ad Tryz.func58 (by kernel_rfl)
def Zx : Sk := ⟨[.lf (.ptr 0 0), .agg [.pv (.slice (.slice yt2))]], [[.own 0]], [some (5, (.int .u8))]⟩
def Zy : Sk := ⟨[], [[.own 1]], [none, some (5, (.int .u8))]⟩
def A4p (k : Nat) : EnvL := [(58, [Auy k])]
def Ak8 (k : Nat) : Cfg := { mkC (A4p k) 59 1 1 with bl := [66, 68] }
def Mw (k : Nat) : H43 → Option ((List (Int)) ⊕ (Unit)) := hid (Al (Ak8 k) k Tryz.f36 Zx Zy 45 [] true)
def Avh (k : Nat) : Sig := ⟨Zx, Zy, Am Zx.tys Zy.tys 45 [] true (Mw k)⟩
noncomputable def Ak9 (k : Nat) : H43 → Option ((List (Int)) ⊕ (Unit))
 | (a0, a1) => ((Wk k) (a0, (2 : Int), a1)).bind (orP (fun o1 => some (.inl o1)) (fun o2 => some (.inr ())))
theorem A4q (k : Nat) (x : H43) : Mw k x = Ak9 k x := (Ae _ _).trans (by kernel_rfl)
theorem Azs (k : Nat) : Ac Tryz.prog 36 (Avh k) := An (Ak8 k) k 45 [] true rfl ⟨⟨Ay9 k, trivial⟩, trivial⟩ Ad Tryz.func36 (by kernel_rfl)
abbrev H46 : Type := (List ((List (List (YT2))) × (Unit))) × (List (Int))
abbrev H47 : Type := (List ((List (List (YT2))) × (Unit))) × (Int) × (Int) × (List (Int))
abbrev H48 : Type := (List ((List (List (YT2))) × (Unit))) × (Int) × (List (Int))
def Sj : Sk := ⟨[.lf (.ptr 0 0), .lf (.pv (.slice (.cons (.slice (.slice yt2)) .nil))), .lf (.pv (.int .i64)), .lf (.fn 36 [(0, 0)] [])], [[.own 0]], [some (5, (.int .u8))]⟩
def Sl : Sk := ⟨[], [[.own 1]], [none, some (5, (.int .u8))]⟩
def Aj1 : Sk := ⟨sparse 31 [(0, .lf (.ptr 0 0)), (1, .lf (.pv (.slice (.cons (.slice (.slice yt2)) .nil)))), (3, .lf (.fn 36 [(0, 0)] []))], [[.own 0]], [some (5, (.int .u8))]⟩
abbrev X3 := H46
def X5 : X3 → St := stOf Aj1 80
def Aj2 : Sk := ⟨sparse 31 [(0, .lf (.ptr 0 0)), (3, .lf (.fn 36 [(0, 0)] [])), (21, .lf (.pv (.slice (.cons (.slice (.slice yt2)) .nil)))), (22, .lf (.pv (.int .i64))), (23, .lf (.pv (.int .i64)))], [[.own 1]], [none, some (5, (.int .u8))]⟩
abbrev X4 := H47
def Nv : X4 → St := stOf Aj2 80
def A23 (k : Nat) : EnvL := [(13, [Ft k]), (36, [Avh k])]
def C3 (k : Nat) : FnX ((List (Int)) ⊕ (Unit)) := mkXP ({ mkC (A23 k) 80 1 1 with hint := fun i => look none [(2, some Aj1), (4, some Aj2)] i, bl := [66, 68] }) k Tryz.f35 Sl 45 [] true
def Qu (k : Nat) : H48 → Option ((List (Int)) ⊕ (Unit)) := hid (Al (C3 k).C k Tryz.f35 Sj Sl 45 [] true)
def Au0 (k : Nat) : Sig := ⟨Sj, Sl, Am Sj.tys Sl.tys 45 [] true (Qu k)⟩
noncomputable def X6 (k : Nat) (J : JF ((List (Int)) ⊕ (Unit))) (L : LF ((List (Int)) ⊕ (Unit))) : H48 → Option ((List (Int)) ⊕ (Unit))
 | (a0, a1, a2) => bif (decide (((List.length a0 : Nat) : Int) > a1)) then (some (.inr ())) else (J 2 [] (X5 (a0, a2)))
theorem A24 (k : Nat) (x : H48) : Qu k x = X6 k (C3 k).J (C3 k).L x := by
 refine (Ae _ _).trans ?_; apply cutX (C3 k) [] [] (st0 (C3 k).C Tryz.f35 Sj x) [(2, [])] [(4, [], k)] (X6 k · · x) <;> intros <;> kernel_rfl
noncomputable def X7 (k : Nat) (J : JF ((List (Int)) ⊕ (Unit))) (L : LF ((List (Int)) ⊕ (Unit))) : X3 → Option ((List (Int)) ⊕ (Unit))
 | (a0, a1) => ((Cc k) (([((List.length a0 : Nat) : Int)] : List (Int)), a1)).bind (orP (fun o1 => L 4 [] k (Nv (a0, ((List.length a0 : Nat) : Int), (0 : Int), o1))) (fun o2 => some (.inr ())))
theorem A25 (k : Nat) (x : X3) : (C3 k).J 2 [] (X5 x) = X7 k (C3 k).J (C3 k).L x := by
 apply cutX (C3 k) [.r] [] (X5 x) [(2, [])] [(4, [], k)] (X7 k · · x) <;> intros <;> kernel_rfl
noncomputable def X8 (k j4 : Nat) (J : JF ((List (Int)) ⊕ (Unit))) (L : LF ((List (Int)) ⊕ (Unit))) : X4 → Option ((List (Int)) ⊕ (Unit))
 | (a0, a1, a2, a3) => bif (decide (a2 < a1)) then (idx ([], ()) a0 a2 fun o1 => ((Mw k) (o1.1, a3)).bind (orP (fun o2 => L 4 [] j4 (Nv (a0, a1, (IntKind.wrap .i64 (a2 + (1 : Int))), o2))) (fun o3 => some (.inr ())))) else (some (.inl a3))
theorem A26 (k j4 : Nat) (x : X4) : (C3 k).L 4 [] (j4 + 1) (Nv x) = X8 k j4 (C3 k).J (C3 k).L x := by
 apply cutX (C3 k) [.r, .r, .r, .b, .b] [j4] (Nv x) [(2, [])] [(4, [], j4)] (X8 k j4 · · x) <;> intros <;> kernel_rfl
theorem Azb (k : Nat) : Ac Tryz.prog 35 (Au0 k) := An (C3 k).C k 45 [] true rfl ⟨⟨F4 k, trivial⟩, ⟨Azs k, trivial⟩, trivial⟩ Ad Tryz.func35 (by kernel_rfl)
abbrev H49 : Type := (List Int) × (Int) × (List ((List (List (YT2))) × (Unit))) × (Int) × (Int) × (List (Int))
def Zz : Sk := ⟨[.lf (.ptr 0 0), .agg [.pv .str, .pv (.int .i64), .pv (.slice (.cons (.slice (.slice yt2)) .nil)), .pv (.int .i64), .pv (.int .i64)]], [[.own 0]], [some (5, (.int .u8))]⟩
def Z0 : Sk := ⟨[], [[.own 1]], [none, some (5, (.int .u8))]⟩
def A4r (k : Nat) : EnvL := [(34, [Vw k]), (13, [Ft k]), (35, [Au0 k])]
def Ala (k : Nat) : Cfg := { mkC (A4r k) 75 1 1 with bl := [66, 68] }
def Mx (k : Nat) : H49 → Option ((List (Int)) ⊕ (Unit)) := hid (Al (Ala k) k Tryz.f15 Zz Z0 45 [] true)
def Avi (k : Nat) : Sig := ⟨Zz, Z0, Am Zz.tys Z0.tys 45 [] true (Mx k)⟩
noncomputable def Alb (k : Nat) : H49 → Option ((List (Int)) ⊕ (Unit))
 | (a0, a1, a2, a3, a4, a5) => ((Kg k) (a0, a5)).bind (orP (fun o1 => ((Cc k) (([a1, a3, a4] : List (Int)), o1)).bind (orP (fun o3 => ((Qu k) (a2, (4 : Int), o3)).bind (orP (fun o5 => some (.inl o5)) (fun o6 => some (.inr ())))) (fun o4 => some (.inr ())))) (fun o2 => some (.inr ())))
theorem A4s (k : Nat) (x : H49) : Mx k x = Alb k x := (Ae _ _).trans (by kernel_rfl)
theorem Azt (k : Nat) : Ac Tryz.prog 15 (Avi k) := An (Ala k) k 45 [] true rfl ⟨⟨Wo k, trivial⟩, ⟨F4 k, trivial⟩, ⟨Azb k, trivial⟩, trivial⟩ Ad Tryz.func15 (by kernel_rfl)
abbrev H50 : Type := (List (YT4)) × (List (Int))
abbrev H51 : Type := (List (YT4)) × (Int) × (Int) × (List (Int))
abbrev H52 : Type := (List (YT4)) × (Int) × (List (Int))
def Sm : Sk := ⟨[.lf (.ptr 0 0), .lf (.pv (.slice yt4)), .lf (.pv (.int .i64)), .lf (.fn 15 [(0, 0)] [])], [[.own 0]], [some (5, (.int .u8))]⟩
def Sn : Sk := ⟨[], [[.own 1]], [none, some (5, (.int .u8))]⟩
def Aj3 : Sk := ⟨sparse 31 [(0, .lf (.ptr 0 0)), (1, .lf (.pv (.slice yt4))), (3, .lf (.fn 15 [(0, 0)] []))], [[.own 0]], [some (5, (.int .u8))]⟩
abbrev X9 := H50
def Yb : X9 → St := stOf Aj3 80
def Aj4 : Sk := ⟨sparse 31 [(0, .lf (.ptr 0 0)), (3, .lf (.fn 15 [(0, 0)] [])), (21, .lf (.pv (.slice yt4))), (22, .lf (.pv (.int .i64))), (23, .lf (.pv (.int .i64)))], [[.own 1]], [none, some (5, (.int .u8))]⟩
abbrev Ya := H51
def Nw : Ya → St := stOf Aj4 80
def A27 (k : Nat) : EnvL := [(13, [Ft k]), (15, [Avi k])]
def C4 (k : Nat) : FnX ((List (Int)) ⊕ (Unit)) := mkXP ({ mkC (A27 k) 80 1 1 with hint := fun i => look none [(2, some Aj3), (4, some Aj4)] i, bl := [66, 68] }) k Tryz.f14 Sn 45 [] true
def Qv (k : Nat) : H52 → Option ((List (Int)) ⊕ (Unit)) := hid (Al (C4 k).C k Tryz.f14 Sm Sn 45 [] true)
def Au1 (k : Nat) : Sig := ⟨Sm, Sn, Am Sm.tys Sn.tys 45 [] true (Qv k)⟩
noncomputable def Yc (k : Nat) (J : JF ((List (Int)) ⊕ (Unit))) (L : LF ((List (Int)) ⊕ (Unit))) : H52 → Option ((List (Int)) ⊕ (Unit))
 | (a0, a1, a2) => bif (decide (((List.length a0 : Nat) : Int) > a1)) then (some (.inr ())) else (J 2 [] (Yb (a0, a2)))
theorem A28 (k : Nat) (x : H52) : Qv k x = Yc k (C4 k).J (C4 k).L x := by
 refine (Ae _ _).trans ?_; apply cutX (C4 k) [] [] (st0 (C4 k).C Tryz.f14 Sm x) [(2, [])] [(4, [], k)] (Yc k · · x) <;> intros <;> kernel_rfl
noncomputable def Yd (k : Nat) (J : JF ((List (Int)) ⊕ (Unit))) (L : LF ((List (Int)) ⊕ (Unit))) : X9 → Option ((List (Int)) ⊕ (Unit))
 | (a0, a1) => ((Cc k) (([((List.length a0 : Nat) : Int)] : List (Int)), a1)).bind (orP (fun o1 => L 4 [] k (Nw (a0, ((List.length a0 : Nat) : Int), (0 : Int), o1))) (fun o2 => some (.inr ())))
theorem A29 (k : Nat) (x : X9) : (C4 k).J 2 [] (Yb x) = Yd k (C4 k).J (C4 k).L x := by
 apply cutX (C4 k) [.r] [] (Yb x) [(2, [])] [(4, [], k)] (Yd k · · x) <;> intros <;> kernel_rfl
noncomputable def Ye (k j4 : Nat) (J : JF ((List (Int)) ⊕ (Unit))) (L : LF ((List (Int)) ⊕ (Unit))) : Ya → Option ((List (Int)) ⊕ (Unit))
 | (a0, a1, a2, a3) => bif (decide (a2 < a1)) then (idx zt4 a0 a2 fun o1 => ((Mx k) (o1.1, o1.2.1, o1.2.2.1, o1.2.2.2.1.1, o1.2.2.2.1.2.1, a3)).bind (orP (fun o2 => L 4 [] j4 (Nw (a0, a1, (IntKind.wrap .i64 (a2 + (1 : Int))), o2))) (fun o3 => some (.inr ())))) else (some (.inl a3))
theorem A3a (k j4 : Nat) (x : Ya) : (C4 k).L 4 [] (j4 + 1) (Nw x) = Ye k j4 (C4 k).J (C4 k).L x := by
 apply cutX (C4 k) [.r, .r, .r, .b, .b] [j4] (Nw x) [(2, [])] [(4, [], j4)] (Ye k j4 · · x) <;> intros <;> kernel_rfl
theorem Azc (k : Nat) : Ac Tryz.prog 14 (Au1 k) := An (C4 k).C k 45 [] true rfl ⟨⟨F4 k, trivial⟩, ⟨Azt k, trivial⟩, trivial⟩ Ad Tryz.func14 (by kernel_rfl)
def q3 : List SL := [.pv (.int .i64), .pv (.slice yt4), .pv (.int .i64), .pv (.int .i64), .pv (.int .i64), .pv (.int .i64), .pv .bool, .pv (.int .i64)]
abbrev H53 : Type := (Int) × (List (YT4)) × (Int) × (Int) × (Int) × (Int) × (Bool) × (Int)
def Ajv : Sk := ⟨[.agg [.pv (.int .i64), .pv (.slice yt4), .pv (.int .i64), .pv (.int .i64), .pv (.int .i64), .pv (.int .i64), .pv .bool, .pv (.int .i64)]], [], []⟩
def Ajw : Sk := ⟨[.lf (.own 0), .lf (.pv (.int .i64))], [], [some (5, (.int .u8))]⟩
def A2u : Sk := ⟨sparse 57 [(0, .agg [.pv (.int .i64), .pv (.slice yt4), .pv (.int .i64), .pv (.int .i64), .pv (.int .i64), .pv (.int .i64), .pv .bool, .pv (.int .i64)]), (1, .lf (.ptr 2 0)), (2, .lf (.ptr 0 0)), (3, .lf (.ptr 1 0)), (6, .lf (.fn 12 [] [(0, 0), (1, 0)]))], [[.nil .sl], [.pv (.int .i64)], q3], []⟩
def Ajt (k : Nat) : EnvL := [(13, [Ft k]), (14, [Au1 k])]
def Ajq (k : Nat) : Cfg := { mkC (Ajt k) 107 0 0 with bl := [66, 68] }
def Ajr (k : Nat) : Cfg := { mkC (Ajt k) 107 2 0 with bl := [66, 68] }
def Ajs : DefC := { g := 12, kd := A2u, caps := [0, 1], pt := 45, tp := [], pg := true, new := Ij }
def F2 (k : Nat) : H53 → Option ((Int) × (List (Int))) := hid (Jf (Ajq k) (Ajr k) Ajs k Tryz.f6 1 Ajv Ajw)
def Af6 (k : Nat) : Sig := Ag Ajv Ajw (F2 k)
noncomputable def Aju (k : Nat) : H53 → Option ((Int) × (List (Int)))
 | (a0, a1, a2, a3, a4, a5, a6, a7) => ((Cc k) (([a0] : List (Int)), ([(67 : Int), (70 : Int), (1 : Int)] : List (Int)))).bind (orP (fun o1 => ((Qv k) (a1, (12 : Int), o1)).bind (orP (fun o3 => ((Cc k) (([a2, a3, a4, a5] : List (Int)), o3)).bind (orP (fun o5 => bif a6 then (app 1 o5 ([(1 : Int)] : List (Int)) fun o7 => ((Cc k) (([a7] : List (Int)), o7)).bind (orP (fun o8 => some ((0 : Int), o8)) (fun o9 => some ((1 : Int), [])))) else (app 1 o5 ([(0 : Int)] : List (Int)) fun o10 => ((Cc k) (([a7] : List (Int)), o10)).bind (orP (fun o11 => some ((0 : Int), o11)) (fun o12 => some ((1 : Int), []))))) (fun o6 => some ((1 : Int), [])))) (fun o4 => some ((1 : Int), [])))) (fun o2 => some ((1 : Int), [])))
theorem A2t (k : Nat) (x : H53) : F2 k x = Aju k x := (Ae _ _).trans (by kernel_rfl)
theorem Ahz (k : Nat) : Ac Tryz.prog 6 (Af6 k) := sgOKD (Ajq k) (Ajr k) Ajs k 1 rfl rfl ⟨⟨F4 k, trivial⟩, ⟨Azc k, trivial⟩, trivial⟩ Ad rfl (clo12_R _ _ rfl) (clo12_P _ _ rfl) Tryz.func6 (by kernel_rfl)
abbrev H54 : Type := ((Int) × (List (Int)) × (Int)) ⊕ ((Int) × (Int))
def N1 : Sk := ⟨[.lf (.ptr 0 0)], [[.pv (.slice (.int .u8)), .pv (.int .i64)]], []⟩
def Su : Sk := ⟨[.lf (.pv (.int .u8))], N1.boxes, []⟩
def Akb : Sk := ⟨sparse 38 [(0, .lf (.ptr 0 0))], [[.pv (.slice (.int .u8)), .pv (.int .i64)]], []⟩
abbrev Yo := ((List (Int)) × (Int))
def Yp : Yo → St := stOf Akb 86
def F7 (k : Nat) : FnX H54 := mkXP ({ mkC [] 86 1 0 with hint := fun i => look none [(3, some Akb)] i }) k Tryz.f37 Su 58 [(.int .i64), (.int .i64)] true
def I4 (k : Nat) : ((List (Int)) × (Int)) → Option H54 := hid (Al (F7 k).C k Tryz.f37 N1 Su 58 [(.int .i64), (.int .i64)] true)
def Vu (k : Nat) : Sig := ⟨N1, Su, Am N1.tys Su.tys 58 [(.int .i64), (.int .i64)] true (I4 k)⟩
noncomputable def Yq (k : Nat) (J : JF H54) (L : LF H54) : ((List (Int)) × (Int)) → Option H54
 | (a0, a1) => bif (a1 == ((List.length a0 : Nat) : Int)) then (some (.inr ((50 : Int), a1))) else (J 3 [] (Yp (a0, a1)))
theorem A3j (k : Nat) (x : ((List (Int)) × (Int))) : I4 k x = Yq k (F7 k).J (F7 k).L x := by
 refine (Ae _ _).trans ?_; apply cutX (F7 k) [] [] (st0 (F7 k).C Tryz.f37 N1 x) [(3, [])] [] (Yq k · · x) <;> intros <;> kernel_rfl
noncomputable def Yr (k : Nat) (J : JF H54) (L : LF H54) : Yo → Option H54
 | (a0, a1) => idxI a0 a1 fun o1 => some (.inl (o1, a0, (IntKind.wrap .i64 (a1 + (1 : Int)))))
theorem A3k (k : Nat) (x : Yo) : (F7 k).J 3 [] (Yp x) = Yr k (F7 k).J (F7 k).L x := by
 apply cutX (F7 k) [.r, .r] [] (Yp x) [(3, [])] [] (Yr k · · x) <;> intros <;> kernel_rfl
theorem Wn (k : Nat) : Ac Tryz.prog 37 (Vu k) := An (F7 k).C (l := []) k 58 [(.int .i64), (.int .i64)] true rfl trivial Ad Tryz.func37 (by kernel_rfl)
abbrev H55 : Type := (Int) × (Int) × (Int) × (Int) × (List (Int)) × (Int)
def N2 : Sk := ⟨[.lf (.ptr 0 0)], [[.pv (.slice (.int .u8)), .pv (.int .i64)]], []⟩
def Sx : Sk := ⟨[.lf (.pv (.int .i64))], N2.boxes, []⟩
def Akd : Sk := ⟨sparse 38 [(0, .lf (.ptr 0 0)), (2, .lf (.pv (.int .i64))), (3, .lf (.pv (.int .i64))), (4, .lf (.pv (.int .u64))), (11, .lf (.pv (.int .i64)))], [[.pv (.slice (.int .u8)), .pv (.int .i64)]], []⟩
abbrev Ys := H55
def Kt : Ys → St := stOf Akd 86
def A3l (k : Nat) : EnvL := [(37, [Vu k])]
def D7 (k : Nat) : FnX H54 := mkXP ({ mkC (A3l k) 86 1 0 with hint := fun i => look none [(4, some Akd)] i }) k Tryz.f38 Sx 58 [(.int .i64), (.int .i64)] true
def Cn (k : Nat) : ((List (Int)) × (Int)) → Option H54 := hid (Al (D7 k).C k Tryz.f38 N2 Sx 58 [(.int .i64), (.int .i64)] true)
def Jy (k : Nat) : Sig := ⟨N2, Sx, Am N2.tys Sx.tys 58 [(.int .i64), (.int .i64)] true (Cn k)⟩
noncomputable def Yt (k : Nat) (J : JF H54) (L : LF H54) : ((List (Int)) × (Int)) → Option H54
 | (a0, a1) => L 4 [] k (Kt ((0 : Int), a1, (0 : Int), (0 : Int), a0, a1))
theorem A3m (k : Nat) (x : ((List (Int)) × (Int))) : Cn k x = Yt k (D7 k).J (D7 k).L x := by
 refine (Ae _ _).trans ?_; apply cutX (D7 k) [] [] (st0 (D7 k).C Tryz.f38 N2 x) [] [(4, [], k)] (Yt k · · x) <;> intros <;> kernel_rfl
noncomputable def Sv (k j4 : Nat) (J : JF H54) (L : LF H54) : Ys → Option H54
 | (a0, a1, a2, a3, a4, a5) => bif (decide (a3 < (9 : Int))) then (((I4 k) (a4, a5)).bind (orP (fun o1 => bif (decide (0 ≤ (IntKind.wrap .i64 ((7 : Int) * a3)))) then bif (decide (o1.1 ≥ (128 : Int))) then (L 4 [] j4 (Kt (a0, a1, (IntKind.wrap .u64 ((BitVec.ofInt (IntKind.bits .u64) a2 ||| BitVec.ofInt (IntKind.bits .u64) (IntKind.wrap .u64 ((IntKind.wrap .u64 (IntKind.wrap .u8 ((BitVec.ofInt (IntKind.bits .u8) o1.1 &&& BitVec.ofInt (IntKind.bits .u8) (127 : Int)).toNat : Int))) * 2 ^ (min (Int.toNat (IntKind.wrap .i64 ((7 : Int) * a3))) (IntKind.bits .u64))))).toNat : Int)), (IntKind.wrap .i64 (a3 + (1 : Int))), o1.2.1, o1.2.2))) else (bif (o1.1 == (0 : Int)) then (bif (decide (a3 > (0 : Int))) then (some (.inr ((40 : Int), a1))) else (some (.inl ((IntKind.wrap .i64 (IntKind.wrap .u64 ((BitVec.ofInt (IntKind.bits .u64) a2 ||| BitVec.ofInt (IntKind.bits .u64) (IntKind.wrap .u64 ((IntKind.wrap .u64 (IntKind.wrap .u8 ((BitVec.ofInt (IntKind.bits .u8) o1.1 &&& BitVec.ofInt (IntKind.bits .u8) (127 : Int)).toNat : Int))) * 2 ^ (min (Int.toNat (IntKind.wrap .i64 ((7 : Int) * a3))) (IntKind.bits .u64))))).toNat : Int))), o1.2.1, o1.2.2)))) else (some (.inl ((IntKind.wrap .i64 (IntKind.wrap .u64 ((BitVec.ofInt (IntKind.bits .u64) a2 ||| BitVec.ofInt (IntKind.bits .u64) (IntKind.wrap .u64 ((IntKind.wrap .u64 (IntKind.wrap .u8 ((BitVec.ofInt (IntKind.bits .u8) o1.1 &&& BitVec.ofInt (IntKind.bits .u8) (127 : Int)).toNat : Int))) * 2 ^ (min (Int.toNat (IntKind.wrap .i64 ((7 : Int) * a3))) (IntKind.bits .u64))))).toNat : Int))), o1.2.1, o1.2.2)))) else none) (fun o2 => some (.inr (o2.1, o2.2))))) else (some (.inr ((40 : Int), a1)))
theorem Akc (k j4 : Nat) (x : Ys) : (D7 k).L 4 [] (j4 + 1) (Kt x) = Sv k j4 (D7 k).J (D7 k).L x := by
 apply cutX (D7 k) [.r, .r, .r, .l, .r, .b, .b] [j4] (Kt x) [] [(4, [], j4)] (Sv k j4 · · x) <;> intros <;> kernel_rfl
theorem Kf (k : Nat) : Ac Tryz.prog 38 (Jy k) := An (D7 k).C k 58 [(.int .i64), (.int .i64)] true rfl ⟨⟨Wn k, trivial⟩, trivial⟩ Ad Tryz.func38 (by kernel_rfl)
def Sq : Sk := ⟨[.lf (.ptr 0 0), .lf (.pv (.int .i64))], [[.pv (.slice (.int .u8)), .pv (.int .i64)]], []⟩
def Yl : Sk := ⟨[.lf (.pv (.int .i64))], Sq.boxes, []⟩
def A3f (k : Nat) : EnvL := [(38, [Jy k])]
def Aj7 (k : Nat) : Cfg := mkC (A3f k) 68 1 0
def F3 (k : Nat) : H0 → Option H54 := hid (Al (Aj7 k) k Tryz.f60 Sq Yl 58 [(.int .i64), (.int .i64)] true)
def Jx (k : Nat) : Sig := ⟨Sq, Yl, Am Sq.tys Yl.tys 58 [(.int .i64), (.int .i64)] true (F3 k)⟩
noncomputable def Aj8 (k : Nat) : H0 → Option H54
 | (a0, a1, a2) => ((Cn k) (a1, a2)).bind (orP (fun o1 => bif (decide (o1.1 > a0)) then (some (.inr ((4 : Int), a2))) else (some (.inl (o1.1, o1.2.1, o1.2.2)))) (fun o2 => some (.inr (o2.1, o2.2))))
theorem A3g (k : Nat) (x : H0) : F3 k x = Aj8 k x := (Ae _ _).trans (by kernel_rfl)
theorem Kd (k : Nat) : Ac Tryz.prog 60 (Jx k) := An (Aj7 k) k 58 [(.int .i64), (.int .i64)] true rfl ⟨⟨Kf k, trivial⟩, trivial⟩ Ad Tryz.func60 (by kernel_rfl)
end
noncomputable section
abbrev H56 : Type := (Int) × (Int) × (Int) × (List (Int)) × (Int)
abbrev H57 : Type := ((List Int) × (List (Int)) × (Int)) ⊕ ((Int) × (Int))
def Nz : Sk := ⟨[.lf (.ptr 0 0)], [[.pv (.slice (.int .u8)), .pv (.int .i64)]], []⟩
def Ss : Sk := ⟨[.lf (.pv .str)], Nz.boxes, []⟩
def Aka : Sk := ⟨sparse 28 [(0, .lf (.ptr 0 0)), (4, .lf (.pv (.int .i64))), (11, .lf (.pv (.int .i64))), (12, .lf (.pv (.int .i64)))], [[.pv (.slice (.int .u8)), .pv (.int .i64)]], []⟩
abbrev Ym := H56
def Ny : Ym → St := stOf Aka 76
def A3h (k : Nat) : EnvL := [(60, [Jx k]), (37, [Vu k])]
def Ep (k : Nat) : FnX H57 := mkXP ({ mkC (A3h k) 76 1 0 with hint := fun i => look none [(4, some Aka)] i }) k Tryz.f61 Ss 58 [(.int .i64), (.int .i64)] true
def Ke (k : Nat) : ((List (Int)) × (Int)) → Option H57 := hid (Al (Ep k).C k Tryz.f61 Nz Ss 58 [(.int .i64), (.int .i64)] true)
def Vt (k : Nat) : Sig := ⟨Nz, Ss, Am Nz.tys Ss.tys 58 [(.int .i64), (.int .i64)] true (Ke k)⟩
noncomputable def Yn (k : Nat) (J : JF H57) (L : LF H57) : ((List (Int)) × (Int)) → Option H57
 | (a0, a1) => ((F3 k) ((24 : Int), a0, a1)).bind (orP (fun o1 => L 4 [] k (Ny (o1.2.2, o1.1, (0 : Int), o1.2.1, o1.2.2))) (fun o2 => some (.inr (o2.1, o2.2))))
theorem A3i (k : Nat) (x : ((List (Int)) × (Int))) : Ke k x = Yn k (Ep k).J (Ep k).L x := by
 refine (Ae _ _).trans ?_; apply cutX (Ep k) [] [] (st0 (Ep k).C Tryz.f61 Nz x) [] [(4, [], k)] (Yn k · · x) <;> intros <;> kernel_rfl
noncomputable def Sr (k j4 : Nat) (J : JF H57) (L : LF H57) : Ym → Option H57
 | (a0, a1, a2, a3, a4) => bif (decide (a2 < a1)) then (((I4 k) (a3, a4)).bind (orP (fun o1 => L 4 [] j4 (Ny (a0, a1, (IntKind.wrap .i64 (a2 + (1 : Int))), o1.2.1, o1.2.2))) (fun o2 => some (.inr (o2.1, o2.2))))) else (cut a3 a0 a4 fun o3 => some (.inl (o3, a3, a4)))
theorem Aj9 (k j4 : Nat) (x : Ym) : (Ep k).L 4 [] (j4 + 1) (Ny x) = Sr k j4 (Ep k).J (Ep k).L x := by
 apply cutX (Ep k) [.r, .r, .r, .l, .r, .b, .b] [j4] (Ny x) [] [(4, [], j4)] (Sr k j4 · · x) <;> intros <;> kernel_rfl
theorem Wm (k : Nat) : Ac Tryz.prog 61 (Vt k) := An (Ep k).C k 58 [(.int .i64), (.int .i64)] true rfl ⟨⟨Kd k, trivial⟩, ⟨Wn k, trivial⟩, trivial⟩ Ad Tryz.func61 (by kernel_rfl)
abbrev H58 : Type := ((List Int) × (Int) × (Int) × (List (Int)) × (Int)) ⊕ ((Int) × (Int))
def S4 : Sk := ⟨[.lf (.ptr 0 0)], [[.pv (.slice (.int .u8)), .pv (.int .i64)]], []⟩
def Y2 : Sk := ⟨[.agg [.pv .str, .pv (.int .i64), .pv (.int .i64)]], S4.boxes, []⟩
def A3x (k : Nat) : EnvL := [(61, [Vt k]), (38, [Jy k])]
def Akp (k : Nat) : Cfg := { mkC (A3x k) 58 1 0 with bl := [66, 68] }
def Ms (k : Nat) : ((List (Int)) × (Int)) → Option H58 := hid (Al (Akp k) k Tryz.f134 S4 Y2 58 [(.int .i64), (.int .i64)] true)
def Au8 (k : Nat) : Sig := ⟨S4, Y2, Am S4.tys Y2.tys 58 [(.int .i64), (.int .i64)] true (Ms k)⟩
noncomputable def Akq (k : Nat) : ((List (Int)) × (Int)) → Option H58
 | (a0, a1) => ((Ke k) (a0, a1)).bind (orP (fun o1 => ((Cn k) (o1.2.1, o1.2.2)).bind (orP (fun o3 => ((Cn k) (o3.2.1, o3.2.2)).bind (orP (fun o5 => some (.inl (o1.1, o3.1, o5.1, o5.2.1, o5.2.2))) (fun o6 => some (.inr (o6.1, o6.2))))) (fun o4 => some (.inr (o4.1, o4.2))))) (fun o2 => some (.inr (o2.1, o2.2))))
theorem A3y (k : Nat) (x : ((List (Int)) × (Int))) : Ms k x = Akq k x := (Ae _ _).trans (by kernel_rfl)
theorem Azj (k : Nat) : Ac Tryz.prog 134 (Au8 k) := An (Akp k) k 58 [(.int .i64), (.int .i64)] true rfl ⟨⟨Wm k, trivial⟩, ⟨Kf k, trivial⟩, trivial⟩ Ad Tryz.func134 (by kernel_rfl)
abbrev H59 : Type := (Int) × (Int) × (List (Int)) × (Int) × (List (YT1))
abbrev H60 : Type := ((List (Int)) × (Int) × (List (YT1))) ⊕ ((Int) × (Int))
def Oe : Sk := ⟨[.lf (.ptr 0 0), .lf (.pv (.int .i64)), .lf (.fn 134 [(0, 0)] [])], [[.pv (.slice (.int .u8)), .pv (.int .i64)]], []⟩
def Ta : Sk := ⟨[.lf (.own 0)], Oe.boxes, [some (164, yt1)]⟩
def Akx : Sk := ⟨sparse 20 [(0, .lf (.ptr 0 0)), (2, .lf (.fn 134 [(0, 0)] [])), (7, .lf (.own 0)), (10, .lf (.pv (.int .i64))), (11, .lf (.pv (.int .i64)))], [[.pv (.slice (.int .u8)), .pv (.int .i64)]], [some (164, yt1)]⟩
abbrev Zg := H59
def Od : Zg → St := stOf Akx 68
def A4d (k : Nat) : EnvL := [(60, [Jx k]), (134, [Au8 k])]
def Ev (k : Nat) : FnX H60 := mkXP ({ mkC (A4d k) 68 1 0 with hint := fun i => look none [(3, some Akx)] i }) k Tryz.f133 Ta 58 [(.int .i64), (.int .i64)] true
def Q1 (k : Nat) : H0 → Option H60 := hid (Al (Ev k).C k Tryz.f133 Oe Ta 58 [(.int .i64), (.int .i64)] true)
def Ave (k : Nat) : Sig := ⟨Oe, Ta, Am Oe.tys Ta.tys 58 [(.int .i64), (.int .i64)] true (Q1 k)⟩
noncomputable def Zh (k : Nat) (J : JF H60) (L : LF H60) : H0 → Option H60
 | (a0, a1, a2) => ((F3 k) (a0, a1, a2)).bind (orP (fun o1 => L 3 [] k (Od (o1.1, (0 : Int), o1.2.1, o1.2.2, []))) (fun o2 => some (.inr (o2.1, o2.2))))
theorem A4e (k : Nat) (x : H0) : Q1 k x = Zh k (Ev k).J (Ev k).L x := by
 refine (Ae _ _).trans ?_; apply cutX (Ev k) [] [] (st0 (Ev k).C Tryz.f133 Oe x) [] [(3, [], k)] (Zh k · · x) <;> intros <;> kernel_rfl
noncomputable def Zi (k j3 : Nat) (J : JF H60) (L : LF H60) : Zg → Option H60
 | (a0, a1, a2, a3, a4) => bif (decide (a1 < a0)) then (((Ms k) (a2, a3)).bind (orP (fun o1 => app 32 a4 ([(o1.1, (o1.2.1, (o1.2.2.1, ())))] : List (YT1)) fun o3 => L 3 [] j3 (Od (a0, (IntKind.wrap .i64 (a1 + (1 : Int))), o1.2.2.2.1, o1.2.2.2.2, o3))) (fun o2 => some (.inr (o2.1, o2.2))))) else (some (.inl (a2, a3, a4)))
theorem A4f (k j3 : Nat) (x : Zg) : (Ev k).L 3 [] (j3 + 1) (Od x) = Zi k j3 (Ev k).J (Ev k).L x := by
 apply cutX (Ev k) [.r, .r, .l, .r, .b, .b] [j3] (Od x) [] [(3, [], j3)] (Zi k j3 · · x) <;> intros <;> kernel_rfl
theorem Azp (k : Nat) : Ac Tryz.prog 133 (Ave k) := An (Ev k).C k 58 [(.int .i64), (.int .i64)] true rfl ⟨⟨Kd k, trivial⟩, ⟨Azj k, trivial⟩, trivial⟩ Ad Tryz.func133 (by kernel_rfl)
abbrev H61 : Type := ((List Int) × (Int) × (Int) × (Int) × (List (Int)) × (Int) × (List (YT1))) ⊕ ((Int) × (Int))
def S1 : Sk := ⟨[.lf (.ptr 0 0)], [[.pv (.slice (.int .u8)), .pv (.int .i64)]], []⟩
def Yz : Sk := ⟨[.agg [.pv .str, .pv (.int .i64), .pv (.int .i64), .pv (.int .i64), .own 0]], S1.boxes, [some (164, yt1)]⟩
def A3r (k : Nat) : EnvL := [(61, [Vt k]), (38, [Jy k]), (133, [Ave k])]
def Akj (k : Nat) : Cfg := { mkC (A3r k) 68 1 0 with bl := [66, 68] }
def Mp (k : Nat) : ((List (Int)) × (Int)) → Option H61 := hid (Al (Akj k) k Tryz.f114 S1 Yz 58 [(.int .i64), (.int .i64)] true)
def Au5 (k : Nat) : Sig := ⟨S1, Yz, Am S1.tys Yz.tys 58 [(.int .i64), (.int .i64)] true (Mp k)⟩
noncomputable def Akk (k : Nat) : ((List (Int)) × (Int)) → Option H61
 | (a0, a1) => ((Ke k) (a0, a1)).bind (orP (fun o1 => ((Cn k) (o1.2.1, o1.2.2)).bind (orP (fun o3 => ((Cn k) (o3.2.1, o3.2.2)).bind (orP (fun o5 => ((Cn k) (o5.2.1, o5.2.2)).bind (orP (fun o7 => ((Q1 k) ((8 : Int), o7.2.1, o7.2.2)).bind (orP (fun o9 => some (.inl (o1.1, o3.1, o5.1, o7.1, o9.1, o9.2.1, o9.2.2))) (fun o10 => some (.inr (o10.1, o10.2))))) (fun o8 => some (.inr (o8.1, o8.2))))) (fun o6 => some (.inr (o6.1, o6.2))))) (fun o4 => some (.inr (o4.1, o4.2))))) (fun o2 => some (.inr (o2.1, o2.2))))
theorem A3s (k : Nat) (x : ((List (Int)) × (Int))) : Mp k x = Akk k x := (Ae _ _).trans (by kernel_rfl)
theorem Azg (k : Nat) : Ac Tryz.prog 114 (Au5 k) := An (Akj k) k 58 [(.int .i64), (.int .i64)] true rfl ⟨⟨Wm k, trivial⟩, ⟨Kf k, trivial⟩, ⟨Azp k, trivial⟩, trivial⟩ Ad Tryz.func114 (by kernel_rfl)
abbrev H62 : Type := (Int) × (Int) × (List (Int)) × (Int) × (List (YT2))
abbrev H63 : Type := ((List (Int)) × (Int) × (List (YT2))) ⊕ ((Int) × (Int))
def N7 : Sk := ⟨[.lf (.ptr 0 0), .lf (.pv (.int .i64)), .lf (.fn 114 [(0, 0)] [])], [[.pv (.slice (.int .u8)), .pv (.int .i64)]], []⟩
def S7 : Sk := ⟨[.lf (.own 0)], N7.boxes, [some (133, yt2)]⟩
def Aku : Sk := ⟨sparse 20 [(0, .lf (.ptr 0 0)), (2, .lf (.fn 114 [(0, 0)] [])), (7, .lf (.own 0)), (10, .lf (.pv (.int .i64))), (11, .lf (.pv (.int .i64)))], [[.pv (.slice (.int .u8)), .pv (.int .i64)]], [some (133, yt2)]⟩
abbrev Y7 := H62
def N6 : Y7 → St := stOf Aku 69
def A34 (k : Nat) : EnvL := [(60, [Jx k]), (114, [Au5 k])]
def Es (k : Nat) : FnX H63 := mkXP ({ mkC (A34 k) 69 1 0 with hint := fun i => look none [(3, some Aku)] i }) k Tryz.f113 S7 58 [(.int .i64), (.int .i64)] true
def Qy (k : Nat) : H0 → Option H63 := hid (Al (Es k).C k Tryz.f113 N7 S7 58 [(.int .i64), (.int .i64)] true)
def Avb (k : Nat) : Sig := ⟨N7, S7, Am N7.tys S7.tys 58 [(.int .i64), (.int .i64)] true (Qy k)⟩
noncomputable def Y8 (k : Nat) (J : JF H63) (L : LF H63) : H0 → Option H63
 | (a0, a1, a2) => ((F3 k) (a0, a1, a2)).bind (orP (fun o1 => L 3 [] k (N6 (o1.1, (0 : Int), o1.2.1, o1.2.2, []))) (fun o2 => some (.inr (o2.1, o2.2))))
theorem A35 (k : Nat) (x : H0) : Qy k x = Y8 k (Es k).J (Es k).L x := by
 refine (Ae _ _).trans ?_; apply cutX (Es k) [] [] (st0 (Es k).C Tryz.f113 N7 x) [] [(3, [], k)] (Y8 k · · x) <;> intros <;> kernel_rfl
noncomputable def Y9 (k j3 : Nat) (J : JF H63) (L : LF H63) : Y7 → Option H63
 | (a0, a1, a2, a3, a4) => bif (decide (a1 < a0)) then (((Mp k) (a2, a3)).bind (orP (fun o1 => app 64 a4 ([(o1.1, (o1.2.1, (o1.2.2.1, (o1.2.2.2.1, (o1.2.2.2.2.2.2, ())))))] : List (YT2)) fun o3 => L 3 [] j3 (N6 (a0, (IntKind.wrap .i64 (a1 + (1 : Int))), o1.2.2.2.2.1, o1.2.2.2.2.2.1, o3))) (fun o2 => some (.inr (o2.1, o2.2))))) else (some (.inl (a2, a3, a4)))
theorem A36 (k j3 : Nat) (x : Y7) : (Es k).L 3 [] (j3 + 1) (N6 x) = Y9 k j3 (Es k).J (Es k).L x := by
 apply cutX (Es k) [.r, .r, .l, .r, .b, .b] [j3] (N6 x) [] [(3, [], j3)] (Y9 k j3 · · x) <;> intros <;> kernel_rfl
theorem Azm (k : Nat) : Ac Tryz.prog 113 (Avb k) := An (Es k).C k 58 [(.int .i64), (.int .i64)] true rfl ⟨⟨Kd k, trivial⟩, ⟨Azg k, trivial⟩, trivial⟩ Ad Tryz.func113 (by kernel_rfl)
def S0 : Sk := ⟨[.lf (.ptr 0 0)], [[.pv (.slice (.int .u8)), .pv (.int .i64)]], []⟩
def Yy : Sk := ⟨[.lf (.own 0)], S0.boxes, [some (133, yt2)]⟩
def A3p (k : Nat) : EnvL := [(113, [Avb k])]
def Akh (k : Nat) : Cfg := mkC (A3p k) 56 1 0
def Mo (k : Nat) : ((List (Int)) × (Int)) → Option H63 := hid (Al (Akh k) k Tryz.f90 S0 Yy 58 [(.int .i64), (.int .i64)] true)
def Au4 (k : Nat) : Sig := ⟨S0, Yy, Am S0.tys Yy.tys 58 [(.int .i64), (.int .i64)] true (Mo k)⟩
noncomputable def Aki (k : Nat) : ((List (Int)) × (Int)) → Option H63
 | (a0, a1) => ((Qy k) ((4 : Int), a0, a1)).bind (orP (fun o1 => some (.inl (o1.1, o1.2.1, o1.2.2))) (fun o2 => some (.inr (o2.1, o2.2))))
theorem A3q (k : Nat) (x : ((List (Int)) × (Int))) : Mo k x = Aki k x := (Ae _ _).trans (by kernel_rfl)
theorem Azf (k : Nat) : Ac Tryz.prog 90 (Au4 k) := An (Akh k) k 58 [(.int .i64), (.int .i64)] true rfl ⟨⟨Azm k, trivial⟩, trivial⟩ Ad Tryz.func90 (by kernel_rfl)
abbrev H64 : Type := (Int) × (Int) × (List (Int)) × (Int) × (List (List (YT2)))
abbrev H65 : Type := ((List (Int)) × (Int) × (List (List (YT2)))) ⊕ ((Int) × (Int))
def N5 : Sk := ⟨[.lf (.ptr 0 0), .lf (.pv (.int .i64)), .lf (.fn 90 [(0, 0)] [])], [[.pv (.slice (.int .u8)), .pv (.int .i64)]], []⟩
def S6 : Sk := ⟨[.lf (.own 0)], N5.boxes, [some (118, (.slice yt2))]⟩
def Akt : Sk := ⟨sparse 20 [(0, .lf (.ptr 0 0)), (2, .lf (.fn 90 [(0, 0)] [])), (7, .lf (.own 0)), (10, .lf (.pv (.int .i64))), (11, .lf (.pv (.int .i64)))], [[.pv (.slice (.int .u8)), .pv (.int .i64)]], [some (118, (.slice yt2))]⟩
abbrev Y4 := H64
def N4 : Y4 → St := stOf Akt 69
def A31 (k : Nat) : EnvL := [(60, [Jx k]), (90, [Au4 k])]
def Er (k : Nat) : FnX H65 := mkXP ({ mkC (A31 k) 69 1 0 with hint := fun i => look none [(3, some Akt)] i }) k Tryz.f89 S6 58 [(.int .i64), (.int .i64)] true
def Qx (k : Nat) : H0 → Option H65 := hid (Al (Er k).C k Tryz.f89 N5 S6 58 [(.int .i64), (.int .i64)] true)
def Ava (k : Nat) : Sig := ⟨N5, S6, Am N5.tys S6.tys 58 [(.int .i64), (.int .i64)] true (Qx k)⟩
noncomputable def Y5 (k : Nat) (J : JF H65) (L : LF H65) : H0 → Option H65
 | (a0, a1, a2) => ((F3 k) (a0, a1, a2)).bind (orP (fun o1 => L 3 [] k (N4 (o1.1, (0 : Int), o1.2.1, o1.2.2, []))) (fun o2 => some (.inr (o2.1, o2.2))))
theorem A32 (k : Nat) (x : H0) : Qx k x = Y5 k (Er k).J (Er k).L x := by
 refine (Ae _ _).trans ?_; apply cutX (Er k) [] [] (st0 (Er k).C Tryz.f89 N5 x) [] [(3, [], k)] (Y5 k · · x) <;> intros <;> kernel_rfl
noncomputable def Y6 (k j3 : Nat) (J : JF H65) (L : LF H65) : Y4 → Option H65
 | (a0, a1, a2, a3, a4) => bif (decide (a1 < a0)) then (((Mo k) (a2, a3)).bind (orP (fun o1 => app 24 a4 ([o1.2.2] : List (List (YT2))) fun o3 => L 3 [] j3 (N4 (a0, (IntKind.wrap .i64 (a1 + (1 : Int))), o1.1, o1.2.1, o3))) (fun o2 => some (.inr (o2.1, o2.2))))) else (some (.inl (a2, a3, a4)))
theorem A33 (k j3 : Nat) (x : Y4) : (Er k).L 3 [] (j3 + 1) (N4 x) = Y6 k j3 (Er k).J (Er k).L x := by
 apply cutX (Er k) [.r, .r, .l, .r, .b, .b] [j3] (N4 x) [] [(3, [], j3)] (Y6 k j3 · · x) <;> intros <;> kernel_rfl
theorem Azl (k : Nat) : Ac Tryz.prog 89 (Ava k) := An (Er k).C k 58 [(.int .i64), (.int .i64)] true rfl ⟨⟨Kd k, trivial⟩, ⟨Azf k, trivial⟩, trivial⟩ Ad Tryz.func89 (by kernel_rfl)
def S2 : Sk := ⟨[.lf (.ptr 0 0)], [[.pv (.slice (.int .u8)), .pv (.int .i64)]], []⟩
def Y0 : Sk := ⟨[.agg [.own 0]], S2.boxes, [some (118, (.slice yt2))]⟩
def A3t (k : Nat) : EnvL := [(89, [Ava k])]
def Akl (k : Nat) : Cfg := { mkC (A3t k) 57 1 0 with bl := [66, 68] }
def Mq (k : Nat) : ((List (Int)) × (Int)) → Option H65 := hid (Al (Akl k) k Tryz.f63 S2 Y0 58 [(.int .i64), (.int .i64)] true)
def Au6 (k : Nat) : Sig := ⟨S2, Y0, Am S2.tys Y0.tys 58 [(.int .i64), (.int .i64)] true (Mq k)⟩
noncomputable def Akm (k : Nat) : ((List (Int)) × (Int)) → Option H65
 | (a0, a1) => ((Qx k) ((2 : Int), a0, a1)).bind (orP (fun o1 => some (.inl (o1.1, o1.2.1, o1.2.2))) (fun o2 => some (.inr (o2.1, o2.2))))
theorem A3u (k : Nat) (x : ((List (Int)) × (Int))) : Mq k x = Akm k x := (Ae _ _).trans (by kernel_rfl)
theorem Azh (k : Nat) : Ac Tryz.prog 63 (Au6 k) := An (Akl k) k 58 [(.int .i64), (.int .i64)] true rfl ⟨⟨Azl k, trivial⟩, trivial⟩ Ad Tryz.func63 (by kernel_rfl)
abbrev H66 : Type := (Int) × (Int) × (List (Int)) × (Int) × (List ((List (List (YT2))) × (Unit)))
abbrev H67 : Type := ((List (Int)) × (Int) × (List ((List (List (YT2))) × (Unit)))) ⊕ ((Int) × (Int))
def N9 : Sk := ⟨[.lf (.ptr 0 0), .lf (.pv (.int .i64)), .lf (.fn 63 [(0, 0)] [])], [[.pv (.slice (.int .u8)), .pv (.int .i64)]], []⟩
def S8 : Sk := ⟨[.lf (.own 0)], N9.boxes, [some (94, (.cons (.slice (.slice yt2)) .nil))]⟩
def Akv : Sk := ⟨sparse 20 [(0, .lf (.ptr 0 0)), (2, .lf (.fn 63 [(0, 0)] [])), (7, .lf (.own 0)), (10, .lf (.pv (.int .i64))), (11, .lf (.pv (.int .i64)))], [[.pv (.slice (.int .u8)), .pv (.int .i64)]], [some (94, (.cons (.slice (.slice yt2)) .nil))]⟩
abbrev Za := H66
def N8 : Za → St := stOf Akv 69
def A37 (k : Nat) : EnvL := [(60, [Jx k]), (63, [Au6 k])]
def Et (k : Nat) : FnX H67 := mkXP ({ mkC (A37 k) 69 1 0 with hint := fun i => look none [(3, some Akv)] i }) k Tryz.f62 S8 58 [(.int .i64), (.int .i64)] true
def Qz (k : Nat) : H0 → Option H67 := hid (Al (Et k).C k Tryz.f62 N9 S8 58 [(.int .i64), (.int .i64)] true)
def Avc (k : Nat) : Sig := ⟨N9, S8, Am N9.tys S8.tys 58 [(.int .i64), (.int .i64)] true (Qz k)⟩
noncomputable def Zb (k : Nat) (J : JF H67) (L : LF H67) : H0 → Option H67
 | (a0, a1, a2) => ((F3 k) (a0, a1, a2)).bind (orP (fun o1 => L 3 [] k (N8 (o1.1, (0 : Int), o1.2.1, o1.2.2, []))) (fun o2 => some (.inr (o2.1, o2.2))))
theorem A38 (k : Nat) (x : H0) : Qz k x = Zb k (Et k).J (Et k).L x := by
 refine (Ae _ _).trans ?_; apply cutX (Et k) [] [] (st0 (Et k).C Tryz.f62 N9 x) [] [(3, [], k)] (Zb k · · x) <;> intros <;> kernel_rfl
noncomputable def Zc (k j3 : Nat) (J : JF H67) (L : LF H67) : Za → Option H67
 | (a0, a1, a2, a3, a4) => bif (decide (a1 < a0)) then (((Mq k) (a2, a3)).bind (orP (fun o1 => app 24 a4 ([(o1.2.2, ())] : List ((List (List (YT2))) × (Unit))) fun o3 => L 3 [] j3 (N8 (a0, (IntKind.wrap .i64 (a1 + (1 : Int))), o1.1, o1.2.1, o3))) (fun o2 => some (.inr (o2.1, o2.2))))) else (some (.inl (a2, a3, a4)))
theorem A39 (k j3 : Nat) (x : Za) : (Et k).L 3 [] (j3 + 1) (N8 x) = Zc k j3 (Et k).J (Et k).L x := by
 apply cutX (Et k) [.r, .r, .l, .r, .b, .b] [j3] (N8 x) [] [(3, [], j3)] (Zc k j3 · · x) <;> intros <;> kernel_rfl
theorem Azn (k : Nat) : Ac Tryz.prog 62 (Avc k) := An (Et k).C k 58 [(.int .i64), (.int .i64)] true rfl ⟨⟨Kd k, trivial⟩, ⟨Azh k, trivial⟩, trivial⟩ Ad Tryz.func62 (by kernel_rfl)
abbrev H68 : Type := ((List Int) × (Int) × (Int) × (Int) × (List (Int)) × (Int) × (List ((List (List (YT2))) × (Unit)))) ⊕ ((Int) × (Int))
def S3 : Sk := ⟨[.lf (.ptr 0 0)], [[.pv (.slice (.int .u8)), .pv (.int .i64)]], []⟩
def Y1 : Sk := ⟨[.agg [.pv .str, .pv (.int .i64), .own 0, .pv (.int .i64), .pv (.int .i64)]], S3.boxes, [some (94, (.cons (.slice (.slice yt2)) .nil))]⟩
def A3v (k : Nat) : EnvL := [(61, [Vt k]), (38, [Jy k]), (62, [Avc k])]
def Akn (k : Nat) : Cfg := { mkC (A3v k) 72 1 0 with bl := [66, 68] }
def Mr (k : Nat) : ((List (Int)) × (Int)) → Option H68 := hid (Al (Akn k) k Tryz.f40 S3 Y1 58 [(.int .i64), (.int .i64)] true)
def Au7 (k : Nat) : Sig := ⟨S3, Y1, Am S3.tys Y1.tys 58 [(.int .i64), (.int .i64)] true (Mr k)⟩
noncomputable def Ako (k : Nat) : ((List (Int)) × (Int)) → Option H68
 | (a0, a1) => ((Ke k) (a0, a1)).bind (orP (fun o1 => ((Cn k) (o1.2.1, o1.2.2)).bind (orP (fun o3 => ((Cn k) (o3.2.1, o3.2.2)).bind (orP (fun o5 => ((Cn k) (o5.2.1, o5.2.2)).bind (orP (fun o7 => ((Qz k) ((4 : Int), o7.2.1, o7.2.2)).bind (orP (fun o9 => some (.inl (o1.1, o3.1, o5.1, o7.1, o9.1, o9.2.1, o9.2.2))) (fun o10 => some (.inr (o10.1, o10.2))))) (fun o8 => some (.inr (o8.1, o8.2))))) (fun o6 => some (.inr (o6.1, o6.2))))) (fun o4 => some (.inr (o4.1, o4.2))))) (fun o2 => some (.inr (o2.1, o2.2))))
theorem A3w (k : Nat) (x : ((List (Int)) × (Int))) : Mr k x = Ako k x := (Ae _ _).trans (by kernel_rfl)
theorem Azi (k : Nat) : Ac Tryz.prog 40 (Au7 k) := An (Akn k) k 58 [(.int .i64), (.int .i64)] true rfl ⟨⟨Wm k, trivial⟩, ⟨Kf k, trivial⟩, ⟨Azn k, trivial⟩, trivial⟩ Ad Tryz.func40 (by kernel_rfl)
abbrev H69 : Type := (Int) × (Int) × (List (Int)) × (Int) × (List (YT4))
abbrev H70 : Type := ((List (Int)) × (Int) × (List (YT4))) ⊕ ((Int) × (Int))
def Ob : Sk := ⟨[.lf (.ptr 0 0), .lf (.pv (.int .i64)), .lf (.fn 40 [(0, 0)] [])], [[.pv (.slice (.int .u8)), .pv (.int .i64)]], []⟩
def S9 : Sk := ⟨[.lf (.own 0)], Ob.boxes, [some (55, yt4)]⟩
def Akw : Sk := ⟨sparse 20 [(0, .lf (.ptr 0 0)), (2, .lf (.fn 40 [(0, 0)] [])), (7, .lf (.own 0)), (10, .lf (.pv (.int .i64))), (11, .lf (.pv (.int .i64)))], [[.pv (.slice (.int .u8)), .pv (.int .i64)]], [some (55, yt4)]⟩
abbrev Zd := H69
def Oa : Zd → St := stOf Akw 69
def A4a (k : Nat) : EnvL := [(60, [Jx k]), (40, [Au7 k])]
def Eu (k : Nat) : FnX H70 := mkXP ({ mkC (A4a k) 69 1 0 with hint := fun i => look none [(3, some Akw)] i }) k Tryz.f39 S9 58 [(.int .i64), (.int .i64)] true
def Q0 (k : Nat) : H0 → Option H70 := hid (Al (Eu k).C k Tryz.f39 Ob S9 58 [(.int .i64), (.int .i64)] true)
def Avd (k : Nat) : Sig := ⟨Ob, S9, Am Ob.tys S9.tys 58 [(.int .i64), (.int .i64)] true (Q0 k)⟩
noncomputable def Ze (k : Nat) (J : JF H70) (L : LF H70) : H0 → Option H70
 | (a0, a1, a2) => ((F3 k) (a0, a1, a2)).bind (orP (fun o1 => L 3 [] k (Oa (o1.1, (0 : Int), o1.2.1, o1.2.2, []))) (fun o2 => some (.inr (o2.1, o2.2))))
theorem A4b (k : Nat) (x : H0) : Q0 k x = Ze k (Eu k).J (Eu k).L x := by
 refine (Ae _ _).trans ?_; apply cutX (Eu k) [] [] (st0 (Eu k).C Tryz.f39 Ob x) [] [(3, [], k)] (Ze k · · x) <;> intros <;> kernel_rfl
noncomputable def Zf (k j3 : Nat) (J : JF H70) (L : LF H70) : Zd → Option H70
 | (a0, a1, a2, a3, a4) => bif (decide (a1 < a0)) then (((Mr k) (a2, a3)).bind (orP (fun o1 => app 64 a4 ([(o1.1, (o1.2.1, (o1.2.2.2.2.2.2, ((o1.2.2.1, (o1.2.2.2.1, ())), ()))))] : List (YT4)) fun o3 => L 3 [] j3 (Oa (a0, (IntKind.wrap .i64 (a1 + (1 : Int))), o1.2.2.2.2.1, o1.2.2.2.2.2.1, o3))) (fun o2 => some (.inr (o2.1, o2.2))))) else (some (.inl (a2, a3, a4)))
theorem A4c (k j3 : Nat) (x : Zd) : (Eu k).L 3 [] (j3 + 1) (Oa x) = Zf k j3 (Eu k).J (Eu k).L x := by
 apply cutX (Eu k) [.r, .r, .l, .r, .b, .b] [j3] (Oa x) [] [(3, [], j3)] (Zf k j3 · · x) <;> intros <;> kernel_rfl
theorem Azo (k : Nat) : Ac Tryz.prog 39 (Avd k) := An (Eu k).C k 58 [(.int .i64), (.int .i64)] true rfl ⟨⟨Kd k, trivial⟩, ⟨Azi k, trivial⟩, trivial⟩ Ad Tryz.func39 (by kernel_rfl)
abbrev H71 : Type := ((Int) × (Int) × (List (Int)) × (Int)) ⊕ ((Int) × (Int))
def S5 : Sk := ⟨[.lf (.ptr 0 0)], [[.pv (.slice (.int .u8)), .pv (.int .i64)]], []⟩
def Y3 : Sk := ⟨[.agg [.pv (.int .i64), .pv (.int .i64)]], S5.boxes, []⟩
def A3z (k : Nat) : EnvL := [(38, [Jy k])]
def Akr (k : Nat) : Cfg := { mkC (A3z k) 56 1 0 with bl := [66, 68] }
def Mt (k : Nat) : ((List (Int)) × (Int)) → Option H71 := hid (Al (Akr k) k Tryz.f41 S5 Y3 58 [(.int .i64), (.int .i64)] true)
def Au9 (k : Nat) : Sig := ⟨S5, Y3, Am S5.tys Y3.tys 58 [(.int .i64), (.int .i64)] true (Mt k)⟩
noncomputable def Aks (k : Nat) : ((List (Int)) × (Int)) → Option H71
 | (a0, a1) => ((Cn k) (a0, a1)).bind (orP (fun o1 => ((Cn k) (o1.2.1, o1.2.2)).bind (orP (fun o3 => some (.inl (o1.1, o3.1, o3.2.1, o3.2.2))) (fun o4 => some (.inr (o4.1, o4.2))))) (fun o2 => some (.inr (o2.1, o2.2))))
theorem A30 (k : Nat) (x : ((List (Int)) × (Int))) : Mt k x = Aks k x := (Ae _ _).trans (by kernel_rfl)
theorem Azk (k : Nat) : Ac Tryz.prog 41 (Au9 k) := An (Akr k) k 58 [(.int .i64), (.int .i64)] true rfl ⟨⟨Kf k, trivial⟩, trivial⟩ Ad Tryz.func41 (by kernel_rfl)
abbrev H72 : Type := (Int) × (Int) × (List (Int)) × (Int) × (Int) × (Int) × (Int) × (Int) × (Int) × (Bool) × (Int) × (List (Int))
def q4 : List SL := [.pv (.int .i64), .own 0, .pv (.int .i64), .pv (.int .i64), .pv (.int .i64), .pv (.int .i64), .pv .bool, .pv (.int .i64)]
abbrev H73 : Type := (Int) × (List (Int)) × (Int) × (Int) × (Int) × (Int) × (Int) × (Int) × (Bool) × (Int) × (Int) × (Int) × (Int) × (Int) × (Int) × (Bool) × (Int) × (List (YT4))
abbrev H74 : Type := ((Int) × (Int) × (Int) × (Int) × (Int) × (Bool) × (Int) × (List (Int)) × (Int) × (List (YT4))) ⊕ ((Int) × (Int))
def N3 : Sk := ⟨[.lf (.ptr 0 0)], [[.pv (.slice (.int .u8)), .pv (.int .i64)]], []⟩
def Sz : Sk := ⟨[.agg [.pv (.int .i64), .own 0, .pv (.int .i64), .pv (.int .i64), .pv (.int .i64), .pv (.int .i64), .pv .bool, .pv (.int .i64)]], N3.boxes, [some (55, yt4)]⟩
def Akg : Sk := ⟨sparse 75 [(0, .lf (.ptr 0 0)), (2, .lf (.ptr 1 0)), (9, .lf (.own 0)), (10, .lf (.pv (.int .i64))), (11, .lf (.pv (.int .i64)))], [[.pv (.slice (.int .u8)), .pv (.int .i64)], q1], [some (5, (.int .u8))]⟩
abbrev Yv := H72
def Kv : Yv → St := stOf Akg 124
def Akf : Sk := ⟨sparse 75 [(0, .lf (.ptr 0 0)), (2, .lf (.ptr 1 0)), (6, .lf (.ptr 2 0)), (8, .lf (.pv (.int .u8)))], [[.pv (.slice (.int .u8)), .pv (.int .i64)], q1, q4], [some (55, yt4)]⟩
abbrev Yu := H73
def Yw : Yu → St := stOf Akf 124
def A3n (k : Nat) : EnvL := [(37, [Vu k]), (38, [Jy k]), (39, [Avd k]), (41, [Au9 k])]
def Cp (k : Nat) : FnX H74 := mkXP ({ mkC (A3n k) 124 1 0 with hint := fun i => look none [(2, some Akg), (15, some Akf)] i, bl := [66, 68] }) k Tryz.f17 Sz 58 [(.int .i64), (.int .i64)] true
def Mn (k : Nat) : ((List (Int)) × (Int)) → Option H74 := hid (Al (Cp k).C k Tryz.f17 N3 Sz 58 [(.int .i64), (.int .i64)] true)
def Au3 (k : Nat) : Sig := ⟨N3, Sz, Am N3.tys Sz.tys 58 [(.int .i64), (.int .i64)] true (Mn k)⟩
noncomputable def Sy (k : Nat) (J : JF H74) (L : LF H74) : ((List (Int)) × (Int)) → Option H74
 | (a0, a1) => L 2 [] k (Kv (((List.length ([(67 : Int), (70 : Int), (1 : Int)] : List (Int)) : Nat) : Int), (0 : Int), a0, a1, (0 : Int), (0 : Int), (0 : Int), (0 : Int), (0 : Int), false, (0 : Int), ([(67 : Int), (70 : Int), (1 : Int)] : List (Int))))
theorem Ake (k : Nat) (x : ((List (Int)) × (Int))) : Mn k x = Sy k (Cp k).J (Cp k).L x := by
 refine (Ae _ _).trans ?_; apply cutX (Cp k) [] [] (st0 (Cp k).C Tryz.f17 N3 x) [(15, [])] [(2, [], k)] (Sy k · · x) <;> intros <;> kernel_rfl
noncomputable def Ia (k j2 : Nat) (J : JF H74) (L : LF H74) : Yv → Option H74
 | (a0, a1, a2, a3, a4, a5, a6, a7, a8, a9, a10, a11) => bif (decide (a1 < a0)) then (bif (inB a1 (List.length a11)) then ((I4 k) (a2, a3)).bind (orP (fun o1 => bif (o1.1 != (rdI a11 (Int.toNat a1))) then (some (.inr ((40 : Int), a3))) else (L 2 [] j2 (Kv (a0, (IntKind.wrap .i64 (a1 + (1 : Int))), o1.2.1, o1.2.2, a4, a5, a6, a7, a8, a9, a10, a11)))) (fun o2 => some (.inr (o2.1, o2.2)))) else none) else (((Cn k) (a2, a3)).bind (orP (fun o3 => ((Q0 k) ((12 : Int), o3.2.1, o3.2.2)).bind (orP (fun o5 => ((Mt k) (o5.1, o5.2.1)).bind (orP (fun o7 => ((Mt k) (o7.2.2.1, o7.2.2.2)).bind (orP (fun o9 => ((I4 k) (o9.2.2.1, o9.2.2.2)).bind (orP (fun o11 => bif (decide (o11.1 > (1 : Int))) then (some (.inr ((40 : Int), o9.2.2.2))) else (J 15 [] (Yw (o11.1, o11.2.1, o11.2.2, a4, a5, a6, a7, a8, a9, a10, o3.1, o7.1, o7.2.1, o9.1, o9.2.1, false, (0 : Int), o5.2.2)))) (fun o12 => some (.inr (o12.1, o12.2))))) (fun o10 => some (.inr (o10.1, o10.2))))) (fun o8 => some (.inr (o8.1, o8.2))))) (fun o6 => some (.inr (o6.1, o6.2))))) (fun o4 => some (.inr (o4.1, o4.2)))))
theorem Ku (k j2 : Nat) (x : Yv) : (Cp k).L 2 [] (j2 + 1) (Kv x) = Ia k j2 (Cp k).J (Cp k).L x := by
 apply cutX (Cp k) [.r, .l, .r, .b, .b] [j2] (Kv x) [(15, [])] [(2, [], j2)] (Ia k j2 · · x) <;> intros <;> kernel_rfl
noncomputable def Yx (k : Nat) (J : JF H74) (L : LF H74) : Yu → Option H74
 | (a0, a1, a2, a3, a4, a5, a6, a7, a8, a9, a10, a11, a12, a13, a14, a15, a16, a17) => ((Cn k) (a1, a2)).bind (orP (fun o1 => bif (decide (o1.2.2 < ((List.length o1.2.1 : Nat) : Int))) then (some (.inr ((40 : Int), o1.2.2))) else (some (.inl (a10, a11, a12, a13, a14, (a0 == (1 : Int)), o1.1, o1.2.1, o1.2.2, a17)))) (fun o2 => some (.inr (o2.1, o2.2))))
theorem A3o (k : Nat) (x : Yu) : (Cp k).J 15 [] (Yw x) = Yx k (Cp k).J (Cp k).L x := by
 apply cutX (Cp k) [.r, .r, .r, .r, .r, .r, .r, .r] [] (Yw x) [(15, [])] [(2, [], k)] (Yx k · · x) <;> intros <;> kernel_rfl
theorem Aze (k : Nat) : Ac Tryz.prog 17 (Au3 k) := An (Cp k).C k 58 [(.int .i64), (.int .i64)] true rfl ⟨⟨Wn k, trivial⟩, ⟨Kf k, trivial⟩, ⟨Azo k, trivial⟩, ⟨Azk k, trivial⟩, trivial⟩ Ad Tryz.func17 (by kernel_rfl)
def Ajo : Sk := ⟨[.lf (.pv (.slice (.int .u8)))], [], []⟩
def Ajp : Sk := ⟨[.agg [.pv (.int .i64), .own 0, .pv (.int .i64), .pv (.int .i64), .pv (.int .i64), .pv (.int .i64), .pv .bool, .pv (.int .i64)], .lf (.pv (.int .i64)), .lf (.pv (.int .i64))], [], [some (55, yt4)]⟩
def A2s : Sk := ⟨sparse 10 [(0, .lf (.pv (.slice (.int .u8)))), (2, .lf (.ptr 0 0)), (3, .lf (.ptr 1 0)), (4, .lf (.ptr 2 0)), (5, .lf (.fn 16 [] [(0, 0), (1, 0), (2, 0)]))], [q1, [.pv (.int .i64)], [.pv (.int .i64)]], []⟩
def Ajn (k : Nat) : EnvL := [(17, [Au3 k])]
def Ajk (k : Nat) : Cfg := { mkC (Ajn k) 59 0 0 with bl := [66, 68] }
def Ajl (k : Nat) : Cfg := { mkC (Ajn k) 59 3 0 with bl := [66, 68] }
def Ajm : DefC := { g := 16, kd := A2s, caps := [0, 1, 2], pt := 58, tp := [(.int .i64), (.int .i64)], pg := true, new := Ds }
def G7 (k : Nat) : (List (Int)) → Option H30 := hid (Jf (Ajk k) (Ajl k) Ajm k Tryz.f7 1 Ajo Ajp)
def Af5 (k : Nat) : Sig := Ag Ajo Ajp (G7 k)
noncomputable def Se (k : Nat) : (List (Int)) → Option H30
 | a0 => ((Mn k) (a0, (0 : Int))).bind (orP (fun o1 => some (o1.1, o1.2.1, o1.2.2.1, o1.2.2.2.1, o1.2.2.2.2.1, o1.2.2.2.2.2.1, o1.2.2.2.2.2.2.1, (0 : Int), (0 : Int), o1.2.2.2.2.2.2.2.2.2)) (fun o2 => some ((0 : Int), (0 : Int), (0 : Int), (0 : Int), (0 : Int), false, (0 : Int), o2.1, o2.2, [])))
theorem Xq (k : Nat) (x : (List (Int))) : G7 k x = Se k x := (Ae _ _).trans (by kernel_rfl)
theorem Ahy (k : Nat) : Ac Tryz.prog 7 (Af5 k) := sgOKD (Ajk k) (Ajl k) Ajm k 1 rfl rfl ⟨⟨Aze k, trivial⟩, trivial⟩ Ad rfl (clo16_R _ _ rfl) (clo16_P _ _ rfl) Tryz.func7 (by kernel_rfl)
def Arw : Sk := ⟨[], [], []⟩
def Arx : Sk := ⟨[.lf (.pv .bool)], [], []⟩
def Bae (k : Nat) : EnvL := [(6, [Af6 k]), (7, [Af5 k])]
def Aru (k : Nat) : Cfg := { mkC (Bae k) 141 0 0 with bl := [66, 68] }
def Nl (k : Nat) : Unit → Option Bool := hid (Ah (Aru k) k Tryz.f5 Arw Arx)
def Axb (k : Nat) : Sig := Ag Arw Arx (Nl k)
noncomputable def Arv (k : Nat) : Unit → Option Bool
 | _ => ((F2 k) ((5 : Int), [], (0 : Int), (0 : Int), (0 : Int), (0 : Int), false, (0 : Int))).bind fun o1 => ((F2 k) ((300 : Int), [], (0 : Int), (0 : Int), (0 : Int), (0 : Int), false, (0 : Int))).bind fun o2 => ((G7 k) (([(67 : Int), (70 : Int), (1 : Int), (172 : Int), (2 : Int), (0 : Int), (0 : Int), (0 : Int), (0 : Int), (0 : Int), (1 : Int), (7 : Int)] : List (Int)))).bind fun o3 => ((G7 k) (([(67 : Int), (71 : Int)] : List (Int)))).bind fun o4 => bif (o1.1 == (0 : Int)) then (bif (o1.2 == ([(67 : Int), (70 : Int), (1 : Int), (5 : Int), (0 : Int), (0 : Int), (0 : Int), (0 : Int), (0 : Int), (0 : Int), (0 : Int)] : List (Int))) then (bif (o2.1 == (0 : Int)) then (bif (((List.length o2.2 : Nat) : Int) == (12 : Int)) then (bif (inB (3 : Int) (List.length o2.2)) then bif ((rdI o2.2 (Int.toNat (3 : Int))) == (172 : Int)) then (bif (inB (4 : Int) (List.length o2.2)) then bif ((rdI o2.2 (Int.toNat (4 : Int))) == (2 : Int)) then (bif (o3.2.2.2.2.2.2.2.1 == (0 : Int)) then (bif (o3.1 == (300 : Int)) then (bif o3.2.2.2.2.2.1 then (bif (o3.2.2.2.2.2.2.1 == (7 : Int)) then (bif (o4.2.2.2.2.2.2.2.1 == (40 : Int)) then (some (o4.2.2.2.2.2.2.2.2.1 == (1 : Int))) else (some false)) else (some false)) else (some false)) else (some false)) else (some false)) else (some false) else none) else (some false) else none) else (some false)) else (some false)) else (some false)) else (some false)
theorem Baf (k : Nat) (x : Unit) : Nl k x = Arv k x := (Ae _ _).trans (by kernel_rfl)
theorem A13 (k : Nat) : Ac Tryz.prog 5 (Axb k) := Aj (Aru k) k rfl ⟨⟨Ahz k, trivial⟩, ⟨Ahy k, trivial⟩, trivial⟩ Ad Tryz.func5 (by kernel_rfl)
def Ao2 : Sk := ⟨[.lf (.pv (.int .i64))], [], []⟩
def Ao3 : Sk := ⟨[.lf (.pv .bool)], [], []⟩
def Ao0 (k : Nat) : Cfg := mkC [] 57 0 0
def Ri (k : Nat) : Int → Option Bool := hid (Ah (Ao0 k) k Tryz.f65 Ao2 Ao3)
def Awh (k : Nat) : Sig := Ag Ao2 Ao3 (Ri k)
noncomputable def Ao1 (k : Nat) : Int → Option Bool
 | a0 => bif (decide (a0 < (0 : Int))) then (some true) else (some (decide (a0 > (999999999999999999 : Int))))
theorem A7p (k : Nat) (x : Int) : Ri k x = Ao1 k x := (Ae _ _).trans (by kernel_rfl)
theorem A00 (k : Nat) : Ac Tryz.prog 65 (Awh k) := Aj (Ao0 k) (l := []) k rfl trivial Ad Tryz.func65 (by kernel_rfl)
abbrev H75 : Type := (List (Int)) × (Int) × (Int)
def Aas : Sk := ⟨[.lf (.pv (.slice (.int .i64))), .lf (.fn 65 [] [])], [], []⟩
def Aat : Sk := ⟨[.lf (.pv (.int .i64))], [], []⟩
def Alq : Sk := ⟨sparse 19 [(0, .lf (.pv (.slice (.int .i64)))), (1, .lf (.fn 65 [] [])), (7, .lf (.pv (.int .i64))), (8, .lf (.pv (.int .i64)))], [], []⟩
abbrev Aaq := H75
def Ol : Aaq → St := stOf Alq 67
def A5b (k : Nat) : EnvL := [(65, [Awh k])]
def E2 (k : Nat) : FnX Int := mkX ({ mkC (A5b k) 67 0 0 with hint := fun i => look none [(2, some Alq)] i }) k Tryz.f91 Aat
def W0 (k : Nat) : (List (Int)) → Option Int := hid (Ah (E2 k).C k Tryz.f91 Aas Aat)
def Avp (k : Nat) : Sig := Ag Aas Aat (W0 k)
noncomputable def Aar (k : Nat) (J : JF Int) (L : LF Int) : (List (Int)) → Option Int
 | a0 => L 2 [] k (Ol (a0, ((List.length a0 : Nat) : Int), (0 : Int)))
theorem A5c (k : Nat) (x : (List (Int))) : W0 k x = Aar k (E2 k).J (E2 k).L x := by
 refine (Ae _ _).trans ?_; apply cutX (E2 k) [] [] (st0 (E2 k).C Tryz.f91 Aas x) [] [(2, [], k)] (Aar k · · x) <;> intros <;> kernel_rfl
noncomputable def Alr (k j2 : Nat) (J : JF Int) (L : LF Int) : Aaq → Option Int
 | (a0, a1, a2) => bif (decide (a2 < a1)) then (idxI a0 a2 fun o1 => ((Ri k) (o1)).bind fun o2 => bif o2 then (some a2) else (L 2 [] j2 (Ol (a0, a1, (IntKind.wrap .i64 (a2 + (1 : Int))))))) else (some (-1 : Int))
theorem A5d (k j2 : Nat) (x : Aaq) : (E2 k).L 2 [] (j2 + 1) (Ol x) = Alr k j2 (E2 k).J (E2 k).L x := by
 apply cutX (E2 k) [.r, .l, .r, .b, .b] [j2] (Ol x) [] [(2, [], j2)] (Alr k j2 · · x) <;> intros <;> kernel_rfl
theorem Az2 (k : Nat) : Ac Tryz.prog 91 (Avp k) := Aj (E2 k).C k rfl ⟨⟨A00 k, trivial⟩, trivial⟩ Ad Tryz.func91 (by kernel_rfl)
def Aji : Sk := ⟨[.lf (.pv (.slice (.int .i64))), .lf (.fn 65 [] [])], [], []⟩
def Ajj : Sk := ⟨[.lf (.pv .bool)], [], []⟩
def A2q (k : Nat) : EnvL := [(91, [Avp k])]
def Ajg (k : Nat) : Cfg := mkC (A2q k) 57 0 0
def Mm (k : Nat) : (List (Int)) → Option Bool := hid (Ah (Ajg k) k Tryz.f64 Aji Ajj)
def Aux (k : Nat) : Sig := Ag Aji Ajj (Mm k)
noncomputable def Ajh (k : Nat) : (List (Int)) → Option Bool
 | a0 => ((W0 k) (a0)).bind fun o1 => some (decide (o1 ≥ (0 : Int)))
theorem A2r (k : Nat) (x : (List (Int))) : Mm k x = Ajh k x := (Ae _ _).trans (by kernel_rfl)
theorem Ay8 (k : Nat) : Ac Tryz.prog 64 (Aux k) := Aj (Ajg k) k rfl ⟨⟨Az2 k, trivial⟩, trivial⟩ Ad Tryz.func64 (by kernel_rfl)
def fplannumsi : Sk := ⟨[.lf (.pv (.slice (.int .i64)))], [], []⟩
def fplannumso : Sk := ⟨[.lf (.pv .bool)], [], []⟩
def A7o (k : Nat) : EnvL := [(64, [Aux k])]
def Aoz (k : Nat) : Cfg := mkC (A7o k) 54 0 0
def cplannums (k : Nat) : (List (Int)) → Option Bool := hid (Ah (Aoz k) k Tryz.f42 fplannumsi fplannumso)
def sgplannums (k : Nat) : Sig := Ag fplannumsi fplannumso (cplannums k)
noncomputable def Ao4 (k : Nat) : (List (Int)) → Option Bool
 | a0 => ((Mm k) (a0)).bind fun o1 => some (!o1)
theorem A7q (k : Nat) (x : (List (Int))) : cplannums k x = Ao4 k x := (Ae _ _).trans (by kernel_rfl)
theorem Rj (k : Nat) : Ac Tryz.prog 42 (sgplannums k) := Aj (Aoz k) k rfl ⟨⟨Ay8 k, trivial⟩, trivial⟩ Ad Tryz.func42 (by kernel_rfl)
abbrev H76 : Type := (Int) × (List Int) × (Int) × (Int)
def Al2 : Sk := ⟨[.agg [.pv (.int .i64), .pv .str, .pv (.int .i64), .pv (.int .i64)]], [], []⟩
def Al3 : Sk := ⟨[.lf (.pv .bool)], [], []⟩
def A5p (k : Nat) : EnvL := [(9, [Af8 k])]
def Al0 (k : Nat) : Cfg := { mkC (A5p k) 78 0 0 with bl := [66, 68] }
def Q3 (k : Nat) : H76 → Option Bool := hid (Ah (Al0 k) k Tryz.f93 Al2 Al3)
def Avr (k : Nat) : Sig := Ag Al2 Al3 (Q3 k)
noncomputable def Al1 (k : Nat) : H76 → Option Bool
 | (a0, a1, a2, a3) => ((M0 k) (a1)).bind fun o1 => bif (o1.1 == (0 : Int)) then (bif (((List.length o1.2.2 : Nat) : Int) == (2 : Int)) then (bif (inB (0 : Int) (List.length o1.2.2)) then some ((eqI (rdA zt0 o1.2.2 (Int.toNat (0 : Int))).1 a0) && ((eqS (rdA zt0 o1.2.2 (Int.toNat (0 : Int))).2.1 a1) && ((eqI (rdA zt0 o1.2.2 (Int.toNat (0 : Int))).2.2.1 a2) && ((eqI (rdA zt0 o1.2.2 (Int.toNat (0 : Int))).2.2.2.1 (0 : Int)) && true)))) else none) else (some false)) else (some false)
theorem A5q (k : Nat) (x : H76) : Q3 k x = Al1 k x := (Ae _ _).trans (by kernel_rfl)
theorem Az5 (k : Nat) : Ac Tryz.prog 93 (Avr k) := Aj (Al0 k) k rfl ⟨⟨Ah1 k, trivial⟩, trivial⟩ Ad Tryz.func93 (by kernel_rfl)
def fplannamedi : Sk := ⟨[.lf (.pv .str)], [], []⟩
def fplannamedo : Sk := ⟨[.lf (.pv .bool)], [], []⟩
def A7m (k : Nat) : EnvL := [(93, [Avr k]), (83, [Af7 k])]
def Aox (k : Nat) : Cfg := mkC (A7m k) 59 0 0
def cplannamed (k : Nat) : (List Int) → Option Bool := hid (Ah (Aox k) k Tryz.f67 fplannamedi fplannamedo)
def sgplannamed (k : Nat) : Sig := Ag fplannamedi fplannamedo (cplannamed k)
noncomputable def Aoy (k : Nat) : (List Int) → Option Bool
 | a0 => ((Q3 k) ((1 : Int), a0, (0 : Int), (0 : Int))).bind fun o1 => bif o1 then (((Mz k) (a0)).bind fun o2 => some (!o2)) else (some false)
theorem A7n (k : Nat) (x : (List Int)) : cplannamed k x = Aoy k x := (Ae _ _).trans (by kernel_rfl)
theorem Xa (k : Nat) : Ac Tryz.prog 67 (sgplannamed k) := Aj (Aox k) k rfl ⟨⟨Az5 k, trivial⟩, ⟨Ah0 k, trivial⟩, trivial⟩ Ad Tryz.func67 (by kernel_rfl)
abbrev H77 : Type := (List Int) × (Int) × (Int)
def An5 : Sk := ⟨[.agg [.pv .str, .pv (.int .i64), .pv (.int .i64)]], [], []⟩
def An6 : Sk := ⟨[.lf (.pv .bool)], [], []⟩
def A64 (k : Nat) : EnvL := [(67, [sgplannamed k]), (42, [sgplannums k])]
def An3 (k : Nat) : Cfg := { mkC (A64 k) 64 0 0 with bl := [66, 68] }
def Nd (k : Nat) : H77 → Option Bool := hid (Ah (An3 k) k Tryz.f138 An5 An6)
def Av8 (k : Nat) : Sig := Ag An5 An6 (Nd k)
noncomputable def An4 (k : Nat) : H77 → Option Bool
 | (a0, a1, a2) => ((cplannamed k) (a0)).bind fun o1 => bif (!o1) then (some true) else (((cplannums k) (([a1, a2] : List (Int)))).bind fun o2 => some (!o2))
theorem A65 (k : Nat) (x : H77) : Nd k x = An4 k x := (Ae _ _).trans (by kernel_rfl)
theorem A0r (k : Nat) : Ac Tryz.prog 138 (Av8 k) := Aj (An3 k) k rfl ⟨⟨Xa k, trivial⟩, ⟨Rj k, trivial⟩, trivial⟩ Ad Tryz.func138 (by kernel_rfl)
abbrev H78 : Type := (List (YT1)) × (Int) × (Int)
def Aao : Sk := ⟨[.lf (.pv (.slice yt1)), .lf (.fn 138 [] [])], [], []⟩
def Aap : Sk := ⟨[.lf (.pv (.int .i64))], [], []⟩
def Alo : Sk := ⟨sparse 19 [(0, .lf (.pv (.slice yt1))), (1, .lf (.fn 138 [] [])), (7, .lf (.pv (.int .i64))), (8, .lf (.pv (.int .i64)))], [], []⟩
abbrev Aam := H78
def Ok : Aam → St := stOf Alo 67
def A48 (k : Nat) : EnvL := [(138, [Av8 k])]
def E1 (k : Nat) : FnX Int := mkX ({ mkC (A48 k) 67 0 0 with hint := fun i => look none [(2, some Alo)] i }) k Tryz.f149 Aap
def Wz (k : Nat) : (List (YT1)) → Option Int := hid (Ah (E1 k).C k Tryz.f149 Aao Aap)
def Avo (k : Nat) : Sig := Ag Aao Aap (Wz k)
noncomputable def Aan (k : Nat) (J : JF Int) (L : LF Int) : (List (YT1)) → Option Int
 | a0 => L 2 [] k (Ok (a0, ((List.length a0 : Nat) : Int), (0 : Int)))
theorem A49 (k : Nat) (x : (List (YT1))) : Wz k x = Aan k (E1 k).J (E1 k).L x := by
 refine (Ae _ _).trans ?_; apply cutX (E1 k) [] [] (st0 (E1 k).C Tryz.f149 Aao x) [] [(2, [], k)] (Aan k · · x) <;> intros <;> kernel_rfl
noncomputable def Alp (k j2 : Nat) (J : JF Int) (L : LF Int) : Aam → Option Int
 | (a0, a1, a2) => bif (decide (a2 < a1)) then (idx zt1 a0 a2 fun o1 => ((Nd k) (o1.1, o1.2.1, o1.2.2.1)).bind fun o2 => bif o2 then (some a2) else (L 2 [] j2 (Ok (a0, a1, (IntKind.wrap .i64 (a2 + (1 : Int))))))) else (some (-1 : Int))
theorem A5a (k j2 : Nat) (x : Aam) : (E1 k).L 2 [] (j2 + 1) (Ok x) = Alp k j2 (E1 k).J (E1 k).L x := by
 apply cutX (E1 k) [.r, .l, .r, .b, .b] [j2] (Ok x) [] [(2, [], j2)] (Alp k j2 · · x) <;> intros <;> kernel_rfl
theorem Az1 (k : Nat) : Ac Tryz.prog 149 (Avo k) := Aj (E1 k).C k rfl ⟨⟨A0r k, trivial⟩, trivial⟩ Ad Tryz.func149 (by kernel_rfl)
def Aje : Sk := ⟨[.lf (.pv (.slice yt1)), .lf (.fn 138 [] [])], [], []⟩
def Ajf : Sk := ⟨[.lf (.pv .bool)], [], []⟩
def A2o (k : Nat) : EnvL := [(149, [Avo k])]
def Ajc (k : Nat) : Cfg := mkC (A2o k) 57 0 0
def Ml (k : Nat) : (List (YT1)) → Option Bool := hid (Ah (Ajc k) k Tryz.f147 Aje Ajf)
def Auw (k : Nat) : Sig := Ag Aje Ajf (Ml k)
noncomputable def Ajd (k : Nat) : (List (YT1)) → Option Bool
 | a0 => ((Wz k) (a0)).bind fun o1 => some (decide (o1 ≥ (0 : Int)))
theorem A2p (k : Nat) (x : (List (YT1))) : Ml k x = Ajd k x := (Ae _ _).trans (by kernel_rfl)
theorem Ay7 (k : Nat) : Ac Tryz.prog 147 (Auw k) := Aj (Ajc k) k rfl ⟨⟨Az1 k, trivial⟩, trivial⟩ Ad Tryz.func147 (by kernel_rfl)
def Aop : Sk := ⟨[.lf (.pv (.slice yt1)), .lf (.pv (.int .i64)), .lf (.pv (.int .i64)), .lf (.fn 138 [] [])], [], []⟩
def Aoq : Sk := ⟨[.lf (.pv .bool)], [], []⟩
def A7e (k : Nat) : EnvL := [(147, [Auw k])]
def Aon (k : Nat) : Cfg := mkC (A7e k) 72 0 0
def Re (k : Nat) : H78 → Option Bool := hid (Ah (Aon k) k Tryz.f137 Aop Aoq)
def Awd (k : Nat) : Sig := Ag Aop Aoq (Re k)
noncomputable def Aoo (k : Nat) : H78 → Option Bool
 | (a0, a1, a2) => bif (decide (((List.length a0 : Nat) : Int) < a1)) then (some true) else (bif (decide (((List.length a0 : Nat) : Int) > a2)) then (some true) else (((Ml k) (a0)).bind fun o1 => some o1))
theorem A7f (k : Nat) (x : H78) : Re k x = Aoo k x := (Ae _ _).trans (by kernel_rfl)
theorem A0w (k : Nat) : Ac Tryz.prog 137 (Awd k) := Aj (Aon k) k rfl ⟨⟨Ay7 k, trivial⟩, trivial⟩ Ad Tryz.func137 (by kernel_rfl)
abbrev H79 : Type := (List Int) × (Int) × (Int) × (Int) × (List (YT1))
def Ans : Sk := ⟨[.agg [.pv .str, .pv (.int .i64), .pv (.int .i64), .pv (.int .i64), .pv (.slice yt1)]], [], []⟩
def Ant : Sk := ⟨[.lf (.pv .bool)], [], []⟩
def A6y (k : Nat) : EnvL := [(67, [sgplannamed k]), (42, [sgplannums k]), (137, [Awd k])]
def Anq (k : Nat) : Cfg := { mkC (A6y k) 71 0 0 with bl := [66, 68] }
def Na (k : Nat) : H79 → Option Bool := hid (Ah (Anq k) k Tryz.f118 Ans Ant)
def Av5 (k : Nat) : Sig := Ag Ans Ant (Na k)
noncomputable def Anr (k : Nat) : H79 → Option Bool
 | (a0, a1, a2, a3, a4) => ((cplannamed k) (a0)).bind fun o1 => bif (!o1) then (some true) else (((cplannums k) (([a1, a2, a3] : List (Int)))).bind fun o2 => bif (!o2) then (some true) else (((Re k) (a4, (0 : Int), (8 : Int))).bind fun o3 => some o3))
theorem A6z (k : Nat) (x : H79) : Na k x = Anr k x := (Ae _ _).trans (by kernel_rfl)
theorem A0o (k : Nat) : Ac Tryz.prog 118 (Av5 k) := Aj (Anq k) k rfl ⟨⟨Xa k, trivial⟩, ⟨Rj k, trivial⟩, ⟨A0w k, trivial⟩, trivial⟩ Ad Tryz.func118 (by kernel_rfl)
abbrev H80 : Type := (List (YT2)) × (Int) × (Int)
def Aac : Sk := ⟨[.lf (.pv (.slice yt2)), .lf (.fn 118 [] [])], [], []⟩
def Aad : Sk := ⟨[.lf (.pv (.int .i64))], [], []⟩
def Ali : Sk := ⟨sparse 19 [(0, .lf (.pv (.slice yt2))), (1, .lf (.fn 118 [] [])), (7, .lf (.pv (.int .i64))), (8, .lf (.pv (.int .i64)))], [], []⟩
abbrev Aaa := H80
def Oh : Aaa → St := stOf Ali 67
def A4z (k : Nat) : EnvL := [(118, [Av5 k])]
def Ey (k : Nat) : FnX Int := mkX ({ mkC (A4z k) 67 0 0 with hint := fun i => look none [(2, some Ali)] i }) k Tryz.f146 Aad
def Ww (k : Nat) : (List (YT2)) → Option Int := hid (Ah (Ey k).C k Tryz.f146 Aac Aad)
def Avl (k : Nat) : Sig := Ag Aac Aad (Ww k)
noncomputable def Aab (k : Nat) (J : JF Int) (L : LF Int) : (List (YT2)) → Option Int
 | a0 => L 2 [] k (Oh (a0, ((List.length a0 : Nat) : Int), (0 : Int)))
theorem A40 (k : Nat) (x : (List (YT2))) : Ww k x = Aab k (Ey k).J (Ey k).L x := by
 refine (Ae _ _).trans ?_; apply cutX (Ey k) [] [] (st0 (Ey k).C Tryz.f146 Aac x) [] [(2, [], k)] (Aab k · · x) <;> intros <;> kernel_rfl
noncomputable def Alj (k j2 : Nat) (J : JF Int) (L : LF Int) : Aaa → Option Int
 | (a0, a1, a2) => bif (decide (a2 < a1)) then (idx zt2 a0 a2 fun o1 => ((Na k) (o1.1, o1.2.1, o1.2.2.1, o1.2.2.2.1, o1.2.2.2.2.1)).bind fun o2 => bif o2 then (some a2) else (L 2 [] j2 (Oh (a0, a1, (IntKind.wrap .i64 (a2 + (1 : Int))))))) else (some (-1 : Int))
theorem A41 (k j2 : Nat) (x : Aaa) : (Ey k).L 2 [] (j2 + 1) (Oh x) = Alj k j2 (Ey k).J (Ey k).L x := by
 apply cutX (Ey k) [.r, .l, .r, .b, .b] [j2] (Oh x) [] [(2, [], j2)] (Alj k j2 · · x) <;> intros <;> kernel_rfl
theorem Azy (k : Nat) : Ac Tryz.prog 146 (Avl k) := Aj (Ey k).C k rfl ⟨⟨A0o k, trivial⟩, trivial⟩ Ad Tryz.func146 (by kernel_rfl)
def Ai2 : Sk := ⟨[.lf (.pv (.slice yt2)), .lf (.fn 118 [] [])], [], []⟩
def Ai3 : Sk := ⟨[.lf (.pv .bool)], [], []⟩
def A2i (k : Nat) : EnvL := [(146, [Avl k])]
def Ai0 (k : Nat) : Cfg := mkC (A2i k) 57 0 0
def Mi (k : Nat) : (List (YT2)) → Option Bool := hid (Ah (Ai0 k) k Tryz.f136 Ai2 Ai3)
def Aut (k : Nat) : Sig := Ag Ai2 Ai3 (Mi k)
noncomputable def Ai1 (k : Nat) : (List (YT2)) → Option Bool
 | a0 => ((Ww k) (a0)).bind fun o1 => some (decide (o1 ≥ (0 : Int)))
theorem A2j (k : Nat) (x : (List (YT2))) : Mi k x = Ai1 k x := (Ae _ _).trans (by kernel_rfl)
theorem Ay4 (k : Nat) : Ac Tryz.prog 136 (Aut k) := Aj (Ai0 k) k rfl ⟨⟨Azy k, trivial⟩, trivial⟩ Ad Tryz.func136 (by kernel_rfl)
def Aod : Sk := ⟨[.lf (.pv (.slice yt2)), .lf (.pv (.int .i64)), .lf (.pv (.int .i64)), .lf (.fn 118 [] [])], [], []⟩
def Aoe : Sk := ⟨[.lf (.pv .bool)], [], []⟩
def A68 (k : Nat) : EnvL := [(136, [Aut k])]
def Aob (k : Nat) : Cfg := mkC (A68 k) 72 0 0
def W7 (k : Nat) : H80 → Option Bool := hid (Ah (Aob k) k Tryz.f117 Aod Aoe)
def Awa (k : Nat) : Sig := Ag Aod Aoe (W7 k)
noncomputable def Aoc (k : Nat) : H80 → Option Bool
 | (a0, a1, a2) => bif (decide (((List.length a0 : Nat) : Int) < a1)) then (some true) else (bif (decide (((List.length a0 : Nat) : Int) > a2)) then (some true) else (((Mi k) (a0)).bind fun o1 => some o1))
theorem A69 (k : Nat) (x : H80) : W7 k x = Aoc k x := (Ae _ _).trans (by kernel_rfl)
theorem A0t (k : Nat) : Ac Tryz.prog 117 (Awa k) := Aj (Aob k) k rfl ⟨⟨Ay4 k, trivial⟩, trivial⟩ Ad Tryz.func117 (by kernel_rfl)
def Ano : Sk := ⟨[.lf (.pv (.slice yt2))], [], []⟩
def Anp : Sk := ⟨[.lf (.pv .bool)], [], []⟩
def A6w (k : Nat) : EnvL := [(117, [Awa k])]
def Anm (k : Nat) : Cfg := mkC (A6w k) 53 0 0
def M9 (k : Nat) : (List (YT2)) → Option Bool := hid (Ah (Anm k) k Tryz.f96 Ano Anp)
def Av4 (k : Nat) : Sig := Ag Ano Anp (M9 k)
noncomputable def Ann (k : Nat) : (List (YT2)) → Option Bool
 | a0 => ((W7 k) (a0, (1 : Int), (4 : Int))).bind fun o1 => some o1
theorem A6x (k : Nat) (x : (List (YT2))) : M9 k x = Ann k x := (Ae _ _).trans (by kernel_rfl)
theorem A0n (k : Nat) : Ac Tryz.prog 96 (Av4 k) := Aj (Anm k) k rfl ⟨⟨A0t k, trivial⟩, trivial⟩ Ad Tryz.func96 (by kernel_rfl)
abbrev H81 : Type := (List (List (YT2))) × (Int) × (Int)
def Z8 : Sk := ⟨[.lf (.pv (.slice (.slice yt2))), .lf (.fn 96 [] [])], [], []⟩
def Z9 : Sk := ⟨[.lf (.pv (.int .i64))], [], []⟩
def Alg : Sk := ⟨sparse 19 [(0, .lf (.pv (.slice (.slice yt2)))), (1, .lf (.fn 96 [] [])), (7, .lf (.pv (.int .i64))), (8, .lf (.pv (.int .i64)))], [], []⟩
abbrev Z6 := H81
def Og : Z6 → St := stOf Alg 67
def A4w (k : Nat) : EnvL := [(96, [Av4 k])]
def Ex (k : Nat) : FnX Int := mkX ({ mkC (A4w k) 67 0 0 with hint := fun i => look none [(2, some Alg)] i }) k Tryz.f135 Z9
def Wv (k : Nat) : (List (List (YT2))) → Option Int := hid (Ah (Ex k).C k Tryz.f135 Z8 Z9)
def Avk (k : Nat) : Sig := Ag Z8 Z9 (Wv k)
noncomputable def Z7 (k : Nat) (J : JF Int) (L : LF Int) : (List (List (YT2))) → Option Int
 | a0 => L 2 [] k (Og (a0, ((List.length a0 : Nat) : Int), (0 : Int)))
theorem A4x (k : Nat) (x : (List (List (YT2)))) : Wv k x = Z7 k (Ex k).J (Ex k).L x := by
 refine (Ae _ _).trans ?_; apply cutX (Ex k) [] [] (st0 (Ex k).C Tryz.f135 Z8 x) [] [(2, [], k)] (Z7 k · · x) <;> intros <;> kernel_rfl
noncomputable def Alh (k j2 : Nat) (J : JF Int) (L : LF Int) : Z6 → Option Int
 | (a0, a1, a2) => bif (decide (a2 < a1)) then (idx [] a0 a2 fun o1 => ((M9 k) (o1)).bind fun o2 => bif o2 then (some a2) else (L 2 [] j2 (Og (a0, a1, (IntKind.wrap .i64 (a2 + (1 : Int))))))) else (some (-1 : Int))
theorem A4y (k j2 : Nat) (x : Z6) : (Ex k).L 2 [] (j2 + 1) (Og x) = Alh k j2 (Ex k).J (Ex k).L x := by
 apply cutX (Ex k) [.r, .l, .r, .b, .b] [j2] (Og x) [] [(2, [], j2)] (Alh k j2 · · x) <;> intros <;> kernel_rfl
theorem Azx (k : Nat) : Ac Tryz.prog 135 (Avk k) := Aj (Ex k).C k rfl ⟨⟨A0n k, trivial⟩, trivial⟩ Ad Tryz.func135 (by kernel_rfl)
def Aiy : Sk := ⟨[.lf (.pv (.slice (.slice yt2))), .lf (.fn 96 [] [])], [], []⟩
def Aiz : Sk := ⟨[.lf (.pv .bool)], [], []⟩
def A2g (k : Nat) : EnvL := [(135, [Avk k])]
def Aiw (k : Nat) : Cfg := mkC (A2g k) 57 0 0
def Mh (k : Nat) : (List (List (YT2))) → Option Bool := hid (Ah (Aiw k) k Tryz.f116 Aiy Aiz)
def Aus (k : Nat) : Sig := Ag Aiy Aiz (Mh k)
noncomputable def Aix (k : Nat) : (List (List (YT2))) → Option Bool
 | a0 => ((Wv k) (a0)).bind fun o1 => some (decide (o1 ≥ (0 : Int)))
theorem A2h (k : Nat) (x : (List (List (YT2)))) : Mh k x = Aix k x := (Ae _ _).trans (by kernel_rfl)
theorem Ay3 (k : Nat) : Ac Tryz.prog 116 (Aus k) := Aj (Aiw k) k rfl ⟨⟨Azx k, trivial⟩, trivial⟩ Ad Tryz.func116 (by kernel_rfl)
def An9 : Sk := ⟨[.lf (.pv (.slice (.slice yt2))), .lf (.pv (.int .i64)), .lf (.pv (.int .i64)), .lf (.fn 96 [] [])], [], []⟩
def Aoa : Sk := ⟨[.lf (.pv .bool)], [], []⟩
def A66 (k : Nat) : EnvL := [(116, [Aus k])]
def An7 (k : Nat) : Cfg := mkC (A66 k) 72 0 0
def W6 (k : Nat) : H81 → Option Bool := hid (Ah (An7 k) k Tryz.f95 An9 Aoa)
def Av9 (k : Nat) : Sig := Ag An9 Aoa (W6 k)
noncomputable def An8 (k : Nat) : H81 → Option Bool
 | (a0, a1, a2) => bif (decide (((List.length a0 : Nat) : Int) < a1)) then (some true) else (bif (decide (((List.length a0 : Nat) : Int) > a2)) then (some true) else (((Mh k) (a0)).bind fun o1 => some o1))
theorem A67 (k : Nat) (x : H81) : W6 k x = An8 k x := (Ae _ _).trans (by kernel_rfl)
theorem A0s (k : Nat) : Ac Tryz.prog 95 (Av9 k) := Aj (An7 k) k rfl ⟨⟨Ay3 k, trivial⟩, trivial⟩ Ad Tryz.func95 (by kernel_rfl)
def Anw : Sk := ⟨[.agg [.pv (.slice (.slice yt2))]], [], []⟩
def Anx : Sk := ⟨[.lf (.pv .bool)], [], []⟩
def A60 (k : Nat) : EnvL := [(95, [Av9 k])]
def Anu (k : Nat) : Cfg := { mkC (A60 k) 54 0 0 with bl := [66, 68] }
def Nb (k : Nat) : (List (List (YT2))) → Option Bool := hid (Ah (Anu k) k Tryz.f69 Anw Anx)
def Av6 (k : Nat) : Sig := Ag Anw Anx (Nb k)
noncomputable def Anv (k : Nat) : (List (List (YT2))) → Option Bool
 | a0 => ((W6 k) (a0, (1 : Int), (2 : Int))).bind fun o1 => some o1
theorem A61 (k : Nat) (x : (List (List (YT2)))) : Nb k x = Anv k x := (Ae _ _).trans (by kernel_rfl)
theorem A0p (k : Nat) : Ac Tryz.prog 69 (Av6 k) := Aj (Anu k) k rfl ⟨⟨A0s k, trivial⟩, trivial⟩ Ad Tryz.func69 (by kernel_rfl)
abbrev H82 : Type := (List ((List (List (YT2))) × (Unit))) × (Int) × (Int)
abbrev H83 : Type := List ((List (List (YT2))) × (Unit))
def Aag : Sk := ⟨[.lf (.pv (.slice (.cons (.slice (.slice yt2)) .nil))), .lf (.fn 69 [] [])], [], []⟩
def Aah : Sk := ⟨[.lf (.pv (.int .i64))], [], []⟩
def Alk : Sk := ⟨sparse 19 [(0, .lf (.pv (.slice (.cons (.slice (.slice yt2)) .nil)))), (1, .lf (.fn 69 [] [])), (7, .lf (.pv (.int .i64))), (8, .lf (.pv (.int .i64)))], [], []⟩
abbrev Aae := H82
def Oi : Aae → St := stOf Alk 67
def A42 (k : Nat) : EnvL := [(69, [Av6 k])]
def Ez (k : Nat) : FnX Int := mkX ({ mkC (A42 k) 67 0 0 with hint := fun i => look none [(2, some Alk)] i }) k Tryz.f115 Aah
def Wx (k : Nat) : H83 → Option Int := hid (Ah (Ez k).C k Tryz.f115 Aag Aah)
def Avm (k : Nat) : Sig := Ag Aag Aah (Wx k)
noncomputable def Aaf (k : Nat) (J : JF Int) (L : LF Int) : H83 → Option Int
 | a0 => L 2 [] k (Oi (a0, ((List.length a0 : Nat) : Int), (0 : Int)))
theorem A43 (k : Nat) (x : H83) : Wx k x = Aaf k (Ez k).J (Ez k).L x := by
 refine (Ae _ _).trans ?_; apply cutX (Ez k) [] [] (st0 (Ez k).C Tryz.f115 Aag x) [] [(2, [], k)] (Aaf k · · x) <;> intros <;> kernel_rfl
noncomputable def All (k j2 : Nat) (J : JF Int) (L : LF Int) : Aae → Option Int
 | (a0, a1, a2) => bif (decide (a2 < a1)) then (idx ([], ()) a0 a2 fun o1 => ((Nb k) (o1.1)).bind fun o2 => bif o2 then (some a2) else (L 2 [] j2 (Oi (a0, a1, (IntKind.wrap .i64 (a2 + (1 : Int))))))) else (some (-1 : Int))
theorem A44 (k j2 : Nat) (x : Aae) : (Ez k).L 2 [] (j2 + 1) (Oi x) = All k j2 (Ez k).J (Ez k).L x := by
 apply cutX (Ez k) [.r, .l, .r, .b, .b] [j2] (Oi x) [] [(2, [], j2)] (All k j2 · · x) <;> intros <;> kernel_rfl
theorem Azz (k : Nat) : Ac Tryz.prog 115 (Avm k) := Aj (Ez k).C k rfl ⟨⟨A0p k, trivial⟩, trivial⟩ Ad Tryz.func115 (by kernel_rfl)
def Ai6 : Sk := ⟨[.lf (.pv (.slice (.cons (.slice (.slice yt2)) .nil))), .lf (.fn 69 [] [])], [], []⟩
def Ai7 : Sk := ⟨[.lf (.pv .bool)], [], []⟩
def A2k (k : Nat) : EnvL := [(115, [Avm k])]
def Ai4 (k : Nat) : Cfg := mkC (A2k k) 57 0 0
def Mj (k : Nat) : H83 → Option Bool := hid (Ah (Ai4 k) k Tryz.f94 Ai6 Ai7)
def Auu (k : Nat) : Sig := Ag Ai6 Ai7 (Mj k)
noncomputable def Ai5 (k : Nat) : H83 → Option Bool
 | a0 => ((Wx k) (a0)).bind fun o1 => some (decide (o1 ≥ (0 : Int)))
theorem A2l (k : Nat) (x : H83) : Mj k x = Ai5 k x := (Ae _ _).trans (by kernel_rfl)
theorem Ay5 (k : Nat) : Ac Tryz.prog 94 (Auu k) := Aj (Ai4 k) k rfl ⟨⟨Azz k, trivial⟩, trivial⟩ Ad Tryz.func94 (by kernel_rfl)
def Aoh : Sk := ⟨[.lf (.pv (.slice (.cons (.slice (.slice yt2)) .nil))), .lf (.pv (.int .i64)), .lf (.pv (.int .i64)), .lf (.fn 69 [] [])], [], []⟩
def Aoi : Sk := ⟨[.lf (.pv .bool)], [], []⟩
def A7a (k : Nat) : EnvL := [(94, [Auu k])]
def Aof (k : Nat) : Cfg := mkC (A7a k) 72 0 0
def W8 (k : Nat) : H82 → Option Bool := hid (Ah (Aof k) k Tryz.f68 Aoh Aoi)
def Awb (k : Nat) : Sig := Ag Aoh Aoi (W8 k)
noncomputable def Aog (k : Nat) : H82 → Option Bool
 | (a0, a1, a2) => bif (decide (((List.length a0 : Nat) : Int) < a1)) then (some true) else (bif (decide (((List.length a0 : Nat) : Int) > a2)) then (some true) else (((Mj k) (a0)).bind fun o1 => some o1))
theorem A7b (k : Nat) (x : H82) : W8 k x = Aog k x := (Ae _ _).trans (by kernel_rfl)
theorem A0u (k : Nat) : Ac Tryz.prog 68 (Awb k) := Aj (Aof k) k rfl ⟨⟨Ay5 k, trivial⟩, trivial⟩ Ad Tryz.func68 (by kernel_rfl)
abbrev H84 : Type := (List Int) × (Int) × (List ((List (List (YT2))) × (Unit))) × (Int) × (Int)
def An1 : Sk := ⟨[.agg [.pv .str, .pv (.int .i64), .pv (.slice (.cons (.slice (.slice yt2)) .nil)), .pv (.int .i64), .pv (.int .i64)]], [], []⟩
def An2 : Sk := ⟨[.lf (.pv .bool)], [], []⟩
def A62 (k : Nat) : EnvL := [(67, [sgplannamed k]), (42, [sgplannums k]), (68, [Awb k])]
def Anz (k : Nat) : Cfg := { mkC (A62 k) 73 0 0 with bl := [66, 68] }
def Nc (k : Nat) : H84 → Option Bool := hid (Ah (Anz k) k Tryz.f44 An1 An2)
def Av7 (k : Nat) : Sig := Ag An1 An2 (Nc k)
noncomputable def An0 (k : Nat) : H84 → Option Bool
 | (a0, a1, a2, a3, a4) => ((cplannamed k) (a0)).bind fun o1 => bif (!o1) then (some true) else (((cplannums k) (([a1, a3, a4] : List (Int)))).bind fun o2 => bif (!o2) then (some true) else (((W8 k) (a2, (0 : Int), (4 : Int))).bind fun o3 => some o3))
theorem A63 (k : Nat) (x : H84) : Nc k x = An0 k x := (Ae _ _).trans (by kernel_rfl)
theorem A0q (k : Nat) : Ac Tryz.prog 44 (Av7 k) := Aj (Anz k) k rfl ⟨⟨Xa k, trivial⟩, ⟨Rj k, trivial⟩, ⟨A0u k, trivial⟩, trivial⟩ Ad Tryz.func44 (by kernel_rfl)
abbrev H85 : Type := (List (YT4)) × (Int) × (Int)
def Aak : Sk := ⟨[.lf (.pv (.slice yt4)), .lf (.fn 44 [] [])], [], []⟩
def Aal : Sk := ⟨[.lf (.pv (.int .i64))], [], []⟩
def Alm : Sk := ⟨sparse 19 [(0, .lf (.pv (.slice yt4))), (1, .lf (.fn 44 [] [])), (7, .lf (.pv (.int .i64))), (8, .lf (.pv (.int .i64)))], [], []⟩
abbrev Aai := H85
def Oj : Aai → St := stOf Alm 67
def A45 (k : Nat) : EnvL := [(44, [Av7 k])]
def E0 (k : Nat) : FnX Int := mkX ({ mkC (A45 k) 67 0 0 with hint := fun i => look none [(2, some Alm)] i }) k Tryz.f92 Aal
def Wy (k : Nat) : (List (YT4)) → Option Int := hid (Ah (E0 k).C k Tryz.f92 Aak Aal)
def Avn (k : Nat) : Sig := Ag Aak Aal (Wy k)
noncomputable def Aaj (k : Nat) (J : JF Int) (L : LF Int) : (List (YT4)) → Option Int
 | a0 => L 2 [] k (Oj (a0, ((List.length a0 : Nat) : Int), (0 : Int)))
theorem A46 (k : Nat) (x : (List (YT4))) : Wy k x = Aaj k (E0 k).J (E0 k).L x := by
 refine (Ae _ _).trans ?_; apply cutX (E0 k) [] [] (st0 (E0 k).C Tryz.f92 Aak x) [] [(2, [], k)] (Aaj k · · x) <;> intros <;> kernel_rfl
noncomputable def Aln (k j2 : Nat) (J : JF Int) (L : LF Int) : Aai → Option Int
 | (a0, a1, a2) => bif (decide (a2 < a1)) then (idx zt4 a0 a2 fun o1 => ((Nc k) (o1.1, o1.2.1, o1.2.2.1, o1.2.2.2.1.1, o1.2.2.2.1.2.1)).bind fun o2 => bif o2 then (some a2) else (L 2 [] j2 (Oj (a0, a1, (IntKind.wrap .i64 (a2 + (1 : Int))))))) else (some (-1 : Int))
theorem A47 (k j2 : Nat) (x : Aai) : (E0 k).L 2 [] (j2 + 1) (Oj x) = Aln k j2 (E0 k).J (E0 k).L x := by
 apply cutX (E0 k) [.r, .l, .r, .b, .b] [j2] (Oj x) [] [(2, [], j2)] (Aln k j2 · · x) <;> intros <;> kernel_rfl
theorem Az0 (k : Nat) : Ac Tryz.prog 92 (Avn k) := Aj (E0 k).C k rfl ⟨⟨A0q k, trivial⟩, trivial⟩ Ad Tryz.func92 (by kernel_rfl)
def Aja : Sk := ⟨[.lf (.pv (.slice yt4)), .lf (.fn 44 [] [])], [], []⟩
def Ajb : Sk := ⟨[.lf (.pv .bool)], [], []⟩
def A2m (k : Nat) : EnvL := [(92, [Avn k])]
def Ai8 (k : Nat) : Cfg := mkC (A2m k) 57 0 0
def Mk (k : Nat) : (List (YT4)) → Option Bool := hid (Ah (Ai8 k) k Tryz.f66 Aja Ajb)
def Auv (k : Nat) : Sig := Ag Aja Ajb (Mk k)
noncomputable def Ai9 (k : Nat) : (List (YT4)) → Option Bool
 | a0 => ((Wy k) (a0)).bind fun o1 => some (decide (o1 ≥ (0 : Int)))
theorem A2n (k : Nat) (x : (List (YT4))) : Mk k x = Ai9 k x := (Ae _ _).trans (by kernel_rfl)
theorem Ay6 (k : Nat) : Ac Tryz.prog 66 (Auv k) := Aj (Ai8 k) k rfl ⟨⟨Az0 k, trivial⟩, trivial⟩ Ad Tryz.func66 (by kernel_rfl)
def Aol : Sk := ⟨[.lf (.pv (.slice yt4)), .lf (.pv (.int .i64)), .lf (.pv (.int .i64)), .lf (.fn 44 [] [])], [], []⟩
def Aom : Sk := ⟨[.lf (.pv .bool)], [], []⟩
def A7c (k : Nat) : EnvL := [(66, [Auv k])]
def Aoj (k : Nat) : Cfg := mkC (A7c k) 72 0 0
def W9 (k : Nat) : H85 → Option Bool := hid (Ah (Aoj k) k Tryz.f43 Aol Aom)
def Awc (k : Nat) : Sig := Ag Aol Aom (W9 k)
noncomputable def Aok (k : Nat) : H85 → Option Bool
 | (a0, a1, a2) => bif (decide (((List.length a0 : Nat) : Int) < a1)) then (some true) else (bif (decide (((List.length a0 : Nat) : Int) > a2)) then (some true) else (((Mk k) (a0)).bind fun o1 => some o1))
theorem A7d (k : Nat) (x : H85) : W9 k x = Aok k x := (Ae _ _).trans (by kernel_rfl)
theorem A0v (k : Nat) : Ac Tryz.prog 43 (Awc k) := Aj (Aoj k) k rfl ⟨⟨Ay6 k, trivial⟩, trivial⟩ Ad Tryz.func43 (by kernel_rfl)
end
noncomputable section
def Ank : Sk := ⟨[.agg [.pv (.int .i64), .pv (.slice yt4), .pv (.int .i64), .pv (.int .i64), .pv (.int .i64), .pv (.int .i64), .pv .bool, .pv (.int .i64)]], [], []⟩
def Anl : Sk := ⟨[.lf (.pv .bool)], [], []⟩
def A6u (k : Nat) : EnvL := [(42, [sgplannums k]), (43, [Awc k])]
def Ani (k : Nat) : Cfg := { mkC (A6u k) 75 0 0 with bl := [66, 68] }
def Rd (k : Nat) : H53 → Option Bool := hid (Ah (Ani k) k Tryz.f18 Ank Anl)
def Av3 (k : Nat) : Sig := Ag Ank Anl (Rd k)
noncomputable def Anj (k : Nat) : H53 → Option Bool
 | (a0, a1, a2, a3, a4, a5, a6, a7) => ((cplannums k) (([a0, a2, a3, a4, a5, a7] : List (Int)))).bind fun o1 => bif o1 then (((W9 k) (a1, (0 : Int), (12 : Int))).bind fun o2 => some (!o2)) else (some false)
theorem A6v (k : Nat) (x : H53) : Rd k x = Anj k x := (Ae _ _).trans (by kernel_rfl)
theorem A0m (k : Nat) : Ac Tryz.prog 18 (Av3 k) := Aj (Ani k) k rfl ⟨⟨Rj k, trivial⟩, ⟨A0v k, trivial⟩, trivial⟩ Ad Tryz.func18 (by kernel_rfl)
def A99 : Sk := ⟨[.lf (.pv .str), .lf (.pv (.int .i64))], [], []⟩
def Baa : Sk := ⟨[.lf (.pv .str)], [], []⟩
def R6 (k : Nat) : ((List Int) × (Int)) → Option (List Int) := repS
def Age (k : Nat) : Sig := Ag A99 Baa (R6 k)
theorem Aie (k : Nat) : Ac Tryz.prog 46 (Age k) := repS_ok
def A97 : Sk := ⟨[.lf (.ptr 0 0)], [[.bld 0 68, .own 0, .pv (.int .i64)]], [some (5, (.int .u8))]⟩
def A98 : Sk := ⟨[], [[.bld 0 68, .own 0, .pv (.int .i64)]], [some (5, (.int .u8))]⟩
def R5 (k : Nat) : ((Bool) × (Int) × (List (Int))) → Option ((Bool) × (Int) × (List (Int))) := copyC
def Vy (k : Nat) : Sig := Ag A97 A98 (R5 k)
theorem Xf (k : Nat) : Ac Tryz.prog 70 (Vy k) := A0g
abbrev H86 : Type := (List Int) × (Bool) × (Int)
abbrev H87 : Type := (Int) × (Bool) × (Int) × (List (Int))
def Aro : Sk := ⟨[.lf (.ptr 0 0), .lf (.pv .str)], [[.bld 0 68, .nil .sl, .pv (.int .i64)]], []⟩
def Arp : Sk := ⟨[.lf (.pv (.int .i64)), .lf (.nil .ifc)], [[.bld 0 68, .own 0, .pv (.int .i64)]], [some (5, (.int .u8))]⟩
def A95 (k : Nat) : EnvL := [(70, [Vy k])]
def Arm (k : Nat) : Cfg := mkC (A95 k) 68 1 0
def R4 (k : Nat) : H86 → Option H87 := hid (Ah (Arm k) k Tryz.f45 Aro Arp)
def Axa (k : Nat) : Sig := Ag Aro Arp (R4 k)
noncomputable def Arn (k : Nat) : H86 → Option H87
 | (a0, a1, a2) => ((R5 k) (a1, a2, [])).bind fun o1 => app 1 o1.2.2 a0 fun o2 => some (((List.length a0 : Nat) : Int), o1.1, o1.2.1, o2)
theorem A96 (k : Nat) (x : H86) : R4 k x = Arn k x := (Ae _ _).trans (by kernel_rfl)
theorem A1w (k : Nat) : Ac Tryz.prog 45 (Axa k) := Aj (Arm k) k rfl ⟨⟨Xf k, trivial⟩, trivial⟩ Ad Tryz.func45 (by kernel_rfl)
abbrev H88 : Type := (Bool) × (Int) × (List (Int))
def Arg : Sk := ⟨[.lf (.ptr 0 0), .lf (.pv (.int .u8))], [[.bld 0 68, .own 0, .pv (.int .i64)]], [some (5, (.int .u8))]⟩
def Arh : Sk := ⟨[.lf (.nil .ifc)], [[.bld 0 68, .own 1, .pv (.int .i64)]], [none, some (5, (.int .u8))]⟩
def A92 (k : Nat) : EnvL := [(70, [Vy k])]
def Are (k : Nat) : Cfg := mkC (A92 k) 65 1 1
def Nj (k : Nat) : H87 → Option H88 := hid (Ah (Are k) k Tryz.f47 Arg Arh)
def Agc (k : Nat) : Sig := Ag Arg Arh (Nj k)
noncomputable def Arf (k : Nat) : H87 → Option H88
 | (a0, a1, a2, a3) => ((R5 k) (a1, a2, a3)).bind fun o1 => app 1 o1.2.2 ([a0] : List (Int)) fun o2 => some (o1.1, o1.2.1, o2)
theorem A93 (k : Nat) (x : H87) : Nj k x = Arf k x := (Ae _ _).trans (by kernel_rfl)
theorem Aic (k : Nat) : Ac Tryz.prog 47 (Agc k) := Aj (Are k) k rfl ⟨⟨Xf k, trivial⟩, trivial⟩ Ad Tryz.func47 (by kernel_rfl)
abbrev H89 : Type := (List Int) × (Bool) × (Int) × (List (Int))
def Ark : Sk := ⟨[.lf (.ptr 0 0), .lf (.pv .str)], [[.bld 0 68, .own 0, .pv (.int .i64)]], [some (5, (.int .u8))]⟩
def Arl : Sk := ⟨[.lf (.pv (.int .i64)), .lf (.nil .ifc)], [[.bld 0 68, .own 1, .pv (.int .i64)]], [none, some (5, (.int .u8))]⟩
def A94 (k : Nat) : EnvL := [(70, [Vy k])]
def Ari (k : Nat) : Cfg := mkC (A94 k) 67 1 1
def Do (k : Nat) : H89 → Option H87 := hid (Ah (Ari k) k Tryz.f45 Ark Arl)
def Agd (k : Nat) : Sig := Ag Ark Arl (Do k)
noncomputable def Aeq (k : Nat) : H89 → Option H87
 | (a0, a1, a2, a3) => ((R5 k) (a1, a2, a3)).bind fun o1 => app 1 o1.2.2 a0 fun o2 => some (((List.length a0 : Nat) : Int), o1.1, o1.2.1, o2)
theorem Arj (k : Nat) (x : H89) : Do k x = Aeq k x := (Ae _ _).trans (by kernel_rfl)
theorem Aid (k : Nat) : Ac Tryz.prog 45 (Agd k) := Aj (Ari k) k rfl ⟨⟨Xf k, trivial⟩, trivial⟩ Ad Tryz.func45 (by kernel_rfl)
def A9w : Sk := ⟨[.lf (.pv (.int .i64)), .lf (.pv (.int .i64))], [], []⟩
def A9x : Sk := ⟨[.lf (.pv .str)], [], []⟩
def G8 (k : Nat) : ((Int) × (Int)) → Option (List Int) := fmtI
def Agb (k : Nat) : Sig := Ag A9w A9x (G8 k)
theorem Aib (k : Nat) : Ac Tryz.prog 48 (Agb k) := fmtI_ok
abbrev H90 : Type := (List Int) × (List (AnyV)) × (Int) × (Int) × (Bool) × (Int) × (List (Int))
abbrev H91 : Type := (List Int) × (AnyV) × (List (AnyV)) × (Int) × (Int) × (Bool) × (Int) × (List (Int))
abbrev H92 : Type := (List Int) × (List (AnyV)) × (Bool) × (Int)
def Ad2 : Sk := ⟨[.lf (.ptr 0 0), .lf (.pv .str), .lf (.pv (.slice .any))], [[.bld 0 68, .nil .sl, .pv (.int .i64)]], []⟩
def Ad3 : Sk := ⟨[], [[.bld 0 68, .own 0, .pv (.int .i64)]], [some (5, (.int .u8))]⟩
def Aqr : Sk := ⟨sparse 73 [(0, .lf (.ptr 0 0)), (1, .lf (.pv .str)), (20, .lf (.pv (.slice .any))), (21, .lf (.pv (.int .i64))), (22, .lf (.pv (.int .i64)))], [[.bld 0 68, .own 0, .pv (.int .i64)]], [some (5, (.int .u8))]⟩
abbrev Adx := H90
def Fb : Adx → St := stOf Aqr 194
def Aqs : Sk := ⟨sparse 73 [(0, .lf (.ptr 0 0)), (1, .lf (.pv .str)), (7, .lf (.pv .any)), (20, .lf (.pv (.slice .any))), (21, .lf (.pv (.int .i64))), (22, .lf (.pv (.int .i64)))], [[.bld 0 68, .own 0, .pv (.int .i64)]], [some (5, (.int .u8))]⟩
abbrev Ady := H91
def O8 : Ady → St := stOf Aqs 194
def A9i (k : Nat) : EnvL := [(46, [Age k]), (45, [Axa k, Agd k]), (47, [Agc k]), (48, [Agb k])]
def Bx (k : Nat) : FnX H88 := mkX ({ mkC (A9i k) 194 1 0 with hint := fun i => look none [(2, some Aqr), (6, some Aqs)] i, bl := [66, 68], ef := [(19, (([0], []), ([], [67]))), (50, (([0], [0]), ([], [98]))), (65, (([0], [0]), ([], [113])))], ld := [(12, 9999), (13, 9999), (15, 9999), (16, 9999), (17, 0), (46, 9999), (47, 9999), (55, 9999), (56, 9999), (57, 9999), (58, 58), (61, 9999), (62, 58)] }) k Tryz.f19 Ad3
def Nh (k : Nat) : H92 → Option H88 := hid (Ah (Bx k).C k Tryz.f19 Ad2 Ad3)
def Aw2 (k : Nat) : Sig := Ag Ad2 Ad3 (Nh k)
noncomputable def Ad0 (k : Nat) (J : JF H88) (L : LF H88) : H92 → Option H88
 | (a0, a1, a2, a3) => ((R6 k) (([32, 32] : List Int), a3)).bind fun o1 => ((R4 k) (o1, a2, a3)).bind fun o2 => L 2 [] k (Fb (a0, a1, ((List.length a1 : Nat) : Int), (0 : Int), o2.2.1, o2.2.2.1, o2.2.2.2))
theorem A9j (k : Nat) (x : H92) : Nh k x = Ad0 k (Bx k).J (Bx k).L x := by
 refine (Ae _ _).trans ?_; apply cutX (Bx k) [] [] (st0 (Bx k).C Tryz.f19 Ad2 x) [] [(2, [], k)] (Ad0 k · · x) <;> intros <;> kernel_rfl
noncomputable def O9 (k j2 : Nat) (J : JF H88) (L : LF H88) : Adx → Option H88
 | (a0, a1, a2, a3, a4, a5, a6) => bif (decide (a3 < a2)) then (idx AnyV.nil a1 a3 fun o1 => bif (decide (a3 > (0 : Int))) then (((Nj k) ((32 : Int), a4, a5, a6)).bind fun o2 => J 6 [j2] (O8 (a0, o1, a1, a2, a3, o2.1, o2.2.1, o2.2.2))) else (J 6 [j2] (O8 (a0, o1, a1, a2, a3, a4, a5, a6)))) else (cat a0 ([10] : List Int) fun o3 => ((Do k) (o3, a4, a5, a6)).bind fun o4 => some (o4.2.1, o4.2.2.1, o4.2.2.2))
theorem Adz (k j2 : Nat) (x : Adx) : (Bx k).L 2 [] (j2 + 1) (Fb x) = O9 k j2 (Bx k).J (Bx k).L x := by
 apply cutX (Bx k) [.r, .l, .r, .b, .b] [j2] (Fb x) [(6, [j2])] [(2, [], j2)] (O9 k j2 · · x) <;> intros <;> kernel_rfl
noncomputable def Ad1 (k j2 : Nat) (J : JF H88) (L : LF H88) : Ady → Option H88
 | (a0, a1, a2, a3, a4, a5, a6, a7) => bif Be 9 a1 then (bif Cv false [.str] a1 then ((Do k) ((anyS 0 a1), a5, a6, a7)).bind fun o1 => L 2 [] j2 (Fb (a0, a2, a3, (IntKind.wrap .i64 (a4 + (1 : Int))), o1.2.1, o1.2.2.1, o1.2.2.2)) else none) else (bif Be 2 a1 then (bif Cv false [(.int .i64)] a1 then ((G8 k) ((anyI 0 a1), (10 : Int))).bind fun o2 => ((Do k) (o2, a5, a6, a7)).bind fun o3 => L 2 [] j2 (Fb (a0, a2, a3, (IntKind.wrap .i64 (a4 + (1 : Int))), o3.2.1, o3.2.2.1, o3.2.2.2)) else none) else (bif Be 53 a1 then (bif Cv true [(.int .i64), (.int .i64)] a1 then ((G8 k) ((anyI 0 a1), (10 : Int))).bind fun o4 => cat o4 ([47] : List Int) fun o5 => ((G8 k) ((anyI 1 a1), (10 : Int))).bind fun o6 => cat o5 o6 fun o7 => ((Do k) (o7, a5, a6, a7)).bind fun o8 => L 2 [] j2 (Fb (a0, a2, a3, (IntKind.wrap .i64 (a4 + (1 : Int))), o8.2.1, o8.2.2.1, o8.2.2.2)) else none) else (L 2 [] j2 (Fb (a0, a2, a3, (IntKind.wrap .i64 (a4 + (1 : Int))), a5, a6, a7)))))
theorem A9k (k j2 : Nat) (x : Ady) : (Bx k).J 6 [j2] (O8 x) = Ad1 k j2 (Bx k).J (Bx k).L x := by
 apply cutX (Bx k) [.r, .l, .r, .b, .b, .r, .r, .l, .b, .r, .r] [j2] (O8 x) [(6, [j2])] [(2, [], j2)] (Ad1 k j2 · · x) <;> intros <;> kernel_rfl
theorem A1o (k : Nat) : Ac Tryz.prog 19 (Aw2 k) := Aj (Bx k).C k rfl ⟨⟨Aie k, trivial⟩, ⟨A1w k, Aid k, trivial⟩, ⟨Aic k, trivial⟩, ⟨Aib k, trivial⟩, trivial⟩ Ad Tryz.func19 (by kernel_rfl)
abbrev H93 : Type := (List Int) × (List (AnyV)) × (Bool) × (Int) × (List (Int))
def Adv : Sk := ⟨[.lf (.ptr 0 0), .lf (.pv .str), .lf (.pv (.slice .any))], [[.bld 0 68, .own 0, .pv (.int .i64)]], [some (5, (.int .u8))]⟩
def Adw : Sk := ⟨[], [[.bld 0 68, .own 1, .pv (.int .i64)]], [none, some (5, (.int .u8))]⟩
def Aqp : Sk := ⟨sparse 73 [(0, .lf (.ptr 0 0)), (1, .lf (.pv .str)), (20, .lf (.pv (.slice .any))), (21, .lf (.pv (.int .i64))), (22, .lf (.pv (.int .i64)))], [[.bld 0 68, .own 1, .pv (.int .i64)]], [none, some (5, (.int .u8))]⟩
abbrev Adq := H90
def Fa : Adq → St := stOf Aqp 194
def Aqq : Sk := ⟨sparse 73 [(0, .lf (.ptr 0 0)), (1, .lf (.pv .str)), (7, .lf (.pv .any)), (20, .lf (.pv (.slice .any))), (21, .lf (.pv (.int .i64))), (22, .lf (.pv (.int .i64)))], [[.bld 0 68, .own 1, .pv (.int .i64)]], [none, some (5, (.int .u8))]⟩
abbrev Adr := H91
def O6 : Adr → St := stOf Aqq 194
def A9f (k : Nat) : EnvL := [(46, [Age k]), (45, [Agd k]), (47, [Agc k]), (48, [Agb k])]
def By (k : Nat) : FnX H88 := mkX ({ mkC (A9f k) 194 1 1 with hint := fun i => look none [(2, some Aqp), (6, some Aqq)] i, bl := [66, 68], ef := [(19, (([0], [0]), ([], [67]))), (50, (([0], [1]), ([], [98]))), (65, (([0], [1]), ([], [113])))], ld := [(12, 9999), (13, 9999), (15, 9999), (16, 9999), (17, 0), (46, 9999), (47, 9999), (55, 9999), (56, 9999), (57, 9999), (58, 58), (61, 9999), (62, 58)] }) k Tryz.f19 Adw
def Cd (k : Nat) : H93 → Option H88 := hid (Ah (By k).C k Tryz.f19 Adv Adw)
def Lv (k : Nat) : Sig := Ag Adv Adw (Cd k)
noncomputable def Adt (k : Nat) (J : JF H88) (L : LF H88) : H93 → Option H88
 | (a0, a1, a2, a3, a4) => ((R6 k) (([32, 32] : List Int), a3)).bind fun o1 => ((Do k) (o1, a2, a3, a4)).bind fun o2 => L 2 [] k (Fa (a0, a1, ((List.length a1 : Nat) : Int), (0 : Int), o2.2.1, o2.2.2.1, o2.2.2.2))
theorem A9g (k : Nat) (x : H93) : Cd k x = Adt k (By k).J (By k).L x := by
 refine (Ae _ _).trans ?_; apply cutX (By k) [] [] (st0 (By k).C Tryz.f19 Adv x) [] [(2, [], k)] (Adt k · · x) <;> intros <;> kernel_rfl
noncomputable def O7 (k j2 : Nat) (J : JF H88) (L : LF H88) : Adq → Option H88
 | (a0, a1, a2, a3, a4, a5, a6) => bif (decide (a3 < a2)) then (idx AnyV.nil a1 a3 fun o1 => bif (decide (a3 > (0 : Int))) then (((Nj k) ((32 : Int), a4, a5, a6)).bind fun o2 => J 6 [j2] (O6 (a0, o1, a1, a2, a3, o2.1, o2.2.1, o2.2.2))) else (J 6 [j2] (O6 (a0, o1, a1, a2, a3, a4, a5, a6)))) else (cat a0 ([10] : List Int) fun o3 => ((Do k) (o3, a4, a5, a6)).bind fun o4 => some (o4.2.1, o4.2.2.1, o4.2.2.2))
theorem Ads (k j2 : Nat) (x : Adq) : (By k).L 2 [] (j2 + 1) (Fa x) = O7 k j2 (By k).J (By k).L x := by
 apply cutX (By k) [.r, .l, .r, .b, .b] [j2] (Fa x) [(6, [j2])] [(2, [], j2)] (O7 k j2 · · x) <;> intros <;> kernel_rfl
noncomputable def Adu (k j2 : Nat) (J : JF H88) (L : LF H88) : Adr → Option H88
 | (a0, a1, a2, a3, a4, a5, a6, a7) => bif Be 9 a1 then (bif Cv false [.str] a1 then ((Do k) ((anyS 0 a1), a5, a6, a7)).bind fun o1 => L 2 [] j2 (Fa (a0, a2, a3, (IntKind.wrap .i64 (a4 + (1 : Int))), o1.2.1, o1.2.2.1, o1.2.2.2)) else none) else (bif Be 2 a1 then (bif Cv false [(.int .i64)] a1 then ((G8 k) ((anyI 0 a1), (10 : Int))).bind fun o2 => ((Do k) (o2, a5, a6, a7)).bind fun o3 => L 2 [] j2 (Fa (a0, a2, a3, (IntKind.wrap .i64 (a4 + (1 : Int))), o3.2.1, o3.2.2.1, o3.2.2.2)) else none) else (bif Be 53 a1 then (bif Cv true [(.int .i64), (.int .i64)] a1 then ((G8 k) ((anyI 0 a1), (10 : Int))).bind fun o4 => cat o4 ([47] : List Int) fun o5 => ((G8 k) ((anyI 1 a1), (10 : Int))).bind fun o6 => cat o5 o6 fun o7 => ((Do k) (o7, a5, a6, a7)).bind fun o8 => L 2 [] j2 (Fa (a0, a2, a3, (IntKind.wrap .i64 (a4 + (1 : Int))), o8.2.1, o8.2.2.1, o8.2.2.2)) else none) else (L 2 [] j2 (Fa (a0, a2, a3, (IntKind.wrap .i64 (a4 + (1 : Int))), a5, a6, a7)))))
theorem A9h (k j2 : Nat) (x : Adr) : (By k).J 6 [j2] (O6 x) = Adu k j2 (By k).J (By k).L x := by
 apply cutX (By k) [.r, .l, .r, .b, .b, .r, .r, .l, .b, .r, .r] [j2] (O6 x) [(6, [j2])] [(2, [], j2)] (Adu k j2 · · x) <;> intros <;> kernel_rfl
theorem Ni (k : Nat) : Ac Tryz.prog 19 (Lv k) := Aj (By k).C k rfl ⟨⟨Aie k, trivial⟩, ⟨Aid k, trivial⟩, ⟨Aic k, trivial⟩, ⟨Aib k, trivial⟩, trivial⟩ Ad Tryz.func19 (by kernel_rfl)
abbrev H94 : Type := (List (YT1)) × (Int) × (Int) × (Bool) × (Int) × (List (Int)) × (List (AnyV))
abbrev H95 : Type := (List Int) × (Int) × (Int) × (Int) × (List (YT1)) × (Bool) × (Int) × (List (Int))
def Ad6 : Sk := ⟨[.lf (.ptr 0 0), .agg [.pv .str, .pv (.int .i64), .pv (.int .i64), .pv (.int .i64), .pv (.slice yt1)]], [[.bld 0 68, .own 0, .pv (.int .i64)]], [some (5, (.int .u8))]⟩
def Ad7 : Sk := ⟨[], [[.bld 0 68, .own 1, .pv (.int .i64)]], [none, some (5, (.int .u8))]⟩
def Aqu : Sk := ⟨sparse 49 [(0, .lf (.ptr 0 0)), (4, .lf (.own 1)), (25, .lf (.pv (.slice yt1))), (26, .lf (.pv (.int .i64))), (27, .lf (.pv (.int .i64)))], [[.bld 0 68, .own 0, .pv (.int .i64)]], [some (5, (.int .u8)), some (20, .any)]⟩
abbrev Ad4 := H94
def Pa : Ad4 → St := stOf Aqu 98
def A9l (k : Nat) : EnvL := [(19, [Lv k])]
def Fc (k : Nat) : FnX H88 := mkX ({ mkC (A9l k) 98 1 1 with hint := fun i => look none [(3, some Aqu)] i, bl := [66, 68] }) k Tryz.f77 Ad7
def R0 (k : Nat) : H95 → Option H88 := hid (Ah (Fc k).C k Tryz.f77 Ad6 Ad7)
def Aw3 (k : Nat) : Sig := Ag Ad6 Ad7 (R0 k)
noncomputable def Ad5 (k : Nat) (J : JF H88) (L : LF H88) : H95 → Option H88
 | (a0, a1, a2, a3, a4, a5, a6, a7) => L 3 [] k (Pa (a4, ((List.length a4 : Nat) : Int), (0 : Int), a5, a6, a7, ([(AnyV.mk 9 false [.str ([112, 104, 97, 115, 101] : List Int)]), (AnyV.mk 9 false [.str a0]), (AnyV.mk 9 false [.str ([115, 112, 108, 105, 116] : List Int)]), (AnyV.mk 2 false [.int .i64 a1]), (AnyV.mk 9 false [.str ([121, 101, 108, 108, 111, 119] : List Int)]), (AnyV.mk 2 false [.int .i64 a2]), (AnyV.mk 9 false [.str ([114, 101, 100] : List Int)]), (AnyV.mk 2 false [.int .i64 a3])] : List (AnyV))))
theorem A9m (k : Nat) (x : H95) : R0 k x = Ad5 k (Fc k).J (Fc k).L x := by
 refine (Ae _ _).trans ?_; apply cutX (Fc k) [] [] (st0 (Fc k).C Tryz.f77 Ad6 x) [] [(3, [], k)] (Ad5 k · · x) <;> intros <;> kernel_rfl
noncomputable def Ul (k j3 : Nat) (J : JF H88) (L : LF H88) : Ad4 → Option H88
 | (a0, a1, a2, a3, a4, a5, a6) => bif (decide (a2 < a1)) then (idx zt1 a0 a2 fun o1 => app 16 a6 ([(AnyV.mk 9 false [.str ([119, 97, 108, 107] : List Int)]), (AnyV.mk 9 false [.str o1.1]), (AnyV.mk 2 false [.int .i64 o1.2.1]), (AnyV.mk 9 false [.str ([102, 108, 97, 115, 104] : List Int)]), (AnyV.mk 2 false [.int .i64 o1.2.2.1])] : List (AnyV)) fun o2 => L 3 [] j3 (Pa (a0, a1, (IntKind.wrap .i64 (a2 + (1 : Int))), a3, a4, a5, o2))) else (((Cd k) (([59] : List Int), a6, a3, a4, a5)).bind fun o3 => some (o3.1, o3.2.1, o3.2.2))
theorem Aqt (k j3 : Nat) (x : Ad4) : (Fc k).L 3 [] (j3 + 1) (Pa x) = Ul k j3 (Fc k).J (Fc k).L x := by
 apply cutX (Fc k) [.r, .r, .l, .r, .b, .b] [j3] (Pa x) [] [(3, [], j3)] (Ul k j3 · · x) <;> intros <;> kernel_rfl
theorem A1p (k : Nat) : Ac Tryz.prog 77 (Aw3 k) := Aj (Fc k).C k rfl ⟨⟨Ni k, trivial⟩, trivial⟩ Ad Tryz.func77 (by kernel_rfl)
abbrev H96 : Type := (List (YT2)) × (Int) × (Int) × (List (YT2)) × (Bool) × (Int) × (List (Int))
abbrev H97 : Type := (List (YT2)) × (Bool) × (Int) × (List (Int))
def Aea : Sk := ⟨[.lf (.ptr 0 0), .lf (.ptr 1 0)], [[.pv (.slice yt2)], [.ptr 2 0], [.bld 2 68, .own 0, .pv (.int .i64)]], [some (5, (.int .u8))]⟩
def Aeb : Sk := ⟨[], [[.pv (.slice yt2)], [.ptr 2 0], [.bld 2 68, .own 1, .pv (.int .i64)]], [none, some (5, (.int .u8))]⟩
def Aqw : Sk := ⟨sparse 14 [(0, .lf (.ptr 0 0)), (1, .lf (.ptr 1 0)), (4, .lf (.pv (.slice yt2))), (5, .lf (.pv (.int .i64))), (6, .lf (.pv (.int .i64)))], [[.pv (.slice yt2)], [.ptr 2 0], [.bld 2 68, .own 1, .pv (.int .i64)]], [none, some (5, (.int .u8))]⟩
abbrev Ad8 := H96
def Pb : Ad8 → St := stOf Aqw 63
def A9o (k : Nat) : EnvL := [(77, [Aw3 k])]
def Fe (k : Nat) : FnX H97 := mkX ({ mkC (A9o k) 63 3 1 with hint := fun i => look none [(1, some Aqw)] i, bl := [66, 68] }) k Tryz.f76 Aeb
def R2 (k : Nat) : H97 → Option H97 := hid (Ah (Fe k).C k Tryz.f76 Aea Aeb)
def Aw5 (k : Nat) : Sig := Ag Aea Aeb (R2 k)
noncomputable def Ad9 (k : Nat) (J : JF H97) (L : LF H97) : H97 → Option H97
 | (a0, a1, a2, a3) => L 1 [] k (Pb (a0, ((List.length a0 : Nat) : Int), (0 : Int), a0, a1, a2, a3))
theorem A9p (k : Nat) (x : H97) : R2 k x = Ad9 k (Fe k).J (Fe k).L x := by
 refine (Ae _ _).trans ?_; apply cutX (Fe k) [] [] (st0 (Fe k).C Tryz.f76 Aea x) [] [(1, [], k)] (Ad9 k · · x) <;> intros <;> kernel_rfl
noncomputable def Um (k j1 : Nat) (J : JF H97) (L : LF H97) : Ad8 → Option H97
 | (a0, a1, a2, a3, a4, a5, a6) => bif (decide (a2 < a1)) then (idx zt2 a0 a2 fun o1 => ((R0 k) (o1.1, o1.2.1, o1.2.2.1, o1.2.2.2.1, o1.2.2.2.2.1, a4, a5, a6)).bind fun o2 => L 1 [] j1 (Pb (a0, a1, (IntKind.wrap .i64 (a2 + (1 : Int))), a3, o2.1, o2.2.1, o2.2.2))) else (some (a3, a4, a5, a6))
theorem Aqv (k j1 : Nat) (x : Ad8) : (Fe k).L 1 [] (j1 + 1) (Pb x) = Um k j1 (Fe k).J (Fe k).L x := by
 apply cutX (Fe k) [.r, .b, .b] [j1] (Pb x) [] [(1, [], j1)] (Um k j1 · · x) <;> intros <;> kernel_rfl
theorem A1q (k : Nat) : Ac Tryz.prog 76 (Aw5 k) := Aj (Fe k).C k rfl ⟨⟨A1p k, trivial⟩, trivial⟩ Ad Tryz.func76 (by kernel_rfl)
abbrev H98 : Type := (List (AnyV)) × (Bool) × (Int) × (List (YT2)) × (List (Int))
abbrev H99 : Type := (Bool) × (Int) × (List (YT2)) × (List (Int))
def Aqj : Sk := ⟨[.lf (.ptr 0 0), .lf (.fn 76 [] [(1, 0), (2, 0)]), .lf (.pv (.slice .any))], [[.bld 0 68, .own 0, .pv (.int .i64)], [.pv (.slice yt2)], [.ptr 0 0]], [some (5, (.int .u8))]⟩
def Aqk : Sk := ⟨[], [[.bld 0 68, .own 1, .pv (.int .i64)], [.pv (.slice yt2)], [.ptr 0 0]], [none, some (5, (.int .u8))]⟩
def A9b (k : Nat) : EnvL := [(19, [Lv k]), (76, [Aw5 k])]
def Aqh (k : Nat) : Cfg := mkC (A9b k) 77 3 1
def Rz (k : Nat) : H98 → Option H99 := hid (Ah (Aqh k) k Tryz.f20 Aqj Aqk)
def Aw1 (k : Nat) : Sig := Ag Aqj Aqk (Rz k)
noncomputable def Aqi (k : Nat) : H98 → Option H99
 | (a0, a1, a2, a3, a4) => ((Cd k) (([32, 123] : List Int), a0, a1, a2, a4)).bind fun o1 => ((R2 k) (a3, o1.1, (IntKind.wrap .i64 (o1.2.1 + (1 : Int))), o1.2.2)).bind fun o2 => ((Cd k) (([125] : List Int), [], o2.2.1, (IntKind.wrap .i64 (o2.2.2.1 - (1 : Int))), o2.2.2.2)).bind fun o3 => some (o3.1, o3.2.1, o2.1, o3.2.2)
theorem A9c (k : Nat) (x : H98) : Rz k x = Aqi k x := (Ae _ _).trans (by kernel_rfl)
theorem A1m (k : Nat) : Ac Tryz.prog 20 (Aw1 k) := Aj (Aqh k) k rfl ⟨⟨Ni k, trivial⟩, ⟨A1q k, trivial⟩, trivial⟩ Ad Tryz.func20 (by kernel_rfl)
abbrev H100 : Type := (List (List (YT2))) × (Int) × (Int) × (Bool) × (Int) × (List (Int))
abbrev H101 : Type := (List (List (YT2))) × (Bool) × (Int) × (List (Int))
def Aee : Sk := ⟨[.lf (.ptr 0 0), .agg [.pv (.slice (.slice yt2))]], [[.bld 0 68, .own 0, .pv (.int .i64)]], [some (5, (.int .u8))]⟩
def Aef : Sk := ⟨[], [[.bld 0 68, .own 1, .pv (.int .i64)]], [none, some (5, (.int .u8))]⟩
def Aqy : Sk := ⟨sparse 19 [(0, .lf (.ptr 0 0)), (2, .lf (.ptr 1 0)), (7, .lf (.pv (.slice (.slice yt2)))), (8, .lf (.pv (.int .i64))), (9, .lf (.pv (.int .i64)))], [[.bld 0 68, .own 1, .pv (.int .i64)], [.ptr 0 0]], [none, some (5, (.int .u8))]⟩
abbrev Aec := H100
def Pd : Aec → St := stOf Aqy 68
def A9n (k : Nat) : EnvL := [(20, [Aw1 k])]
def Fd (k : Nat) : FnX H88 := mkX ({ mkC (A9n k) 68 1 1 with hint := fun i => look none [(2, some Aqy)] i, bl := [66, 68] }) k Tryz.f50 Aef
def R1 (k : Nat) : H101 → Option H88 := hid (Ah (Fd k).C k Tryz.f50 Aee Aef)
def Aw4 (k : Nat) : Sig := Ag Aee Aef (R1 k)
noncomputable def Aed (k : Nat) (J : JF H88) (L : LF H88) : H101 → Option H88
 | (a0, a1, a2, a3) => L 2 [] k (Pd (a0, ((List.length a0 : Nat) : Int), (0 : Int), a1, a2, a3))
theorem A9q (k : Nat) (x : H101) : R1 k x = Aed k (Fd k).J (Fd k).L x := by
 refine (Ae _ _).trans ?_; apply cutX (Fd k) [] [] (st0 (Fd k).C Tryz.f50 Aee x) [] [(2, [], k)] (Aed k · · x) <;> intros <;> kernel_rfl
noncomputable def Un (k j2 : Nat) (J : JF H88) (L : LF H88) : Aec → Option H88
 | (a0, a1, a2, a3, a4, a5) => bif (decide (a2 < a1)) then (idx [] a0 a2 fun o1 => ((Rz k) (([(AnyV.mk 9 false [.str ([114, 105, 110, 103] : List Int)])] : List (AnyV)), a3, a4, o1, a5)).bind fun o2 => L 2 [] j2 (Pd (a0, a1, (IntKind.wrap .i64 (a2 + (1 : Int))), o2.1, o2.2.1, o2.2.2.2))) else (some (a3, a4, a5))
theorem Aqx (k j2 : Nat) (x : Aec) : (Fd k).L 2 [] (j2 + 1) (Pd x) = Un k j2 (Fd k).J (Fd k).L x := by
 apply cutX (Fd k) [.r, .r, .b, .b] [j2] (Pd x) [] [(2, [], j2)] (Un k j2 · · x) <;> intros <;> kernel_rfl
theorem A1r (k : Nat) : Ac Tryz.prog 50 (Aw4 k) := Aj (Fd k).C k rfl ⟨⟨A1m k, trivial⟩, trivial⟩ Ad Tryz.func50 (by kernel_rfl)
def Aq1 : Sk := ⟨[.lf (.ptr 0 0), .lf (.ptr 1 0)], [[.ptr 2 0], [.pv (.slice (.slice yt2))], [.bld 2 68, .own 0, .pv (.int .i64)]], [some (5, (.int .u8))]⟩
def Aq2 : Sk := ⟨[], [[.ptr 2 0], [.pv (.slice (.slice yt2))], [.bld 2 68, .own 1, .pv (.int .i64)]], [none, some (5, (.int .u8))]⟩
def A9s (k : Nat) : EnvL := [(50, [Aw4 k])]
def Aqz (k : Nat) : Cfg := mkC (A9s k) 54 3 1
def Xc (k : Nat) : H101 → Option H101 := hid (Ah (Aqz k) k Tryz.f49 Aq1 Aq2)
def Aw7 (k : Nat) : Sig := Ag Aq1 Aq2 (Xc k)
noncomputable def Aq0 (k : Nat) : H101 → Option H101
 | (a0, a1, a2, a3) => ((R1 k) (a0, a1, a2, a3)).bind fun o1 => some (a0, o1.1, o1.2.1, o1.2.2)
theorem A9t (k : Nat) (x : H101) : Xc k x = Aq0 k x := (Ae _ _).trans (by kernel_rfl)
theorem A1s (k : Nat) : Ac Tryz.prog 49 (Aw7 k) := Aj (Aqz k) k rfl ⟨⟨A1r k, trivial⟩, trivial⟩ Ad Tryz.func49 (by kernel_rfl)
abbrev H102 : Type := (List (AnyV)) × (Bool) × (Int) × (List (List (YT2))) × (List (Int))
abbrev H103 : Type := (Bool) × (Int) × (List (List (YT2))) × (List (Int))
def Aqf : Sk := ⟨[.lf (.ptr 0 0), .lf (.fn 49 [] [(1, 0), (2, 0)]), .lf (.pv (.slice .any))], [[.bld 0 68, .own 0, .pv (.int .i64)], [.ptr 0 0], [.pv (.slice (.slice yt2))]], [some (5, (.int .u8))]⟩
def Aqg : Sk := ⟨[], [[.bld 0 68, .own 1, .pv (.int .i64)], [.ptr 0 0], [.pv (.slice (.slice yt2))]], [none, some (5, (.int .u8))]⟩
def A89 (k : Nat) : EnvL := [(19, [Lv k]), (49, [Aw7 k])]
def Aqd (k : Nat) : Cfg := mkC (A89 k) 77 3 1
def Ry (k : Nat) : H102 → Option H103 := hid (Ah (Aqd k) k Tryz.f20 Aqf Aqg)
def Aw0 (k : Nat) : Sig := Ag Aqf Aqg (Ry k)
noncomputable def Aqe (k : Nat) : H102 → Option H103
 | (a0, a1, a2, a3, a4) => ((Cd k) (([32, 123] : List Int), a0, a1, a2, a4)).bind fun o1 => ((Xc k) (a3, o1.1, (IntKind.wrap .i64 (o1.2.1 + (1 : Int))), o1.2.2)).bind fun o2 => ((Cd k) (([125] : List Int), [], o2.2.1, (IntKind.wrap .i64 (o2.2.2.1 - (1 : Int))), o2.2.2.2)).bind fun o3 => some (o3.1, o3.2.1, o2.1, o3.2.2)
theorem A9a (k : Nat) (x : H102) : Ry k x = Aqe k x := (Ae _ _).trans (by kernel_rfl)
theorem A1l (k : Nat) : Ac Tryz.prog 20 (Aw0 k) := Aj (Aqd k) k rfl ⟨⟨Ni k, trivial⟩, ⟨A1s k, trivial⟩, trivial⟩ Ad Tryz.func20 (by kernel_rfl)
abbrev H104 : Type := (List ((List (List (YT2))) × (Unit))) × (Int) × (Int) × (Bool) × (Int) × (List (Int))
abbrev H105 : Type := (List Int) × (Int) × (List ((List (List (YT2))) × (Unit))) × (Int) × (Int) × (Bool) × (Int) × (List (Int))
def Aei : Sk := ⟨[.lf (.ptr 0 0), .agg [.pv .str, .pv (.int .i64), .pv (.slice (.cons (.slice (.slice yt2)) .nil)), .pv (.int .i64), .pv (.int .i64)]], [[.bld 0 68, .own 0, .pv (.int .i64)]], [some (5, (.int .u8))]⟩
def Aej : Sk := ⟨[], [[.bld 0 68, .own 1, .pv (.int .i64)]], [none, some (5, (.int .u8))]⟩
def Aq4 : Sk := ⟨sparse 19 [(0, .lf (.ptr 0 0)), (2, .lf (.ptr 1 0)), (7, .lf (.pv (.slice (.cons (.slice (.slice yt2)) .nil)))), (8, .lf (.pv (.int .i64))), (9, .lf (.pv (.int .i64)))], [[.bld 0 68, .own 1, .pv (.int .i64)], [.ptr 0 0]], [none, some (5, (.int .u8))]⟩
abbrev Aeg := H104
def Pe : Aeg → St := stOf Aq4 68
def A9r (k : Nat) : EnvL := [(20, [Aw0 k])]
def Ff (k : Nat) : FnX H88 := mkX ({ mkC (A9r k) 68 1 1 with hint := fun i => look none [(2, some Aq4)] i, bl := [66, 68] }) k Tryz.f22 Aej
def R3 (k : Nat) : H105 → Option H88 := hid (Ah (Ff k).C k Tryz.f22 Aei Aej)
def Aw6 (k : Nat) : Sig := Ag Aei Aej (R3 k)
noncomputable def Aeh (k : Nat) (J : JF H88) (L : LF H88) : H105 → Option H88
 | (a0, a1, a2, a3, a4, a5, a6, a7) => L 2 [] k (Pe (a2, ((List.length a2 : Nat) : Int), (0 : Int), a5, a6, a7))
theorem A9u (k : Nat) (x : H105) : R3 k x = Aeh k (Ff k).J (Ff k).L x := by
 refine (Ae _ _).trans ?_; apply cutX (Ff k) [] [] (st0 (Ff k).C Tryz.f22 Aei x) [] [(2, [], k)] (Aeh k · · x) <;> intros <;> kernel_rfl
noncomputable def Uo (k j2 : Nat) (J : JF H88) (L : LF H88) : Aeg → Option H88
 | (a0, a1, a2, a3, a4, a5) => bif (decide (a2 < a1)) then (idx ([], ()) a0 a2 fun o1 => ((Ry k) (([(AnyV.mk 9 false [.str ([103, 114, 111, 117, 112] : List Int)])] : List (AnyV)), a3, a4, o1.1, a5)).bind fun o2 => L 2 [] j2 (Pe (a0, a1, (IntKind.wrap .i64 (a2 + (1 : Int))), o2.1, o2.2.1, o2.2.2.2))) else (some (a3, a4, a5))
theorem Aq3 (k j2 : Nat) (x : Aeg) : (Ff k).L 2 [] (j2 + 1) (Pe x) = Uo k j2 (Ff k).J (Ff k).L x := by
 apply cutX (Ff k) [.r, .r, .b, .b] [j2] (Pe x) [] [(2, [], j2)] (Uo k j2 · · x) <;> intros <;> kernel_rfl
theorem A1t (k : Nat) : Ac Tryz.prog 22 (Aw6 k) := Aj (Ff k).C k rfl ⟨⟨A1l k, trivial⟩, trivial⟩ Ad Tryz.func22 (by kernel_rfl)
def Anc : Sk := ⟨[.lf (.ptr 0 0), .lf (.ptr 1 0)], [[.ptr 2 0], q0, [.bld 2 68, .own 0, .pv (.int .i64)]], [some (5, (.int .u8))]⟩
def Ane : Sk := ⟨[], [[.ptr 2 0], q0, [.bld 2 68, .own 1, .pv (.int .i64)]], [none, some (5, (.int .u8))]⟩
def A6q (k : Nat) : EnvL := [(22, [Aw6 k])]
def Ana (k : Nat) : Cfg := mkC (A6q k) 54 3 1
def W5 (k : Nat) : H105 → Option H105 := hid (Ah (Ana k) k Tryz.f21 Anc Ane)
def Av2 (k : Nat) : Sig := Ag Anc Ane (W5 k)
noncomputable def Anb (k : Nat) : H105 → Option H105
 | (a0, a1, a2, a3, a4, a5, a6, a7) => ((R3 k) (a0, a1, a2, a3, a4, a5, a6, a7)).bind fun o1 => some (a0, a1, a2, a3, a4, o1.1, o1.2.1, o1.2.2)
theorem A6r (k : Nat) (x : H105) : W5 k x = Anb k x := (Ae _ _).trans (by kernel_rfl)
theorem A0k (k : Nat) : Ac Tryz.prog 21 (Av2 k) := Aj (Ana k) k rfl ⟨⟨A1t k, trivial⟩, trivial⟩ Ad Tryz.func21 (by kernel_rfl)
abbrev H106 : Type := (List (AnyV)) × (Bool) × (Int) × (List Int) × (Int) × (List ((List (List (YT2))) × (Unit))) × (Int) × (Int) × (List (Int))
abbrev H107 : Type := (Bool) × (Int) × (List Int) × (Int) × (List ((List (List (YT2))) × (Unit))) × (Int) × (Int) × (List (Int))
def Aqn : Sk := ⟨[.lf (.ptr 0 0), .lf (.fn 21 [] [(1, 0), (2, 0)]), .lf (.pv (.slice .any))], [[.bld 0 68, .own 0, .pv (.int .i64)], [.ptr 0 0], q0], [some (5, (.int .u8))]⟩
def Aqo : Sk := ⟨[], [[.bld 0 68, .own 1, .pv (.int .i64)], [.ptr 0 0], q0], [none, some (5, (.int .u8))]⟩
def A9d (k : Nat) : EnvL := [(19, [Lv k]), (21, [Av2 k])]
def Aql (k : Nat) : Cfg := mkC (A9d k) 77 3 1
def Rx (k : Nat) : H106 → Option H107 := hid (Ah (Aql k) k Tryz.f20 Aqn Aqo)
def Awz (k : Nat) : Sig := Ag Aqn Aqo (Rx k)
noncomputable def Aqm (k : Nat) : H106 → Option H107
 | (a0, a1, a2, a3, a4, a5, a6, a7, a8) => ((Cd k) (([32, 123] : List Int), a0, a1, a2, a8)).bind fun o1 => ((W5 k) (a3, a4, a5, a6, a7, o1.1, (IntKind.wrap .i64 (o1.2.1 + (1 : Int))), o1.2.2)).bind fun o2 => ((Cd k) (([125] : List Int), [], o2.2.2.2.2.2.1, (IntKind.wrap .i64 (o2.2.2.2.2.2.2.1 - (1 : Int))), o2.2.2.2.2.2.2.2)).bind fun o3 => some (o3.1, o3.2.1, o2.1, o2.2.1, o2.2.2.1, o2.2.2.2.1, o2.2.2.2.2.1, o3.2.2)
theorem A9e (k : Nat) (x : H106) : Rx k x = Aqm k x := (Ae _ _).trans (by kernel_rfl)
theorem A1n (k : Nat) : Ac Tryz.prog 20 (Awz k) := Aj (Aql k) k rfl ⟨⟨Ni k, trivial⟩, ⟨A0k k, trivial⟩, trivial⟩ Ad Tryz.func20 (by kernel_rfl)
def A90 : Sk := ⟨[.lf (.ptr 0 0)], [[.bld 0 68, .own 0, .pv (.int .i64)]], [some (5, (.int .u8))]⟩
def A91 : Sk := ⟨[.lf (.pv .str)], [[.bld 0 68, .dead, .pv (.int .i64)]], [none]⟩
def Xe (k : Nat) : ((Bool) × (Int) × (List (Int))) → Option ((List Int) × (Bool) × (Int)) := strC
def Aw9 (k : Nat) : Sig := Ag A90 A91 (Xe k)
theorem A1v (k : Nat) : Ac Tryz.prog 23 (Aw9 k) := strC_ok
abbrev H108 : Type := (List (YT4)) × (Int) × (Int) × (Int) × (List (YT4)) × (Int) × (Int) × (Int) × (Int) × (Bool) × (Int) × (Bool) × (Int) × (List (Int))
abbrev H109 : Type := (List Int) × (Int) × (List (YT4)) × (Int) × (Int) × (Int) × (Int) × (Bool) × (Int) × (Bool) × (Int) × (List (Int))
def Ab7 : Sk := ⟨[.agg [.pv (.int .i64), .pv (.slice yt4), .pv (.int .i64), .pv (.int .i64), .pv (.int .i64), .pv (.int .i64), .pv .bool, .pv (.int .i64)]], [], []⟩
def Ab8 : Sk := ⟨[.lf (.pv (.slice (.int .u8))), .lf (.pv (.int .i64))], [], []⟩
def Anh : Sk := ⟨sparse 89 [(1, .lf (.ptr 0 0)), (4, .lf (.ptr 1 0)), (22, .lf (.pv (.slice yt4))), (23, .lf (.pv (.int .i64))), (24, .lf (.pv (.int .i64)))], [q3, [.ptr 2 0], [.bld 2 68, .own 0, .pv (.int .i64)]], [some (5, (.int .u8))]⟩
abbrev Ab4 := H108
def Ow : Ab4 → St := stOf Anh 139
def Ang : Sk := ⟨sparse 89 [(1, .lf (.ptr 0 0)), (4, .lf (.ptr 1 0)), (7, .lf (.pv .str))], [q3, [.ptr 2 0], [.bld 2 68, .own 0, .pv (.int .i64)]], [some (5, (.int .u8))]⟩
abbrev Ab3 := H109
def Ov : Ab3 → St := stOf Ang 139
def A6p (k : Nat) : EnvL := [(18, [Av3 k]), (19, [Aw2 k, Lv k]), (20, [Awz k]), (23, [Aw9 k])]
def Cq (k : Nat) : FnX ((List (Int)) × (Int)) := mkX ({ mkC (A6p k) 139 0 0 with hint := fun i => look none [(6, some Anh), (15, some Ang)] i, bl := [66, 68] }) k Tryz.f8 Ab8
def Ki (k : Nat) : H53 → Option ((List (Int)) × (Int)) := hid (Ah (Cq k).C k Tryz.f8 Ab7 Ab8)
def Av1 (k : Nat) : Sig := Ag Ab7 Ab8 (Ki k)
noncomputable def Ab5 (k : Nat) (J : JF ((List (Int)) × (Int))) (L : LF ((List (Int)) × (Int))) : H53 → Option ((List (Int)) × (Int))
 | (a0, a1, a2, a3, a4, a5, a6, a7) => ((Rd k) (a0, a1, a2, a3, a4, a5, a6, a7)).bind fun o1 => bif (!o1) then (some ([], (1 : Int))) else (((Nh k) (([59] : List Int), ([(AnyV.mk 9 false [.str ([112, 108, 97, 110] : List Int)]), (AnyV.mk 9 false [.str ([99, 121, 99, 108, 101] : List Int)]), (AnyV.mk 2 false [.int .i64 a0])] : List (AnyV)), true, (0 : Int))).bind fun o2 => L 6 [] k (Ow (a1, ((List.length a1 : Nat) : Int), (0 : Int), a0, a1, a2, a3, a4, a5, a6, a7, o2.1, o2.2.1, o2.2.2)))
theorem A6s (k : Nat) (x : H53) : Ki k x = Ab5 k (Cq k).J (Cq k).L x := by
 refine (Ae _ _).trans ?_; apply cutX (Cq k) [] [] (st0 (Cq k).C Tryz.f8 Ab7 x) [(15, [])] [(6, [], k)] (Ab5 k · · x) <;> intros <;> kernel_rfl
noncomputable def To (k j6 : Nat) (J : JF ((List (Int)) × (Int))) (L : LF ((List (Int)) × (Int))) : Ab4 → Option ((List (Int)) × (Int))
 | (a0, a1, a2, a3, a4, a5, a6, a7, a8, a9, a10, a11, a12, a13) => bif (decide (a2 < a1)) then (idx zt4 a0 a2 fun o1 => ((Rx k) (([(AnyV.mk 9 false [.str ([110, 111, 100, 101] : List Int)]), (AnyV.mk 9 false [.str o1.1]), (AnyV.mk 9 false [.str ([111, 102, 102, 115, 101, 116] : List Int)]), (AnyV.mk 2 false [.int .i64 o1.2.1]), (AnyV.mk 9 false [.str ([115, 117, 109] : List Int)]), (AnyV.mk 53 true [.int .i64 o1.2.2.2.1.1, .int .i64 o1.2.2.2.1.2.1])] : List (AnyV)), a11, a12, o1.1, o1.2.1, o1.2.2.1, o1.2.2.2.1.1, o1.2.2.2.1.2.1, a13)).bind fun o2 => L 6 [] j6 (Ow (a0, a1, (IntKind.wrap .i64 (a2 + (1 : Int))), a3, a4, a5, a6, a7, a8, a9, a10, o2.1, o2.2.1, o2.2.2.2.2.2.2.2))) else (((Cd k) (([59] : List Int), ([(AnyV.mk 9 false [.str ([111, 117, 116] : List Int)]), (AnyV.mk 2 false [.int .i64 a5]), (AnyV.mk 2 false [.int .i64 a6])] : List (AnyV)), a11, a12, a13)).bind fun o3 => ((Cd k) (([59] : List Int), ([(AnyV.mk 9 false [.str ([105, 110] : List Int)]), (AnyV.mk 2 false [.int .i64 a7]), (AnyV.mk 2 false [.int .i64 a8])] : List (AnyV)), o3.1, o3.2.1, o3.2.2)).bind fun o4 => bif a9 then (J 15 [] (Ov (([121, 101, 115] : List Int), a3, a4, a5, a6, a7, a8, a9, a10, o4.1, o4.2.1, o4.2.2))) else (J 15 [] (Ov (([110, 111] : List Int), a3, a4, a5, a6, a7, a8, a9, a10, o4.1, o4.2.1, o4.2.2))))
theorem Anf (k j6 : Nat) (x : Ab4) : (Cq k).L 6 [] (j6 + 1) (Ow x) = To k j6 (Cq k).J (Cq k).L x := by
 apply cutX (Cq k) [.r, .r, .r, .r, .l, .r, .b, .b] [j6] (Ow x) [(15, [])] [(6, [], j6)] (To k j6 · · x) <;> intros <;> kernel_rfl
noncomputable def Ab6 (k : Nat) (J : JF ((List (Int)) × (Int))) (L : LF ((List (Int)) × (Int))) : Ab3 → Option ((List (Int)) × (Int))
 | (a0, a1, a2, a3, a4, a5, a6, a7, a8, a9, a10, a11) => ((Cd k) (([59] : List Int), ([(AnyV.mk 9 false [.str ([98, 101, 115, 116] : List Int)]), (AnyV.mk 9 false [.str a0])] : List (AnyV)), a9, a10, a11)).bind fun o1 => ((Cd k) (([59] : List Int), ([(AnyV.mk 9 false [.str ([115, 112, 101, 110, 116] : List Int)]), (AnyV.mk 2 false [.int .i64 a8])] : List (AnyV)), o1.1, o1.2.1, o1.2.2)).bind fun o2 => ((Xe k) (o2.1, o2.2.1, o2.2.2)).bind fun o3 => some (o3.1, (0 : Int))
theorem A6t (k : Nat) (x : Ab3) : (Cq k).J 15 [] (Ov x) = Ab6 k (Cq k).J (Cq k).L x := by
 apply cutX (Cq k) [.r, .r, .r, .r, .r, .r, .r, .r, .r] [] (Ov x) [(15, [])] [(6, [], k)] (Ab6 k · · x) <;> intros <;> kernel_rfl
theorem A0l (k : Nat) : Ac Tryz.prog 8 (Av1 k) := Aj (Cq k).C k rfl ⟨⟨A0m k, trivial⟩, ⟨A1o k, Ni k, trivial⟩, ⟨A1n k, trivial⟩, ⟨A1v k, trivial⟩, trivial⟩ Ad Tryz.func8 (by kernel_rfl)
def Ars : Sk := ⟨[.lf (.pv (.slice (.int .u8)))], [], []⟩
def Art : Sk := ⟨[.lf (.pv .bool)], [], []⟩
abbrev Bac := (List (Int))
def Bab (k : Nat) : EnvL := [(4, [Av0 k]), (5, [Axb k]), (6, [Af6 k]), (7, [Af5 k]), (8, [Av1 k])]
def Arq (k : Nat) : Cfg := { mkC (Bab k) 147 0 0 with bl := [66, 68] }
def Xg (k : Nat) : (List (Int)) → Option Bool := hid (Ah (Arq k) k Tryz.f3 Ars Art)
def Bct (k : Nat) : Sig := Ag Ars Art (Xg k)
noncomputable def Arr (k : Nat) : (List (Int)) → Option Bool
 | a0 => bif (decide (((List.length a0 : Nat) : Int) > (6000 : Int))) then (some true) else (((M8 k) (a0)).bind fun o1 => bif (o1.2.2.2.2.2.2.2.1 != (0 : Int)) then (((Nl k) (())).bind fun o2 => some o2) else (((F2 k) (o1.1, o1.2.2.2.2.2.2.2.2.2, o1.2.1, o1.2.2.1, o1.2.2.2.1, o1.2.2.2.2.1, o1.2.2.2.2.2.1, o1.2.2.2.2.2.2.1)).bind fun o3 => bif (o3.1 != (0 : Int)) then (some false) else (bif (decide (((List.length o3.2 : Nat) : Int) < (1 : Int))) then (some false) else (((G7 k) (o3.2)).bind fun o4 => cut o3.2 (0 : Int) (IntKind.wrap .i64 (((List.length o3.2 : Nat) : Int) - (1 : Int))) fun o5 => ((G7 k) (o5)).bind fun o6 => ((Ki k) (o1.1, o1.2.2.2.2.2.2.2.2.2, o1.2.1, o1.2.2.1, o1.2.2.2.1, o1.2.2.2.2.1, o1.2.2.2.2.2.1, o1.2.2.2.2.2.2.1)).bind fun o7 => ((Ki k) (o4.1, o4.2.2.2.2.2.2.2.2.2, o4.2.1, o4.2.2.1, o4.2.2.2.1, o4.2.2.2.2.1, o4.2.2.2.2.2.1, o4.2.2.2.2.2.2.1)).bind fun o8 => bif (o4.2.2.2.2.2.2.2.1 == (0 : Int)) then (bif (o7.2 == o8.2) then (bif (o7.1 == o8.1) then (bif (o6.2.2.2.2.2.2.2.1 == (50 : Int)) then (bif (o6.2.2.2.2.2.2.2.2.1 == (IntKind.wrap .i64 (((List.length o3.2 : Nat) : Int) - (1 : Int)))) then (((Nl k) (())).bind fun o9 => some o9) else (some false)) else (some false)) else (some false)) else (some false)) else (some false)))))
theorem Bad (k : Nat) (x : (List (Int))) : Xg k x = Arr k x := (Ae _ _).trans (by kernel_rfl)
theorem A12 (k : Nat) : Ac Tryz.prog 3 (Bct k) := Aj (Arq k) k rfl ⟨⟨A0j k, trivial⟩, ⟨A13 k, trivial⟩, ⟨Ahz k, trivial⟩, ⟨Ahy k, trivial⟩, ⟨A0l k, trivial⟩, trivial⟩ Ad Tryz.func3 (by kernel_rfl)
end
section
variable {α β R : Type} {d : α} {l : List α} {i : Nat} {x : α}
theorem J8 (h : l[i]? = some x) : i < l.length := (List.getElem?_eq_some_iff.1 h).1
theorem I3 (h : l[i]? = some x) : x ∈ l := List.mem_of_getElem? h
theorem Wd (h : l[i]? = some x) : l.drop i = x :: l.drop (i + 1) := by
 obtain ⟨h1, h2⟩ := List.getElem?_eq_some_iff.1 h
 rw [List.drop_eq_getElem_cons h1, h2]
theorem Df {K : α → Option R} (h : l[i]? = some x) : idx d l (i : Int) K = K x := by
 have := J8 h
 unfold idx
 rw [cinB, if_pos (by omega), rdA_nat, List.getD_eq_getElem?_getD, h]
 rfl
theorem Ar8 {l : List Int} {x : Int} {K : Int → Option R} (h : l[i]? = some x) : idxI l (i : Int) K = K x := by
 have := J8 h
 unfold idxI
 rw [cinB, if_pos (by omega), Vk, List.getD_eq_getElem?_getD, h]
 rfl
theorem Ee {a b : β} (h : l[i]? = some x) : (bif decide ((i : Int) < ((l.length : Nat) : Int)) then a else b) = a := by
 have := J8 h
 rw [cd, if_pos (by omega)]
theorem Gj {a b : β} : (bif decide (((l.length : Nat) : Int) < ((l.length : Nat) : Int)) then a else b) = b := by
 rw [cd, if_neg (by omega)]
theorem Gu (h : l[i]? = some x) (hl : l.length < 1000000) : IntKind.wrap .i64 ((i : Int) + 1) = ((i + 1 : Nat) : Int) := by
 have := J8 h
 rw [w64 (by omega)]
 rfl
theorem Kb {a b : List Int} {K : List Int → Option R} (h : a.length + b.length ≤ 9223372036854775807) : cat a b K = K (a ++ b) := by
 unfold cat
 rw [cd]
 exact if_pos h
theorem Cw {n : Nat} {a b : List α} {K : List α → Option R} (h : (a.length + b.length) * n ≤ 140737488355328) (h2 : a.length + b.length ≤ 9223372036854775807) : app n a b K = K (a ++ b) := by
 unfold app
 rw [cappB, if_pos ⟨h, h2⟩]
theorem Ar9 (hz : i ≤ l.length) : i = l.length ∨ ∃ x, l[i]? = some x := by
 by_cases h : i < l.length
 ·exact .inr ⟨l[i], List.getElem?_eq_getElem h⟩
 ·exact .inl (by omega)
theorem Ahg (l : List α) (p : α → Bool) (g : α → Option Bool) (F : Nat → Int → Option Int) (hl : l.length < 1000000)
  (hF : ∀ j i, F (j + 1) i = bif decide (i < ((l.length : Nat) : Int)) then (idx d l i fun o => (g o).bind fun o2 => bif o2 then some i else F j (IntKind.wrap .i64 (i + 1))) else some (-1))
  (hg : ∀ x ∈ l, g x = some (p x)) : ∀ (j i : Nat), l.length < i + j → i ≤ l.length → ∃ r, F j (i : Int) = some r ∧ decide (r ≥ 0) = (l.drop i).any p
 | 0, i, h, hi => by omega
 | j + 1, i, h, hi => by
  rw [hF]
  rcases Ar9 hi with rfl | ⟨x, hx⟩
  ·rw [Gj, List.drop_length]
   exact ⟨_, rfl, rfl⟩
  ·rw [Ee hx, Df hx, hg x (I3 hx), Option.bind_some, Gu hx hl, Wd hx, List.any_cons]
   cases p x with
   | true => exact ⟨_, rfl, by simp⟩
   | false => exact Ahg l p g F hl hF hg j (i + 1) (by omega) (by have := J8 hx; omega)
theorem any_all (l : List α) (p : α → Bool) : l.any (fun x => !p x) = !(l.all p) := by
 induction l with
 | nil => rfl
 | cons x r ih => rw [List.any_cons, List.all_cons, ih, Bool.not_and]
theorem Ahh (M : Nat) (l : List α) (f : α → List β) (F : Nat → Int → List β → Option R) (r : List β → Option R)
  (h1 : ∀ j i x b, l[i]? = some x → b.length + (f x).length ≤ M → F (j + 1) ((i : Nat) : Int) b = F j ((i + 1 : Nat) : Int) (b ++ f x)) (h0 : ∀ j b, b.length ≤ M → F (j + 1) ((l.length : Nat) : Int) b = r b) :
  ∀ (j i : Nat) (b : List β), l.length < i + j → i ≤ l.length → b.length + ((l.drop i).flatMap f).length ≤ M → F j (i : Int) b = r (b ++ (l.drop i).flatMap f)
 | 0, i, b, h, hi, hb => by omega
 | j + 1, i, b, h, hi, hb => by
  rcases Ar9 hi with rfl | ⟨x, hx⟩
  ·rw [h0 _ _ (by omega), List.drop_length]
   simp
  ·rw [Wd hx, List.flatMap_cons, List.length_append] at hb
   rw [h1 j i x b hx (by omega), Ahh M l f F r h1 h0 j (i + 1) (b ++ f x) (by omega) (by have := J8 hx; omega) (by rw [List.length_append]; omega), Wd hx, List.flatMap_cons, List.append_assoc]
theorem I2 (M : Nat) (l : List α) (f : α → List β) (F : Nat → Int → List β → Option R) (r : List β → Option R)
  (h1 : ∀ j i x b, l[i]? = some x → b.length + (f x).length ≤ M → F (j + 1) ((i : Nat) : Int) b = F j ((i + 1 : Nat) : Int) (b ++ f x)) (h0 : ∀ j b, b.length ≤ M → F (j + 1) ((l.length : Nat) : Int) b = r b)
  (j : Nat) (b : List β) (h : l.length < j) (hb : b.length + (l.flatMap f).length ≤ M) : F j 0 b = r (b ++ l.flatMap f) :=
 Ahh M l f F r h1 h0 j 0 b (by omega) (by omega) hb
theorem Ib (f : α → List β) (m : Nat) : ∀ (l : List α), (∀ x ∈ l, (f x).length ≤ m) → (l.flatMap f).length ≤ l.length * m
 | [], _ => by simp
 | x :: r, h => by
  have := h x (by simp)
  have IH := Ib f m r fun y hy => h y (by simp [hy])
  rw [List.flatMap_cons, List.length_append, List.length_cons, Nat.add_mul]
  omega
end
end Go.Proofs.YtghmhkpgdmgepaaGreatDoorV
