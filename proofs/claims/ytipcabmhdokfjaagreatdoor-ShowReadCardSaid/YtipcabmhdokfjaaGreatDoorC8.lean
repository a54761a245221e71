import Derived.Test.YtipcabmhdokfjaaGreatDoorC7
import Derived.Test.YtipcabmhdokfjaaGreatDoorC3
/-! Joined, names shortened: G6, G7, VM, LxS, LxP, LxR, LxQ, SR, SR2, NR. -/
set_option linter.unusedVariables false
set_option linter.unusedSimpArgs false
set_option maxHeartbeats 4000000
set_option maxRecDepth 100000
namespace Go.Proofs.YtipcabmhdokfjaaGreatDoorV
open Go Go.RowKit
noncomputable section
abbrev H165 : Type := (List Int) × (List Int) × (List Int) × (List Int) × (List Int) × (List Int) × (List Int) × (Int) × (List Int) × (Int) × (Int) × (Int) × (Int) × (Int) × (Int) × (Int) × (Bool) × (List (YT8))
abbrev H166 : Type := (Bool) × (Int) × (Int) × (List (YT8)) × (List Int) × (List Int) × (List Int) × (List Int) × (List Int) × (List Int) × (List Int) × (Int) × (List Int) × (Int) × (Int) × (Int) × (Int) × (Int) × (Int) × (Int) × (Bool) × (List (YT6))
def fpalli : Sk := ⟨[.lf (.ptr 0 0), .lf (.sb 1 12)], [[.own 0], q4, [.ptr 0 0], [.pv .str], [.ptr 0 0], [.ptr 30 0], [.ptr 0 0], [.pv .str], [.ptr 0 0], [.ptr 30 1], [.ptr 0 0], [.pv .str], [.ptr 0 0], [.ptr 30 2], [.ptr 0 0], [.pv .str], [.ptr 0 0], [.pv .str], [.ptr 0 0], [.ptr 30 3], [.ptr 0 0], [.pv .str], [.ptr 0 0], [.pv .str], [.ptr 30 5], [.pv (.int .i64)], [.fn 97 [(0, 0)] []], [.ptr 0 0], [.pv .str], [.ptr 31 0], q3, [.pv .bool]], [some (135, yt8)]⟩
def fpallo : Sk := ⟨[.lf (.erp 88 [(.int .i64), (.int .i64)])], [[.pv (.slice yt8)], q4, [.ptr 0 0], [.pv .str], [.ptr 0 0], [.ptr 30 0], [.ptr 0 0], [.pv .str], [.ptr 0 0], [.ptr 30 1], [.ptr 0 0], [.pv .str], [.ptr 0 0], [.ptr 30 2], [.ptr 0 0], [.pv .str], [.ptr 0 0], [.pv .str], [.ptr 0 0], [.ptr 30 3], [.ptr 0 0], [.pv .str], [.ptr 0 0], [.pv .str], [.ptr 30 5], [.pv (.int .i64)], [.fn 97 [(0, 0)] []], [.ptr 0 0], [.pv .str], [.ptr 31 0], q25, [.pv .bool]], [none, some (46, yt6)]⟩
def fpallE (k : Nat) : EnvL := [(142, [Bmi k, Fm k]), (146, [Bll k, Blm k, Blx k]), (147, [Bj9 k]), (148, [Bjn k]), (161, [Aob k])]
def Aw4 (k : Nat) : Cfg := mkC (fpallE k) 69 32 1
def cpall (k : Nat) : H165 → Option H166 := hid (Ac (Aw4 k) (k + 32) Tryz.f92 fpalli fpallo)
def sgpall (k : Nat) : Sig := Ab fpalli fpallo (cpall k)
noncomputable def Aw5 (k : Nat) : H165 → Option H166
 | (a0, a1, a2, a3, a4, a5, a6, a7, a8, a9, a10, a11, a12, a13, a14, a15, a16, a17) => ((Vl k) (a0, a17)).bind fun o1 => bif (!o1.1) then (some (o1.1, o1.2.1, o1.2.2.1, o1.2.2.2.2, o1.2.2.2.1, a1, a2, a3, a4, a5, a6, a7, a8, a9, a10, a11, a12, a13, a14, a15, a16, [])) else (((Us k) (o1.2.2.2.2, a9, a10, a11, a12, a13, a14, a15)).bind fun o2 => bif (!o2.1) then (some (o2.1, o2.2.1, o2.2.2.1, o2.2.2.2.1, o1.2.2.2.1, a1, a2, a3, a4, a5, a6, a7, a8, o2.2.2.2.2.1, o2.2.2.2.2.2.1, o2.2.2.2.2.2.2.1, o2.2.2.2.2.2.2.2.1, o2.2.2.2.2.2.2.2.2.1, o2.2.2.2.2.2.2.2.2.2.1, o2.2.2.2.2.2.2.2.2.2.2, a16, [])) else (((Bj k) (a1, o2.2.2.2.1)).bind fun o3 => bif (!o3.1) then (some (o3.1, o3.2.1, o3.2.2.1, o3.2.2.2.2, o1.2.2.2.1, o3.2.2.2.1, a2, a3, a4, a5, a6, a7, a8, o2.2.2.2.2.1, o2.2.2.2.2.2.1, o2.2.2.2.2.2.2.1, o2.2.2.2.2.2.2.2.1, o2.2.2.2.2.2.2.2.2.1, o2.2.2.2.2.2.2.2.2.2.1, o2.2.2.2.2.2.2.2.2.2.2, a16, [])) else (((Ut k) (o3.2.2.2.2, o2.2.2.2.2.1, o2.2.2.2.2.2.1, o2.2.2.2.2.2.2.1, o2.2.2.2.2.2.2.2.1, o2.2.2.2.2.2.2.2.2.1, o2.2.2.2.2.2.2.2.2.2.1, o2.2.2.2.2.2.2.2.2.2.2)).bind fun o4 => bif (!o4.1) then (some (o4.1, o4.2.1, o4.2.2.1, o4.2.2.2.1, o1.2.2.2.1, o3.2.2.2.1, a2, a3, a4, a5, a6, a7, a8, o4.2.2.2.2.1, o4.2.2.2.2.2.1, o4.2.2.2.2.2.2.1, o4.2.2.2.2.2.2.2.1, o4.2.2.2.2.2.2.2.2.1, o4.2.2.2.2.2.2.2.2.2.1, o4.2.2.2.2.2.2.2.2.2.2, a16, [])) else (((Bj k) (a2, o4.2.2.2.1)).bind fun o5 => bif (!o5.1) then (some (o5.1, o5.2.1, o5.2.2.1, o5.2.2.2.2, o1.2.2.2.1, o3.2.2.2.1, o5.2.2.2.1, a3, a4, a5, a6, a7, a8, o4.2.2.2.2.1, o4.2.2.2.2.2.1, o4.2.2.2.2.2.2.1, o4.2.2.2.2.2.2.2.1, o4.2.2.2.2.2.2.2.2.1, o4.2.2.2.2.2.2.2.2.2.1, o4.2.2.2.2.2.2.2.2.2.2, a16, [])) else (((U4 k) (o5.2.2.2.2, o4.2.2.2.2.1, o4.2.2.2.2.2.1, o4.2.2.2.2.2.2.1, o4.2.2.2.2.2.2.2.1, o4.2.2.2.2.2.2.2.2.1, o4.2.2.2.2.2.2.2.2.2.1, o4.2.2.2.2.2.2.2.2.2.2)).bind fun o6 => bif (!o6.1) then (some (o6.1, o6.2.1, o6.2.2.1, o6.2.2.2.1, o1.2.2.2.1, o3.2.2.2.1, o5.2.2.2.1, a3, a4, a5, a6, a7, a8, o6.2.2.2.2.1, o6.2.2.2.2.2.1, o6.2.2.2.2.2.2.1, o6.2.2.2.2.2.2.2.1, o6.2.2.2.2.2.2.2.2.1, o6.2.2.2.2.2.2.2.2.2.1, o6.2.2.2.2.2.2.2.2.2.2, a16, [])) else (((Bj k) (a3, o6.2.2.2.1)).bind fun o7 => bif (!o7.1) then (some (o7.1, o7.2.1, o7.2.2.1, o7.2.2.2.2, o1.2.2.2.1, o3.2.2.2.1, o5.2.2.2.1, o7.2.2.2.1, a4, a5, a6, a7, a8, o6.2.2.2.2.1, o6.2.2.2.2.2.1, o6.2.2.2.2.2.2.1, o6.2.2.2.2.2.2.2.1, o6.2.2.2.2.2.2.2.2.1, o6.2.2.2.2.2.2.2.2.2.1, o6.2.2.2.2.2.2.2.2.2.2, a16, [])) else (((Bj k) (a4, o7.2.2.2.2)).bind fun o8 => bif (!o8.1) then (some (o8.1, o8.2.1, o8.2.2.1, o8.2.2.2.2, o1.2.2.2.1, o3.2.2.2.1, o5.2.2.2.1, o7.2.2.2.1, o8.2.2.2.1, a5, a6, a7, a8, o6.2.2.2.2.1, o6.2.2.2.2.2.1, o6.2.2.2.2.2.2.1, o6.2.2.2.2.2.2.2.1, o6.2.2.2.2.2.2.2.2.1, o6.2.2.2.2.2.2.2.2.2.1, o6.2.2.2.2.2.2.2.2.2.2, a16, [])) else (((Uc k) (o8.2.2.2.2, o6.2.2.2.2.1, o6.2.2.2.2.2.1, o6.2.2.2.2.2.2.1, o6.2.2.2.2.2.2.2.1, o6.2.2.2.2.2.2.2.2.1, o6.2.2.2.2.2.2.2.2.2.1, o6.2.2.2.2.2.2.2.2.2.2)).bind fun o9 => bif (!o9.1) then (some (o9.1, o9.2.1, o9.2.2.1, o9.2.2.2.1, o1.2.2.2.1, o3.2.2.2.1, o5.2.2.2.1, o7.2.2.2.1, o8.2.2.2.1, a5, a6, a7, a8, o9.2.2.2.2.1, o9.2.2.2.2.2.1, o9.2.2.2.2.2.2.1, o9.2.2.2.2.2.2.2.1, o9.2.2.2.2.2.2.2.2.1, o9.2.2.2.2.2.2.2.2.2.1, o9.2.2.2.2.2.2.2.2.2.2, a16, [])) else (((Bj k) (a5, o9.2.2.2.1)).bind fun o10 => bif (!o10.1) then (some (o10.1, o10.2.1, o10.2.2.1, o10.2.2.2.2, o1.2.2.2.1, o3.2.2.2.1, o5.2.2.2.1, o7.2.2.2.1, o8.2.2.2.1, o10.2.2.2.1, a6, a7, a8, o9.2.2.2.2.1, o9.2.2.2.2.2.1, o9.2.2.2.2.2.2.1, o9.2.2.2.2.2.2.2.1, o9.2.2.2.2.2.2.2.2.1, o9.2.2.2.2.2.2.2.2.2.1, o9.2.2.2.2.2.2.2.2.2.2, a16, [])) else (((T5 k) (a6, a7, o10.2.2.2.2, o9.2.2.2.2.1, o9.2.2.2.2.2.1, o9.2.2.2.2.2.2.1, o9.2.2.2.2.2.2.2.1, o9.2.2.2.2.2.2.2.2.1, o9.2.2.2.2.2.2.2.2.2.1, o9.2.2.2.2.2.2.2.2.2.2)).bind fun o11 => bif (!o11.1) then (some (o11.1, o11.2.1, o11.2.2.1, o11.2.2.2.2.2.1, o1.2.2.2.1, o3.2.2.2.1, o5.2.2.2.1, o7.2.2.2.1, o8.2.2.2.1, o10.2.2.2.1, o11.2.2.2.1, o11.2.2.2.2.1, a8, o11.2.2.2.2.2.2.1, o11.2.2.2.2.2.2.2.1, o11.2.2.2.2.2.2.2.2.1, o11.2.2.2.2.2.2.2.2.2.1, o11.2.2.2.2.2.2.2.2.2.2.1, o11.2.2.2.2.2.2.2.2.2.2.2.1, o11.2.2.2.2.2.2.2.2.2.2.2.2.1, a16, o11.2.2.2.2.2.2.2.2.2.2.2.2.2)) else (((Ps k) (a8, o11.2.2.2.2.2.1, a16)).bind fun o12 => some (true, (0 : Int), (0 : Int), o12.2.1, o1.2.2.2.1, o3.2.2.2.1, o5.2.2.2.1, o7.2.2.2.1, o8.2.2.2.1, o10.2.2.2.1, o11.2.2.2.1, o11.2.2.2.2.1, o12.1, o11.2.2.2.2.2.2.1, o11.2.2.2.2.2.2.2.1, o11.2.2.2.2.2.2.2.2.1, o11.2.2.2.2.2.2.2.2.2.1, o11.2.2.2.2.2.2.2.2.2.2.1, o11.2.2.2.2.2.2.2.2.2.2.2.1, o11.2.2.2.2.2.2.2.2.2.2.2.2.1, o12.2.2, o11.2.2.2.2.2.2.2.2.2.2.2.2.2))))))))))))
theorem fpall_e (k : Nat) (x : H165) : cpall k x = Aw5 k x := (Af _ _).trans (by kernel_rfl)
theorem Brq (k : Nat) : Aa Tryz.prog 92 (sgpall k) := Ae (Aw4 k) (k + 32) rfl ⟨⟨Buk k, Fv k, trivial⟩, ⟨Btz k, Btp k, Btr k, trivial⟩, ⟨Brw k, trivial⟩, ⟨Bq0 k, trivial⟩, ⟨Aqk k, trivial⟩, trivial⟩ Ad Tryz.func92 (by kernel_rfl)
abbrev H167 : Type := (List (YT8)) × (Int) × (Int) × (Int) × (Int) × (Int) × (Int) × (Int) × (List Int) × (Int) × (List (YT6))
def Avq : Sk := ⟨[.lf (.ptr 0 0), .lf (.pv .str), .lf (.pv (.int .i64)), .lf (.ptr 1 6), .lf (.fn 100 [(0, 0)] [])], [[.pv (.slice yt8)], q24], [some (46, yt6)]⟩
def Avr : Sk := ⟨[.lf (.fn 162 [] [(2, 0), (3, 0), (4, 0), (5, 0), (6, 0)])], [[.pv (.slice yt8)], q24, [.ptr 0 0], [.pv .str], [.ptr 1 6], [.pv (.int .i64)], [.fn 100 [(0, 0)] []]], [some (46, yt6)]⟩
def Avn (k : Nat) : Cfg := { mkC [] 60 2 1 with bl := [54, 56] }
def Aar (k : Nat) : H162 → Option H167 := hid (Ac (Avn k) k Tryz.f99 Avq Avr)
def Bju (k : Nat) : Sig := Ab Avq Avr (Aar k)
noncomputable def Avp (k : Nat) : H162 → Option H167
 | (a0, a1, a2, a3, a4, a5, a6, a7, a8, a9, a10) => some (a2, a3, a4, a5, a6, a7, a8, a9, a0, a1, a10)
theorem B02 (k : Nat) (x : H162) : Aar k x = Avp k x := (Af _ _).trans (by kernel_rfl)
theorem Bq9 (k : Nat) : Aa Tryz.prog 99 (Bju k) := Ae (Avn k) (l := []) k rfl trivial Ad Tryz.func99 (by kernel_rfl)
abbrev H168 : Type := (List (YT8)) × (Int) × (Int) × (Int) × (Int) × (Int) × (Int) × (Int) × (List (YT6))
def A1t : Sk := ⟨[.lf (.ptr 0 0), .lf (.ptr 1 7)], [[.pv (.slice yt8)], q24], [some (46, yt6)]⟩
def A1u : Sk := ⟨[.lf (.fn 146 [] [(2, 0), (3, 0)])], [[.pv (.slice yt8)], q24, [.ptr 0 0], [.ptr 1 7]], [some (46, yt6)]⟩
def A1r (k : Nat) : Cfg := { mkC [] 54 2 1 with bl := [54, 56] }
def Abo (k : Nat) : H168 → Option H168 := hid (Ac (A1r k) k Tryz.f94 A1t A1u)
def Bk9 (k : Nat) : Sig := Ab A1t A1u (Abo k)
noncomputable def A1s (k : Nat) : H168 → Option H168
 | (a0, a1, a2, a3, a4, a5, a6, a7, a8) => some (a0, a1, a2, a3, a4, a5, a6, a7, a8)
theorem B3s (k : Nat) (x : H168) : Abo k x = A1s k x := (Af _ _).trans (by kernel_rfl)
theorem Bs2 (k : Nat) : Aa Tryz.prog 94 (Bk9 k) := Ae (A1r k) (l := []) k rfl trivial Ad Tryz.func94 (by kernel_rfl)
def A1x : Sk := ⟨[.lf (.ptr 0 0), .lf (.ptr 1 8)], [[.pv (.slice yt8)], q24], [some (46, yt6)]⟩
def A1y : Sk := ⟨[.lf (.fn 146 [] [(2, 0), (3, 0)])], [[.pv (.slice yt8)], q24, [.ptr 0 0], [.ptr 1 8]], [some (46, yt6)]⟩
def A1v (k : Nat) : Cfg := { mkC [] 54 2 1 with bl := [54, 56] }
def Abp (k : Nat) : H168 → Option H168 := hid (Ac (A1v k) k Tryz.f94 A1x A1y)
def Bla (k : Nat) : Sig := Ab A1x A1y (Abp k)
noncomputable def A1w (k : Nat) : H168 → Option H168
 | (a0, a1, a2, a3, a4, a5, a6, a7, a8) => some (a0, a1, a2, a3, a4, a5, a6, a7, a8)
theorem B3t (k : Nat) (x : H168) : Abp k x = A1w k x := (Af _ _).trans (by kernel_rfl)
theorem Bs3 (k : Nat) : Aa Tryz.prog 94 (Bla k) := Ae (A1v k) (l := []) k rfl trivial Ad Tryz.func94 (by kernel_rfl)
abbrev H169 : Type := (List (YT8)) × (List Int) × (List Int) × (List Int) × (Int) × (Int) × (Int)
def A5k : Sk := ⟨[.lf (.ptr 0 0), .lf (.ptr 1 5)], [[.pv (.slice yt8)], q27], []⟩
def A5l : Sk := ⟨[.lf (.fn 191 [] [(2, 0), (3, 0)])], [[.pv (.slice yt8)], q27, [.ptr 0 0], [.ptr 1 5]], []⟩
def A5i (k : Nat) : Cfg := { mkC [] 54 2 0 with bl := [54, 56] }
def Ab4 (k : Nat) : H169 → Option H169 := hid (Ac (A5i k) k Tryz.f149 A5k A5l)
def Bma (k : Nat) : Sig := Ab A5k A5l (Ab4 k)
noncomputable def A5j (k : Nat) : H169 → Option H169
 | (a0, a1, a2, a3, a4, a5, a6) => some (a0, a1, a2, a3, a4, a5, a6)
theorem B5g (k : Nat) (x : H169) : Ab4 k x = A5j k x := (Af _ _).trans (by kernel_rfl)
theorem Bt6 (k : Nat) : Aa Tryz.prog 149 (Bma k) := Ae (A5i k) (l := []) k rfl trivial Ad Tryz.func149 (by kernel_rfl)
def Azd : Sk := ⟨[.lf (.ptr 0 0), .lf (.ptr 1 0)], [[.pv (.slice yt8)], q27], []⟩
def Aze : Sk := ⟨[.lf (.fn 192 [] [(2, 0), (3, 0)])], [[.pv (.slice yt8)], q27, [.ptr 0 0], [.ptr 1 0]], []⟩
def Azb (k : Nat) : Cfg := { mkC [] 54 2 0 with bl := [54, 56] }
def Abd (k : Nat) : H169 → Option H169 := hid (Ac (Azb k) k Tryz.f150 Azd Aze)
def Bkl (k : Nat) : Sig := Ab Azd Aze (Abd k)
noncomputable def Azc (k : Nat) : H169 → Option H169
 | (a0, a1, a2, a3, a4, a5, a6) => some (a0, a1, a2, a3, a4, a5, a6)
theorem B2l (k : Nat) (x : H169) : Abd k x = Azc k x := (Af _ _).trans (by kernel_rfl)
theorem Bsb (k : Nat) : Aa Tryz.prog 150 (Bkl k) := Ae (Azb k) (l := []) k rfl trivial Ad Tryz.func150 (by kernel_rfl)
def Azh : Sk := ⟨[.lf (.ptr 0 0), .lf (.ptr 1 1)], [[.pv (.slice yt8)], q27], []⟩
def Azi : Sk := ⟨[.lf (.fn 192 [] [(2, 0), (3, 0)])], [[.pv (.slice yt8)], q27, [.ptr 0 0], [.ptr 1 1]], []⟩
def Azf (k : Nat) : Cfg := { mkC [] 54 2 0 with bl := [54, 56] }
def Abe (k : Nat) : H169 → Option H169 := hid (Ac (Azf k) k Tryz.f150 Azh Azi)
def Bkm (k : Nat) : Sig := Ab Azh Azi (Abe k)
noncomputable def Azg (k : Nat) : H169 → Option H169
 | (a0, a1, a2, a3, a4, a5, a6) => some (a0, a1, a2, a3, a4, a5, a6)
theorem B2m (k : Nat) (x : H169) : Abe k x = Azg k x := (Af _ _).trans (by kernel_rfl)
theorem Bsc (k : Nat) : Aa Tryz.prog 150 (Bkm k) := Ae (Azf k) (l := []) k rfl trivial Ad Tryz.func150 (by kernel_rfl)
def Ayi : Sk := ⟨[.lf (.ptr 0 0), .lf (.ptr 1 2)], [[.pv (.slice yt8)], q27], []⟩
def Ayj : Sk := ⟨[.lf (.fn 192 [] [(2, 0), (3, 0)])], [[.pv (.slice yt8)], q27, [.ptr 0 0], [.ptr 1 2]], []⟩
def Ayg (k : Nat) : Cfg := { mkC [] 54 2 0 with bl := [54, 56] }
def Aa7 (k : Nat) : H169 → Option H169 := hid (Ac (Ayg k) k Tryz.f150 Ayi Ayj)
def Bkf (k : Nat) : Sig := Ab Ayi Ayj (Aa7 k)
noncomputable def Ayh (k : Nat) : H169 → Option H169
 | (a0, a1, a2, a3, a4, a5, a6) => some (a0, a1, a2, a3, a4, a5, a6)
theorem B2e (k : Nat) (x : H169) : Aa7 k x = Ayh k x := (Af _ _).trans (by kernel_rfl)
theorem Br4 (k : Nat) : Aa Tryz.prog 150 (Bkf k) := Ae (Ayg k) (l := []) k rfl trivial Ad Tryz.func150 (by kernel_rfl)
def A11 : Sk := ⟨[.lf (.ptr 0 0), .lf (.ptr 1 3)], [[.pv (.slice yt8)], q27], []⟩
def A12 : Sk := ⟨[.lf (.fn 146 [] [(2, 0), (3, 0)])], [[.pv (.slice yt8)], q27, [.ptr 0 0], [.ptr 1 3]], []⟩
def A1z (k : Nat) : Cfg := { mkC [] 54 2 0 with bl := [54, 56] }
def Abq (k : Nat) : H169 → Option H169 := hid (Ac (A1z k) k Tryz.f94 A11 A12)
def Blb (k : Nat) : Sig := Ab A11 A12 (Abq k)
noncomputable def A10 (k : Nat) : H169 → Option H169
 | (a0, a1, a2, a3, a4, a5, a6) => some (a0, a1, a2, a3, a4, a5, a6)
theorem B3u (k : Nat) (x : H169) : Abq k x = A10 k x := (Af _ _).trans (by kernel_rfl)
theorem Bs4 (k : Nat) : Aa Tryz.prog 94 (Blb k) := Ae (A1z k) (l := []) k rfl trivial Ad Tryz.func94 (by kernel_rfl)
def A19 : Sk := ⟨[.lf (.ptr 0 0), .lf (.ptr 1 4)], [[.pv (.slice yt8)], q27], []⟩
def A2a : Sk := ⟨[.lf (.fn 146 [] [(2, 0), (3, 0)])], [[.pv (.slice yt8)], q27, [.ptr 0 0], [.ptr 1 4]], []⟩
def A17 (k : Nat) : Cfg := { mkC [] 54 2 0 with bl := [54, 56] }
def Abs (k : Nat) : H169 → Option H169 := hid (Ac (A17 k) k Tryz.f94 A19 A2a)
def Bld (k : Nat) : Sig := Ab A19 A2a (Abs k)
noncomputable def A18 (k : Nat) : H169 → Option H169
 | (a0, a1, a2, a3, a4, a5, a6) => some (a0, a1, a2, a3, a4, a5, a6)
theorem B3w (k : Nat) (x : H169) : Abs k x = A18 k x := (Af _ _).trans (by kernel_rfl)
theorem Bs6 (k : Nat) : Aa Tryz.prog 94 (Bld k) := Ae (A17 k) (l := []) k rfl trivial Ad Tryz.func94 (by kernel_rfl)
def Ah4 : Sk := ⟨[.lf (.ptr 0 0), .lf (.ptr 1 0)], [[.ptr 2 0], [.ptr 3 5], [.pv (.slice yt8)], q27], []⟩
def A50 : Sk := ⟨[.lf (.nil .ifc)], Ah4.boxes, []⟩
def A5y (k : Nat) : Cfg := { mkC [] 60 4 0 with ld := [(3, 1), (4, 0), (5, 9999), (6, 9999), (7, 2), (9, 9999), (10, 9999), (11, 9999)], sr := [(11, 3)] }
def Vj (k : Nat) : H169 → Option H169 := hid (Ac (A5y k) k Tryz.f191 Ah4 A50)
def Bmg (k : Nat) : Sig := Ab Ah4 A50 (Vj k)
noncomputable def A5z (k : Nat) : H169 → Option H169
 | (a0, a1, a2, a3, a4, a5, a6) => idx zt8 a0 (0 : Int) fun o1 => some (a0, a1, a2, a3, a4, a5, o1.2.2.2.1)
theorem B5l (k : Nat) (x : H169) : Vj k x = A5z k x := (Af _ _).trans (by kernel_rfl)
theorem Bub (k : Nat) : Aa Tryz.prog 191 (Bmg k) := Ae (A5y k) (l := []) k rfl trivial Ad Tryz.func191 (by kernel_rfl)
abbrev H170 : Type := (Bool) × (Int) × (Int) × (List (YT8)) × (List Int) × (List Int) × (List Int) × (Int) × (Int) × (Int)
def Ag2 : Sk := ⟨[.lf (.ptr 0 0), .lf (.ptr 1 0)], [[.ptr 2 0], [.ptr 3 0], [.pv (.slice yt8)], q27], []⟩
def Az9 : Sk := ⟨[.lf (.erp 88 [(.int .i64), (.int .i64)])], Ag2.boxes, []⟩
def B23 (k : Nat) : EnvL := [(193, [sgpnamed k]), (144, [A9 k]), (145, [Ba k])]
def Az7 (k : Nat) : Cfg := { mkC (B23 k) 61 4 0 with ef := [(10, (([2], []), ([], [])))], ld := [(8, 1), (9, 0), (12, 9999)], sr := [(12, 3)] }
def Uo (k : Nat) : H169 → Option H170 := hid (Ac (Az7 k) k Tryz.f192 Ag2 Az9)
def Bkw (k : Nat) : Sig := Ab Ag2 Az9 (Uo k)
noncomputable def Az8 (k : Nat) : H169 → Option H170
 | (a0, a1, a2, a3, a4, a5, a6) => ((cpnamed k) (a0)).bind fun o1 => bif (!o1.1) then (((A7 k) ((50 : Int), o1.2)).bind fun o2 => some (o2.1, o2.2.1, o2.2.2.1, o2.2.2.2, a1, a2, a3, a4, a5, a6)) else (((A4 k) (o1.2)).bind fun o3 => some (true, (0 : Int), (0 : Int), o3.2.2.2.2, o3.2.1, a2, a3, a4, a5, a6))
theorem B24 (k : Nat) (x : H169) : Uo k x = Az8 k x := (Af _ _).trans (by kernel_rfl)
theorem Bsl (k : Nat) : Aa Tryz.prog 192 (Bkw k) := Ae (Az7 k) k rfl ⟨⟨Gp k, trivial⟩, ⟨Bb k, trivial⟩, ⟨Bc k, trivial⟩, trivial⟩ Ad Tryz.func192 (by kernel_rfl)
def Ag3 : Sk := ⟨[.lf (.ptr 0 0), .lf (.ptr 1 0)], [[.ptr 2 0], [.ptr 3 1], [.pv (.slice yt8)], q27], []⟩
def A0c : Sk := ⟨[.lf (.erp 88 [(.int .i64), (.int .i64)])], Ag3.boxes, []⟩
def B25 (k : Nat) : EnvL := [(193, [sgpnamed k]), (144, [A9 k]), (145, [Ba k])]
def A0a (k : Nat) : Cfg := { mkC (B25 k) 61 4 0 with ef := [(10, (([2], []), ([], [])))], ld := [(8, 1), (9, 0), (12, 9999)], sr := [(12, 3)] }
def Up (k : Nat) : H169 → Option H170 := hid (Ac (A0a k) k Tryz.f192 Ag3 A0c)
def Bkx (k : Nat) : Sig := Ab Ag3 A0c (Up k)
noncomputable def A0b (k : Nat) : H169 → Option H170
 | (a0, a1, a2, a3, a4, a5, a6) => ((cpnamed k) (a0)).bind fun o1 => bif (!o1.1) then (((A7 k) ((50 : Int), o1.2)).bind fun o2 => some (o2.1, o2.2.1, o2.2.2.1, o2.2.2.2, a1, a2, a3, a4, a5, a6)) else (((A4 k) (o1.2)).bind fun o3 => some (true, (0 : Int), (0 : Int), o3.2.2.2.2, a1, o3.2.1, a3, a4, a5, a6))
theorem B26 (k : Nat) (x : H169) : Up k x = A0b k x := (Af _ _).trans (by kernel_rfl)
theorem Bsm (k : Nat) : Aa Tryz.prog 192 (Bkx k) := Ae (A0a k) k rfl ⟨⟨Gp k, trivial⟩, ⟨Bb k, trivial⟩, ⟨Bc k, trivial⟩, trivial⟩ Ad Tryz.func192 (by kernel_rfl)
def Agu : Sk := ⟨[.lf (.ptr 0 0), .lf (.ptr 1 0)], [[.ptr 2 0], [.ptr 3 2], [.pv (.slice yt8)], q27], []⟩
def Azl : Sk := ⟨[.lf (.erp 88 [(.int .i64), (.int .i64)])], Agu.boxes, []⟩
def B2n (k : Nat) : EnvL := [(193, [sgpnamed k]), (144, [A9 k]), (145, [Ba k])]
def Azj (k : Nat) : Cfg := { mkC (B2n k) 61 4 0 with ef := [(10, (([2], []), ([], [])))], ld := [(8, 1), (9, 0), (12, 9999)], sr := [(12, 3)] }
def Uh (k : Nat) : H169 → Option H170 := hid (Ac (Azj k) k Tryz.f192 Agu Azl)
def Bkp (k : Nat) : Sig := Ab Agu Azl (Uh k)
noncomputable def Azk (k : Nat) : H169 → Option H170
 | (a0, a1, a2, a3, a4, a5, a6) => ((cpnamed k) (a0)).bind fun o1 => bif (!o1.1) then (((A7 k) ((50 : Int), o1.2)).bind fun o2 => some (o2.1, o2.2.1, o2.2.2.1, o2.2.2.2, a1, a2, a3, a4, a5, a6)) else (((A4 k) (o1.2)).bind fun o3 => some (true, (0 : Int), (0 : Int), o3.2.2.2.2, a1, a2, o3.2.1, a4, a5, a6))
theorem B2o (k : Nat) (x : H169) : Uh k x = Azk k x := (Af _ _).trans (by kernel_rfl)
theorem Bsd (k : Nat) : Aa Tryz.prog 192 (Bkp k) := Ae (Azj k) k rfl ⟨⟨Gp k, trivial⟩, ⟨Bb k, trivial⟩, ⟨Bc k, trivial⟩, trivial⟩ Ad Tryz.func192 (by kernel_rfl)
def Ahm : Sk := ⟨[.lf (.ptr 0 0), .lf (.ptr 1 0)], [[.ptr 2 0], [.ptr 3 3], [.pv (.slice yt8)], q27], []⟩
def A3u : Sk := ⟨[.lf (.erp 88 [(.int .i64), (.int .i64)])], Ahm.boxes, []⟩
def B4j (k : Nat) : EnvL := [(144, [A9 k]), (145, [Ba k])]
def A3s (k : Nat) : Cfg := { mkC (B4j k) 66 4 0 with ef := [(15, (([2], []), ([], [])))], ld := [(13, 1), (14, 0), (17, 9999)], sr := [(17, 3)] }
def U1 (k : Nat) : H169 → Option H170 := hid (Ac (A3s k) k Tryz.f146 Ahm A3u)
def Blu (k : Nat) : Sig := Ab Ahm A3u (U1 k)
noncomputable def A3t (k : Nat) : H169 → Option H170
 | (a0, a1, a2, a3, a4, a5, a6) => idx zt8 a0 (0 : Int) fun o1 => bif (o1.1 != (2 : Int)) then (((A7 k) ((50 : Int), a0)).bind fun o2 => some (o2.1, o2.2.1, o2.2.2.1, o2.2.2.2, a1, a2, a3, a4, a5, a6)) else (((A4 k) (a0)).bind fun o3 => some (true, (0 : Int), (0 : Int), o3.2.2.2.2, a1, a2, a3, o3.2.2.1, a5, a6))
theorem B4k (k : Nat) (x : H169) : U1 k x = A3t k x := (Af _ _).trans (by kernel_rfl)
theorem Btm (k : Nat) : Aa Tryz.prog 146 (Blu k) := Ae (A3s k) k rfl ⟨⟨Bb k, trivial⟩, ⟨Bc k, trivial⟩, trivial⟩ Ad Tryz.func146 (by kernel_rfl)
def Ahn : Sk := ⟨[.lf (.ptr 0 0), .lf (.ptr 1 0)], [[.ptr 2 0], [.ptr 3 4], [.pv (.slice yt8)], q27], []⟩
def A3x : Sk := ⟨[.lf (.erp 88 [(.int .i64), (.int .i64)])], Ahn.boxes, []⟩
def B4l (k : Nat) : EnvL := [(144, [A9 k]), (145, [Ba k])]
def A3v (k : Nat) : Cfg := { mkC (B4l k) 66 4 0 with ef := [(15, (([2], []), ([], [])))], ld := [(13, 1), (14, 0), (17, 9999)], sr := [(17, 3)] }
def U2 (k : Nat) : H169 → Option H170 := hid (Ac (A3v k) k Tryz.f146 Ahn A3x)
def Blv (k : Nat) : Sig := Ab Ahn A3x (U2 k)
noncomputable def A3w (k : Nat) : H169 → Option H170
 | (a0, a1, a2, a3, a4, a5, a6) => idx zt8 a0 (0 : Int) fun o1 => bif (o1.1 != (2 : Int)) then (((A7 k) ((50 : Int), a0)).bind fun o2 => some (o2.1, o2.2.1, o2.2.2.1, o2.2.2.2, a1, a2, a3, a4, a5, a6)) else (((A4 k) (a0)).bind fun o3 => some (true, (0 : Int), (0 : Int), o3.2.2.2.2, a1, a2, a3, a4, o3.2.2.1, a6))
theorem B4m (k : Nat) (x : H169) : U2 k x = A3w k x := (Af _ _).trans (by kernel_rfl)
theorem Btn (k : Nat) : Aa Tryz.prog 146 (Blv k) := Ae (A3v k) k rfl ⟨⟨Bb k, trivial⟩, ⟨Bc k, trivial⟩, trivial⟩ Ad Tryz.func146 (by kernel_rfl)
abbrev H171 : Type := (List (YT8)) × (List Int) × (List Int) × (List Int) × (List Int) × (List Int) × (List Int) × (List Int) × (List Int) × (Int) × (Int) × (Int)
abbrev H172 : Type := (Bool) × (Int) × (Int) × (List (YT8)) × (List Int) × (List Int) × (List Int) × (List Int) × (List Int) × (List Int) × (List Int) × (List Int) × (Int) × (Int) × (Int)
def Agf : Sk := ⟨[.lf (.ptr 0 0), .lf (.sb 1 11)], [[.pv (.slice yt8)], q28, [.ptr 0 0], [.ptr 24 5], [.ptr 0 0], [.ptr 24 0], [.ptr 0 0], [.pv .str], [.ptr 0 0], [.ptr 24 1], [.ptr 0 0], [.pv .str], [.ptr 0 0], [.ptr 24 2], [.ptr 0 0], [.pv .str], [.ptr 0 0], [.ptr 24 3], [.ptr 0 0], [.pv .str], [.ptr 0 0], [.ptr 24 4], [.ptr 0 0], [.pv .str], q27], []⟩
def Av7 : Sk := ⟨[.lf (.erp 88 [(.int .i64), (.int .i64)])], Agf.boxes, []⟩
def B1b (k : Nat) : EnvL := [(191, [Bmg k]), (192, [Bkw k, Bkx k, Bkp k]), (142, [Fm k]), (146, [Blu k, Blv k])]
def Av5 (k : Nat) : Cfg := mkC (B1b k) 68 25 0
def Aaw (k : Nat) : H171 → Option H172 := hid (Ac (Av5 k) (k + 32) Tryz.f92 Agf Av7)
def Bj0 (k : Nat) : Sig := Ab Agf Av7 (Aaw k)
noncomputable def Av6 (k : Nat) : H171 → Option H172
 | (a0, a1, a2, a3, a4, a5, a6, a7, a8, a9, a10, a11) => ((Vj k) (a0, a6, a7, a8, a9, a10, a11)).bind fun o1 => ((Uo k) (o1.1, o1.2.1, o1.2.2.1, o1.2.2.2.1, o1.2.2.2.2.1, o1.2.2.2.2.2.1, o1.2.2.2.2.2.2)).bind fun o2 => bif (!o2.1) then (some (o2.1, o2.2.1, o2.2.2.1, o2.2.2.2.1, a1, a2, a3, a4, a5, o2.2.2.2.2.1, o2.2.2.2.2.2.1, o2.2.2.2.2.2.2.1, o2.2.2.2.2.2.2.2.1, o2.2.2.2.2.2.2.2.2.1, o2.2.2.2.2.2.2.2.2.2)) else (((Bj k) (a1, o2.2.2.2.1)).bind fun o3 => bif (!o3.1) then (some (o3.1, o3.2.1, o3.2.2.1, o3.2.2.2.2, o3.2.2.2.1, a2, a3, a4, a5, o2.2.2.2.2.1, o2.2.2.2.2.2.1, o2.2.2.2.2.2.2.1, o2.2.2.2.2.2.2.2.1, o2.2.2.2.2.2.2.2.2.1, o2.2.2.2.2.2.2.2.2.2)) else (((Up k) (o3.2.2.2.2, o2.2.2.2.2.1, o2.2.2.2.2.2.1, o2.2.2.2.2.2.2.1, o2.2.2.2.2.2.2.2.1, o2.2.2.2.2.2.2.2.2.1, o2.2.2.2.2.2.2.2.2.2)).bind fun o4 => bif (!o4.1) then (some (o4.1, o4.2.1, o4.2.2.1, o4.2.2.2.1, o3.2.2.2.1, a2, a3, a4, a5, o4.2.2.2.2.1, o4.2.2.2.2.2.1, o4.2.2.2.2.2.2.1, o4.2.2.2.2.2.2.2.1, o4.2.2.2.2.2.2.2.2.1, o4.2.2.2.2.2.2.2.2.2)) else (((Bj k) (a2, o4.2.2.2.1)).bind fun o5 => bif (!o5.1) then (some (o5.1, o5.2.1, o5.2.2.1, o5.2.2.2.2, o3.2.2.2.1, o5.2.2.2.1, a3, a4, a5, o4.2.2.2.2.1, o4.2.2.2.2.2.1, o4.2.2.2.2.2.2.1, o4.2.2.2.2.2.2.2.1, o4.2.2.2.2.2.2.2.2.1, o4.2.2.2.2.2.2.2.2.2)) else (((Uh k) (o5.2.2.2.2, o4.2.2.2.2.1, o4.2.2.2.2.2.1, o4.2.2.2.2.2.2.1, o4.2.2.2.2.2.2.2.1, o4.2.2.2.2.2.2.2.2.1, o4.2.2.2.2.2.2.2.2.2)).bind fun o6 => bif (!o6.1) then (some (o6.1, o6.2.1, o6.2.2.1, o6.2.2.2.1, o3.2.2.2.1, o5.2.2.2.1, a3, a4, a5, o6.2.2.2.2.1, o6.2.2.2.2.2.1, o6.2.2.2.2.2.2.1, o6.2.2.2.2.2.2.2.1, o6.2.2.2.2.2.2.2.2.1, o6.2.2.2.2.2.2.2.2.2)) else (((Bj k) (a3, o6.2.2.2.1)).bind fun o7 => bif (!o7.1) then (some (o7.1, o7.2.1, o7.2.2.1, o7.2.2.2.2, o3.2.2.2.1, o5.2.2.2.1, o7.2.2.2.1, a4, a5, o6.2.2.2.2.1, o6.2.2.2.2.2.1, o6.2.2.2.2.2.2.1, o6.2.2.2.2.2.2.2.1, o6.2.2.2.2.2.2.2.2.1, o6.2.2.2.2.2.2.2.2.2)) else (((U1 k) (o7.2.2.2.2, o6.2.2.2.2.1, o6.2.2.2.2.2.1, o6.2.2.2.2.2.2.1, o6.2.2.2.2.2.2.2.1, o6.2.2.2.2.2.2.2.2.1, o6.2.2.2.2.2.2.2.2.2)).bind fun o8 => bif (!o8.1) then (some (o8.1, o8.2.1, o8.2.2.1, o8.2.2.2.1, o3.2.2.2.1, o5.2.2.2.1, o7.2.2.2.1, a4, a5, o8.2.2.2.2.1, o8.2.2.2.2.2.1, o8.2.2.2.2.2.2.1, o8.2.2.2.2.2.2.2.1, o8.2.2.2.2.2.2.2.2.1, o8.2.2.2.2.2.2.2.2.2)) else (((Bj k) (a4, o8.2.2.2.1)).bind fun o9 => bif (!o9.1) then (some (o9.1, o9.2.1, o9.2.2.1, o9.2.2.2.2, o3.2.2.2.1, o5.2.2.2.1, o7.2.2.2.1, o9.2.2.2.1, a5, o8.2.2.2.2.1, o8.2.2.2.2.2.1, o8.2.2.2.2.2.2.1, o8.2.2.2.2.2.2.2.1, o8.2.2.2.2.2.2.2.2.1, o8.2.2.2.2.2.2.2.2.2)) else (((U2 k) (o9.2.2.2.2, o8.2.2.2.2.1, o8.2.2.2.2.2.1, o8.2.2.2.2.2.2.1, o8.2.2.2.2.2.2.2.1, o8.2.2.2.2.2.2.2.2.1, o8.2.2.2.2.2.2.2.2.2)).bind fun o10 => bif (!o10.1) then (some (o10.1, o10.2.1, o10.2.2.1, o10.2.2.2.1, o3.2.2.2.1, o5.2.2.2.1, o7.2.2.2.1, o9.2.2.2.1, a5, o10.2.2.2.2.1, o10.2.2.2.2.2.1, o10.2.2.2.2.2.2.1, o10.2.2.2.2.2.2.2.1, o10.2.2.2.2.2.2.2.2.1, o10.2.2.2.2.2.2.2.2.2)) else (((Bj k) (a5, o10.2.2.2.1)).bind fun o11 => bif (!o11.1) then (some (o11.1, o11.2.1, o11.2.2.1, o11.2.2.2.2, o3.2.2.2.1, o5.2.2.2.1, o7.2.2.2.1, o9.2.2.2.1, o11.2.2.2.1, o10.2.2.2.2.1, o10.2.2.2.2.2.1, o10.2.2.2.2.2.2.1, o10.2.2.2.2.2.2.2.1, o10.2.2.2.2.2.2.2.2.1, o10.2.2.2.2.2.2.2.2.2)) else (some (true, (0 : Int), (0 : Int), o11.2.2.2.2, o3.2.2.2.1, o5.2.2.2.1, o7.2.2.2.1, o9.2.2.2.1, o11.2.2.2.1, o10.2.2.2.2.1, o10.2.2.2.2.2.1, o10.2.2.2.2.2.2.1, o10.2.2.2.2.2.2.2.1, o10.2.2.2.2.2.2.2.2.1, o10.2.2.2.2.2.2.2.2.2)))))))))))
theorem B1c (k : Nat) (x : H171) : Aaw k x = Av6 k x := (Af _ _).trans (by kernel_rfl)
theorem Brh (k : Nat) : Aa Tryz.prog 92 (Bj0 k) := Ae (Av5 k) (k + 32) rfl ⟨⟨Bub k, trivial⟩, ⟨Bsl k, Bsm k, Bsd k, trivial⟩, ⟨Fv k, trivial⟩, ⟨Btm k, Btn k, trivial⟩, trivial⟩ Ad Tryz.func92 (by kernel_rfl)
abbrev H173 : Type := (List Int) × (List Int) × (List Int) × (Int) × (Int) × (Int) × (Bool) × (Int) × (Int) × (List (YT8))
def fpstopi : Sk := ⟨[.lf (.ptr 0 0)], [[.pv (.slice yt8)]], []⟩
def fpstopo : Sk := ⟨[.agg [.pv .str, .pv .str, .pv .str, .pv (.int .i64), .pv (.int .i64), .pv (.int .i64)], .lf (.erp 88 [(.int .i64), (.int .i64)])], fpstopi.boxes, []⟩
def fpstopE (k : Nat) : EnvL := [(149, [Bma k]), (150, [Bkl k, Bkm k, Bkf k]), (93, [Fl k]), (94, [Blb k, Bld k]), (92, [Bj0 k])]
def A6d (k : Nat) : Cfg := { mkC (fpstopE k) 107 1 0 with bl := [54, 56] }
def cpstop (k : Nat) : (List (YT8)) → Option H173 := hid (Ac (A6d k) k Tryz.f100 fpstopi fpstopo)
def sgpstop (k : Nat) : Sig := Ab fpstopi fpstopo (cpstop k)
noncomputable def A6e (k : Nat) : (List (YT8)) → Option H173
 | a0 => ((Ab4 k) (a0, ([] : List Int), ([] : List Int), ([] : List Int), (0 : Int), (0 : Int), (0 : Int))).bind fun o1 => ((Abd k) (o1.1, o1.2.1, o1.2.2.1, o1.2.2.2.1, o1.2.2.2.2.1, o1.2.2.2.2.2.1, o1.2.2.2.2.2.2)).bind fun o2 => ((Bp k) (([111, 117, 116] : List Int), o2.1)).bind fun o3 => ((Abe k) (o3.1, o2.2.1, o2.2.2.1, o2.2.2.2.1, o2.2.2.2.2.1, o2.2.2.2.2.2.1, o2.2.2.2.2.2.2)).bind fun o4 => ((Bp k) (([105, 110] : List Int), o4.1)).bind fun o5 => ((Aa7 k) (o5.1, o4.2.1, o4.2.2.1, o4.2.2.2.1, o4.2.2.2.2.1, o4.2.2.2.2.2.1, o4.2.2.2.2.2.2)).bind fun o6 => ((Bp k) (([97, 104, 101, 97, 100] : List Int), o6.1)).bind fun o7 => ((Abq k) (o7.1, o6.2.1, o6.2.2.1, o6.2.2.2.1, o6.2.2.2.2.1, o6.2.2.2.2.2.1, o6.2.2.2.2.2.2)).bind fun o8 => ((Bp k) (([98, 97, 99, 107] : List Int), o8.1)).bind fun o9 => ((Abs k) (o9.1, o8.2.1, o8.2.2.1, o8.2.2.2.1, o8.2.2.2.2.1, o8.2.2.2.2.2.1, o8.2.2.2.2.2.2)).bind fun o10 => ((Bp k) (([59] : List Int), o10.1)).bind fun o11 => ((Aaw k) (o11.1, o3.2, o5.2, o7.2, o9.2, o11.2, o10.2.1, o10.2.2.1, o10.2.2.2.1, o10.2.2.2.2.1, o10.2.2.2.2.2.1, o10.2.2.2.2.2.2)).bind fun o12 => some (o12.2.2.2.2.2.2.2.2.2.1, o12.2.2.2.2.2.2.2.2.2.2.1, o12.2.2.2.2.2.2.2.2.2.2.2.1, o12.2.2.2.2.2.2.2.2.2.2.2.2.1, o12.2.2.2.2.2.2.2.2.2.2.2.2.2.1, o12.2.2.2.2.2.2.2.2.2.2.2.2.2.2, o12.1, o12.2.1, o12.2.2.1, o12.2.2.2.1)
theorem B5s (k : Nat) (x : (List (YT8))) : cpstop k x = A6e k x := (Af _ _).trans (by kernel_rfl)
theorem Buh (k : Nat) : Aa Tryz.prog 100 (sgpstop k) := Ae (A6d k) k rfl ⟨⟨Bt6 k, trivial⟩, ⟨Bsb k, Bsc k, Br4 k, trivial⟩, ⟨Fu k, trivial⟩, ⟨Bs4 k, Bs6 k, trivial⟩, ⟨Brh k, trivial⟩, trivial⟩ Ad Tryz.func100 (by kernel_rfl)
abbrev H174 : Type := (List Int) × (Int) × (List (YT8)) × (Int) × (Int) × (Int) × (Int) × (Int) × (Int) × (Int) × (List (YT6)) × (List (YT7))
abbrev H175 : Type := (Bool) × (Int) × (Int) × (List Int) × (Int) × (List (YT8)) × (Int) × (Int) × (Int) × (Int) × (Int) × (Int) × (Int) × (List (YT6)) × (List (YT7))
def Aga : Sk := ⟨[.lf (.ptr 0 0), .lf (.ptr 1 0), .lf (.ptr 2 0), .lf (.ptr 3 0), .lf (.ptr 4 0)], [[.ptr 5 0], [.pv .str], [.ptr 6 6], [.pv (.int .i64)], [.fn 100 [(5, 0)] []], [.pv (.slice yt8)], q24], [some (46, yt6)]⟩
def Agb : Sk := ⟨[.lf (.erp 88 [(.int .i64), (.int .i64)])], [[.ptr 5 0], [.pv .str], [.ptr 6 6], [.pv (.int .i64)], [.fn 100 [(5, 0)] []], [.pv (.slice yt8)], q29], [some (46, yt6), some (49, yt7)]⟩
def Avo : Sk := ⟨sparse 37 [(0, .lf (.ptr 0 0)), (1, .lf (.ptr 1 0)), (2, .lf (.ptr 2 0)), (3, .lf (.ptr 3 0)), (4, .lf (.ptr 4 0))], [[.ptr 5 0], [.pv .str], [.ptr 6 6], [.pv (.int .i64)], [.fn 100 [(5, 0)] []], [.pv (.slice yt8)], q29], [some (46, yt6), some (49, yt7)]⟩
abbrev Af7 := H174
def Rp : Af7 → St := stOf Avo 85
def B00 (k : Nat) : EnvL := [(143, [Ep k]), (144, [A9 k]), (145, [Ba k]), (100, [sgpstop k])]
def Hk (k : Nat) : FnX H175 := mkX ({ mkC (B00 k) 85 7 1 with hint := fun i => look none [(1, some Avo)] i, bl := [54, 56], ld := [(29, 2), (30, 2), (31, 9999), (32, 6), (33, 54), (36, 9999)], sr := [(36, 6)] }) k Tryz.f162 Agb
def T9 (k : Nat) : H162 → Option H175 := hid (Ac (Hk k).C k Tryz.f162 Aga Agb)
def Bjv (k : Nat) : Sig := Ab Aga Agb (T9 k)
noncomputable def Af9 (k : Nat) (J : JF H175) (L : LF H175) : H162 → Option H175
 | (a0, a1, a2, a3, a4, a5, a6, a7, a8, a9, a10) => L 1 [] k (Rp (a0, a1, a2, a3, a4, a5, a6, a7, a8, a9, a10, []))
theorem B01 (k : Nat) (x : H162) : T9 k x = Af9 k (Hk k).J (Hk k).L x := by
 refine (Af _ _).trans ?_; apply cutX (Hk k) [] [] (st0 (Hk k).C Tryz.f162 Aga x) [] [(1, [], k)] (Af9 k · · x) <;> intros <;> kernel_rfl
noncomputable def Rq (k j1 : Nat) (J : JF H175) (L : LF H175) : Af7 → Option H175
 | (a0, a1, a2, a3, a4, a5, a6, a7, a8, a9, a10, a11) => ((Dh k) (a0, a2)).bind fun o1 => bif o1.1 then (bif (((List.length a11 : Nat) : Int) == a1) then (((A7 k) ((4 : Int), o1.2)).bind fun o2 => some (o2.1, o2.2.1, o2.2.2.1, a0, a1, o2.2.2.2, a3, a4, a5, a6, a7, a8, a9, a10, a11)) else (((A4 k) (o1.2)).bind fun o3 => ((cpstop k) (o3.2.2.2.2)).bind fun o4 => bif (!o4.2.2.2.2.2.2.1) then (some (o4.2.2.2.2.2.2.1, o4.2.2.2.2.2.2.2.1, o4.2.2.2.2.2.2.2.2.1, a0, a1, o4.2.2.2.2.2.2.2.2.2, a3, a4, a5, a6, a7, a8, a9, a10, a11)) else (app 72 a11 ([(o4.1, (o4.2.1, (o4.2.2.1, (o4.2.2.2.1, (o4.2.2.2.2.1, (o4.2.2.2.2.2.1, ()))))))] : List (YT7)) fun o5 => L 1 [] j1 (Rp (a0, a1, o4.2.2.2.2.2.2.2.2.2, a3, a4, a5, a6, a7, a8, a9, a10, o5))))) else (some (true, (0 : Int), (0 : Int), a0, a1, o1.2, a3, a4, a5, a6, a7, a8, a9, a10, a11))
theorem Af8 (k j1 : Nat) (x : Af7) : (Hk k).L 1 [] (j1 + 1) (Rp x) = Rq k j1 (Hk k).J (Hk k).L x := by
 apply cutX (Hk k) [.r, .l, .b, .b] [j1] (Rp x) [] [(1, [], j1)] (Rq k j1 · · x) <;> intros <;> kernel_rfl
theorem Bq8 (k : Nat) : Aa Tryz.prog 162 (Bjv k) := Ae (Hk k).C k rfl ⟨⟨Et k, trivial⟩, ⟨Bb k, trivial⟩, ⟨Bc k, trivial⟩, ⟨Buh k, trivial⟩, trivial⟩ Ad Tryz.func162 (by kernel_rfl)
abbrev H176 : Type := (List (YT8)) × (Int) × (Int) × (Int) × (Int) × (Int) × (Int) × (Int) × (List (YT6)) × (List (YT7))
abbrev H177 : Type := (Bool) × (Int) × (Int) × (List (YT8)) × (Int) × (Int) × (Int) × (Int) × (Int) × (Int) × (Int) × (List (YT6)) × (List (YT7))
def Aho : Sk := ⟨[.lf (.ptr 0 0), .lf (.ptr 1 0)], [[.ptr 2 0], [.ptr 3 7], [.pv (.slice yt8)], q29], [some (46, yt6), some (49, yt7)]⟩
def A30 : Sk := ⟨[.lf (.erp 88 [(.int .i64), (.int .i64)])], Aho.boxes, [some (46, yt6), some (49, yt7)]⟩
def B4n (k : Nat) : EnvL := [(144, [A9 k]), (145, [Ba k])]
def A3y (k : Nat) : Cfg := { mkC (B4n k) 66 4 2 with ef := [(15, (([2], []), ([], [])))], ld := [(13, 1), (14, 0), (17, 9999)], sr := [(17, 3)] }
def U3 (k : Nat) : H176 → Option H177 := hid (Ac (A3y k) k Tryz.f146 Aho A30)
def Blw (k : Nat) : Sig := Ab Aho A30 (U3 k)
noncomputable def A3z (k : Nat) : H176 → Option H177
 | (a0, a1, a2, a3, a4, a5, a6, a7, a8, a9) => idx zt8 a0 (0 : Int) fun o1 => bif (o1.1 != (2 : Int)) then (((A7 k) ((50 : Int), a0)).bind fun o2 => some (o2.1, o2.2.1, o2.2.2.1, o2.2.2.2, a1, a2, a3, a4, a5, a6, a7, a8, a9)) else (((A4 k) (a0)).bind fun o3 => some (true, (0 : Int), (0 : Int), o3.2.2.2.2, a1, a2, a3, a4, a5, o3.2.2.1, a7, a8, a9))
theorem B4o (k : Nat) (x : H176) : U3 k x = A3z k x := (Af _ _).trans (by kernel_rfl)
theorem Bto (k : Nat) : Aa Tryz.prog 146 (Blw k) := Ae (A3y k) k rfl ⟨⟨Bb k, trivial⟩, ⟨Bc k, trivial⟩, trivial⟩ Ad Tryz.func146 (by kernel_rfl)
def Ahq : Sk := ⟨[.lf (.ptr 0 0), .lf (.ptr 1 0)], [[.ptr 2 0], [.ptr 3 8], [.pv (.slice yt8)], q29], [some (46, yt6), some (49, yt7)]⟩
def A36 : Sk := ⟨[.lf (.erp 88 [(.int .i64), (.int .i64)])], Ahq.boxes, [some (46, yt6), some (49, yt7)]⟩
def B4r (k : Nat) : EnvL := [(144, [A9 k]), (145, [Ba k])]
def A34 (k : Nat) : Cfg := { mkC (B4r k) 66 4 2 with ef := [(15, (([2], []), ([], [])))], ld := [(13, 1), (14, 0), (17, 9999)], sr := [(17, 3)] }
def U5 (k : Nat) : H176 → Option H177 := hid (Ac (A34 k) k Tryz.f146 Ahq A36)
def Bly (k : Nat) : Sig := Ab Ahq A36 (U5 k)
noncomputable def A35 (k : Nat) : H176 → Option H177
 | (a0, a1, a2, a3, a4, a5, a6, a7, a8, a9) => idx zt8 a0 (0 : Int) fun o1 => bif (o1.1 != (2 : Int)) then (((A7 k) ((50 : Int), a0)).bind fun o2 => some (o2.1, o2.2.1, o2.2.2.1, o2.2.2.2, a1, a2, a3, a4, a5, a6, a7, a8, a9)) else (((A4 k) (a0)).bind fun o3 => some (true, (0 : Int), (0 : Int), o3.2.2.2.2, a1, a2, a3, a4, a5, a6, o3.2.2.1, a8, a9))
theorem B4s (k : Nat) (x : H176) : U5 k x = A35 k x := (Af _ _).trans (by kernel_rfl)
theorem Btq (k : Nat) : Aa Tryz.prog 146 (Bly k) := Ae (A34 k) k rfl ⟨⟨Bb k, trivial⟩, ⟨Bc k, trivial⟩, trivial⟩ Ad Tryz.func146 (by kernel_rfl)
abbrev H178 : Type := (List (YT8)) × (List Int) × (List Int) × (Int) × (List Int) × (List Int) × (List Int) × (Int) × (Int) × (Int) × (Int) × (Int) × (Int) × (Int) × (List (YT6))
abbrev H179 : Type := (Bool) × (Int) × (Int) × (List (YT8)) × (List Int) × (List Int) × (Int) × (List Int) × (List Int) × (List Int) × (Int) × (Int) × (Int) × (Int) × (Int) × (Int) × (Int) × (List (YT6)) × (List (YT7))
def Av3 : Sk := ⟨[.lf (.ptr 0 0), .lf (.sb 1 7)], [[.pv (.slice yt8)], q26, [.ptr 0 0], [.pv .str], [.ptr 0 0], [.pv .str], [.ptr 19 6], [.pv (.int .i64)], [.fn 100 [(0, 0)] []], [.ptr 0 0], [.pv .str], [.ptr 0 0], [.ptr 19 7], [.ptr 0 0], [.ptr 19 8], [.ptr 0 0], [.pv .str], [.ptr 0 0], [.pv .str], q24], [some (46, yt6)]⟩
def Av4 : Sk := ⟨[.lf (.erp 88 [(.int .i64), (.int .i64)])], [[.pv (.slice yt8)], q26, [.ptr 0 0], [.pv .str], [.ptr 0 0], [.pv .str], [.ptr 19 6], [.pv (.int .i64)], [.fn 100 [(0, 0)] []], [.ptr 0 0], [.pv .str], [.ptr 0 0], [.ptr 19 7], [.ptr 0 0], [.ptr 19 8], [.ptr 0 0], [.pv .str], [.ptr 0 0], [.pv .str], q29], [some (46, yt6), some (49, yt7)]⟩
def B09 (k : Nat) : EnvL := [(142, [Fm k]), (162, [Bjv k]), (146, [Blw k, Bly k])]
def Av1 (k : Nat) : Cfg := mkC (B09 k) 69 20 1
def Ua (k : Nat) : H178 → Option H179 := hid (Ac (Av1 k) (k + 32) Tryz.f92 Av3 Av4)
def Bjz (k : Nat) : Sig := Ab Av3 Av4 (Ua k)
noncomputable def Av2 (k : Nat) : H178 → Option H179
 | (a0, a1, a2, a3, a4, a5, a6, a7, a8, a9, a10, a11, a12, a13, a14) => ((Bj k) (a1, a0)).bind fun o1 => bif (!o1.1) then (some (o1.1, o1.2.1, o1.2.2.1, o1.2.2.2.2, o1.2.2.2.1, a2, a3, a4, a5, a6, a7, a8, a9, a10, a11, a12, a13, a14, [])) else (((T9 k) (a2, a3, o1.2.2.2.2, a7, a8, a9, a10, a11, a12, a13, a14)).bind fun o2 => bif (!o2.1) then (some (o2.1, o2.2.1, o2.2.2.1, o2.2.2.2.2.2.1, o1.2.2.2.1, o2.2.2.2.1, o2.2.2.2.2.1, a4, a5, a6, o2.2.2.2.2.2.2.1, o2.2.2.2.2.2.2.2.1, o2.2.2.2.2.2.2.2.2.1, o2.2.2.2.2.2.2.2.2.2.1, o2.2.2.2.2.2.2.2.2.2.2.1, o2.2.2.2.2.2.2.2.2.2.2.2.1, o2.2.2.2.2.2.2.2.2.2.2.2.2.1, o2.2.2.2.2.2.2.2.2.2.2.2.2.2.1, o2.2.2.2.2.2.2.2.2.2.2.2.2.2.2)) else (((Bj k) (a4, o2.2.2.2.2.2.1)).bind fun o3 => bif (!o3.1) then (some (o3.1, o3.2.1, o3.2.2.1, o3.2.2.2.2, o1.2.2.2.1, o2.2.2.2.1, o2.2.2.2.2.1, o3.2.2.2.1, a5, a6, o2.2.2.2.2.2.2.1, o2.2.2.2.2.2.2.2.1, o2.2.2.2.2.2.2.2.2.1, o2.2.2.2.2.2.2.2.2.2.1, o2.2.2.2.2.2.2.2.2.2.2.1, o2.2.2.2.2.2.2.2.2.2.2.2.1, o2.2.2.2.2.2.2.2.2.2.2.2.2.1, o2.2.2.2.2.2.2.2.2.2.2.2.2.2.1, o2.2.2.2.2.2.2.2.2.2.2.2.2.2.2)) else (((U3 k) (o3.2.2.2.2, o2.2.2.2.2.2.2.1, o2.2.2.2.2.2.2.2.1, o2.2.2.2.2.2.2.2.2.1, o2.2.2.2.2.2.2.2.2.2.1, o2.2.2.2.2.2.2.2.2.2.2.1, o2.2.2.2.2.2.2.2.2.2.2.2.1, o2.2.2.2.2.2.2.2.2.2.2.2.2.1, o2.2.2.2.2.2.2.2.2.2.2.2.2.2.1, o2.2.2.2.2.2.2.2.2.2.2.2.2.2.2)).bind fun o4 => bif (!o4.1) then (some (o4.1, o4.2.1, o4.2.2.1, o4.2.2.2.1, o1.2.2.2.1, o2.2.2.2.1, o2.2.2.2.2.1, o3.2.2.2.1, a5, a6, o4.2.2.2.2.1, o4.2.2.2.2.2.1, o4.2.2.2.2.2.2.1, o4.2.2.2.2.2.2.2.1, o4.2.2.2.2.2.2.2.2.1, o4.2.2.2.2.2.2.2.2.2.1, o4.2.2.2.2.2.2.2.2.2.2.1, o4.2.2.2.2.2.2.2.2.2.2.2.1, o4.2.2.2.2.2.2.2.2.2.2.2.2)) else (((U5 k) (o4.2.2.2.1, o4.2.2.2.2.1, o4.2.2.2.2.2.1, o4.2.2.2.2.2.2.1, o4.2.2.2.2.2.2.2.1, o4.2.2.2.2.2.2.2.2.1, o4.2.2.2.2.2.2.2.2.2.1, o4.2.2.2.2.2.2.2.2.2.2.1, o4.2.2.2.2.2.2.2.2.2.2.2.1, o4.2.2.2.2.2.2.2.2.2.2.2.2)).bind fun o5 => bif (!o5.1) then (some (o5.1, o5.2.1, o5.2.2.1, o5.2.2.2.1, o1.2.2.2.1, o2.2.2.2.1, o2.2.2.2.2.1, o3.2.2.2.1, a5, a6, o5.2.2.2.2.1, o5.2.2.2.2.2.1, o5.2.2.2.2.2.2.1, o5.2.2.2.2.2.2.2.1, o5.2.2.2.2.2.2.2.2.1, o5.2.2.2.2.2.2.2.2.2.1, o5.2.2.2.2.2.2.2.2.2.2.1, o5.2.2.2.2.2.2.2.2.2.2.2.1, o5.2.2.2.2.2.2.2.2.2.2.2.2)) else (((Bj k) (a5, o5.2.2.2.1)).bind fun o6 => bif (!o6.1) then (some (o6.1, o6.2.1, o6.2.2.1, o6.2.2.2.2, o1.2.2.2.1, o2.2.2.2.1, o2.2.2.2.2.1, o3.2.2.2.1, o6.2.2.2.1, a6, o5.2.2.2.2.1, o5.2.2.2.2.2.1, o5.2.2.2.2.2.2.1, o5.2.2.2.2.2.2.2.1, o5.2.2.2.2.2.2.2.2.1, o5.2.2.2.2.2.2.2.2.2.1, o5.2.2.2.2.2.2.2.2.2.2.1, o5.2.2.2.2.2.2.2.2.2.2.2.1, o5.2.2.2.2.2.2.2.2.2.2.2.2)) else (((Bj k) (a6, o6.2.2.2.2)).bind fun o7 => bif (!o7.1) then (some (o7.1, o7.2.1, o7.2.2.1, o7.2.2.2.2, o1.2.2.2.1, o2.2.2.2.1, o2.2.2.2.2.1, o3.2.2.2.1, o6.2.2.2.1, o7.2.2.2.1, o5.2.2.2.2.1, o5.2.2.2.2.2.1, o5.2.2.2.2.2.2.1, o5.2.2.2.2.2.2.2.1, o5.2.2.2.2.2.2.2.2.1, o5.2.2.2.2.2.2.2.2.2.1, o5.2.2.2.2.2.2.2.2.2.2.1, o5.2.2.2.2.2.2.2.2.2.2.2.1, o5.2.2.2.2.2.2.2.2.2.2.2.2)) else (some (true, (0 : Int), (0 : Int), o7.2.2.2.2, o1.2.2.2.1, o2.2.2.2.1, o2.2.2.2.2.1, o3.2.2.2.1, o6.2.2.2.1, o7.2.2.2.1, o5.2.2.2.2.1, o5.2.2.2.2.2.1, o5.2.2.2.2.2.2.1, o5.2.2.2.2.2.2.2.1, o5.2.2.2.2.2.2.2.2.1, o5.2.2.2.2.2.2.2.2.2.1, o5.2.2.2.2.2.2.2.2.2.2.1, o5.2.2.2.2.2.2.2.2.2.2.2.1, o5.2.2.2.2.2.2.2.2.2.2.2.2))))))))
theorem B1a (k : Nat) (x : H178) : Ua k x = Av2 k x := (Af _ _).trans (by kernel_rfl)
theorem Brg (k : Nat) : Aa Tryz.prog 92 (Bjz k) := Ae (Av1 k) (k + 32) rfl ⟨⟨Fv k, trivial⟩, ⟨Bq8 k, trivial⟩, ⟨Bto k, Btq k, trivial⟩, trivial⟩ Ad Tryz.func92 (by kernel_rfl)
def fpendi : Sk := ⟨[.lf (.ptr 0 0)], [[.pv (.slice yt8)]], []⟩
def fpendo : Sk := ⟨[.lf (.erp 88 [(.int .i64), (.int .i64)])], fpendi.boxes, []⟩
def fpendE (k : Nat) : EnvL := [(144, [A9 k])]
def Aw6 (k : Nat) : Cfg := mkC (fpendE k) 61 1 0
def cpend (k : Nat) : (List (YT8)) → Option H62 := hid (Ac (Aw6 k) k Tryz.f101 fpendi fpendo)
def sgpend (k : Nat) : Sig := Ab fpendi fpendo (cpend k)
noncomputable def Aw7 (k : Nat) : (List (YT8)) → Option H62
 | a0 => idx zt8 a0 (0 : Int) fun o1 => bif (o1.1 != (0 : Int)) then (((A7 k) ((50 : Int), a0)).bind fun o2 => some (o2.1, o2.2.1, o2.2.2.1, o2.2.2.2)) else (some (true, (0 : Int), (0 : Int), a0))
theorem fpend_e (k : Nat) (x : (List (YT8))) : cpend k x = Aw7 k x := (Af _ _).trans (by kernel_rfl)
theorem Brr (k : Nat) : Aa Tryz.prog 101 (sgpend k) := Ae (Aw6 k) k rfl ⟨⟨Bb k, trivial⟩, trivial⟩ Ad Tryz.func101 (by kernel_rfl)
def Agg : Sk := ⟨[.lf (.ptr 0 0), .lf (.sb 1 1)], [[.pv (.slice yt8)], [.fn 101 [(0, 0)] []]], []⟩
def Awa : Sk := ⟨[.lf (.erp 88 [(.int .i64), (.int .i64)])], Agg.boxes, []⟩
def B1d (k : Nat) : EnvL := [(101, [sgpend k])]
def Av8 (k : Nat) : Cfg := mkC (B1d k) 68 2 0
def Ub (k : Nat) : (List (YT8)) → Option H62 := hid (Ac (Av8 k) (k + 32) Tryz.f92 Agg Awa)
def Bj1 (k : Nat) : Sig := Ab Agg Awa (Ub k)
noncomputable def Av9 (k : Nat) : (List (YT8)) → Option H62
 | a0 => ((cpend k) (a0)).bind fun o1 => bif (!o1.1) then (some (o1.1, o1.2.1, o1.2.2.1, o1.2.2.2)) else (some (true, (0 : Int), (0 : Int), o1.2.2.2))
theorem B1e (k : Nat) (x : (List (YT8))) : Ub k x = Av9 k x := (Af _ _).trans (by kernel_rfl)
theorem Bri (k : Nat) : Aa Tryz.prog 92 (Bj1 k) := Ae (Av8 k) (k + 32) rfl ⟨⟨Brr k, trivial⟩, trivial⟩ Ad Tryz.func92 (by kernel_rfl)
def q31 : List SL := [.pv (.int .i64), .pv (.int .i64), .pv (.int .i64), .pv (.int .i64), .pv (.int .i64), .own 1, .own 2, .pv (.int .i64), .pv (.int .i64)]
abbrev H180 : Type := (Int) × (Int) × (Int) × (Int) × (Int) × (Int) × (Int) × (Bool) × (Int) × (Int) × (List (YT8)) × (List (YT6)) × (List (YT7))
def fpneti : Sk := ⟨[.lf (.ptr 0 0)], [[.own 0]], [some (135, yt8)]⟩
def fpneto : Sk := ⟨[.agg [.pv (.int .i64), .pv (.int .i64), .pv (.int .i64), .pv (.int .i64), .pv (.int .i64), .own 1, .own 2, .pv (.int .i64), .pv (.int .i64)], .lf (.erp 88 [(.int .i64), (.int .i64)])], [[.pv (.slice yt8)]], [none, some (46, yt6), some (49, yt7)]⟩
def A0w : Sk := ⟨sparse 75 [(0, .lf (.ptr 0 0)), (2, .lf (.ptr 1 0)), (3, .lf (.erp 88 [(.int .i64), (.int .i64)]))], [[.pv (.slice yt8)], q31], [none, some (46, yt6), some (49, yt7)]⟩
abbrev Ahd := H177
def Rs : Ahd → St := stOf A0w 168
def fpnetE (k : Nat) : EnvL := [(93, [sgpword k, Fl k]), (94, [sgpnum k, Bk1 k, Blc k, Bk9 k, Bla k]), (95, [sgpfrac k]), (96, [Bjm k]), (98, [sgpmaybe k]), (92, [sgpall k, Bjz k, Bj1 k]), (99, [Bju k])]
def fpnet (k : Nat) : FnX H180 := mkX ({ mkC (fpnetE k) 168 1 1 with hint := fun i => look none [(5, some A0w)] i, bl := [54, 56] }) k Tryz.f47 fpneto
def cpnet (k : Nat) : (List (YT8)) → Option H180 := hid (Ac (fpnet k).C k Tryz.f47 fpneti fpneto)
def sgpnet (k : Nat) : Sig := Ab fpneti fpneto (cpnet k)
noncomputable def Ahe (k : Nat) (J : JF H180) (L : LF H180) : (List (YT8)) → Option H180
 | a0 => ((cpword k) (([99, 121, 99, 108, 101] : List Int), a0)).bind fun o1 => ((cpnum k) ((0 : Int), (0 : Int), (0 : Int), (0 : Int), (0 : Int), (0 : Int), (0 : Int), o1.2)).bind fun o2 => ((cpword k) (([116, 111] : List Int), o2.2.2.2.2.2.2.2)).bind fun o3 => ((Abg k) (o2.1, o2.2.1, o2.2.2.1, o2.2.2.2.1, o2.2.2.2.2.1, o2.2.2.2.2.2.1, o2.2.2.2.2.2.2.1, o3.2)).bind fun o4 => ((cpword k) (([98, 121] : List Int), o4.2.2.2.2.2.2.2)).bind fun o5 => ((Abr k) (o4.1, o4.2.1, o4.2.2.1, o4.2.2.2.1, o4.2.2.2.2.1, o4.2.2.2.2.2.1, o4.2.2.2.2.2.2.1, o5.2)).bind fun o6 => ((cpword k) (([59] : List Int), o6.2.2.2.2.2.2.2)).bind fun o7 => ((cpword k) (([112, 101, 97, 107] : List Int), o7.2)).bind fun o8 => ((cpfrac k) (o6.1, o6.2.1, o6.2.2.1, o6.2.2.2.1, o6.2.2.2.2.1, o6.2.2.2.2.2.1, o6.2.2.2.2.2.2.1, o8.2)).bind fun o9 => ((cpword k) (([59] : List Int), o9.2.2.2.2.2.2.2)).bind fun o10 => ((Aan k) (([110, 111, 100, 101] : List Int), (12 : Int), o9.1, o9.2.1, o9.2.2.1, o9.2.2.2.1, o9.2.2.2.2.1, o9.2.2.2.2.2.1, o9.2.2.2.2.2.2.1, o10.2)).bind fun o11 => ((cpmaybe k) (([97, 114, 116, 101, 114, 121] : List Int), false, o11.2.2.2.2.2.2.2.2.2)).bind fun o12 => ((cpall k) (o1.1, o3.1, o5.1, o7.1, o8.1, o10.1, o11.2.2.2.2.2.2.2.1, o11.2.2.2.2.2.2.2.2.1, o12.2.1, o11.1, o11.2.1, o11.2.2.1, o11.2.2.2.1, o11.2.2.2.2.1, o11.2.2.2.2.2.1, o11.2.2.2.2.2.2.1, o12.1, o12.2.2)).bind fun o13 => bif o13.1 then (bif o13.2.2.2.2.2.2.2.2.2.2.2.2.2.2.2.2.2.2.2.2.1 then (((Bp k) (([123] : List Int), o13.2.2.2.1)).bind fun o14 => ((Aar k) (([115, 116, 111, 112] : List Int), (12 : Int), o14.1, o13.2.2.2.2.2.2.2.2.2.2.2.2.2.1, o13.2.2.2.2.2.2.2.2.2.2.2.2.2.2.1, o13.2.2.2.2.2.2.2.2.2.2.2.2.2.2.2.1, o13.2.2.2.2.2.2.2.2.2.2.2.2.2.2.2.2.1, o13.2.2.2.2.2.2.2.2.2.2.2.2.2.2.2.2.2.1, o13.2.2.2.2.2.2.2.2.2.2.2.2.2.2.2.2.2.2.1, o13.2.2.2.2.2.2.2.2.2.2.2.2.2.2.2.2.2.2.2.1, o13.2.2.2.2.2.2.2.2.2.2.2.2.2.2.2.2.2.2.2.2.2)).bind fun o15 => ((Bp k) (([119, 101, 105, 103, 104, 116, 115] : List Int), o15.1)).bind fun o16 => ((Abo k) (o16.1, o15.2.1, o15.2.2.1, o15.2.2.2.1, o15.2.2.2.2.1, o15.2.2.2.2.2.1, o15.2.2.2.2.2.2.1, o15.2.2.2.2.2.2.2.1, o15.2.2.2.2.2.2.2.2.2.2)).bind fun o17 => ((Abp k) (o17.1, o17.2.1, o17.2.2.1, o17.2.2.2.1, o17.2.2.2.2.1, o17.2.2.2.2.2.1, o17.2.2.2.2.2.2.1, o17.2.2.2.2.2.2.2.1, o17.2.2.2.2.2.2.2.2)).bind fun o18 => ((Bp k) (([59] : List Int), o18.1)).bind fun o19 => ((Bp k) (([125] : List Int), o19.1)).bind fun o20 => ((Ua k) (o20.1, o14.2, o15.2.2.2.2.2.2.2.2.1, o15.2.2.2.2.2.2.2.2.2.1, o16.2, o19.2, o20.2, o18.2.1, o18.2.2.1, o18.2.2.2.1, o18.2.2.2.2.1, o18.2.2.2.2.2.1, o18.2.2.2.2.2.2.1, o18.2.2.2.2.2.2.2.1, o18.2.2.2.2.2.2.2.2)).bind fun o21 => J 5 [] (Rs (o21.1, o21.2.1, o21.2.2.1, o21.2.2.2.1, o21.2.2.2.2.2.2.2.2.2.2.1, o21.2.2.2.2.2.2.2.2.2.2.2.1, o21.2.2.2.2.2.2.2.2.2.2.2.2.1, o21.2.2.2.2.2.2.2.2.2.2.2.2.2.1, o21.2.2.2.2.2.2.2.2.2.2.2.2.2.2.1, o21.2.2.2.2.2.2.2.2.2.2.2.2.2.2.2.1, o21.2.2.2.2.2.2.2.2.2.2.2.2.2.2.2.2.1, o21.2.2.2.2.2.2.2.2.2.2.2.2.2.2.2.2.2.1, o21.2.2.2.2.2.2.2.2.2.2.2.2.2.2.2.2.2.2))) else (J 5 [] (Rs (o13.1, o13.2.1, o13.2.2.1, o13.2.2.2.1, o13.2.2.2.2.2.2.2.2.2.2.2.2.2.1, o13.2.2.2.2.2.2.2.2.2.2.2.2.2.2.1, o13.2.2.2.2.2.2.2.2.2.2.2.2.2.2.2.1, o13.2.2.2.2.2.2.2.2.2.2.2.2.2.2.2.2.1, o13.2.2.2.2.2.2.2.2.2.2.2.2.2.2.2.2.2.1, o13.2.2.2.2.2.2.2.2.2.2.2.2.2.2.2.2.2.2.1, o13.2.2.2.2.2.2.2.2.2.2.2.2.2.2.2.2.2.2.2.1, o13.2.2.2.2.2.2.2.2.2.2.2.2.2.2.2.2.2.2.2.2.2, [])))) else (J 5 [] (Rs (o13.1, o13.2.1, o13.2.2.1, o13.2.2.2.1, o13.2.2.2.2.2.2.2.2.2.2.2.2.2.1, o13.2.2.2.2.2.2.2.2.2.2.2.2.2.2.1, o13.2.2.2.2.2.2.2.2.2.2.2.2.2.2.2.1, o13.2.2.2.2.2.2.2.2.2.2.2.2.2.2.2.2.1, o13.2.2.2.2.2.2.2.2.2.2.2.2.2.2.2.2.2.1, o13.2.2.2.2.2.2.2.2.2.2.2.2.2.2.2.2.2.2.1, o13.2.2.2.2.2.2.2.2.2.2.2.2.2.2.2.2.2.2.2.1, o13.2.2.2.2.2.2.2.2.2.2.2.2.2.2.2.2.2.2.2.2.2, [])))
theorem fpnet_e (k : Nat) (x : (List (YT8))) : cpnet k x = Ahe k (fpnet k).J (fpnet k).L x := by
 refine (Af _ _).trans ?_; apply cutX (fpnet k) [] [] (st0 (fpnet k).C Tryz.f47 fpneti x) [(5, [])] [] (Ahe k · · x) <;> intros <;> kernel_rfl
noncomputable def Nc (k : Nat) (J : JF H180) (L : LF H180) : Ahd → Option H180
 | (a0, a1, a2, a3, a4, a5, a6, a7, a8, a9, a10, a11, a12) => bif a0 then (((Ub k) (a3)).bind fun o1 => some (a4, a5, a6, a7, a8, a9, a10, o1.1, o1.2.1, o1.2.2.1, o1.2.2.2, a11, a12)) else (some (a4, a5, a6, a7, a8, a9, a10, a0, a1, a2, a3, a11, a12))
theorem W0 (k : Nat) (x : Ahd) : (fpnet k).J 5 [] (Rs x) = Nc k (fpnet k).J (fpnet k).L x := by
 apply cutX (fpnet k) [.r, .r, .r, .r] [] (Rs x) [(5, [])] [] (Nc k · · x) <;> intros <;> kernel_rfl
theorem Bst (k : Nat) : Aa Tryz.prog 47 (sgpnet k) := Ae (fpnet k).C k rfl ⟨⟨Bul k, Fu k, trivial⟩, ⟨Bt0 k, Bs5 k, Bs7 k, Bs2 k, Bs3 k, trivial⟩, ⟨Brx k, trivial⟩, ⟨Bq1 k, trivial⟩, ⟨Br3 k, trivial⟩, ⟨Brq k, Brg k, Bri k, trivial⟩, ⟨Bq9 k, trivial⟩, trivial⟩ Ad Tryz.func47 (by kernel_rfl)
def Bx5 : Sk := ⟨[.lf (.erp 88 [(.int .i64), (.int .i64)]), .lf (.ifp 90 0 0)], [[.nil .ptr]], []⟩
def Bx6 : Sk := ⟨[.lf (.pv .bool)], [[.orp [(.int .i64), (.int .i64)]]], []⟩
def Zy (k : Nat) : ((Bool) × (Int) × (Int)) → Option ((Bool) × (Bool) × (Int) × (Int)) := asF
def Bit (k : Nat) : Sig := Ab Bx5 Bx6 (Zy k)
theorem Bp5 (k : Nat) : Aa Tryz.prog 48 (Bit k) := asF_ok
def Bx7 : Sk := ⟨[.lf (.erp 88 [(.int .i64), (.int .i64)]), .lf (.ifc 30 [(.int .i64)] false)], [], []⟩
def Bx8 : Sk := ⟨[.lf (.pv .bool)], [], []⟩
def Zz (k : Nat) : ((Bool) × (Int) × (Int) × (Int)) → Option (Bool) := isF
def Biu (k : Nat) : Sig := Ab Bx7 Bx8 (Zz k)
theorem Bp6 (k : Nat) : Aa Tryz.prog 106 (Biu k) := isF_ok
abbrev H181 : Type := (Bool) × (Int) × (Int) × (Int) × (Int) × (List (Int))
def fnetnumberi : Sk := ⟨[.lf (.erp 88 [(.int .i64), (.int .i64)])], [], []⟩
def fnetnumbero : Sk := ⟨[.lf (.pv (.int .i64))], [], []⟩
def Aun : Sk := ⟨sparse 17 [(0, .lf (.erp 88 [(.int .i64), (.int .i64)])), (5, .lf (.own 0)), (6, .lf (.pv (.int .i64))), (7, .lf (.pv (.int .i64)))], [], [some (30, (.int .i64))]⟩
abbrev Ae6 := H181
def Ra : Ae6 → St := stOf Aun 65
def B0d (k : Nat) : EnvL := [(106, [Biu k])]
def fnetnumber (k : Nat) : FnX Int := mkX ({ mkC (B0d k) 65 0 0 with hint := fun i => look none [(2, some Aun)] i }) k Tryz.f49 fnetnumbero
def cnetnumber (k : Nat) : ((Bool) × (Int) × (Int)) → Option Int := hid (Ac (fnetnumber k).C k Tryz.f49 fnetnumberi fnetnumbero)
def sgnetnumber (k : Nat) : Sig := Ab fnetnumberi fnetnumbero (cnetnumber k)
noncomputable def Ae7 (k : Nat) (J : JF Int) (L : LF Int) : ((Bool) × (Int) × (Int)) → Option Int
 | (a0, a1, a2) => L 2 [] k (Ra (a0, a1, a2, ((List.length ([(50 : Int), (4 : Int)] : List (Int)) : Nat) : Int), (0 : Int), ([(50 : Int), (4 : Int)] : List (Int))))
theorem B0e (k : Nat) (x : ((Bool) × (Int) × (Int))) : cnetnumber k x = Ae7 k (fnetnumber k).J (fnetnumber k).L x := by
 refine (Af _ _).trans ?_; apply cutX (fnetnumber k) [] [] (st0 (fnetnumber k).C Tryz.f49 fnetnumberi x) [] [(2, [], k)] (Ae7 k · · x) <;> intros <;> kernel_rfl
noncomputable def Wx (k j2 : Nat) (J : JF Int) (L : LF Int) : Ae6 → Option Int
 | (a0, a1, a2, a3, a4, a5) => bif (decide (a4 < a3)) then (bif (inB a4 (List.length a5)) then ((Zz k) (a0, a1, a2, (rdI a5 (Int.toNat a4)))).bind fun o1 => bif o1 then (some (rdI a5 (Int.toNat a4))) else (L 2 [] j2 (Ra (a0, a1, a2, a3, (IntKind.wrap .i64 (a4 + (1 : Int))), a5))) else none) else (some (1 : Int))
theorem Aum (k j2 : Nat) (x : Ae6) : (fnetnumber k).L 2 [] (j2 + 1) (Ra x) = Wx k j2 (fnetnumber k).J (fnetnumber k).L x := by
 apply cutX (fnetnumber k) [.r, .l, .r, .b, .b] [j2] (Ra x) [] [(2, [], j2)] (Wx k j2 · · x) <;> intros <;> kernel_rfl
theorem Bqt (k : Nat) : Aa Tryz.prog 49 (sgnetnumber k) := Ae (fnetnumber k).C k rfl ⟨⟨Bp6 k, trivial⟩, trivial⟩ Ad Tryz.func49 (by kernel_rfl)
def Auk : Sk := ⟨[.lf (.pv (.slice (.int .u8)))], [], []⟩
def Aul : Sk := ⟨[.agg [.pv (.int .i64), .pv (.int .i64), .pv (.int .i64), .pv (.int .i64), .pv (.int .i64), .own 0, .own 1, .pv (.int .i64), .pv (.int .i64)], .lf (.pv (.int .i64)), .lf (.pv (.int .i64))], [], [some (46, yt6), some (49, yt7)]⟩
def B0b (k : Nat) : EnvL := [(46, [An6 k]), (47, [sgpnet k]), (48, [Bit k]), (49, [sgnetnumber k])]
def Aui (k : Nat) : Cfg := { mkC (B0b k) 91 0 0 with bl := [54, 56], ld := [(35, 58), (37, 9999), (38, 9999)], sr := [(2, 50)] }
def T0 (k : Nat) : (List (Int)) → Option H90 := hid (Ac (Aui k) k Tryz.f14 Auk Aul)
def Bjf (k : Nat) : Sig := Ab Auk Aul (T0 k)
noncomputable def Auj (k : Nat) : (List (Int)) → Option H90
 | a0 => ((Pm k) (a0)).bind fun o1 => bif (o1.1 != (0 : Int)) then (some ((0 : Int), (0 : Int), (0 : Int), (0 : Int), (0 : Int), (0 : Int), (0 : Int), o1.1, o1.2.1, [], [])) else (((cpnet k) (o1.2.2)).bind fun o2 => ((Zy k) (o2.2.2.2.2.2.2.2.1, o2.2.2.2.2.2.2.2.2.1, o2.2.2.2.2.2.2.2.2.2.1)).bind fun o3 => bif o3.1 then (((cnetnumber k) (o2.2.2.2.2.2.2.2.1, o2.2.2.2.2.2.2.2.2.1, o2.2.2.2.2.2.2.2.2.2.1)).bind fun o4 => bif (!o3.2.1) then some ((0 : Int), (0 : Int), (0 : Int), (0 : Int), (0 : Int), (0 : Int), (0 : Int), o4, o3.2.2.2, [], []) else none) else (some (o2.1, o2.2.1, o2.2.2.1, o2.2.2.2.1, o2.2.2.2.2.1, o2.2.2.2.2.2.1, o2.2.2.2.2.2.2.1, (0 : Int), (0 : Int), o2.2.2.2.2.2.2.2.2.2.2.2.1, o2.2.2.2.2.2.2.2.2.2.2.2.2)))
theorem B0c (k : Nat) (x : (List (Int))) : T0 k x = Auj k x := (Af _ _).trans (by kernel_rfl)
theorem Bqs (k : Nat) : Aa Tryz.prog 14 (Bjf k) := Ae (Aui k) k rfl ⟨⟨Ap9 k, trivial⟩, ⟨Bst k, trivial⟩, ⟨Bp5 k, trivial⟩, ⟨Bqt k, trivial⟩, trivial⟩ Ad Tryz.func14 (by kernel_rfl)
abbrev H182 : Type := (List (YT7)) × (List (YT7)) × (Bool) × (Int)
abbrev H183 : Type := (List (YT7)) × (List (YT7)) × (Bool)
def Ale : Sk := ⟨[.lf (.pv (.slice yt7)), .lf (.pv (.slice yt7)), .lf (.pv .bool)], [], []⟩
def Alf : Sk := ⟨[.lf (.pv .bool)], [], []⟩
def A9s : Sk := ⟨sparse 37 [(0, .lf (.pv (.slice yt7))), (1, .lf (.pv (.slice yt7))), (2, .lf (.pv .bool)), (7, .lf (.pv (.int .i64)))], [], []⟩
abbrev Alc := H182
def Nq : Alc → St := stOf A9s 85
def Hx (k : Nat) : FnX Bool := mkX ({ mkC [] 85 0 0 with hint := fun i => look none [(4, some A9s)] i, bl := [54, 56], ld := [(24, 9999), (28, 9999)], sr := [(8, 56), (9, 57)] }) k Tryz.f40 Alf
def V3 (k : Nat) : H183 → Option Bool := hid (Ac (Hx k).C k Tryz.f40 Ale Alf)
def Bm8 (k : Nat) : Sig := Ab Ale Alf (V3 k)
noncomputable def Ald (k : Nat) (J : JF Bool) (L : LF Bool) : H183 → Option Bool
 | (a0, a1, a2) => bif (((List.length a0 : Nat) : Int) != ((List.length a1 : Nat) : Int)) then (some false) else (L 4 [] k (Nq (a0, a1, a2, (0 : Int))))
theorem B75 (k : Nat) (x : H183) : V3 k x = Ald k (Hx k).J (Hx k).L x := by
 refine (Af _ _).trans ?_; apply cutX (Hx k) [] [] (st0 (Hx k).C Tryz.f40 Ale x) [] [(4, [], k)] (Ald k · · x) <;> intros <;> kernel_rfl
noncomputable def Xk (k j4 : Nat) (J : JF Bool) (L : LF Bool) : Alc → Option Bool
 | (a0, a1, a2, a3) => bif (decide (a3 < ((List.length a0 : Nat) : Int))) then (idx zt7 a0 a3 fun o1 => idx zt7 a1 a3 fun o2 => bif (!a2) then (bif (!((eqS o1.1 o2.1) && ((eqS o1.2.1 o2.2.1) && ((eqS o1.2.2.1 o2.2.2.1) && ((eqI o1.2.2.2.1 o2.2.2.2.1) && ((eqI o1.2.2.2.2.1 o2.2.2.2.2.1) && ((eqI o2.2.2.2.2.2.1 o2.2.2.2.2.2.1) && true))))))) then (some false) else (L 4 [] j4 (Nq (a0, a1, a2, (IntKind.wrap .i64 (a3 + (1 : Int))))))) else (bif (!((eqS o1.1 o2.1) && ((eqS o1.2.1 o2.2.1) && ((eqS o1.2.2.1 o2.2.2.1) && ((eqI o1.2.2.2.1 o2.2.2.2.1) && ((eqI o1.2.2.2.2.1 o2.2.2.2.2.1) && ((eqI o1.2.2.2.2.2.1 o2.2.2.2.2.2.1) && true))))))) then (some false) else (L 4 [] j4 (Nq (a0, a1, a2, (IntKind.wrap .i64 (a3 + (1 : Int)))))))) else (some true)
theorem A9r (k j4 : Nat) (x : Alc) : (Hx k).L 4 [] (j4 + 1) (Nq x) = Xk k j4 (Hx k).J (Hx k).L x := by
 apply cutX (Hx k) [.r, .r, .l, .r, .b, .b] [j4] (Nq x) [] [(4, [], j4)] (Xk k j4 · · x) <;> intros <;> kernel_rfl
theorem Bvb (k : Nat) : Aa Tryz.prog 40 (Bm8 k) := Ae (Hx k).C (l := []) k rfl trivial Ad Tryz.func40 (by kernel_rfl)
abbrev H184 : Type := (List (YT1)) × (List (YT1)) × (Bool) × (Int)
abbrev H185 : Type := (List (YT1)) × (List (YT1)) × (Bool)
def Ajm : Sk := ⟨[.lf (.pv (.slice yt1)), .lf (.pv (.slice yt1)), .lf (.pv .bool)], [], []⟩
def Ajn : Sk := ⟨[.lf (.pv .bool)], [], []⟩
def A75 : Sk := ⟨sparse 37 [(0, .lf (.pv (.slice yt1))), (1, .lf (.pv (.slice yt1))), (2, .lf (.pv .bool)), (7, .lf (.pv (.int .i64)))], [], []⟩
abbrev Ajk := H184
def Ni : Ajk → St := stOf A75 85
def Hr (k : Nat) : FnX Bool := mkX ({ mkC [] 85 0 0 with hint := fun i => look none [(4, some A75)] i, bl := [54, 56], ld := [(24, 9999), (28, 9999)], sr := [(8, 56), (9, 57)] }) k Tryz.f41 Ajn
def P0 (k : Nat) : H185 → Option Bool := hid (Ac (Hr k).C k Tryz.f41 Ajm Ajn)
def Bmv (k : Nat) : Sig := Ab Ajm Ajn (P0 k)
noncomputable def Ajl (k : Nat) (J : JF Bool) (L : LF Bool) : H185 → Option Bool
 | (a0, a1, a2) => bif (((List.length a0 : Nat) : Int) != ((List.length a1 : Nat) : Int)) then (some false) else (L 4 [] k (Ni (a0, a1, a2, (0 : Int))))
theorem B6r (k : Nat) (x : H185) : P0 k x = Ajl k (Hr k).J (Hr k).L x := by
 refine (Af _ _).trans ?_; apply cutX (Hr k) [] [] (st0 (Hr k).C Tryz.f41 Ajm x) [] [(4, [], k)] (Ajl k · · x) <;> intros <;> kernel_rfl
noncomputable def Xa (k j4 : Nat) (J : JF Bool) (L : LF Bool) : Ajk → Option Bool
 | (a0, a1, a2, a3) => bif (decide (a3 < ((List.length a0 : Nat) : Int))) then (idx zt1 a0 a3 fun o1 => idx zt1 a1 a3 fun o2 => bif (!a2) then (bif (!((eqS o1.1 o2.1) && ((eqI o1.2.1 o2.2.1) && ((eqI o1.2.2.1 o2.2.2.1) && (((eqI o1.2.2.2.1.1 o2.2.2.2.1.1) && ((eqI o1.2.2.2.1.2.1 o2.2.2.2.1.2.1) && true)) && ((eqI o1.2.2.2.2.1 o2.2.2.2.2.1) && ((eqI o1.2.2.2.2.2.1 o2.2.2.2.2.2.1) && ((eqI o1.2.2.2.2.2.2.1 o2.2.2.2.2.2.2.1) && ((eqI o1.2.2.2.2.2.2.2.1 o2.2.2.2.2.2.2.2.1) && ((eqI o1.2.2.2.2.2.2.2.2.1 o2.2.2.2.2.2.2.2.2.1) && ((eqI o2.2.2.2.2.2.2.2.2.2.1 o2.2.2.2.2.2.2.2.2.2.1) && true))))))))))) then (some false) else (L 4 [] j4 (Ni (a0, a1, a2, (IntKind.wrap .i64 (a3 + (1 : Int))))))) else (bif (!((eqS o1.1 o2.1) && ((eqI o1.2.1 o2.2.1) && ((eqI o1.2.2.1 o2.2.2.1) && (((eqI o1.2.2.2.1.1 o2.2.2.2.1.1) && ((eqI o1.2.2.2.1.2.1 o2.2.2.2.1.2.1) && true)) && ((eqI o1.2.2.2.2.1 o2.2.2.2.2.1) && ((eqI o1.2.2.2.2.2.1 o2.2.2.2.2.2.1) && ((eqI o1.2.2.2.2.2.2.1 o2.2.2.2.2.2.2.1) && ((eqI o1.2.2.2.2.2.2.2.1 o2.2.2.2.2.2.2.2.1) && ((eqI o1.2.2.2.2.2.2.2.2.1 o2.2.2.2.2.2.2.2.2.1) && ((eqI o1.2.2.2.2.2.2.2.2.2.1 o2.2.2.2.2.2.2.2.2.2.1) && true))))))))))) then (some false) else (L 4 [] j4 (Ni (a0, a1, a2, (IntKind.wrap .i64 (a3 + (1 : Int)))))))) else (some true)
theorem A74 (k j4 : Nat) (x : Ajk) : (Hr k).L 4 [] (j4 + 1) (Ni x) = Xa k j4 (Hr k).J (Hr k).L x := by
 apply cutX (Hr k) [.r, .r, .l, .r, .b, .b] [j4] (Ni x) [] [(4, [], j4)] (Xa k j4 · · x) <;> intros <;> kernel_rfl
theorem Buy (k : Nat) : Aa Tryz.prog 41 (Bmv k) := Ae (Hr k).C (l := []) k rfl trivial Ad Tryz.func41 (by kernel_rfl)
abbrev H186 : Type := (List (YT2)) × (List (YT2)) × (Bool) × (Int)
abbrev H187 : Type := (List (YT2)) × (List (YT2)) × (Bool)
def Ajq : Sk := ⟨[.lf (.pv (.slice yt2)), .lf (.pv (.slice yt2)), .lf (.pv .bool)], [], []⟩
def Ajr : Sk := ⟨[.lf (.pv .bool)], [], []⟩
def A77 : Sk := ⟨sparse 37 [(0, .lf (.pv (.slice yt2))), (1, .lf (.pv (.slice yt2))), (2, .lf (.pv .bool)), (7, .lf (.pv (.int .i64)))], [], []⟩
abbrev Ajo := H186
def Nj : Ajo → St := stOf A77 85
def Hs (k : Nat) : FnX Bool := mkX ({ mkC [] 85 0 0 with hint := fun i => look none [(4, some A77)] i, bl := [54, 56], ld := [(24, 9999), (28, 9999)], sr := [(8, 56), (9, 57)] }) k Tryz.f42 Ajr
def P1 (k : Nat) : H187 → Option Bool := hid (Ac (Hs k).C k Tryz.f42 Ajq Ajr)
def Bmw (k : Nat) : Sig := Ab Ajq Ajr (P1 k)
noncomputable def Ajp (k : Nat) (J : JF Bool) (L : LF Bool) : H187 → Option Bool
 | (a0, a1, a2) => bif (((List.length a0 : Nat) : Int) != ((List.length a1 : Nat) : Int)) then (some false) else (L 4 [] k (Nj (a0, a1, a2, (0 : Int))))
theorem B6s (k : Nat) (x : H187) : P1 k x = Ajp k (Hs k).J (Hs k).L x := by
 refine (Af _ _).trans ?_; apply cutX (Hs k) [] [] (st0 (Hs k).C Tryz.f42 Ajq x) [] [(4, [], k)] (Ajp k · · x) <;> intros <;> kernel_rfl
noncomputable def Xb (k j4 : Nat) (J : JF Bool) (L : LF Bool) : Ajo → Option Bool
 | (a0, a1, a2, a3) => bif (decide (a3 < ((List.length a0 : Nat) : Int))) then (idx zt2 a0 a3 fun o1 => idx zt2 a1 a3 fun o2 => bif (!a2) then (bif (!((eqS o1.1 o2.1) && ((eqS o1.2.1 o2.2.1) && ((eqI o1.2.2.1 o2.2.2.1) && ((eqI o1.2.2.2.1 o2.2.2.2.1) && ((eqI o1.2.2.2.2.1 o2.2.2.2.2.1) && ((eqI o2.2.2.2.2.2.1 o2.2.2.2.2.2.1) && true))))))) then (some false) else (L 4 [] j4 (Nj (a0, a1, a2, (IntKind.wrap .i64 (a3 + (1 : Int))))))) else (bif (!((eqS o1.1 o2.1) && ((eqS o1.2.1 o2.2.1) && ((eqI o1.2.2.1 o2.2.2.1) && ((eqI o1.2.2.2.1 o2.2.2.2.1) && ((eqI o1.2.2.2.2.1 o2.2.2.2.2.1) && ((eqI o1.2.2.2.2.2.1 o2.2.2.2.2.2.1) && true))))))) then (some false) else (L 4 [] j4 (Nj (a0, a1, a2, (IntKind.wrap .i64 (a3 + (1 : Int)))))))) else (some true)
theorem A76 (k j4 : Nat) (x : Ajo) : (Hs k).L 4 [] (j4 + 1) (Nj x) = Xb k j4 (Hs k).J (Hs k).L x := by
 apply cutX (Hs k) [.r, .r, .l, .r, .b, .b] [j4] (Nj x) [] [(4, [], j4)] (Xb k j4 · · x) <;> intros <;> kernel_rfl
theorem Buz (k : Nat) : Aa Tryz.prog 42 (Bmw k) := Ae (Hs k).C (l := []) k rfl trivial Ad Tryz.func42 (by kernel_rfl)
abbrev H188 : Type := (List (List Int)) × (List (List Int)) × (Int)
abbrev H189 : Type := (List (List Int)) × (List (List Int))
def Ai2 : Sk := ⟨[.lf (.pv (.slice .str)), .lf (.pv (.slice .str))], [], []⟩
def Ai3 : Sk := ⟨[.lf (.pv .bool)], [], []⟩
def A7v : Sk := ⟨sparse 26 [(0, .lf (.pv (.slice .str))), (1, .lf (.pv (.slice .str))), (5, .lf (.pv (.int .i64)))], [], []⟩
abbrev Ai0 := H188
def Ng : Ai0 → St := stOf A7v 74
def F0 (k : Nat) : FnX Bool := mkX ({ mkC [] 74 0 0 with hint := fun i => look none [(4, some A7v)] i }) k Tryz.f89 Ai3
def Py (k : Nat) : H189 → Option Bool := hid (Ac (F0 k).C k Tryz.f89 Ai2 Ai3)
def Aof (k : Nat) : Sig := Ab Ai2 Ai3 (Py k)
noncomputable def Ai1 (k : Nat) (J : JF Bool) (L : LF Bool) : H189 → Option Bool
 | (a0, a1) => bif (((List.length a0 : Nat) : Int) != ((List.length a1 : Nat) : Int)) then (some false) else (L 4 [] k (Ng (a0, a1, (0 : Int))))
theorem B6j (k : Nat) (x : H189) : Py k x = Ai1 k (F0 k).J (F0 k).L x := by
 refine (Af _ _).trans ?_; apply cutX (F0 k) [] [] (st0 (F0 k).C Tryz.f89 Ai2 x) [] [(4, [], k)] (Ai1 k · · x) <;> intros <;> kernel_rfl
noncomputable def W5 (k j4 : Nat) (J : JF Bool) (L : LF Bool) : Ai0 → Option Bool
 | (a0, a1, a2) => bif (decide (a2 < ((List.length a0 : Nat) : Int))) then (idx [] a0 a2 fun o1 => idx [] a1 a2 fun o2 => bif (!(o1 == o2)) then (some false) else (L 4 [] j4 (Ng (a0, a1, (IntKind.wrap .i64 (a2 + (1 : Int))))))) else (some true)
theorem A7u (k j4 : Nat) (x : Ai0) : (F0 k).L 4 [] (j4 + 1) (Ng x) = W5 k j4 (F0 k).J (F0 k).L x := by
 apply cutX (F0 k) [.r, .r, .l, .r, .b, .b] [j4] (Ng x) [] [(4, [], j4)] (W5 k j4 · · x) <;> intros <;> kernel_rfl
theorem Aqo (k : Nat) : Aa Tryz.prog 89 (Aof k) := Ae (F0 k).C (l := []) k rfl trivial Ad Tryz.func89 (by kernel_rfl)
abbrev H190 : Type := (List (YT3)) × (List (YT3)) × (Bool) × (Int)
abbrev H191 : Type := (List (YT3)) × (List (YT3)) × (Bool)
def Aju : Sk := ⟨[.lf (.pv (.slice yt3)), .lf (.pv (.slice yt3)), .lf (.pv .bool)], [], []⟩
def Ajv : Sk := ⟨[.lf (.pv .bool)], [], []⟩
def A79 : Sk := ⟨sparse 60 [(0, .lf (.pv (.slice yt3))), (1, .lf (.pv (.slice yt3))), (2, .lf (.pv .bool)), (7, .lf (.pv (.int .i64)))], [], []⟩
abbrev Ajs := H190
def Nk : Ajs → St := stOf A79 108
def B6t (k : Nat) : EnvL := [(89, [Aof k])]
def Ht (k : Nat) : FnX Bool := mkX ({ mkC (B6t k) 108 0 0 with hint := fun i => look none [(4, some A79)] i }) k Tryz.f43 Ajv
def P2 (k : Nat) : H191 → Option Bool := hid (Ac (Ht k).C k Tryz.f43 Aju Ajv)
def Bmx (k : Nat) : Sig := Ab Aju Ajv (P2 k)
noncomputable def Ajt (k : Nat) (J : JF Bool) (L : LF Bool) : H191 → Option Bool
 | (a0, a1, a2) => bif (((List.length a0 : Nat) : Int) != ((List.length a1 : Nat) : Int)) then (some false) else (L 4 [] k (Nk (a0, a1, a2, (0 : Int))))
theorem B6u (k : Nat) (x : H191) : P2 k x = Ajt k (Ht k).J (Ht k).L x := by
 refine (Af _ _).trans ?_; apply cutX (Ht k) [] [] (st0 (Ht k).C Tryz.f43 Aju x) [] [(4, [], k)] (Ajt k · · x) <;> intros <;> kernel_rfl
noncomputable def Xc (k j4 : Nat) (J : JF Bool) (L : LF Bool) : Ajs → Option Bool
 | (a0, a1, a2, a3) => bif (decide (a3 < ((List.length a0 : Nat) : Int))) then (idx zt3 a0 a3 fun o1 => idx zt3 a1 a3 fun o2 => bif (!(o1.1 == o2.1)) then (some false) else (idx zt3 a0 a3 fun o3 => idx zt3 a1 a3 fun o4 => ((Py k) (o3.2.1, o4.2.1)).bind fun o5 => bif (!o5) then (some false) else (bif a2 then (idx zt3 a0 a3 fun o6 => idx zt3 a1 a3 fun o7 => bif (o6.2.2.1 != o7.2.2.1) then (some false) else (L 4 [] j4 (Nk (a0, a1, a2, (IntKind.wrap .i64 (a3 + (1 : Int))))))) else (L 4 [] j4 (Nk (a0, a1, a2, (IntKind.wrap .i64 (a3 + (1 : Int))))))))) else (some true)
theorem A78 (k j4 : Nat) (x : Ajs) : (Ht k).L 4 [] (j4 + 1) (Nk x) = Xc k j4 (Ht k).J (Ht k).L x := by
 apply cutX (Ht k) [.r, .r, .l, .r, .b, .b] [j4] (Nk x) [] [(4, [], j4)] (Xc k j4 · · x) <;> intros <;> kernel_rfl
theorem Bu0 (k : Nat) : Aa Tryz.prog 43 (Bmx k) := Ae (Ht k).C k rfl ⟨⟨Aqo k, trivial⟩, trivial⟩ Ad Tryz.func43 (by kernel_rfl)
end
noncomputable section
abbrev H192 : Type := (List ((List (YT4)) × (Unit))) × (List ((List (YT4)) × (Unit))) × (Int)
abbrev H193 : Type := (List ((List (YT4)) × (Unit))) × (List ((List (YT4)) × (Unit))) × (Int) × (Int)
abbrev H194 : Type := (List ((List (YT4)) × (Unit))) × (List ((List (YT4)) × (Unit)))
def Aiy : Sk := ⟨[.lf (.pv (.slice (.cons (.slice yt4) .nil))), .lf (.pv (.slice (.cons (.slice yt4) .nil)))], [], []⟩
def Aiz : Sk := ⟨[.lf (.pv .bool)], [], []⟩
def A7s : Sk := ⟨sparse 82 [(0, .lf (.pv (.slice (.cons (.slice yt4) .nil)))), (1, .lf (.pv (.slice (.cons (.slice yt4) .nil)))), (5, .lf (.pv (.int .i64)))], [], []⟩
abbrev Aiv := H192
def Lr : Aiv → St := stOf A7s 130
def A7t : Sk := ⟨sparse 82 [(0, .lf (.pv (.slice (.cons (.slice yt4) .nil)))), (1, .lf (.pv (.slice (.cons (.slice yt4) .nil)))), (5, .lf (.pv (.int .i64))), (6, .lf (.pv (.int .i64)))], [], []⟩
abbrev Aiw := H193
def Nf : Aiw → St := stOf A7t 130
def B6h (k : Nat) : EnvL := [(89, [Aof k])]
def Dj (k : Nat) : FnX Bool := mkX ({ mkC (B6h k) 130 0 0 with hint := fun i => look none [(4, some A7s), (9, some A7t)] i }) k Tryz.f44 Aiz
def Px (k : Nat) : H194 → Option Bool := hid (Ac (Dj k).C k Tryz.f44 Aiy Aiz)
def Bmr (k : Nat) : Sig := Ab Aiy Aiz (Px k)
noncomputable def Aix (k : Nat) (J : JF Bool) (L : LF Bool) : H194 → Option Bool
 | (a0, a1) => bif (((List.length a0 : Nat) : Int) != ((List.length a1 : Nat) : Int)) then (some false) else (L 4 [] k (Lr (a0, a1, (0 : Int))))
theorem B6i (k : Nat) (x : H194) : Px k x = Aix k (Dj k).J (Dj k).L x := by
 refine (Af _ _).trans ?_; apply cutX (Dj k) [] [] (st0 (Dj k).C Tryz.f44 Aiy x) [] [(4, [], k)] (Aix k · · x) <;> intros <;> kernel_rfl
noncomputable def W3 (k j4 : Nat) (J : JF Bool) (L : LF Bool) : Aiv → Option Bool
 | (a0, a1, a2) => bif (decide (a2 < ((List.length a0 : Nat) : Int))) then (idx ([], ()) a0 a2 fun o1 => idx ([], ()) a1 a2 fun o2 => bif (((List.length o1.1 : Nat) : Int) != ((List.length o2.1 : Nat) : Int)) then (some false) else (L 9 [j4] k (Nf (a0, a1, a2, (0 : Int))))) else (some true)
theorem A7q (k j4 : Nat) (x : Aiv) : (Dj k).L 4 [] (j4 + 1) (Lr x) = W3 k j4 (Dj k).J (Dj k).L x := by
 apply cutX (Dj k) [.r, .r, .l, .r, .b, .b] [j4] (Lr x) [] [(4, [], j4), (9, [j4], k)] (W3 k j4 · · x) <;> intros <;> kernel_rfl
noncomputable def W4 (k j4 j9 : Nat) (J : JF Bool) (L : LF Bool) : Aiw → Option Bool
 | (a0, a1, a2, a3) => idx ([], ()) a0 a2 fun o1 => bif (decide (a3 < ((List.length o1.1 : Nat) : Int))) then (idx ([], ()) a0 a2 fun o2 => idx zt4 o2.1 a3 fun o3 => idx ([], ()) a1 a2 fun o4 => idx zt4 o4.1 a3 fun o5 => bif (!(o3.1 == o5.1)) then (some false) else (idx ([], ()) a0 a2 fun o6 => idx zt4 o6.1 a3 fun o7 => idx ([], ()) a1 a2 fun o8 => idx zt4 o8.1 a3 fun o9 => ((Py k) (o7.2.1, o9.2.1)).bind fun o10 => bif (!o10) then (some false) else (L 9 [j4] j9 (Nf (a0, a1, a2, (IntKind.wrap .i64 (a3 + (1 : Int)))))))) else (L 4 [] j4 (Lr (a0, a1, (IntKind.wrap .i64 (a2 + (1 : Int))))))
theorem A7r (k j4 j9 : Nat) (x : Aiw) : (Dj k).L 9 [j4] (j9 + 1) (Nf x) = W4 k j4 j9 (Dj k).J (Dj k).L x := by
 apply cutX (Dj k) [.r, .r, .l, .r, .b, .b, .r, .l, .b, .r, .r, .b, .b] [j4, j9] (Nf x) [] [(4, [], j4), (9, [j4], j9)] (W4 k j4 j9 · · x) <;> intros <;> kernel_rfl
theorem Buu (k : Nat) : Aa Tryz.prog 44 (Bmr k) := Ae (Dj k).C k rfl ⟨⟨Aqo k, trivial⟩, trivial⟩ Ad Tryz.func44 (by kernel_rfl)
abbrev H195 : Type := (List (YT5)) × (List (YT5)) × (Bool) × (Int)
abbrev H196 : Type := (List (YT5)) × (List (YT5)) × (Bool)
def Aji : Sk := ⟨[.lf (.pv (.slice yt5)), .lf (.pv (.slice yt5)), .lf (.pv .bool)], [], []⟩
def Ajj : Sk := ⟨[.lf (.pv .bool)], [], []⟩
def A73 : Sk := ⟨sparse 37 [(0, .lf (.pv (.slice yt5))), (1, .lf (.pv (.slice yt5))), (2, .lf (.pv .bool)), (7, .lf (.pv (.int .i64)))], [], []⟩
abbrev Ajg := H195
def Nh : Ajg → St := stOf A73 85
def Hq (k : Nat) : FnX Bool := mkX ({ mkC [] 85 0 0 with hint := fun i => look none [(4, some A73)] i, bl := [54, 56], ld := [(24, 9999), (28, 9999)], sr := [(8, 56), (9, 57)] }) k Tryz.f45 Ajj
def Pz (k : Nat) : H196 → Option Bool := hid (Ac (Hq k).C k Tryz.f45 Aji Ajj)
def Bmu (k : Nat) : Sig := Ab Aji Ajj (Pz k)
noncomputable def Ajh (k : Nat) (J : JF Bool) (L : LF Bool) : H196 → Option Bool
 | (a0, a1, a2) => bif (((List.length a0 : Nat) : Int) != ((List.length a1 : Nat) : Int)) then (some false) else (L 4 [] k (Nh (a0, a1, a2, (0 : Int))))
theorem B6q (k : Nat) (x : H196) : Pz k x = Ajh k (Hq k).J (Hq k).L x := by
 refine (Af _ _).trans ?_; apply cutX (Hq k) [] [] (st0 (Hq k).C Tryz.f45 Aji x) [] [(4, [], k)] (Ajh k · · x) <;> intros <;> kernel_rfl
noncomputable def W9 (k j4 : Nat) (J : JF Bool) (L : LF Bool) : Ajg → Option Bool
 | (a0, a1, a2, a3) => bif (decide (a3 < ((List.length a0 : Nat) : Int))) then (idx zt5 a0 a3 fun o1 => idx zt5 a1 a3 fun o2 => bif (!a2) then (bif (!((eqS o1.1 o2.1) && ((eqS o1.2.1 o2.2.1) && ((eqI o2.2.2.1 o2.2.2.1) && true)))) then (some false) else (L 4 [] j4 (Nh (a0, a1, a2, (IntKind.wrap .i64 (a3 + (1 : Int))))))) else (bif (!((eqS o1.1 o2.1) && ((eqS o1.2.1 o2.2.1) && ((eqI o1.2.2.1 o2.2.2.1) && true)))) then (some false) else (L 4 [] j4 (Nh (a0, a1, a2, (IntKind.wrap .i64 (a3 + (1 : Int)))))))) else (some true)
theorem A72 (k j4 : Nat) (x : Ajg) : (Hq k).L 4 [] (j4 + 1) (Nh x) = W9 k j4 (Hq k).J (Hq k).L x := by
 apply cutX (Hq k) [.r, .r, .l, .r, .b, .b] [j4] (Nh x) [] [(4, [], j4)] (W9 k j4 · · x) <;> intros <;> kernel_rfl
theorem Bux (k : Nat) : Aa Tryz.prog 45 (Bmu k) := Ae (Hq k).C (l := []) k rfl trivial Ad Tryz.func45 (by kernel_rfl)
abbrev H197 : Type := (Bool) × (Int) × (Int) × (Int) × (Int) × (Int) × (Int) × (List (YT6)) × (List (YT7)) × (Int) × (Int) × (Int) × (Int) × (Int) × (Int) × (Int) × (List (YT6)) × (List (YT7)) × (Int) × (Int)
abbrev H198 : Type := (Int) × (Int) × (Int) × (Int) × (Int) × (List (YT6)) × (List (YT7)) × (Int) × (Int) × (Int) × (Int) × (Int) × (Int) × (Int) × (List (YT6)) × (List (YT7)) × (Int) × (Int) × (Bool)
def Aje : Sk := ⟨[.agg [.pv (.int .i64), .pv (.int .i64), .pv (.int .i64), .pv (.int .i64), .pv (.int .i64), .pv (.slice yt6), .pv (.slice yt7), .pv (.int .i64), .pv (.int .i64)], .agg [.pv (.int .i64), .pv (.int .i64), .pv (.int .i64), .pv (.int .i64), .pv (.int .i64), .pv (.slice yt6), .pv (.slice yt7), .pv (.int .i64), .pv (.int .i64)], .lf (.pv .bool)], [], []⟩
def Ajf : Sk := ⟨[.lf (.pv .bool)], [], []⟩
def A71 : Sk := ⟨sparse 144 [(2, .lf (.pv .bool)), (3, .lf (.ptr 0 0)), (4, .lf (.ptr 1 0)), (7, .lf (.pv (.int .i64)))], [q1, q1], []⟩
abbrev Ajc := H197
def Ls : Ajc → St := stOf A71 192
def B6o (k : Nat) : EnvL := [(40, [Bm8 k]), (41, [Bmv k]), (42, [Bmw k]), (43, [Bmx k]), (44, [Bmr k]), (45, [Bmu k])]
def F3 (k : Nat) : FnX Bool := mkX ({ mkC (B6o k) 192 0 0 with hint := fun i => look none [(4, some A71)] i, bl := [54, 56], ld := [(75, 9999), (76, 0), (79, 9999), (80, 9999), (81, 1), (84, 9999)], sr := [(8, 56), (9, 57)] }) k Tryz.f13 Ajf
def Vr (k : Nat) : H198 → Option Bool := hid (Ac (F3 k).C k Tryz.f13 Aje Ajf)
def Bmt (k : Nat) : Sig := Ab Aje Ajf (Vr k)
noncomputable def Ajd (k : Nat) (J : JF Bool) (L : LF Bool) : H198 → Option Bool
 | (a0, a1, a2, a3, a4, a5, a6, a7, a8, a9, a10, a11, a12, a13, a14, a15, a16, a17, a18) => bif (a0 != a9) then (some false) else (bif (a1 != a10) then (some false) else (bif (a2 != a11) then (some false) else (bif (!((eqI a3 a12) && ((eqI a4 a13) && true))) then (some false) else (bif (a7 != a16) then (some false) else (bif (a8 != a17) then (some false) else (bif (((List.length a5 : Nat) : Int) != ((List.length a14 : Nat) : Int)) then (some false) else (((V3 k) (a6, a15, a18)).bind fun o1 => bif (!o1) then (some false) else (L 4 [] k (Ls (a18, (0 : Int), a0, a1, a2, a3, a4, a5, a6, a7, a8, a9, a10, a11, a12, a13, a14, a15, a16, a17))))))))))
theorem B6p (k : Nat) (x : H198) : Vr k x = Ajd k (F3 k).J (F3 k).L x := by
 refine (Af _ _).trans ?_; apply cutX (F3 k) [] [] (st0 (F3 k).C Tryz.f13 Aje x) [] [(4, [], k)] (Ajd k · · x) <;> intros <;> kernel_rfl
noncomputable def W8 (k j4 : Nat) (J : JF Bool) (L : LF Bool) : Ajc → Option Bool
 | (a0, a1, a2, a3, a4, a5, a6, a7, a8, a9, a10, a11, a12, a13, a14, a15, a16, a17, a18, a19) => bif (decide (a1 < ((List.length a7 : Nat) : Int))) then (idx zt6 a7 a1 fun o1 => idx zt6 a16 a1 fun o2 => bif (!(o1.1 == o2.1)) then (some false) else (bif a0 then (bif (o1.2.2.2.2.2.2.1 != o2.2.2.2.2.2.2.1) then (some false) else (((P0 k) (o1.2.1, o2.2.1, a0)).bind fun o3 => bif (!o3) then (some false) else (((P1 k) (o1.2.2.1, o2.2.2.1, a0)).bind fun o4 => bif (!o4) then (some false) else (((P2 k) (o1.2.2.2.1, o2.2.2.2.1, a0)).bind fun o5 => bif (!o5) then (some false) else (((Px k) (o1.2.2.2.2.1, o2.2.2.2.2.1)).bind fun o6 => bif (!o6) then (some false) else (((Pz k) (o1.2.2.2.2.2.1, o2.2.2.2.2.2.1, a0)).bind fun o7 => bif (!o7) then (some false) else (L 4 [] j4 (Ls (a0, (IntKind.wrap .i64 (a1 + (1 : Int))), a2, a3, a4, a5, a6, a7, a8, a9, a10, a11, a12, a13, a14, a15, a16, a17, a18, a19))))))))) else (((P0 k) (o1.2.1, o2.2.1, a0)).bind fun o8 => bif (!o8) then (some false) else (((P1 k) (o1.2.2.1, o2.2.2.1, a0)).bind fun o9 => bif (!o9) then (some false) else (((P2 k) (o1.2.2.2.1, o2.2.2.2.1, a0)).bind fun o10 => bif (!o10) then (some false) else (((Px k) (o1.2.2.2.2.1, o2.2.2.2.2.1)).bind fun o11 => bif (!o11) then (some false) else (((Pz k) (o1.2.2.2.2.2.1, o2.2.2.2.2.2.1, a0)).bind fun o12 => bif (!o12) then (some false) else (L 4 [] j4 (Ls (a0, (IntKind.wrap .i64 (a1 + (1 : Int))), a2, a3, a4, a5, a6, a7, a8, a9, a10, a11, a12, a13, a14, a15, a16, a17, a18, a19)))))))))) else (some true)
theorem A70 (k j4 : Nat) (x : Ajc) : (F3 k).L 4 [] (j4 + 1) (Ls x) = W8 k j4 (F3 k).J (F3 k).L x := by
 apply cutX (F3 k) [.r, .r, .l, .r, .b, .b] [j4] (Ls x) [] [(4, [], j4)] (W8 k j4 · · x) <;> intros <;> kernel_rfl
theorem Buw (k : Nat) : Aa Tryz.prog 13 (Bmt k) := Ae (F3 k).C k rfl ⟨⟨Bvb k, trivial⟩, ⟨Buy k, trivial⟩, ⟨Buz k, trivial⟩, ⟨Bu0 k, trivial⟩, ⟨Buu k, trivial⟩, ⟨Bux k, trivial⟩, trivial⟩ Ad Tryz.func13 (by kernel_rfl)
def Chn : Sk := ⟨[.lf (.pv (.slice (.int .u8)))], [], []⟩
def Cho : Sk := ⟨[.lf (.pv .bool)], [], []⟩
abbrev Ch0 := (List (Int))
def Chz (k : Nat) : EnvL := [(14, [Bjf k]), (12, [Bn6 k]), (8, [Aoi k]), (13, [Bmt k])]
def Chl (k : Nat) : Cfg := { mkC (Chz k) 124 0 0 with bl := [54, 56] }
def Chj (k : Nat) : (List (Int)) → Option Bool := hid (Ac (Chl k) k Tryz.f6 Chn Cho)
def Cid (k : Nat) : Sig := Ab Chn Cho (Chj k)
noncomputable def Chm (k : Nat) : (List (Int)) → Option Bool
 | a0 => bif (decide (((List.length a0 : Nat) : Int) > (6000 : Int))) then (some true) else (((T0 k) (a0)).bind fun o1 => bif (o1.2.2.2.2.2.2.2.1 != (0 : Int)) then (((Mz k) (())).bind fun o2 => some o2) else (((My k) (o1.1, o1.2.1, o1.2.2.1, o1.2.2.2.1, o1.2.2.2.2.1, o1.2.2.2.2.2.2.2.2.2.1, o1.2.2.2.2.2.2.2.2.2.2, o1.2.2.2.2.2.1, o1.2.2.2.2.2.2.1)).bind fun o3 => bif (o3.2 != (0 : Int)) then (bif (o3.2 == (0 : Int)) then (((Mz k) (())).bind fun o4 => some o4) else (some false)) else (bif (decide (((List.length o3.1 : Nat) : Int) > (65536 : Int))) then (bif (o3.2 == (0 : Int)) then (((Mz k) (())).bind fun o5 => some o5) else (some false)) else (((T0 k) (o3.1)).bind fun o6 => ((My k) (o6.1, o6.2.1, o6.2.2.1, o6.2.2.2.1, o6.2.2.2.2.1, o6.2.2.2.2.2.2.2.2.2.1, o6.2.2.2.2.2.2.2.2.2.2, o6.2.2.2.2.2.1, o6.2.2.2.2.2.2.1)).bind fun o7 => bif (o6.2.2.2.2.2.2.2.1 == (0 : Int)) then (bif (o7.2 == (0 : Int)) then (((Vr k) (o1.1, o1.2.1, o1.2.2.1, o1.2.2.2.1, o1.2.2.2.2.1, o1.2.2.2.2.2.2.2.2.2.1, o1.2.2.2.2.2.2.2.2.2.2, o1.2.2.2.2.2.1, o1.2.2.2.2.2.2.1, o6.1, o6.2.1, o6.2.2.1, o6.2.2.2.1, o6.2.2.2.2.1, o6.2.2.2.2.2.2.2.2.2.1, o6.2.2.2.2.2.2.2.2.2.2, o6.2.2.2.2.2.1, o6.2.2.2.2.2.2.1, false)).bind fun o8 => bif o8 then (bif (o3.1 == o7.1) then (((Mz k) (())).bind fun o9 => some o9) else (some false)) else (some false)) else (some false)) else (some false)))))
theorem Ch1 (k : Nat) (x : (List (Int))) : Chj k x = Chm k x := (Af _ _).trans (by kernel_rfl)
theorem Chy (k : Nat) : Aa Tryz.prog 6 (Cid k) := Ae (Chl k) k rfl ⟨⟨Bqs k, trivial⟩, ⟨Bwi k, trivial⟩, ⟨Aqr k, trivial⟩, ⟨Buw k, trivial⟩, trivial⟩ Ad Tryz.func6 (by kernel_rfl)
end
section
variable {α β R : Type} {d : α} {l : List α} {i : Nat} {x : α}
theorem Jc (h : l[i]? = some x) : i < l.length := (List.getElem?_eq_some_iff.1 h).1
theorem Ei (h : l[i]? = some x) : x ∈ l := List.mem_of_getElem? h
theorem Mm (h : l[i]? = some x) : l.drop i = x :: l.drop (i + 1) := by
 obtain ⟨h1, h2⟩ := List.getElem?_eq_some_iff.1 h
 rw [List.drop_eq_getElem_cons h1, h2]
theorem A5 {K : α → Option R} (h : l[i]? = some x) : idx d l (i : Int) K = K x := by
 have := Jc h
 unfold idx
 rw [cinB, if_pos (by omega), Bhr, List.getD_eq_getElem?_getD, h]
 rfl
theorem B9 {a b : β} (h : l[i]? = some x) : (bif decide ((i : Int) < ((l.length : Nat) : Int)) then a else b) = a := by
 have := Jc h
 rw [cd, if_pos (by omega)]
theorem Ca {a b : β} : (bif decide (((l.length : Nat) : Int) < ((l.length : Nat) : Int)) then a else b) = b := by
 rw [cd, if_neg (by omega)]
theorem Cd (h : l[i]? = some x) (hl : l.length < 1000000) : IntKind.wrap .i64 ((i : Int) + 1) = ((i + 1 : Nat) : Int) := by
 have := Jc h
 rw [w64 (by omega)]
 rfl
theorem Zx {a b : List Int} {K : List Int → Option R} (h : a.length + b.length ≤ 9223372036854775807) : cat a b K = K (a ++ b) := by
 unfold cat
 rw [cd]
 exact if_pos h
theorem Ce {n : Nat} {a b : List α} {K : List α → Option R} (h : (a.length + b.length) * n ≤ 140737488355328) (h2 : a.length + b.length ≤ 9223372036854775807) : app n a b K = K (a ++ b) := by
 unfold app
 rw [Pa, if_pos ⟨h, h2⟩]
theorem Sf (hz : i ≤ l.length) : i = l.length ∨ ∃ x, l[i]? = some x := by
 by_cases h : i < l.length
 ·exact .inr ⟨l[i], List.getElem?_eq_getElem h⟩
 ·exact .inl (by omega)
theorem Apy (l : List α) (p : α → Bool) (g : α → Option Bool) (F : Nat → Int → Option Int) (hl : l.length < 1000000)
  (hF : ∀ j i, F (j + 1) i = bif decide (i < ((l.length : Nat) : Int)) then (idx d l i fun o => (g o).bind fun o2 => bif o2 then some i else F j (IntKind.wrap .i64 (i + 1))) else some (-1))
  (hg : ∀ x ∈ l, g x = some (p x)) : ∀ (j i : Nat), l.length < i + j → i ≤ l.length → ∃ r, F j (i : Int) = some r ∧ decide (r ≥ 0) = (l.drop i).any p
 | 0, i, h, hi => by omega
 | j + 1, i, h, hi => by
  rw [hF]
  rcases Sf hi with rfl | ⟨x, hx⟩
  ·rw [Ca, List.drop_length]
   exact ⟨_, rfl, rfl⟩
  ·rw [B9 hx, A5 hx, hg x (Ei hx), Option.bind_some, Cd hx hl, Mm hx, List.any_cons]
   cases p x with
   | true => exact ⟨_, rfl, by simp⟩
   | false => exact Apy l p g F hl hF hg j (i + 1) (by omega) (by have := Jc hx; omega)
theorem any_all (l : List α) (p : α → Bool) : l.any (fun x => !p x) = !(l.all p) := by
 induction l with
 | nil => rfl
 | cons x r ih => rw [List.any_cons, List.all_cons, ih, Bool.not_and]
theorem Apo (l : List α) (p : α → Bool) (F : Nat → Int → Option R) (e r : Option R)
  (h1 : ∀ j i x, l[i]? = some x → F (j + 1) ((i : Nat) : Int) = if p x then F j ((i + 1 : Nat) : Int) else e) (h0 : ∀ j, F (j + 1) ((l.length : Nat) : Int) = r) :
  ∀ (j i : Nat), l.length < i + j → i ≤ l.length → F j (i : Int) = if (l.drop i).all p then r else e
 | 0, i, h, hi => by omega
 | j + 1, i, h, hi => by
  rcases Sf hi with rfl | ⟨x, hx⟩
  ·rw [h0, List.drop_length]
   rfl
  ·rw [h1 j i x hx, Mm hx, List.all_cons]
   cases p x with
   | true => exact Apo l p F e r h1 h0 j (i + 1) (by omega) (by have := Jc hx; omega)
   | false => rfl
theorem Bo3 (l : List α) (p : α → Bool) (F : Nat → Int → Option R) (e r : Option R)
  (h1 : ∀ j i x, l[i]? = some x → F (j + 1) ((i : Nat) : Int) = if p x then F j ((i + 1 : Nat) : Int) else e) (h0 : ∀ j, F (j + 1) ((l.length : Nat) : Int) = r) (j : Nat) (h : l.length < j) :
  F j 0 = if l.all p then r else e := Apo l p F e r h1 h0 j 0 (by omega) (by omega)
theorem Ap0 (M : Nat) (l : List α) (f : α → List β) (F : Nat → Int → List β → Option R) (r : List β → Option R)
  (h1 : ∀ j i x b, l[i]? = some x → b.length + (f x).length ≤ M → F (j + 1) ((i : Nat) : Int) b = F j ((i + 1 : Nat) : Int) (b ++ f x)) (h0 : ∀ j b, b.length ≤ M → F (j + 1) ((l.length : Nat) : Int) b = r b) :
  ∀ (j i : Nat) (b : List β), l.length < i + j → i ≤ l.length → b.length + ((l.drop i).flatMap f).length ≤ M → F j (i : Int) b = r (b ++ (l.drop i).flatMap f)
 | 0, i, b, h, hi, hb => by omega
 | j + 1, i, b, h, hi, hb => by
  rcases Sf hi with rfl | ⟨x, hx⟩
  ·rw [h0 _ _ (by omega), List.drop_length]
   simp
  ·rw [Mm hx, List.flatMap_cons, List.length_append] at hb
   rw [h1 j i x b hx (by omega), Ap0 M l f F r h1 h0 j (i + 1) (b ++ f x) (by omega) (by have := Jc hx; omega) (by rw [List.length_append]; omega), Mm hx, List.flatMap_cons, List.append_assoc]
theorem Jb (M : Nat) (l : List α) (f : α → List β) (F : Nat → Int → List β → Option R) (r : List β → Option R)
  (h1 : ∀ j i x b, l[i]? = some x → b.length + (f x).length ≤ M → F (j + 1) ((i : Nat) : Int) b = F j ((i + 1 : Nat) : Int) (b ++ f x)) (h0 : ∀ j b, b.length ≤ M → F (j + 1) ((l.length : Nat) : Int) b = r b)
  (j : Nat) (b : List β) (h : l.length < j) (hb : b.length + (l.flatMap f).length ≤ M) : F j 0 b = r (b ++ l.flatMap f) :=
 Ap0 M l f F r h1 h0 j 0 b (by omega) (by omega) hb
theorem Ws (f : α → List β) (m : Nat) : ∀ (l : List α), (∀ x ∈ l, (f x).length ≤ m) → (l.flatMap f).length ≤ l.length * m
 | [], _ => by simp
 | x :: r, h => by
  have := h x (by simp)
  have IH := Ws f m r fun y hy => h y (by simp [hy])
  rw [List.flatMap_cons, List.length_append, List.length_cons, Nat.add_mul]
  omega
end
abbrev Tk := (Int) × ((List Int) × ((Int) × ((Int) × (Unit))))
def B7 (x : Int) : Bool := decide (97 ≤ x) && decide (x ≤ 122)
def A0 (x : Int) : Bool := decide (48 ≤ x) && decide (x ≤ 57)
def Ck (x : Int) : Bool := decide (x = 32 ∨ x = 9 ∨ x = 10 ∨ x = 13)
def D7 (x : Int) : Bool := decide (x = 123 ∨ x = 125 ∨ x = 44 ∨ x = 59 ∨ x = 58 ∨ x = 47 ∨ x = 45)
def Bh (x : Int) : Bool := B7 x || (A0 x || decide (x = 95))
def drp : Bool → List Int → List Int
 | _, [] => []
 | true, x :: r => if x = 10 then drp false r else drp true r
 | false, x :: r => if x = 35 then drp true r else if Ck x then drp false r else x :: r
def valD (l : List Int) : Int := l.foldl (fun v c => 10 * v + (c - 48)) 0
def tok1 : List Int → Int × Int × List Int × Int × List Int
 | [] => (40, 0, [], 0, [])
 | x :: r =>
  if B7 x then (if 24 < ((x :: r).takeWhile Bh).length then (4, 0, [], 0, []) else (0, 1, (x :: r).takeWhile Bh, 0, (x :: r).dropWhile Bh))
  else if A0 x then (if 18 < ((x :: r).takeWhile A0).length then (4, 0, [], 0, []) else (0, 2, (x :: r).takeWhile A0, valD ((x :: r).takeWhile A0), (x :: r).dropWhile A0))
  else if D7 x then (0, 3, [x], 0, r)
  else (40, 0, [], 0, [])
def lx (n : Nat) : Nat → List Int → Int × Int × List Tk
 | 0, _ => (0, 0, [])
 | f + 1, s => match drp false s with
  | [] => (0, 0, [(0, [], 0, (n : Int), ())])
  | x :: r => if (tok1 (x :: r)).1 = 0 then
    (if (lx n f (tok1 (x :: r)).2.2.2.2).1 = 0 then
     (0, 0, ((tok1 (x :: r)).2.1, (tok1 (x :: r)).2.2.1, (tok1 (x :: r)).2.2.2.1, ((n - (x :: r).length : Nat) : Int), ()) :: (lx n f (tok1 (x :: r)).2.2.2.2).2.2)
    else ((lx n f (tok1 (x :: r)).2.2.2.2).1, (lx n f (tok1 (x :: r)).2.2.2.2).2.1, []))
   else ((tok1 (x :: r)).1, ((n - (x :: r).length : Nat) : Int), [])
def toks (b : List Int) : Int × Int × List Tk := if 65536 < b.length then (4, 65536, []) else lx b.length (b.length + 1) b
theorem Ke : ∀ (m : Bool) (s : List Int), drp m s <:+ s
 | _, [] => by cases ‹Bool› <;> simp [drp]
 | true, x :: r => by
  rw [drp]; split
  ·exact (Ke false r).trans (List.suffix_cons x r)
  ·exact (Ke true r).trans (List.suffix_cons x r)
 | false, x :: r => by
  rw [drp]; split
  ·exact (Ke true r).trans (List.suffix_cons x r)
  ·split
   ·exact (Ke false r).trans (List.suffix_cons x r)
   ·exact List.suffix_refl _
theorem M1 (m : Bool) (s : List Int) : (drp m s).length ≤ s.length := (Ke m s).length_le
theorem M0 : ∀ (m : Bool) (s : List Int) {x : Int} {r : List Int}, drp m s = x :: r → x ≠ 35 ∧ Ck x = false
 | _, [], x, r, h => by cases ‹Bool› <;> simp [drp] at h
 | true, y :: q, x, r, h => by
  rw [drp] at h; split at h
  ·exact M0 false q h
  ·exact M0 true q h
 | false, y :: q, x, r, h => by
  rw [drp] at h; split at h
  ·exact M0 true q h
  ·split at h
   ·exact M0 false q h
   ·rename_i h1 h2
    cases h
    exact ⟨h1, by simpa using h2⟩
theorem Aq8 (s : List Int) (m : Bool) : drp false (drp m s) = drp m s := by
 cases h : drp m s with
 | nil => rfl
 | cons x r =>
  obtain ⟨h1, h2⟩ := M0 m s h
  rw [drp, if_neg h1, h2]
  rfl
theorem Cg4 {c : Int} (h : Bh c = false) : A0 c = false := by
 unfold Bh at h
 simp only [Bool.or_eq_false_iff] at h
 exact h.2.1
theorem Mi {x : Int} {r : List Int} (h : (tok1 (x :: r)).1 = 0) :
  (tok1 (x :: r)).2.2.1 ++ (tok1 (x :: r)).2.2.2.2 = x :: r ∧ (tok1 (x :: r)).2.2.1 ≠ [] ∧ (tok1 (x :: r)).2.1 ≠ 0 ∧ (tok1 (x :: r)).2.2.1.length ≤ 24 := by
 simp only [tok1] at h ⊢
 split at h
 ·rename_i h1
  simp only [h1, if_true]
  split at h
  ·simp at h
  ·rename_i h2
   rw [if_neg h2]
   refine ⟨List.takeWhile_append_dropWhile, ?_, by simp, by simp only []; omega⟩
   have : Bh x = true := by simp [Bh, h1]
   simp [List.takeWhile_cons, this]
 ·rename_i h1
  simp only [h1, Bool.false_eq_true, if_false]
  split at h
  ·rename_i h2
   simp only [h2, if_true]
   split at h
   ·simp at h
   ·rename_i h3
    rw [if_neg h3]
    refine ⟨List.takeWhile_append_dropWhile, ?_, by simp, by simp only []; omega⟩
    simp [List.takeWhile_cons, h2]
  ·rename_i h2
   simp only [h2, Bool.false_eq_true, if_false]
   split at h
   ·rename_i h3; simp [h3]
   ·simp at h
theorem Ov {x : Int} {r : List Int} (h : (tok1 (x :: r)).1 = 0) : (tok1 (x :: r)).2.2.2.2.length ≤ r.length := by
 obtain ⟨h1, h2, _⟩ := Mi h
 have e := congrArg List.length h1
 rw [List.length_append, List.length_cons] at e
 have : (tok1 (x :: r)).2.2.1.length ≠ 0 := fun h => h2 (List.length_eq_zero_iff.1 h)
 omega
theorem Anb (n : Nat) : ∀ (f f' : Nat) (s : List Int), s.length < f → s.length < f' → lx n f s = lx n f' s
 | 0, _, _, h, _ => by omega
 | _ + 1, 0, _, _, h => by omega
 | f + 1, f' + 1, s, h, h' => by
  have hl := M1 false s
  rw [lx, lx]
  cases hd : drp false s with
  | nil => rfl
  | cons x r =>
   rw [hd, List.length_cons] at hl
   simp only []
   by_cases h0 : (tok1 (x :: r)).1 = 0
   ·have := Ov h0
    rw [if_pos h0, if_pos h0, Anb n f f' _ (by omega) (by omega)]
   ·rw [if_neg h0, if_neg h0]
theorem Bga (n : Nat) : ∀ (f : Nat) (s : List Int), (lx n f s).1 = 0 → (lx n f s).2.1 = 0
 | 0, s, _ => rfl
 | f + 1, s, h => by
  rw [lx] at h ⊢
  cases hd : drp false s with
  | nil => rfl
  | cons x r =>
   rw [hd] at h
   simp only [] at h ⊢
   split at h
   ·rename_i h0
    rw [if_pos h0]
    split at h
    ·rename_i h1; rw [if_pos h1]
    ·rename_i h1; exact absurd h h1
   ·rename_i h0; exact absurd h h0
def kdS (a : Int) : Int := if B7 a then 3 else if A0 a then 4 else if Ck a then 1 else if a = 35 then 2 else if a = 95 then 6 else if D7 a then 5 else 0
theorem Bfq (k : Nat) (a : Int) : clexkind k a = some (kdS a) := by
 skip
 rw [Bzm, Aem, Bzn, Aen, Bzo, Aeo]
 simp only [cd, cbeq]
 unfold kdS B7 A0 Ck D7
 simp only [Bool.and_eq_true, decide_eq_true_eq]
 repeat' (first | (exfalso; omega) | (refine iteS (fun _ => ?_) (fun _ => ?_)))
 all_goals (refine congrArg some ?_; repeat' (first | rfl | (exfalso; omega) | (refine iteR (fun _ => ?_) (fun _ => ?_))))
theorem kd1 (a : Int) : kdS a = 1 ↔ Ck a = true := by
 unfold kdS B7 A0 Ck D7
 simp only [Bool.and_eq_true, decide_eq_true_eq]
 repeat' split
 all_goals first | omega
theorem kd2 (a : Int) : kdS a = 2 ↔ a = 35 := by
 unfold kdS B7 A0 Ck D7
 simp only [Bool.and_eq_true, decide_eq_true_eq]
 repeat' split
 all_goals first | omega
theorem kd3 (a : Int) : kdS a = 3 ↔ B7 a = true := by
 unfold kdS B7 A0 Ck D7
 simp only [Bool.and_eq_true, decide_eq_true_eq]
 repeat' split
 all_goals first | omega
theorem kd4 (a : Int) : kdS a = 4 ↔ A0 a = true := by
 unfold kdS B7 A0 Ck D7
 simp only [Bool.and_eq_true, decide_eq_true_eq]
 repeat' split
 all_goals first | omega
theorem kd5 (a : Int) : kdS a = 5 ↔ D7 a = true := by
 unfold kdS B7 A0 Ck D7
 simp only [Bool.and_eq_true, decide_eq_true_eq]
 repeat' split
 all_goals first | omega
theorem kd6 (a : Int) : kdS a = 6 ↔ a = 95 := by
 unfold kdS B7 A0 Ck D7
 simp only [Bool.and_eq_true, decide_eq_true_eq]
 repeat' split
 all_goals first | omega
theorem Bfp (k : Nat) (b : List Int) (i : Nat) (h : i < b.length) : Pn k (b, (i : Int)) = some (kdS (b.getD i 0), b, (i : Int)) := by
 skip
 rw [Bzs, Atu, cinB, if_pos (by omega), Jo, Bfq]; rfl
theorem Cbr (k : Nat) (b : List Int) (i : Nat) (h : i < b.length) : Mq k (b, (i : Int)) = some (kdS (b.getD i 0)) := by
 skip
 rw [Bzq, Atq, cinB, if_pos (by omega), Jo, Bfq]; rfl
def fstI (v : Int) : List Int → Option Nat
 | [] => none
 | x :: r => if v = x then some 0 else (fstI v r).map (· + 1)
theorem Bfh (k : Nat) (l : List Int) (v : Int) (hl : l.length < 9223372036854775807) : ∀ (j i : Nat), i ≤ l.length → l.length - i < j →
  (G8 k).L 2 [] j (Q5 (l, v, (l.length : Int), (i : Int))) = some (match fstI v (l.drop i) with | some n => ((i + n : Nat) : Int) | none => -1)
 | 0, i, _, h => by omega
 | j + 1, i, hi, h => by
  rw [By5, Ad1, cd, cinB, Jo]
  by_cases hlt : i < l.length
  ·rw [if_pos (by omega), if_pos (by omega), El hlt, fstI, cbeq]
   split
   ·rfl
   ·rw [w64 (by omega), Ge, Bfh k l v hl j (i + 1) (by omega) (by omega)]
    cases fstI v (l.drop (i + 1)) with
    | none => rfl
    | some n => simp only [Option.map_some]; congr 2; omega
  ·have hi2 : i = l.length := by omega
   rw [if_neg (by omega)]
   subst hi2
   simp [fstI]
theorem Cbj (k : Nat) (l : List Int) (v : Int) (hk : l.length < k) (hl : l.length < 9223372036854775807) : To k (l, v) = some (match fstI v l with | some n => (n : Int) | none => -1) := by
 skip
 rw [By4, Ad0]
 have := Bfh k l v hl k 0 (by omega) (by omega)
 simpa using this
theorem Bd4 : ∀ (s : List Int), drp true s = match fstI 10 s with | some n => drp false (s.drop n) | none => []
 | [] => rfl
 | x :: r => by
  rw [drp, fstI]
  by_cases h : x = 10
  ·subst h; simp [drp, Ck]
  ·rw [if_neg h, if_neg (fun e => h e.symm), Bd4 r]
   cases fstI 10 r <;> rfl
theorem Bd3 {v : Int} : ∀ {l : List Int} {n : Nat}, fstI v l = some n → n < l.length ∧ l.getD n 0 = v
 | [], n, h => by cases h
 | x :: r, n, h => by
  simp only [fstI] at h
  split at h
  ·rename_i e; cases h; exact ⟨by simp, by simp [e]⟩
  ·obtain ⟨m, hm, rfl⟩ := Option.map_eq_some_iff.1 h
   have := Bd3 hm
   exact ⟨by simp; omega, by simpa using this.2⟩
theorem Y4 (k : Nat) (b : List Int) (hk : b.length < k) (hl : b.length < 1000000) : ∀ (j i : Nat), i ≤ b.length → b.length - i < j → (Hc k).L 0 [] j (Ln (b, (i : Int))) = some (b, ((b.length - (drp false (b.drop i)).length : Nat) : Int))
 | 0, i, _, h => by omega
 | j + 1, i, hi, h => by
  rw [Bz4, Aez, cd]
  by_cases hlt : i < b.length
  ·rw [if_pos (by omega), Bfp k b i hlt, Option.bind_some]
   dsimp only
   rw [cbeq, cbeq, Je, if_pos (by omega : (0 : Int) ≤ i ∧ (i : Int) ≤ ((b.length : Nat) : Int) ∧ ((b.length : Nat) : Int) ≤ ((b.length : Nat) : Int)), Kd, List.take_length, El hlt]
   simp only [kd1, kd2, drp]
   split
   ·rename_i h2
    rw [Bd4, ← El hlt, Cbj k _ _ (by rw [List.length_drop]; omega) (by rw [List.length_drop]; omega), Option.bind_some, El hlt, fstI, if_neg (by omega)]
    cases hf : fstI 10 (b.drop (i + 1)) with
    | none =>
     simp only [Option.map_none, cd]
     rw [if_neg (by omega), Y4 k b hk hl j b.length (Nat.le_refl _) (by omega)]
     simp [drp]
    | some n =>
     obtain ⟨n1, n2⟩ := Bd3 hf
     rw [List.length_drop] at n1
     simp only [Option.map_some, cd]
     have hpos : ((n + 1 : Nat) : Int) ≥ 0 := by omega
     have hw : -9223372036854775808 ≤ (i : Int) + ((n + 1 : Nat) : Int) ∧ (i : Int) + ((n + 1 : Nat) : Int) ≤ 9223372036854775807 := by omega
     rw [if_pos hpos, w64 hw, show ((i : Int) + ((n + 1 : Nat) : Int)) = ((i + (n + 1) : Nat) : Int) by simp, Y4 k b hk hl j (i + (n + 1)) (by omega) (by omega), List.drop_drop]
     rw [show i + 1 + n = i + (n + 1) by omega]
   ·split
    ·rw [w64 (by omega), Ge]
     exact Y4 k b hk hl j (i + 1) (by omega) (by omega)
    ·rw [← El hlt, List.length_drop]
     congr 3
     omega
  ·rw [if_neg (by omega), List.drop_eq_nil_of_le (by omega)]
   simp [drp]
   omega
theorem Cf9 (k : Nat) (b : List Int) (hk : b.length < k) (hl : b.length < 1000000) (i : Nat) (hi : i ≤ b.length) : Tu k (b, (i : Int)) = some (b, ((b.length - (drp false (b.drop i)).length : Nat) : Int)) := by
 skip
 rw [Bz3, Aey, Y4 k b hk hl k i hi (by omega)]
theorem Anr (k : Nat) (b : List Int) (g : Int → Option Bool) (p : Int → Bool) (hg : ∀ x, g (kdS x) = some (p x)) (L : Nat → Int → List Int → Int → Option (List Int × List Int × Int))
  (hL : ∀ j a0 a1 a2, L (j + 1) a0 a1 a2 = bif (decide (a2 < ((List.length a1 : Nat) : Int))) then ((Mq k (a1, a2)).bind fun o1 => (g o1).bind fun o2 => bif o2 then L j a0 a1 (IntKind.wrap .i64 (a2 + (1 : Int))) else (bif (cutB a0 a2 (List.length a1)) then some ((cutL a1 a0 a2), a1, a2) else none)) else (bif (cutB a0 a2 (List.length a1)) then some ((cutL a1 a0 a2), a1, a2) else none)) (hl : b.length < 1000000) (s : Nat) :
  ∀ (j i : Nat), s ≤ i → i ≤ b.length → b.length - i < j → L j (s : Int) b (i : Int) = some ((b.take (i + ((b.drop i).takeWhile p).length)).drop s, b, ((i + ((b.drop i).takeWhile p).length : Nat) : Int))
 | 0, i, _, _, h => by omega
 | j + 1, i, hs, hi, h => by
  rw [hL, cd]
  by_cases hlt : i < b.length
  ·rw [if_pos (by omega), Cbr k b i hlt, Option.bind_some, hg, Option.bind_some, El hlt, List.takeWhile_cons]
   cases hp : p (b.getD i 0) with
   | true =>
    rw [cond_true, w64 (by omega), Ge, Anr k b g p hg L hL hl s j (i + 1) (by omega) (by omega) (by omega)]
    simp only [if_true, List.length_cons]
    rw [show i + 1 + ((b.drop (i + 1)).takeWhile p).length = i + (((b.drop (i + 1)).takeWhile p).length + 1) by omega]
   | false =>
    rw [cond_false, Je, if_pos (by omega), Kd]
    simp
  ·rw [if_neg (by omega), Je, if_pos (by omega), Kd, @List.drop_eq_nil_of_le _ b i (by omega)]
   simp
theorem Y8 (p : Int → Bool) (b : List Int) (i : Nat) : (b.take (i + ((b.drop i).takeWhile p).length)).drop i = (b.drop i).takeWhile p := by
 rw [List.drop_take]
 simp only [Nat.add_sub_cancel_left]
 exact (List.prefix_iff_eq_take.1 (List.takeWhile_prefix p)).symm
theorem Cdf (k : Nat) (b : List Int) (hk : b.length < k) (hl : b.length < 1000000) (i : Nat) (hi : i ≤ b.length) :
  Ts k (b, (i : Int)) = some ((b.drop i).takeWhile Bh, b, ((i + ((b.drop i).takeWhile Bh).length : Nat) : Int)) := by
 have := Anr k b (Tw k) Bh (fun x => by
  skip
  rw [Bz8, Aud, cbeq, cbeq]
  unfold Bh
  have h6 : (kdS x == 6) = decide (x = 95) := by
   rw [Bool.eq_iff_iff]; simp [kd6]
  rw [h6]
  simp only [kd3, kd4]
  cases B7 x <;> cases A0 x <;> simp) (fun j a0 a1 a2 => (Ha k).L 2 [] j (Q9 (a0, a1, a2))) (fun j a0 a1 a2 => Bz1 k j (a0, a1, a2)) hl i k i (Nat.le_refl _) (by omega) (by omega)
 skip
 rw [Bz0, Aev]
 rw [Y8] at this
 exact this
theorem Cde (k : Nat) (b : List Int) (hk : b.length < k) (hl : b.length < 1000000) (i : Nat) (hi : i ≤ b.length) :
  Tt k (b, (i : Int)) = some ((b.drop i).takeWhile A0, b, ((i + ((b.drop i).takeWhile A0).length : Nat) : Int)) := by
 have := Anr k b (Tr k) A0 (fun x => by
  skip
  rw [Bzu, Aty]
  congr 1
  rw [Bool.eq_iff_iff]; simp [kd4]) (fun j a0 a1 a2 => (Hb k).L 2 [] j (Q8 (a0, a1, a2))) (fun j a0 a1 a2 => Bzy k j (a0, a1, a2)) hl i k i (Nat.le_refl _) (by omega) (by omega)
 skip
 rw [Bzx, Aes]
 rw [Y8] at this
 exact this
theorem Yf {p : Int → Bool} : ∀ {l : List Int} {x : Int}, x ∈ l.takeWhile p → p x = true
 | [], x, h => by simp at h
 | y :: l, x, h => by
  rw [List.takeWhile_cons] at h
  split at h
  ·rename_i hp
   rcases List.mem_cons.1 h with rfl | h
   ·exact hp
   ·exact Yf h
  ·cases h
theorem Bhb : ∀ (l : List Int) (acc m : Nat), acc < 10 ^ m → m + l.length ≤ 18 → (∀ c ∈ l, A0 c = true) →
  ∃ u : Nat, Lib.parseUintM (2 ^ 64 - 1) acc (u8s l) = .ok u ∧ u < 10 ^ 18 ∧ (u : Int) = l.foldl (fun v c => 10 * v + (c - 48)) (acc : Int)
 | [], acc, m, h1, h2, _ => ⟨acc, rfl, Nat.lt_of_lt_of_le h1 (Nat.pow_le_pow_right (by decide) (by simpa using h2)), rfl⟩
 | c :: r, acc, m, h1, h2, h3 => by
  have hc := h3 c (by simp)
  unfold A0 at hc
  simp only [Bool.and_eq_true, decide_eq_true_eq] at hc
  have hu : (UInt8.ofNat c.toNat).toNat = c.toNat := by rw [UInt8.toNat_ofNat']; omega
  have hm : m ≤ 17 := by simp at h2; omega
  have ha : acc < 10 ^ 17 := Nat.lt_of_lt_of_le h1 (Nat.pow_le_pow_right (by decide) hm)
  have hb : acc * 10 + (c.toNat - 48) < 10 ^ (m + 1) := by
   rw [Nat.pow_succ]
   omega
  have hb2 : acc * 10 + (c.toNat - 48) < 10 ^ 18 := Nat.lt_of_lt_of_le hb (Nat.pow_le_pow_right (by decide) (by omega))
  obtain ⟨u, e1, e2, e3⟩ := Bhb r (acc * 10 + (c.toNat - 48)) (m + 1) hb (by simp at h2; omega) fun x hx => h3 x (by simp [hx])
  refine ⟨u, ?_, e2, ?_⟩
  ·show Lib.parseUintM _ _ (UInt8.ofNat c.toNat :: u8s r) = _
   simp only [Lib.parseUintM]
   rw [hu, if_pos (by omega), if_neg (by omega), if_neg (by omega)]
   exact e1
  ·rw [e3, List.foldl_cons]
   congr 1
   omega
theorem Chx : ∀ (l : List Int) (acc : Int) (m : Nat), 0 ≤ acc → acc < 10 ^ m → (∀ c ∈ l, A0 c = true) → 0 ≤ l.foldl (fun v c => 10 * v + (c - 48)) acc ∧ l.foldl (fun v c => 10 * v + (c - 48)) acc < 10 ^ (m + l.length)
 | [], acc, m, h0, h1, _ => ⟨h0, by simpa using h1⟩
 | c :: r, acc, m, h0, h1, h3 => by
  have hc := h3 c (by simp)
  unfold A0 at hc
  simp only [Bool.and_eq_true, decide_eq_true_eq] at hc
  have := Chx r (10 * acc + (c - 48)) (m + 1) (by omega) (by rw [Int.pow_succ]; omega) fun x hx => h3 x (by simp [hx])
  rw [List.foldl_cons, List.length_cons, show m + (r.length + 1) = m + 1 + r.length by omega]
  exact this
theorem Cc9 {l : List Int} (h0 : l ≠ []) (h1 : l.length ≤ 18) (h2 : ∀ x ∈ l, A0 x = true) : Oh (l, 10, 64) = some (valD l, true) := by
 unfold Oh
 rw [if_pos ⟨rfl, rfl, by simp only; omega⟩]
 obtain ⟨u, hu, hlt, hv⟩ := Bhb l 0 0 (by decide) (by simpa using h1) h2
 have : Lib.parseIntB 64 (u8s l) = .ok (u : Int) := by
  cases l with
  | nil => exact absurd rfl h0
  | cons x r =>
   have hc := h2 x (by simp)
   unfold A0 at hc
   simp only [Bool.and_eq_true, decide_eq_true_eq] at hc
   have hx : (UInt8.ofNat x.toNat).toNat = x.toNat := by rw [UInt8.toNat_ofNat']; omega
   have hl : u8s (x :: r) = UInt8.ofNat x.toNat :: u8s r := rfl
   rw [hl] at hu ⊢
   have e1 : ¬ ((UInt8.ofNat x.toNat).toNat = 43 ∨ (UInt8.ofNat x.toNat).toNat = 45) := by omega
   have e2 : ¬ ((UInt8.ofNat x.toNat).toNat = 45) := by omega
   simp only [Lib.parseIntB, Lib.parseUintB, if_neg e1]
   rw [if_neg (by simp), hu]
   simp only [e2]
   rw [if_neg (by simp; omega), if_neg (by simp)]
   simp
 rw [this]
 simp only []
 have hv2 : (u : Int) = valD l := hv
 rw [if_pos, hv2]
 ·have h1 : (u : Int) < 10 ^ 18 := by exact_mod_cast hlt
  simp only [Lit.wf, Bool.and_eq_true, decide_eq_true_eq]
  constructor
  ·exact Int.le_trans (by decide) (Int.natCast_nonneg u)
  ·exact Int.le_trans (Int.le_of_lt h1) (by decide)
theorem Cgs (k : Nat) (b : List Int) (hk : b.length < k) (hl : b.length < 1000000) (i : Nat) (hi : i < b.length) (hx : b.getD i 0 ≠ 35) (hb : Ck (b.getD i 0) = false) :
  ∃ q : Int, Tv k (b, (i : Int)) = some ((tok1 (b.drop i)).2.1, (tok1 (b.drop i)).2.2.1, (tok1 (b.drop i)).2.2.2.1, 0, (tok1 (b.drop i)).1, b, q) ∧ ((tok1 (b.drop i)).1 = 0 → q = ((b.length - (tok1 (b.drop i)).2.2.2.2.length : Nat) : Int)) := by
 have e0 := El hi
 have elen : (b.drop i).length = b.length - i := List.length_drop
 skip
 rw [Bz6, At9, Bfp k b i hi, Option.bind_some]
 dsimp only
 rw [cbeq, cbeq, cbeq]
 simp only [kd3, kd4, kd5]
 split
 ·rename_i h3
  have hw := List.takeWhile_append_dropWhile (p := Bh) (l := b.drop i)
  have hw2 := congrArg List.length hw
  rw [List.length_append, elen] at hw2
  skip
  rw [Bz9, Aug, Cdf k b hk hl i (by omega), Option.bind_some]
  simp only [cd]
  have et : tok1 (b.drop i) = if 24 < ((b.drop i).takeWhile Bh).length then (4, 0, [], 0, []) else (0, 1, (b.drop i).takeWhile Bh, 0, (b.drop i).dropWhile Bh) := by
   rw [e0, tok1, if_pos h3]
  rw [et]
  by_cases h24 : 24 < ((b.drop i).takeWhile Bh).length
  ·rw [if_pos (by omega), if_pos h24]
   exact ⟨_, rfl, fun h => by simp at h⟩
  ·rw [if_neg (by omega), if_neg h24]
   exact ⟨_, rfl, fun _ => by simp only []; omega⟩
 ·rename_i h3
  split
  ·rename_i h4
   have hw := List.takeWhile_append_dropWhile (p := A0) (l := b.drop i)
   have hw2 := congrArg List.length hw
   rw [List.length_append, elen] at hw2
   skip
   rw [Bzv, At1, Cde k b hk hl i (by omega), Option.bind_some]
   simp only [cd]
   have et : tok1 (b.drop i) = if 18 < ((b.drop i).takeWhile A0).length then (4, 0, [], 0, []) else (0, 2, (b.drop i).takeWhile A0, valD ((b.drop i).takeWhile A0), (b.drop i).dropWhile A0) := by
    rw [e0, tok1, if_neg h3, if_pos h4]
   rw [et]
   by_cases h18 : 18 < ((b.drop i).takeWhile A0).length
   ·rw [if_pos (by omega), if_pos h18]
    exact ⟨_, rfl, fun h => by simp at h⟩
   ·rw [if_neg (by omega), if_neg h18]
    rw [show Acb k ((b.drop i).takeWhile A0, 10, 64) = some (valD ((b.drop i).takeWhile A0), true) from Cc9 (by rw [e0, List.takeWhile_cons, if_pos h4]; simp) (by omega) (fun x hx => Yf hx), Option.bind_some]
    exact ⟨_, rfl, fun _ => by simp only []; omega⟩
  ·rename_i h4
   have et : tok1 (b.drop i) = if D7 (b.getD i 0) then (0, 3, [b.getD i 0], 0, b.drop (i + 1)) else (40, 0, [], 0, []) := by
    rw [e0, tok1, if_neg h3, if_neg h4]
   rw [et]
   split
   ·rename_i h5
    rw [w64 (n := (i : Int) + 1) (by omega), w64 (by omega), Je, if_pos (by omega), Ge]
    rw [show (((i + 1 : Nat) : Int) - 1) = (i : Int) by omega, Kd]
    refine ⟨_, ?_, fun _ => rfl⟩
    have e1 : (b.take (i + 1)).drop i = [b.getD i 0] := by
     rw [List.drop_take, e0, show i + 1 - i = 1 by omega]; rfl
    rw [e1]
    congr 7
    simp only [List.length_drop]
    omega
   ·exact ⟨_, rfl, fun h => by simp at h⟩
theorem Bog (k : Nat) (b : List Int) (hk : b.length < k) (hl : b.length < 1000000) : ∀ (j i : Nat) (out : List Tk), i ≤ b.length → b.length - i < j → out.length ≤ i →
  (G9 k).L 5 [] j (Q7 (b, b, (i : Int), out)) = some ((lx b.length j (b.drop i)).1, (lx b.length j (b.drop i)).2.1, if (lx b.length j (b.drop i)).1 = 0 then out ++ (lx b.length j (b.drop i)).2.2 else [])
 | 0, i, out, _, h, _ => by omega
 | j + 1, i, out, hi, h, ho => by
  have hd := M1 false (b.drop i)
  have hsuf := (Ke false (b.drop i)).trans (List.drop_suffix i b)
  rw [List.length_drop] at hd
  rw [Bzj, Aei, Cf9 k b hk hl i hi, Option.bind_some, lx]
  cases hs : drp false (b.drop i) with
  | nil =>
   dsimp only
   rw [List.length_nil, Nat.sub_zero, cbeq, if_pos rfl, Pa, if_pos (by simp only [List.length_cons, List.length_nil]; omega)]
   rfl
  | cons x r =>
   rw [hs] at hd hsuf
   obtain ⟨h35, hbl⟩ := M0 false _ hs
   have hsuf2 := List.suffix_iff_eq_drop.1 hsuf
   generalize hp : b.length - (x :: r).length = p at *
   have hlen2 : (x :: r).length ≤ b.length := by omega
   have hpl : p < b.length := by rw [List.length_cons] at hd hp; omega
   have hx : b.getD p 0 = x := by
    have := El hpl
    rw [← hsuf2] at this
    exact (List.cons.inj this).1.symm
   dsimp only
   rw [cbeq, if_neg (by omega)]
   obtain ⟨q, e, hq⟩ := Cgs k b hk hl p hpl (by rw [hx]; exact h35) (by rw [hx]; exact hbl)
   rw [← hsuf2] at e hq
   rw [e, Option.bind_some]
   dsimp only
   rw [cbne]
   by_cases h0 : (tok1 (x :: r)).1 = 0
   ·have hr := Ov h0
    obtain ⟨s1, s2, s3, s4⟩ := Mi h0
    simp only [if_pos h0]
    rw [Pa, if_pos (by simp only [List.length_cons, List.length_nil]; omega), hq h0]
    rw [List.length_cons] at hd hp
    have hsub : b.drop (b.length - (tok1 (x :: r)).2.2.2.2.length) = (tok1 (x :: r)).2.2.2.2 := by
     have hs3 : (tok1 (x :: r)).2.2.2.2 <:+ b := (List.suffix_append _ _).trans (s1 ▸ hsuf)
     exact (List.suffix_iff_eq_drop.1 hs3).symm
    have := Bog k b hk hl j (b.length - (tok1 (x :: r)).2.2.2.2.length) (out ++ [((tok1 (x :: r)).2.1, ((tok1 (x :: r)).2.2.1, ((tok1 (x :: r)).2.2.2.1, (((p : Nat) : Int), ()))))]) (by omega) (by omega) (by rw [List.length_append]; simp only [List.length_cons, List.length_nil]; omega)
    rw [hsub] at this
    rw [this]
    by_cases h1 : (lx b.length j (tok1 (x :: r)).2.2.2.2).1 = 0
    ·have hz := Bga _ _ _ h1
     simp only [if_pos h1, h1, hz]
     simp
     omega
    ·simp only [if_neg h1]
   ·simp only [if_neg h0, hp]
theorem Boh (k : Nat) (b : List Int) (hk : b.length < k) (hm : b.length < 1000000) : Pm k b = some (toks b) := by
 unfold toks
 rw [Bzi, Aeh, cd]
 by_cases hl : 65536 < b.length
 ·rw [if_pos (by omega), if_pos hl]
 ·rw [if_neg (by omega), if_neg hl, show (0 : Int) = ((0 : Nat) : Int) from rfl, Bog k b hk (by omega) k 0 [] (Nat.zero_le _) (by omega) (Nat.zero_le _)]
  rw [List.drop_zero, Anb _ k (b.length + 1) b (by omega) (by omega), List.nil_append]
  have : ∀ (f : Nat) (s : List Int), (if (lx b.length f s).1 = 0 then (lx b.length f s).2.2 else []) = (lx b.length f s).2.2 := by
   intro f s
   split
   ·rfl
   ·rename_i h
    cases f with
    | zero => exact absurd rfl h
    | succ f =>
     rw [lx] at h ⊢
     cases hd : drp false s with
     | nil => rw [hd] at h; exact absurd rfl h
     | cons x r =>
      rw [hd] at h
      simp only [] at h ⊢
      split
      ·rename_i h0
       rw [if_pos h0] at h
       split
       ·rename_i h1; rw [if_pos h1] at h; exact absurd rfl h
       ·rfl
      ·rfl
  rw [this]
theorem Bh0 (k : Nat) (b : List Int) (hl : b.length < 1000000) (j1 i0 : Nat) (H : ∀ i, i0 < i → i ≤ b.length → (D3 k).L 1 [] j1 (Hp (b, (i : Int))) = some ((b.length - (drp false (b.drop i)).length : Nat) : Int)) :
  ∀ (j i : Nat), i0 < i → i ≤ b.length → b.length - i < j → (D3 k).L 3 [j1] j (Rv (b, (i : Int))) = some ((b.length - (drp true (b.drop i)).length : Nat) : Int)
 | 0, i, _, _, h => by omega
 | j + 1, i, h0, hi, h => by
  rw [A7j, W2, cd, cinB, cbne, Jo]
  by_cases hlt : i < b.length
  ·rw [if_pos (by omega), if_pos (by omega), El hlt, drp]
   by_cases hn : b.getD i 0 = 10
   ·rw [if_pos hn, if_pos hn, H i h0 hi, El hlt, drp, hn]
    rfl
   ·rw [if_neg hn, if_neg hn, w64 (by omega), Ge]
    exact Bh0 k b hl j1 i0 H j (i + 1) (by omega) (by omega) (by omega)
  ·rw [if_neg (by omega), H i h0 hi, @List.drop_eq_nil_of_le _ b i (by omega)]
   simp [drp]
theorem An4 (k : Nat) (b : List Int) (hk : b.length < k) (hl : b.length < 1000000) : ∀ (j i : Nat), i ≤ b.length → b.length - i < j → (D3 k).L 1 [] j (Hp (b, (i : Int))) = some ((b.length - (drp false (b.drop i)).length : Nat) : Int)
 | 0, i, _, h => by omega
 | j + 1, i, hi, h => by
  rw [B6f, Ais]
  simp only [cd, cinB, cbeq, Jo]
  by_cases hlt : i < b.length
  ·rw [if_pos (by omega)]
   simp only [if_pos (show (0 : Int) ≤ (i : Int) ∧ (i : Int) < (b.length : Int) by omega)]
   have IH := An4 k b hk hl j (i + 1) (by omega) (by omega)
   rw [w64 (by omega), Ge, IH, El hlt, drp]
   by_cases h35 : b.getD i 0 = 35
   ·rw [if_pos h35, if_pos h35]
    obtain ⟨k', rfl⟩ : ∃ k', k = k' + 1 := ⟨k - 1, by omega⟩
    rw [A7j, W2, cd, cinB, cbne, Jo, if_pos (by omega), if_pos (by omega), if_neg (by omega), w64 (by omega), Ge]
    exact Bh0 _ b hl j i (fun i' h1 h2 => An4 _ b hk hl j i' h2 (by omega)) k' (i + 1) (by omega) (by omega) (by omega)
   ·rw [if_neg h35, if_neg h35]
    unfold Ck
    simp only [decide_eq_true_eq]
    have e : b.length - (b.getD i 0 :: b.drop (i + 1)).length = i := by rw [List.length_cons, List.length_drop]; omega
    by_cases h1 : b.getD i 0 = 32
    ·rw [if_pos h1, if_pos (by omega)]
    ·rw [if_neg h1]
     by_cases h2 : b.getD i 0 = 9
     ·rw [if_pos h2, if_pos (by omega)]
     ·rw [if_neg h2]
      by_cases h3 : b.getD i 0 = 10
      ·rw [if_pos h3, if_pos (by omega)]
      ·rw [if_neg h3]
       by_cases h4 : b.getD i 0 = 13
       ·rw [if_pos h4, if_pos (by omega)]
       ·rw [if_neg h4, if_neg (by omega), e]
  ·rw [if_neg (by omega), @List.drop_eq_nil_of_le _ b i (by omega)]
   simp [drp]
   omega
theorem Bh1 (k : Nat) (b : List Int) (hk : b.length < k) (hl : b.length < 1000000) (i : Nat) (hi : i ≤ b.length) : Pv k (b, (i : Int)) = some ((b.length - (drp false (b.drop i)).length : Nat) : Int) := by
 skip
 rw [B6e, Air, An4 k b hk hl k i hi (by omega)]
theorem Boa (k : Nat) (a : Int) : Pw k a = some (B7 a) := by
 unfold B7
 rw [B6g, A7n]
 by_cases h : a ≥ 97
 ·simp [h]
 ·have : ¬ 97 ≤ a := by omega
  simp [h]
theorem Acm (k : Nat) (a : Int) : Mw k a = some (A0 a) := by
 unfold A0
 rw [B58, A7a]
 by_cases h : a ≥ 48
 ·simp [h]
 ·simp [h]
theorem Cf7 (k : Nat) (a : Int) : Vp k a = some (D7 a) := by
 unfold D7
 rw [B6d, A7g]
 simp only [cbeq]
 repeat' (first | (refine iteS (fun _ => ?_) (fun _ => ?_)))
 all_goals (refine congrArg some ?_; rw [Bool.eq_iff_iff]; simp; try omega)
theorem rword (k : Nat) (b : List Int) (hl : b.length < 1000000) (s : Nat) (x3 : Int) (x4 : List Int) (x5 x6 : Int) :
  ∀ (j i : Nat), s ≤ i → i ≤ b.length → b.length - i < j → (Eb k).L 3 [] j (Lq (b, (s : Int), (i : Int), x3, x4, x5, x6)) =
   (if 24 < i + ((b.drop i).takeWhile Bh).length - s then some (0, [], 0, 0, 4) else some (1, (b.take (i + ((b.drop i).takeWhile Bh).length)).drop s, 0, (s : Int), 0))
 | 0, i, _, _, h => by omega
 | j + 1, i, hs, hi, h => by
  have fin : ∀ n : Nat, n = i → (if 24 < n - s then some ((0 : Int), ([] : List Int), (0 : Int), (0 : Int), (4 : Int)) else if (0 : Int) ≤ (s : Int) ∧ (s : Int) ≤ (i : Int) ∧ (i : Int) ≤ (b.length : Int) then some (1, cutL b (s : Int) (i : Int), 0, (s : Int), 0) else none) = (if 24 < n - s then some (0, [], 0, 0, 4) else some (1, (b.take n).drop s, 0, (s : Int), 0)) := by
   rintro n rfl
   rw [if_pos (by omega : (0 : Int) ≤ (s : Int) ∧ (s : Int) ≤ (n : Int) ∧ (n : Int) ≤ (b.length : Int)), Kd]
  rw [B6c, Aim]
  simp only [cd, cinB, cbeq, Jo, Je]
  rw [w64 (n := (i : Int) - (s : Int)) (by omega)]
  have e24 : ((i : Int) - (s : Int) > 24) = (24 < i - s) := by rw [eq_iff_iff]; omega
  simp only [e24]
  by_cases hlt : i < b.length
  ·rw [if_pos (by omega)]
   simp only [if_pos (show (0 : Int) ≤ (i : Int) ∧ (i : Int) < (b.length : Int) by omega)]
   rw [Boa, Option.bind_some, Acm, Option.bind_some, w64 (n := (i : Int) + 1) (by omega), Ge, El hlt, List.takeWhile_cons]
   have IH := rword k b hl s x3 x4 x5 x6 j (i + 1) (by omega) (by omega) (by omega)
   rw [show i + 1 + ((b.drop (i + 1)).takeWhile Bh).length = i + (((b.drop (i + 1)).takeWhile Bh).length + 1) by omega] at IH
   rw [IH]
   cases hw : Bh (b.getD i 0) with
   | true =>
    simp only [if_true, List.length_cons]
    unfold Bh at hw
    cases h1 : B7 (b.getD i 0) with
    | true => rw [cond_true]
    | false =>
     rw [cond_false]
     cases h2 : A0 (b.getD i 0) with
     | true => rw [cond_true]
     | false =>
      rw [cond_false]
      rw [h1, h2] at hw
      rw [if_pos (by simpa using hw)]
   | false =>
    unfold Bh at hw
    simp only [Bool.or_eq_false_iff, decide_eq_false_iff_not] at hw
    rw [hw.1, cond_false, hw.2.1, cond_false, if_neg hw.2.2]
    simp only [Bool.false_eq_true, if_false, List.length_nil]
    exact fin _ rfl
  ·rw [if_neg (by omega), @List.drop_eq_nil_of_le _ b i (by omega)]
   simp only [List.takeWhile_nil, List.length_nil]
   exact fin _ rfl
theorem rnum (k : Nat) (b : List Int) (hl : b.length < 1000000) (s : Nat) (x4 : Int) (x5 : List Int) (x6 x7 : Int) :
  ∀ (j i : Nat) (v : Int), s ≤ i → i ≤ b.length → b.length - i < j → (i - s ≤ 18 → 0 ≤ v ∧ v < 10 ^ (i - s)) → (Eb k).L 10 [] j (Nd (b, (s : Int), (i : Int), v, x4, x5, x6, x7)) =
   (if 18 < i + ((b.drop i).takeWhile A0).length - s then some (0, [], 0, 0, 4) else some (2, (b.take (i + ((b.drop i).takeWhile A0).length)).drop s, ((b.drop i).takeWhile A0).foldl (fun v c => 10 * v + (c - 48)) v, (s : Int), 0))
 | 0, i, v, _, _, h, _ => by omega
 | j + 1, i, v, hs, hi, h, hv => by
  have fin : ∀ n : Nat, n = i → (if 18 < n - s then some ((0 : Int), ([] : List Int), (0 : Int), (0 : Int), (4 : Int)) else if (0 : Int) ≤ (s : Int) ∧ (s : Int) ≤ (i : Int) ∧ (i : Int) ≤ (b.length : Int) then some (2, cutL b (s : Int) (i : Int), v, (s : Int), 0) else none) = (if 18 < n - s then some (0, [], 0, 0, 4) else some (2, (b.take n).drop s, v, (s : Int), 0)) := by
   rintro n rfl
   rw [if_pos (by omega : (0 : Int) ≤ (s : Int) ∧ (s : Int) ≤ (n : Int) ∧ (n : Int) ≤ (b.length : Int)), Kd]
  rw [B6b, Ail]
  simp only [cd, cinB, cbeq, Jo, Je]
  rw [w64 (n := (i : Int) - (s : Int)) (by omega)]
  have e24 : ((i : Int) - (s : Int) > 18) = (18 < i - s) := by rw [eq_iff_iff]; omega
  have e25 : ((i : Int) - (s : Int) < 18) = (i - s < 18) := by rw [eq_iff_iff]; omega
  simp only [e24, e25]
  by_cases hlt : i < b.length
  ·rw [if_pos (by omega)]
   simp only [if_pos (show (0 : Int) ≤ (i : Int) ∧ (i : Int) < (b.length : Int) by omega)]
   rw [Acm, Option.bind_some, w64 (n := (i : Int) + 1) (by omega), Ge, El hlt, List.takeWhile_cons]
   cases hw : A0 (b.getD i 0) with
   | true =>
    have hd := hw
    unfold A0 at hd
    simp only [Bool.and_eq_true, decide_eq_true_eq] at hd
    simp only [if_true, List.length_cons, cond_true, List.foldl_cons]
    by_cases h18 : i - s < 18
    ·obtain ⟨v1, v2⟩ := hv (by omega)
     have v3 : v < 10 ^ 17 := Int.lt_of_lt_of_le v2 (by exact_mod_cast Nat.pow_le_pow_right (by decide) (by omega : i - s ≤ 17))
     have v4 : 10 * v + (b.getD i 0 - 48) < 10 ^ (i + 1 - s) := by
      rw [show i + 1 - s = (i - s) + 1 by omega, Int.pow_succ]
      omega
     rw [if_pos h18, wu8 (by omega), w64 (n := 10 * v) (by omega), w64 (n := b.getD i 0 - 48) (by omega), w64 (n := 10 * v + (b.getD i 0 - 48)) (by omega)]
     have IH := rnum k b hl s x4 x5 x6 x7 j (i + 1) (10 * v + (b.getD i 0 - 48)) (by omega) (by omega) (by omega) (fun _ => ⟨by omega, v4⟩)
     rw [show i + 1 + ((b.drop (i + 1)).takeWhile A0).length = i + (((b.drop (i + 1)).takeWhile A0).length + 1) by omega] at IH
     exact IH
    ·rw [if_neg h18]
     have IH := rnum k b hl s x4 x5 x6 x7 j (i + 1) v (by omega) (by omega) (by omega) (fun h => by omega)
     rw [IH, if_pos (by omega), if_pos (by omega)]
   | false =>
    simp only [Bool.false_eq_true, if_false, List.length_nil, cond_false, List.foldl_nil]
    exact fin _ rfl
  ·rw [if_neg (by omega), @List.drop_eq_nil_of_le _ b i (by omega)]
   simp only [List.takeWhile_nil, List.length_nil, List.foldl_nil]
   exact fin _ rfl
theorem Cc0 (k : Nat) (b : List Int) (hk : b.length < k) (hl : b.length < 1000000) (i : Nat) (hi : i < b.length) :
  ∃ q : Int, Vo k (b, (i : Int)) = some ((tok1 (b.drop i)).2.1, (tok1 (b.drop i)).2.2.1, (tok1 (b.drop i)).2.2.2.1, q, (tok1 (b.drop i)).1) ∧ ((tok1 (b.drop i)).1 = 0 → q = (i : Int)) := by
 have e0 := El hi
 skip
 rw [B6a, Aik]
 simp only [cinB, Jo]
 simp only [if_pos (show (0 : Int) ≤ (i : Int) ∧ (i : Int) < (b.length : Int) by omega)]
 rw [Boa, Option.bind_some, Acm, Option.bind_some, Cf7, Option.bind_some]
 rw [rword k b hl i _ _ _ _ k i (Nat.le_refl _) (by omega) (by omega), rnum k b hl i _ _ _ _ k i 0 (Nat.le_refl _) (by omega) (by omega) (fun _ => by rw [Nat.sub_self]; decide)]
 rw [Y8, Y8, Nat.add_sub_cancel_left, Nat.add_sub_cancel_left]
 cases h1 : B7 (b.getD i 0) with
 | true =>
  have et : tok1 (b.drop i) = if 24 < ((b.drop i).takeWhile Bh).length then (4, 0, [], 0, []) else (0, 1, (b.drop i).takeWhile Bh, 0, (b.drop i).dropWhile Bh) := by
   rw [e0, tok1, if_pos h1]
  rw [et, cond_true]
  split
  ·exact ⟨_, rfl, fun h => by simp at h⟩
  ·exact ⟨_, rfl, fun _ => rfl⟩
 | false =>
  rw [cond_false]
  cases h2 : A0 (b.getD i 0) with
  | true =>
   have et : tok1 (b.drop i) = if 18 < ((b.drop i).takeWhile A0).length then (4, 0, [], 0, []) else (0, 2, (b.drop i).takeWhile A0, valD ((b.drop i).takeWhile A0), (b.drop i).dropWhile A0) := by
    rw [e0, tok1, if_neg (by rw [h1]; exact Bool.false_ne_true), if_pos h2]
   rw [et, cond_true]
   split
   ·exact ⟨_, rfl, fun h => by simp at h⟩
   ·exact ⟨_, rfl, fun _ => rfl⟩
  | false =>
   rw [cond_false]
   have et : tok1 (b.drop i) = if D7 (b.getD i 0) then (0, 3, [b.getD i 0], 0, b.drop (i + 1)) else (40, 0, [], 0, []) := by
    rw [e0, tok1, if_neg (by rw [h1]; exact Bool.false_ne_true), if_neg (by rw [h2]; exact Bool.false_ne_true)]
   rw [et]
   cases h3 : D7 (b.getD i 0) with
   | true =>
    rw [cond_true, w64 (by omega), Je, if_pos (by omega), Ge, Kd]
    have e1 : (b.take (i + 1)).drop i = [b.getD i 0] := by
     rw [List.drop_take, e0, show i + 1 - i = 1 by omega]; rfl
    rw [e1]
    exact ⟨_, rfl, fun _ => rfl⟩
   | false =>
    rw [cond_false]
    exact ⟨_, rfl, fun h => by simp at h⟩
theorem Bh2 (k : Nat) (b : List Int) (hk : b.length < k) (hl : b.length < 1000000) : ∀ (j i : Nat) (out : List Tk), i ≤ b.length → b.length - i < j → out.length ≤ i → drp false (b.drop i) = b.drop i →
  (Ho k).L 5 [] j (Ru (b, (i : Int), out)) = some ((lx b.length j (b.drop i)).1, (lx b.length j (b.drop i)).2.1, if (lx b.length j (b.drop i)).1 = 0 then out ++ (lx b.length j (b.drop i)).2.2 else [])
 | 0, i, out, _, h, _, _ => by omega
 | j + 1, i, out, hi, h, ho, hd => by
  rw [B56, Aif, cd, lx, hd]
  by_cases hlt : i < b.length
  ·rw [if_pos (by omega)]
   obtain ⟨q, e, hq⟩ := Cc0 k b hk hl i hlt
   rw [e, Option.bind_some]
   have el : b.length - (b.drop i).length = i := by rw [List.length_drop]; omega
   have e0 := El hlt
   generalize hx : b.getD i 0 = x at e0
   generalize hr : b.drop (i + 1) = r at e0
   have hlr : r.length = b.length - (i + 1) := by rw [← hr, List.length_drop]
   rw [e0] at el hq
   rw [e0]
   dsimp only
   rw [cbne]
   by_cases h0 : (tok1 (x :: r)).1 = 0
   ·have hr1 := Ov h0
    obtain ⟨s1, s2, s3, s4⟩ := Mi h0
    have s5 := congrArg List.length s1
    rw [List.length_append, List.length_cons] at s5
    simp only [if_pos h0]
    rw [Pa, if_pos (by simp only [List.length_cons, List.length_nil]; omega), hq h0, w64 (by omega)]
    generalize hp : i + (tok1 (x :: r)).2.2.1.length = p
    have hpq : b.drop p = (tok1 (x :: r)).2.2.2.2 := by
     rw [← hp, ← List.drop_drop, e0]
     have s6 := congrArg (List.drop (tok1 (x :: r)).2.2.1.length) s1
     rw [List.drop_left] at s6
     exact s6.symm
    have hpl : p ≤ b.length := by omega
    rw [show (i : Int) + (((tok1 (x :: r)).2.2.1.length : Nat) : Int) = (p : Int) by omega, Bh1 k b hk hl p hpl, Option.bind_some, hpq]
    have hdl := M1 false (tok1 (x :: r)).2.2.2.2
    have hdd := Aq8 (tok1 (x :: r)).2.2.2.2 false
    have hsuf : drp false (tok1 (x :: r)).2.2.2.2 <:+ b := (Ke false _).trans (hpq ▸ List.drop_suffix p b)
    have hdr : b.drop (b.length - (drp false (tok1 (x :: r)).2.2.2.2).length) = drp false (tok1 (x :: r)).2.2.2.2 := (List.suffix_iff_eq_drop.1 hsuf).symm
    have := Bh2 k b hk hl j (b.length - (drp false (tok1 (x :: r)).2.2.2.2).length) (out ++ [((tok1 (x :: r)).2.1, ((tok1 (x :: r)).2.2.1, ((tok1 (x :: r)).2.2.2.1, ((i : Int), ()))))]) (by omega) (by omega) (by rw [List.length_append]; simp only [List.length_cons, List.length_nil]; omega) (by rw [hdr, hdd])
    rw [hdr] at this
    rw [this]
    have hsame : lx b.length j (drp false (tok1 (x :: r)).2.2.2.2) = lx b.length j (tok1 (x :: r)).2.2.2.2 := by
     cases j with
     | zero => rfl
     | succ j => rw [lx, lx, hdd]
    rw [hsame]
    by_cases h1 : (lx b.length j (tok1 (x :: r)).2.2.2.2).1 = 0
    ·have hz := Bga _ _ _ h1
     simp only [if_pos h1, h1, hz, el]
     simp
    ·simp only [if_neg h1]
   ·simp only [if_neg h0, el]
  ·rw [if_neg (by omega), @List.drop_eq_nil_of_le _ b i (by omega), Pa, if_pos (by simp only [List.length_cons, List.length_nil]; omega)]
   have : i = b.length := by omega
   subst this
   rfl
theorem lx_nil (n : Nat) : ∀ (f : Nat) (s : List Int), (if (lx n f s).1 = 0 then (lx n f s).2.2 else []) = (lx n f s).2.2 := by
 intro f s
 split
 ·rfl
 ·rename_i h
  cases f with
  | zero => exact absurd rfl h
  | succ f =>
   rw [lx] at h ⊢
   cases hd : drp false s with
   | nil => rw [hd] at h; exact absurd rfl h
   | cons x r =>
    rw [hd] at h
    simp only [] at h ⊢
    split
    ·rename_i h0
     rw [if_pos h0] at h
     split
     ·rename_i h1; rw [if_pos h1] at h; exact absurd rfl h
     ·rfl
    ·rfl
theorem Cfu (k : Nat) (b : List Int) (hk : b.length < k) (hm : b.length < 1000000) : Vm k b = some (toks b) := by
 unfold toks
 rw [B55, Aie, cd]
 by_cases hl : 65536 < b.length
 ·rw [if_pos (by omega), if_pos hl]
 ·have hdd := Aq8 b false
  have hdl := M1 false b
  have hdr : b.drop (b.length - (drp false b).length) = drp false b := (List.suffix_iff_eq_drop.1 (Ke false b)).symm
  have h0 := Bh1 k b hk (by omega) 0 (Nat.zero_le _)
  rw [List.drop_zero] at h0
  rw [if_neg (by omega), if_neg hl, show (0 : Int) = ((0 : Nat) : Int) from rfl, h0, Option.bind_some, Bh2 k b hk (by omega) k _ [] (by omega) (by omega) (Nat.zero_le _) (by rw [hdr, hdd])]
  have hsame : lx b.length k (drp false b) = lx b.length (b.length + 1) b := by
   rw [Anb _ (b.length + 1) k b (by omega) (by omega)]
   cases k with
   | zero => rfl
   | succ j => rw [lx, lx, hdd]
  rw [hdr, hsame, List.nil_append, lx_nil]
def Kz (kd : Int) (tx : List Int) (v : Int) : Bool := decide (tx ≠ [] ∧ drp false tx = tx ∧ tok1 tx = (0, kd, tx, v, []))
abbrev tkD : Tk := ((0 : Int), ([], ((0 : Int), ((0 : Int), ()))))
theorem Cgv (kd : Int) (tx : List Int) (v : Int) :
  ((toks tx).1 = 0 ∧ (toks tx).2.2.length = 2 ∧ ((toks tx).2.2.getD 0 tkD).1 = kd ∧ ((toks tx).2.2.getD 0 tkD).2.1 = tx ∧ ((toks tx).2.2.getD 0 tkD).2.2.1 = v) ↔ Kz kd tx v = true := by
 unfold Kz
 rw [decide_eq_true_eq]
 unfold toks
 by_cases hl : 65536 < tx.length
 ·rw [if_pos hl]
  constructor
  ·intro h; simp at h
  ·rintro ⟨h1, h2, h3⟩
   cases tx with
   | nil => exact absurd rfl h1
   | cons x r =>
    have := Mi (x := x) (r := r) (by rw [h3])
    rw [h3] at this
    have := this.2.2.2
    simp only [] at this
    omega
 ·rw [if_neg hl, lx]
  cases hd : drp false tx with
  | nil =>
   simp only []
   constructor
   ·intro h; simp at h
   ·rintro ⟨h1, h2, h3⟩; exact absurd h2.symm h1
  | cons x r =>
   simp only []
   by_cases h0 : (tok1 (x :: r)).1 = 0
   ·obtain ⟨s1, s2, s3, s4⟩ := Mi h0
    have hlen := M1 false tx
    rw [hd] at hlen
    have s5 := congrArg List.length s1
    rw [List.length_append] at s5
    have s6 := Ov h0
    rw [if_pos h0]
    generalize hq : (tok1 (x :: r)).2.2.2.2 = q at *
    by_cases h1 : (lx tx.length tx.length q).1 = 0
    ·rw [if_pos h1]
     simp only [List.length_cons, List.getD_cons_zero]
     constructor
     ·rintro ⟨_, g1, g2, g3, g4⟩
      rw [g3] at s5
      have hq0 : q = [] := by
       apply List.length_eq_zero_iff.1
       omega
      have htx : tx = x :: r := by rw [← s1, g3, hq0, List.append_nil]
      refine ⟨by rw [htx]; simp, by rw [← htx], ?_⟩
      have : tok1 tx = tok1 (x :: r) := by rw [htx]
      rw [this]
      ext1; exact h0
      ext1; exact g2
      ext1; exact g3
      ext1; exact g4
      show (tok1 (x :: r)).2.2.2.2 = []
      rw [hq, hq0]
     ·rintro ⟨g1, g2, g3⟩
      rw [← g2] at g3
      have hq0 : q = [] := by rw [← hq, g3]
      rw [g3]
      refine ⟨trivial, ?_, rfl, g2.symm ▸ rfl, rfl⟩
      have hpos : ∃ m, tx.length = m + 1 := ⟨tx.length - 1, by rw [List.length_cons] at hlen; omega⟩
      obtain ⟨m, hm⟩ := hpos
      rw [hq0, hm, lx]
      rfl
    ·rw [if_neg h1]
     constructor
     ·rintro ⟨g, _⟩; exact absurd g h1
     ·rintro ⟨g1, g2, g3⟩
      rw [← g2] at g3
      have hq0 : q = [] := by rw [← hq, g3]
      have hpos : ∃ m, tx.length = m + 1 := ⟨tx.length - 1, by rw [List.length_cons] at hlen; omega⟩
      obtain ⟨m, hm⟩ := hpos
      rw [hq0, hm, lx] at h1
      exact absurd rfl h1
   ·rw [if_neg h0]
    constructor
    ·rintro ⟨g, _⟩; exact absurd g h0
    ·rintro ⟨g1, g2, g3⟩
     rw [← g2] at g3
     rw [g3] at h0
     exact absurd rfl h0
theorem Cgt {kd : Int} {tx : List Int} {v : Int} (h : Kz kd tx v = true) : ((toks tx).2.2.getD 0 tkD).2.2.2.1 = 0 := by
 unfold Kz at h
 rw [decide_eq_true_eq] at h
 obtain ⟨h1, h2, h3⟩ := h
 unfold toks
 cases tx with
 | nil => exact absurd rfl h1
 | cons x r =>
  have := Mi (x := x) (r := r) (by rw [h3])
  rw [h3] at this
  have h24 := this.2.2.2
  simp only [] at h24
  rw [if_neg (by omega), lx, h2]
  simp only [h3, if_true]
  have h0 : (lx (x :: r).length (x :: r).length []).1 = 0 := by
   rw [List.length_cons, lx]; rfl
  rw [if_pos h0]
  simp
theorem eqI_d (a b : Int) : eqI a b = decide (a = b) := by
 unfold eqI; rw [Bool.eq_iff_iff]; simp
theorem eqS_d (a b : List Int) : eqS a b = decide (a = b) := by
 unfold eqS; rw [Bool.eq_iff_iff]; simp
theorem Cfp (k : Nat) (kd : Int) (tx : List Int) (v p : Int) (hk : tx.length < k) (hm : tx.length < 1000000) : Tq k (kd, tx, v, p) = some (Kz kd tx v) := by
 skip
 rw [Bzg, Atj, Boh k tx hk hm, Option.bind_some, cbeq, cbeq, cinB]
 have T := Cgv kd tx v
 have Tp := @Cgt kd tx v
 have hz : (Int.toNat 0) = 0 := rfl
 unfold rdA at *
 rw [hz]
 generalize toks tx = tt at *
 by_cases h0 : tt.1 = 0
 ·rw [if_pos h0]
  by_cases h2 : tt.2.2.length = 2
  ·rw [if_pos (by omega), if_pos (by omega), eqI_d, eqI_d, eqS_d, eqI_d]
   refine congrArg some ?_
   rw [Bool.eq_iff_iff]
   simp only [Bool.and_eq_true, decide_eq_true_eq, and_true]
   constructor
   ·rintro ⟨a1, a2, a3, a4⟩
    exact T.1 ⟨h0, h2, a1, a2, a3⟩
   ·intro h
    have := T.2 h
    exact ⟨this.2.2.1, this.2.2.2.1, this.2.2.2.2, Tp h⟩
  ·rw [if_neg (by omega)]
   refine congrArg some ?_
   rw [eq_comm, Bool.eq_false_iff]
   exact fun h => h2 (T.2 h).2.1
 ·rw [if_neg h0]
  refine congrArg some ?_
  rw [eq_comm, Bool.eq_false_iff]
  exact fun h => h0 (T.2 h).1
def resW : List (List Int) := [[99, 121, 99, 108, 101],
 [116, 111],
 [98, 121],
 [112, 101, 97, 107],
 [110, 111, 100, 101],
 [104, 101, 97, 100],
 [118, 111, 108, 117, 109, 101],
 [102, 108, 111, 119],
 [117, 115, 101],
 [115, 112, 101, 101, 100],
 [103, 114, 97, 100, 101],
 [119, 105, 100, 116, 104],
 [108, 101, 110, 103, 116, 104],
 [103, 114, 101, 101, 110],
 [119, 97, 108, 107],
 [119, 105, 116, 104],
 [108, 111, 110, 103],
 [112, 97, 99, 101],
 [108, 101, 97, 115, 116],
 [112, 104, 97, 115, 101],
 [103, 114, 111, 117, 112],
 [114, 105, 110, 103],
 [102, 114, 101, 101],
 [102, 111, 101],
 [97, 114, 116, 101, 114, 121],
 [115, 116, 111, 112],
 [111, 117, 116],
 [105, 110],
 [97, 104, 101, 97, 100],
 [98, 97, 99, 107],
 [119, 101, 105, 103, 104, 116, 115],
 [112, 108, 97, 110],
 [111, 102, 102, 115, 101, 116],
 [115, 117, 109],
 [115, 112, 108, 105, 116],
 [121, 101, 108, 108, 111, 119],
 [114, 101, 100],
 [102, 108, 97, 115, 104],
 [98, 101, 115, 116],
 [121, 101, 115],
 [110, 111],
 [115, 112, 101, 110, 116]]
def resB (s : List Int) : Bool := resW.contains s
theorem Bfg (k : Nat) (s : List Int) (l : List (List Int)) (hl : l.length < 1000000) : ∀ (r pre : List (List Int)) (j : Nat), l = pre ++ r → r.length < j → (Hn k).L 2 [] j (Rt (s, l, (pre.length : Int))) = some (r.contains s)
 | _, _, 0, _, h => by omega
 | [], pre, j + 1, hp, h => by
  have : l.length = pre.length := by rw [hp]; simp
  rw [A6y, W1, cd, if_neg (by omega)]
  rfl
 | x :: r, pre, j + 1, hp, h => by
  have hlen : l.length = pre.length + (r.length + 1) := by rw [hp]; simp
  have IH := Bfg k s l hl r (pre ++ [x]) j (by rw [hp]; simp) (by simp at h; omega)
  rw [A6y, W1, cd, if_pos (by omega), cinB, if_pos (by omega), Bhr, cbeq, w64 (by omega), Ge]
  rw [List.length_append, List.length_singleton] at IH
  rw [IH, hp, Ca4]
  rw [List.contains_cons]
  by_cases hx : x = s
  ·rw [if_pos hx, hx]; simp
  ·rw [if_neg hx]
   have : (s == x) = false := by simpa using fun e : s = x => hx e.symm
   rw [this, Bool.false_or]
theorem Bhz (k : Nat) (s : List Int) (hk : 100 < k) : Pu k s = some (resB s) := by
 have hw : ∀ k, Vn k () = some resW := by
  intro k
  skip
  rw [B57, A66]
  rfl
 have hlen : resW.length = 42 := rfl
 skip
 rw [B53, A61, hw, Option.bind_some]
 skip
 rw [B51, Aia]
 have := Bfg k s resW (by omega) resW [] k rfl (by omega)
 rw [List.length_nil] at this
 rw [show (0 : Int) = ((0 : Nat) : Int) from rfl, this]
 rfl
set_option maxRecDepth 20000 in
theorem An3 (k : Nat) (s : List Int) : Mp k s = some (resB s) := by
 unfold resB resW
 skip
 rw [Bzb, Aea, Bzc, Aeb, Bzd, Aec, Bze, Aed]
 have step : ∀ (a : List Int) (x : Option Bool) (l : List (List Int)), x = some (l.contains s) → (bif s == a then some true else x) = some ((a :: l).contains s) := by
  intro a x l h
  rw [List.contains_cons]
  cases s == a with
  | true => simp
  | false => simp [h]
 repeat (refine step _ _ _ ?_)
 rfl
section
variable {α R : Type}
theorem Im {d : α} (l : List α) (p : α → Bool) (g : α → Option Bool) (F : Nat → Int → Option Int) (k : Nat) (hl : l.length < 1000000) (hk : l.length < k)
  (hF : ∀ j i, F (j + 1) i = bif decide (i < ((l.length : Nat) : Int)) then (idx d l i fun o => (g o).bind fun o2 => bif o2 then some i else F j (IntKind.wrap .i64 (i + 1))) else some (-1))
  (c : Option Bool) (hc : c = (F k 0).bind fun o1 => some (decide (o1 ≥ 0))) (hg : ∀ x ∈ l, g x = some (!p x)) : c = some (!(l.all p)) := by
 obtain ⟨r, h1, h2⟩ := Apy l (fun x => !p x) g F hl hF hg k 0 (by omega) (by omega)
 rw [hc, show (0 : Int) = ((0 : Nat) : Int) from rfl, h1, Option.bind_some, ← any_all]
 exact congrArg some h2
theorem chT {a b : Bool} {y : Option Bool} (h : y = some (!b)) : (bif !a then some true else y) = some (!(a && b)) := by
 rw [h]; cases a <;> cases b <;> rfl
theorem chN {p : Prop} [Decidable p] {b : Bool} {y : Option Bool} (h : y = some (!b)) : (bif decide p then some true else y) = some (!(!(decide p) && b)) := by
 rw [h]; by_cases hp : p <;> cases b <;> simp [hp]
end
def Bw (s : List Int) : Bool := Kz 1 s 0 && !resB s
def numB (n : Int) : Bool := decide (0 ≤ n) && decide (n ≤ 999999999999999999)
def sh (s : List Int) : Prop := s.length ≤ 100
theorem Ccc (k : Nat) (s : List Int) (hs : sh s) (hk : 1000 ≤ k) : Qg k s = some (!Bw s) := by
 unfold sh at hs
 rw [B9g, Bci, Cfp k 1 s 0 0 (by omega) (by omega), Option.bind_some, An3, Option.bind_some]
 unfold Bw
 cases Kz 1 s 0 <;> cases resB s <;> rfl
theorem Cct (k : Nat) (n : Int) : Qi k n = some (!numB n) := by
 rw [B9l, Bcq]
 unfold numB
 by_cases h : n < 0
 ·have : ¬ 0 ≤ n := by omega
  simp [h, this]
 ·have : 0 ≤ n := by omega
  by_cases h2 : n ≤ 999999999999999999
  ·have : ¬ n > 999999999999999999 := by omega
   simp [h, *]
  ·have : n > 999999999999999999 := by omega
   simp [h, *]
theorem Bwe (k : Nat) (l : List (Int)) (p : Int → Bool) (hl : l.length < 1000) (hk : 1000 ≤ k) (hg : ∀ x ∈ l, Qi k x = some (!p x)) : Pk k l = some (!(l.all p)) :=
 Im l p _ (fun j i => (G6 k).L 2 [] j (Q3 (l, ((l.length : Nat) : Int), i))) k (by omega) (by omega) (fun j i => By0 k j (l, ((l.length : Nat) : Int), i)) (Pk k l) (by rw [Bx2, Ash, Byz, Adr]) hg
theorem Bwf (k : Nat) (l : List (List Int)) (p : List Int → Bool) (hl : l.length < 1000) (hk : 1000 ≤ k) (hg : ∀ x ∈ l, Qg k x = some (!p x)) : Pl k l = some (!(l.all p)) :=
 Im l p _ (fun j i => (G7 k).L 2 [] j (Q4 (l, ((l.length : Nat) : Int), i))) k (by omega) (by omega) (fun j i => By3 k j (l, ((l.length : Nat) : Int), i)) (Pl k l) (by rw [Bx4, Asl, By2, Adw]) hg
theorem Bwa (k : Nat) (l : List (YT1)) (p : YT1 → Bool) (hl : l.length < 1000) (hk : 1000 ≤ k) (hg : ∀ x ∈ l, Qa k (x.1, x.2.1, x.2.2.1, x.2.2.2.1.1, x.2.2.2.1.2.1, x.2.2.2.2.1, x.2.2.2.2.2.1, x.2.2.2.2.2.2.1, x.2.2.2.2.2.2.2.1, x.2.2.2.2.2.2.2.2.1, x.2.2.2.2.2.2.2.2.2.1) = some (!p x)) : Pd k l = some (!(l.all p)) :=
 Im l p _ (fun j i => (Gw k).L 2 [] j (Qx (l, ((l.length : Nat) : Int), i))) k (by omega) (by omega) (fun j i => Byi k j (l, ((l.length : Nat) : Int), i)) (Pd k l) (by rw [Bxq, Art, Byh, Ac3]) hg
theorem ctf_Ped (k : Nat) (l : List (YT2)) (p : YT2 → Bool) (hl : l.length < 1000) (hk : 1000 ≤ k) (hg : ∀ x ∈ l, Qc k (x.1, x.2.1, x.2.2.1, x.2.2.2.1, x.2.2.2.2.1, x.2.2.2.2.2.1) = some (!p x)) : Pf k l = some (!(l.all p)) :=
 Im l p _ (fun j i => (Gy k).L 2 [] j (Qz (l, ((l.length : Nat) : Int), i))) k (by omega) (by omega) (fun j i => Byo k j (l, ((l.length : Nat) : Int), i)) (Pf k l) (by rw [Bxu, Ar1, Byn, Adb]) hg
theorem Bwc (k : Nat) (l : List (YT3)) (p : YT3 → Bool) (hl : l.length < 1000) (hk : 1000 ≤ k) (hg : ∀ x ∈ l, Qd k (x.1, x.2.1, x.2.2.1) = some (!p x)) : Pg k l = some (!(l.all p)) :=
 Im l p _ (fun j i => (Gz k).L 2 [] j (Q0 (l, ((l.length : Nat) : Int), i))) k (by omega) (by omega) (fun j i => Byr k j (l, ((l.length : Nat) : Int), i)) (Pg k l) (by rw [Bxw, Ar5, Byq, Adf]) hg
theorem ctf_Row (k : Nat) (l : List (YT4)) (p : YT4 → Bool) (hl : l.length < 1000) (hk : 1000 ≤ k) (hg : ∀ x ∈ l, Qe k (x.1, x.2.1) = some (!p x)) : Ph k l = some (!(l.all p)) :=
 Im l p _ (fun j i => (G4 k).L 2 [] j (Q1 (l, ((l.length : Nat) : Int), i))) k (by omega) (by omega) (fun j i => Byu k j (l, ((l.length : Nat) : Int), i)) (Ph k l) (by rw [Bxy, Ar9, Byt, Adj]) hg
theorem Bv9 (k : Nat) (l : List (List YT4 × Unit)) (p : List YT4 × Unit → Bool) (hl : l.length < 1000) (hk : 1000 ≤ k) (hg : ∀ x ∈ l, P9 k (x.1) = some (!p x)) : Pc k l = some (!(l.all p)) :=
 Im l p _ (fun j i => (Gv k).L 2 [] j (Qw (l, ((l.length : Nat) : Int), i))) k (by omega) (by omega) (fun j i => Byf k j (l, ((l.length : Nat) : Int), i)) (Pc k l) (by rw [Bxo, Arp, Bye, Acz]) hg
theorem ctf_Foe (k : Nat) (l : List (YT5)) (p : YT5 → Bool) (hl : l.length < 1000) (hk : 1000 ≤ k) (hg : ∀ x ∈ l, P8 k (x.1, x.2.1, x.2.2.1) = some (!p x)) : Pb k l = some (!(l.all p)) :=
 Im l p _ (fun j i => (Gu k).L 2 [] j (Qv (l, ((l.length : Nat) : Int), i))) k (by omega) (by omega) (fun j i => Byc k j (l, ((l.length : Nat) : Int), i)) (Pb k l) (by rw [Bxm, Arl, Byb, Acv]) hg
theorem Bwb (k : Nat) (l : List (YT6)) (p : YT6 → Bool) (hl : l.length < 1000) (hk : 1000 ≤ k) (hg : ∀ x ∈ l, Qb k (x.1, x.2.1, x.2.2.1, x.2.2.2.1, x.2.2.2.2.1, x.2.2.2.2.2.1, x.2.2.2.2.2.2.1) = some (!p x)) : Pe k l = some (!(l.all p)) :=
 Im l p _ (fun j i => (Gx k).L 2 [] j (Qy (l, ((l.length : Nat) : Int), i))) k (by omega) (by omega) (fun j i => Byl k j (l, ((l.length : Nat) : Int), i)) (Pe k l) (by rw [Bxs, Arx, Byk, Ac7]) hg
theorem Bwd (k : Nat) (l : List (YT7)) (p : YT7 → Bool) (hl : l.length < 1000) (hk : 1000 ≤ k) (hg : ∀ x ∈ l, Qf k (x.1, x.2.1, x.2.2.1, x.2.2.2.1, x.2.2.2.2.1, x.2.2.2.2.2.1) = some (!p x)) : Pj k l = some (!(l.all p)) :=
 Im l p _ (fun j i => (G5 k).L 2 [] j (Q2 (l, ((l.length : Nat) : Int), i))) k (by omega) (by omega) (fun j i => Byx k j (l, ((l.length : Nat) : Int), i)) (Pj k l) (by rw [Bx0, Asd, Byw, Adn]) hg
theorem Yj (k : Nat) (l : List Int) (hl : l.length < 1000) (hk : 1000 ≤ k) : cshownums k l = some (l.all numB) := by
 rw [B9m, Bct, Bwe k l numB hl hk fun x _ => Cct k x, Option.bind_some, Bool.not_not]
theorem L7 (k : Nat) (l : List (List Int)) (hl : l.length < 1000) (hk : 1000 ≤ k) (h : ∀ s ∈ l, sh s) : cshownames k l = some (l.all Bw) := by
 rw [B9h, Bcl, Bwf k l Bw hl hk fun x hx => Ccc k x (h x hx) hk, Option.bind_some, Bool.not_not]
def rowB (m : Nat) (l : List (List Int)) : Bool := decide (1 ≤ l.length) && (decide (l.length ≤ m) && l.all Bw)
theorem Bhy (k : Nat) (m : Nat) (l : List (List Int)) (hl : l.length < 1000) (hk : 1000 ≤ k) (h : ∀ s ∈ l, sh s) : cshowrow k (l, (m : Int)) = some (rowB m l) := by
 rw [B99, Bd2, L7 k l hl hk h, Option.bind_some]
 unfold rowB
 simp only [cd]
 by_cases h1 : 1 ≤ l.length
 ·rw [if_pos (by omega)]
  by_cases h2 : l.length ≤ m
  ·rw [if_pos (by omega)]; simp [h1, h2]
  ·rw [if_neg (by omega)]; simp [h2]
 ·rw [if_neg (by omega)]; simp [h1]
def Eo (h : YT1) : Bool :=
 Bw h.1 && (numB h.2.1 && (numB h.2.2.1 && ((numB h.2.2.2.1.1 && numB h.2.2.2.1.2.1) && (numB h.2.2.2.2.1 && (!(decide (h.2.2.2.2.2.1 < -999999999999999999)) && (!(decide (h.2.2.2.2.2.1 > 999999999999999999)) &&
  (numB h.2.2.2.2.2.2.1 && (numB h.2.2.2.2.2.2.2.1 && (numB h.2.2.2.2.2.2.2.2.1 && true)))))))))
def pedB (p : YT2) : Bool := Bw p.1 && (Bw p.2.1 && (numB p.2.2.1 && (numB p.2.2.2.1 && (numB p.2.2.2.2.1 && true))))
def Ey (x : YT3) : Bool := Bw x.1 && (rowB 16 x.2.1 && true)
def Jp (r : YT4) : Bool := rowB 4 r.2.1
def En (g : List YT4 × Unit) : Bool := !(decide (((g.1.length : Nat) : Int) < 1)) && (!(decide (((g.1.length : Nat) : Int) > 2)) && g.1.all Jp)
def foeB (f : YT5) : Bool := Bw f.1 && (Bw f.2.1 && true)
def E8 (s : YT7) : Bool := Bw s.1 && (Bw s.2.1 && (Bw s.2.2.1 && (numB s.2.2.2.1 && (numB s.2.2.2.2.1 && true))))
def leB {α : Type} (l : List α) (m : Int) : Bool := !(decide (((l.length : Nat) : Int) > m))
def Dn (n : YT6) : Bool :=
 Bw n.1 && (leB n.2.1 16 && (leB n.2.2.1 8 && (leB n.2.2.2.1 16 && (leB n.2.2.2.2.1 4 && (leB n.2.2.2.2.2.1 64 &&
  (n.2.1.all Eo && (n.2.2.1.all pedB && (n.2.2.2.1.all Ey && (n.2.2.2.2.1.all En && n.2.2.2.2.2.1.all foeB)))))))))
abbrev NetT := Int × Int × Int × Int × Int × List YT6 × List YT7 × Int × Int
def netB (n : NetT) : Bool :=
 numB n.1 && (numB n.2.1 && (numB n.2.2.1 && ((numB n.2.2.2.1 && numB n.2.2.2.2.1) && (numB n.2.2.2.2.2.2.2.1 && (numB n.2.2.2.2.2.2.2.2 && (leB n.2.2.2.2.2.1 12 && (leB n.2.2.2.2.2.2.1 12 &&
  (n.2.2.2.2.2.1.all Dn && n.2.2.2.2.2.2.1.all E8))))))))
structure NodeS (n : YT6) : Prop where
 nm : sh n.1
 hl : n.2.1.length ≤ 50
 hd : n.2.1.length ≤ 16 → ∀ h ∈ n.2.1, sh h.1
 pl : n.2.2.1.length ≤ 50
 pd : ∀ p ∈ n.2.2.1, sh p.1 ∧ sh p.2.1
 xl : n.2.2.2.1.length ≤ 50
 xd : ∀ x ∈ n.2.2.2.1, sh x.1 ∧ x.2.1.length ≤ 50 ∧ (x.2.1.length ≤ 50 → ∀ s ∈ x.2.1, sh s)
 gl : n.2.2.2.2.1.length ≤ 50
 gd : ∀ g ∈ n.2.2.2.2.1, g.1.length ≤ 5 ∧ ∀ r ∈ g.1, r.2.1.length ≤ 50 ∧ (r.2.1.length ≤ 50 → ∀ s ∈ r.2.1, sh s)
 fl : n.2.2.2.2.2.1.length ≤ 80
 fd : ∀ f ∈ n.2.2.2.2.2.1, sh f.1 ∧ sh f.2.1
structure NetS (n : NetT) : Prop where
 nl : n.2.2.2.2.2.1.length ≤ 15
 nd : ∀ x ∈ n.2.2.2.2.2.1, NodeS x
 sl : n.2.2.2.2.2.2.1.length ≤ 15
 sd : ∀ s ∈ n.2.2.2.2.2.2.1, sh s.1 ∧ sh s.2.1 ∧ sh s.2.2.1
theorem many {α : Type} (l : List α) (m : Int) (p : α → Bool) {c : Option Bool} (hc : ¬ ((l.length : Nat) : Int) > m → c = some (!(l.all p))) :
  (bif decide (((l.length : Nat) : Int) > m) then some true else c.bind fun o => some o) = some (!(leB l m && l.all p)) := by
 unfold leB
 by_cases h : ((l.length : Nat) : Int) > m
 ·simp [h]
 ·rw [hc h]; simp [h]
section
variable (k : Nat) (hk : 1000 ≤ k)
include hk
theorem Bpc (h : YT1) (hs : sh h.1) : Qa k (h.1, h.2.1, h.2.2.1, h.2.2.2.1.1, h.2.2.2.1.2.1, h.2.2.2.2.1, h.2.2.2.2.2.1, h.2.2.2.2.2.2.1, h.2.2.2.2.2.2.2.1, h.2.2.2.2.2.2.2.2.1, h.2.2.2.2.2.2.2.2.2.1) = some (!Eo h) := by
 rw [B8k, Bau, L7 k _ (by simp) hk (by simpa using hs), Option.bind_some, Yj k _ (by simp) hk, Option.bind_some]
 refine (chT (chT (chN (b := !(decide (h.2.2.2.2.2.1 > 999999999999999999))) (by simp)))).trans ?_
 refine congrArg (fun b => some (!b)) ?_
 unfold Eo
 simp only [List.all_cons, List.all_nil, Bool.and_true, Bool.and_assoc]
 generalize (!decide (h.2.2.2.2.2.1 < -999999999999999999)) = x
 generalize (!decide (h.2.2.2.2.2.1 > 999999999999999999)) = y
 ac_rfl
theorem Bpe (p : YT2) (hs : sh p.1 ∧ sh p.2.1) : Qc k (p.1, p.2.1, p.2.2.1, p.2.2.2.1, p.2.2.2.2.1, p.2.2.2.2.2.1) = some (!pedB p) := by
 rw [B8o, Ba2, L7 k _ (by simp) hk (by simpa using hs), Option.bind_some, Yj k _ (by simp) hk, Option.bind_some]
 refine (chT rfl).trans ?_
 unfold pedB
 simp only [List.all_cons, List.all_nil, Bool.and_true, Bool.and_assoc]
theorem Bpf (x : YT3) (hs : sh x.1 ∧ x.2.1.length ≤ 50 ∧ (x.2.1.length ≤ 50 → ∀ s ∈ x.2.1, sh s)) : Qd k (x.1, x.2.1, x.2.2.1) = some (!Ey x) := by
 rw [B8q, Ba6, L7 k _ (by simp) hk (by simpa using hs.1), Option.bind_some, show (16 : Int) = ((16 : Nat) : Int) from rfl, Bhy k 16 _ (by omega) hk (hs.2.2 hs.2.1), Option.bind_some]
 refine (chT rfl).trans ?_
 unfold Ey
 simp only [List.all_cons, List.all_nil, Bool.and_true, Bool.and_assoc]
theorem Bpg (r : YT4) (hs : r.2.1.length ≤ 50 ∧ (r.2.1.length ≤ 50 → ∀ s ∈ r.2.1, sh s)) : Qe k (r.1, r.2.1) = some (!Jp r) := by
 rw [B8s, Bba, show (4 : Int) = ((4 : Nat) : Int) from rfl, Bhy k 4 _ (by omega) hk (hs.2 hs.1), Option.bind_some]
 rfl
theorem Bpb (g : List YT4 × Unit) (hs : g.1.length ≤ 5 ∧ ∀ r ∈ g.1, r.2.1.length ≤ 50 ∧ (r.2.1.length ≤ 50 → ∀ s ∈ r.2.1, sh s)) : P9 k g.1 = some (!En g) := by
 rw [B8i, Baq, ctf_Row k g.1 Jp (by omega) hk fun r hr => Bpg k hk r (hs.2 r hr)]
 exact chN (chN rfl)
theorem Bpa (f : YT5) (hs : sh f.1 ∧ sh f.2.1) : P8 k (f.1, f.2.1, f.2.2.1) = some (!foeB f) := by
 rw [B8g, Bam, L7 k _ (by simp) hk (by simpa using hs), Option.bind_some]
 unfold foeB
 simp only [List.all_cons, List.all_nil]
theorem Bph (s : YT7) (hs : sh s.1 ∧ sh s.2.1 ∧ sh s.2.2.1) : Qf k (s.1, s.2.1, s.2.2.1, s.2.2.2.1, s.2.2.2.2.1, s.2.2.2.2.2.1) = some (!E8 s) := by
 rw [B8u, Bbe, L7 k _ (by simp) hk (by simpa using hs), Option.bind_some, Yj k _ (by simp) hk, Option.bind_some]
 refine (chT rfl).trans ?_
 unfold E8
 simp only [List.all_cons, List.all_nil, Bool.and_true, Bool.and_assoc]
theorem Bpd (n : YT6) (hs : NodeS n) : Qb k (n.1, n.2.1, n.2.2.1, n.2.2.2.1, n.2.2.2.2.1, n.2.2.2.2.2.1, n.2.2.2.2.2.2.1) = some (!Dn n) := by
 have e1 : V6 k (n.2.1, 16) = some (!(leB n.2.1 16 && n.2.1.all Eo)) := by
  rw [B80, Bbq]
  exact many n.2.1 16 Eo fun hc => Bwa k n.2.1 Eo (by have := hs.hl; omega) hk fun h hh => Bpc k hk h (hs.hd (by omega) h hh)
 have e2 : V8 k (n.2.2.1, 8) = some (!(leB n.2.2.1 8 && n.2.2.1.all pedB)) := by
  rw [B84, Bby]
  exact many _ 8 pedB fun hc => ctf_Ped k _ pedB (by have := hs.pl; omega) hk fun h hh => Bpe k hk h (hs.pd h hh)
 have e3 : V9 k (n.2.2.2.1, 16) = some (!(leB n.2.2.2.1 16 && n.2.2.2.1.all Ey)) := by
  rw [B86, Bb2]
  exact many _ 16 Ey fun hc => Bwc k _ Ey (by have := hs.xl; omega) hk fun h hh => Bpf k hk h (hs.xd h hh)
 have e4 : V5 k (n.2.2.2.2.1, 4) = some (!(leB n.2.2.2.2.1 4 && n.2.2.2.2.1.all En)) := by
  rw [B8y, Bbm]
  exact many _ 4 En fun hc => Bv9 k _ En (by have := hs.gl; omega) hk fun h hh => Bpb k hk h (hs.gd h hh)
 have e5 : V4 k (n.2.2.2.2.2.1, 64) = some (!(leB n.2.2.2.2.2.1 64 && n.2.2.2.2.2.1.all foeB)) := by
  rw [B8w, Bbi]
  exact many _ 64 foeB fun hc => ctf_Foe k _ foeB (by have := hs.fl; omega) hk fun h hh => Bpa k hk h (hs.fd h hh)
 rw [B8m, Bay, L7 k _ (by simp) hk (by simpa using hs.nm), Option.bind_some, e1, Option.bind_some, e2, Option.bind_some, e3, Option.bind_some, e4, Option.bind_some, e5, Option.bind_some]
 refine (chT (chT (chT (chT (chT rfl))))).trans ?_
 refine congrArg (fun b => some (!b)) ?_
 unfold Dn
 simp only [List.all_cons, List.all_nil, Bool.and_true, Bool.and_assoc]
 ac_rfl
theorem Sr (n : NetT) (hs : NetS n) : Lb k n = some (netB n) := by
 have e1 : V7 k (n.2.2.2.2.2.1, 12) = some (!(leB n.2.2.2.2.2.1 12 && n.2.2.2.2.2.1.all Dn)) := by
  rw [B82, Bbu]
  exact many _ 12 Dn fun hc => Bwb k _ Dn (by have := hs.nl; omega) hk fun h hh => Bpd k hk h (hs.nd h hh)
 have e2 : Wa k (n.2.2.2.2.2.2.1, 12) = some (!(leB n.2.2.2.2.2.2.1 12 && n.2.2.2.2.2.2.1.all E8)) := by
  rw [B88, Bb6]
  exact many _ 12 E8 fun hc => Bwd k _ E8 (by have := hs.sl; omega) hk fun h hh => Bph k hk h (hs.sd h hh)
 obtain ⟨a0, a1, a2, a3, a4, a5, a6, a7, a8⟩ := n
 rw [B78, A96, Yj k _ (by simp) hk, Option.bind_some]
 simp only at e1 e2
 rw [e1, Option.bind_some, e2, Option.bind_some]
 have : ∀ a b c : Bool, (bif a then (bif !!b then some !!c else some false) else some false) = some (a && (b && c)) := by decide
 rw [this]
 refine congrArg some ?_
 unfold netB
 simp only [List.all_cons, List.all_nil, Bool.and_true, Bool.and_assoc]
 ac_rfl
end
abbrev RS := List Tk × Int × Int
def hd (l : List Tk) : Tk := l.headD tkD
def Ay (s : List Int) (x : RS) : Bool := x.2.1 == 0 && ((hd x.1).1 != 2 && ((hd x.1).1 != 0 && (hd x.1).2.1 == s))
def A2 (c : Int) (x : RS) : RS := bif x.2.1 == 0 then (x.1, c, (hd x.1).2.2.2.1) else x
def A1 (x : RS) : RS := bif x.2.1 == 0 && (hd x.1).1 != 0 then (x.1.tail, x.2.1, x.2.2) else x
def Aj (s : List Int) (x : RS) : RS := A1 (bif Ay s x then x else A2 50 x)
def Ah (x : RS) : List Int × RS := bif (hd x.1).1 == 1 && !(resB (hd x.1).2.1) then ((hd x.1).2.1, A1 x) else ([], A2 50 x)
def numC (x : RS) : Int × RS := bif (hd x.1).1 == 2 then ((hd x.1).2.2.1, A1 x) else (0, A2 50 x)
def numR (w : List Int) (x : RS) : Int × RS := numC (bif w == [] then x else Aj w x)
def Dk (w : List Int) (x : RS) : (Int × Int) × RS := (((numR w x).1, (numR ([47] : List Int) (numR w x).2).1), (numR ([47] : List Int) (numR w x).2).2)
def A6 (w : List Int) (have' most : Int) (x : RS) : Bool × RS := bif Ay w x then (bif have' == most then (false, A2 4 x) else (true, A1 x)) else (false, x)
def Cb (most : Int) : Nat → RS → List (List Int) → List (List Int) × RS
  | 0, x, o => (o, x)
  | f + 1, x, o => bif Ay ([44] : List Int) x then
      (let y := A1 x
       let z := bif (((o.length : Nat) : Int) == most) && ((hd y.1).1 == 1 && !(resB (hd y.1).2.1)) then A2 4 y else y
       Cb most f (Ah z).2 (o ++ [(Ah z).1]))
    else (o, Aj ([59] : List Int) x)
def Cg (most : Int) (x : RS) : List (List Int) × RS := Cb most ((Ah x).2.1.length + 1) (Ah x).2 [(Ah x).1]
def Cs {α : Type} (w : List Int) (most : Int) (item : RS → α × RS) : Nat → RS → List α → List α × RS
  | 0, x, o => (o, x)
  | f + 1, x, o => bif (A6 w ((o.length : Nat) : Int) most x).1 then Cs w most item f (item (A6 w ((o.length : Nat) : Int) most x).2).2 (o ++ [(item (A6 w ((o.length : Nat) : Int) most x).2).1]) else (o, (A6 w ((o.length : Nat) : Int) most x).2)
def Aw {α : Type} (w : List Int) (most : Int) (item : RS → α × RS) (x : RS) : List α × RS := Cs w most item (x.1.length + 1) x []
def Bf (x : RS) : YT1 × RS :=
  let n := Ah x
  let v := numR ([118, 111, 108, 117, 109, 101] : List Int) n.2
  let s := numR ([102, 108, 111, 119] : List Int) v.2
  let u := Dk ([117, 115, 101] : List Int) s.2
  let p := numR ([115, 112, 101, 101, 100] : List Int) u.2
  let q := Aj ([103, 114, 97, 100, 101] : List Int) p.2
  let g := numR [] (bif Ay ([45] : List Int) q then A1 q else q)
  let a := numR ([119, 105, 100, 116, 104] : List Int) g.2
  let l := numR ([108, 101, 110, 103, 116, 104] : List Int) a.2
  let e := numR ([103, 114, 101, 101, 110] : List Int) l.2
  ((n.1, v.1, s.1, (u.1.1, u.1.2, ()), p.1, (bif Ay ([45] : List Int) q then negI .i64 g.1 else g.1), a.1, l.1, e.1, (hd x.1).2.2.2.1, ()), Aj ([59] : List Int) e.2)
def Bx (x : RS) : YT2 × RS :=
  let n := Ah x
  let p := Ah (Aj ([119, 105, 116, 104] : List Int) n.2)
  let a := numR ([108, 111, 110, 103] : List Int) p.2
  let b := numR ([112, 97, 99, 101] : List Int) a.2
  let c := numR ([108, 101, 97, 115, 116] : List Int) b.2
  ((n.1, p.1, a.1, b.1, c.1, (hd x.1).2.2.2.1, ()), Aj ([59] : List Int) c.2)
def Dq (x : RS) : YT3 × RS :=
  let n := Ah x
  let l := Cg 16 (Aj ([58] : List Int) n.2)
  ((n.1, l.1, (hd x.1).2.2.2.1, ()), l.2)
def Dz (x : RS) : YT4 × RS :=
  let l := Cg 4 (bif Ay ([102, 114, 101, 101] : List Int) x then A1 x else x)
  ((Ay ([102, 114, 101, 101] : List Int) x, l.1, ()), l.2)
def Cx (x : RS) : (List YT4 × Unit) × RS :=
  let a := Aj ([123] : List Int) x
  let b := bif Ay ([114, 105, 110, 103] : List Int) a then a else A2 50 a
  let r := Aw ([114, 105, 110, 103] : List Int) 2 Dz b
  ((r.1, ()), Aj ([125] : List Int) r.2)
def foeR (x : RS) : YT5 × RS :=
  let n := Ah x
  let m := Ah n.2
  ((n.1, m.1, (hd x.1).2.2.2.1, ()), Aj ([59] : List Int) m.2)
def Bv (x : RS) : YT6 × RS :=
  let n := Ah x
  let h := Aw ([104, 101, 97, 100] : List Int) 16 Bf (Aj ([123] : List Int) n.2)
  let w := Aw ([119, 97, 108, 107] : List Int) 8 Bx h.2
  let p := Aw ([112, 104, 97, 115, 101] : List Int) 16 Dq w.2
  let g := Aw ([103, 114, 111, 117, 112] : List Int) 4 Cx p.2
  let f := Aw ([102, 111, 101] : List Int) 64 foeR g.2
  ((n.1, h.1, w.1, p.1, g.1, f.1, (hd x.1).2.2.2.1, ()), Aj ([125] : List Int) f.2)
def Ef (x : RS) : YT7 × RS :=
  let n := Ah x
  let o := Ah (Aj ([111, 117, 116] : List Int) n.2)
  let i := Ah (Aj ([105, 110] : List Int) o.2)
  let a := numR ([97, 104, 101, 97, 100] : List Int) i.2
  let b := numR ([98, 97, 99, 107] : List Int) a.2
  ((n.1, o.1, i.1, a.1, b.1, (hd x.1).2.2.2.1, ()), Aj ([59] : List Int) b.2)
def B5 (x : RS) : (List YT7 × Int × Int) × RS :=
  let s := Aw ([115, 116, 111, 112] : List Int) 12 Ef (Aj ([123] : List Int) x)
  let a := numR ([119, 101, 105, 103, 104, 116, 115] : List Int) s.2
  let b := numR [] a.2
  ((s.1, a.1, b.1), Aj ([125] : List Int) (Aj ([59] : List Int) b.2))
def netR (x : RS) : NetT × RS :=
  let a := numR ([99, 121, 99, 108, 101] : List Int) x
  let b := numR ([116, 111] : List Int) a.2
  let c := numR ([98, 121] : List Int) b.2
  let p := Dk ([112, 101, 97, 107] : List Int) (Aj ([59] : List Int) c.2)
  let n := Aw ([110, 111, 100, 101] : List Int) 12 Bv (Aj ([59] : List Int) p.2)
  let t := bif Ay ([97, 114, 116, 101, 114, 121] : List Int) n.2 then B5 (A1 n.2) else (([], 0, 0), n.2)
  ((a.1, b.1, c.1, p.1.1, p.1.2, n.1, t.1.1, t.1.2.1, t.1.2.2), bif (hd t.2.1).1 != 0 then A2 50 t.2 else t.2)
def Bt (b : List Int) : NetT × Int × Int :=
  bif (toks b).1 != 0 then ((0, 0, 0, 0, 0, [], [], 0, 0), (toks b).1, (toks b).2.1)
  else bif (netR ((toks b).2.2, 0, 0)).2.2.1 != 0 then ((0, 0, 0, 0, 0, [], [], 0, 0), (netR ((toks b).2.2, 0, 0)).2.2.1, (netR ((toks b).2.2, 0, 0)).2.2.2)
  else ((netR ((toks b).2.2, 0, 0)).1, 0, 0)
def EndT (l : List Tk) : Prop := ∃ r t, l = r ++ [t] ∧ t.1 = 0
theorem EndT.ne {l : List Tk} (h : EndT l) : l ≠ [] := by
  obtain ⟨r, t, rfl, _⟩ := h
  simp
structure Adv (x y : RS) : Prop where
  g : EndT x.1 → EndT y.1
  l : y.1.length ≤ x.1.length
theorem Adv.refl (x : RS) : Adv x x := ⟨id, Nat.le_refl _⟩
theorem Adv.trans {x y z : RS} (h : Adv x y) (h2 : Adv y z) : Adv x z := ⟨fun g => h2.g (h.g g), Nat.le_trans h2.l h.l⟩
theorem Fs (c : Int) (x : RS) : Adv x (A2 c x) := by
  unfold A2
  cases x.2.1 == 0
  · exact .refl x
  · exact ⟨id, Nat.le_refl _⟩
theorem Eh (x : RS) : Adv x (A1 x) := by
  unfold A1
  cases h : x.2.1 == 0 && (hd x.1).1 != 0
  · exact .refl x
  · refine ⟨fun g => ?_, by simp⟩
    obtain ⟨r, t, e, ht⟩ := g
    simp only [Bool.and_eq_true] at h
    cases r with
    | nil =>
      have := h.2
      rw [e] at this
      simp [hd, ht] at this
    | cons y r => exact ⟨r, t, by rw [e]; rfl, ht⟩
theorem Ik {x y z : RS} {c : Bool} (h : Adv x y) (h2 : Adv x z) : Adv x (bif c then y else z) := by cases c <;> assumption
theorem Bo (s : List Int) (x : RS) : Adv x (Aj s x) := (Ik (.refl x) (Fs 50 x)).trans (Eh _)
theorem B1 (x : RS) : Adv x (Ah x).2 := by
  unfold Ah
  cases (hd x.1).1 == 1 && !(resB (hd x.1).2.1)
  · exact Fs 50 x
  · exact Eh x
theorem Bm (w : List Int) (x : RS) : Adv x (numR w x).2 := by
  unfold numR
  refine Adv.trans (Ik (c := w == []) (.refl x) (Bo w x)) ?_
  generalize (bif w == [] then x else Aj w x) = y
  unfold numC
  cases (hd y.1).1 == 2
  · exact Fs 50 y
  · exact Eh y
theorem S6 (w : List Int) (x : RS) : Adv x (Dk w x).2 := (Bm w x).trans (Bm _ _)
theorem Ij (w : List Int) (a b : Int) (x : RS) : Adv x (A6 w a b x).2 := by
  unfold A6
  cases Ay w x
  · exact .refl x
  · cases a == b
    · exact Eh x
    · exact Fs 4 x
theorem Bpi {w : List Int} {a b : Int} {x : RS} (h : (A6 w a b x).1 = true) (g : EndT x.1) : (A6 w a b x).2.1.length < x.1.length := by
  have := g.ne
  unfold A6 at h ⊢
  cases h1 : Ay w x
  · rw [h1] at h; cases h
  · cases h2 : a == b
    · have h3 : (x.2.1 == 0 && (hd x.1).1 != 0) = true := by
        unfold Ay at h1
        simp only [Bool.and_eq_true] at h1 ⊢
        exact ⟨h1.1, h1.2.2.1⟩
      show (A1 x).1.length < _
      unfold A1
      rw [h3, cond_true]
      cases hx : x.1 with
      | nil => exact absurd hx this
      | cons y r => simp
    · rw [h1, h2] at h; cases h
theorem Api {α : Type} (w : List Int) (most : Int) (item : RS → α × RS) (hi : ∀ x, Adv x (item x).2) : ∀ (f : Nat) (x : RS) (o : List α), Adv x (Cs w most item f x o).2
  | 0, x, o => .refl x
  | f + 1, x, o => by
    rw [Cs]
    have hb := Ij w ((o.length : Nat) : Int) most x
    cases (A6 w ((o.length : Nat) : Int) most x).1
    · exact hb
    · exact hb.trans ((hi _).trans (Api w most item hi f _ _))
theorem Fa {α : Type} {w : List Int} {most : Int} {item : RS → α × RS} (hi : ∀ x, Adv x (item x).2) (x : RS) : Adv x (Aw w most item x).2 := Api w most item hi _ x []
theorem Apj (most : Int) : ∀ (f : Nat) (x : RS) (o : List (List Int)), Adv x (Cb most f x o).2
  | 0, x, o => .refl x
  | f + 1, x, o => by
    rw [Cb]
    cases Ay ([44] : List Int) x
    · exact Bo _ _
    · exact (Eh x).trans ((Ik (Fs 4 _) (.refl _)).trans ((B1 _).trans (Apj most f _ _)))
theorem Zh (most : Int) (x : RS) : Adv x (Cg most x).2 := (B1 x).trans (Apj most _ _ _)
set_option maxRecDepth 100000 in
theorem O1 (x : RS) : Adv x (Bf x).2 :=
  (B1 x).trans ((Bm _ _).trans ((Bm _ _).trans ((S6 _ _).trans ((Bm _ _).trans ((Bo _ _).trans ((Ik (Eh _) (.refl _)).trans ((Bm _ _).trans ((Bm _ _).trans ((Bm _ _).trans ((Bm _ _).trans (Bo _ _)))))))))))
theorem O3 (x : RS) : Adv x (Bx x).2 := (B1 x).trans ((Bo _ _).trans ((B1 _).trans ((Bm _ _).trans ((Bm _ _).trans ((Bm _ _).trans (Bo _ _))))))
theorem O2 (x : RS) : Adv x (Dq x).2 := (B1 x).trans ((Bo _ _).trans (Zh _ _))
theorem S8 (x : RS) : Adv x (Dz x).2 := (Ik (Eh _) (.refl _)).trans (Zh _ _)
theorem O0 (x : RS) : Adv x (Cx x).2 := (Bo _ _).trans ((Ik (.refl _) (Fs _ _)).trans ((Fa S8 _).trans (Bo _ _)))
theorem S5 (x : RS) : Adv x (foeR x).2 := (B1 x).trans ((B1 _).trans (Bo _ _))
theorem S7 (x : RS) : Adv x (Bv x).2 := (B1 x).trans ((Bo _ _).trans ((Fa O1 _).trans ((Fa O3 _).trans ((Fa O2 _).trans ((Fa O0 _).trans ((Fa S5 _).trans (Bo _ _)))))))
theorem S9 (x : RS) : Adv x (Ef x).2 := (B1 x).trans ((Bo _ _).trans ((B1 _).trans ((Bo _ _).trans ((B1 _).trans ((Bm _ _).trans ((Bm _ _).trans (Bo _ _)))))))
theorem Aph (x : RS) : Adv x (B5 x).2 := (Bo _ _).trans ((Fa S9 _).trans ((Bm _ _).trans ((Bm _ _).trans ((Bo _ _).trans (Bo _ _)))))
theorem Bf9 (n : Nat) : ∀ (f : Nat) (s : List Int), s.length < f → (lx n f s).1 = 0 → EndT (lx n f s).2.2 ∧ (lx n f s).2.2.length ≤ s.length + 1
  | 0, s, hf, _ => by omega
  | f + 1, s, hf, h => by
    have hl := M1 false s
    rw [lx] at h ⊢
    cases hd : drp false s with
    | nil => exact ⟨⟨[], _, rfl, rfl⟩, by simp⟩
    | cons x r =>
      rw [hd, List.length_cons] at hl
      rw [hd] at h
      simp only [] at h ⊢
      split at h
      · rename_i h0
        rw [if_pos h0]
        split at h
        · rename_i h1
          rw [if_pos h1]
          have hr := Ov h0
          obtain ⟨⟨q, t, e, ht⟩, hlen⟩ := Bf9 n f _ (by omega) h1
          exact ⟨⟨_ :: q, t, by simp only; rw [e]; rfl, ht⟩, by simp only [List.length_cons]; omega⟩
        · rename_i h1; exact absurd h h1
      · rename_i h0; exact absurd h h0
theorem Boi {b : List Int} (h : (toks b).1 = 0) : EndT (toks b).2.2 ∧ (toks b).2.2.length ≤ b.length + 1 := by
  unfold toks at h ⊢
  split at h
  · simp at h
  · rename_i hl
    rw [if_neg hl]
    exact Bf9 _ _ b (by omega) h
end Go.Proofs.YtipcabmhdokfjaaGreatDoorV
