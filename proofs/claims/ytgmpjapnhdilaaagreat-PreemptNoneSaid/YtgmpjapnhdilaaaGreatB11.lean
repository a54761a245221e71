import Derived.Test.YtgmpjapnhdilaaaGreatB10
import Derived.Test.YtgmpjapnhdilaaaGreatB8
/-! Joined, names shortened: QX1, QX2, QY, QZ. -/
set_option linter.unusedSectionVars false
set_option linter.unusedVariables false
set_option linter.unusedSimpArgs false
set_option maxRecDepth 1000000
set_option maxHeartbeats 4000000
namespace Go.Proofs.YtgmpjapnhdilaaaGreatV
open Go Go.RowKit
noncomputable section
theorem Bkc : Ei (fun _ x => x) 10000 ([], [], xHD, [], xPH, xGR, [], 0, [], 0, xSP, 0, 0, 20, 0, 0, [], 0, 0, 0, 0, [], xHD, [], xPH, 0, [], 0, xSP, 0, 0, 20, 0, 0, [], [0, 0], xR 0) = some ([], xHD, [], xPH, xGR, [], 0, [], 0, xSP, 0, 0, 20, 1, 0, [], 0, 0, 0, 1, [], xHD, [], xPH, 0, [], 0, xSP, 0, 0, 20, 1, 0, [2, 0], [], xR 1) := by kernel_rfl
theorem xstep1 : Cc 10000 ([], [], xHD, [], xPH, xGR, [], 0, [], 0, xSP, 0, 0, 20, 0, 0, [], 0, 0, 0, 0, [], xHD, [], xPH, 0, [], 0, xSP, 0, 0, 20, 0, 0, [], [0, 0], xR 0) = some ([], xHD, [], xPH, xGR, [], 0, [], 0, xSP, 0, 0, 20, 1, 0, [], 0, 0, 0, 1, [], xHD, [], xPH, 0, [], 0, xSP, 0, 0, 20, 1, 0, [2, 0], [], xR 1) := by rw [Fm, E5]; exact Bkc
theorem Bkd : Ei (fun _ x => x) 10000 ([113], [], xHD, [], xPH, xGR, [], 0, [], 0, xSP, 0, 0, 20, 1, 0, [], 0, 0, 0, 1, [], xHD, [], xPH, 0, [], 0, xSP, 0, 0, 20, 1, 0, [], [2, 0], xR 1) = some ([], xHD, [], xPH, xGR, [], 0, [], 0, xSP, 0, 0, 20, 1, 1, [113], 1, 5, 0, 2, [], xHD, [], xPH, 0, [], 0, xSP, 0, 0, 20, 1, 0, [1, 0], [3, 0], xR 1) := by kernel_rfl
theorem xstep2 : Cc 10000 ([113], [], xHD, [], xPH, xGR, [], 0, [], 0, xSP, 0, 0, 20, 1, 0, [], 0, 0, 0, 1, [], xHD, [], xPH, 0, [], 0, xSP, 0, 0, 20, 1, 0, [], [2, 0], xR 1) = some ([], xHD, [], xPH, xGR, [], 0, [], 0, xSP, 0, 0, 20, 1, 1, [113], 1, 5, 0, 2, [], xHD, [], xPH, 0, [], 0, xSP, 0, 0, 20, 1, 0, [1, 0], [3, 0], xR 1) := by rw [Fm, E5]; exact Bkd
theorem Bke : Ei (fun _ x => x) 10000 ([113], [], xHD, [], xPH, xGR, [], 0, [], 0, xSP, 0, 0, 20, 1, 1, [113], 1, 5, 0, 2, [], xHD, [], xPH, 0, [], 0, xSP, 0, 0, 20, 1, 0, [3, 0], [1, 0], xR 1) = some ([], xHD, [], xPH, xGR, [], 0, [], 0, xSP, 0, 0, 20, 1, 1, [113], 2, 5, 0, 3, [], xHD, [], xPH, 0, [], 0, xSP, 0, 0, 20, 1, 0, [1, 0], [3, 0], xR 1) := by kernel_rfl
theorem xstep3 : Cc 10000 ([113], [], xHD, [], xPH, xGR, [], 0, [], 0, xSP, 0, 0, 20, 1, 1, [113], 1, 5, 0, 2, [], xHD, [], xPH, 0, [], 0, xSP, 0, 0, 20, 1, 0, [3, 0], [1, 0], xR 1) = some ([], xHD, [], xPH, xGR, [], 0, [], 0, xSP, 0, 0, 20, 1, 1, [113], 2, 5, 0, 3, [], xHD, [], xPH, 0, [], 0, xSP, 0, 0, 20, 1, 0, [1, 0], [3, 0], xR 1) := by rw [Fm, E5]; exact Bke
theorem Bkf : Ei (fun _ x => x) 10000 ([113], [], xHD, [], xPH, xGR, [], 0, [], 0, xSP, 0, 0, 20, 1, 1, [113], 2, 5, 0, 3, [], xHD, [], xPH, 0, [], 0, xSP, 0, 0, 20, 1, 0, [3, 0], [1, 0], xR 1) = some ([], xHD, [], xPH, xGR, [], 0, [], 0, xSP, 0, 0, 20, 1, 1, [113], 3, 5, 0, 4, [], xHD, [], xPH, 0, [], 0, xSP, 0, 0, 20, 1, 0, [1, 0], [3, 0], xR 1) := by kernel_rfl
theorem xstep4 : Cc 10000 ([113], [], xHD, [], xPH, xGR, [], 0, [], 0, xSP, 0, 0, 20, 1, 1, [113], 2, 5, 0, 3, [], xHD, [], xPH, 0, [], 0, xSP, 0, 0, 20, 1, 0, [3, 0], [1, 0], xR 1) = some ([], xHD, [], xPH, xGR, [], 0, [], 0, xSP, 0, 0, 20, 1, 1, [113], 3, 5, 0, 4, [], xHD, [], xPH, 0, [], 0, xSP, 0, 0, 20, 1, 0, [1, 0], [3, 0], xR 1) := by rw [Fm, E5]; exact Bkf
end
noncomputable section
theorem Bkg : Ei (fun _ x => x) 10000 ([113], [], xHD, [], xPH, xGR, [], 0, [], 0, xSP, 0, 0, 20, 1, 1, [113], 3, 5, 0, 4, [], xHD, [], xPH, 0, [], 0, xSP, 0, 0, 20, 1, 0, [3, 0], [1, 0], xR 1) = some ([], xHD, [], xPH, xGR, [], 0, [], 0, xSP, 0, 0, 20, 1, 1, [113], 4, 5, 0, 5, [], xHD, [], xPH, 0, [], 0, xSP, 0, 0, 20, 1, 0, [0, 0], [3, 0], xR 1) := by kernel_rfl
theorem xstep5 : Cc 10000 ([113], [], xHD, [], xPH, xGR, [], 0, [], 0, xSP, 0, 0, 20, 1, 1, [113], 3, 5, 0, 4, [], xHD, [], xPH, 0, [], 0, xSP, 0, 0, 20, 1, 0, [3, 0], [1, 0], xR 1) = some ([], xHD, [], xPH, xGR, [], 0, [], 0, xSP, 0, 0, 20, 1, 1, [113], 4, 5, 0, 5, [], xHD, [], xPH, 0, [], 0, xSP, 0, 0, 20, 1, 0, [0, 0], [3, 0], xR 1) := by rw [Fm, E5]; exact Bkg
theorem Bkh : Ei (fun _ x => x) 10000 ([113], [], xHD, [], xPH, xGR, [], 0, [], 0, xSP, 0, 0, 20, 1, 1, [113], 4, 5, 0, 5, [], xHD, [], xPH, 0, [], 0, xSP, 0, 0, 20, 1, 0, [3, 0], [0, 0], xR 1) = some ([], xHD, [], xPH, xGR, [], 0, [], 0, xSP, 0, 0, 20, 1, 1, [113], 5, 5, 0, 6, [], xHD, [], xPH, 0, [], 0, xSP, 0, 0, 20, 1, 0, [0, 0], [3, 0], xR 1) := by kernel_rfl
theorem xstep6 : Cc 10000 ([113], [], xHD, [], xPH, xGR, [], 0, [], 0, xSP, 0, 0, 20, 1, 1, [113], 4, 5, 0, 5, [], xHD, [], xPH, 0, [], 0, xSP, 0, 0, 20, 1, 0, [3, 0], [0, 0], xR 1) = some ([], xHD, [], xPH, xGR, [], 0, [], 0, xSP, 0, 0, 20, 1, 1, [113], 5, 5, 0, 6, [], xHD, [], xPH, 0, [], 0, xSP, 0, 0, 20, 1, 0, [0, 0], [3, 0], xR 1) := by rw [Fm, E5]; exact Bkh
theorem Bki : Ei (fun _ x => x) 10000 ([113], [], xHD, [], xPH, xGR, [], 0, [], 0, xSP, 0, 0, 20, 1, 1, [113], 5, 5, 0, 6, [], xHD, [], xPH, 0, [], 0, xSP, 0, 0, 20, 1, 0, [3, 0], [0, 0], xR 1) = some ([], xHD, [], xPH, xGR, [], 0, [], 0, xSP, 0, 0, 20, 1, 2, [113], 6, 5, 0, 7, [], xHD, [], xPH, 0, [], 0, xSP, 0, 0, 20, 1, 0, [0, 2], [3, 0], xR 1) := by kernel_rfl
theorem xstep7 : Cc 10000 ([113], [], xHD, [], xPH, xGR, [], 0, [], 0, xSP, 0, 0, 20, 1, 1, [113], 5, 5, 0, 6, [], xHD, [], xPH, 0, [], 0, xSP, 0, 0, 20, 1, 0, [3, 0], [0, 0], xR 1) = some ([], xHD, [], xPH, xGR, [], 0, [], 0, xSP, 0, 0, 20, 1, 2, [113], 6, 5, 0, 7, [], xHD, [], xPH, 0, [], 0, xSP, 0, 0, 20, 1, 0, [0, 2], [3, 0], xR 1) := by rw [Fm, E5]; exact Bki
theorem Bkj : Ei (fun _ x => x) 10000 ([113], [], xHD, [], xPH, xGR, [], 0, [], 0, xSP, 0, 0, 20, 1, 2, [113], 6, 5, 0, 7, [], xHD, [], xPH, 0, [], 0, xSP, 0, 0, 20, 1, 0, [3, 0], [0, 2], xR 1) = some ([], xHD, [], xPH, xGR, [], 0, [], 0, xSP, 0, 0, 20, 1, 2, [113], 7, 5, 0, 8, [], xHD, [], xPH, 0, [], 0, xSP, 0, 0, 20, 1, 0, [0, 2], [3, 0], xR 1) := by kernel_rfl
theorem xstep8 : Cc 10000 ([113], [], xHD, [], xPH, xGR, [], 0, [], 0, xSP, 0, 0, 20, 1, 2, [113], 6, 5, 0, 7, [], xHD, [], xPH, 0, [], 0, xSP, 0, 0, 20, 1, 0, [3, 0], [0, 2], xR 1) = some ([], xHD, [], xPH, xGR, [], 0, [], 0, xSP, 0, 0, 20, 1, 2, [113], 7, 5, 0, 8, [], xHD, [], xPH, 0, [], 0, xSP, 0, 0, 20, 1, 0, [0, 2], [3, 0], xR 1) := by rw [Fm, E5]; exact Bkj
end
noncomputable section
theorem awl (k j : Nat) (acc : List Int) (i : Nat) (hi : i < 8) (called : List Int) (hcd : rdA [] ([([] : List Int), ([113] : List Int)] : List (List Int)) (Int.toNat (minI (i : Int) (1 : Int))) = called) (hin : inB (minI (i : Int) (1 : Int)) (List.length ([([] : List Int), ([113] : List Int)] : List (List Int))) = true)
  (a0 : List Int) (a1 : List YT1) (a2 : List YT2) (a3 : List YT3) (a4 : List ((List YT4) × Unit)) (a5 : List YT7) (a6 : Int) (tn : List Int) (off : Int) (sp : List ((List (List YT6)) × Unit)) (i1 : Int) (i2 : Int) (c : Int) (loc : Int) (md : Int) (hl : List Int) (g : Int) (lf : Int) (rt : Int) (st : Int) (nm : List Int) (hd : List YT1) (pd : List YT2) (ph : List YT3) (z : Int) (tm : List Int) (of : Int) (sq : List ((List (List YT6)) × Unit)) (j1 : Int) (j2 : Int) (cc : Int) (now : Int) (span : Int) (a0' : List Int) (a1' : List YT1) (a2' : List YT2) (a3' : List YT3) (a4' : List ((List YT4) × Unit)) (a5' : List YT7) (a6' : Int) (tn' : List Int) (off' : Int) (sp' : List ((List (List YT6)) × Unit)) (i1' : Int) (i2' : Int) (c' : Int) (loc' : Int) (md' : Int) (hl' : List Int) (g' : Int) (lf' : Int) (rt' : Int) (st' : Int) (nm' : List Int) (hd' : List YT1) (pd' : List YT2) (ph' : List YT3) (z' : Int) (tm' : List Int) (of' : Int) (sq' : List ((List (List YT6)) × Unit)) (j1' : Int) (j2' : Int) (cc' : Int) (now' : Int) (span' : Int)
  (yel seen yel' : List Int) (rs rs' : List YT11) (s0 s1 : Int) (h0 : 0 ≤ s0 ∧ s0 ≤ 2) (h1 : 0 ≤ s1 ∧ s1 ≤ 2) (hc : 0 < c') (hacc : acc.length ≤ 100)
  (hs : Cc k (called, a0, a1, a2, a3, a4, a5, a6, tn, off, sp, i1, i2, c, loc, md, hl, g, lf, rt, st, nm, hd, pd, ph, z, tm, of, sq, j1, j2, cc, now, span, yel, seen, rs) = some (a0', a1', a2', a3', a4', a5', a6', tn', off', sp', i1', i2', c', loc', md', hl', g', lf', rt', st', nm', hd', pd', ph', z', tm', of', sq', j1', j2', cc', now', span', [s0, s1], yel', rs')) :
  (Ci k).L 7 [] (j + 1) (Fz (acc, (i : Int), a0, a1, a2, a3, a4, a5, a6, tn, off, sp, i1, i2, c, loc, md, hl, g, lf, rt, st, nm, hd, pd, ph, z, tm, of, sq, j1, j2, cc, now, span, yel, seen, rs)) = (Ci k).L 7 [] j (Fz (acc ++ [48 + s0, 48 + s1], ((i + 1 : Nat) : Int), a0', a1', a2', a3', a4', a5', a6', tn', off', sp', i1', i2', c', loc', md', hl', g', lf', rt', st', nm', hd', pd', ph', z', tm', of', sq', j1', j2', cc', now', span', yel', [s0, s1], rs')) := by
 rw [A3r, V5, decide_eq_true (show ((i : Int) < 8) by omega), cond_true, hin, cond_true, hcd, hs, Option.bind_some]
 simp only
 have ecl : Q8 k [s0, s1] = some [s0, s1] := Dd (t := .int .i64) [s0, s1] (show (2 : Nat) < 1000 by decide) (by omega)
 rw [Axh, Afg, Fv, E3, Option.bind_some, decide_eq_true (show c' > 0 by omega), Bool.not_true, cond_false]
 simp only
 rw [ecl, Option.bind_some, Option.bind_some]
 simp only
 have e2 : (((List.length [s0, s1] : Nat) : Int) != (2 : Int)) = false := rfl
 have e3 : inB (0 : Int) (List.length [s0, s1]) = true := rfl
 have e4 : inB (1 : Int) (List.length [s0, s1]) = true := rfl
 have e5 : rdI [s0, s1] (Int.toNat (0 : Int)) = s0 := rfl
 have e6 : rdI [s0, s1] (Int.toNat (1 : Int)) = s1 := rfl
 rw [e2, cond_false, e3, cond_true, e4, cond_true, e5, e6, w64 (by omega : -9223372036854775808 ≤ 48 + s0 ∧ 48 + s0 ≤ 9223372036854775807), w64 (by omega : -9223372036854775808 ≤ 48 + s1 ∧ 48 + s1 ≤ 9223372036854775807), wu8 (by omega : 0 ≤ 48 + s0 ∧ 48 + s0 ≤ 255), wu8 (by omega : 0 ≤ 48 + s1 ∧ 48 + s1 ≤ 255),
  cat_ok (by simp; omega), w64 (by omega : -9223372036854775808 ≤ (i : Int) + 1 ∧ (i : Int) + 1 ≤ 9223372036854775807), Fe]
theorem xend (acc : List Int) (hacc : acc = [50, 48, 49, 48, 49, 48, 49, 48, 48, 48, 48, 48, 48, 50, 48, 50]) (j : Nat) : (Ci 10000).L 7 [] (j + 1) (Fz (acc, ((8 : Nat) : Int), [], xHD, [], xPH, xGR, [], 0, [], 0, xSP, 0, 0, 20, 1, 2, [113], 7, 5, 0, 8, [], xHD, [], xPH, 0, [], 0, xSP, 0, 0, 20, 1, 0, [3, 0], [0, 2], xR 1)) = some true := by
 rw [A3r, V5, decide_eq_false (show ¬ (((8 : Nat) : Int) < 8) by decide), cond_false]
 rw [hacc, show (([50, 48, 49, 48, 49, 48, 49, 48, 48, 48, 48, 48, 48, 50, 48, 50] : List Int) == ([50, 48, 49, 48, 49, 48, 49, 48, 48, 48, 48, 48, 48, 50, 48, 50] : List Int)) = true from rfl, cond_true]
 rw [Axk, Afi, Fv, E3, Option.bind_some, decide_eq_true (show (20 : Int) > 0 by decide), Bool.not_true, cond_false, Option.bind_some]
 simp only
 rw [show ((2 : Int) == 2) = true from rfl, cond_true]
 rw [Beq, Axc, Fv, E3, Option.bind_some, decide_eq_true (show (20 : Int) > 0 by decide), Bool.not_true, cond_false, Option.bind_some]
 simp only
 rw [show (([113] : List Int) == [113]) = true from rfl, cond_true]
 rw [Axp, Afl, Fv, E3, Option.bind_some, decide_eq_true (show (20 : Int) > 0 by decide), Bool.not_true, cond_false, Option.bind_some]
 rfl
theorem aw0 (k : Nat) {a0 : List Int} {a1 : List YT1} {a2 : List YT2} {a3 : List YT3} {a4 : List ((List YT4) × Unit)} {a5 : List YT7} {a6 : Int} {tn : List Int} {off : Int} {sp : List ((List (List YT6)) × Unit)} {i1 : Int} {i2 : Int} {c : Int} {loc : Int} {md : Int} {hl : List Int} {g : Int} {lf : Int} {rt : Int} {st : Int} {nm : List Int} {hd : List YT1} {pd : List YT2} {ph : List YT3} {z : Int} {tm : List Int} {of : Int} {sq : List ((List (List YT6)) × Unit)} {j1 : Int} {j2 : Int} {cc : Int} {now : Int} {span : Int} {seen : List Int} {rs : List YT11} (h : Ej k ([], xHD, [], xPH, xGR, [], 0, [], 0, xSP, 0, 0) = some (.inr (0, a0, a1, a2, a3, a4, a5, a6, tn, off, sp, i1, i2, c, loc, md, hl, g, lf, rt, st, nm, hd, pd, ph, z, tm, of, sq, j1, j2, cc, now, span, seen, rs))) :
  B2 k () = (Ci k).L 7 [] k (Fz ([], ((0 : Nat) : Int), a0, a1, a2, a3, a4, a5, a6, tn, off, sp, i1, i2, c, loc, md, hl, g, lf, rt, st, nm, hd, pd, ph, z, tm, of, sq, j1, j2, cc, now, span, [], seen, rs)) := by
 unfold xHD xPH xGR xSP xSL at h
 rw [Bhl, Anx, Bhm, A3u, Option.bind_some]
 simp only
 rw [h, Option.bind_some]
 simp only [orP]
 rw [show ((0 : Int) != 0) = false from rfl, cond_false]
 rfl
theorem A9m : B2 10000 () = some true := by
 refine (aw0 10000 xnew).trans ?_
 refine (awl 10000 9999 _ 0 (by decide) [] rfl rfl ([]) xHD ([]) xPH xGR ([]) 0 ([]) 0 xSP 0 0 20 0 0 ([]) 0 0 0 0 ([]) xHD ([]) xPH 0 ([]) 0 xSP 0 0 20 0 0 ([]) xHD ([]) xPH xGR ([]) 0 ([]) 0 xSP 0 0 20 1 0 ([]) 0 0 0 1 ([]) xHD ([]) xPH 0 ([]) 0 xSP 0 0 20 1 0 [] [0, 0] [] (xR 0) (xR 1) 2 0 (by decide) (by decide) (by decide) (by decide) xstep1).trans ?_
 refine (awl 10000 9998 _ 1 (by decide) [113] rfl rfl ([]) xHD ([]) xPH xGR ([]) 0 ([]) 0 xSP 0 0 20 1 0 ([]) 0 0 0 1 ([]) xHD ([]) xPH 0 ([]) 0 xSP 0 0 20 1 0 ([]) xHD ([]) xPH xGR ([]) 0 ([]) 0 xSP 0 0 20 1 1 ([113]) 1 5 0 2 ([]) xHD ([]) xPH 0 ([]) 0 xSP 0 0 20 1 0 [] [2, 0] [3, 0] (xR 1) (xR 1) 1 0 (by decide) (by decide) (by decide) (by decide) xstep2).trans ?_
 refine (awl 10000 9997 _ 2 (by decide) [113] rfl rfl ([]) xHD ([]) xPH xGR ([]) 0 ([]) 0 xSP 0 0 20 1 1 ([113]) 1 5 0 2 ([]) xHD ([]) xPH 0 ([]) 0 xSP 0 0 20 1 0 ([]) xHD ([]) xPH xGR ([]) 0 ([]) 0 xSP 0 0 20 1 1 ([113]) 2 5 0 3 ([]) xHD ([]) xPH 0 ([]) 0 xSP 0 0 20 1 0 [3, 0] [1, 0] [3, 0] (xR 1) (xR 1) 1 0 (by decide) (by decide) (by decide) (by decide) xstep3).trans ?_
 refine (awl 10000 9996 _ 3 (by decide) [113] rfl rfl ([]) xHD ([]) xPH xGR ([]) 0 ([]) 0 xSP 0 0 20 1 1 ([113]) 2 5 0 3 ([]) xHD ([]) xPH 0 ([]) 0 xSP 0 0 20 1 0 ([]) xHD ([]) xPH xGR ([]) 0 ([]) 0 xSP 0 0 20 1 1 ([113]) 3 5 0 4 ([]) xHD ([]) xPH 0 ([]) 0 xSP 0 0 20 1 0 [3, 0] [1, 0] [3, 0] (xR 1) (xR 1) 1 0 (by decide) (by decide) (by decide) (by decide) xstep4).trans ?_
 refine (awl 10000 9995 _ 4 (by decide) [113] rfl rfl ([]) xHD ([]) xPH xGR ([]) 0 ([]) 0 xSP 0 0 20 1 1 ([113]) 3 5 0 4 ([]) xHD ([]) xPH 0 ([]) 0 xSP 0 0 20 1 0 ([]) xHD ([]) xPH xGR ([]) 0 ([]) 0 xSP 0 0 20 1 1 ([113]) 4 5 0 5 ([]) xHD ([]) xPH 0 ([]) 0 xSP 0 0 20 1 0 [3, 0] [1, 0] [3, 0] (xR 1) (xR 1) 0 0 (by decide) (by decide) (by decide) (by decide) xstep5).trans ?_
 refine (awl 10000 9994 _ 5 (by decide) [113] rfl rfl ([]) xHD ([]) xPH xGR ([]) 0 ([]) 0 xSP 0 0 20 1 1 ([113]) 4 5 0 5 ([]) xHD ([]) xPH 0 ([]) 0 xSP 0 0 20 1 0 ([]) xHD ([]) xPH xGR ([]) 0 ([]) 0 xSP 0 0 20 1 1 ([113]) 5 5 0 6 ([]) xHD ([]) xPH 0 ([]) 0 xSP 0 0 20 1 0 [3, 0] [0, 0] [3, 0] (xR 1) (xR 1) 0 0 (by decide) (by decide) (by decide) (by decide) xstep6).trans ?_
 refine (awl 10000 9993 _ 6 (by decide) [113] rfl rfl ([]) xHD ([]) xPH xGR ([]) 0 ([]) 0 xSP 0 0 20 1 1 ([113]) 5 5 0 6 ([]) xHD ([]) xPH 0 ([]) 0 xSP 0 0 20 1 0 ([]) xHD ([]) xPH xGR ([]) 0 ([]) 0 xSP 0 0 20 1 2 ([113]) 6 5 0 7 ([]) xHD ([]) xPH 0 ([]) 0 xSP 0 0 20 1 0 [3, 0] [0, 0] [3, 0] (xR 1) (xR 1) 0 2 (by decide) (by decide) (by decide) (by decide) xstep7).trans ?_
 refine (awl 10000 9992 _ 7 (by decide) [113] rfl rfl ([]) xHD ([]) xPH xGR ([]) 0 ([]) 0 xSP 0 0 20 1 2 ([113]) 6 5 0 7 ([]) xHD ([]) xPH 0 ([]) 0 xSP 0 0 20 1 0 ([]) xHD ([]) xPH xGR ([]) 0 ([]) 0 xSP 0 0 20 1 2 ([113]) 7 5 0 8 ([]) xHD ([]) xPH 0 ([]) 0 xSP 0 0 20 1 0 [3, 0] [0, 2] [3, 0] (xR 1) (xR 1) 0 2 (by decide) (by decide) (by decide) (by decide) xstep8).trans ?_
 exact xend _ rfl 9991
end
set_option maxRecDepth 100000
theorem A5c {α R : Type} (l : List α) (F : Nat → Int → Option R) (e r : Option R) (h1 : ∀ j (i : Nat) x, l[i]? = some x → F (j + 1) (i : Int) = e ∨ F (j + 1) (i : Int) = F j ((i + 1 : Nat) : Int)) (h0 : ∀ j, F (j + 1) ((l.length : Nat) : Int) = e ∨ F (j + 1) ((l.length : Nat) : Int) = r) :
  ∀ (j i : Nat), l.length < i + j → i ≤ l.length → F j (i : Int) = e ∨ F j (i : Int) = r
 | 0, i, h, hi => by omega
 | j + 1, i, h, hi => by
  rcases Ce hi with rfl | ⟨x, hx⟩
  ·exact h0 j
  ·rcases h1 j i x hx with h2 | h2
   ·exact .inl h2
   ·rw [h2]
    exact A5c l F e r h1 h0 j (i + 1) (by omega) (by have := Av hx; omega)
theorem Aon {α R : Type} (l : List α) (F : Nat → Int → Option R) (e r : Option R) (h1 : ∀ j (i : Nat) x, l[i]? = some x → F (j + 1) (i : Int) = e ∨ F (j + 1) (i : Int) = F j ((i + 1 : Nat) : Int)) (h0 : ∀ j, F (j + 1) ((l.length : Nat) : Int) = e ∨ F (j + 1) ((l.length : Nat) : Int) = r) (j : Nat) (h : l.length < j) :
  F j 0 = e ∨ F j 0 = r := A5c l F e r h1 h0 j 0 (by omega) (by omega)
section
variable (k : Nat) (hk : 10000 ≤ k)
include hk
theorem Bi2 (l : List A8) (h : l.length < 1000) : Tot (Rl k l) fun _ => True := by
 rw [Bfu, Ah7]
 refine B1 l (fun _ (_ : Int) => True) (fun j i s => (D0 k).L 3 [] j (Nz (l, s, i))) (fun j i x s hx _ => ?_) (fun j s _ => ?_) k 0 (by omega) trivial
 ·rw [Azv, T0, Ao hx, Ak hx, Ar hx (by omega)]
  exact .inr ⟨_, rfl, trivial⟩
 ·rw [Azv, T0, Aq]
  exact An trivial
theorem Bi1 (g : List (List A8)) (h : g.length < 1000) (hl : ∀ l ∈ g, l.length < 1000) : Tot (Rk k g) fun _ => True := by
 rw [Bft, Ah3]
 refine B1 g (fun _ (_ : Int) => True) (fun j i s => (Dz k).L 3 [] j (Ny (s, i, g))) (fun j i x s hx _ => ?_) (fun j s _ => ?_) k 0 (by omega) trivial
 ·obtain ⟨r, er, -⟩ := Bi2 k hk x (hl x (Ax hx))
  rw [Azt, Tz, Ao hx, Ak hx, er, Option.bind_some, Ar hx (by omega)]
  exact .inr ⟨_, rfl, trivial⟩
 ·rw [Azt, Tz, Aq]
  exact An trivial
omit hk in
theorem Pl (n : Int) : ∃ b : Bool, Fn k n = some b := by
 rw [Bfv, Azy]
 by_cases h : n ≥ 0
 ·rw [decide_eq_true h]; exact ⟨_, rfl⟩
 ·rw [decide_eq_false h]; exact ⟨_, rfl⟩
theorem Bi0 (tn : List Int) (off : Int) (sp : List Ba) (i1 i2 : Int) (hS : Db sp) : Tot (Rj k (tn, off, sp, i1, i2)) fun _ => True := by
 obtain ⟨h1, h2⟩ := hS
 rw [Bfr, Ahz]
 refine Gf (fun _ => An trivial) fun _ => ?_
 refine B1 sp (fun _ (_ : Int) => True) (fun j i s => (A5 k).L 5 [] j (Jx (s, i, tn, off, sp, i1, i2))) (fun j i g s hg _ => ?_) (fun j s _ => ?_) k 0 (by omega) trivial
 ·obtain ⟨g1, g2⟩ := h2 g (Ax hg)
  rw [Azo, Tx, Ao hg, Ak hg]
  by_cases h5 : ((g.1.length : Nat) : Int) > 2
  ·rw [decide_eq_true h5]; exact .inl (An trivial)
  rw [decide_eq_false h5, cond_false]
  obtain ⟨o3, e3, -⟩ := Bi1 k hk g.1 g1 fun l hl => (g2 l hl).1
  have L := Aon g.1 (fun j' i' => (A5 k).L 11 [j] j' (Jv (s, (i : Int), g.1, i', tn, off, sp, i1, i2))) (some 0) ((A5 k).L 5 [] j (Jx (IntKind.wrap .i64 (s + o3), ((i + 1 : Nat) : Int), tn, off, sp, i1, i2)))
   (fun j' i' r hr => by
    obtain ⟨r1, r2⟩ := g2 r (Ax hr)
    rw [Azl, Tu, Ao hr, Ak hr]
    by_cases h6 : ((r.length : Nat) : Int) > 4
    ·rw [decide_eq_true h6]; exact .inl rfl
    rw [decide_eq_false h6, cond_false]
    exact Aon r (fun j2 i2' => (A5 k).L 16 [j, j'] j2 (Jw (s, (i : Int), g.1, (i' : Int), i2', tn, off, sp, i1, i2))) (some 0) ((A5 k).L 11 [j] j' (Jv (s, (i : Int), g.1, ((i' + 1 : Nat) : Int), tn, off, sp, i1, i2)))
     (fun j2 i2' x hx => by
      obtain ⟨b1, t1⟩ := Pl k x.2.1
      obtain ⟨b2, t2⟩ := Pl k x.2.2.1
      obtain ⟨b3, t3⟩ := Pl k x.2.2.2.1
      have hx5 := r2 x (Ax hx)
      rw [Azm, Tv, Ak hr, Ao hx, Ak hr, Ak hx, t1, Option.bind_some, t2, Option.bind_some, t3, Option.bind_some]
      cases b1 with
      | false => exact .inl rfl
      | true =>
      cases b2 with
      | false => exact .inl rfl
      | true =>
      cases b3 with
      | false => exact .inl rfl
      | true =>
      simp only [Bool.not_true, cond_false]
      exact Aon x.2.2.2.2.1 (fun j3 i3 => (A5 k).L 22 [j, j', j2] j3 (Nx (s, (i : Int), g.1, (i' : Int), (i2' : Int), i3, tn, off, sp, i1, i2, x.1, x.2.1, x.2.2.1, x.2.2.2.1, x.2.2.2.2.1))) (some 0) ((A5 k).L 16 [j, j'] j2 (Jw (s, (i : Int), g.1, (i' : Int), ((i2' + 1 : Nat) : Int), tn, off, sp, i1, i2)))
       (fun j3 i3 w hw => by
        obtain ⟨b4, t4⟩ := Pl k w.2.1
        obtain ⟨b5, t5⟩ := Pl k w.2.2.1
        rw [Azn, Tw, Ao hw, Ak hw, t4, Option.bind_some, Ak hw, t5, Option.bind_some, Ar hw (by omega)]
        cases b4 with
        | false => exact .inl rfl
        | true =>
        cases b5 with
        | false => exact .inl rfl
        | true => exact .inr rfl)
       (fun j3 => by rw [Azn, Tw, Aq, Ar hx (by omega)]; exact .inr rfl) k (by omega))
     (fun j2 => by rw [Azm, Tv, Ak hr, Aq, Ar hr (by omega)]; exact .inr rfl) k (by omega))
   (fun j' => by rw [Azl, Tu, Aq, Ak hg, e3, Option.bind_some, Ar hg (by omega)]; exact .inr rfl) k (by omega)
  rcases L with L | L
  ·exact .inl ((congrArg (fun c => Tot c _) (show _ = _ from L)).mpr (An trivial))
  ·exact .inr ⟨_, L, trivial⟩
 ·rw [Azo, Tx, Aq]
  exact An trivial
theorem Bd2 (a0 : List Int) (a1 : List YT1) (a2 : List YT2) (a3 : List YT3) (a4 : List ((List YT4) × Unit)) (a5 : List YT7) (a6 : Int) (tn : List Int) (off : Int) (sp : List Ba) (i1 i2 : Int) :
  Tot (Rt k (a0, a1, a2, a3, a4, a5, a6, tn, off, sp, i1, i2)) fun b => b = true → NodeS (a0, a1, a2, a3, a4, a5, a6, ()) ∧ Db sp := by
 rw [Bhg, A3n]
 obtain ⟨b1, e1, hb1⟩ := Bd3 k (by omega) (0, 0, 0, 0, 0, ([(a0, (a1, (a2, (a3, (a4, (a5, (a6, ())))))))] : List YT8), [], 0, 0)
 rw [e1, Option.bind_some]
 cases b1 with
 | false => exact An fun h => by cases h
 | true =>
 rw [cond_true, Bd4 k (by omega), Option.bind_some]
 have hN := (hb1 rfl).nd (a0, a1, a2, a3, a4, a5, a6, ()) (by simp)
 cases hp : Wr (0, ([(tn, (off, (sp, ((i1, (i2, ())), ()))))] : List YT10), 0, 0, 0, 0, false, 0) with
 | false => exact An fun h => by cases h
 | true =>
 rw [cond_true]
 have hS : Db sp := by
  unfold Wr at hp
  simp only [Bool.and_eq_true, decide_eq_true_eq, List.all_eq_true] at hp
  have h := hp.2 _ (List.mem_singleton.2 rfl)
  unfold timF at h
  simp only [Bool.and_eq_true, decide_eq_true_eq, List.all_eq_true] at h
  refine ⟨by omega, fun g hg => ?_⟩
  have h := h.2.2 g hg
  unfold Ys at h
  simp only [Bool.and_eq_true, decide_eq_true_eq, List.all_eq_true] at h
  refine ⟨by omega, fun r hr => ?_⟩
  have h := h.2 r hr
  unfold Wv at h
  simp only [Bool.and_eq_true, decide_eq_true_eq, List.all_eq_true] at h
  refine ⟨by omega, fun x hx => ?_⟩
  have h := h.2 x hx
  unfold Qb at h
  simp only [Bool.and_eq_true, decide_eq_true_eq, List.all_eq_true] at h
  omega
 refine Dp (Bi0 k hk tn off sp i1 i2 hS) fun r _ => An fun _ => ⟨hN, hS⟩
end
theorem orl {A B R : Type} {f : A → Option R} {g : B → Option R} {x : A} : orP f g (.inl x) = f x := rfl
theorem orr {A B R : Type} {f : A → Option R} {g : B → Option R} {x : B} : orP f g (.inr x) = g x := rfl
theorem preemptNone_pure (x : H123) : ∃ k, Ach k x = some true := by
 obtain ⟨k, hk⟩ : ∃ k : Nat, k = 10000 := ⟨_, rfl⟩
 refine ⟨k, ?_⟩
 have hw : B2 k () = some true := by rw [hk]; exact A9m
 replace hk : 10000 ≤ k := by omega
 obtain ⟨a0, a1, a2, a3, a4, a5, a6, tn, off, sp, i1, i2, n⟩ := x
 rw [Bhi, Ans]
 obtain ⟨b, eb, hb⟩ := Bd2 k hk a0 a1 a2 a3 a4 a5 a6 tn off sp i1 i2
 rw [eb, Option.bind_some]
 cases b with
 | false => rw [Bool.not_false, cond_true, hw, Option.bind_some]
 | true =>
 rw [Bool.not_true, cond_false]
 obtain ⟨hN, hS⟩ := hb rfl
 by_cases hn0 : n < 0
 ·rw [decide_eq_true hn0, cond_true, hw, Option.bind_some]
 rw [decide_eq_false hn0, cond_false]
 by_cases hn3 : n > 300
 ·rw [decide_eq_true hn3, cond_true, hw, Option.bind_some]
 rw [decide_eq_false hn3, cond_false]
 obtain ⟨m, rfl⟩ : ∃ m : Nat, n = (m : Int) := ⟨n.toNat, by omega⟩
 have h1 := hN.hl; have h2 := hN.pl; have h3 := hN.xl; have h3d := hN.xd
 simp only at h1 h2 h3 h3d
 have hP : PhS a3 := ⟨by omega, fun x hx => by have := (h3d x hx).2.1; omega⟩
 rcases new_tot k hk a0 a1 a2 a3 a4 a5 a6 tn off sp i1 i2 hN hS with ⟨e1, r, e2, hr⟩ | ⟨c, loc, span, rs, hc, hO, hM, e2, e1⟩
 ·rw [e1, Option.bind_some, orl, e2, Option.bind_some]
  rcases hr with ⟨e, rfl⟩ | ⟨q, rfl⟩
  ·rw [orl, fz180, cond_true, hw, Option.bind_some]
  ·rw [orr, fz180, cond_true, hw, Option.bind_some]
 ·rw [e1, Option.bind_some, orr, e2, Option.bind_some, orr]
  simp only
  rw [fz0, cond_false, cond_false]
  obtain ⟨r, er, hr⟩ := r07_tot k hk a0 a1 a2 a3 a4 a5 a6 (by omega) ([110, 111, 32, 112, 104, 97, 115, 101, 32, 111, 102, 32, 116, 104, 105, 115, 32, 110, 111, 100, 101, 32, 104, 97, 115, 32, 116, 104, 105, 115, 32, 110, 97, 109, 101] : List Int)
  rw [er, Option.bind_some]
  by_cases hr0 : r ≥ 0
  ·rw [decide_eq_true hr0, cond_true, hw, Option.bind_some]
  rw [decide_eq_false hr0, cond_false]
  exact Bjs k hk a0 a1 a2 a3 a4 a5 a6 tn off sp i1 i2 hw hP (by omega) (by omega) c hc hO ([110, 111, 32, 112, 104, 97, 115, 101, 32, 111, 102, 32, 116, 104, 105, 115, 32, 110, 111, 100, 101, 32, 104, 97, 115, 32, 116, 104, 105, 115, 32, 110, 97, 109, 101] : List Int) (hr (by omega)) m (by omega) k 0 loc 0 span [] (List.replicate a1.length 0) rs (by omega) (by omega) hM (by simp)
end Go.Proofs.YtgmpjapnhdilaaaGreatV
