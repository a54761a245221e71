import Derived.Test.YtghmhkpgdmgepaaGreatDoorB3
import Derived.Test.YtghmhkpgdmgepaaGreatDoorProg
import Derived.Shelf.Strings.Builder1
import Derived.Test.YtghmhkpgdmgepaaGreatDoorB5
import Derived.Lib.AppendIntMem
import Derived.Test.YtghmhkpgdmgepaaGreatDoorB4
import Derived.Tactics2
import Derived.Laws.Pointers
/-! Joined, names shortened: XB, X1, XF, DClo, G0. -/
set_option linter.unusedVariables false
set_option linter.unusedSimpArgs false
namespace Go.Proofs.YtghmhkpgdmgepaaGreatDoorV
open Go Go.RowKit
theorem Bcr {w : World} {b : Nat} {cs : Array Value} {et : Nat} {fr : Nat × Nat} (h : w.heap[b]? = some (.cells cs et fr)) (off : Nat) (v : Value) : w.setCell ⟨b, off, none⟩ v = w.setRow b (cs.setIfInBounds off v) := by
 unfold World.setCell World.setRow
 congr 1
 apply Array.ext_getElem?
 intro i
 simp only [Array.getElem?_modify]
 split
 ·rename_i e
  subst e
  rw [h]
  simp
 ·rfl
def bdI : Sk := ⟨[.lf (.ptr 0 0)], [[.bld 0 68, .own 0, .pv (.int .i64)]], [some (5, .int .u8)]⟩
def bdO : Sk := ⟨[], [[.bld 0 68, .own 0, .pv (.int .i64)]], [some (5, .int .u8)]⟩
def bdS : Sk := ⟨[.lf (.pv .str)], [[.bld 0 68, .dead, .pv (.int .i64)]], [none]⟩
def copyC (x : Bool × Int × List Int) : Option (Bool × Int × List Int) := some (false, x.2.1, x.2.2)
def strC (x : Bool × Int × List Int) : Option (List Int × Bool × Int) := if x.2.2 = [] then none else some (x.2.2, x.1, x.2.1)
set_option maxHeartbeats 4000000 in
set_option maxRecDepth 100000 in
theorem A0i (b : Nat) (w : World) (h0 : w.cell? ⟨b, 0, none⟩ = some (.pointer (some ⟨b, 0, none⟩))) :
  Calls Tryz.prog 70 #[.pointer (some ⟨b, 0, none⟩)] w fun e w' => e = .returned (.tuple #[]) ∧ w' = w := by
 obtain ⟨j, hj, _⟩ := Option.map_eq_some_iff.1 (show (Tryz.prog.info? 66).map (·.size) = some 2 by kernel_rfl)
 have mixed : Tryz.prog.follows .mixedOrders = true := by kernel_rfl
 have t64 := Tryz.underlying64; have a64 := Tryz.isAgg64; have z64 := Tryz.sizeOf64; have v64 := Tryz.zeroValue64; have u64 := run_underlying Tryz.underlying64
 have t66 := Tryz.underlying66; have a66 := Tryz.isAgg66; have z66 := Tryz.sizeOf66; have v66 := Tryz.zeroValue66; have u66 := run_underlying Tryz.underlying66
 have t150 := Tryz.underlying150; have a150 := Tryz.isAgg150; have z150 := Tryz.sizeOf150; have v150 := Tryz.zeroValue150; have u150 := run_underlying Tryz.underlying150
 have t22 := Tryz.underlying22; have a22 := Tryz.isAgg22; have z22 := Tryz.sizeOf22; have v22 := Tryz.zeroValue22; have u22 := run_underlying Tryz.underlying22
 have t111 := Tryz.underlying111; have a111 := Tryz.isAgg111; have z111 := Tryz.sizeOf111; have v111 := Tryz.zeroValue111; have u111 := run_underlying Tryz.underlying111
 have t3 := Tryz.underlying3; have a3 := Tryz.isAgg3; have z3 := Tryz.sizeOf3; have v3 := Tryz.zeroValue3; have u3 := run_underlying Tryz.underlying3
 have t4 := Tryz.underlying4; have a4 := Tryz.isAgg4; have z4 := Tryz.sizeOf4; have v4 := Tryz.zeroValue4; have u4 := run_underlying Tryz.underlying4
 have t9 := Tryz.underlying9; have a9 := Tryz.isAgg9; have z9 := Tryz.sizeOf9; have v9 := Tryz.zeroValue9; have u9 := run_underlying Tryz.underlying9
 have t5 := Tryz.underlying5; have a5 := Tryz.isAgg5; have z5 := Tryz.sizeOf5; have v5 := Tryz.zeroValue5; have u5 := run_underlying Tryz.underlying5
 go_enter Tryz.func70, Tryz.ntmps70
 go_wp2
 rw [Lib.run_neq_ptr_same w _ Tryz.underlying64 hj]
 go_wp2
 go_end0
 exact ⟨rfl, rfl⟩
set_option maxHeartbeats 4000000 in
set_option maxRecDepth 100000 in
theorem A0h (b : Nat) (w : World) (h0 : w.cell? ⟨b, 0, none⟩ = some (.pointer none)) (hsh : w.shape? b = some (68, 3)) (hfz : w.frozen? ⟨b, 0, none⟩ = false) :
  Calls Tryz.prog 70 #[.pointer (some ⟨b, 0, none⟩)] w fun e w' => e = .returned (.tuple #[]) ∧ w' = w.setCell ⟨b, 0, none⟩ (.pointer (some ⟨b, 0, none⟩)) := by
 obtain ⟨j, hj, hjs⟩ := Option.map_eq_some_iff.1 (show (Tryz.prog.info? 66).map (·.size) = some 2 by kernel_rfl)
 have mixed : Tryz.prog.follows .mixedOrders = true := by kernel_rfl
 have t64 := Tryz.underlying64; have a64 := Tryz.isAgg64; have z64 := Tryz.sizeOf64; have v64 := Tryz.zeroValue64; have u64 := run_underlying Tryz.underlying64
 have t66 := Tryz.underlying66; have a66 := Tryz.isAgg66; have z66 := Tryz.sizeOf66; have v66 := Tryz.zeroValue66; have u66 := run_underlying Tryz.underlying66
 have t150 := Tryz.underlying150; have a150 := Tryz.isAgg150; have z150 := Tryz.sizeOf150; have v150 := Tryz.zeroValue150; have u150 := run_underlying Tryz.underlying150
 have t22 := Tryz.underlying22; have a22 := Tryz.isAgg22; have z22 := Tryz.sizeOf22; have v22 := Tryz.zeroValue22; have u22 := run_underlying Tryz.underlying22
 have t111 := Tryz.underlying111; have a111 := Tryz.isAgg111; have z111 := Tryz.sizeOf111; have v111 := Tryz.zeroValue111; have u111 := run_underlying Tryz.underlying111
 have t3 := Tryz.underlying3; have a3 := Tryz.isAgg3; have z3 := Tryz.sizeOf3; have v3 := Tryz.zeroValue3; have u3 := run_underlying Tryz.underlying3
 have t4 := Tryz.underlying4; have a4 := Tryz.isAgg4; have z4 := Tryz.sizeOf4; have v4 := Tryz.zeroValue4; have u4 := run_underlying Tryz.underlying4
 have t9 := Tryz.underlying9; have a9 := Tryz.isAgg9; have z9 := Tryz.sizeOf9; have v9 := Tryz.zeroValue9; have u9 := run_underlying Tryz.underlying9
 have t5 := Tryz.underlying5; have a5 := Tryz.isAgg5; have z5 := Tryz.sizeOf5; have v5 := Tryz.zeroValue5; have u5 := run_underlying Tryz.underlying5
 go_enter Tryz.func70, Tryz.ntmps70
 go_wp2
 rw [Lib.run_to_unsafe w ⟨b, 0, none⟩ Tryz.underlying64 Tryz.underlying150 hj (by rw [hjs]; decide) hsh (Nat.zero_lt_succ 2)]
 simp only [Result.andThen]
 rw [Oper.upon_value]
 go_wp2
 rw [run_callFunc_extern Tryz.func97 (by kernel_rfl) (by kernel_rfl) (by kernel_rfl) (e := Extern.AbiNoEscape.same) (by kernel_rfl)]
 rw [Lib.run_noEscape]
 simp only [Result.andThen]
 rw [Oper.upon_value]
 go_wp2
 rw [Lib.run_from_unsafe w ⟨b, 0, none⟩ Tryz.underlying150 Tryz.underlying64 hj hsh (by kernel_rfl)]
 simp only [Result.andThen]
 rw [Oper.upon_value]
 go_wp2
 go_end0
 exact ⟨rfl, rfl⟩
set_option maxHeartbeats 4000000 in
set_option maxRecDepth 100000 in
theorem Bc8 (b g cap : Nat) (p d : Value) (cur : Array Value) (l : List UInt8) (w : World) (h0 : l ≠ []) (hb : w.heap[b]? = some (.cells #[p, .slice (some ⟨g, 0, none⟩) l.length cap, d] 68 (0, 0))) (hg : w.heap[g]? = some (.cells cur 5 (0, 0)))
  (hnc : l.length ≤ cap) (hcm : cap ≤ maxLen) (hcs : cur.size = cap * 1) (hcell : ∀ (j : Nat) (x : UInt8), l[j]? = some x → w.cell? ⟨g, j, none⟩ = some (.int .u8 x.toNat)) :
  Calls Tryz.prog 23 #[.pointer (some ⟨b, 0, none⟩)] w fun e w' => e = .returned (.string ⟨l.toArray⟩) ∧ w' = w.drew.freeze ⟨g, 0, none⟩ l.length := by
 have hl0 : l.length ≠ 0 := by simpa using h0
 have c1 : w.drew.cell? ⟨b, 1, none⟩ = some (.slice (some ⟨g, 0, none⟩) l.length cap) := by
  have : w.drew.heap[b]? = some (.cells #[p, .slice (some ⟨g, 0, none⟩) l.length cap, d] 68 (0, 0)) := hb
  rw [Lib.cell_of_heap this]; rfl
 have hSD : (Builtin.unsafeSliceData_ #[22] 111 #[.slice (some ⟨g, 0, none⟩) l.length cap]).run Tryz.prog w.drew = .ok (.pointer (some ⟨g, 0, none⟩)) w.drew :=
  Lib.run_unsafeSliceData_row _ _ _ _ _ _ (by omega)
 have hUS : (Builtin.unsafeString_ #[111, 3] 9 #[.pointer (some ⟨g, 0, none⟩), .int .i64 l.length]).run Tryz.prog w.drew = .ok (.string ⟨l.toArray⟩) (w.drew.freeze ⟨g, 0, none⟩ l.length) := by
  refine Lib.run_unsafeString_row w.drew 111 3 9 5 Tryz.underlying111 (by kernel_rfl) g cur.size (by have hg' : w.drew.heap[g]? = some (.cells cur 5 (0, 0)) := hg; simp [World.shape?, hg']) l h0 (by omega) (by unfold maxLen at hcm; omega) ?_
  intro j x hx
  rw [G5, Nat.zero_add]
  exact hcell j x hx
 have mixed : Tryz.prog.follows .mixedOrders = true := by kernel_rfl
 have t64 := Tryz.underlying64; have a64 := Tryz.isAgg64; have z64 := Tryz.sizeOf64; have v64 := Tryz.zeroValue64; have u64 := run_underlying Tryz.underlying64
 have t66 := Tryz.underlying66; have a66 := Tryz.isAgg66; have z66 := Tryz.sizeOf66; have v66 := Tryz.zeroValue66; have u66 := run_underlying Tryz.underlying66
 have t150 := Tryz.underlying150; have a150 := Tryz.isAgg150; have z150 := Tryz.sizeOf150; have v150 := Tryz.zeroValue150; have u150 := run_underlying Tryz.underlying150
 have t22 := Tryz.underlying22; have a22 := Tryz.isAgg22; have z22 := Tryz.sizeOf22; have v22 := Tryz.zeroValue22; have u22 := run_underlying Tryz.underlying22
 have t111 := Tryz.underlying111; have a111 := Tryz.isAgg111; have z111 := Tryz.sizeOf111; have v111 := Tryz.zeroValue111; have u111 := run_underlying Tryz.underlying111
 have t3 := Tryz.underlying3; have a3 := Tryz.isAgg3; have z3 := Tryz.sizeOf3; have v3 := Tryz.zeroValue3; have u3 := run_underlying Tryz.underlying3
 have t4 := Tryz.underlying4; have a4 := Tryz.isAgg4; have z4 := Tryz.sizeOf4; have v4 := Tryz.zeroValue4; have u4 := run_underlying Tryz.underlying4
 have t9 := Tryz.underlying9; have a9 := Tryz.isAgg9; have z9 := Tryz.sizeOf9; have v9 := Tryz.zeroValue9; have u9 := run_underlying Tryz.underlying9
 have t5 := Tryz.underlying5; have a5 := Tryz.isAgg5; have z5 := Tryz.sizeOf5; have v5 := Tryz.zeroValue5; have u5 := run_underlying Tryz.underlying5
 go_enter Tryz.func23, Tryz.ntmps23
 go_wp2
 go_region_o
 all_goals (go_wp2; go_ret; exact ⟨rfl, rfl⟩)
section
variable {F : Nat → Prop} {s s' : St} {G : Gm} {vals vals' : List Value} {w w' : World}
theorem Holds.slotsTo (h : Holds F s G vals w) (hb : s'.boxes = s.boxes) (ho : s'.owns = s.owns) (hs : All2 (HA (HR F s' G w)) s'.slots vals') : Holds F s' G vals' w := by
 obtain ⟨sl, bx, ow⟩ := s
 obtain ⟨sl', bx', ow'⟩ := s'
 cases hb
 cases ho
 exact ⟨hs, h.box, h.own, h.bb, h.bo, h.oo, h.nF, h.Flt, h.ty, h.gl⟩
theorem box3 {b0 b1 b2 : L} {cs : Array Value} {R : L → Value → Prop} (h : All2 R [b0, b1, b2] cs.toList) : ∃ v0 v1 v2, cs = #[v0, v1, v2] ∧ R b0 v0 ∧ R b1 v1 ∧ R b2 v2 := by
 obtain ⟨l⟩ := cs
 cases h with
 | cons h0 h => cases h with
  | cons h1 h => cases h with
   | cons h2 h => cases h; exact ⟨_, _, _, rfl, h0, h1, h2⟩
end
theorem A0g : Ac Tryz.prog 70 ⟨bdI, bdO, B2 bdI.tys bdO.tys copyC⟩ := by
 refine ⟨⟨Tryz.f70, by kernel_rfl, by kernel_rfl, by kernel_rfl⟩, fun ps qs hrun F G vals w hH => ?_⟩
 simp only [B2] at hrun
 split at hrun
 rotate_left
 ·cases hrun
 rename_i x hx
 obtain ⟨y, hy, hq⟩ := Option.bind_eq_some_iff.1 hrun
 cases hq
 have hps := Hh hx
 subst hps
 obtain ⟨z, d, xs⟩ := x
 cases hy
 have hsl : All2 (HA (HR F (enc bdI (szS bdI) (toPL bdI.tys (z, d, xs))) G w)) [lf (.ptr 0 0)] vals := hH.slots
 cases hsl with
 | cons h0 hsl =>
 cases hsl
 cases (show _ = Value.pointer (some ⟨G.bx 0, 0, none⟩) from h0)
 obtain ⟨cs, et, hc, hl⟩ := hH.box 0 [.bld 0 68 z, .own 0, .pv ⟨.int .i64, d⟩] rfl
 obtain ⟨v0, v1, v2, rfl, k0, k1, k2⟩ := box3 hl
 have het : et = 68 := by
  have h1 := hH.ty 0 _ rfl _ _ _ hc
  have h2 : G.et 0 = 68 := k0.2
  rw [h1, h2]
 subst het
 have hcell : w.cell? ⟨G.bx 0, 0, none⟩ = some v0 := by rw [Lib.cell_of_heap hc]; rfl
 cases z with
 | false =>
  cases (show v0 = Value.pointer (some ⟨G.bx 0, 0, none⟩) from k0.1)
  refine (A0i (G.bx 0) w hcell).mono fun e w' he => ?_
  obtain ⟨rfl, rfl⟩ := he
  exact ⟨G, [], rfl, hH.slotsTo rfl rfl .nil, ⟨Keeps.refl _ _, fun k hk => .inl hk, fun _ _ => ⟨rfl, rfl⟩, fun _ _ o ho => ⟨⟨o, ho⟩, rfl⟩⟩⟩
 | true =>
  cases (show v0 = Value.pointer none from k0.1)
  refine (A0h (G.bx 0) w hcell (by simp [World.shape?, hc]) (Lib.frozen_of_heap hc 0)).mono fun e w' he => ?_
  obtain ⟨rfl, rfl⟩ := he
  have hst := Axh hH (b := 0) (ls := [.bld 0 68 true, .own 0, .pv ⟨.int .i64, d⟩]) rfl (k := 0) (new := [.bld 0 68 false]) (by simp) (vs := [.pointer (some ⟨G.bx 0, 0, none⟩)]) (.cons ⟨rfl, k0.2⟩ .nil) hc
  rw [Bcr hc]
  obtain ⟨m1, m2⟩ := hst
  have m3 := m2 1 1
  refine ⟨G, [], rfl, Holds.slotsTo m1 rfl rfl .nil, ⟨m3.keeps, fun k hk => m3.fresh k hk, m3.gb, fun l hl o ho => m3.go l hl o ho⟩⟩
theorem strC_ok : Ac Tryz.prog 23 ⟨bdI, bdS, B2 bdI.tys bdS.tys strC⟩ := by
 refine ⟨⟨Tryz.f23, by kernel_rfl, by kernel_rfl, by kernel_rfl⟩, fun ps qs hrun F G vals w hH => ?_⟩
 simp only [B2] at hrun
 split at hrun
 rotate_left
 ·cases hrun
 rename_i x hx
 obtain ⟨y, hy, hq⟩ := Option.bind_eq_some_iff.1 hrun
 cases hq
 have hps := Hh hx
 subst hps
 obtain ⟨z, d, xs⟩ := x
 unfold strC at hy
 split at hy
 ·cases hy
 rename_i hne
 cases hy
 simp only at hne
 have hsl : All2 (HA (HR F (enc bdI (szS bdI) (toPL bdI.tys (z, d, xs))) G w)) [lf (.ptr 0 0)] vals := hH.slots
 cases hsl with
 | cons h0 hsl =>
 cases hsl
 cases (show _ = Value.pointer (some ⟨G.bx 0, 0, none⟩) from h0)
 obtain ⟨cs, et, hc, hl⟩ := hH.box 0 [.bld 0 68 z, .own 0, .pv ⟨.int .i64, d⟩] rfl
 obtain ⟨v0, v1, v2, rfl, k0, k1, k2⟩ := box3 hl
 have het : et = 68 := by
  have h1 := hH.ty 0 _ rfl _ _ _ hc
  have h2 : G.et 0 = 68 := k0.2
  rw [h1, h2]
 subst het
 have ho : Ab (enc bdI (szS bdI) (toPL bdI.tys (z, d, xs))) 0 = some ⟨5, .int .u8, xs⟩ := rfl
 obtain ⟨_, cs2, hr, hel⟩ := hH.own 0 _ ho
 have hrep := Afh hH ho
 rcases hr.2 with ⟨_, hn⟩ | ⟨g, cap, cur, hv, _, hh, hnc, hm, hs, htk⟩
 ·exact absurd (List.length_eq_zero_iff.1 hn) hne
 cases (show v1 = G.ow 0 from U9 hH ho k1.1 (List.length_pos_iff.2 hne))
 have hrep2 : Dl w (fun k => okS F (enc bdI (szS bdI) (toPL bdI.tys (z, d, xs))) G w k ∨ (G.ow 0).ownBlock = some k) (fun x es => Rep w _ (.int .u8) x es) 1 xs [G.ow 0] := hrep
 obtain ⟨A, c, e1, _, hcm, hx2⟩ := hrep2
 obtain ⟨ad, rfl, hsp, _, hel2⟩ := hx2 hne
 rw [hv] at e1
 cases e1
 obtain ⟨l, hlx, hcl⟩ := Ahu (ok := fun k => okS F (enc bdI (szS bdI) (toPL bdI.tys (z, d, xs))) G w k ∨ (G.ow 0).ownBlock = some k) hsp xs ⟨g, 0, none⟩ hsp hel2
 have hll : List.length (α := Int) xs = l.length := (congrArg (List.length (α := Int)) hlx).symm.trans (List.length_map _)
 have hl0 : l ≠ [] := by rintro rfl; exact hne (by rw [← hlx]; rfl)
 have hrun2 := Bc8 (G.bx 0) g cap v0 v2 cur l w hl0 (by rw [hc, hv]; exact congrArg (fun n => some (Obj.cells #[v0, Value.slice (some ⟨g, 0, none⟩) n cap, v2] 68 (0, 0))) hll) hh (Nat.le_trans (Nat.le_of_eq hll.symm) hnc) hm hs (fun j x hj => by
  obtain ⟨hj1, rfl⟩ := List.getElem?_eq_some_iff.1 hj
  have := hcl j hj1
  rwa [G5, Nat.zero_add] at this)
 refine hrun2.mono fun e w' he => ?_
 obtain ⟨rfl, rfl⟩ := he
 generalize hs0 : enc bdI (szS bdI) (toPL bdI.tys (z, d, xs)) = s0 at *
 have hgl : Live s0 G g := .inr ⟨0, _, ho, by rw [hv]; rfl⟩
 have hk := Aex (bs := []) (os := [0]) (si := ⟨[], [], []⟩) (Gi := G) (w' := w) hH (Keeps.refl _ _) (by
  rintro j (⟨b, ls, hb, _⟩ | ⟨l, x, hx, _⟩)
  ·simp [Aa] at hb
  ·simp [Ab] at hx)
 have hd := hk.1.grew (Grew.drew w)
 have hng : ¬ Live (B1 s0 [] [0]) G g := by
  rintro (⟨b, ls, hb, e⟩ | ⟨l', x, hx, e⟩)
  ·obtain ⟨q, hq, _, _⟩ := Ih hb
   exact hH.bo b q 0 _ hq ho (by rw [hv, e]; rfl)
  ·obtain ⟨hx', hn⟩ := Gg hx
   have := hH.oo l' 0 x _ g hx' ho e (by rw [hv]; rfl)
   subst this
   exact hn (by simp)
 have hlen0 : l.length ≠ 0 := by simpa using hl0
 have hw : w.drew.freeze ⟨g, 0, none⟩ l.length = { w.drew with heap := w.drew.heap.modify g fun ob => match ob with
   | .cells c elem (lo, hi) => .cells c elem (if lo == hi then (0, 0 + l.length) else (min lo 0, max hi (0 + l.length)))
   | ob => ob } := by
  unfold World.freeze
  rw [if_neg hlen0]
  rfl
 generalize hw' : w.drew.freeze ⟨g, 0, none⟩ l.length = w2 at hw
 have hs2 : w2.heap.size = w.drew.heap.size := by rw [hw]; simp
 have hb2 : ∀ k, k ≠ g → w2.heap[k]? = w.drew.heap[k]? := by
  intro k hk
  rw [hw]
  simp only [Array.getElem?_modify]
  rw [if_neg (fun e => hk e.symm)]
 have hhd : w.drew.heap[g]? = some (.cells cur 5 (0, 0)) := hh
 have hc2 : Hs w.drew w2 g := by
  intro ad had
  rw [hw]
  simp only [World.cell?, Array.getElem?_modify, had, if_true, hhd, Option.map_some]
 have h5 := hd.mark hng hs2 hc2 hb2 fun x hx e => (hH.gl x hx).1 (by rw [e]; exact hgl)
 subst hs0
 refine ⟨G, [.string ⟨l.toArray⟩], rfl, Holds.slotsTo h5 rfl rfl (.cons ?_ .nil), ⟨⟨by rw [hw]; rfl, by rw [hw]; rfl, by rw [hw]; rfl, by rw [hs2]; exact Nat.le_refl _, fun k hk1 hk2 => (hb2 k fun e => hk2 (by rw [e]; exact hgl)).trans rfl⟩, fun k hk2 => ?_, fun _ _ => ⟨rfl, rfl⟩, fun l' hl' x hx => ?_⟩⟩
 ·have hsz : (⟨l.toArray⟩ : ByteArray).size ≤ maxLen := Nat.le_trans (Nat.le_of_eq (show l.toArray.size = List.length (α := Int) xs from hll.symm)) (Nat.le_trans hnc hm)
  exact (show ∃ y : ByteArray, [Value.string ⟨l.toArray⟩] = [.string y] ∧ bs y = xs ∧ y.size ≤ maxLen from ⟨_, rfl, by rw [bs_mk]; exact hlx, hsz⟩)
 ·exact hk.2.fresh k hk2
 ·have : l' = 0 := Nat.lt_one_iff.1 hl'
  subst this
  cases hx
def u8s (l : List Int) : List UInt8 := l.map fun n => UInt8.ofNat n.toNat
theorem Axv (y : ByteArray) : u8s (bs y) = y.data.toList := by
 unfold u8s bs
 rw [List.map_map]
 conv => rhs; rw [← List.map_id y.data.toList]
 apply List.map_congr_left
 intro b _
 simp
def piI : Sk := ⟨[.lf (.pv .str), .lf (.pv (.int .i64)), .lf (.pv (.int .i64))], [], []⟩
def piO : Sk := ⟨[.lf (.pv (.int .i64)), .lf (.err)], [], []⟩
def Ll (x : List Int × Int × Int) : Option (Int × Bool) :=
 if x.2.1 = 10 ∧ x.2.2 = 64 ∧ x.1.length ≤ 9223372036854775806 then
  (match Lib.parseIntB 64 (u8s x.1) with
  | .ok v => if (Lit.int .i64 v).wf then some (v, true) else none
  | _ => none)
 else none
theorem Bbf : Ac Tryz.prog 82 ⟨piI, piO, B2 piI.tys piO.tys Ll⟩ := by
 refine Agf (kin := piI) (kout := piO) rfl rfl rfl rfl Ll ⟨Tryz.f82, by kernel_rfl, by kernel_rfl, by kernel_rfl⟩ fun x y hxy F G vals w hH => ?_
 obtain ⟨a0, a1, a2⟩ := x
 have hs : All2 (HA (HR F (enc piI 0 (toPL piI.tys (a0, a1, a2))) G w)) [lf (.pv ⟨.str, a0⟩), lf (.pv ⟨.int .i64, a1⟩), lf (.pv ⟨.int .i64, a2⟩)] vals := hH.slots
 cases hs with
 | cons h0 hs => cases hs with
  | cons h1 hs => cases hs with
   | cons h2 hs =>
    cases hs
    obtain ⟨s, rfl, e0, hmax⟩ := Ar3 h0
    have e1 := (Ph h1).1
    have e2 := (Ph h2).1
    subst e0
    subst e1
    subst e2
    unfold Ll at hxy
    split at hxy
    ·rename_i hc
     obtain ⟨c1, c2, c3⟩ := hc
     simp only at c1 c2 c3 hxy
     subst c1 c2
     split at hxy
     ·rename_i v hv
      split at hxy
      case isFalse => cases hxy
      rename_i hwf
      cases hxy
      rw [Axv] at hv
      have hl : s.size ≤ 9223372036854775806 := by
       have e : (bs s).length = s.size := by
        unfold bs
        rw [List.length_map]
        rfl
       rw [← e]
       exact c3
      refine (Tryz.strconv_ParseInt_10_at64_ok s hl v hv w).mono fun e w' he => ?_
      refine ⟨[.int .i64 v, .nilIface], he.1, ?_, .cons ?_ (.cons ?_ .nil)⟩
      ·rcases he.2 with rfl | ⟨t, rfl⟩
       ·exact Grew.refl _
       ·exact Aeu ⟨rfl, rfl, rfl, by rw [Lib.bytesWorld_size]; omega, fun i hi => Lib.bytesWorld_at_old w _ t i (by omega)⟩
      ·exact Baj hwf
      ·exact Bal
     ·cases hxy
    ·cases hxy
def toBy (l : List Int) : ByteArray := ⟨(u8s l).toArray⟩
theorem toBy_bs (y : ByteArray) : toBy (bs y) = y := by
 unfold toBy
 rw [Axv]
def fiI : Sk := ⟨[.lf (.pv (.int .i64)), .lf (.pv (.int .i64))], [], []⟩
def fiO : Sk := ⟨[.lf (.pv .str)], [], []⟩
def fmtI (x : Int × Int) : Option (List Int) := if x.2 = 10 ∧ (Lib.itoa x.1).length ≤ maxLen then some (bs ⟨(Lib.itoa x.1).toArray⟩) else none
theorem fmtI_ok : Ac Tryz.prog 48 ⟨fiI, fiO, B2 fiI.tys fiO.tys fmtI⟩ := by
 refine Agf (kin := fiI) (kout := fiO) rfl rfl rfl rfl fmtI ⟨Tryz.f48, by kernel_rfl, by kernel_rfl, by kernel_rfl⟩ fun x y hxy F G vals w hH => ?_
 obtain ⟨a0, a1⟩ := x
 have hs : All2 (HA (HR F (enc fiI 0 (toPL fiI.tys (a0, a1))) G w)) [lf (.pv ⟨.int .i64, a0⟩), lf (.pv ⟨.int .i64, a1⟩)] vals := hH.slots
 cases hs with
 | cons h0 hs => cases hs with
  | cons h1 hs =>
   cases hs
   obtain ⟨e0, w0⟩ := Ph h0
   obtain ⟨e1, w1⟩ := Ph h1
   subst e0
   subst e1
   unfold fmtI at hxy
   split at hxy
   ·rename_i hc
    obtain ⟨c1, c2⟩ := hc
    simp only at c1 c2 hxy
    subst c1
    cases hxy
    obtain ⟨et, fr, hg⟩ := (hH.gl (0, (Lib.pow10Tab.map fun z => Value.int .u64 z).toArray) (by simp [gTab])).2
    have hb := L4.1 w0
    simp [IntKind.min, IntKind.max, IntKind.signed, IntKind.bits] at hb
    have htab : Lib.TabIs Tryz.prog w "internal/strconv.uint64pow10" .u64 Lib.pow10Tab := by
     unfold Lib.TabIs World.var?
     rw [show Tryz.prog.globalNamed "internal/strconv.uint64pow10" = some 0 by kernel_rfl]
     simp only [Option.bind_some, hg]
    refine (Tryz.strconv_FormatInt_10 a0 (by omega) (by omega) w htab).mono fun e w' he => ?_
    obtain ⟨rfl, k, os, rfl⟩ := he
    refine ⟨[.string ⟨(Lib.itoa a0).toArray⟩], rfl, Aeu (Lib.below_grow _ w (Nat.le_refl _) k os), .cons (Ar4 ?_) .nil⟩
    exact c2
   ·cases hxy
def rpI : Sk := ⟨[.lf (.pv .str), .lf (.pv (.int .i64))], [], []⟩
def rpO : Sk := ⟨[.lf (.pv .str)], [], []⟩
def repB (x : List Int × Int) : List UInt8 := Lib.repeatL (toBy x.1).data.toList x.2.toNat
def repS (x : List Int × Int) : Option (List Int) :=
 if 0 ≤ x.2 ∧ x.2 ≤ 9223372036854775807 ∧ x.1.length * x.2.toNat ≤ 140737488355328 ∧ (repB x).length ≤ maxLen then some (bs ⟨(repB x).toArray⟩) else none
theorem repS_ok : Ac Tryz.prog 46 ⟨rpI, rpO, B2 rpI.tys rpO.tys repS⟩ := by
 refine Agf (kin := rpI) (kout := rpO) rfl rfl rfl rfl repS ⟨Tryz.f46, by kernel_rfl, by kernel_rfl, by kernel_rfl⟩ fun x y hxy F G vals w hH => ?_
 obtain ⟨a0, a1⟩ := x
 have hs : All2 (HA (HR F (enc rpI 0 (toPL rpI.tys (a0, a1))) G w)) [lf (.pv ⟨.str, a0⟩), lf (.pv ⟨.int .i64, a1⟩)] vals := hH.slots
 cases hs with
 | cons h0 hs => cases hs with
  | cons h1 hs =>
   cases hs
   obtain ⟨s, rfl, e0, hmax⟩ := Ar3 h0
   have e1 := (Ph h1).1
   subst e0
   subst e1
   unfold repS at hxy
   split at hxy
   ·rename_i hc
    obtain ⟨c1, c2, c3, c4⟩ := hc
    simp only at c1 c2 c3 c4 hxy
    cases hxy
    have hlen : (bs s).length = s.size := D0 s
    have hr := Tryz.strings_Repeat s a1.toNat w (by omega) (by rw [← hlen]; exact c3)
    have ea : ((a1.toNat : Nat) : Int) = a1 := Int.toNat_of_nonneg c1
    rw [ea] at hr
    refine hr.mono fun e w' he => ?_
    obtain ⟨rfl, hb⟩ := he
    have hB : repB (bs s, a1) = Lib.repeatL s.data.toList a1.toNat := by unfold repB; rw [toBy_bs]
    have c5 : (⟨(repB (bs s, a1)).toArray⟩ : ByteArray).size ≤ maxLen := c4
    exact ⟨[.string ⟨(repB (bs s, a1)).toArray⟩], by rw [hB]; rfl, Aeu hb, .cons (Ar4 c5) .nil⟩
   ·cases hxy
theorem A5g {G : Gm} {w : World} {ok : Nat → Prop} {os : List (Option Own)} {l : L} {v : Value} (hf : Ti l = true) (h : HL G w ok os l v) : ∀ (G : Gm) (w : World) (ok : Nat → Prop) (os : List (Option Own)), HL G w ok os l v := by
 intro G' w' ok' os'
 cases l with
 | pv p => exact Alt (p := p) hf h w' ok'
 | cst k => exact h
 | _ => cases hf
def cloS (slots : List AV) (new : List (List L)) : St := { slots := slots, boxes := (new.map fun ls => some (ls.map fun _ => .dead)) ++ List.replicate 80 none, owns := [] }
def cloK (e : XE) (s : St) : Option St := match e with | .normal => some s | _ => none
theorem Ahm {w : World} : ∀ {ks : List Nat} {ns : List (List L)}, Gy w ks ns → ks.length = ns.length ∧ ∀ (i : Nat) (ls : List L), ns[i]? = some ls → ∃ k, ks[i]? = some k ∧ ∃ cs et, w.heap[k]? = some (.cells cs et (0, 0)) ∧ cs.size = ls.length ∧ ∀ v ∈ cs.toList, v.oneCell' = true
 | [], [], _ => ⟨rfl, fun i ls h => by simp at h⟩
 | k :: r, ls :: q, h => by
  obtain ⟨h1, h2⟩ := Ahm h.2
  refine ⟨by simp [h1], fun i l hi => ?_⟩
  cases i with
  | zero => cases hi; exact ⟨k, rfl, h.1⟩
  | succ i => exact h2 i l (by simpa using hi)
 | [], _ :: _, h => by cases h
 | _ :: _, [], h => by cases h
theorem Aho {w w' : World} : ∀ {ks : List Nat} {ns : List (List L)}, ks.length = ns.length → (∀ (i k : Nat) (ls : List L), ks[i]? = some k → ns[i]? = some ls → ∃ cs et, w.heap[k]? = some (.cells cs et (0, 0)) ∧ ∃ cs', w'.heap[k]? = some (.cells cs' et (0, 0)) ∧ All2 (fun l v => ∀ (G : Gm) (w : World) (ok : Nat → Prop) (os : List (Option Own)), HL G w ok os l v) ls cs'.toList) → Blks w w' ks ns
 | [], [], _, _ => trivial
 | k :: r, n :: q, hl, h => ⟨h 0 k n rfl rfl, Aho (by simpa using hl) fun i k' ls h1 h2 => h (i + 1) k' ls (by simpa using h1) (by simpa using h2)⟩
theorem W4 {C : Cfg} {c : Code} {slots : List AV} {new : List (List L)} {ks : List Nat} (T : St → Prop)
  (hcode : ∀ (F : Nat → Prop) (G : Gm) (a : Act) (w : World) (Q : Exit → Act → World → Prop), Holds F (cloS slots new) G a.tmps.toList w →
   (∀ s1, T s1 → ∀ G' a' w', Holds F s1 G' a'.tmps.toList w' → Step C.npB C.npO (cloS slots new) G w s1 G' w' → a'.defers = a.defers → Q .normal a' w') → c.wp C.P Q a w)
  (hkn : C.npB = new.length)
  {w : World} (hn : ks.Nodup) (hb : Gy w ks new) (hgl : ∀ x ∈ gTab, x.1 ∉ ks ∧ ∃ et fr, w.heap[x.1]? = some (.cells x.2 et fr)) {a : Act}
  (hs : ∀ (F : Nat → Prop) (G : Gm), (∀ i k, ks[i]? = some k → G.bx i = k) → All2 (HA (HR F (cloS slots new) G w)) slots a.tmps.toList)
  (hbox : ∀ s1, T s1 → ∀ b ls, new[b]? = some ls → Aa s1 b = some ls) (hflat : new.all (fun ls => ls.all Ti) = true)
  {Q : Exit → Act → World → Prop} (hQ : ∀ a' w', Keeps (fun k => k ∈ ks) w w' → Blks w w' ks new → a'.defers = a.defers → Q .normal a' w') : c.wp C.P Q a w := by
 obtain ⟨hlen, hget⟩ := Ahm hb
 let et : Nat → Nat := fun i => match ks[i]?.bind (fun k => w.heap[k]?) with
  | some (.cells _ t _) => t
  | _ => 0
 let G : Gm := { bx := fun i => (ks[i]?).getD 0, ow := fun _ => undef, et := et }
 have hG : ∀ i k, ks[i]? = some k → G.bx i = k := fun i k h => by show (ks[i]?).getD 0 = k; rw [h]; rfl
 have hbx : ∀ b ls, Aa (cloS slots new) b = some ls → ∃ n, new[b]? = some n ∧ ls = n.map fun _ => L.dead := by
  intro b ls h
  simp only [Aa, cloS] at h
  by_cases hlt : b < new.length
  ·rw [List.getElem?_append_left (by simpa using hlt), List.getElem?_map] at h
   cases hn : new[b]? with
   | none => rw [hn] at h; cases h
   | some n => rw [hn] at h; cases h; exact ⟨n, rfl, rfl⟩
  ·rw [List.getElem?_append_right (by simpa using hlt), List.getElem?_replicate] at h
   split at h <;> cases h
 have hmem : ∀ j, Live (cloS slots new) G j → j ∈ ks := by
  rintro j (⟨b, ls, hb2, rfl⟩ | ⟨l, o, ho, _⟩)
  ·obtain ⟨n, hn2, rfl⟩ := hbx b ls hb2
   obtain ⟨k, hk, _⟩ := hget b n hn2
   rw [hG b k hk]
   exact List.mem_of_getElem? hk
  ·simp [Ab, cloS] at ho
 have hH : Holds (fun j => j < w.heap.size ∧ j ∉ ks) (cloS slots new) G a.tmps.toList w := by
  refine ⟨hs _ G hG, fun b ls hb2 => ?_, fun l o ho => by simp [Ab, cloS] at ho, fun b b' ls ls' k1 k2 e => ?_, fun b ls l o _ ho => by simp [Ab, cloS] at ho, fun l l' o o' k ho => by simp [Ab, cloS] at ho, fun k hL hF => hF.2 (hmem k hL), fun k hF => hF.1, fun b ls hb2 cs3 et3 fr3 hc3 => ?_, fun x hx => ⟨fun hL => (hgl x hx).1 (hmem _ hL), (hgl x hx).2⟩⟩
  ·obtain ⟨n, hn2, rfl⟩ := hbx b ls hb2
   obtain ⟨k, hk, cs, et, q1, q2, q3⟩ := hget b n hn2
   rw [hG b k hk]
   refine ⟨cs, et, q1, All2.of_get (by simp [q2]) fun i x y hx hy => ?_⟩
   simp only [List.getElem?_map] at hx
   cases hni : n[i]? with
   | none => rw [hni] at hx; cases hx
   | some z => rw [hni] at hx; cases hx; exact q3 y (List.mem_of_getElem? hy)
  ·obtain ⟨n, hn2, rfl⟩ := hbx b ls k1
   obtain ⟨n', hn2', rfl⟩ := hbx b' ls' k2
   obtain ⟨k, hk, _⟩ := hget b n hn2
   obtain ⟨k', hk', _⟩ := hget b' n' hn2'
   rw [hG b k hk, hG b' k' hk'] at e
   subst e
   exact (List.getElem?_inj (List.getElem?_eq_some_iff.1 hk).1 hn).1 (hk.trans hk'.symm)
  ·obtain ⟨n, hn2, rfl⟩ := hbx b ls hb2
   obtain ⟨k, hk, cs, et', q1, q2, q3⟩ := hget b n hn2
   rw [hG b k hk] at hc3
   show et3 = et b
   simp only [et, hk, Option.bind_some, hc3]
 refine hcode _ G a w Q hH fun s1 hT G' a' w' k1 k2 k3 => ?_
 refine hQ a' w' ⟨k2.keeps.os, k2.keeps.tape, k2.keeps.output, k2.keeps.size, fun j hj hm => k2.keeps.block j hj fun hL => hm (hmem j hL)⟩ (Aho hlen fun i k ls hk hls => ?_) k3
 obtain ⟨k', hk', cs, et', q1, q2, q3⟩ := hget i ls hls
 rw [hk] at hk'
 cases hk'
 refine ⟨cs, et', q1, ?_⟩
 obtain ⟨cs2, et2, m1, m2⟩ := k1.box i ls (hbox s1 hT i ls hls)
 have hi : i < C.npB := by rw [hkn]; exact (List.getElem?_eq_some_iff.1 hls).1
 obtain ⟨g1, g2⟩ := k2.gb i hi
 have e1 : G'.bx i = k := g1.trans (hG i k hk)
 rw [e1] at m1
 have hty := k1.ty i ls (hbox s1 hT i ls hls)
 rw [e1] at hty
 have e2 : et2 = G'.et i := hty cs2 et2 (0, 0) m1
 have hty0 : et' = G.et i := by
  show et' = et i
  simp only [et, hk, Option.bind_some, q1]
 refine ⟨cs2, by rw [m1, e2, g2, hty0], ?_⟩
 have hfl := List.all_eq_true.1 (List.all_eq_true.1 hflat ls (List.mem_of_getElem? hls))
 exact m2.imp_mem fun l v hl hv => A5g (hfl l hl) hv
def anyF (C : Cfg) (ops : Array Oper) : Nat → Array Bool → St → Option (List St)
 | 0, listed, s => match Region.ready .any ops listed with | [] => some [s] | _ => none
 | fuel + 1, listed, s => match Region.ready .any ops listed with
  | [] => some [s]
  | r => r.foldr (fun i acc => match ops[i]? with
   | some o => ((Ai (opD C) ops s o).val).bind fun s' => (anyF C ops fuel (listed.setIfInBounds i true) s').bind fun l => acc.map fun m => l ++ m
   | none => none) (some [])
theorem Am2 {f : Nat → Option (List St)} : ∀ {r : List Nat} {L : List St}, r.foldr (fun i acc => (f i).bind fun l => acc.map fun m => l ++ m) (some []) = some L → ∀ i ∈ r, ∃ l, f i = some l ∧ ∀ x ∈ l, x ∈ L
 | [], L, h, i, hi => by simp at hi
 | j :: r, L, h, i, hi => by
  simp only [List.foldr_cons] at h
  obtain ⟨l, h1, h2⟩ := Option.bind_eq_some_iff.1 h
  obtain ⟨m, h3, rfl⟩ := Option.map_eq_some_iff.1 h2
  rcases List.mem_cons.1 hi with rfl | hi
  ·exact ⟨l, h1, fun x hx => List.mem_append_left _ hx⟩
  ·obtain ⟨l2, h4, h5⟩ := Am2 h3 i hi
   exact ⟨l2, h4, fun x hx => List.mem_append_right _ (h5 x hx)⟩
theorem Aye {C : Cfg} {F : Nat → Prop} (hE : Ba C) {ops : Array Oper} (Q : Exit → Act → World → Prop) :
  ∀ (fuel : Nat) (listed : Array Bool) (s : St) (L : List St) (G : Gm) (a : Act) (w : World), anyF C ops fuel listed s = some L → Holds F s G a.tmps.toList w →
  (∀ sf ∈ L, ∀ G' a' w', Holds F sf G' a'.tmps.toList w' → Step N0 N0 s G w sf G' w' → a'.defers = a.defers → Q .normal a' w') →
  wpAny C.P .any ops Q fuel listed a w := by
 intro fuel
 induction fuel with
 | zero =>
  intro listed s L G a w h hH hQ
  unfold anyF at h
  split at h
  ·rename_i hr
   cases h
   exact ⟨hr, hQ s (by simp) G a w hH (Step.refl _ _ _ _ _) rfl⟩
  ·cases h
 | succ fuel ih =>
  intro listed s L G a w h hH hQ
  unfold anyF at h
  split at h
  ·rename_i hr
   cases h
   refine ⟨fun _ => hQ s (by simp) G a w hH (Step.refl _ _ _ _ _) rfl, fun i hi => ?_⟩
   rw [hr] at hi
   simp at hi
  ·rename_i hne
   refine ⟨fun hr => absurd hr hne, fun i hi => ?_⟩
   have h' : (Region.ready .any ops listed).foldr (fun i acc => (((ops[i]?).bind fun o => ((Ai (opD C) ops s o).val).bind fun s' => anyF C ops fuel (listed.setIfInBounds i true) s')).bind fun l => acc.map fun m => l ++ m) (some []) = some L := by
    rw [← h]
    congr 1
    funext i acc
    cases ops[i]? with
    | none => rfl
    | some o =>
     simp only [Option.bind_some]
     cases (Ai (opD C) ops s o).val <;> rfl
   obtain ⟨l, h1, h2⟩ := Am2 h' i hi
   obtain ⟨o, ho, h3⟩ := Option.bind_eq_some_iff.1 h1
   obtain ⟨s', h4, h5⟩ := Option.bind_eq_some_iff.1 h3
   have hstep := Atb (fok_D hE) hH h4 (wpAny C.P .any ops Q fuel (listed.setIfInBounds i true)) Q fun G1 a1 w1 k1 k2 k3 =>
    ih (listed.setIfInBounds i true) s' l G1 a1 w1 h5 k1 fun sf hsf G2 a2 w2 m1 m2 m3 => hQ sf (h2 sf hsf) G2 a2 w2 m1 (k2.trans m2) (m3.trans k3)
   unfold wpOp
   simp only [ho]
   split
   ·rename_i hw; rw [if_pos hw] at hstep; exact .inl hstep
   ·rename_i hw; rw [if_neg hw] at hstep; exact hstep
theorem At2 {C : Cfg} {F : Nat → Prop} {s : St} {G : Gm} {a : Act} {w : World} {Q : Exit → Act → World → Prop} {id : Nat} (hm : C.P.follows .mixedOrders = true) (hE : Ba C) {ops : Array Oper} {L : List St} (h : anyF C ops ops.size (Array.replicate ops.size false) s = some L) (hH : Holds F s G a.tmps.toList w)
  (hQ : ∀ sf ∈ L, ∀ G' a' w', Holds F sf G' a'.tmps.toList w' → Step N0 N0 s G w sf G' w' → a'.defers = a.defers → Q .normal a' w') : (Code.region id ops true).wp C.P Q a w := by
 refine wp_region_any hm ?_
 have hg : Grew w { w with drawn := w.drawn + 1 } := ⟨rfl, rfl, rfl, Nat.le_refl _, fun _ _ _ => rfl⟩
 have hH2 : Holds F s G a.tmps.toList { w with drawn := w.drawn + 1 } := hH.grew hg
 exact Aye hE Q _ _ s L G a _ h hH2 fun sf hs G' a' w' m1 m2 m3 => hQ sf hs G' a' w' m1 ((Step.grew hg).trans m2) m3
theorem Ahn {w w1 : World} (hs : ∀ (k : Nat) (x : Obj), w.heap[k]? = some x → w1.heap[k]? = some x) : ∀ {ks : List Nat} {ns : List (List L)}, Gy w ks ns → Gy w1 ks ns
 | [], [], _ => trivial
 | k :: r, n :: q, ⟨⟨cs, et, h1, h2⟩, h3⟩ => ⟨⟨cs, et, hs _ _ h1, h2⟩, Ahn hs h3⟩
 | [], _ :: _, h => by cases h
 | _ :: _, [], h => by cases h
theorem Ahp {w w1 w' : World} (hs : ∀ (k : Nat) (x : Obj), w.heap[k]? = some x → w1.heap[k]? = some x) : ∀ {ks : List Nat} {ns : List (List L)}, Gy w ks ns → Blks w1 w' ks ns → Blks w w' ks ns
 | [], [], _, _ => trivial
 | k :: r, n :: q, ⟨⟨cs, et, h1, h2⟩, h3⟩, ⟨⟨cs2, et2, h4, h5⟩, h6⟩ => ⟨by
   rw [hs _ _ h1] at h4
   cases h4
   exact ⟨cs, et, h1, h5⟩, Ahp hs h3 h6⟩
 | [], _ :: _, h, _ => by cases h
 | _ :: _, [], h, _ => by cases h
theorem Ut {w : World} {o : Obj} : ∀ (k : Nat) (x : Obj), w.heap[k]? = some x → (w.alloc o).heap[k]? = some x := fun k x h => by
 obtain ⟨hl, _⟩ := Array.getElem?_eq_some_iff.1 h
 show (w.heap.push o)[k]? = some x
 rw [Array.getElem?_push_lt hl, ← h, Array.getElem?_eq_getElem hl]
theorem Ar5 {w : World} {o : Obj} : w.heap.size ≤ (w.alloc o).heap.size := by
 show w.heap.size ≤ (w.heap.push o).size
 rw [Array.size_push]; omega
theorem opok {P : Program} {ops : Array Oper} {Q : Exit → Act → World → Prop} {a : Act} {w w1 : World} {rest : List Oper} {o : Oper} {v : Value} (hg : o.guard = none) (h : (execOp a.eval o).run P w = .ok (.value v) w1) (hr : wpList P ops Q rest (a.put o.dst v) w1) : wpList P ops Q (o :: rest) a w :=
 wpList_plain hg fun K hK => by unfold Oper.wp; rw [h]; exact hK _ _ hr
theorem A0e {C : Cfg} (hE : Ba C) (hD : Fy C) (hnb : C.npB ≤ N0) (hno : C.npO ≤ N0) (k : Nat) {c : Code} {slots : List AV} {new : List (List L)} {ks : List Nat} (hkn : C.npB = new.length)
  {w : World} (hn : ks.Nodup) (hb : Gy w ks new) (hgl : ∀ x ∈ gTab, x.1 ∉ ks ∧ ∃ et fr, w.heap[x.1]? = some (.cells x.2 et fr)) {a : Act}
  (hs : ∀ (F : Nat → Prop) (G : Gm), (∀ i k, ks[i]? = some k → G.bx i = k) → All2 (HA (HR F (cloS slots new) G w)) slots a.tmps.toList)
  {s1 : St} (he : ev C k c (cloS slots new) cloK = some s1) (hbox : ∀ b ls, new[b]? = some ls → Aa s1 b = some ls) (hflat : new.all (fun ls => ls.all Ti) = true)
  {Q : Exit → Act → World → Prop} (hQ : ∀ a' w', Keeps (fun k => k ∈ ks) w w' → Blks w w' ks new → a'.defers = a.defers → Q .normal a' w') : c.wp C.P Q a w := by
 obtain ⟨e, s', h1, h2⟩ := Dp hE hD hnb hno k c _ cloK s1 he
 have hen : e = .normal ∧ s' = s1 := by
  cases e <;> simp [cloK] at h1
  exact ⟨rfl, h1⟩
 obtain ⟨rfl, rfl⟩ := hen
 exact W4 (fun s => s = s') (fun F G a w Q hH hQ => h2 F G a w Q hH fun G' a' w' x k0 k1 k2 k3 => by cases k0; exact hQ s' rfl G' a' w' k1 k2 k3) hkn hn hb hgl hs (fun s1 h => by rw [h]; exact hbox) hflat hQ
noncomputable def cloC (n npB : Nat) : Cfg := { P := Tryz.prog, env := fun _ => [], n := n, npB := npB, npO := 0, hint := fun _ => none, pops := [] }
theorem cloE (n npB : Nat) : Ba (cloC n npB) := fun g sg h => by cases h
theorem cloD (n npB : Nat) : Fy (cloC n npB) := No (by kernel_rfl) (cloE n npB)
def Ij (ps : List PL) : List (List L) := match ps with
 | [] => [[.cst .sl], [.pv ⟨.int .i64, (1 : Int)⟩]]
 | _ => []
theorem clo12_R (kd : Sk) (caps : List Nat) (h : caps.length = 2) : CloR Tryz.prog { g := 12, kd := kd, caps := caps, pt := 45, tp := [], pg := true, new := Ij } := by
 intro args w hs
 refine ⟨⟨Tryz.f12, by kernel_rfl, by kernel_rfl, by kernel_rfl⟩, callsD_of_wpS Tryz.func12 rfl fun c₀ cs hu => ?_⟩
 have hs2 : args.size = 2 := hs.trans h
 obtain ⟨x0, x1, rfl⟩ : ∃ x0 x1, args = #[x0, x1] := by
  rcases args with ⟨l⟩
  match l, hs2 with
  | [x0, x1], _ => exact ⟨x0, x1, rfl⟩
 apply wpS_seq
 apply wpS_region
 simp [wpOpsS, go_sem, recoverD, hu, Tryz.ntmps12, Exit.thenS]
 refine wpS_of_wp ?_
 go_wp2
 cases c₀
 simp_all [bodyPostS, results, Tryz.results12]
noncomputable def Agn : Code := match Bs Tryz.f12 with
 | .seq _ (.block _ (.seq _ (.cond _ _ (.seq _ (.cond _ (.seq _ c) _))))) => c
 | _ => .skip
def Agi : List AV := [lf (.ptr 0 0), lf (.ptr 1 0), .dead, .dead, .dead, .dead, .dead, .dead, .dead, .dead, .cv (.agg [])]
theorem Bdb : (ev (cloC 11 2) 0 Agn (cloS Agi (Ij [])) cloK).isSome = true := by kernel_rfl
theorem Bda : (ev (cloC 11 2) 0 Agn (cloS Agi (Ij [])) cloK).map (fun s => [Aa s 0, Aa s 1]) = some ((Ij []).map some) := by kernel_rfl
theorem clo12_P (kd : Sk) (caps : List Nat) (h : caps.length = 2) : CloP Tryz.prog { g := 12, kd := kd, caps := caps, pt := 45, tp := [], pg := true, new := Ij } := by
 intro ks w v ps hps hv hk hn hb hgl
 cases ps with
 | cons p ps => cases hps
 | nil =>
  obtain ⟨cs0, h0, rfl⟩ := hv
  cases h0
  have hk2 : ks.length = 2 := hk.trans h
  obtain ⟨k0, k1, rfl⟩ : ∃ k0 k1, ks = [k0, k1] := by
   match ks, hk2 with
   | [x0, x1], _ => exact ⟨x0, x1, rfl⟩
  refine callsD_of_wpS Tryz.func12 rfl fun c₀ cs hu => ?_
  apply wpS_seq
  apply wpS_region
  simp [wpOpsS, go_sem, recoverD, hu, Tryz.ntmps12, Exit.thenS]
  refine wpS_of_wp (wp_block (wp_seq (wp_region_list (wpList_step fun K hK => ?_))))
  rw [if_pos (show Region.wanted _ _ = true from rfl)]
  have heq : ∀ (z : Value) (w : World), (Op.equal 20 (.iface 45 z) .nilIface).run Tryz.prog w = .ok false w := fun z w => Vr 9999 20 _ Tryz.underlying20 45 z
  have heb : ∀ (z : Value) (w : World), (binOp .eql 20 (.iface 45 z) .nilIface).run Tryz.prog w = .ok (.bool false) w := fun z w => by simp [binOp, heq]
  have hgd : ∀ (z : Value) (w : World), (eqGuard .eql 20 (.tmp 5) (.const .nilIface) (.iface 45 z) .nilIface).run Tryz.prog w = .ok () w := fun z w => by unfold eqGuard; simp
  simp [Oper.wp, execOp, Act.eval, hgd, heb, Oper.upon_value]
  refine hK _ _ ?_
  show Exit.then _ _ .normal _ _
  simp only [Exit.then]
  refine wp_cond_false (by simp [Act.eval, Act.put]) ?_
  clear heq heb hgd hK K
  refine wp_seq (wp_region_list (opok (v := .tuple #[.agg #[], .bool true]) (w1 := w) rfl ?_ (opok (v := .bool true) (w1 := w) rfl ?_ (opok (v := .agg #[]) (w1 := w) rfl ?_ (wpList_nil ?_)))))
  ·simp [execOp, Act.eval, Act.put, Instr.typeAssert, run_underlying Tryz.underlying45]
  ·simp [execOp, Act.eval, Act.put, go_sem]
  ·simp [execOp, Act.eval, Act.put, go_sem]
  show Exit.then _ _ .normal _ _
  simp only [Exit.then]
  refine wp_cond_true (by simp [Act.eval, Act.put]) ?_
  refine wp_seq (wp_region_list (wpList_step fun K hK => ?_))
  rw [if_pos (show Region.wanted _ _ = true from rfl)]
  simp [Oper.wp, execOp, Act.eval, Act.put, go_sem]
  refine hK _ _ (wpList_step fun K2 hK2 => ?_)
  rw [if_pos (show Region.wanted _ _ = true from rfl)]
  simp [Oper.wp, execOp, Act.eval, Act.put, go_sem]
  refine hK2 _ _ ?_
  show Exit.then _ _ .normal _ _
  simp only [Exit.then]
  clear hK2 K2 hK K
  obtain ⟨s1, hs1⟩ := Option.isSome_iff_exists.1 Bdb
  have hbx := Bda
  rw [hs1] at hbx
  simp [Ij] at hbx
  refine A0e (cloE 11 2) (cloD 11 2) (by decide) (by decide) 0 (c := Agn) (new := Ij []) rfl hn (Ahn Ut hb) (fun x hx => ⟨(hgl x hx).1, (hgl x hx).2.elim fun et h => h.elim fun fr h => ⟨et, fr, Ut _ _ h⟩⟩) (fun F G hG => ?_) hs1 (fun b ls hb => ?_) rfl fun a' w' q1 q2 q3 => ?_
  ·have e0 := hG 0 k0 rfl
   have e1 := hG 1 k1 rfl
   simp [Agi, lf]
   repeat' (first | exact All2.nil | refine All2.cons ?_ ?_)
   all_goals (try simp only [HA, HC, HR, HL, e0, e1])
   exact ⟨#[], rfl, .nil⟩
  ·match b, hb with
   | 0, hb => cases hb; exact hbx.1
   | 1, hb => cases hb; exact hbx.2
  ·have hk' : Keeps (fun k => k = k0 ∨ k = k1) w w' := ⟨q1.os, q1.tape, q1.output, Nat.le_trans Ar5 q1.size, fun j hj hm => by
    rw [q1.block j (Nat.lt_of_lt_of_le hj Ar5) (by simpa using hm)]
    exact (Ut j _ (Array.getElem?_eq_getElem hj)).trans (Array.getElem?_eq_getElem hj).symm⟩
   have hb' := Ahp Ut hb q2
   cases c₀
   simp_all [bodyPostS, results, Tryz.results12, Exit.inBlock]
def Dr (ps : List PL) : List (List L) := match ps with
 | [⟨.int .i64, e⟩, ⟨.int .i64, p⟩] => [[.pv ⟨.int .i64, (0 : Int)⟩, .cst .sl, .pv ⟨.int .i64, (0 : Int)⟩, .pv ⟨.int .i64, (0 : Int)⟩, .pv ⟨.int .i64, (0 : Int)⟩, .pv ⟨.int .i64, (0 : Int)⟩, .pv ⟨.bool, false⟩, .pv ⟨.int .i64, (0 : Int)⟩], [.pv ⟨.int .i64, e⟩], [.pv ⟨.int .i64, p⟩]]
 | _ => []
set_option maxHeartbeats 2000000 in
theorem clo10_R (kd : Sk) (caps : List Nat) (h : caps.length = 3) : CloR Tryz.prog { g := 10, kd := kd, caps := caps, pt := 39, tp := [.int .i64, .int .i64], pg := true, new := Dr } := by
 intro args w hs
 refine ⟨⟨Tryz.f10, by kernel_rfl, by kernel_rfl, by kernel_rfl⟩, callsD_of_wpS Tryz.func10 rfl fun c₀ cs hu => ?_⟩
 have hs2 : args.size = 3 := hs.trans h
 obtain ⟨x0, x1, x2, rfl⟩ : ∃ x0 x1 x2, args = #[x0, x1, x2] := by
  rcases args with ⟨l⟩
  match l, hs2 with
  | [x0, x1, x2], _ => exact ⟨x0, x1, x2, rfl⟩
 apply wpS_seq
 apply wpS_region
 simp [wpOpsS, go_sem, recoverD, hu, Tryz.ntmps10, Exit.thenS]
 refine wpS_of_wp ?_
 go_wp2
 cases c₀
 simp_all [bodyPostS, results, Tryz.results10]
noncomputable def Agm : Code := match Bs Tryz.f10 with
 | .seq _ (.block _ (.seq _ (.cond _ _ (.seq _ (.cond _ c _))))) => c
 | _ => .skip
def J2 (e p : Int) : List AV := [lf (.ptr 0 0), lf (.ptr 1 0), lf (.ptr 2 0), .dead, .dead, .dead, .dead, .dead, .dead, .dead, .dead, .cv (.agg [.pv ⟨.int .i64, e⟩, .pv ⟨.int .i64, p⟩]), .dead, .dead, .dead, .dead, .dead]
noncomputable def Lo : Code := match Agm with | .seq a _ => a | _ => .skip
noncomputable def Gp : Array Oper := match Agm with | .seq _ (.region _ ops _) => ops | _ => #[]
def s10 (e p : Int) : St := cloS (J2 e p) (Dr [⟨.int .i64, e⟩, ⟨.int .i64, p⟩])
theorem t10_6 (e p : Int) : (ev (cloC 17 3) 0 Lo (s10 e p) cloK).isSome = true := by kernel_rfl
theorem t10_B (e p : Int) : ((ev (cloC 17 3) 0 Lo (s10 e p) cloK).bind fun s6 => (anyF (cloC 17 3) Gp Gp.size (Array.replicate Gp.size false) s6).map fun L => L.map fun s => [Aa s 0, Aa s 1, Aa s 2]) = some (List.replicate 126 ((Dr [⟨.int .i64, e⟩, ⟨.int .i64, p⟩]).map some)) := by kernel_rfl
theorem t10_L (e p : Int) (s6 : St) (h : ev (cloC 17 3) 0 Lo (s10 e p) cloK = some s6) : (anyF (cloC 17 3) Gp Gp.size (Array.replicate Gp.size false) s6).isSome = true := by
 have := t10_B e p
 rw [h, Option.bind_some] at this
 obtain ⟨L, h1, _⟩ := Option.map_eq_some_iff.1 this
 rw [h1]; rfl
theorem t10_box (e p : Int) (s6 : St) (h : ev (cloC 17 3) 0 Lo (s10 e p) cloK = some s6) (L : List St) (hL : anyF (cloC 17 3) Gp Gp.size (Array.replicate Gp.size false) s6 = some L) :
  ∀ s1, s1 ∈ L → ∀ b ls, (Dr [⟨.int .i64, e⟩, ⟨.int .i64, p⟩])[b]? = some ls → Aa s1 b = some ls := by
 have := t10_B e p
 rw [h, Option.bind_some, hL, Option.map_some] at this
 have h2 := Option.some.inj this
 intro s1 hs b ls hb
 have h3 : [Aa s1 0, Aa s1 1, Aa s1 2] ∈ L.map (fun s => [Aa s 0, Aa s 1, Aa s 2]) := List.mem_map.2 ⟨s1, hs, rfl⟩
 rw [h2] at h3
 have h4 := List.eq_of_mem_replicate h3
 simp [Dr] at h4
 obtain ⟨g0, g1, g2⟩ := h4
 match b, hb with
 | 0, hb => cases hb; exact g0
 | 1, hb => cases hb; exact g1
 | 2, hb => cases hb; exact g2
set_option maxHeartbeats 1000000 in
theorem clo10_P (kd : Sk) (caps : List Nat) (h : caps.length = 3) : CloP Tryz.prog { g := 10, kd := kd, caps := caps, pt := 39, tp := [.int .i64, .int .i64], pg := true, new := Dr } := by
 intro ks w v ps hps hv hk hn hb hgl
 obtain ⟨e, p, rfl⟩ : ∃ e p : Int, ps = [⟨.int .i64, e⟩, ⟨.int .i64, p⟩] := by
  clear hv hb
  cases ps with
  | nil => cases hps
  | cons a r => cases r with
   | nil => simp [Bq] at hps
   | cons b r2 => cases r2 with
    | cons c r3 => simp [Bq] at hps
    | nil =>
     obtain ⟨t1, e⟩ := a
     obtain ⟨t2, p⟩ := b
     simp [Bq] at hps
     obtain ⟨rfl, rfl⟩ := hps
     exact ⟨e, p, rfl⟩
 obtain ⟨cs0, h0, rfl⟩ := hv
 have hcs : cs0 = [.int .i64 e, .int .i64 p] := by
  cases h0 with
  | cons a r => cases r with
   | cons b r2 =>
    cases r2
    have h1 := a.2 w (fun _ => True)
    have h2 := b.2 w (fun _ => True)
    have h1' : [_] = [Value.int .i64 e] := h1.1
    have h2' : [_] = [Value.int .i64 p] := h2.1
    rw [List.singleton_inj.1 h1', List.singleton_inj.1 h2']
 subst hcs
 have hk2 : ks.length = 3 := hk.trans h
 obtain ⟨k0, k1, k2, rfl⟩ : ∃ k0 k1 k2, ks = [k0, k1, k2] := by
  match ks, hk2 with
  | [x0, x1, x2], _ => exact ⟨x0, x1, x2, rfl⟩
 refine callsD_of_wpS Tryz.func10 rfl fun c₀ cs hu => ?_
 apply wpS_seq
 apply wpS_region
 simp [wpOpsS, go_sem, recoverD, hu, Tryz.ntmps10, Exit.thenS]
 refine wpS_of_wp (wp_block (wp_seq (wp_region_list (wpList_step fun K hK => ?_))))
 rw [if_pos (show Region.wanted _ _ = true from rfl)]
 have heq : ∀ (z : Value) (w : World), (Op.equal 20 (.iface 39 z) .nilIface).run Tryz.prog w = .ok false w := fun z w => Vr 9999 20 _ Tryz.underlying20 39 z
 have heb : ∀ (z : Value) (w : World), (binOp .eql 20 (.iface 39 z) .nilIface).run Tryz.prog w = .ok (.bool false) w := fun z w => by simp [binOp, heq]
 have hgd : ∀ (z : Value) (w : World), (eqGuard .eql 20 (.tmp 6) (.const .nilIface) (.iface 39 z) .nilIface).run Tryz.prog w = .ok () w := fun z w => by unfold eqGuard; simp
 simp [Oper.wp, execOp, Act.eval, hgd, heb, Oper.upon_value]
 refine hK _ _ ?_
 show Exit.then _ _ .normal _ _
 simp only [Exit.then]
 refine wp_cond_false (by simp [Act.eval, Act.put]) ?_
 clear heq heb hgd hK K
 refine wp_seq (wp_region_list (opok (v := .tuple #[.agg #[.int .i64 e, .int .i64 p], .bool true]) (w1 := w) rfl ?_ (opok (v := .bool true) (w1 := w) rfl ?_ (opok (v := .agg #[.int .i64 e, .int .i64 p]) (w1 := w) rfl ?_ (wpList_nil ?_)))))
 ·simp [execOp, Act.eval, Act.put, Instr.typeAssert, run_underlying Tryz.underlying39]
 ·simp [execOp, Act.eval, Act.put, go_sem]
 ·simp [execOp, Act.eval, Act.put, go_sem]
 show Exit.then _ _ .normal _ _
 simp only [Exit.then]
 refine wp_cond_true (by simp [Act.eval, Act.put]) ?_
 obtain ⟨s6, hs6⟩ := Option.isSome_iff_exists.1 (t10_6 e p)
 obtain ⟨L, hL⟩ := Option.isSome_iff_exists.1 (t10_L e p s6 hs6)
 refine W4 (C := cloC 17 3) (c := Agm) (slots := J2 e p) (new := Dr [⟨.int .i64, e⟩, ⟨.int .i64, p⟩]) (fun s => s ∈ L) (fun F G a w Q hH hQ => ?_) rfl hn hb hgl (fun F G hG => ?_) (t10_box e p s6 hs6 L hL) rfl fun a' w' q1 q2 q3 => ?_
 ·obtain ⟨x, s', h1, h2⟩ := Dp (cloE 17 3) (cloD 17 3) (by decide) (by decide) 0 Lo _ cloK s6 hs6
  have hen : x = .normal ∧ s' = s6 := by
   cases x <;> simp [cloK] at h1
   exact ⟨rfl, h1⟩
  obtain ⟨rfl, rfl⟩ := hen
  show Code.wp Tryz.prog (.seq Lo (.region 7 Gp true)) Q a w
  refine wp_seq (h2 F G a w _ hH fun G1 a1 w1 x k0 k1 k2 k3 => ?_)
  cases k0
  exact At2 (C := cloC 17 3) (by kernel_rfl) (cloE 17 3) hL k1 fun sf hsf G2 a2 w2 m1 m2 m3 => hQ sf hsf G2 a2 w2 m1 (k2.trans (m2.le (by decide) (by decide))) (m3.trans k3)
 ·have e0 := hG 0 k0 rfl
  have e1 := hG 1 k1 rfl
  have e2 := hG 2 k2 rfl
  generalize hX : Array.toList _ = vs
  have hv2 : vs = [.pointer (some ⟨k0, 0, none⟩), .pointer (some ⟨k1, 0, none⟩), .pointer (some ⟨k2, 0, none⟩), undef, undef, undef, .iface 39 (.agg #[.int .i64 e, .int .i64 p]), undef, .bool false, .tuple #[.agg #[.int .i64 e, .int .i64 p], .bool true], .bool true, .agg #[.int .i64 e, .int .i64 p], undef, undef, undef, undef, undef] := by
   rw [← hX]; kernel_rfl
  subst hv2
  have hagg : HA (HR F (cloS (J2 e p) (Dr [⟨.int .i64, e⟩, ⟨.int .i64, p⟩])) G w) (.cv (.agg [.pv ⟨.int .i64, e⟩, .pv ⟨.int .i64, p⟩])) (.agg #[.int .i64 e, .int .i64 p]) := by
   refine ⟨_, rfl, ?_⟩
   cases h0 with
   | cons a r => cases r with
    | cons b r2 =>
     have ha := a.2 w (okS F (cloS (J2 e p) (Dr [⟨.int .i64, e⟩, ⟨.int .i64, p⟩])) G w)
     have hb := b.2 w (okS F (cloS (J2 e p) (Dr [⟨.int .i64, e⟩, ⟨.int .i64, p⟩])) G w)
     exact All2.cons ha (All2.cons hb All2.nil)
  have hd : ∀ v, HA (HR F (cloS (J2 e p) (Dr [⟨.int .i64, e⟩, ⟨.int .i64, p⟩])) G w) .dead v := fun v => trivial
  have hp : ∀ i k, G.bx i = k → HA (HR F (cloS (J2 e p) (Dr [⟨.int .i64, e⟩, ⟨.int .i64, p⟩])) G w) (lf (.ptr i 0)) (.pointer (some ⟨k, 0, none⟩)) := fun i k h => by
   show Value.pointer (some ⟨k, 0, none⟩) = .pointer (some ⟨G.bx i, 0, none⟩)
   rw [h]
  exact .cons (hp 0 k0 e0) (.cons (hp 1 k1 e1) (.cons (hp 2 k2 e2) (.cons (hd _) (.cons (hd _) (.cons (hd _) (.cons (hd _) (.cons (hd _) (.cons (hd _) (.cons (hd _) (.cons (hd _) (.cons hagg (.cons (hd _) (.cons (hd _) (.cons (hd _) (.cons (hd _) (.cons (hd _) .nil))))))))))))))))
 ·have q4 : a'.defers = [] := by rw [q3]; simp only [Fm]
  clear q3 hs6 hL
  cases c₀
  simp_all [bodyPostS, results, Tryz.results10, Exit.inBlock]
def Ds (ps : List PL) : List (List L) := match ps with
 | [⟨.int .i64, e⟩, ⟨.int .i64, p⟩] => [[.pv ⟨.int .i64, (0 : Int)⟩, .cst .sl, .pv ⟨.int .i64, (0 : Int)⟩, .pv ⟨.int .i64, (0 : Int)⟩, .pv ⟨.int .i64, (0 : Int)⟩, .pv ⟨.int .i64, (0 : Int)⟩, .pv ⟨.bool, false⟩, .pv ⟨.int .i64, (0 : Int)⟩], [.pv ⟨.int .i64, e⟩], [.pv ⟨.int .i64, p⟩]]
 | _ => []
set_option maxHeartbeats 2000000 in
theorem clo16_R (kd : Sk) (caps : List Nat) (h : caps.length = 3) : CloR Tryz.prog { g := 16, kd := kd, caps := caps, pt := 58, tp := [.int .i64, .int .i64], pg := true, new := Ds } := by
 intro args w hs
 refine ⟨⟨Tryz.f16, by kernel_rfl, by kernel_rfl, by kernel_rfl⟩, callsD_of_wpS Tryz.func16 rfl fun c₀ cs hu => ?_⟩
 have hs2 : args.size = 3 := hs.trans h
 obtain ⟨x0, x1, x2, rfl⟩ : ∃ x0 x1 x2, args = #[x0, x1, x2] := by
  rcases args with ⟨l⟩
  match l, hs2 with
  | [x0, x1, x2], _ => exact ⟨x0, x1, x2, rfl⟩
 apply wpS_seq
 apply wpS_region
 simp [wpOpsS, go_sem, recoverD, hu, Tryz.ntmps16, Exit.thenS]
 refine wpS_of_wp ?_
 go_wp2
 cases c₀
 simp_all [bodyPostS, results, Tryz.results16]
noncomputable def Ago : Code := match Bs Tryz.f16 with
 | .seq _ (.block _ (.seq _ (.cond _ _ (.seq _ (.cond _ c _))))) => c
 | _ => .skip
def J3 (e p : Int) : List AV := [lf (.ptr 0 0), lf (.ptr 1 0), lf (.ptr 2 0), .dead, .dead, .dead, .dead, .dead, .dead, .dead, .dead, .cv (.agg [.pv ⟨.int .i64, e⟩, .pv ⟨.int .i64, p⟩]), .dead, .dead, .dead, .dead, .dead]
noncomputable def Lp : Code := match Ago with | .seq a _ => a | _ => .skip
noncomputable def Gq : Array Oper := match Ago with | .seq _ (.region _ ops _) => ops | _ => #[]
def s16 (e p : Int) : St := cloS (J3 e p) (Ds [⟨.int .i64, e⟩, ⟨.int .i64, p⟩])
theorem t16_6 (e p : Int) : (ev (cloC 17 3) 0 Lp (s16 e p) cloK).isSome = true := by kernel_rfl
theorem t16_B (e p : Int) : ((ev (cloC 17 3) 0 Lp (s16 e p) cloK).bind fun s6 => (anyF (cloC 17 3) Gq Gq.size (Array.replicate Gq.size false) s6).map fun L => L.map fun s => [Aa s 0, Aa s 1, Aa s 2]) = some (List.replicate 126 ((Ds [⟨.int .i64, e⟩, ⟨.int .i64, p⟩]).map some)) := by kernel_rfl
theorem t16_L (e p : Int) (s6 : St) (h : ev (cloC 17 3) 0 Lp (s16 e p) cloK = some s6) : (anyF (cloC 17 3) Gq Gq.size (Array.replicate Gq.size false) s6).isSome = true := by
 have := t16_B e p
 rw [h, Option.bind_some] at this
 obtain ⟨L, h1, _⟩ := Option.map_eq_some_iff.1 this
 rw [h1]; rfl
theorem t16_box (e p : Int) (s6 : St) (h : ev (cloC 17 3) 0 Lp (s16 e p) cloK = some s6) (L : List St) (hL : anyF (cloC 17 3) Gq Gq.size (Array.replicate Gq.size false) s6 = some L) :
  ∀ s1, s1 ∈ L → ∀ b ls, (Ds [⟨.int .i64, e⟩, ⟨.int .i64, p⟩])[b]? = some ls → Aa s1 b = some ls := by
 have := t16_B e p
 rw [h, Option.bind_some, hL, Option.map_some] at this
 have h2 := Option.some.inj this
 intro s1 hs b ls hb
 have h3 : [Aa s1 0, Aa s1 1, Aa s1 2] ∈ L.map (fun s => [Aa s 0, Aa s 1, Aa s 2]) := List.mem_map.2 ⟨s1, hs, rfl⟩
 rw [h2] at h3
 have h4 := List.eq_of_mem_replicate h3
 simp [Ds] at h4
 obtain ⟨g0, g1, g2⟩ := h4
 match b, hb with
 | 0, hb => cases hb; exact g0
 | 1, hb => cases hb; exact g1
 | 2, hb => cases hb; exact g2
set_option maxHeartbeats 1000000 in
theorem clo16_P (kd : Sk) (caps : List Nat) (h : caps.length = 3) : CloP Tryz.prog { g := 16, kd := kd, caps := caps, pt := 58, tp := [.int .i64, .int .i64], pg := true, new := Ds } := by
 intro ks w v ps hps hv hk hn hb hgl
 obtain ⟨e, p, rfl⟩ : ∃ e p : Int, ps = [⟨.int .i64, e⟩, ⟨.int .i64, p⟩] := by
  clear hv hb
  cases ps with
  | nil => cases hps
  | cons a r => cases r with
   | nil => simp [Bq] at hps
   | cons b r2 => cases r2 with
    | cons c r3 => simp [Bq] at hps
    | nil =>
     obtain ⟨t1, e⟩ := a
     obtain ⟨t2, p⟩ := b
     simp [Bq] at hps
     obtain ⟨rfl, rfl⟩ := hps
     exact ⟨e, p, rfl⟩
 obtain ⟨cs0, h0, rfl⟩ := hv
 have hcs : cs0 = [.int .i64 e, .int .i64 p] := by
  cases h0 with
  | cons a r => cases r with
   | cons b r2 =>
    cases r2
    have h1 := a.2 w (fun _ => True)
    have h2 := b.2 w (fun _ => True)
    have h1' : [_] = [Value.int .i64 e] := h1.1
    have h2' : [_] = [Value.int .i64 p] := h2.1
    rw [List.singleton_inj.1 h1', List.singleton_inj.1 h2']
 subst hcs
 have hk2 : ks.length = 3 := hk.trans h
 obtain ⟨k0, k1, k2, rfl⟩ : ∃ k0 k1 k2, ks = [k0, k1, k2] := by
  match ks, hk2 with
  | [x0, x1, x2], _ => exact ⟨x0, x1, x2, rfl⟩
 refine callsD_of_wpS Tryz.func16 rfl fun c₀ cs hu => ?_
 apply wpS_seq
 apply wpS_region
 simp [wpOpsS, go_sem, recoverD, hu, Tryz.ntmps16, Exit.thenS]
 refine wpS_of_wp (wp_block (wp_seq (wp_region_list (wpList_step fun K hK => ?_))))
 rw [if_pos (show Region.wanted _ _ = true from rfl)]
 have heq : ∀ (z : Value) (w : World), (Op.equal 20 (.iface 58 z) .nilIface).run Tryz.prog w = .ok false w := fun z w => Vr 9999 20 _ Tryz.underlying20 58 z
 have heb : ∀ (z : Value) (w : World), (binOp .eql 20 (.iface 58 z) .nilIface).run Tryz.prog w = .ok (.bool false) w := fun z w => by simp [binOp, heq]
 have hgd : ∀ (z : Value) (w : World), (eqGuard .eql 20 (.tmp 6) (.const .nilIface) (.iface 58 z) .nilIface).run Tryz.prog w = .ok () w := fun z w => by unfold eqGuard; simp
 simp [Oper.wp, execOp, Act.eval, hgd, heb, Oper.upon_value]
 refine hK _ _ ?_
 show Exit.then _ _ .normal _ _
 simp only [Exit.then]
 refine wp_cond_false (by simp [Act.eval, Act.put]) ?_
 clear heq heb hgd hK K
 refine wp_seq (wp_region_list (opok (v := .tuple #[.agg #[.int .i64 e, .int .i64 p], .bool true]) (w1 := w) rfl ?_ (opok (v := .bool true) (w1 := w) rfl ?_ (opok (v := .agg #[.int .i64 e, .int .i64 p]) (w1 := w) rfl ?_ (wpList_nil ?_)))))
 ·simp [execOp, Act.eval, Act.put, Instr.typeAssert, run_underlying Tryz.underlying58]
 ·simp [execOp, Act.eval, Act.put, go_sem]
 ·simp [execOp, Act.eval, Act.put, go_sem]
 show Exit.then _ _ .normal _ _
 simp only [Exit.then]
 refine wp_cond_true (by simp [Act.eval, Act.put]) ?_
 obtain ⟨s6, hs6⟩ := Option.isSome_iff_exists.1 (t16_6 e p)
 obtain ⟨L, hL⟩ := Option.isSome_iff_exists.1 (t16_L e p s6 hs6)
 refine W4 (C := cloC 17 3) (c := Ago) (slots := J3 e p) (new := Ds [⟨.int .i64, e⟩, ⟨.int .i64, p⟩]) (fun s => s ∈ L) (fun F G a w Q hH hQ => ?_) rfl hn hb hgl (fun F G hG => ?_) (t16_box e p s6 hs6 L hL) rfl fun a' w' q1 q2 q3 => ?_
 ·obtain ⟨x, s', h1, h2⟩ := Dp (cloE 17 3) (cloD 17 3) (by decide) (by decide) 0 Lp _ cloK s6 hs6
  have hen : x = .normal ∧ s' = s6 := by
   cases x <;> simp [cloK] at h1
   exact ⟨rfl, h1⟩
  obtain ⟨rfl, rfl⟩ := hen
  show Code.wp Tryz.prog (.seq Lp (.region 7 Gq true)) Q a w
  refine wp_seq (h2 F G a w _ hH fun G1 a1 w1 x k0 k1 k2 k3 => ?_)
  cases k0
  exact At2 (C := cloC 17 3) (by kernel_rfl) (cloE 17 3) hL k1 fun sf hsf G2 a2 w2 m1 m2 m3 => hQ sf hsf G2 a2 w2 m1 (k2.trans (m2.le (by decide) (by decide))) (m3.trans k3)
 ·have e0 := hG 0 k0 rfl
  have e1 := hG 1 k1 rfl
  have e2 := hG 2 k2 rfl
  generalize hX : Array.toList _ = vs
  have hv2 : vs = [.pointer (some ⟨k0, 0, none⟩), .pointer (some ⟨k1, 0, none⟩), .pointer (some ⟨k2, 0, none⟩), undef, undef, undef, .iface 58 (.agg #[.int .i64 e, .int .i64 p]), undef, .bool false, .tuple #[.agg #[.int .i64 e, .int .i64 p], .bool true], .bool true, .agg #[.int .i64 e, .int .i64 p], undef, undef, undef, undef, undef] := by
   rw [← hX]; kernel_rfl
  subst hv2
  have hagg : HA (HR F (cloS (J3 e p) (Ds [⟨.int .i64, e⟩, ⟨.int .i64, p⟩])) G w) (.cv (.agg [.pv ⟨.int .i64, e⟩, .pv ⟨.int .i64, p⟩])) (.agg #[.int .i64 e, .int .i64 p]) := by
   refine ⟨_, rfl, ?_⟩
   cases h0 with
   | cons a r => cases r with
    | cons b r2 =>
     have ha := a.2 w (okS F (cloS (J3 e p) (Ds [⟨.int .i64, e⟩, ⟨.int .i64, p⟩])) G w)
     have hb := b.2 w (okS F (cloS (J3 e p) (Ds [⟨.int .i64, e⟩, ⟨.int .i64, p⟩])) G w)
     exact All2.cons ha (All2.cons hb All2.nil)
  have hd : ∀ v, HA (HR F (cloS (J3 e p) (Ds [⟨.int .i64, e⟩, ⟨.int .i64, p⟩])) G w) .dead v := fun v => trivial
  have hp : ∀ i k, G.bx i = k → HA (HR F (cloS (J3 e p) (Ds [⟨.int .i64, e⟩, ⟨.int .i64, p⟩])) G w) (lf (.ptr i 0)) (.pointer (some ⟨k, 0, none⟩)) := fun i k h => by
   show Value.pointer (some ⟨k, 0, none⟩) = .pointer (some ⟨G.bx i, 0, none⟩)
   rw [h]
  exact .cons (hp 0 k0 e0) (.cons (hp 1 k1 e1) (.cons (hp 2 k2 e2) (.cons (hd _) (.cons (hd _) (.cons (hd _) (.cons (hd _) (.cons (hd _) (.cons (hd _) (.cons (hd _) (.cons (hd _) (.cons hagg (.cons (hd _) (.cons (hd _) (.cons (hd _) (.cons (hd _) (.cons (hd _) .nil))))))))))))))))
 ·have q4 : a'.defers = [] := by rw [q3]; simp only [Fm]
  clear q3 hs6 hL
  cases c₀
  simp_all [bodyPostS, results, Tryz.results16, Exit.inBlock]
set_option maxHeartbeats 4000000
set_option maxRecDepth 100000
noncomputable section
abbrev yt0 : Ty := (.cons (.int .i64) (.cons .str (.cons (.int .i64) (.cons (.int .i64) .nil))))
abbrev YT0 : Type := (Int) × ((List Int) × ((Int) × ((Int) × (Unit))))
abbrev zt0 : YT0 := ((0 : Int), ([], ((0 : Int), ((0 : Int), ()))))
abbrev yt1 : Ty := (.cons .str (.cons (.int .i64) (.cons (.int .i64) .nil)))
abbrev YT1 : Type := (List Int) × ((Int) × ((Int) × (Unit)))
abbrev zt1 : YT1 := ([], ((0 : Int), ((0 : Int), ())))
abbrev yt2 : Ty := (.cons .str (.cons (.int .i64) (.cons (.int .i64) (.cons (.int .i64) (.cons (.slice yt1) .nil)))))
abbrev YT2 : Type := (List Int) × ((Int) × ((Int) × ((Int) × ((List (YT1)) × (Unit)))))
abbrev zt2 : YT2 := ([], ((0 : Int), ((0 : Int), ((0 : Int), ([], ())))))
abbrev yt3 : Ty := (.cons (.int .i64) (.cons (.int .i64) .nil))
abbrev YT3 : Type := (Int) × ((Int) × (Unit))
abbrev zt3 : YT3 := ((0 : Int), ((0 : Int), ()))
abbrev yt4 : Ty := (.cons .str (.cons (.int .i64) (.cons (.slice (.cons (.slice (.slice yt2)) .nil)) (.cons yt3 .nil))))
abbrev YT4 : Type := (List Int) × ((Int) × ((List ((List (List (YT2))) × (Unit))) × ((YT3) × (Unit))))
abbrev zt4 : YT4 := ([], ((0 : Int), ([], (zt3, ()))))
theorem Ad : Tryz.prog.follows .mixedOrders = true := by kernel_rfl
noncomputable def mkC (l : EnvL) (n b o : Nat) : Cfg := { P := Tryz.prog, env := Ed l, n := n, npB := b, npO := o }
def q0 : List SL := [.pv .str, .pv (.int .i64), .pv (.slice (.cons (.slice (.slice yt2)) .nil)), .pv (.int .i64), .pv (.int .i64)]
def flexkindi : Sk := ⟨[.lf (.pv (.int .u8))], [], []⟩
def flexkindo : Sk := ⟨[.lf (.pv (.int .i64))], [], []⟩
def Al5 : Sk := ⟨sparse 36 [(17, .lf (.pv (.int .u8)))], [], []⟩
abbrev A5u := Int
def Kx : A5u → St := stOf Al5 84
def Al6 : Sk := ⟨sparse 36 [(17, .lf (.pv (.int .u8)))], [], []⟩
abbrev A5v := Int
def Abg : A5v → St := stOf Al6 84
def flexkind (k : Nat) : FnX Int := mkX ({ mkC [] 84 0 0 with hint := fun i => look none [(10, some Al5), (14, some Al6)] i }) k Tryz.f78 flexkindo
def clexkind (k : Nat) : Int → Option Int := hid (Ah (flexkind k).C k Tryz.f78 flexkindi flexkindo)
def sglexkind (k : Nat) : Sig := Ag flexkindi flexkindo (clexkind k)
noncomputable def Abh (k : Nat) (J : JF Int) (L : LF Int) : Int → Option Int
 | a0 => bif (decide ((97 : Int) ≤ a0)) then (bif (decide (a0 ≤ (122 : Int))) then (some (3 : Int)) else (bif (decide ((48 : Int) ≤ a0)) then (bif (decide (a0 ≤ (57 : Int))) then (some (4 : Int)) else (bif (a0 == (32 : Int)) then (some (1 : Int)) else (bif (a0 == (9 : Int)) then (some (1 : Int)) else (bif (a0 == (10 : Int)) then (some (1 : Int)) else (bif (a0 == (13 : Int)) then (some (1 : Int)) else (J 10 [] (Kx (a0)))))))) else (bif (a0 == (32 : Int)) then (some (1 : Int)) else (bif (a0 == (9 : Int)) then (some (1 : Int)) else (bif (a0 == (10 : Int)) then (some (1 : Int)) else (bif (a0 == (13 : Int)) then (some (1 : Int)) else (J 10 [] (Kx (a0))))))))) else (bif (decide ((48 : Int) ≤ a0)) then (bif (decide (a0 ≤ (57 : Int))) then (some (4 : Int)) else (bif (a0 == (32 : Int)) then (some (1 : Int)) else (bif (a0 == (9 : Int)) then (some (1 : Int)) else (bif (a0 == (10 : Int)) then (some (1 : Int)) else (bif (a0 == (13 : Int)) then (some (1 : Int)) else (J 10 [] (Kx (a0)))))))) else (bif (a0 == (32 : Int)) then (some (1 : Int)) else (bif (a0 == (9 : Int)) then (some (1 : Int)) else (bif (a0 == (10 : Int)) then (some (1 : Int)) else (bif (a0 == (13 : Int)) then (some (1 : Int)) else (J 10 [] (Kx (a0))))))))
theorem A5w (k : Nat) (x : Int) : clexkind k x = Abh k (flexkind k).J (flexkind k).L x := by
 refine (Ae _ _).trans ?_; apply cutX (flexkind k) [] [] (st0 (flexkind k).C Tryz.f78 flexkindi x) [(10, []), (14, [])] [] (Abh k · · x) <;> intros <;> kernel_rfl
noncomputable def Abi (k : Nat) (J : JF Int) (L : LF Int) : Int → Option Int
 | a0 => bif (a0 == (35 : Int)) then (some (2 : Int)) else (bif (a0 == (95 : Int)) then (some (6 : Int)) else (bif (a0 == (123 : Int)) then (some (5 : Int)) else (bif (a0 == (125 : Int)) then (some (5 : Int)) else (J 14 [] (Abg (a0))))))
theorem A5x (k : Nat) (x : Int) : (flexkind k).J 10 [] (Kx x) = Abi k (flexkind k).J (flexkind k).L x := by
 apply cutX (flexkind k) [.r, .r, .l, .r, .b, .l, .b, .b, .l, .b, .l, .b, .l, .b, .l, .r] [] (Kx x) [(10, []), (14, [])] [] (Abi k · · x) <;> intros <;> kernel_rfl
noncomputable def Abj (k : Nat) (J : JF Int) (L : LF Int) : Int → Option Int
 | a0 => bif (a0 == (44 : Int)) then (some (5 : Int)) else (bif (a0 == (59 : Int)) then (some (5 : Int)) else (bif (a0 == (58 : Int)) then (some (5 : Int)) else (bif (a0 == (47 : Int)) then (some (5 : Int)) else (bif (a0 == (45 : Int)) then (some (5 : Int)) else (some (0 : Int))))))
theorem A5y (k : Nat) (x : Int) : (flexkind k).J 14 [] (Abg x) = Abj k (flexkind k).J (flexkind k).L x := by
 apply cutX (flexkind k) [.r, .r, .l, .r, .b, .l, .b, .b, .l, .b, .l, .b, .l, .b, .l, .r, .r, .r, .r] [] (Abg x) [(10, []), (14, [])] [] (Abj k · · x) <;> intros <;> kernel_rfl
theorem Ah2 (k : Nat) : Ac Tryz.prog 78 (sglexkind k) := Aj (flexkind k).C (l := []) k rfl trivial Ad Tryz.func78 (by kernel_rfl)
abbrev H0 : Type := (Int) × (List (Int)) × (Int)
def Abk : Sk := ⟨[.lf (.ptr 0 0)], [[.pv (.slice (.int .u8)), .pv (.int .i64)]], []⟩
def Amd : Sk := ⟨[.lf (.pv (.int .i64))], Abk.boxes, []⟩
def A51 (k : Nat) : EnvL := [(78, [sglexkind k])]
def Amb (k : Nat) : Cfg := mkC (A51 k) 62 1 0
def M1 (k : Nat) : ((List (Int)) × (Int)) → Option H0 := hid (Ah (Amb k) k Tryz.f51 Abk Amd)
def Af9 (k : Nat) : Sig := Ag Abk Amd (M1 k)
noncomputable def Amc (k : Nat) : ((List (Int)) × (Int)) → Option H0
 | (a0, a1) => bif (inB a1 (List.length a0)) then ((clexkind k) ((rdI a0 (Int.toNat a1)))).bind fun o1 => some (o1, a0, a1) else none
theorem A52 (k : Nat) (x : ((List (Int)) × (Int))) : M1 k x = Amc k x := (Ae _ _).trans (by kernel_rfl)
theorem Ah4 (k : Nat) : Ac Tryz.prog 51 (Af9 k) := Aj (Amb k) k rfl ⟨⟨Ah2 k, trivial⟩, trivial⟩ Ad Tryz.func51 (by kernel_rfl)
abbrev H1 : Type := (List (Int)) × (Int) × (Int) × (Int)
def Aax : Sk := ⟨[.lf (.pv (.slice (.int .u8))), .lf (.pv (.int .u8))], [], []⟩
def Aay : Sk := ⟨[.lf (.pv (.int .i64))], [], []⟩
def Als : Sk := ⟨sparse 19 [(0, .lf (.pv (.slice (.int .u8)))), (1, .lf (.pv (.int .u8))), (7, .lf (.pv (.int .i64))), (8, .lf (.pv (.int .i64)))], [], []⟩
abbrev Aau := H1
def Om : Aau → St := stOf Als 67
def E3 (k : Nat) : FnX Int := mkX ({ mkC [] 67 0 0 with hint := fun i => look none [(2, some Als)] i }) k Tryz.f52 Aay
def Q2 (k : Nat) : ((List (Int)) × (Int)) → Option Int := hid (Ah (E3 k).C k Tryz.f52 Aax Aay)
def Avq (k : Nat) : Sig := Ag Aax Aay (Q2 k)
noncomputable def Aav (k : Nat) (J : JF Int) (L : LF Int) : ((List (Int)) × (Int)) → Option Int
 | (a0, a1) => L 2 [] k (Om (a0, a1, ((List.length a0 : Nat) : Int), (0 : Int)))
theorem A5e (k : Nat) (x : ((List (Int)) × (Int))) : Q2 k x = Aav k (E3 k).J (E3 k).L x := by
 refine (Ae _ _).trans ?_; apply cutX (E3 k) [] [] (st0 (E3 k).C Tryz.f52 Aax x) [] [(2, [], k)] (Aav k · · x) <;> intros <;> kernel_rfl
noncomputable def Aaw (k j2 : Nat) (J : JF Int) (L : LF Int) : Aau → Option Int
 | (a0, a1, a2, a3) => bif (decide (a3 < a2)) then (bif (inB a3 (List.length a0)) then bif (a1 == (rdI a0 (Int.toNat a3))) then (some a3) else (L 2 [] j2 (Om (a0, a1, a2, (IntKind.wrap .i64 (a3 + (1 : Int)))))) else none) else (some (-1 : Int))
theorem A5f (k j2 : Nat) (x : Aau) : (E3 k).L 2 [] (j2 + 1) (Om x) = Aaw k j2 (E3 k).J (E3 k).L x := by
 apply cutX (E3 k) [.r, .l, .r, .b, .b] [j2] (Om x) [] [(2, [], j2)] (Aaw k j2 · · x) <;> intros <;> kernel_rfl
theorem Az3 (k : Nat) : Ac Tryz.prog 52 (Avq k) := Aj (E3 k).C (l := []) k rfl trivial Ad Tryz.func52 (by kernel_rfl)
def Tn : Sk := ⟨[.lf (.ptr 0 0)], [[.pv (.slice (.int .u8)), .pv (.int .i64)]], []⟩
def Abv : Sk := ⟨[], Tn.boxes, []⟩
def Amp : Sk := ⟨sparse 54 [(0, .lf (.ptr 0 0))], [[.pv (.slice (.int .u8)), .pv (.int .i64)]], []⟩
abbrev Abs := ((List (Int)) × (Int))
def Je : Abs → St := stOf Amp 102
def A6c (k : Nat) : EnvL := [(51, [Af9 k]), (52, [Avq k])]
def E7 (k : Nat) : FnX ((List (Int)) × (Int)) := mkX ({ mkC (A6c k) 102 1 0 with hint := fun i => look none [(0, some Amp)] i }) k Tryz.f24 Abv
def Q7 (k : Nat) : ((List (Int)) × (Int)) → Option ((List (Int)) × (Int)) := hid (Ah (E7 k).C k Tryz.f24 Tn Abv)
def Avw (k : Nat) : Sig := Ag Tn Abv (Q7 k)
noncomputable def Abt (k : Nat) (J : JF ((List (Int)) × (Int))) (L : LF ((List (Int)) × (Int))) : ((List (Int)) × (Int)) → Option ((List (Int)) × (Int))
 | (a0, a1) => L 0 [] k (Je (a0, a1))
theorem A6d (k : Nat) (x : ((List (Int)) × (Int))) : Q7 k x = Abt k (E7 k).J (E7 k).L x := by
 refine (Ae _ _).trans ?_; apply cutX (E7 k) [] [] (st0 (E7 k).C Tryz.f24 Tn x) [] [(0, [], k)] (Abt k · · x) <;> intros <;> kernel_rfl
noncomputable def Abu (k j0 : Nat) (J : JF ((List (Int)) × (Int))) (L : LF ((List (Int)) × (Int))) : Abs → Option ((List (Int)) × (Int))
 | (a0, a1) => bif (decide (a1 < ((List.length a0 : Nat) : Int))) then (((M1 k) (a0, a1)).bind fun o1 => bif (o1.1 == (2 : Int)) then (bif (cutB o1.2.2 (((List.length o1.2.1) : Nat) : Int) (List.length o1.2.1)) then ((Q2 k) ((cutL o1.2.1 o1.2.2 (((List.length o1.2.1) : Nat) : Int)), (10 : Int))).bind fun o2 => bif (decide (o2 ≥ (0 : Int))) then (L 0 [] j0 (Je (o1.2.1, (IntKind.wrap .i64 (o1.2.2 + o2))))) else (L 0 [] j0 (Je (o1.2.1, ((List.length o1.2.1 : Nat) : Int)))) else none) else (bif (o1.1 == (1 : Int)) then (L 0 [] j0 (Je (o1.2.1, (IntKind.wrap .i64 (o1.2.2 + (1 : Int)))))) else (some (o1.2.1, o1.2.2)))) else (some (a0, a1))
theorem A6e (k j0 : Nat) (x : Abs) : (E7 k).L 0 [] (j0 + 1) (Je x) = Abu k j0 (E7 k).J (E7 k).L x := by
 apply cutX (E7 k) [.b, .b] [j0] (Je x) [] [(0, [], j0)] (Abu k j0 · · x) <;> intros <;> kernel_rfl
theorem A0a (k : Nat) : Ac Tryz.prog 24 (Avw k) := Aj (E7 k).C k rfl ⟨⟨Ah4 k, trivial⟩, ⟨Az3 k, trivial⟩, trivial⟩ Ad Tryz.func24 (by kernel_rfl)
def Al9 : Sk := ⟨[.lf (.rpt [(.slice (.int .u8)), (.int .i64)])], [], []⟩
def Ama : Sk := ⟨[.lf (.pv (.int .i64))], [], []⟩
def A5z (k : Nat) : EnvL := [(78, [sglexkind k])]
def Al7 (k : Nat) : Cfg := mkC (A5z k) 62 0 0
def Kh (k : Nat) : ((List (Int)) × (Int)) → Option Int := hid (Ah (Al7 k) k Tryz.f51 Al9 Ama)
def Aga (k : Nat) : Sig := Ag Al9 Ama (Kh k)
noncomputable def Al8 (k : Nat) : ((List (Int)) × (Int)) → Option Int
 | (a0, a1) => bif (inB a1 (List.length a0)) then ((clexkind k) ((rdI a0 (Int.toNat a1)))).bind fun o1 => some o1 else none
theorem A50 (k : Nat) (x : ((List (Int)) × (Int))) : Kh k x = Al8 k x := (Ae _ _).trans (by kernel_rfl)
theorem Ah3 (k : Nat) : Ac Tryz.prog 51 (Aga k) := Aj (Al7 k) k rfl ⟨⟨Ah2 k, trivial⟩, trivial⟩ Ad Tryz.func51 (by kernel_rfl)
def Amw : Sk := ⟨[.lf (.pv (.int .i64))], [], []⟩
def Amx : Sk := ⟨[.lf (.pv .bool)], [], []⟩
def Amu (k : Nat) : Cfg := mkC [] 61 0 0
def Q9 (k : Nat) : Int → Option Bool := hid (Ah (Amu k) k Tryz.f80 Amw Amx)
def Avz (k : Nat) : Sig := Ag Amw Amx (Q9 k)
noncomputable def Amv (k : Nat) : Int → Option Bool
 | a0 => bif (a0 == (3 : Int)) then (some true) else (bif (a0 == (4 : Int)) then (some true) else (some (a0 == (6 : Int))))
theorem A6i (k : Nat) (x : Int) : Q9 k x = Amv k x := (Ae _ _).trans (by kernel_rfl)
theorem A0c (k : Nat) : Ac Tryz.prog 80 (Avz k) := Aj (Amu k) (l := []) k rfl trivial Ad Tryz.func80 (by kernel_rfl)
abbrev H2 : Type := (List Int) × (List (Int)) × (Int)
def Tm : Sk := ⟨[.lf (.ptr 0 0), .lf (.fn 80 [] [])], [[.pv (.slice (.int .u8)), .pv (.int .i64)]], []⟩
def Abr : Sk := ⟨[.lf (.pv .str)], Tm.boxes, []⟩
def Amn : Sk := ⟨sparse 44 [(0, .lf (.ptr 0 0)), (1, .lf (.fn 80 [] [])), (5, .lf (.pv (.int .i64)))], [[.pv (.slice (.int .u8)), .pv (.int .i64)]], []⟩
abbrev Abp := H0
def Ot : Abp → St := stOf Amn 92
def A59 (k : Nat) : EnvL := [(51, [Aga k]), (80, [Avz k])]
def E5 (k : Nat) : FnX H2 := mkX ({ mkC (A59 k) 92 1 0 with hint := fun i => look none [(2, some Amn)] i }) k Tryz.f79 Abr
def Q5 (k : Nat) : ((List (Int)) × (Int)) → Option H2 := hid (Ah (E5 k).C k Tryz.f79 Tm Abr)
def Avu (k : Nat) : Sig := Ag Tm Abr (Q5 k)
noncomputable def Abq (k : Nat) (J : JF H2) (L : LF H2) : ((List (Int)) × (Int)) → Option H2
 | (a0, a1) => L 2 [] k (Ot (a1, a0, a1))
theorem A6a (k : Nat) (x : ((List (Int)) × (Int))) : Q5 k x = Abq k (E5 k).J (E5 k).L x := by
 refine (Ae _ _).trans ?_; apply cutX (E5 k) [] [] (st0 (E5 k).C Tryz.f79 Tm x) [] [(2, [], k)] (Abq k · · x) <;> intros <;> kernel_rfl
noncomputable def Amo (k j2 : Nat) (J : JF H2) (L : LF H2) : Abp → Option H2
 | (a0, a1, a2) => bif (decide (a2 < ((List.length a1 : Nat) : Int))) then (((Kh k) (a1, a2)).bind fun o1 => ((Q9 k) (o1)).bind fun o2 => bif o2 then (L 2 [] j2 (Ot (a0, a1, (IntKind.wrap .i64 (a2 + (1 : Int)))))) else (bif (cutB a0 a2 (List.length a1)) then some ((cutL a1 a0 a2), a1, a2) else none)) else (bif (cutB a0 a2 (List.length a1)) then some ((cutL a1 a0 a2), a1, a2) else none)
theorem A6b (k j2 : Nat) (x : Abp) : (E5 k).L 2 [] (j2 + 1) (Ot x) = Amo k j2 (E5 k).J (E5 k).L x := by
 apply cutX (E5 k) [.r, .r, .l, .b, .b] [j2] (Ot x) [] [(2, [], j2)] (Amo k j2 · · x) <;> intros <;> kernel_rfl
theorem Az9 (k : Nat) : Ac Tryz.prog 79 (Avu k) := Aj (E5 k).C k rfl ⟨⟨Ah3 k, trivial⟩, ⟨A0c k, trivial⟩, trivial⟩ Ad Tryz.func79 (by kernel_rfl)
abbrev H3 : Type := (Int) × (List Int) × (Int) × (Int) × (Int) × (List (Int)) × (Int)
def Abx : Sk := ⟨[.lf (.ptr 0 0)], [[.pv (.slice (.int .u8)), .pv (.int .i64)]], []⟩
def Amz : Sk := ⟨[.agg [.pv (.int .i64), .pv .str, .pv (.int .i64), .pv (.int .i64)], .lf (.pv (.int .i64))], Abx.boxes, []⟩
def A6h (k : Nat) : EnvL := [(79, [Avu k])]
def Amt (k : Nat) : Cfg := { mkC (A6h k) 61 1 0 with bl := [66, 68] }
def W2 (k : Nat) : ((List (Int)) × (Int)) → Option H3 := hid (Ah (Amt k) k Tryz.f53 Abx Amz)
def Avy (k : Nat) : Sig := Ag Abx Amz (W2 k)
noncomputable def Amy (k : Nat) : ((List (Int)) × (Int)) → Option H3
 | (a0, a1) => ((Q5 k) (a0, a1)).bind fun o1 => bif (decide (((List.length o1.1 : Nat) : Int) > (24 : Int))) then (some ((0 : Int), ([] : List Int), (0 : Int), (0 : Int), (4 : Int), o1.2.1, o1.2.2)) else (some ((1 : Int), o1.1, (0 : Int), (0 : Int), (0 : Int), o1.2.1, o1.2.2))
theorem A6j (k : Nat) (x : ((List (Int)) × (Int))) : W2 k x = Amy k x := (Ae _ _).trans (by kernel_rfl)
theorem A0d (k : Nat) : Ac Tryz.prog 53 (Avy k) := Aj (Amt k) k rfl ⟨⟨Az9 k, trivial⟩, trivial⟩ Ad Tryz.func53 (by kernel_rfl)
def Amh : Sk := ⟨[.lf (.pv (.int .i64))], [], []⟩
def Ami : Sk := ⟨[.lf (.pv .bool)], [], []⟩
def Amf (k : Nat) : Cfg := mkC [] 53 0 0
def Q4 (k : Nat) : Int → Option Bool := hid (Ah (Amf k) k Tryz.f81 Amh Ami)
def Avt (k : Nat) : Sig := Ag Amh Ami (Q4 k)
noncomputable def Amg (k : Nat) : Int → Option Bool
 | a0 => some (a0 == (4 : Int))
theorem A54 (k : Nat) (x : Int) : Q4 k x = Amg k x := (Ae _ _).trans (by kernel_rfl)
theorem Az6 (k : Nat) : Ac Tryz.prog 81 (Avt k) := Aj (Amf k) (l := []) k rfl trivial Ad Tryz.func81 (by kernel_rfl)
def Tl : Sk := ⟨[.lf (.ptr 0 0), .lf (.fn 81 [] [])], [[.pv (.slice (.int .u8)), .pv (.int .i64)]], []⟩
def Abo : Sk := ⟨[.lf (.pv .str)], Tl.boxes, []⟩
def Aml : Sk := ⟨sparse 44 [(0, .lf (.ptr 0 0)), (1, .lf (.fn 81 [] [])), (5, .lf (.pv (.int .i64)))], [[.pv (.slice (.int .u8)), .pv (.int .i64)]], []⟩
abbrev Abm := H0
def Oq : Abm → St := stOf Aml 92
def A56 (k : Nat) : EnvL := [(51, [Aga k]), (81, [Avt k])]
def E6 (k : Nat) : FnX H2 := mkX ({ mkC (A56 k) 92 1 0 with hint := fun i => look none [(2, some Aml)] i }) k Tryz.f79 Abo
def Q6 (k : Nat) : ((List (Int)) × (Int)) → Option H2 := hid (Ah (E6 k).C k Tryz.f79 Tl Abo)
def Avv (k : Nat) : Sig := Ag Tl Abo (Q6 k)
noncomputable def Abn (k : Nat) (J : JF H2) (L : LF H2) : ((List (Int)) × (Int)) → Option H2
 | (a0, a1) => L 2 [] k (Oq (a1, a0, a1))
theorem A57 (k : Nat) (x : ((List (Int)) × (Int))) : Q6 k x = Abn k (E6 k).J (E6 k).L x := by
 refine (Ae _ _).trans ?_; apply cutX (E6 k) [] [] (st0 (E6 k).C Tryz.f79 Tl x) [] [(2, [], k)] (Abn k · · x) <;> intros <;> kernel_rfl
noncomputable def Amm (k j2 : Nat) (J : JF H2) (L : LF H2) : Abm → Option H2
 | (a0, a1, a2) => bif (decide (a2 < ((List.length a1 : Nat) : Int))) then (((Kh k) (a1, a2)).bind fun o1 => ((Q4 k) (o1)).bind fun o2 => bif o2 then (L 2 [] j2 (Oq (a0, a1, (IntKind.wrap .i64 (a2 + (1 : Int)))))) else (bif (cutB a0 a2 (List.length a1)) then some ((cutL a1 a0 a2), a1, a2) else none)) else (bif (cutB a0 a2 (List.length a1)) then some ((cutL a1 a0 a2), a1, a2) else none)
theorem A58 (k j2 : Nat) (x : Abm) : (E6 k).L 2 [] (j2 + 1) (Oq x) = Amm k j2 (E6 k).J (E6 k).L x := by
 apply cutX (E6 k) [.r, .r, .l, .b, .b] [j2] (Oq x) [] [(2, [], j2)] (Amm k j2 · · x) <;> intros <;> kernel_rfl
theorem Az8 (k : Nat) : Ac Tryz.prog 79 (Avv k) := Aj (E6 k).C k rfl ⟨⟨Ah3 k, trivial⟩, ⟨Az6 k, trivial⟩, trivial⟩ Ad Tryz.func79 (by kernel_rfl)
def A9y : Sk := ⟨[.lf (.pv .str), .lf (.pv (.int .i64)), .lf (.pv (.int .i64))], [], []⟩
def A9z : Sk := ⟨[.lf (.pv (.int .i64)), .lf (.err)], [], []⟩
def Xd (k : Nat) : ((List Int) × (Int) × (Int)) → Option ((Int) × (Bool)) := Ll
def Aw8 (k : Nat) : Sig := Ag A9y A9z (Xd k)
theorem A1u (k : Nat) : Ac Tryz.prog 82 (Aw8 k) := Bbf
def Abl : Sk := ⟨[.lf (.ptr 0 0)], [[.pv (.slice (.int .u8)), .pv (.int .i64)]], []⟩
def Amk : Sk := ⟨[.agg [.pv (.int .i64), .pv .str, .pv (.int .i64), .pv (.int .i64)], .lf (.pv (.int .i64))], Abl.boxes, []⟩
def A53 (k : Nat) : EnvL := [(79, [Avv k]), (82, [Aw8 k])]
def Ame (k : Nat) : Cfg := { mkC (A53 k) 69 1 0 with bl := [66, 68] }
def W1 (k : Nat) : ((List (Int)) × (Int)) → Option H3 := hid (Ah (Ame k) k Tryz.f54 Abl Amk)
def Avs (k : Nat) : Sig := Ag Abl Amk (W1 k)
noncomputable def Amj (k : Nat) : ((List (Int)) × (Int)) → Option H3
 | (a0, a1) => ((Q6 k) (a0, a1)).bind fun o1 => bif (decide (((List.length o1.1 : Nat) : Int) > (18 : Int))) then (some ((0 : Int), ([] : List Int), (0 : Int), (0 : Int), (4 : Int), o1.2.1, o1.2.2)) else (((Xd k) (o1.1, (10 : Int), (64 : Int))).bind fun o2 => some ((2 : Int), o1.1, o2.1, (0 : Int), (0 : Int), o1.2.1, o1.2.2))
theorem A55 (k : Nat) (x : ((List (Int)) × (Int))) : W1 k x = Amj k x := (Ae _ _).trans (by kernel_rfl)
theorem Az7 (k : Nat) : Ac Tryz.prog 54 (Avs k) := Aj (Ame k) k rfl ⟨⟨Az8 k, trivial⟩, ⟨A1u k, trivial⟩, trivial⟩ Ad Tryz.func54 (by kernel_rfl)
def Abw : Sk := ⟨[.lf (.ptr 0 0)], [[.pv (.slice (.int .u8)), .pv (.int .i64)]], []⟩
def Ams : Sk := ⟨[.agg [.pv (.int .i64), .pv .str, .pv (.int .i64), .pv (.int .i64)], .lf (.pv (.int .i64))], Abw.boxes, []⟩
def A6f (k : Nat) : EnvL := [(51, [Af9 k]), (53, [Avy k]), (54, [Avs k])]
def Amq (k : Nat) : Cfg := { mkC (A6f k) 92 1 0 with bl := [66, 68], ld := [(28, 9999), (29, 9999), (30, 0), (32, 9999), (33, 9999), (34, 0), (37, 9999), (38, 9999), (39, 0)], sr := [(2, 50)] }
def Q8 (k : Nat) : ((List (Int)) × (Int)) → Option H3 := hid (Ah (Amq k) k Tryz.f25 Abw Ams)
def Avx (k : Nat) : Sig := Ag Abw Ams (Q8 k)
noncomputable def Amr (k : Nat) : ((List (Int)) × (Int)) → Option H3
 | (a0, a1) => ((M1 k) (a0, a1)).bind fun o1 => bif (o1.1 == (3 : Int)) then (((W2 k) (o1.2.1, o1.2.2)).bind fun o2 => some (o2.1, o2.2.1, o2.2.2.1, o2.2.2.2.1, o2.2.2.2.2.1, o2.2.2.2.2.2.1, o2.2.2.2.2.2.2)) else (bif (o1.1 == (4 : Int)) then (((W1 k) (o1.2.1, o1.2.2)).bind fun o3 => some (o3.1, o3.2.1, o3.2.2.1, o3.2.2.2.1, o3.2.2.2.2.1, o3.2.2.2.2.2.1, o3.2.2.2.2.2.2)) else (bif (o1.1 == (5 : Int)) then (bif (cutB (IntKind.wrap .i64 ((IntKind.wrap .i64 (o1.2.2 + (1 : Int))) - (1 : Int))) (IntKind.wrap .i64 (o1.2.2 + (1 : Int))) (List.length o1.2.1)) then some ((3 : Int), (cutL o1.2.1 (IntKind.wrap .i64 ((IntKind.wrap .i64 (o1.2.2 + (1 : Int))) - (1 : Int))) (IntKind.wrap .i64 (o1.2.2 + (1 : Int)))), (0 : Int), (0 : Int), (0 : Int), o1.2.1, (IntKind.wrap .i64 (o1.2.2 + (1 : Int)))) else none) else (some ((0 : Int), ([] : List Int), (0 : Int), (0 : Int), (40 : Int), o1.2.1, o1.2.2))))
theorem A6g (k : Nat) (x : ((List (Int)) × (Int))) : Q8 k x = Amr k x := (Ae _ _).trans (by kernel_rfl)
theorem A0b (k : Nat) : Ac Tryz.prog 25 (Avx k) := Aj (Amq k) k rfl ⟨⟨Ah4 k, trivial⟩, ⟨A0d k, trivial⟩, ⟨Az7 k, trivial⟩, trivial⟩ Ad Tryz.func25 (by kernel_rfl)
abbrev H4 : Type := (List (Int)) × (List (Int)) × (Int) × (List (YT0))
abbrev H5 : Type := (Int) × (Int) × (List (YT0))
def Abe : Sk := ⟨[.lf (.pv (.slice (.int .u8)))], [], []⟩
def Abf : Sk := ⟨[.lf (.own 0), .lf (.pv (.int .i64)), .lf (.pv (.int .i64))], [], [some (76, yt0)]⟩
def Al4 : Sk := ⟨sparse 46 [(0, .lf (.pv (.slice (.int .u8)))), (5, .lf (.ptr 0 0)), (6, .lf (.own 0))], [[.pv (.slice (.int .u8)), .pv (.int .i64)]], [some (76, yt0)]⟩
abbrev Abb := H4
def Oo : Abb → St := stOf Al4 94
def A5r (k : Nat) : EnvL := [(24, [Avw k]), (25, [Avx k])]
def E4 (k : Nat) : FnX H5 := mkX ({ mkC (A5r k) 94 0 0 with hint := fun i => look none [(5, some Al4)] i, bl := [66, 68] }) k Tryz.f9 Abf
def M0 (k : Nat) : (List (Int)) → Option H5 := hid (Ah (E4 k).C k Tryz.f9 Abe Abf)
def Af8 (k : Nat) : Sig := Ag Abe Abf (M0 k)
noncomputable def Abc (k : Nat) (J : JF H5) (L : LF H5) : (List (Int)) → Option H5
 | a0 => bif (decide (((List.length a0 : Nat) : Int) > (65536 : Int))) then (some ((4 : Int), (65536 : Int), [])) else (L 5 [] k (Oo (a0, a0, (0 : Int), [])))
theorem A5s (k : Nat) (x : (List (Int))) : M0 k x = Abc k (E4 k).J (E4 k).L x := by
 refine (Ae _ _).trans ?_; apply cutX (E4 k) [] [] (st0 (E4 k).C Tryz.f9 Abe x) [] [(5, [], k)] (Abc k · · x) <;> intros <;> kernel_rfl
noncomputable def Abd (k j5 : Nat) (J : JF H5) (L : LF H5) : Abb → Option H5
 | (a0, a1, a2, a3) => ((Q7 k) (a1, a2)).bind fun o1 => bif (o1.2 == ((List.length a0 : Nat) : Int)) then (bif (appB 40 (List.length a3) (List.length ([((0 : Int), (([] : List Int), ((0 : Int), (o1.2, ()))))] : List (YT0)))) then some ((0 : Int), (0 : Int), (a3 ++ ([((0 : Int), (([] : List Int), ((0 : Int), (o1.2, ()))))] : List (YT0)))) else none) else (((Q8 k) (o1.1, o1.2)).bind fun o2 => bif (o2.2.2.2.2.1 != (0 : Int)) then (some (o2.2.2.2.2.1, o1.2, [])) else (bif (appB 40 (List.length a3) (List.length ([(o2.1, (o2.2.1, (o2.2.2.1, (o1.2, ()))))] : List (YT0)))) then L 5 [] j5 (Oo (a0, o2.2.2.2.2.2.1, o2.2.2.2.2.2.2, (a3 ++ ([(o2.1, (o2.2.1, (o2.2.2.1, (o1.2, ()))))] : List (YT0))))) else none))
theorem A5t (k j5 : Nat) (x : Abb) : (E4 k).L 5 [] (j5 + 1) (Oo x) = Abd k j5 (E4 k).J (E4 k).L x := by
 apply cutX (E4 k) [.r, .r, .r, .r, .b, .b] [j5] (Oo x) [] [(5, [], j5)] (Abd k j5 · · x) <;> intros <;> kernel_rfl
theorem Ah1 (k : Nat) : Ac Tryz.prog 9 (Af8 k) := Aj (E4 k).C k rfl ⟨⟨A0a k, trivial⟩, ⟨A0b k, trivial⟩, trivial⟩ Ad Tryz.func9 (by kernel_rfl)
abbrev H6 : Type := (List Int) × (List (YT0))
def Acf : Sk := ⟨[.lf (.ptr 0 0), .lf (.pv .str)], [[.own 0]], [some (76, yt0)]⟩
def Apc : Sk := ⟨[.lf (.pv .bool)], Acf.boxes, [some (76, yt0)]⟩
def Apb (k : Nat) : Cfg := mkC [] 62 1 1
def A03 (k : Nat) : H6 → Option ((Bool) × (List (YT0))) := hid (Ah (Apb k) k Tryz.f31 Acf Apc)
def Awj (k : Nat) : Sig := Ag Acf Apc (A03 k)
theorem A04 (k : Nat) : Ac Tryz.prog 31 (Awj k) := Aj (Apb k) (l := []) k rfl trivial Ad Tryz.func31 (by kernel_rfl)
abbrev H7 : Type := (List (YT0)) ⊕ ((Int) × (Int))
def Tu : Sk := ⟨[.lf (.ptr 0 0), .lf (.pv (.int .i64))], [[.own 0]], [some (76, yt0)]⟩
def Acd : Sk := ⟨[], Tu.boxes, [some (76, yt0)]⟩
def Ao7 (k : Nat) : Cfg := mkC [] 62 1 1
def A01 (k : Nat) : ((Int) × (List (YT0))) → Option H7 := hid (Al (Ao7 k) k Tryz.f33 Tu Acd 39 [(.int .i64), (.int .i64)] true)
def Awi (k : Nat) : Sig := ⟨Tu, Acd, Am Tu.tys Acd.tys 39 [(.int .i64), (.int .i64)] true (A01 k)⟩
theorem A02 (k : Nat) : Ac Tryz.prog 33 (Awi k) := An (Ao7 k) (l := []) k 39 [(.int .i64), (.int .i64)] true rfl trivial Ad Tryz.func33 (by kernel_rfl)
abbrev H8 : Type := (Int) × (List Int) × (Int) × (Int) × (List (YT0))
def Apr : Sk := ⟨[.lf (.ptr 0 0)], [[.own 0]], [some (76, yt0)]⟩
def Aps : Sk := ⟨[.agg [.pv (.int .i64), .pv .str, .pv (.int .i64), .pv (.int .i64)]], [[.pv (.slice yt0)]], [none]⟩
def Apq (k : Nat) : Cfg := { mkC [] 70 1 1 with bl := [66, 68] }
def A1a (k : Nat) : (List (YT0)) → Option H8 := hid (Ah (Apq k) k Tryz.f32 Apr Aps)
def Awp (k : Nat) : Sig := Ag Apr Aps (A1a k)
theorem A1b (k : Nat) : Ac Tryz.prog 32 (Awp k) := Aj (Apq k) (l := []) k rfl trivial Ad Tryz.func32 (by kernel_rfl)
def Ace : Sk := ⟨[.lf (.ptr 0 0), .lf (.pv .str)], [[.pv (.slice yt0)]], []⟩
def Apa : Sk := ⟨[.lf (.pv .bool)], Ace.boxes, []⟩
def Ao8 (k : Nat) : Cfg := mkC [] 62 1 0
def D4 (k : Nat) : H6 → Option ((Bool) × (List (YT0))) := hid (Ah (Ao8 k) k Tryz.f31 Ace Apa)
def Hn (k : Nat) : Sig := Ag Ace Apa (D4 k)
noncomputable def Ao9 (k : Nat) : H6 → Option ((Bool) × (List (YT0)))
 | (a0, a1) => idx zt0 a1 (0 : Int) fun o1 => some ((o1.2.1 == a0), a1)
theorem A7s (k : Nat) (x : H6) : D4 k x = Ao9 k x := (Ae _ _).trans (by kernel_rfl)
theorem Hy (k : Nat) : Ac Tryz.prog 31 (Hn k) := Aj (Ao8 k) (l := []) k rfl trivial Ad Tryz.func31 (by kernel_rfl)
def Tt : Sk := ⟨[.lf (.ptr 0 0), .lf (.pv (.int .i64))], [[.pv (.slice yt0)]], []⟩
def Acc : Sk := ⟨[], Tt.boxes, []⟩
def Ao5 (k : Nat) : Cfg := mkC [] 62 1 0
def Bt (k : Nat) : ((Int) × (List (YT0))) → Option H7 := hid (Al (Ao5 k) k Tryz.f33 Tt Acc 39 [(.int .i64), (.int .i64)] true)
def Eg (k : Nat) : Sig := ⟨Tt, Acc, Am Tt.tys Acc.tys 39 [(.int .i64), (.int .i64)] true (Bt k)⟩
noncomputable def Ao6 (k : Nat) : ((Int) × (List (YT0))) → Option H7
 | (a0, a1) => idx zt0 a1 (0 : Int) fun o1 => some (.inr (a0, o1.2.2.2.1))
theorem A7r (k : Nat) (x : ((Int) × (List (YT0)))) : Bt k x = Ao6 k x := (Ae _ _).trans (by kernel_rfl)
theorem En (k : Nat) : Ac Tryz.prog 33 (Eg k) := An (Ao5 k) (l := []) k 39 [(.int .i64), (.int .i64)] true rfl trivial Ad Tryz.func33 (by kernel_rfl)
def Acs : Sk := ⟨[.lf (.ptr 0 0)], [[.pv (.slice yt0)]], []⟩
def App : Sk := ⟨[.agg [.pv (.int .i64), .pv .str, .pv (.int .i64), .pv (.int .i64)]], Acs.boxes, []⟩
def Apn (k : Nat) : Cfg := { mkC [] 70 1 0 with bl := [66, 68] }
def D5 (k : Nat) : (List (YT0)) → Option H8 := hid (Ah (Apn k) k Tryz.f32 Acs App)
def Jz (k : Nat) : Sig := Ag Acs App (D5 k)
noncomputable def Apo (k : Nat) : (List (YT0)) → Option H8
 | a0 => idx zt0 a0 (0 : Int) fun o1 => bif (o1.1 != (0 : Int)) then (cut a0 (1 : Int) (((List.length a0) : Nat) : Int) fun o2 => some (o1.1, o1.2.1, o1.2.2.1, o1.2.2.2.1, o2)) else (some (o1.1, o1.2.1, o1.2.2.1, o1.2.2.2.1, a0))
theorem A8e (k : Nat) (x : (List (YT0))) : D5 k x = Apo k x := (Ae _ _).trans (by kernel_rfl)
theorem Kk (k : Nat) : Ac Tryz.prog 32 (Jz k) := Aj (Apn k) (l := []) k rfl trivial Ad Tryz.func32 (by kernel_rfl)
abbrev H9 : Type := (List (List Int)) × (Int) × (Int) × (List (YT0))
abbrev H10 : Type := (List (List Int)) × (List (YT0))
def Ue : Sk := ⟨[.lf (.ptr 0 0), .lf (.pv (.slice .str))], [[.own 0]], [some (76, yt0)]⟩
def Uf : Sk := ⟨[], [[.pv (.slice yt0)]], [none]⟩
def Ap2 : Sk := ⟨sparse 21 [(0, .lf (.ptr 0 0)), (6, .lf (.pv (.slice .str))), (7, .lf (.pv (.int .i64))), (8, .lf (.pv (.int .i64)))], [[.pv (.slice yt0)]], [none]⟩
abbrev Acz := H9
def K4 : Acz → St := stOf Ap2 69
def A8n (k : Nat) : EnvL := [(31, [Awj k, Hn k]), (33, [Awi k, Eg k]), (32, [Awp k, Jz k])]
def E8 (k : Nat) : FnX H7 := mkXP ({ mkC (A8n k) 69 1 1 with hint := fun i => look none [(1, some Ap2)] i }) k Tryz.f27 Uf 39 [(.int .i64), (.int .i64)] true
def Rr (k : Nat) : H10 → Option H7 := hid (Al (E8 k).C k Tryz.f27 Ue Uf 39 [(.int .i64), (.int .i64)] true)
def Awt (k : Nat) : Sig := ⟨Ue, Uf, Am Ue.tys Uf.tys 39 [(.int .i64), (.int .i64)] true (Rr k)⟩
noncomputable def Ac0 (k : Nat) (J : JF H7) (L : LF H7) : H10 → Option H7
 | (a0, a1) => L 1 [] k (K4 (a0, ((List.length a0 : Nat) : Int), (0 : Int), a1))
theorem A8o (k : Nat) (x : H10) : Rr k x = Ac0 k (E8 k).J (E8 k).L x := by
 refine (Ae _ _).trans ?_; apply cutX (E8 k) [] [] (st0 (E8 k).C Tryz.f27 Ue x) [] [(1, [], k)] (Ac0 k · · x) <;> intros <;> kernel_rfl
noncomputable def Ud (k j1 : Nat) (J : JF H7) (L : LF H7) : Acz → Option H7
 | (a0, a1, a2, a3) => bif (decide (a2 < a1)) then (idx [] a0 a2 fun o1 => ((D4 k) (o1, a3)).bind fun o2 => bif (!o2.1) then (((Bt k) ((50 : Int), o2.2)).bind (orP (fun o3 => ((D5 k) (o3)).bind fun o5 => L 1 [] j1 (K4 (a0, a1, (IntKind.wrap .i64 (a2 + (1 : Int))), o5.2.2.2.2))) (fun o4 => some (.inr (o4.1, o4.2))))) else (((D5 k) (o2.2)).bind fun o6 => L 1 [] j1 (K4 (a0, a1, (IntKind.wrap .i64 (a2 + (1 : Int))), o6.2.2.2.2)))) else (some (.inl a3))
theorem Ap1 (k j1 : Nat) (x : Acz) : (E8 k).L 1 [] (j1 + 1) (K4 x) = Ud k j1 (E8 k).J (E8 k).L x := by
 apply cutX (E8 k) [.r, .b, .b] [j1] (K4 x) [] [(1, [], j1)] (Ud k j1 · · x) <;> intros <;> kernel_rfl
theorem A1f (k : Nat) : Ac Tryz.prog 27 (Awt k) := An (E8 k).C k 39 [(.int .i64), (.int .i64)] true rfl ⟨⟨A04 k, Hy k, trivial⟩, ⟨A02 k, En k, trivial⟩, ⟨A1b k, Kk k, trivial⟩, trivial⟩ Ad Tryz.func27 (by kernel_rfl)
abbrev H11 : Type := ((Int) × (List (YT0))) ⊕ ((Int) × (Int))
def T0 : Sk := ⟨[.lf (.ptr 0 0), .lf (.pv (.slice .str))], [[.own 0]], [some (76, yt0)]⟩
def T1 : Sk := ⟨[.lf (.pv (.int .i64))], [[.pv (.slice yt0)]], [none]⟩
def Apf : Sk := ⟨sparse 21 [(0, .lf (.ptr 0 0))], [[.pv (.slice yt0)]], [none]⟩
abbrev A72 := (List (YT0))
def Tz : A72 → St := stOf Apf 69
def A71 (k : Nat) : EnvL := [(27, [Awt k]), (33, [Eg k]), (32, [Jz k])]
def Gb (k : Nat) : FnX H11 := mkXP ({ mkC (A71 k) 69 1 1 with hint := fun i => look none [(4, some Apf)] i }) k Tryz.f26 T1 39 [(.int .i64), (.int .i64)] true
def Rk (k : Nat) : H10 → Option H11 := hid (Al (Gb k).C k Tryz.f26 T0 T1 39 [(.int .i64), (.int .i64)] true)
def Awk (k : Nat) : Sig := ⟨T0, T1, Am T0.tys T1.tys 39 [(.int .i64), (.int .i64)] true (Rk k)⟩
noncomputable def Ack (k : Nat) (J : JF H11) (L : LF H11) : H10 → Option H11
 | (a0, a1) => ((Rr k) (a0, a1)).bind (orP (fun o1 => idx zt0 o1 (0 : Int) fun o3 => bif (o3.1 != (2 : Int)) then (((Bt k) ((50 : Int), o1)).bind (orP (fun o4 => J 4 [] (Tz (o4))) (fun o5 => some (.inr (o5.1, o5.2))))) else (J 4 [] (Tz (o1)))) (fun o2 => some (.inr (o2.1, o2.2))))
theorem A73 (k : Nat) (x : H10) : Rk k x = Ack k (Gb k).J (Gb k).L x := by
 refine (Ae _ _).trans ?_; apply cutX (Gb k) [] [] (st0 (Gb k).C Tryz.f26 T0 x) [(4, [])] [] (Ack k · · x) <;> intros <;> kernel_rfl
noncomputable def Acl (k : Nat) (J : JF H11) (L : LF H11) : (List (YT0)) → Option H11
 | a0 => ((D5 k) (a0)).bind fun o1 => some (.inl (o1.2.2.1, o1.2.2.2.2))
theorem A74 (k : Nat) (x : (List (YT0))) : (Gb k).J 4 [] (Tz x) = Acl k (Gb k).J (Gb k).L x := by
 apply cutX (Gb k) [.r, .r, .r] [] (Tz x) [(4, [])] [] (Acl k · · x) <;> intros <;> kernel_rfl
theorem A05 (k : Nat) : Ac Tryz.prog 26 (Awk k) := An (Gb k).C k 39 [(.int .i64), (.int .i64)] true rfl ⟨⟨A1f k, trivial⟩, ⟨En k, trivial⟩, ⟨Kk k, trivial⟩, trivial⟩ Ad Tryz.func26 (by kernel_rfl)
def O0 : Sk := ⟨[.lf (.ptr 0 0), .lf (.pv (.slice .str))], [[.pv (.slice yt0)]], []⟩
def Uc : Sk := ⟨[], O0.boxes, []⟩
def Ap0 : Sk := ⟨sparse 21 [(0, .lf (.ptr 0 0)), (6, .lf (.pv (.slice .str))), (7, .lf (.pv (.int .i64))), (8, .lf (.pv (.int .i64)))], [[.pv (.slice yt0)]], []⟩
abbrev Acx := H9
def K3 : Acx → St := stOf Ap0 69
def A8l (k : Nat) : EnvL := [(31, [Hn k]), (33, [Eg k]), (32, [Jz k])]
def E9 (k : Nat) : FnX H7 := mkXP ({ mkC (A8l k) 69 1 0 with hint := fun i => look none [(1, some Ap0)] i }) k Tryz.f27 Uc 39 [(.int .i64), (.int .i64)] true
def Bn (k : Nat) : H10 → Option H7 := hid (Al (E9 k).C k Tryz.f27 O0 Uc 39 [(.int .i64), (.int .i64)] true)
def Dw (k : Nat) : Sig := ⟨O0, Uc, Am O0.tys Uc.tys 39 [(.int .i64), (.int .i64)] true (Bn k)⟩
noncomputable def Acy (k : Nat) (J : JF H7) (L : LF H7) : H10 → Option H7
 | (a0, a1) => L 1 [] k (K3 (a0, ((List.length a0 : Nat) : Int), (0 : Int), a1))
theorem A8m (k : Nat) (x : H10) : Bn k x = Acy k (E9 k).J (E9 k).L x := by
 refine (Ae _ _).trans ?_; apply cutX (E9 k) [] [] (st0 (E9 k).C Tryz.f27 O0 x) [] [(1, [], k)] (Acy k · · x) <;> intros <;> kernel_rfl
noncomputable def Ub (k j1 : Nat) (J : JF H7) (L : LF H7) : Acx → Option H7
 | (a0, a1, a2, a3) => bif (decide (a2 < a1)) then (idx [] a0 a2 fun o1 => ((D4 k) (o1, a3)).bind fun o2 => bif (!o2.1) then (((Bt k) ((50 : Int), o2.2)).bind (orP (fun o3 => ((D5 k) (o3)).bind fun o5 => L 1 [] j1 (K3 (a0, a1, (IntKind.wrap .i64 (a2 + (1 : Int))), o5.2.2.2.2))) (fun o4 => some (.inr (o4.1, o4.2))))) else (((D5 k) (o2.2)).bind fun o6 => L 1 [] j1 (K3 (a0, a1, (IntKind.wrap .i64 (a2 + (1 : Int))), o6.2.2.2.2)))) else (some (.inl a3))
theorem Apz (k j1 : Nat) (x : Acx) : (E9 k).L 1 [] (j1 + 1) (K3 x) = Ub k j1 (E9 k).J (E9 k).L x := by
 apply cutX (E9 k) [.r, .b, .b] [j1] (K3 x) [] [(1, [], j1)] (Ub k j1 · · x) <;> intros <;> kernel_rfl
theorem D6 (k : Nat) : Ac Tryz.prog 27 (Dw k) := An (E9 k).C k 39 [(.int .i64), (.int .i64)] true rfl ⟨⟨Hy k, trivial⟩, ⟨En k, trivial⟩, ⟨Kk k, trivial⟩, trivial⟩ Ad Tryz.func27 (by kernel_rfl)
def Aa9 : Sk := ⟨[.lf (.pv .str)], [], []⟩
def Aba : Sk := ⟨[.lf (.pv .bool)], [], []⟩
def Alx : Sk := ⟨sparse 50 [(3, .lf (.pv .str))], [], []⟩
abbrev A5i := (List Int)
def Aa2 : A5i → St := stOf Alx 98
def Aly : Sk := ⟨sparse 50 [(3, .lf (.pv .str))], [], []⟩
abbrev A5j := (List Int)
def Aa3 : A5j → St := stOf Aly 98
def Alz : Sk := ⟨sparse 50 [(3, .lf (.pv .str))], [], []⟩
abbrev A5k := (List Int)
def Aa4 : A5k → St := stOf Alz 98
def B6 (k : Nat) : FnX Bool := mkX ({ mkC [] 98 0 0 with hint := fun i => look none [(16, some Alx), (26, some Aly), (33, some Alz)] i }) k Tryz.f83 Aba
def Mz (k : Nat) : (List Int) → Option Bool := hid (Ah (B6 k).C k Tryz.f83 Aa9 Aba)
def Af7 (k : Nat) : Sig := Ag Aa9 Aba (Mz k)
noncomputable def Aa5 (k : Nat) (J : JF Bool) (L : LF Bool) : (List Int) → Option Bool
 | a0 => bif (a0 == ([99, 121, 99, 108, 101] : List Int)) then (some true) else (bif (a0 == ([116, 111] : List Int)) then (some true) else (bif (a0 == ([98, 121] : List Int)) then (some true) else (bif (a0 == ([112, 101, 97, 107] : List Int)) then (some true) else (bif (a0 == ([110, 111, 100, 101] : List Int)) then (some true) else (bif (a0 == ([104, 101, 97, 100] : List Int)) then (some true) else (bif (a0 == ([118, 111, 108, 117, 109, 101] : List Int)) then (some true) else (bif (a0 == ([102, 108, 111, 119] : List Int)) then (some true) else (bif (a0 == ([117, 115, 101] : List Int)) then (some true) else (bif (a0 == ([115, 112, 101, 101, 100] : List Int)) then (some true) else (bif (a0 == ([103, 114, 97, 100, 101] : List Int)) then (some true) else (bif (a0 == ([119, 105, 100, 116, 104] : List Int)) then (some true) else (bif (a0 == ([108, 101, 110, 103, 116, 104] : List Int)) then (some true) else (bif (a0 == ([103, 114, 101, 101, 110] : List Int)) then (some true) else (J 16 [] (Aa2 (a0))))))))))))))))
theorem A5l (k : Nat) (x : (List Int)) : Mz k x = Aa5 k (B6 k).J (B6 k).L x := by
 refine (Ae _ _).trans ?_; apply cutX (B6 k) [] [] (st0 (B6 k).C Tryz.f83 Aa9 x) [(16, []), (26, []), (33, [])] [] (Aa5 k · · x) <;> intros <;> kernel_rfl
noncomputable def Aa6 (k : Nat) (J : JF Bool) (L : LF Bool) : (List Int) → Option Bool
 | a0 => bif (a0 == ([119, 97, 108, 107] : List Int)) then (some true) else (bif (a0 == ([119, 105, 116, 104] : List Int)) then (some true) else (bif (a0 == ([108, 111, 110, 103] : List Int)) then (some true) else (bif (a0 == ([112, 97, 99, 101] : List Int)) then (some true) else (bif (a0 == ([108, 101, 97, 115, 116] : List Int)) then (some true) else (bif (a0 == ([112, 104, 97, 115, 101] : List Int)) then (some true) else (bif (a0 == ([103, 114, 111, 117, 112] : List Int)) then (some true) else (bif (a0 == ([114, 105, 110, 103] : List Int)) then (some true) else (bif (a0 == ([102, 114, 101, 101] : List Int)) then (some true) else (bif (a0 == ([102, 111, 101] : List Int)) then (some true) else (J 26 [] (Aa3 (a0))))))))))))
theorem A5m (k : Nat) (x : (List Int)) : (B6 k).J 16 [] (Aa2 x) = Aa6 k (B6 k).J (B6 k).L x := by
 apply cutX (B6 k) [.r, .l, .r, .b, .l, .b, .b, .b, .b, .l, .r] [] (Aa2 x) [(16, []), (26, []), (33, [])] [] (Aa6 k · · x) <;> intros <;> kernel_rfl
noncomputable def Aa7 (k : Nat) (J : JF Bool) (L : LF Bool) : (List Int) → Option Bool
 | a0 => bif (a0 == ([97, 114, 116, 101, 114, 121] : List Int)) then (some true) else (bif (a0 == ([115, 116, 111, 112] : List Int)) then (some true) else (bif (a0 == ([111, 117, 116] : List Int)) then (some true) else (bif (a0 == ([105, 110] : List Int)) then (some true) else (bif (a0 == ([97, 104, 101, 97, 100] : List Int)) then (some true) else (bif (a0 == ([98, 97, 99, 107] : List Int)) then (some true) else (bif (a0 == ([119, 101, 105, 103, 104, 116, 115] : List Int)) then (some true) else (J 33 [] (Aa4 (a0)))))))))
theorem A5n (k : Nat) (x : (List Int)) : (B6 k).J 26 [] (Aa3 x) = Aa7 k (B6 k).J (B6 k).L x := by
 apply cutX (B6 k) [.r, .l, .r, .b, .l, .b, .b, .b, .b, .l, .r, .r] [] (Aa3 x) [(16, []), (26, []), (33, [])] [] (Aa7 k · · x) <;> intros <;> kernel_rfl
noncomputable def Aa8 (k : Nat) (J : JF Bool) (L : LF Bool) : (List Int) → Option Bool
 | a0 => bif (a0 == ([112, 108, 97, 110] : List Int)) then (some true) else (bif (a0 == ([111, 102, 102, 115, 101, 116] : List Int)) then (some true) else (bif (a0 == ([115, 117, 109] : List Int)) then (some true) else (bif (a0 == ([115, 112, 108, 105, 116] : List Int)) then (some true) else (bif (a0 == ([121, 101, 108, 108, 111, 119] : List Int)) then (some true) else (bif (a0 == ([114, 101, 100] : List Int)) then (some true) else (bif (a0 == ([102, 108, 97, 115, 104] : List Int)) then (some true) else (bif (a0 == ([98, 101, 115, 116] : List Int)) then (some true) else (bif (a0 == ([121, 101, 115] : List Int)) then (some true) else (bif (a0 == ([110, 111] : List Int)) then (some true) else (bif (a0 == ([115, 112, 101, 110, 116] : List Int)) then (some true) else (some false)))))))))))
theorem A5o (k : Nat) (x : (List Int)) : (B6 k).J 33 [] (Aa4 x) = Aa8 k (B6 k).J (B6 k).L x := by
 apply cutX (B6 k) [.r, .l, .r, .b, .l, .b, .b, .b, .b, .l, .r, .r, .r] [] (Aa4 x) [(16, []), (26, []), (33, [])] [] (Aa8 k · · x) <;> intros <;> kernel_rfl
theorem Ah0 (k : Nat) : Ac Tryz.prog 83 (Af7 k) := Aj (B6 k).C (l := []) k rfl trivial Ad Tryz.func83 (by kernel_rfl)
abbrev H12 : Type := ((List Int) × (List (YT0))) ⊕ ((Int) × (Int))
def Oy : Sk := ⟨[.lf (.ptr 0 0)], [[.pv (.slice yt0)]], []⟩
def Tv : Sk := ⟨[.lf (.pv .str)], Oy.boxes, []⟩
def Apd : Sk := ⟨sparse 23 [(0, .lf (.ptr 0 0))], [[.pv (.slice yt0)]], []⟩
abbrev A7u := (List (YT0))
def Ox : A7u → St := stOf Apd 71
def A7t (k : Nat) : EnvL := [(33, [Eg k]), (83, [Af7 k]), (32, [Jz k])]
def Ga (k : Nat) : FnX H12 := mkXP ({ mkC (A7t k) 71 1 0 with hint := fun i => look none [(4, some Apd)] i, bl := [66, 68] }) k Tryz.f55 Tv 39 [(.int .i64), (.int .i64)] true
def Kj (k : Nat) : (List (YT0)) → Option H12 := hid (Al (Ga k).C k Tryz.f55 Oy Tv 39 [(.int .i64), (.int .i64)] true)
def Vx (k : Nat) : Sig := ⟨Oy, Tv, Am Oy.tys Tv.tys 39 [(.int .i64), (.int .i64)] true (Kj k)⟩
noncomputable def Acg (k : Nat) (J : JF H12) (L : LF H12) : (List (YT0)) → Option H12
 | a0 => idx zt0 a0 (0 : Int) fun o1 => bif (o1.1 != (1 : Int)) then (((Bt k) ((50 : Int), a0)).bind (orP (fun o2 => J 4 [] (Ox (o2))) (fun o3 => some (.inr (o3.1, o3.2))))) else (((Mz k) (o1.2.1)).bind fun o4 => bif o4 then (((Bt k) ((50 : Int), a0)).bind (orP (fun o5 => J 4 [] (Ox (o5))) (fun o6 => some (.inr (o6.1, o6.2))))) else (J 4 [] (Ox (a0))))
theorem A7v (k : Nat) (x : (List (YT0))) : Kj k x = Acg k (Ga k).J (Ga k).L x := by
 refine (Ae _ _).trans ?_; apply cutX (Ga k) [] [] (st0 (Ga k).C Tryz.f55 Oy x) [(4, [])] [] (Acg k · · x) <;> intros <;> kernel_rfl
noncomputable def Ach (k : Nat) (J : JF H12) (L : LF H12) : (List (YT0)) → Option H12
 | a0 => ((D5 k) (a0)).bind fun o1 => some (.inl (o1.2.1, o1.2.2.2.2))
theorem A7w (k : Nat) (x : (List (YT0))) : (Ga k).J 4 [] (Ox x) = Ach k (Ga k).J (Ga k).L x := by
 apply cutX (Ga k) [.r, .r] [] (Ox x) [(4, [])] [] (Ach k · · x) <;> intros <;> kernel_rfl
theorem Xb (k : Nat) : Ac Tryz.prog 55 (Vx k) := An (Ga k).C k 39 [(.int .i64), (.int .i64)] true rfl ⟨⟨En k, trivial⟩, ⟨Ah0 k, trivial⟩, ⟨Kk k, trivial⟩, trivial⟩ Ad Tryz.func55 (by kernel_rfl)
def Oz : Sk := ⟨[.lf (.ptr 0 0), .lf (.pv (.slice .str))], [[.pv (.slice yt0)]], []⟩
def Tx : Sk := ⟨[.lf (.pv (.int .i64))], Oz.boxes, []⟩
def Ape : Sk := ⟨sparse 21 [(0, .lf (.ptr 0 0))], [[.pv (.slice yt0)]], []⟩
abbrev A7y := (List (YT0))
def Tw : A7y → St := stOf Ape 69
def A7x (k : Nat) : EnvL := [(27, [Dw k]), (33, [Eg k]), (32, [Jz k])]
def Gc (k : Nat) : FnX H11 := mkXP ({ mkC (A7x k) 69 1 0 with hint := fun i => look none [(4, some Ape)] i }) k Tryz.f26 Tx 39 [(.int .i64), (.int .i64)] true
def Dd (k : Nat) : H10 → Option H11 := hid (Al (Gc k).C k Tryz.f26 Oz Tx 39 [(.int .i64), (.int .i64)] true)
def Lu (k : Nat) : Sig := ⟨Oz, Tx, Am Oz.tys Tx.tys 39 [(.int .i64), (.int .i64)] true (Dd k)⟩
noncomputable def Aci (k : Nat) (J : JF H11) (L : LF H11) : H10 → Option H11
 | (a0, a1) => ((Bn k) (a0, a1)).bind (orP (fun o1 => idx zt0 o1 (0 : Int) fun o3 => bif (o3.1 != (2 : Int)) then (((Bt k) ((50 : Int), o1)).bind (orP (fun o4 => J 4 [] (Tw (o4))) (fun o5 => some (.inr (o5.1, o5.2))))) else (J 4 [] (Tw (o1)))) (fun o2 => some (.inr (o2.1, o2.2))))
theorem A7z (k : Nat) (x : H10) : Dd k x = Aci k (Gc k).J (Gc k).L x := by
 refine (Ae _ _).trans ?_; apply cutX (Gc k) [] [] (st0 (Gc k).C Tryz.f26 Oz x) [(4, [])] [] (Aci k · · x) <;> intros <;> kernel_rfl
noncomputable def Acj (k : Nat) (J : JF H11) (L : LF H11) : (List (YT0)) → Option H11
 | a0 => ((D5 k) (a0)).bind fun o1 => some (.inl (o1.2.2.1, o1.2.2.2.2))
theorem A70 (k : Nat) (x : (List (YT0))) : (Gc k).J 4 [] (Tw x) = Acj k (Gc k).J (Gc k).L x := by
 apply cutX (Gc k) [.r, .r, .r] [] (Tw x) [(4, [])] [] (Acj k · · x) <;> intros <;> kernel_rfl
theorem Nf (k : Nat) : Ac Tryz.prog 26 (Lu k) := An (Gc k).C k 39 [(.int .i64), (.int .i64)] true rfl ⟨⟨D6 k, trivial⟩, ⟨En k, trivial⟩, ⟨Kk k, trivial⟩, trivial⟩ Ad Tryz.func26 (by kernel_rfl)
abbrev H13 : Type := ((List Int) × (Int) × (Int) × (List (YT0))) ⊕ ((Int) × (Int))
def T9 : Sk := ⟨[.lf (.ptr 0 0)], [[.pv (.slice yt0)]], []⟩
def Acv : Sk := ⟨[.agg [.pv .str, .pv (.int .i64), .pv (.int .i64)]], T9.boxes, []⟩
def A8h (k : Nat) : EnvL := [(55, [Vx k]), (26, [Lu k])]
def Apv (k : Nat) : Cfg := { mkC (A8h k) 59 1 0 with bl := [66, 68] }
def Rq (k : Nat) : (List (YT0)) → Option H13 := hid (Al (Apv k) k Tryz.f132 T9 Acv 39 [(.int .i64), (.int .i64)] true)
def Awr (k : Nat) : Sig := ⟨T9, Acv, Am T9.tys Acv.tys 39 [(.int .i64), (.int .i64)] true (Rq k)⟩
noncomputable def Apw (k : Nat) : (List (YT0)) → Option H13
 | a0 => ((Kj k) (a0)).bind (orP (fun o1 => ((Dd k) ([], o1.2)).bind (orP (fun o3 => ((Dd k) (([([102, 108, 97, 115, 104] : List Int)] : List (List Int)), o3.2)).bind (orP (fun o5 => some (.inl (o1.1, o3.1, o5.1, o5.2))) (fun o6 => some (.inr (o6.1, o6.2))))) (fun o4 => some (.inr (o4.1, o4.2))))) (fun o2 => some (.inr (o2.1, o2.2))))
theorem A8i (k : Nat) (x : (List (YT0))) : Rq k x = Apw k x := (Ae _ _).trans (by kernel_rfl)
theorem A1d (k : Nat) : Ac Tryz.prog 132 (Awr k) := An (Apv k) k 39 [(.int .i64), (.int .i64)] true rfl ⟨⟨Xb k, trivial⟩, ⟨Nf k, trivial⟩, trivial⟩ Ad Tryz.func132 (by kernel_rfl)
abbrev H14 : Type := (List Int) × (Int) × (Int) × (List (YT0)) × (List (YT1))
abbrev H15 : Type := (List Int) × (Int) × (Int) × (List (YT0))
abbrev H16 : Type := ((List (YT0)) × (List (YT1))) ⊕ ((Int) × (Int))
def O5 : Sk := ⟨[.lf (.ptr 0 0), .lf (.pv .str), .lf (.pv (.int .i64)), .lf (.pv (.int .i64)), .lf (.fn 132 [(0, 0)] [])], [[.pv (.slice yt0)]], []⟩
def Uk : Sk := ⟨[.lf (.own 0)], O5.boxes, [some (164, yt1)]⟩
def Aqb : Sk := ⟨sparse 37 [(0, .lf (.ptr 0 0)), (1, .lf (.pv .str)), (2, .lf (.pv (.int .i64))), (3, .lf (.pv (.int .i64))), (4, .lf (.fn 132 [(0, 0)] [])), (11, .lf (.own 0))], [[.pv (.slice yt0)]], [some (164, yt1)]⟩
abbrev Adl := H14
def K9 : Adl → St := stOf Aqb 85
def Aqc : Sk := ⟨sparse 37 [(0, .lf (.ptr 0 0)), (1, .lf (.pv .str)), (2, .lf (.pv (.int .i64))), (3, .lf (.pv (.int .i64))), (4, .lf (.fn 132 [(0, 0)] [])), (11, .lf (.own 0))], [[.pv (.slice yt0)]], [some (164, yt1)]⟩
abbrev Adm := H14
def Jk : Adm → St := stOf Aqc 85
def A85 (k : Nat) : EnvL := [(31, [Hn k]), (33, [Eg k]), (27, [Dw k]), (132, [Awr k])]
def Ci (k : Nat) : FnX H16 := mkXP ({ mkC (A85 k) 85 1 0 with hint := fun i => look none [(2, some Aqb), (5, some Aqc)] i }) k Tryz.f131 Uk 39 [(.int .i64), (.int .i64)] true
def Rw (k : Nat) : H15 → Option H16 := hid (Al (Ci k).C k Tryz.f131 O5 Uk 39 [(.int .i64), (.int .i64)] true)
def Awy (k : Nat) : Sig := ⟨O5, Uk, Am O5.tys Uk.tys 39 [(.int .i64), (.int .i64)] true (Rw k)⟩
noncomputable def Adn (k : Nat) (J : JF H16) (L : LF H16) : H15 → Option H16
 | (a0, a1, a2, a3) => L 2 [] k (K9 (a0, a1, a2, a3, []))
theorem A86 (k : Nat) (x : H15) : Rw k x = Adn k (Ci k).J (Ci k).L x := by
 refine (Ae _ _).trans ?_; apply cutX (Ci k) [] [] (st0 (Ci k).C Tryz.f131 O5 x) [] [(2, [], k)] (Adn k · · x) <;> intros <;> kernel_rfl
noncomputable def Adp (k j2 : Nat) (J : JF H16) (L : LF H16) : Adl → Option H16
 | (a0, a1, a2, a3, a4) => ((D4 k) (a0, a3)).bind fun o1 => bif o1.1 then (bif (((List.length a4 : Nat) : Int) == a2) then (((Bt k) ((4 : Int), o1.2)).bind (orP (fun o2 => J 5 [j2] (Jk (a0, a1, a2, o2, a4))) (fun o3 => some (.inr (o3.1, o3.2))))) else (J 5 [j2] (Jk (a0, a1, a2, o1.2, a4)))) else (bif (decide (((List.length a4 : Nat) : Int) < a1)) then (bif (((List.length a4 : Nat) : Int) == a2) then (((Bt k) ((4 : Int), o1.2)).bind (orP (fun o4 => J 5 [j2] (Jk (a0, a1, a2, o4, a4))) (fun o5 => some (.inr (o5.1, o5.2))))) else (J 5 [j2] (Jk (a0, a1, a2, o1.2, a4)))) else (some (.inl (o1.2, a4))))
theorem A88 (k j2 : Nat) (x : Adl) : (Ci k).L 2 [] (j2 + 1) (K9 x) = Adp k j2 (Ci k).J (Ci k).L x := by
 apply cutX (Ci k) [.r, .r, .l, .b, .b] [j2] (K9 x) [(5, [j2])] [(2, [], j2)] (Adp k j2 · · x) <;> intros <;> kernel_rfl
noncomputable def Ado (k j2 : Nat) (J : JF H16) (L : LF H16) : Adm → Option H16
 | (a0, a1, a2, a3, a4) => ((Bn k) (([a0] : List (List Int)), a3)).bind (orP (fun o1 => ((Rq k) (o1)).bind (orP (fun o3 => app 32 a4 ([(o3.1, (o3.2.1, (o3.2.2.1, ())))] : List (YT1)) fun o5 => L 2 [] j2 (K9 (a0, a1, a2, o3.2.2.2, o5))) (fun o4 => some (.inr (o4.1, o4.2))))) (fun o2 => some (.inr (o2.1, o2.2))))
theorem A87 (k j2 : Nat) (x : Adm) : (Ci k).J 5 [j2] (Jk x) = Ado k j2 (Ci k).J (Ci k).L x := by
 apply cutX (Ci k) [.r, .r, .l, .b, .b, .r, .b, .r] [j2] (Jk x) [(5, [j2])] [(2, [], j2)] (Ado k j2 · · x) <;> intros <;> kernel_rfl
theorem A1k (k : Nat) : Ac Tryz.prog 131 (Awy k) := An (Ci k).C k 39 [(.int .i64), (.int .i64)] true rfl ⟨⟨Hy k, trivial⟩, ⟨En k, trivial⟩, ⟨D6 k, trivial⟩, ⟨A1d k, trivial⟩, trivial⟩ Ad Tryz.func131 (by kernel_rfl)
abbrev H17 : Type := ((List Int) × (Int) × (Int) × (Int) × (List (YT0)) × (List (YT1))) ⊕ ((Int) × (Int))
def T6 : Sk := ⟨[.lf (.ptr 0 0)], [[.pv (.slice yt0)]], []⟩
def Acq : Sk := ⟨[.agg [.pv .str, .pv (.int .i64), .pv (.int .i64), .pv (.int .i64), .own 0]], T6.boxes, [some (164, yt1)]⟩
def A8a (k : Nat) : EnvL := [(55, [Vx k]), (26, [Lu k]), (131, [Awy k]), (27, [Dw k])]
def Apj (k : Nat) : Cfg := { mkC (A8a k) 74 1 0 with bl := [66, 68] }
def Rn (k : Nat) : (List (YT0)) → Option H17 := hid (Al (Apj k) k Tryz.f110 T6 Acq 39 [(.int .i64), (.int .i64)] true)
def Awn (k : Nat) : Sig := ⟨T6, Acq, Am T6.tys Acq.tys 39 [(.int .i64), (.int .i64)] true (Rn k)⟩
noncomputable def Apk (k : Nat) : (List (YT0)) → Option H17
 | a0 => ((Kj k) (a0)).bind (orP (fun o1 => ((Dd k) (([([115, 112, 108, 105, 116] : List Int)] : List (List Int)), o1.2)).bind (orP (fun o3 => ((Dd k) (([([121, 101, 108, 108, 111, 119] : List Int)] : List (List Int)), o3.2)).bind (orP (fun o5 => ((Dd k) (([([114, 101, 100] : List Int)] : List (List Int)), o5.2)).bind (orP (fun o7 => ((Rw k) (([119, 97, 108, 107] : List Int), (0 : Int), (8 : Int), o7.2)).bind (orP (fun o9 => ((Bn k) (([([59] : List Int)] : List (List Int)), o9.1)).bind (orP (fun o11 => some (.inl (o1.1, o3.1, o5.1, o7.1, o11, o9.2))) (fun o12 => some (.inr (o12.1, o12.2))))) (fun o10 => some (.inr (o10.1, o10.2))))) (fun o8 => some (.inr (o8.1, o8.2))))) (fun o6 => some (.inr (o6.1, o6.2))))) (fun o4 => some (.inr (o4.1, o4.2))))) (fun o2 => some (.inr (o2.1, o2.2))))
theorem A8b (k : Nat) (x : (List (YT0))) : Rn k x = Apk k x := (Ae _ _).trans (by kernel_rfl)
theorem A08 (k : Nat) : Ac Tryz.prog 110 (Awn k) := An (Apj k) k 39 [(.int .i64), (.int .i64)] true rfl ⟨⟨Xb k, trivial⟩, ⟨Nf k, trivial⟩, ⟨A1k k, trivial⟩, ⟨D6 k, trivial⟩, trivial⟩ Ad Tryz.func110 (by kernel_rfl)
abbrev H18 : Type := (List Int) × (Int) × (Int) × (List (YT0)) × (List (YT2))
abbrev H19 : Type := ((List (YT0)) × (List (YT2))) ⊕ ((Int) × (Int))
def O2 : Sk := ⟨[.lf (.ptr 0 0), .lf (.pv .str), .lf (.pv (.int .i64)), .lf (.pv (.int .i64)), .lf (.fn 110 [(0, 0)] [])], [[.pv (.slice yt0)]], []⟩
def Uh : Sk := ⟨[.lf (.own 0)], O2.boxes, [some (133, yt2)]⟩
def Ap5 : Sk := ⟨sparse 37 [(0, .lf (.ptr 0 0)), (1, .lf (.pv .str)), (2, .lf (.pv (.int .i64))), (3, .lf (.pv (.int .i64))), (4, .lf (.fn 110 [(0, 0)] [])), (11, .lf (.own 0))], [[.pv (.slice yt0)]], [some (133, yt2)]⟩
abbrev Ac6 := H18
def K6 : Ac6 → St := stOf Ap5 86
def Ap6 : Sk := ⟨sparse 37 [(0, .lf (.ptr 0 0)), (1, .lf (.pv .str)), (2, .lf (.pv (.int .i64))), (3, .lf (.pv (.int .i64))), (4, .lf (.fn 110 [(0, 0)] [])), (11, .lf (.own 0))], [[.pv (.slice yt0)]], [some (133, yt2)]⟩
abbrev Ac7 := H18
def Jh : Ac7 → St := stOf Ap6 86
def A8t (k : Nat) : EnvL := [(31, [Hn k]), (33, [Eg k]), (27, [Dw k]), (110, [Awn k])]
def Cf (k : Nat) : FnX H19 := mkXP ({ mkC (A8t k) 86 1 0 with hint := fun i => look none [(2, some Ap5), (5, some Ap6)] i }) k Tryz.f130 Uh 39 [(.int .i64), (.int .i64)] true
def Rt (k : Nat) : H15 → Option H19 := hid (Al (Cf k).C k Tryz.f130 O2 Uh 39 [(.int .i64), (.int .i64)] true)
def Awv (k : Nat) : Sig := ⟨O2, Uh, Am O2.tys Uh.tys 39 [(.int .i64), (.int .i64)] true (Rt k)⟩
noncomputable def Ac8 (k : Nat) (J : JF H19) (L : LF H19) : H15 → Option H19
 | (a0, a1, a2, a3) => L 2 [] k (K6 (a0, a1, a2, a3, []))
theorem A8u (k : Nat) (x : H15) : Rt k x = Ac8 k (Cf k).J (Cf k).L x := by
 refine (Ae _ _).trans ?_; apply cutX (Cf k) [] [] (st0 (Cf k).C Tryz.f130 O2 x) [] [(2, [], k)] (Ac8 k · · x) <;> intros <;> kernel_rfl
noncomputable def Ada (k j2 : Nat) (J : JF H19) (L : LF H19) : Ac6 → Option H19
 | (a0, a1, a2, a3, a4) => ((D4 k) (a0, a3)).bind fun o1 => bif o1.1 then (bif (((List.length a4 : Nat) : Int) == a2) then (((Bt k) ((4 : Int), o1.2)).bind (orP (fun o2 => J 5 [j2] (Jh (a0, a1, a2, o2, a4))) (fun o3 => some (.inr (o3.1, o3.2))))) else (J 5 [j2] (Jh (a0, a1, a2, o1.2, a4)))) else (bif (decide (((List.length a4 : Nat) : Int) < a1)) then (bif (((List.length a4 : Nat) : Int) == a2) then (((Bt k) ((4 : Int), o1.2)).bind (orP (fun o4 => J 5 [j2] (Jh (a0, a1, a2, o4, a4))) (fun o5 => some (.inr (o5.1, o5.2))))) else (J 5 [j2] (Jh (a0, a1, a2, o1.2, a4)))) else (some (.inl (o1.2, a4))))
theorem A8w (k j2 : Nat) (x : Ac6) : (Cf k).L 2 [] (j2 + 1) (K6 x) = Ada k j2 (Cf k).J (Cf k).L x := by
 apply cutX (Cf k) [.r, .r, .l, .b, .b] [j2] (K6 x) [(5, [j2])] [(2, [], j2)] (Ada k j2 · · x) <;> intros <;> kernel_rfl
noncomputable def Ac9 (k j2 : Nat) (J : JF H19) (L : LF H19) : Ac7 → Option H19
 | (a0, a1, a2, a3, a4) => ((Bn k) (([a0] : List (List Int)), a3)).bind (orP (fun o1 => ((Rn k) (o1)).bind (orP (fun o3 => app 64 a4 ([(o3.1, (o3.2.1, (o3.2.2.1, (o3.2.2.2.1, (o3.2.2.2.2.2, ())))))] : List (YT2)) fun o5 => L 2 [] j2 (K6 (a0, a1, a2, o3.2.2.2.2.1, o5))) (fun o4 => some (.inr (o4.1, o4.2))))) (fun o2 => some (.inr (o2.1, o2.2))))
theorem A8v (k j2 : Nat) (x : Ac7) : (Cf k).J 5 [j2] (Jh x) = Ac9 k j2 (Cf k).J (Cf k).L x := by
 apply cutX (Cf k) [.r, .r, .l, .b, .b, .r, .b, .r] [j2] (Jh x) [(5, [j2])] [(2, [], j2)] (Ac9 k j2 · · x) <;> intros <;> kernel_rfl
theorem A1h (k : Nat) : Ac Tryz.prog 130 (Awv k) := An (Cf k).C k 39 [(.int .i64), (.int .i64)] true rfl ⟨⟨Hy k, trivial⟩, ⟨En k, trivial⟩, ⟨D6 k, trivial⟩, ⟨A08 k, trivial⟩, trivial⟩ Ad Tryz.func130 (by kernel_rfl)
def Tr : Sk := ⟨[.lf (.ptr 0 0), .lf (.pv .str), .lf (.pv (.int .i64)), .lf (.pv (.int .i64)), .lf (.fn 110 [(0, 0)] [])], [[.pv (.slice yt0)]], []⟩
def Aca : Sk := ⟨[.lf (.own 0)], Tr.boxes, [some (133, yt2)]⟩
def A7i (k : Nat) : EnvL := [(27, [Dw k]), (130, [Awv k])]
def Aot (k : Nat) : Cfg := mkC (A7i k) 74 1 0
def Rg (k : Nat) : H15 → Option H19 := hid (Al (Aot k) k Tryz.f109 Tr Aca 39 [(.int .i64), (.int .i64)] true)
def Awf (k : Nat) : Sig := ⟨Tr, Aca, Am Tr.tys Aca.tys 39 [(.int .i64), (.int .i64)] true (Rg k)⟩
noncomputable def Aou (k : Nat) : H15 → Option H19
 | (a0, a1, a2, a3) => ((Bn k) (([([123] : List Int)] : List (List Int)), a3)).bind (orP (fun o1 => ((Rt k) (a0, a1, a2, o1)).bind (orP (fun o3 => ((Bn k) (([([125] : List Int)] : List (List Int)), o3.1)).bind (orP (fun o5 => some (.inl (o5, o3.2))) (fun o6 => some (.inr (o6.1, o6.2))))) (fun o4 => some (.inr (o4.1, o4.2))))) (fun o2 => some (.inr (o2.1, o2.2))))
theorem A7j (k : Nat) (x : H15) : Rg k x = Aou k x := (Ae _ _).trans (by kernel_rfl)
theorem A0y (k : Nat) : Ac Tryz.prog 109 (Awf k) := An (Aot k) k 39 [(.int .i64), (.int .i64)] true rfl ⟨⟨D6 k, trivial⟩, ⟨A1h k, trivial⟩, trivial⟩ Ad Tryz.func109 (by kernel_rfl)
def T5 : Sk := ⟨[.lf (.ptr 0 0)], [[.pv (.slice yt0)]], []⟩
def Acp : Sk := ⟨[.lf (.own 0)], T5.boxes, [some (133, yt2)]⟩
def A78 (k : Nat) : EnvL := [(109, [Awf k])]
def Aph (k : Nat) : Cfg := mkC (A78 k) 56 1 0
def Rm (k : Nat) : (List (YT0)) → Option H19 := hid (Al (Aph k) k Tryz.f86 T5 Acp 39 [(.int .i64), (.int .i64)] true)
def Awm (k : Nat) : Sig := ⟨T5, Acp, Am T5.tys Acp.tys 39 [(.int .i64), (.int .i64)] true (Rm k)⟩
noncomputable def Api (k : Nat) : (List (YT0)) → Option H19
 | a0 => ((Rg k) (([112, 104, 97, 115, 101] : List Int), (1 : Int), (4 : Int), a0)).bind (orP (fun o1 => some (.inl (o1.1, o1.2))) (fun o2 => some (.inr (o2.1, o2.2))))
theorem A79 (k : Nat) (x : (List (YT0))) : Rm k x = Api k x := (Ae _ _).trans (by kernel_rfl)
theorem A07 (k : Nat) : Ac Tryz.prog 86 (Awm k) := An (Aph k) k 39 [(.int .i64), (.int .i64)] true rfl ⟨⟨A0y k, trivial⟩, trivial⟩ Ad Tryz.func86 (by kernel_rfl)
abbrev H20 : Type := (List Int) × (Int) × (Int) × (List (YT0)) × (List (List (YT2)))
abbrev H21 : Type := ((List (YT0)) × (List (List (YT2)))) ⊕ ((Int) × (Int))
def O1 : Sk := ⟨[.lf (.ptr 0 0), .lf (.pv .str), .lf (.pv (.int .i64)), .lf (.pv (.int .i64)), .lf (.fn 86 [(0, 0)] [])], [[.pv (.slice yt0)]], []⟩
def Ug : Sk := ⟨[.lf (.own 0)], O1.boxes, [some (118, (.slice yt2))]⟩
def Ap3 : Sk := ⟨sparse 37 [(0, .lf (.ptr 0 0)), (1, .lf (.pv .str)), (2, .lf (.pv (.int .i64))), (3, .lf (.pv (.int .i64))), (4, .lf (.fn 86 [(0, 0)] [])), (11, .lf (.own 0))], [[.pv (.slice yt0)]], [some (118, (.slice yt2))]⟩
abbrev Ac1 := H20
def K5 : Ac1 → St := stOf Ap3 86
def Ap4 : Sk := ⟨sparse 37 [(0, .lf (.ptr 0 0)), (1, .lf (.pv .str)), (2, .lf (.pv (.int .i64))), (3, .lf (.pv (.int .i64))), (4, .lf (.fn 86 [(0, 0)] [])), (11, .lf (.own 0))], [[.pv (.slice yt0)]], [some (118, (.slice yt2))]⟩
abbrev Ac2 := H20
def Jg : Ac2 → St := stOf Ap4 86
def A8p (k : Nat) : EnvL := [(31, [Hn k]), (33, [Eg k]), (27, [Dw k]), (86, [Awm k])]
def Ce (k : Nat) : FnX H21 := mkXP ({ mkC (A8p k) 86 1 0 with hint := fun i => look none [(2, some Ap3), (5, some Ap4)] i }) k Tryz.f108 Ug 39 [(.int .i64), (.int .i64)] true
def Rs (k : Nat) : H15 → Option H21 := hid (Al (Ce k).C k Tryz.f108 O1 Ug 39 [(.int .i64), (.int .i64)] true)
def Awu (k : Nat) : Sig := ⟨O1, Ug, Am O1.tys Ug.tys 39 [(.int .i64), (.int .i64)] true (Rs k)⟩
noncomputable def Ac3 (k : Nat) (J : JF H21) (L : LF H21) : H15 → Option H21
 | (a0, a1, a2, a3) => L 2 [] k (K5 (a0, a1, a2, a3, []))
theorem A8q (k : Nat) (x : H15) : Rs k x = Ac3 k (Ce k).J (Ce k).L x := by
 refine (Ae _ _).trans ?_; apply cutX (Ce k) [] [] (st0 (Ce k).C Tryz.f108 O1 x) [] [(2, [], k)] (Ac3 k · · x) <;> intros <;> kernel_rfl
noncomputable def Ac5 (k j2 : Nat) (J : JF H21) (L : LF H21) : Ac1 → Option H21
 | (a0, a1, a2, a3, a4) => ((D4 k) (a0, a3)).bind fun o1 => bif o1.1 then (bif (((List.length a4 : Nat) : Int) == a2) then (((Bt k) ((4 : Int), o1.2)).bind (orP (fun o2 => J 5 [j2] (Jg (a0, a1, a2, o2, a4))) (fun o3 => some (.inr (o3.1, o3.2))))) else (J 5 [j2] (Jg (a0, a1, a2, o1.2, a4)))) else (bif (decide (((List.length a4 : Nat) : Int) < a1)) then (bif (((List.length a4 : Nat) : Int) == a2) then (((Bt k) ((4 : Int), o1.2)).bind (orP (fun o4 => J 5 [j2] (Jg (a0, a1, a2, o4, a4))) (fun o5 => some (.inr (o5.1, o5.2))))) else (J 5 [j2] (Jg (a0, a1, a2, o1.2, a4)))) else (some (.inl (o1.2, a4))))
theorem A8s (k j2 : Nat) (x : Ac1) : (Ce k).L 2 [] (j2 + 1) (K5 x) = Ac5 k j2 (Ce k).J (Ce k).L x := by
 apply cutX (Ce k) [.r, .r, .l, .b, .b] [j2] (K5 x) [(5, [j2])] [(2, [], j2)] (Ac5 k j2 · · x) <;> intros <;> kernel_rfl
noncomputable def Ac4 (k j2 : Nat) (J : JF H21) (L : LF H21) : Ac2 → Option H21
 | (a0, a1, a2, a3, a4) => ((Bn k) (([a0] : List (List Int)), a3)).bind (orP (fun o1 => ((Rm k) (o1)).bind (orP (fun o3 => app 24 a4 ([o3.2] : List (List (YT2))) fun o5 => L 2 [] j2 (K5 (a0, a1, a2, o3.1, o5))) (fun o4 => some (.inr (o4.1, o4.2))))) (fun o2 => some (.inr (o2.1, o2.2))))
theorem A8r (k j2 : Nat) (x : Ac2) : (Ce k).J 5 [j2] (Jg x) = Ac4 k j2 (Ce k).J (Ce k).L x := by
 apply cutX (Ce k) [.r, .r, .l, .b, .b, .r, .b, .r] [j2] (Jg x) [(5, [j2])] [(2, [], j2)] (Ac4 k j2 · · x) <;> intros <;> kernel_rfl
theorem A1g (k : Nat) : Ac Tryz.prog 108 (Awu k) := An (Ce k).C k 39 [(.int .i64), (.int .i64)] true rfl ⟨⟨Hy k, trivial⟩, ⟨En k, trivial⟩, ⟨D6 k, trivial⟩, ⟨A07 k, trivial⟩, trivial⟩ Ad Tryz.func108 (by kernel_rfl)
end
end Go.Proofs.YtghmhkpgdmgepaaGreatDoorV
