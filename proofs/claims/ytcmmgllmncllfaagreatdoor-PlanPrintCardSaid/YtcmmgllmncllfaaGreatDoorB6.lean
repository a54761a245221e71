import Derived.Test.YtcmmgllmncllfaaGreatDoorB3
import Derived.Test.YtcmmgllmncllfaaGreatDoorProg
import Derived.Shelf.Strings.Builder1
import Derived.Test.YtcmmgllmncllfaaGreatDoorB5
import Derived.Lib.AppendIntMem
import Derived.Test.YtcmmgllmncllfaaGreatDoorB4
import Derived.Tactics2
import Derived.Laws.Pointers
/-! Joined, names shortened: XB, X1, XF, FClo, G0. -/
set_option linter.unusedVariables false
set_option linter.unusedSimpArgs false
namespace Go.Proofs.YtcmmgllmncllfaaGreatDoorV
open Go Go.RowKit
theorem Bac {w : World} {b : Nat} {cs : Array Value} {et : Nat} {fr : Nat × Nat} (h : w.heap[b]? = some (.cells cs et fr)) (off : Nat) (v : Value) : w.setCell ⟨b, off, none⟩ v = w.setRow b (cs.setIfInBounds off v) := by
 unfold World.setCell World.setRow
 congr 1
 apply Array.ext_getElem?
 intro i
 simp only [Array.getElem?_modify]
 split
 ·rename_i e
  subst e
  rw [h]
  simp
 ·rfl
def bdI : Sk := ⟨[.lf (.ptr 0 0)], [[.bld 0 60, .own 0, .pv (.int .i64)]], [some (5, .int .u8)]⟩
def bdO : Sk := ⟨[], [[.bld 0 60, .own 0, .pv (.int .i64)]], [some (5, .int .u8)]⟩
def bdS : Sk := ⟨[.lf (.pv .str)], [[.bld 0 60, .dead, .pv (.int .i64)]], [none]⟩
def copyC (x : Bool × Int × List Int) : Option (Bool × Int × List Int) := some (false, x.2.1, x.2.2)
def strC (x : Bool × Int × List Int) : Option (List Int × Bool × Int) := if x.2.2 = [] then none else some (x.2.2, x.1, x.2.1)
set_option maxHeartbeats 4000000 in
set_option maxRecDepth 100000 in
theorem Ax9 (b : Nat) (w : World) (h0 : w.cell? ⟨b, 0, none⟩ = some (.pointer (some ⟨b, 0, none⟩))) :
  Calls Tryz.prog 66 #[.pointer (some ⟨b, 0, none⟩)] w fun e w' => e = .returned (.tuple #[]) ∧ w' = w := by
 obtain ⟨j, hj, _⟩ := Option.map_eq_some_iff.1 (show (Tryz.prog.info? 58).map (·.size) = some 2 by kernel_rfl)
 have mixed : Tryz.prog.follows .mixedOrders = true := by kernel_rfl
 have t56 := Tryz.underlying56; have a56 := Tryz.isAgg56; have z56 := Tryz.sizeOf56; have v56 := Tryz.zeroValue56; have u56 := run_underlying Tryz.underlying56
 have t58 := Tryz.underlying58; have a58 := Tryz.isAgg58; have z58 := Tryz.sizeOf58; have v58 := Tryz.zeroValue58; have u58 := run_underlying Tryz.underlying58
 have t134 := Tryz.underlying134; have a134 := Tryz.isAgg134; have z134 := Tryz.sizeOf134; have v134 := Tryz.zeroValue134; have u134 := run_underlying Tryz.underlying134
 have t28 := Tryz.underlying28; have a28 := Tryz.isAgg28; have z28 := Tryz.sizeOf28; have v28 := Tryz.zeroValue28; have u28 := run_underlying Tryz.underlying28
 have t95 := Tryz.underlying95; have a95 := Tryz.isAgg95; have z95 := Tryz.sizeOf95; have v95 := Tryz.zeroValue95; have u95 := run_underlying Tryz.underlying95
 have t3 := Tryz.underlying3; have a3 := Tryz.isAgg3; have z3 := Tryz.sizeOf3; have v3 := Tryz.zeroValue3; have u3 := run_underlying Tryz.underlying3
 have t4 := Tryz.underlying4; have a4 := Tryz.isAgg4; have z4 := Tryz.sizeOf4; have v4 := Tryz.zeroValue4; have u4 := run_underlying Tryz.underlying4
 have t9 := Tryz.underlying9; have a9 := Tryz.isAgg9; have z9 := Tryz.sizeOf9; have v9 := Tryz.zeroValue9; have u9 := run_underlying Tryz.underlying9
 have t5 := Tryz.underlying5; have a5 := Tryz.isAgg5; have z5 := Tryz.sizeOf5; have v5 := Tryz.zeroValue5; have u5 := run_underlying Tryz.underlying5
 go_enter Tryz.func66, Tryz.ntmps66
 go_wp2
 rw [Lib.run_neq_ptr_same w _ Tryz.underlying56 hj]
 go_wp2
 go_end0
 exact ⟨rfl, rfl⟩
set_option maxHeartbeats 4000000 in
set_option maxRecDepth 100000 in
theorem Ax8 (b : Nat) (w : World) (h0 : w.cell? ⟨b, 0, none⟩ = some (.pointer none)) (hsh : w.shape? b = some (60, 3)) (hfz : w.frozen? ⟨b, 0, none⟩ = false) :
  Calls Tryz.prog 66 #[.pointer (some ⟨b, 0, none⟩)] w fun e w' => e = .returned (.tuple #[]) ∧ w' = w.setCell ⟨b, 0, none⟩ (.pointer (some ⟨b, 0, none⟩)) := by
 obtain ⟨j, hj, hjs⟩ := Option.map_eq_some_iff.1 (show (Tryz.prog.info? 58).map (·.size) = some 2 by kernel_rfl)
 have mixed : Tryz.prog.follows .mixedOrders = true := by kernel_rfl
 have t56 := Tryz.underlying56; have a56 := Tryz.isAgg56; have z56 := Tryz.sizeOf56; have v56 := Tryz.zeroValue56; have u56 := run_underlying Tryz.underlying56
 have t58 := Tryz.underlying58; have a58 := Tryz.isAgg58; have z58 := Tryz.sizeOf58; have v58 := Tryz.zeroValue58; have u58 := run_underlying Tryz.underlying58
 have t134 := Tryz.underlying134; have a134 := Tryz.isAgg134; have z134 := Tryz.sizeOf134; have v134 := Tryz.zeroValue134; have u134 := run_underlying Tryz.underlying134
 have t28 := Tryz.underlying28; have a28 := Tryz.isAgg28; have z28 := Tryz.sizeOf28; have v28 := Tryz.zeroValue28; have u28 := run_underlying Tryz.underlying28
 have t95 := Tryz.underlying95; have a95 := Tryz.isAgg95; have z95 := Tryz.sizeOf95; have v95 := Tryz.zeroValue95; have u95 := run_underlying Tryz.underlying95
 have t3 := Tryz.underlying3; have a3 := Tryz.isAgg3; have z3 := Tryz.sizeOf3; have v3 := Tryz.zeroValue3; have u3 := run_underlying Tryz.underlying3
 have t4 := Tryz.underlying4; have a4 := Tryz.isAgg4; have z4 := Tryz.sizeOf4; have v4 := Tryz.zeroValue4; have u4 := run_underlying Tryz.underlying4
 have t9 := Tryz.underlying9; have a9 := Tryz.isAgg9; have z9 := Tryz.sizeOf9; have v9 := Tryz.zeroValue9; have u9 := run_underlying Tryz.underlying9
 have t5 := Tryz.underlying5; have a5 := Tryz.isAgg5; have z5 := Tryz.sizeOf5; have v5 := Tryz.zeroValue5; have u5 := run_underlying Tryz.underlying5
 go_enter Tryz.func66, Tryz.ntmps66
 go_wp2
 rw [Lib.run_to_unsafe w ⟨b, 0, none⟩ Tryz.underlying56 Tryz.underlying134 hj (by rw [hjs]; decide) hsh (Nat.zero_lt_succ 2)]
 simp only [Result.andThen]
 rw [Oper.upon_value]
 go_wp2
 rw [run_callFunc_extern Tryz.func91 (by kernel_rfl) (by kernel_rfl) (by kernel_rfl) (e := Extern.AbiNoEscape.same) (by kernel_rfl)]
 rw [Lib.run_noEscape]
 simp only [Result.andThen]
 rw [Oper.upon_value]
 go_wp2
 rw [Lib.run_from_unsafe w ⟨b, 0, none⟩ Tryz.underlying134 Tryz.underlying56 hj hsh (by kernel_rfl)]
 simp only [Result.andThen]
 rw [Oper.upon_value]
 go_wp2
 go_end0
 exact ⟨rfl, rfl⟩
set_option maxHeartbeats 4000000 in
set_option maxRecDepth 100000 in
theorem Bat (b g cap : Nat) (p d : Value) (cur : Array Value) (l : List UInt8) (w : World) (h0 : l ≠ []) (hb : w.heap[b]? = some (.cells #[p, .slice (some ⟨g, 0, none⟩) l.length cap, d] 60 (0, 0))) (hg : w.heap[g]? = some (.cells cur 5 (0, 0)))
  (hnc : l.length ≤ cap) (hcm : cap ≤ maxLen) (hcs : cur.size = cap * 1) (hcell : ∀ (j : Nat) (x : UInt8), l[j]? = some x → w.cell? ⟨g, j, none⟩ = some (.int .u8 x.toNat)) :
  Calls Tryz.prog 20 #[.pointer (some ⟨b, 0, none⟩)] w fun e w' => e = .returned (.string ⟨l.toArray⟩) ∧ w' = w.drew.freeze ⟨g, 0, none⟩ l.length := by
 have hl0 : l.length ≠ 0 := by simpa using h0
 have c1 : w.drew.cell? ⟨b, 1, none⟩ = some (.slice (some ⟨g, 0, none⟩) l.length cap) := by
  have : w.drew.heap[b]? = some (.cells #[p, .slice (some ⟨g, 0, none⟩) l.length cap, d] 60 (0, 0)) := hb
  rw [Lib.cell_of_heap this]; rfl
 have hSD : (Builtin.unsafeSliceData_ #[28] 95 #[.slice (some ⟨g, 0, none⟩) l.length cap]).run Tryz.prog w.drew = .ok (.pointer (some ⟨g, 0, none⟩)) w.drew :=
  Lib.run_unsafeSliceData_row _ _ _ _ _ _ (by omega)
 have hUS : (Builtin.unsafeString_ #[95, 3] 9 #[.pointer (some ⟨g, 0, none⟩), .int .i64 l.length]).run Tryz.prog w.drew = .ok (.string ⟨l.toArray⟩) (w.drew.freeze ⟨g, 0, none⟩ l.length) := by
  refine Lib.run_unsafeString_row w.drew 95 3 9 5 Tryz.underlying95 (by kernel_rfl) g cur.size (by have hg' : w.drew.heap[g]? = some (.cells cur 5 (0, 0)) := hg; simp [World.shape?, hg']) l h0 (by omega) (by unfold maxLen at hcm; omega) ?_
  intro j x hx
  rw [Gh, Nat.zero_add]
  exact hcell j x hx
 have mixed : Tryz.prog.follows .mixedOrders = true := by kernel_rfl
 have t56 := Tryz.underlying56; have a56 := Tryz.isAgg56; have z56 := Tryz.sizeOf56; have v56 := Tryz.zeroValue56; have u56 := run_underlying Tryz.underlying56
 have t58 := Tryz.underlying58; have a58 := Tryz.isAgg58; have z58 := Tryz.sizeOf58; have v58 := Tryz.zeroValue58; have u58 := run_underlying Tryz.underlying58
 have t134 := Tryz.underlying134; have a134 := Tryz.isAgg134; have z134 := Tryz.sizeOf134; have v134 := Tryz.zeroValue134; have u134 := run_underlying Tryz.underlying134
 have t28 := Tryz.underlying28; have a28 := Tryz.isAgg28; have z28 := Tryz.sizeOf28; have v28 := Tryz.zeroValue28; have u28 := run_underlying Tryz.underlying28
 have t95 := Tryz.underlying95; have a95 := Tryz.isAgg95; have z95 := Tryz.sizeOf95; have v95 := Tryz.zeroValue95; have u95 := run_underlying Tryz.underlying95
 have t3 := Tryz.underlying3; have a3 := Tryz.isAgg3; have z3 := Tryz.sizeOf3; have v3 := Tryz.zeroValue3; have u3 := run_underlying Tryz.underlying3
 have t4 := Tryz.underlying4; have a4 := Tryz.isAgg4; have z4 := Tryz.sizeOf4; have v4 := Tryz.zeroValue4; have u4 := run_underlying Tryz.underlying4
 have t9 := Tryz.underlying9; have a9 := Tryz.isAgg9; have z9 := Tryz.sizeOf9; have v9 := Tryz.zeroValue9; have u9 := run_underlying Tryz.underlying9
 have t5 := Tryz.underlying5; have a5 := Tryz.isAgg5; have z5 := Tryz.sizeOf5; have v5 := Tryz.zeroValue5; have u5 := run_underlying Tryz.underlying5
 go_enter Tryz.func20, Tryz.ntmps20
 go_wp2
 go_region_o
 all_goals (go_wp2; go_ret; exact ⟨rfl, rfl⟩)
section
variable {F : Nat → Prop} {s s' : St} {G : Gm} {vals vals' : List Value} {w w' : World}
theorem Holds.slotsTo (h : Holds F s G vals w) (hb : s'.boxes = s.boxes) (ho : s'.owns = s.owns) (hs : All2 (HA (HR F s' G w)) s'.slots vals') : Holds F s' G vals' w := by
 obtain ⟨sl, bx, ow⟩ := s
 obtain ⟨sl', bx', ow'⟩ := s'
 cases hb
 cases ho
 exact ⟨hs, h.box, h.own, h.bb, h.bo, h.oo, h.nF, h.Flt, h.ty, h.gl⟩
theorem box3 {b0 b1 b2 : L} {cs : Array Value} {R : L → Value → Prop} (h : All2 R [b0, b1, b2] cs.toList) : ∃ v0 v1 v2, cs = #[v0, v1, v2] ∧ R b0 v0 ∧ R b1 v1 ∧ R b2 v2 := by
 obtain ⟨l⟩ := cs
 cases h with
 | cons h0 h => cases h with
  | cons h1 h => cases h with
   | cons h2 h => cases h; exact ⟨_, _, _, rfl, h0, h1, h2⟩
end
theorem Ax7 : Ac Tryz.prog 66 ⟨bdI, bdO, B9 bdI.tys bdO.tys copyC⟩ := by
 refine ⟨⟨Tryz.f66, by kernel_rfl, by kernel_rfl, by kernel_rfl⟩, fun ps qs hrun F G vals w hH => ?_⟩
 simp only [B9] at hrun
 split at hrun
 rotate_left
 ·cases hrun
 rename_i x hx
 obtain ⟨y, hy, hq⟩ := Option.bind_eq_some_iff.1 hrun
 cases hq
 have hps := Gu hx
 subst hps
 obtain ⟨z, d, xs⟩ := x
 cases hy
 have hsl : All2 (HA (HR F (enc bdI (szS bdI) (toPL bdI.tys (z, d, xs))) G w)) [lf (.ptr 0 0)] vals := hH.slots
 cases hsl with
 | cons h0 hsl =>
 cases hsl
 cases (show _ = Value.pointer (some ⟨G.bx 0, 0, none⟩) from h0)
 obtain ⟨cs, et, hc, hl⟩ := hH.box 0 [.bld 0 60 z, .own 0, .pv ⟨.int .i64, d⟩] rfl
 obtain ⟨v0, v1, v2, rfl, k0, k1, k2⟩ := box3 hl
 have het : et = 60 := by
  have h1 := hH.ty 0 _ rfl _ _ _ hc
  have h2 : G.et 0 = 60 := k0.2
  rw [h1, h2]
 subst het
 have hcell : w.cell? ⟨G.bx 0, 0, none⟩ = some v0 := by rw [Lib.cell_of_heap hc]; rfl
 cases z with
 | false =>
  cases (show v0 = Value.pointer (some ⟨G.bx 0, 0, none⟩) from k0.1)
  refine (Ax9 (G.bx 0) w hcell).mono fun e w' he => ?_
  obtain ⟨rfl, rfl⟩ := he
  exact ⟨G, [], rfl, hH.slotsTo rfl rfl .nil, ⟨Keeps.refl _ _, fun k hk => .inl hk, fun _ _ => ⟨rfl, rfl⟩, fun _ _ o ho => ⟨⟨o, ho⟩, rfl⟩⟩⟩
 | true =>
  cases (show v0 = Value.pointer none from k0.1)
  refine (Ax8 (G.bx 0) w hcell (by simp [World.shape?, hc]) (Lib.frozen_of_heap hc 0)).mono fun e w' he => ?_
  obtain ⟨rfl, rfl⟩ := he
  have hst := Avx hH (b := 0) (ls := [.bld 0 60 true, .own 0, .pv ⟨.int .i64, d⟩]) rfl (k := 0) (new := [.bld 0 60 false]) (by simp) (vs := [.pointer (some ⟨G.bx 0, 0, none⟩)]) (.cons ⟨rfl, k0.2⟩ .nil) hc
  rw [Bac hc]
  obtain ⟨m1, m2⟩ := hst
  have m3 := m2 1 1
  refine ⟨G, [], rfl, Holds.slotsTo m1 rfl rfl .nil, ⟨m3.keeps, fun k hk => m3.fresh k hk, m3.gb, fun l hl o ho => m3.go l hl o ho⟩⟩
theorem strC_ok : Ac Tryz.prog 20 ⟨bdI, bdS, B9 bdI.tys bdS.tys strC⟩ := by
 refine ⟨⟨Tryz.f20, by kernel_rfl, by kernel_rfl, by kernel_rfl⟩, fun ps qs hrun F G vals w hH => ?_⟩
 simp only [B9] at hrun
 split at hrun
 rotate_left
 ·cases hrun
 rename_i x hx
 obtain ⟨y, hy, hq⟩ := Option.bind_eq_some_iff.1 hrun
 cases hq
 have hps := Gu hx
 subst hps
 obtain ⟨z, d, xs⟩ := x
 unfold strC at hy
 split at hy
 ·cases hy
 rename_i hne
 cases hy
 simp only at hne
 have hsl : All2 (HA (HR F (enc bdI (szS bdI) (toPL bdI.tys (z, d, xs))) G w)) [lf (.ptr 0 0)] vals := hH.slots
 cases hsl with
 | cons h0 hsl =>
 cases hsl
 cases (show _ = Value.pointer (some ⟨G.bx 0, 0, none⟩) from h0)
 obtain ⟨cs, et, hc, hl⟩ := hH.box 0 [.bld 0 60 z, .own 0, .pv ⟨.int .i64, d⟩] rfl
 obtain ⟨v0, v1, v2, rfl, k0, k1, k2⟩ := box3 hl
 have het : et = 60 := by
  have h1 := hH.ty 0 _ rfl _ _ _ hc
  have h2 : G.et 0 = 60 := k0.2
  rw [h1, h2]
 subst het
 have ho : Ab (enc bdI (szS bdI) (toPL bdI.tys (z, d, xs))) 0 = some ⟨5, .int .u8, xs⟩ := rfl
 obtain ⟨_, cs2, hr, hel⟩ := hH.own 0 _ ho
 have hrep := Adc hH ho
 rcases hr.2 with ⟨_, hn⟩ | ⟨g, cap, cur, hv, _, hh, hnc, hm, hs, htk⟩
 ·exact absurd (List.length_eq_zero_iff.1 hn) hne
 cases (show v1 = G.ow 0 from Ts hH ho k1.1 (List.length_pos_iff.2 hne))
 have hrep2 : Dr w (fun k => okS F (enc bdI (szS bdI) (toPL bdI.tys (z, d, xs))) G w k ∨ (G.ow 0).ownBlock = some k) (fun x es => Rep w _ (.int .u8) x es) 1 xs [G.ow 0] := hrep
 obtain ⟨A, c, e1, _, hcm, hx2⟩ := hrep2
 obtain ⟨ad, rfl, hsp, _, hel2⟩ := hx2 hne
 rw [hv] at e1
 cases e1
 obtain ⟨l, hlx, hcl⟩ := Afk (ok := fun k => okS F (enc bdI (szS bdI) (toPL bdI.tys (z, d, xs))) G w k ∨ (G.ow 0).ownBlock = some k) hsp xs ⟨g, 0, none⟩ hsp hel2
 have hll : List.length (α := Int) xs = l.length := (congrArg (List.length (α := Int)) hlx).symm.trans (List.length_map _)
 have hl0 : l ≠ [] := by rintro rfl; exact hne (by rw [← hlx]; rfl)
 have hrun2 := Bat (G.bx 0) g cap v0 v2 cur l w hl0 (by rw [hc, hv]; exact congrArg (fun n => some (Obj.cells #[v0, Value.slice (some ⟨g, 0, none⟩) n cap, v2] 60 (0, 0))) hll) hh (Nat.le_trans (Nat.le_of_eq hll.symm) hnc) hm hs (fun j x hj => by
  obtain ⟨hj1, rfl⟩ := List.getElem?_eq_some_iff.1 hj
  have := hcl j hj1
  rwa [Gh, Nat.zero_add] at this)
 refine hrun2.mono fun e w' he => ?_
 obtain ⟨rfl, rfl⟩ := he
 generalize hs0 : enc bdI (szS bdI) (toPL bdI.tys (z, d, xs)) = s0 at *
 have hgl : Live s0 G g := .inr ⟨0, _, ho, by rw [hv]; rfl⟩
 have hk := Acu (bs := []) (os := [0]) (si := ⟨[], [], []⟩) (Gi := G) (w' := w) hH (Keeps.refl _ _) (by
  rintro j (⟨b, ls, hb, _⟩ | ⟨l, x, hx, _⟩)
  ·simp [Aa] at hb
  ·simp [Ab] at hx)
 have hd := hk.1.grew (Grew.drew w)
 have hng : ¬ Live (B8 s0 [] [0]) G g := by
  rintro (⟨b, ls, hb, e⟩ | ⟨l', x, hx, e⟩)
  ·obtain ⟨q, hq, _, _⟩ := Hu hb
   exact hH.bo b q 0 _ hq ho (by rw [hv, e]; rfl)
  ·obtain ⟨hx', hn⟩ := F3 hx
   have := hH.oo l' 0 x _ g hx' ho e (by rw [hv]; rfl)
   subst this
   exact hn (by simp)
 have hlen0 : l.length ≠ 0 := by simpa using hl0
 have hw : w.drew.freeze ⟨g, 0, none⟩ l.length = { w.drew with heap := w.drew.heap.modify g fun ob => match ob with
   | .cells c elem (lo, hi) => .cells c elem (if lo == hi then (0, 0 + l.length) else (min lo 0, max hi (0 + l.length)))
   | ob => ob } := by
  unfold World.freeze
  rw [if_neg hlen0]
  rfl
 generalize hw' : w.drew.freeze ⟨g, 0, none⟩ l.length = w2 at hw
 have hs2 : w2.heap.size = w.drew.heap.size := by rw [hw]; simp
 have hb2 : ∀ k, k ≠ g → w2.heap[k]? = w.drew.heap[k]? := by
  intro k hk
  rw [hw]
  simp only [Array.getElem?_modify]
  rw [if_neg (fun e => hk e.symm)]
 have hhd : w.drew.heap[g]? = some (.cells cur 5 (0, 0)) := hh
 have hc2 : Hc w.drew w2 g := by
  intro ad had
  rw [hw]
  simp only [World.cell?, Array.getElem?_modify, had, if_true, hhd, Option.map_some]
 have h5 := hd.mark hng hs2 hc2 hb2 fun x hx e => (hH.gl x hx).1 (by rw [e]; exact hgl)
 subst hs0
 refine ⟨G, [.string ⟨l.toArray⟩], rfl, Holds.slotsTo h5 rfl rfl (.cons ?_ .nil), ⟨⟨by rw [hw]; rfl, by rw [hw]; rfl, by rw [hw]; rfl, by rw [hs2]; exact Nat.le_refl _, fun k hk1 hk2 => (hb2 k fun e => hk2 (by rw [e]; exact hgl)).trans rfl⟩, fun k hk2 => ?_, fun _ _ => ⟨rfl, rfl⟩, fun l' hl' x hx => ?_⟩⟩
 ·have hsz : (⟨l.toArray⟩ : ByteArray).size ≤ maxLen := Nat.le_trans (Nat.le_of_eq (show l.toArray.size = List.length (α := Int) xs from hll.symm)) (Nat.le_trans hnc hm)
  exact (show ∃ y : ByteArray, [Value.string ⟨l.toArray⟩] = [.string y] ∧ bs y = xs ∧ y.size ≤ maxLen from ⟨_, rfl, by rw [bs_mk]; exact hlx, hsz⟩)
 ·exact hk.2.fresh k hk2
 ·have : l' = 0 := Nat.lt_one_iff.1 hl'
  subst this
  cases hx
def u8s (l : List Int) : List UInt8 := l.map fun n => UInt8.ofNat n.toNat
theorem Av8 (y : ByteArray) : u8s (bs y) = y.data.toList := by
 unfold u8s bs
 rw [List.map_map]
 conv => rhs; rw [← List.map_id y.data.toList]
 apply List.map_congr_left
 intro b _
 simp
def piI : Sk := ⟨[.lf (.pv .str), .lf (.pv (.int .i64)), .lf (.pv (.int .i64))], [], []⟩
def piO : Sk := ⟨[.lf (.pv (.int .i64)), .lf (.err)], [], []⟩
def Kz (x : List Int × Int × Int) : Option (Int × Bool) :=
 if x.2.1 = 10 ∧ x.2.2 = 64 ∧ x.1.length ≤ 9223372036854775806 then
  (match Lib.parseIntB 64 (u8s x.1) with
  | .ok v => if (Lit.int .i64 v).wf then some (v, true) else none
  | _ => none)
 else none
theorem A8v : Ac Tryz.prog 108 ⟨piI, piO, B9 piI.tys piO.tys Kz⟩ := by
 refine Aeh (kin := piI) (kout := piO) rfl rfl rfl rfl Kz ⟨Tryz.f108, by kernel_rfl, by kernel_rfl, by kernel_rfl⟩ fun x y hxy F G vals w hH => ?_
 obtain ⟨a0, a1, a2⟩ := x
 have hs : All2 (HA (HR F (enc piI 0 (toPL piI.tys (a0, a1, a2))) G w)) [lf (.pv ⟨.str, a0⟩), lf (.pv ⟨.int .i64, a1⟩), lf (.pv ⟨.int .i64, a2⟩)] vals := hH.slots
 cases hs with
 | cons h0 hs => cases hs with
  | cons h1 hs => cases hs with
   | cons h2 hs =>
    cases hs
    obtain ⟨s, rfl, e0, hmax⟩ := Aqj h0
    have e1 := (N5 h1).1
    have e2 := (N5 h2).1
    subst e0
    subst e1
    subst e2
    unfold Kz at hxy
    split at hxy
    ·rename_i hc
     obtain ⟨c1, c2, c3⟩ := hc
     simp only at c1 c2 c3 hxy
     subst c1 c2
     split at hxy
     ·rename_i v hv
      split at hxy
      case isFalse => cases hxy
      rename_i hwf
      cases hxy
      rw [Av8] at hv
      have hl : s.size ≤ 9223372036854775806 := by
       have e : (bs s).length = s.size := by
        unfold bs
        rw [List.length_map]
        rfl
       rw [← e]
       exact c3
      refine (Tryz.strconv_ParseInt_10_at64_ok s hl v hv w).mono fun e w' he => ?_
      refine ⟨[.int .i64 v, .nilIface], he.1, ?_, .cons ?_ (.cons ?_ .nil)⟩
      ·rcases he.2 with rfl | ⟨t, rfl⟩
       ·exact Grew.refl _
       ·exact Aco ⟨rfl, rfl, rfl, by rw [Lib.bytesWorld_size]; omega, fun i hi => Lib.bytesWorld_at_old w _ t i (by omega)⟩
      ·exact A7s hwf
      ·exact A7t
     ·cases hxy
    ·cases hxy
def toBy (l : List Int) : ByteArray := ⟨(u8s l).toArray⟩
theorem toBy_bs (y : ByteArray) : toBy (bs y) = y := by
 unfold toBy
 rw [Av8]
def fiI : Sk := ⟨[.lf (.pv (.int .i64)), .lf (.pv (.int .i64))], [], []⟩
def fiO : Sk := ⟨[.lf (.pv .str)], [], []⟩
def fmtI (x : Int × Int) : Option (List Int) := if x.2 = 10 ∧ (Lib.itoa x.1).length ≤ maxLen then some (bs ⟨(Lib.itoa x.1).toArray⟩) else none
theorem fmtI_ok : Ac Tryz.prog 40 ⟨fiI, fiO, B9 fiI.tys fiO.tys fmtI⟩ := by
 refine Aeh (kin := fiI) (kout := fiO) rfl rfl rfl rfl fmtI ⟨Tryz.f40, by kernel_rfl, by kernel_rfl, by kernel_rfl⟩ fun x y hxy F G vals w hH => ?_
 obtain ⟨a0, a1⟩ := x
 have hs : All2 (HA (HR F (enc fiI 0 (toPL fiI.tys (a0, a1))) G w)) [lf (.pv ⟨.int .i64, a0⟩), lf (.pv ⟨.int .i64, a1⟩)] vals := hH.slots
 cases hs with
 | cons h0 hs => cases hs with
  | cons h1 hs =>
   cases hs
   obtain ⟨e0, w0⟩ := N5 h0
   obtain ⟨e1, w1⟩ := N5 h1
   subst e0
   subst e1
   unfold fmtI at hxy
   split at hxy
   ·rename_i hc
    obtain ⟨c1, c2⟩ := hc
    simp only at c1 c2 hxy
    subst c1
    cases hxy
    obtain ⟨et, fr, hg⟩ := (hH.gl (0, (Lib.pow10Tab.map fun z => Value.int .u64 z).toArray) (by simp [gTab])).2
    have hb := Lg.1 w0
    simp [IntKind.min, IntKind.max, IntKind.signed, IntKind.bits] at hb
    have htab : Lib.TabIs Tryz.prog w "internal/strconv.uint64pow10" .u64 Lib.pow10Tab := by
     unfold Lib.TabIs World.var?
     rw [show Tryz.prog.globalNamed "internal/strconv.uint64pow10" = some 0 by kernel_rfl]
     simp only [Option.bind_some, hg]
    refine (Tryz.strconv_FormatInt_10 a0 (by omega) (by omega) w htab).mono fun e w' he => ?_
    obtain ⟨rfl, k, os, rfl⟩ := he
    refine ⟨[.string ⟨(Lib.itoa a0).toArray⟩], rfl, Aco (Lib.below_grow _ w (Nat.le_refl _) k os), .cons (Aqk ?_) .nil⟩
    exact c2
   ·cases hxy
def rpI : Sk := ⟨[.lf (.pv .str), .lf (.pv (.int .i64))], [], []⟩
def rpO : Sk := ⟨[.lf (.pv .str)], [], []⟩
def repB (x : List Int × Int) : List UInt8 := Lib.repeatL (toBy x.1).data.toList x.2.toNat
def repS (x : List Int × Int) : Option (List Int) :=
 if 0 ≤ x.2 ∧ x.2 ≤ 9223372036854775807 ∧ x.1.length * x.2.toNat ≤ 140737488355328 ∧ (repB x).length ≤ maxLen then some (bs ⟨(repB x).toArray⟩) else none
theorem repS_ok : Ac Tryz.prog 38 ⟨rpI, rpO, B9 rpI.tys rpO.tys repS⟩ := by
 refine Aeh (kin := rpI) (kout := rpO) rfl rfl rfl rfl repS ⟨Tryz.f38, by kernel_rfl, by kernel_rfl, by kernel_rfl⟩ fun x y hxy F G vals w hH => ?_
 obtain ⟨a0, a1⟩ := x
 have hs : All2 (HA (HR F (enc rpI 0 (toPL rpI.tys (a0, a1))) G w)) [lf (.pv ⟨.str, a0⟩), lf (.pv ⟨.int .i64, a1⟩)] vals := hH.slots
 cases hs with
 | cons h0 hs => cases hs with
  | cons h1 hs =>
   cases hs
   obtain ⟨s, rfl, e0, hmax⟩ := Aqj h0
   have e1 := (N5 h1).1
   subst e0
   subst e1
   unfold repS at hxy
   split at hxy
   ·rename_i hc
    obtain ⟨c1, c2, c3, c4⟩ := hc
    simp only at c1 c2 c3 c4 hxy
    cases hxy
    have hlen : (bs s).length = s.size := D3 s
    have hr := Tryz.strings_Repeat s a1.toNat w (by omega) (by rw [← hlen]; exact c3)
    have ea : ((a1.toNat : Nat) : Int) = a1 := Int.toNat_of_nonneg c1
    rw [ea] at hr
    refine hr.mono fun e w' he => ?_
    obtain ⟨rfl, hb⟩ := he
    have hB : repB (bs s, a1) = Lib.repeatL s.data.toList a1.toNat := by unfold repB; rw [toBy_bs]
    have c5 : (⟨(repB (bs s, a1)).toArray⟩ : ByteArray).size ≤ maxLen := c4
    exact ⟨[.string ⟨(repB (bs s, a1)).toArray⟩], by rw [hB]; rfl, Aco hb, .cons (Aqk c5) .nil⟩
   ·cases hxy
theorem A1k {G : Gm} {w : World} {ok : Nat → Prop} {os : List (Option Own)} {l : L} {v : Value} (hf : W7 l = true) (h : HL G w ok os l v) : ∀ (G : Gm) (w : World) (ok : Nat → Prop) (os : List (Option Own)), HL G w ok os l v := by
 intro G' w' ok' os'
 cases l with
 | pv p => exact Ahq (p := p) hf h w' ok'
 | cst k => exact h
 | _ => cases hf
def cloS (slots : List AV) (new : List (List L)) : St := { slots := slots, boxes := (new.map fun ls => some (ls.map fun _ => .dead)) ++ List.replicate 80 none, owns := [] }
def cloK (e : XE) (s : St) : Option St := match e with | .normal => some s | _ => none
theorem Afe {w : World} : ∀ {ks : List Nat} {ns : List (List L)}, Lh w ks ns → ks.length = ns.length ∧ ∀ (i : Nat) (ls : List L), ns[i]? = some ls → ∃ k, ks[i]? = some k ∧ ∃ cs et, w.heap[k]? = some (.cells cs et (0, 0)) ∧ cs.size = ls.length ∧ ∀ v ∈ cs.toList, v.oneCell' = true
 | [], [], _ => ⟨rfl, fun i ls h => by simp at h⟩
 | k :: r, ls :: q, h => by
  obtain ⟨h1, h2⟩ := Afe h.2
  refine ⟨by simp [h1], fun i l hi => ?_⟩
  cases i with
  | zero => cases hi; exact ⟨k, rfl, h.1⟩
  | succ i => exact h2 i l (by simpa using hi)
 | [], _ :: _, h => by cases h
 | _ :: _, [], h => by cases h
theorem Aff {w w' : World} : ∀ {ks : List Nat} {ns : List (List L)}, ks.length = ns.length → (∀ (i k : Nat) (ls : List L), ks[i]? = some k → ns[i]? = some ls → ∃ cs et, w.heap[k]? = some (.cells cs et (0, 0)) ∧ ∃ cs', w'.heap[k]? = some (.cells cs' et (0, 0)) ∧ All2 (fun l v => ∀ (G : Gm) (w : World) (ok : Nat → Prop) (os : List (Option Own)), HL G w ok os l v) ls cs'.toList) → Blks w w' ks ns
 | [], [], _, _ => trivial
 | k :: r, n :: q, hl, h => ⟨h 0 k n rfl rfl, Aff (by simpa using hl) fun i k' ls h1 h2 => h (i + 1) k' ls (by simpa using h1) (by simpa using h2)⟩
theorem Ax5 {C : Cfg} {c : Code} {slots : List AV} {new : List (List L)} {ks : List Nat} (T : St → Prop)
  (hcode : ∀ (F : Nat → Prop) (G : Gm) (a : Act) (w : World) (Q : Exit → Act → World → Prop), Holds F (cloS slots new) G a.tmps.toList w →
   (∀ s1, T s1 → ∀ G' a' w', Holds F s1 G' a'.tmps.toList w' → Step C.npB C.npO (cloS slots new) G w s1 G' w' → a'.defers = a.defers → Q .normal a' w') → c.wp C.P Q a w)
  (hkn : C.npB = new.length)
  {w : World} (hn : ks.Nodup) (hb : Lh w ks new) (hgl : ∀ x ∈ gTab, x.1 ∉ ks ∧ ∃ et fr, w.heap[x.1]? = some (.cells x.2 et fr)) {a : Act}
  (hs : ∀ (F : Nat → Prop) (G : Gm), (∀ i k, ks[i]? = some k → G.bx i = k) → All2 (HA (HR F (cloS slots new) G w)) slots a.tmps.toList)
  (hbox : ∀ s1, T s1 → ∀ b ls, new[b]? = some ls → Aa s1 b = some ls) (hflat : new.all (fun ls => ls.all W7) = true)
  {Q : Exit → Act → World → Prop} (hQ : ∀ a' w', Keeps (fun k => k ∈ ks) w w' → Blks w w' ks new → a'.defers = a.defers → Q .normal a' w') : c.wp C.P Q a w := by
 obtain ⟨hlen, hget⟩ := Afe hb
 let et : Nat → Nat := fun i => match ks[i]?.bind (fun k => w.heap[k]?) with
  | some (.cells _ t _) => t
  | _ => 0
 let G : Gm := { bx := fun i => (ks[i]?).getD 0, ow := fun _ => undef, et := et }
 have hG : ∀ i k, ks[i]? = some k → G.bx i = k := fun i k h => by show (ks[i]?).getD 0 = k; rw [h]; rfl
 have hbx : ∀ b ls, Aa (cloS slots new) b = some ls → ∃ n, new[b]? = some n ∧ ls = n.map fun _ => L.dead := by
  intro b ls h
  simp only [Aa, cloS] at h
  by_cases hlt : b < new.length
  ·rw [List.getElem?_append_left (by simpa using hlt), List.getElem?_map] at h
   cases hn : new[b]? with
   | none => rw [hn] at h; cases h
   | some n => rw [hn] at h; cases h; exact ⟨n, rfl, rfl⟩
  ·rw [List.getElem?_append_right (by simpa using hlt), List.getElem?_replicate] at h
   split at h <;> cases h
 have hmem : ∀ j, Live (cloS slots new) G j → j ∈ ks := by
  rintro j (⟨b, ls, hb2, rfl⟩ | ⟨l, o, ho, _⟩)
  ·obtain ⟨n, hn2, rfl⟩ := hbx b ls hb2
   obtain ⟨k, hk, _⟩ := hget b n hn2
   rw [hG b k hk]
   exact List.mem_of_getElem? hk
  ·simp [Ab, cloS] at ho
 have hH : Holds (fun j => j < w.heap.size ∧ j ∉ ks) (cloS slots new) G a.tmps.toList w := by
  refine ⟨hs _ G hG, fun b ls hb2 => ?_, fun l o ho => by simp [Ab, cloS] at ho, fun b b' ls ls' k1 k2 e => ?_, fun b ls l o _ ho => by simp [Ab, cloS] at ho, fun l l' o o' k ho => by simp [Ab, cloS] at ho, fun k hL hF => hF.2 (hmem k hL), fun k hF => hF.1, fun b ls hb2 cs3 et3 fr3 hc3 => ?_, fun x hx => ⟨fun hL => (hgl x hx).1 (hmem _ hL), (hgl x hx).2⟩⟩
  ·obtain ⟨n, hn2, rfl⟩ := hbx b ls hb2
   obtain ⟨k, hk, cs, et, q1, q2, q3⟩ := hget b n hn2
   rw [hG b k hk]
   refine ⟨cs, et, q1, All2.of_get (by simp [q2]) fun i x y hx hy => ?_⟩
   simp only [List.getElem?_map] at hx
   cases hni : n[i]? with
   | none => rw [hni] at hx; cases hx
   | some z => rw [hni] at hx; cases hx; exact q3 y (List.mem_of_getElem? hy)
  ·obtain ⟨n, hn2, rfl⟩ := hbx b ls k1
   obtain ⟨n', hn2', rfl⟩ := hbx b' ls' k2
   obtain ⟨k, hk, _⟩ := hget b n hn2
   obtain ⟨k', hk', _⟩ := hget b' n' hn2'
   rw [hG b k hk, hG b' k' hk'] at e
   subst e
   exact (List.getElem?_inj (List.getElem?_eq_some_iff.1 hk).1 hn).1 (hk.trans hk'.symm)
  ·obtain ⟨n, hn2, rfl⟩ := hbx b ls hb2
   obtain ⟨k, hk, cs, et', q1, q2, q3⟩ := hget b n hn2
   rw [hG b k hk] at hc3
   show et3 = et b
   simp only [et, hk, Option.bind_some, hc3]
 refine hcode _ G a w Q hH fun s1 hT G' a' w' k1 k2 k3 => ?_
 refine hQ a' w' ⟨k2.keeps.os, k2.keeps.tape, k2.keeps.output, k2.keeps.size, fun j hj hm => k2.keeps.block j hj fun hL => hm (hmem j hL)⟩ (Aff hlen fun i k ls hk hls => ?_) k3
 obtain ⟨k', hk', cs, et', q1, q2, q3⟩ := hget i ls hls
 rw [hk] at hk'
 cases hk'
 refine ⟨cs, et', q1, ?_⟩
 obtain ⟨cs2, et2, m1, m2⟩ := k1.box i ls (hbox s1 hT i ls hls)
 have hi : i < C.npB := by rw [hkn]; exact (List.getElem?_eq_some_iff.1 hls).1
 obtain ⟨g1, g2⟩ := k2.gb i hi
 have e1 : G'.bx i = k := g1.trans (hG i k hk)
 rw [e1] at m1
 have hty := k1.ty i ls (hbox s1 hT i ls hls)
 rw [e1] at hty
 have e2 : et2 = G'.et i := hty cs2 et2 (0, 0) m1
 have hty0 : et' = G.et i := by
  show et' = et i
  simp only [et, hk, Option.bind_some, q1]
 refine ⟨cs2, by rw [m1, e2, g2, hty0], ?_⟩
 have hfl := List.all_eq_true.1 (List.all_eq_true.1 hflat ls (List.mem_of_getElem? hls))
 exact m2.imp_mem fun l v hl hv => A1k (hfl l hl) hv
def anyF (C : Cfg) (ops : Array Oper) : Nat → Array Bool → St → Option (List St)
 | 0, listed, s => match Region.ready .any ops listed with | [] => some [s] | _ => none
 | fuel + 1, listed, s => match Region.ready .any ops listed with
  | [] => some [s]
  | r => r.foldr (fun i acc => match ops[i]? with
   | some o => ((Aj (opD C) ops s o).val).bind fun s' => (anyF C ops fuel (listed.setIfInBounds i true) s').bind fun l => acc.map fun m => l ++ m
   | none => none) (some [])
theorem Aiz {f : Nat → Option (List St)} : ∀ {r : List Nat} {L : List St}, r.foldr (fun i acc => (f i).bind fun l => acc.map fun m => l ++ m) (some []) = some L → ∀ i ∈ r, ∃ l, f i = some l ∧ ∀ x ∈ l, x ∈ L
 | [], L, h, i, hi => by simp at hi
 | j :: r, L, h, i, hi => by
  simp only [List.foldr_cons] at h
  obtain ⟨l, h1, h2⟩ := Option.bind_eq_some_iff.1 h
  obtain ⟨m, h3, rfl⟩ := Option.map_eq_some_iff.1 h2
  rcases List.mem_cons.1 hi with rfl | hi
  ·exact ⟨l, h1, fun x hx => List.mem_append_left _ hx⟩
  ·obtain ⟨l2, h4, h5⟩ := Aiz h3 i hi
   exact ⟨l2, h4, fun x hx => List.mem_append_right _ (h5 x hx)⟩
theorem Awq {C : Cfg} {F : Nat → Prop} (hE : Bl C) {ops : Array Oper} (Q : Exit → Act → World → Prop) :
  ∀ (fuel : Nat) (listed : Array Bool) (s : St) (L : List St) (G : Gm) (a : Act) (w : World), anyF C ops fuel listed s = some L → Holds F s G a.tmps.toList w →
  (∀ sf ∈ L, ∀ G' a' w', Holds F sf G' a'.tmps.toList w' → Step N0 N0 s G w sf G' w' → a'.defers = a.defers → Q .normal a' w') →
  wpAny C.P .any ops Q fuel listed a w := by
 intro fuel
 induction fuel with
 | zero =>
  intro listed s L G a w h hH hQ
  unfold anyF at h
  split at h
  ·rename_i hr
   cases h
   exact ⟨hr, hQ s (by simp) G a w hH (Step.refl _ _ _ _ _) rfl⟩
  ·cases h
 | succ fuel ih =>
  intro listed s L G a w h hH hQ
  unfold anyF at h
  split at h
  ·rename_i hr
   cases h
   refine ⟨fun _ => hQ s (by simp) G a w hH (Step.refl _ _ _ _ _) rfl, fun i hi => ?_⟩
   rw [hr] at hi
   simp at hi
  ·rename_i hne
   refine ⟨fun hr => absurd hr hne, fun i hi => ?_⟩
   have h' : (Region.ready .any ops listed).foldr (fun i acc => (((ops[i]?).bind fun o => ((Aj (opD C) ops s o).val).bind fun s' => anyF C ops fuel (listed.setIfInBounds i true) s')).bind fun l => acc.map fun m => l ++ m) (some []) = some L := by
    rw [← h]
    congr 1
    funext i acc
    cases ops[i]? with
    | none => rfl
    | some o =>
     simp only [Option.bind_some]
     cases (Aj (opD C) ops s o).val <;> rfl
   obtain ⟨l, h1, h2⟩ := Aiz h' i hi
   obtain ⟨o, ho, h3⟩ := Option.bind_eq_some_iff.1 h1
   obtain ⟨s', h4, h5⟩ := Option.bind_eq_some_iff.1 h3
   have hstep := Arq (fok_D hE) hH h4 (wpAny C.P .any ops Q fuel (listed.setIfInBounds i true)) Q fun G1 a1 w1 k1 k2 k3 =>
    ih (listed.setIfInBounds i true) s' l G1 a1 w1 h5 k1 fun sf hsf G2 a2 w2 m1 m2 m3 => hQ sf (h2 sf hsf) G2 a2 w2 m1 (k2.trans m2) (m3.trans k3)
   unfold wpOp
   simp only [ho]
   split
   ·rename_i hw; rw [if_pos hw] at hstep; exact .inl hstep
   ·rename_i hw; rw [if_neg hw] at hstep; exact hstep
theorem A9e {C : Cfg} {F : Nat → Prop} {s : St} {G : Gm} {a : Act} {w : World} {Q : Exit → Act → World → Prop} {id : Nat} (hm : C.P.follows .mixedOrders = true) (hE : Bl C) {ops : Array Oper} {L : List St} (h : anyF C ops ops.size (Array.replicate ops.size false) s = some L) (hH : Holds F s G a.tmps.toList w)
  (hQ : ∀ sf ∈ L, ∀ G' a' w', Holds F sf G' a'.tmps.toList w' → Step N0 N0 s G w sf G' w' → a'.defers = a.defers → Q .normal a' w') : (Code.region id ops true).wp C.P Q a w := by
 refine wp_region_any hm ?_
 have hg : Grew w { w with drawn := w.drawn + 1 } := ⟨rfl, rfl, rfl, Nat.le_refl _, fun _ _ _ => rfl⟩
 have hH2 : Holds F s G a.tmps.toList { w with drawn := w.drawn + 1 } := hH.grew hg
 exact Awq hE Q _ _ s L G a _ h hH2 fun sf hs G' a' w' m1 m2 m3 => hQ sf hs G' a' w' m1 ((Step.grew hg).trans m2) m3
theorem opok {P : Program} {ops : Array Oper} {Q : Exit → Act → World → Prop} {a : Act} {w w1 : World} {rest : List Oper} {o : Oper} {v : Value} (hg : o.guard = none) (h : (execOp a.eval o).run P w = .ok (.value v) w1) (hr : wpList P ops Q rest (a.put o.dst v) w1) : wpList P ops Q (o :: rest) a w :=
 wpList_plain hg fun K hK => by unfold Oper.wp; rw [h]; exact hK _ _ hr
noncomputable def cloC (n npB : Nat) : Cfg := { P := Tryz.prog, env := fun _ => [], n := n, npB := npB, npO := 0, hint := fun _ => none, pops := [] }
theorem cloE (n npB : Nat) : Bl (cloC n npB) := fun g sg h => by cases h
theorem cloD (n npB : Nat) : Gf (cloC n npB) := Ms (by kernel_rfl) (cloE n npB)
def Dw (ps : List PL) : List (List L) := match ps with
 | [⟨.int .i64, e⟩, ⟨.int .i64, p⟩] => [[.pv ⟨.int .i64, (0 : Int)⟩, .cst .sl, .pv ⟨.int .i64, (0 : Int)⟩, .pv ⟨.int .i64, (0 : Int)⟩, .pv ⟨.int .i64, (0 : Int)⟩, .pv ⟨.int .i64, (0 : Int)⟩, .pv ⟨.bool, false⟩, .pv ⟨.int .i64, (0 : Int)⟩], [.pv ⟨.int .i64, e⟩], [.pv ⟨.int .i64, p⟩]]
 | _ => []
set_option maxHeartbeats 2000000 in
theorem clo32_R (kd : Sk) (caps : List Nat) (h : caps.length = 3) : CloR Tryz.prog { g := 32, kd := kd, caps := caps, pt := 75, tp := [.int .i64, .int .i64], pg := true, new := Dw } := by
 intro args w hs
 refine ⟨⟨Tryz.f32, by kernel_rfl, by kernel_rfl, by kernel_rfl⟩, callsD_of_wpS Tryz.func32 rfl fun c₀ cs hu => ?_⟩
 have hs2 : args.size = 3 := hs.trans h
 obtain ⟨x0, x1, x2, rfl⟩ : ∃ x0 x1 x2, args = #[x0, x1, x2] := by
  rcases args with ⟨l⟩
  match l, hs2 with
  | [x0, x1, x2], _ => exact ⟨x0, x1, x2, rfl⟩
 apply wpS_seq
 apply wpS_region
 simp [wpOpsS, go_sem, recoverD, hu, Tryz.ntmps32, Exit.thenS]
 refine wpS_of_wp ?_
 go_wp2
 cases c₀
 simp_all [bodyPostS, results, Tryz.results32]
noncomputable def Aek : Code := match Ci Tryz.f32 with
 | .seq _ (.block _ (.seq _ (.cond _ _ (.seq _ (.cond _ c _))))) => c
 | _ => .skip
def Jh (e p : Int) : List AV := [lf (.ptr 0 0), lf (.ptr 1 0), lf (.ptr 2 0), .dead, .dead, .dead, .dead, .dead, .dead, .dead, .dead, .cv (.agg [.pv ⟨.int .i64, e⟩, .pv ⟨.int .i64, p⟩]), .dead, .dead, .dead, .dead, .dead]
noncomputable def r6 : Code := match Aek with | .seq a _ => a | _ => .skip
noncomputable def r7o : Array Oper := match Aek with | .seq _ (.region _ ops _) => ops | _ => #[]
def s32 (e p : Int) : St := cloS (Jh e p) (Dw [⟨.int .i64, e⟩, ⟨.int .i64, p⟩])
theorem t32_6 (e p : Int) : (ev (cloC 17 3) 0 r6 (s32 e p) cloK).isSome = true := by kernel_rfl
theorem t32_B (e p : Int) : ((ev (cloC 17 3) 0 r6 (s32 e p) cloK).bind fun s6 => (anyF (cloC 17 3) r7o r7o.size (Array.replicate r7o.size false) s6).map fun L => L.map fun s => [Aa s 0, Aa s 1, Aa s 2]) = some (List.replicate 126 ((Dw [⟨.int .i64, e⟩, ⟨.int .i64, p⟩]).map some)) := by kernel_rfl
theorem t32_L (e p : Int) (s6 : St) (h : ev (cloC 17 3) 0 r6 (s32 e p) cloK = some s6) : (anyF (cloC 17 3) r7o r7o.size (Array.replicate r7o.size false) s6).isSome = true := by
 have := t32_B e p
 rw [h, Option.bind_some] at this
 obtain ⟨L, h1, _⟩ := Option.map_eq_some_iff.1 this
 rw [h1]; rfl
theorem t32_box (e p : Int) (s6 : St) (h : ev (cloC 17 3) 0 r6 (s32 e p) cloK = some s6) (L : List St) (hL : anyF (cloC 17 3) r7o r7o.size (Array.replicate r7o.size false) s6 = some L) :
  ∀ s1, s1 ∈ L → ∀ b ls, (Dw [⟨.int .i64, e⟩, ⟨.int .i64, p⟩])[b]? = some ls → Aa s1 b = some ls := by
 have := t32_B e p
 rw [h, Option.bind_some, hL, Option.map_some] at this
 have h2 := Option.some.inj this
 intro s1 hs b ls hb
 have h3 : [Aa s1 0, Aa s1 1, Aa s1 2] ∈ L.map (fun s => [Aa s 0, Aa s 1, Aa s 2]) := List.mem_map.2 ⟨s1, hs, rfl⟩
 rw [h2] at h3
 have h4 := List.eq_of_mem_replicate h3
 simp [Dw] at h4
 obtain ⟨g0, g1, g2⟩ := h4
 match b, hb with
 | 0, hb => cases hb; exact g0
 | 1, hb => cases hb; exact g1
 | 2, hb => cases hb; exact g2
set_option maxHeartbeats 1000000 in
theorem clo32_P (kd : Sk) (caps : List Nat) (h : caps.length = 3) : CloP Tryz.prog { g := 32, kd := kd, caps := caps, pt := 75, tp := [.int .i64, .int .i64], pg := true, new := Dw } := by
 intro ks w v ps hps hv hk hn hb hgl
 obtain ⟨e, p, rfl⟩ : ∃ e p : Int, ps = [⟨.int .i64, e⟩, ⟨.int .i64, p⟩] := by
  clear hv hb
  cases ps with
  | nil => cases hps
  | cons a r => cases r with
   | nil => simp [Cp] at hps
   | cons b r2 => cases r2 with
    | cons c r3 => simp [Cp] at hps
    | nil =>
     obtain ⟨t1, e⟩ := a
     obtain ⟨t2, p⟩ := b
     simp [Cp] at hps
     obtain ⟨rfl, rfl⟩ := hps
     exact ⟨e, p, rfl⟩
 obtain ⟨cs0, h0, rfl⟩ := hv
 have hcs : cs0 = [.int .i64 e, .int .i64 p] := by
  cases h0 with
  | cons a r => cases r with
   | cons b r2 =>
    cases r2
    have h1 := a.2 w (fun _ => True)
    have h2 := b.2 w (fun _ => True)
    have h1' : [_] = [Value.int .i64 e] := h1.1
    have h2' : [_] = [Value.int .i64 p] := h2.1
    rw [List.singleton_inj.1 h1', List.singleton_inj.1 h2']
 subst hcs
 have hk2 : ks.length = 3 := hk.trans h
 obtain ⟨k0, k1, k2, rfl⟩ : ∃ k0 k1 k2, ks = [k0, k1, k2] := by
  match ks, hk2 with
  | [x0, x1, x2], _ => exact ⟨x0, x1, x2, rfl⟩
 refine callsD_of_wpS Tryz.func32 rfl fun c₀ cs hu => ?_
 apply wpS_seq
 apply wpS_region
 simp [wpOpsS, go_sem, recoverD, hu, Tryz.ntmps32, Exit.thenS]
 refine wpS_of_wp (wp_block (wp_seq (wp_region_list (wpList_step fun K hK => ?_))))
 rw [if_pos (show Region.wanted _ _ = true from rfl)]
 have heq : ∀ (z : Value) (w : World), (Op.equal 20 (.iface 75 z) .nilIface).run Tryz.prog w = .ok false w := fun z w => As3 9999 20 _ Tryz.underlying20 75 z
 have heb : ∀ (z : Value) (w : World), (binOp .eql 20 (.iface 75 z) .nilIface).run Tryz.prog w = .ok (.bool false) w := fun z w => by simp [binOp, heq]
 have hgd : ∀ (z : Value) (w : World), (eqGuard .eql 20 (.tmp 6) (.const .nilIface) (.iface 75 z) .nilIface).run Tryz.prog w = .ok () w := fun z w => by unfold eqGuard; simp
 simp [Oper.wp, execOp, Act.eval, hgd, heb, Oper.upon_value]
 refine hK _ _ ?_
 show Exit.then _ _ .normal _ _
 simp only [Exit.then]
 refine wp_cond_false (by simp [Act.eval, Act.put]) ?_
 clear heq heb hgd hK K
 refine wp_seq (wp_region_list (opok (v := .tuple #[.agg #[.int .i64 e, .int .i64 p], .bool true]) (w1 := w) rfl ?_ (opok (v := .bool true) (w1 := w) rfl ?_ (opok (v := .agg #[.int .i64 e, .int .i64 p]) (w1 := w) rfl ?_ (wpList_nil ?_)))))
 ·simp [execOp, Act.eval, Act.put, Instr.typeAssert, run_underlying Tryz.underlying75]
 ·simp [execOp, Act.eval, Act.put, go_sem]
 ·simp [execOp, Act.eval, Act.put, go_sem]
 show Exit.then _ _ .normal _ _
 simp only [Exit.then]
 refine wp_cond_true (by simp [Act.eval, Act.put]) ?_
 obtain ⟨s6, hs6⟩ := Option.isSome_iff_exists.1 (t32_6 e p)
 obtain ⟨L, hL⟩ := Option.isSome_iff_exists.1 (t32_L e p s6 hs6)
 refine Ax5 (C := cloC 17 3) (c := Aek) (slots := Jh e p) (new := Dw [⟨.int .i64, e⟩, ⟨.int .i64, p⟩]) (fun s => s ∈ L) (fun F G a w Q hH hQ => ?_) rfl hn hb hgl (fun F G hG => ?_) (t32_box e p s6 hs6 L hL) rfl fun a' w' q1 q2 q3 => ?_
 ·obtain ⟨x, s', h1, h2⟩ := Er (cloE 17 3) (cloD 17 3) (by decide) (by decide) 0 r6 _ cloK s6 hs6
  have hen : x = .normal ∧ s' = s6 := by
   cases x <;> simp [cloK] at h1
   exact ⟨rfl, h1⟩
  obtain ⟨rfl, rfl⟩ := hen
  show Code.wp Tryz.prog (.seq r6 (.region 7 r7o true)) Q a w
  refine wp_seq (h2 F G a w _ hH fun G1 a1 w1 x k0 k1 k2 k3 => ?_)
  cases k0
  exact A9e (C := cloC 17 3) (by kernel_rfl) (cloE 17 3) hL k1 fun sf hsf G2 a2 w2 m1 m2 m3 => hQ sf hsf G2 a2 w2 m1 (k2.trans (m2.le (by decide) (by decide))) (m3.trans k3)
 ·have e0 := hG 0 k0 rfl
  have e1 := hG 1 k1 rfl
  have e2 := hG 2 k2 rfl
  generalize hX : Array.toList _ = vs
  have hv2 : vs = [.pointer (some ⟨k0, 0, none⟩), .pointer (some ⟨k1, 0, none⟩), .pointer (some ⟨k2, 0, none⟩), undef, undef, undef, .iface 75 (.agg #[.int .i64 e, .int .i64 p]), undef, .bool false, .tuple #[.agg #[.int .i64 e, .int .i64 p], .bool true], .bool true, .agg #[.int .i64 e, .int .i64 p], undef, undef, undef, undef, undef] := by
   rw [← hX]; kernel_rfl
  subst hv2
  have hagg : HA (HR F (cloS (Jh e p) (Dw [⟨.int .i64, e⟩, ⟨.int .i64, p⟩])) G w) (.cv (.agg [.pv ⟨.int .i64, e⟩, .pv ⟨.int .i64, p⟩])) (.agg #[.int .i64 e, .int .i64 p]) := by
   refine ⟨_, rfl, ?_⟩
   cases h0 with
   | cons a r => cases r with
    | cons b r2 =>
     have ha := a.2 w (okS F (cloS (Jh e p) (Dw [⟨.int .i64, e⟩, ⟨.int .i64, p⟩])) G w)
     have hb := b.2 w (okS F (cloS (Jh e p) (Dw [⟨.int .i64, e⟩, ⟨.int .i64, p⟩])) G w)
     exact All2.cons ha (All2.cons hb All2.nil)
  have hd : ∀ v, HA (HR F (cloS (Jh e p) (Dw [⟨.int .i64, e⟩, ⟨.int .i64, p⟩])) G w) .dead v := fun v => trivial
  have hp : ∀ i k, G.bx i = k → HA (HR F (cloS (Jh e p) (Dw [⟨.int .i64, e⟩, ⟨.int .i64, p⟩])) G w) (lf (.ptr i 0)) (.pointer (some ⟨k, 0, none⟩)) := fun i k h => by
   show Value.pointer (some ⟨k, 0, none⟩) = .pointer (some ⟨G.bx i, 0, none⟩)
   rw [h]
  exact .cons (hp 0 k0 e0) (.cons (hp 1 k1 e1) (.cons (hp 2 k2 e2) (.cons (hd _) (.cons (hd _) (.cons (hd _) (.cons (hd _) (.cons (hd _) (.cons (hd _) (.cons (hd _) (.cons (hd _) (.cons hagg (.cons (hd _) (.cons (hd _) (.cons (hd _) (.cons (hd _) (.cons (hd _) .nil))))))))))))))))
 ·have q4 : a'.defers = [] := by rw [q3]; simp only [F9]
  clear q3 hs6 hL
  cases c₀
  simp_all [bodyPostS, results, Tryz.results32, Exit.inBlock]
set_option maxHeartbeats 4000000
set_option maxRecDepth 100000
noncomputable section
abbrev yt0 : Ty := (.cons .str (.cons (.int .i64) (.cons (.int .i64) .nil)))
abbrev YT0 : Type := (List Int) × ((Int) × ((Int) × (Unit)))
abbrev zt0 : YT0 := ([], ((0 : Int), ((0 : Int), ())))
abbrev yt1 : Ty := (.cons .str (.cons (.int .i64) (.cons (.int .i64) (.cons (.int .i64) (.cons (.slice yt0) .nil)))))
abbrev YT1 : Type := (List Int) × ((Int) × ((Int) × ((Int) × ((List (YT0)) × (Unit)))))
abbrev zt1 : YT1 := ([], ((0 : Int), ((0 : Int), ((0 : Int), ([], ())))))
abbrev yt2 : Ty := (.cons (.int .i64) (.cons (.int .i64) .nil))
abbrev YT2 : Type := (Int) × ((Int) × (Unit))
abbrev zt2 : YT2 := ((0 : Int), ((0 : Int), ()))
abbrev yt3 : Ty := (.cons .str (.cons (.int .i64) (.cons (.slice (.cons (.slice (.slice yt1)) .nil)) (.cons yt2 .nil))))
abbrev YT3 : Type := (List Int) × ((Int) × ((List ((List (List (YT1))) × (Unit))) × ((YT2) × (Unit))))
abbrev zt3 : YT3 := ([], ((0 : Int), ([], (zt2, ()))))
abbrev yt4 : Ty := (.cons (.int .i64) (.cons .str (.cons (.int .i64) (.cons (.int .i64) .nil))))
abbrev YT4 : Type := (Int) × ((List Int) × ((Int) × ((Int) × (Unit))))
abbrev zt4 : YT4 := ((0 : Int), ([], ((0 : Int), ((0 : Int), ()))))
theorem Ad : Tryz.prog.follows .mixedOrders = true := by kernel_rfl
noncomputable def mkC (l : EnvL) (n b o : Nat) : Cfg := { P := Tryz.prog, env := Ee l, n := n, npB := b, npO := o }
def q0 : List SL := [.pv .str, .pv (.int .i64), .pv (.slice (.cons (.slice (.slice yt1)) .nil)), .pv (.int .i64), .pv (.int .i64)]
def q1 : List SL := [.pv (.int .i64), .pv (.slice yt3), .pv (.int .i64), .pv (.int .i64), .pv (.int .i64), .pv (.int .i64), .pv .bool, .pv (.int .i64)]
abbrev H0 : Type := (Int) × (Int) × (List (YT3)) × (Int) × (Int) × (Int) × (Int) × (Bool) × (Int)
abbrev H1 : Type := (Int) × (Int) × (Int) × (List (YT3)) × (Int) × (Int) × (Int) × (Int) × (Bool) × (Int) × (List Int) × (Int) × (List ((List (List (YT1))) × (Unit))) × (Int) × (Int)
abbrev H2 : Type := (Int) × (Int) × (Int) × (Int) × (List (YT3)) × (Int) × (Int) × (Int) × (Int) × (Bool) × (Int) × (List Int) × (Int) × (List ((List (List (YT1))) × (Unit))) × (Int) × (Int)
abbrev H3 : Type := (Int) × (Int) × (Int) × (List (YT1)) × (Int) × (Int) × (List (YT3)) × (Int) × (Int) × (Int) × (Int) × (Bool) × (Int) × (List Int) × (Int) × (List ((List (List (YT1))) × (Unit))) × (Int) × (Int)
abbrev H4 : Type := (Int) × (Int) × (Int) × (List (YT1)) × (Int) × (Int) × (Int) × (List (YT3)) × (Int) × (Int) × (Int) × (Int) × (Bool) × (Int) × (List Int) × (Int) × (List ((List (List (YT1))) × (Unit))) × (Int) × (Int)
abbrev H5 : Type := (Int) × (List (YT3)) × (Int) × (Int) × (Int) × (Int) × (Bool) × (Int)
def Aci : Sk := ⟨[.agg [.pv (.int .i64), .pv (.slice yt3), .pv (.int .i64), .pv (.int .i64), .pv (.int .i64), .pv (.int .i64), .pv .bool, .pv (.int .i64)]], [], []⟩
def Acj : Sk := ⟨[.lf (.pv .bool)], [], []⟩
def Ap1 : Sk := ⟨sparse 117 [(1, .lf (.ptr 0 0)), (3, .lf (.pv (.int .i64)))], [q1], []⟩
abbrev Acg := H0
def Kq : Acg → St := stOf Ap1 165
def Apx : Sk := ⟨sparse 117 [(1, .lf (.ptr 0 0)), (3, .lf (.pv (.int .i64))), (4, .lf (.ptr 1 0)), (5, .lf (.pv (.int .i64)))], [q1, q0], []⟩
abbrev Acc := H1
def Kn : Acc → St := stOf Apx 165
def Apy : Sk := ⟨sparse 117 [(1, .lf (.ptr 0 0)), (3, .lf (.pv (.int .i64))), (4, .lf (.ptr 1 0)), (5, .lf (.pv (.int .i64))), (6, .lf (.pv (.int .i64)))], [q1, q0], []⟩
abbrev Acd := H2
def Ko : Acd → St := stOf Apy 165
def Apz : Sk := ⟨sparse 117 [(1, .lf (.ptr 0 0)), (3, .lf (.pv (.int .i64))), (4, .lf (.ptr 1 0)), (5, .lf (.pv (.int .i64))), (6, .lf (.pv (.int .i64))), (7, .lf (.pv (.slice yt1))), (8, .lf (.pv (.int .i64)))], [q1, q0], []⟩
abbrev Ace := H3
def Kp : Ace → St := stOf Apz 165
def Ap0 : Sk := ⟨sparse 117 [(1, .lf (.ptr 0 0)), (3, .lf (.pv (.int .i64))), (4, .lf (.ptr 1 0)), (5, .lf (.pv (.int .i64))), (6, .lf (.pv (.int .i64))), (7, .lf (.pv (.slice yt1))), (8, .lf (.pv (.int .i64))), (9, .lf (.pv (.int .i64)))], [q1, q0], []⟩
abbrev Acf := H4
def N4 : Acf → St := stOf Ap0 165
def Ay (k : Nat) : FnX Bool := mkX ({ mkC [] 165 0 0 with hint := fun i => look none [(4, some Ap1), (10, some Apx), (15, some Apy), (21, some Apz), (26, some Ap0)] i, bl := [58, 60] }) k Tryz.f6 Acj
def Q7 (k : Nat) : H5 → Option Bool := hid (Ag (Ay k).C k Tryz.f6 Aci Acj)
def Avq (k : Nat) : Sig := Af Aci Acj (Q7 k)
noncomputable def Ach (k : Nat) (J : JF Bool) (L : LF Bool) : H5 → Option Bool
 | (a0, a1, a2, a3, a4, a5, a6, a7) => bif (decide (((List.length a1 : Nat) : Int) > (15 : Int))) then (some false) else (L 4 [] k (Kq ((0 : Int), a0, a1, a2, a3, a4, a5, a6, a7)))
theorem A7c (k : Nat) (x : H5) : Q7 k x = Ach k (Ay k).J (Ay k).L x := by
 refine (Ae _ _).trans ?_; apply cutX (Ay k) [] [] (st0 (Ay k).C Tryz.f6 Aci x) [] [(4, [], k)] (Ach k · · x) <;> intros <;> kernel_rfl
noncomputable def S8 (k j4 : Nat) (J : JF Bool) (L : LF Bool) : Acg → Option Bool
 | (a0, a1, a2, a3, a4, a5, a6, a7, a8) => bif (decide (a0 < ((List.length a2 : Nat) : Int))) then (idx zt3 a2 a0 fun o1 => bif (decide (((List.length o1.1 : Nat) : Int) > (100 : Int))) then (some false) else (bif (decide (((List.length o1.2.2.1 : Nat) : Int) > (6 : Int))) then (some false) else (L 10 [j4] k (Kn (a0, (0 : Int), a1, a2, a3, a4, a5, a6, a7, a8, o1.1, o1.2.1, o1.2.2.1, o1.2.2.2.1.1, o1.2.2.2.1.2.1))))) else (some true)
theorem Apw (k j4 : Nat) (x : Acg) : (Ay k).L 4 [] (j4 + 1) (Kq x) = S8 k j4 (Ay k).J (Ay k).L x := by
 apply cutX (Ay k) [.r, .r, .l, .r, .b, .b] [j4] (Kq x) [] [(4, [], j4), (10, [j4], k)] (S8 k j4 · · x) <;> intros <;> kernel_rfl
noncomputable def S4 (k j4 j10 : Nat) (J : JF Bool) (L : LF Bool) : Acc → Option Bool
 | (a0, a1, a2, a3, a4, a5, a6, a7, a8, a9, a10, a11, a12, a13, a14) => bif (decide (a1 < ((List.length a12 : Nat) : Int))) then (idx ([], ()) a12 a1 fun o1 => bif (decide (((List.length o1.1 : Nat) : Int) > (6 : Int))) then (some false) else (L 15 [j4, j10] k (Ko (a0, a1, (0 : Int), a2, a3, a4, a5, a6, a7, a8, a9, a10, a11, a12, a13, a14)))) else (L 4 [] j4 (Kq ((IntKind.wrap .i64 (a0 + (1 : Int))), a2, a3, a4, a5, a6, a7, a8, a9)))
theorem Aps (k j4 j10 : Nat) (x : Acc) : (Ay k).L 10 [j4] (j10 + 1) (Kn x) = S4 k j4 j10 (Ay k).J (Ay k).L x := by
 apply cutX (Ay k) [.r, .r, .l, .r, .b, .b, .r, .l, .b, .r, .r, .r, .b, .b] [j4, j10] (Kn x) [] [(4, [], j4), (10, [j4], j10), (15, [j4, j10], k)] (S4 k j4 j10 · · x) <;> intros <;> kernel_rfl
noncomputable def S5 (k j4 j10 j15 : Nat) (J : JF Bool) (L : LF Bool) : Acd → Option Bool
 | (a0, a1, a2, a3, a4, a5, a6, a7, a8, a9, a10, a11, a12, a13, a14, a15) => idx ([], ()) a13 a1 fun o1 => bif (decide (a2 < ((List.length o1.1 : Nat) : Int))) then (idx ([], ()) a13 a1 fun o2 => idx [] o2.1 a2 fun o3 => bif (decide (((List.length o3 : Nat) : Int) > (8 : Int))) then (some false) else (L 21 [j4, j10, j15] k (Kp (a0, a1, a2, o3, (0 : Int), a3, a4, a5, a6, a7, a8, a9, a10, a11, a12, a13, a14, a15)))) else (L 10 [j4] j10 (Kn (a0, (IntKind.wrap .i64 (a1 + (1 : Int))), a3, a4, a5, a6, a7, a8, a9, a10, a11, a12, a13, a14, a15)))
theorem Apt (k j4 j10 j15 : Nat) (x : Acd) : (Ay k).L 15 [j4, j10] (j15 + 1) (Ko x) = S5 k j4 j10 j15 (Ay k).J (Ay k).L x := by
 apply cutX (Ay k) [.r, .r, .l, .r, .b, .b, .r, .l, .b, .r, .r, .r, .b, .b, .r, .l, .b, .r, .r, .b, .b] [j4, j10, j15] (Ko x) [] [(4, [], j4), (10, [j4], j10), (15, [j4, j10], j15), (21, [j4, j10, j15], k)] (S5 k j4 j10 j15 · · x) <;> intros <;> kernel_rfl
noncomputable def S6 (k j4 j10 j15 j21 : Nat) (J : JF Bool) (L : LF Bool) : Ace → Option Bool
 | (a0, a1, a2, a3, a4, a5, a6, a7, a8, a9, a10, a11, a12, a13, a14, a15, a16, a17) => bif (decide (a4 < ((List.length a3 : Nat) : Int))) then (idx zt1 a3 a4 fun o1 => bif (decide (((List.length o1.1 : Nat) : Int) > (100 : Int))) then (some false) else (idx zt1 a3 a4 fun o2 => bif (decide (((List.length o2.2.2.2.2.1 : Nat) : Int) > (12 : Int))) then (some false) else (L 26 [j4, j10, j15, j21] k (N4 (a0, a1, a2, a3, a4, (0 : Int), a5, a6, a7, a8, a9, a10, a11, a12, a13, a14, a15, a16, a17))))) else (L 15 [j4, j10] j15 (Ko (a0, a1, (IntKind.wrap .i64 (a2 + (1 : Int))), a5, a6, a7, a8, a9, a10, a11, a12, a13, a14, a15, a16, a17)))
theorem Apu (k j4 j10 j15 j21 : Nat) (x : Ace) : (Ay k).L 21 [j4, j10, j15] (j21 + 1) (Kp x) = S6 k j4 j10 j15 j21 (Ay k).J (Ay k).L x := by
 apply cutX (Ay k) [.r, .r, .l, .r, .b, .b, .r, .l, .b, .r, .r, .r, .b, .b, .r, .l, .b, .r, .r, .b, .b, .r, .l, .b, .r, .r, .r, .b, .b] [j4, j10, j15, j21] (Kp x) [] [(4, [], j4), (10, [j4], j10), (15, [j4, j10], j15), (21, [j4, j10, j15], j21), (26, [j4, j10, j15, j21], k)] (S6 k j4 j10 j15 j21 · · x) <;> intros <;> kernel_rfl
noncomputable def S7 (k j4 j10 j15 j21 j26 : Nat) (J : JF Bool) (L : LF Bool) : Acf → Option Bool
 | (a0, a1, a2, a3, a4, a5, a6, a7, a8, a9, a10, a11, a12, a13, a14, a15, a16, a17, a18) => idx zt1 a3 a4 fun o1 => bif (decide (a5 < ((List.length o1.2.2.2.2.1 : Nat) : Int))) then (idx zt1 a3 a4 fun o2 => idx zt0 o2.2.2.2.2.1 a5 fun o3 => bif (decide (((List.length o3.1 : Nat) : Int) > (100 : Int))) then (some false) else (L 26 [j4, j10, j15, j21] j26 (N4 (a0, a1, a2, a3, a4, (IntKind.wrap .i64 (a5 + (1 : Int))), a6, a7, a8, a9, a10, a11, a12, a13, a14, a15, a16, a17, a18)))) else (L 21 [j4, j10, j15] j21 (Kp (a0, a1, a2, a3, (IntKind.wrap .i64 (a4 + (1 : Int))), a6, a7, a8, a9, a10, a11, a12, a13, a14, a15, a16, a17, a18)))
theorem Apv (k j4 j10 j15 j21 j26 : Nat) (x : Acf) : (Ay k).L 26 [j4, j10, j15, j21] (j26 + 1) (N4 x) = S7 k j4 j10 j15 j21 j26 (Ay k).J (Ay k).L x := by
 apply cutX (Ay k) [.r, .r, .l, .r, .b, .b, .r, .l, .b, .r, .r, .r, .b, .b, .r, .l, .b, .r, .r, .b, .b, .r, .l, .b, .r, .r, .r, .b, .b, .r, .l, .b, .r, .r, .b, .b] [j4, j10, j15, j21, j26] (N4 x) [] [(4, [], j4), (10, [j4], j10), (15, [j4, j10], j15), (21, [j4, j10, j15], j21), (26, [j4, j10, j15, j21], j26)] (S7 k j4 j10 j15 j21 j26 · · x) <;> intros <;> kernel_rfl
theorem Az7 (k : Nat) : Ac Tryz.prog 6 (Avq k) := Ah (Ay k).C (l := []) k rfl trivial Ad Tryz.func6 (by kernel_rfl)
def Aky : Sk := ⟨[.lf (.pv (.int .i64))], [], []⟩
def Akz : Sk := ⟨[.lf (.pv .bool)], [], []⟩
def Akw (k : Nat) : Cfg := mkC [] 57 0 0
def P7 (k : Nat) : Int → Option Bool := hid (Ag (Akw k) k Tryz.f45 Aky Akz)
def Aug (k : Nat) : Sig := Af Aky Akz (P7 k)
noncomputable def Akx (k : Nat) : Int → Option Bool
 | a0 => bif (decide (a0 < (0 : Int))) then (some true) else (some (decide (a0 > (999999999999999999 : Int))))
theorem A3s (k : Nat) (x : Int) : P7 k x = Akx k x := (Ae _ _).trans (by kernel_rfl)
theorem Ayp (k : Nat) : Ac Tryz.prog 45 (Aug k) := Ah (Akw k) (l := []) k rfl trivial Ad Tryz.func45 (by kernel_rfl)
abbrev H6 : Type := (List (Int)) × (Int) × (Int)
def W0 : Sk := ⟨[.lf (.pv (.slice (.int .i64))), .lf (.fn 45 [] [])], [], []⟩
def W1 : Sk := ⟨[.lf (.pv (.int .i64))], [], []⟩
def Ahn : Sk := ⟨sparse 19 [(0, .lf (.pv (.slice (.int .i64)))), (1, .lf (.fn 45 [] [])), (7, .lf (.pv (.int .i64))), (8, .lf (.pv (.int .i64)))], [], []⟩
abbrev Wy := H6
def M1 : Wy → St := stOf Ahn 67
def A1f (k : Nat) : EnvL := [(45, [Aug k])]
def Ez (k : Nat) : FnX Int := mkX ({ mkC (A1f k) 67 0 0 with hint := fun i => look none [(2, some Ahn)] i }) k Tryz.f75 W1
def Vf (k : Nat) : (List (Int)) → Option Int := hid (Ag (Ez k).C k Tryz.f75 W0 W1)
def Atr (k : Nat) : Sig := Af W0 W1 (Vf k)
noncomputable def Wz (k : Nat) (J : JF Int) (L : LF Int) : (List (Int)) → Option Int
 | a0 => L 2 [] k (M1 (a0, ((List.length a0 : Nat) : Int), (0 : Int)))
theorem A1g (k : Nat) (x : (List (Int))) : Vf k x = Wz k (Ez k).J (Ez k).L x := by
 refine (Ae _ _).trans ?_; apply cutX (Ez k) [] [] (st0 (Ez k).C Tryz.f75 W0 x) [] [(2, [], k)] (Wz k · · x) <;> intros <;> kernel_rfl
noncomputable def Aho (k j2 : Nat) (J : JF Int) (L : LF Int) : Wy → Option Int
 | (a0, a1, a2) => bif (decide (a2 < a1)) then (idxI a0 a2 fun o1 => ((P7 k) (o1)).bind fun o2 => bif o2 then (some a2) else (L 2 [] j2 (M1 (a0, a1, (IntKind.wrap .i64 (a2 + (1 : Int))))))) else (some (-1 : Int))
theorem A1h (k j2 : Nat) (x : Wy) : (Ez k).L 2 [] (j2 + 1) (M1 x) = Aho k j2 (Ez k).J (Ez k).L x := by
 apply cutX (Ez k) [.r, .l, .r, .b, .b] [j2] (M1 x) [] [(2, [], j2)] (Aho k j2 · · x) <;> intros <;> kernel_rfl
theorem Axt (k : Nat) : Ac Tryz.prog 75 (Atr k) := Ah (Ez k).C k rfl ⟨⟨Ayp k, trivial⟩, trivial⟩ Ad Tryz.func75 (by kernel_rfl)
def Ag9 : Sk := ⟨[.lf (.pv (.slice (.int .i64))), .lf (.fn 45 [] [])], [], []⟩
def Aha : Sk := ⟨[.lf (.pv .bool)], [], []⟩
def A0w (k : Nat) : EnvL := [(75, [Atr k])]
def Ag7 (k : Nat) : Cfg := mkC (A0w k) 57 0 0
def L0 (k : Nat) : (List (Int)) → Option Bool := hid (Ag (Ag7 k) k Tryz.f44 Ag9 Aha)
def Atl (k : Nat) : Sig := Af Ag9 Aha (L0 k)
noncomputable def Ag8 (k : Nat) : (List (Int)) → Option Bool
 | a0 => ((Vf k) (a0)).bind fun o1 => some (decide (o1 ≥ (0 : Int)))
theorem A0x (k : Nat) (x : (List (Int))) : L0 k x = Ag8 k x := (Ae _ _).trans (by kernel_rfl)
theorem Axl (k : Nat) : Ac Tryz.prog 44 (Atl k) := Ah (Ag7 k) k rfl ⟨⟨Axt k, trivial⟩, trivial⟩ Ad Tryz.func44 (by kernel_rfl)
def fplannumsi : Sk := ⟨[.lf (.pv (.slice (.int .i64)))], [], []⟩
def fplannumso : Sk := ⟨[.lf (.pv .bool)], [], []⟩
def A3r (k : Nat) : EnvL := [(44, [Atl k])]
def Akv (k : Nat) : Cfg := mkC (A3r k) 54 0 0
def cplannums (k : Nat) : (List (Int)) → Option Bool := hid (Ag (Akv k) k Tryz.f23 fplannumsi fplannumso)
def sgplannums (k : Nat) : Sig := Af fplannumsi fplannumso (cplannums k)
noncomputable def Ak0 (k : Nat) : (List (Int)) → Option Bool
 | a0 => ((L0 k) (a0)).bind fun o1 => some (!o1)
theorem A3t (k : Nat) (x : (List (Int))) : cplannums k x = Ak0 k x := (Ae _ _).trans (by kernel_rfl)
theorem P8 (k : Nat) : Ac Tryz.prog 23 (sgplannums k) := Ah (Akv k) k rfl ⟨⟨Axl k, trivial⟩, trivial⟩ Ad Tryz.func23 (by kernel_rfl)
def flexkindi : Sk := ⟨[.lf (.pv (.int .u8))], [], []⟩
def flexkindo : Sk := ⟨[.lf (.pv (.int .i64))], [], []⟩
def Ah2 : Sk := ⟨sparse 36 [(17, .lf (.pv (.int .u8)))], [], []⟩
abbrev A1y := Int
def J5 : A1y → St := stOf Ah2 84
def Ah3 : Sk := ⟨sparse 36 [(17, .lf (.pv (.int .u8)))], [], []⟩
abbrev A1z := Int
def Xq : A1z → St := stOf Ah3 84
def flexkind (k : Nat) : FnX Int := mkX ({ mkC [] 84 0 0 with hint := fun i => look none [(10, some Ah2), (14, some Ah3)] i }) k Tryz.f104 flexkindo
def clexkind (k : Nat) : Int → Option Int := hid (Ag (flexkind k).C k Tryz.f104 flexkindi flexkindo)
def sglexkind (k : Nat) : Sig := Af flexkindi flexkindo (clexkind k)
noncomputable def Xr (k : Nat) (J : JF Int) (L : LF Int) : Int → Option Int
 | a0 => bif (decide ((97 : Int) ≤ a0)) then (bif (decide (a0 ≤ (122 : Int))) then (some (3 : Int)) else (bif (decide ((48 : Int) ≤ a0)) then (bif (decide (a0 ≤ (57 : Int))) then (some (4 : Int)) else (bif (a0 == (32 : Int)) then (some (1 : Int)) else (bif (a0 == (9 : Int)) then (some (1 : Int)) else (bif (a0 == (10 : Int)) then (some (1 : Int)) else (bif (a0 == (13 : Int)) then (some (1 : Int)) else (J 10 [] (J5 (a0)))))))) else (bif (a0 == (32 : Int)) then (some (1 : Int)) else (bif (a0 == (9 : Int)) then (some (1 : Int)) else (bif (a0 == (10 : Int)) then (some (1 : Int)) else (bif (a0 == (13 : Int)) then (some (1 : Int)) else (J 10 [] (J5 (a0))))))))) else (bif (decide ((48 : Int) ≤ a0)) then (bif (decide (a0 ≤ (57 : Int))) then (some (4 : Int)) else (bif (a0 == (32 : Int)) then (some (1 : Int)) else (bif (a0 == (9 : Int)) then (some (1 : Int)) else (bif (a0 == (10 : Int)) then (some (1 : Int)) else (bif (a0 == (13 : Int)) then (some (1 : Int)) else (J 10 [] (J5 (a0)))))))) else (bif (a0 == (32 : Int)) then (some (1 : Int)) else (bif (a0 == (9 : Int)) then (some (1 : Int)) else (bif (a0 == (10 : Int)) then (some (1 : Int)) else (bif (a0 == (13 : Int)) then (some (1 : Int)) else (J 10 [] (J5 (a0))))))))
theorem A10 (k : Nat) (x : Int) : clexkind k x = Xr k (flexkind k).J (flexkind k).L x := by
 refine (Ae _ _).trans ?_; apply cutX (flexkind k) [] [] (st0 (flexkind k).C Tryz.f104 flexkindi x) [(10, []), (14, [])] [] (Xr k · · x) <;> intros <;> kernel_rfl
noncomputable def Xs (k : Nat) (J : JF Int) (L : LF Int) : Int → Option Int
 | a0 => bif (a0 == (35 : Int)) then (some (2 : Int)) else (bif (a0 == (95 : Int)) then (some (6 : Int)) else (bif (a0 == (123 : Int)) then (some (5 : Int)) else (bif (a0 == (125 : Int)) then (some (5 : Int)) else (J 14 [] (Xq (a0))))))
theorem A11 (k : Nat) (x : Int) : (flexkind k).J 10 [] (J5 x) = Xs k (flexkind k).J (flexkind k).L x := by
 apply cutX (flexkind k) [.r, .r, .l, .r, .b, .l, .b, .b, .l, .b, .l, .b, .l, .b, .l, .r] [] (J5 x) [(10, []), (14, [])] [] (Xs k · · x) <;> intros <;> kernel_rfl
noncomputable def Xt (k : Nat) (J : JF Int) (L : LF Int) : Int → Option Int
 | a0 => bif (a0 == (44 : Int)) then (some (5 : Int)) else (bif (a0 == (59 : Int)) then (some (5 : Int)) else (bif (a0 == (58 : Int)) then (some (5 : Int)) else (bif (a0 == (47 : Int)) then (some (5 : Int)) else (bif (a0 == (45 : Int)) then (some (5 : Int)) else (some (0 : Int))))))
theorem A12 (k : Nat) (x : Int) : (flexkind k).J 14 [] (Xq x) = Xt k (flexkind k).J (flexkind k).L x := by
 apply cutX (flexkind k) [.r, .r, .l, .r, .b, .l, .b, .b, .l, .b, .l, .b, .l, .b, .l, .r, .r, .r, .r] [] (Xq x) [(10, []), (14, [])] [] (Xt k · · x) <;> intros <;> kernel_rfl
theorem Afq (k : Nat) : Ac Tryz.prog 104 (sglexkind k) := Ah (flexkind k).C (l := []) k rfl trivial Ad Tryz.func104 (by kernel_rfl)
abbrev H7 : Type := (Int) × (List (Int)) × (Int)
def Xu : Sk := ⟨[.lf (.ptr 0 0)], [[.pv (.slice (.int .u8)), .pv (.int .i64)]], []⟩
def Aia : Sk := ⟨[.lf (.pv (.int .i64))], Xu.boxes, []⟩
def A15 (k : Nat) : EnvL := [(104, [sglexkind k])]
def Ah8 (k : Nat) : Cfg := mkC (A15 k) 62 1 0
def L7 (k : Nat) : ((List (Int)) × (Int)) → Option H7 := hid (Ag (Ah8 k) k Tryz.f84 Xu Aia)
def Ad6 (k : Nat) : Sig := Af Xu Aia (L7 k)
noncomputable def Ah9 (k : Nat) : ((List (Int)) × (Int)) → Option H7
 | (a0, a1) => bif (inB a1 (List.length a0)) then ((clexkind k) ((rdI a0 (Int.toNat a1)))).bind fun o1 => some (o1, a0, a1) else none
theorem A16 (k : Nat) (x : ((List (Int)) × (Int))) : L7 k x = Ah9 k x := (Ae _ _).trans (by kernel_rfl)
theorem Afs (k : Nat) : Ac Tryz.prog 84 (Ad6 k) := Ah (Ah8 k) k rfl ⟨⟨Afq k, trivial⟩, trivial⟩ Ad Tryz.func84 (by kernel_rfl)
abbrev H8 : Type := (List (Int)) × (Int) × (Int) × (Int)
def W5 : Sk := ⟨[.lf (.pv (.slice (.int .u8))), .lf (.pv (.int .u8))], [], []⟩
def W6 : Sk := ⟨[.lf (.pv (.int .i64))], [], []⟩
def Ahp : Sk := ⟨sparse 19 [(0, .lf (.pv (.slice (.int .u8)))), (1, .lf (.pv (.int .u8))), (7, .lf (.pv (.int .i64))), (8, .lf (.pv (.int .i64)))], [], []⟩
abbrev W2 := H8
def M2 : W2 → St := stOf Ahp 67
def E0 (k : Nat) : FnX Int := mkX ({ mkC [] 67 0 0 with hint := fun i => look none [(2, some Ahp)] i }) k Tryz.f85 W6
def Pr (k : Nat) : ((List (Int)) × (Int)) → Option Int := hid (Ag (E0 k).C k Tryz.f85 W5 W6)
def Ats (k : Nat) : Sig := Af W5 W6 (Pr k)
noncomputable def W3 (k : Nat) (J : JF Int) (L : LF Int) : ((List (Int)) × (Int)) → Option Int
 | (a0, a1) => L 2 [] k (M2 (a0, a1, ((List.length a0 : Nat) : Int), (0 : Int)))
theorem A1i (k : Nat) (x : ((List (Int)) × (Int))) : Pr k x = W3 k (E0 k).J (E0 k).L x := by
 refine (Ae _ _).trans ?_; apply cutX (E0 k) [] [] (st0 (E0 k).C Tryz.f85 W5 x) [] [(2, [], k)] (W3 k · · x) <;> intros <;> kernel_rfl
noncomputable def W4 (k j2 : Nat) (J : JF Int) (L : LF Int) : W2 → Option Int
 | (a0, a1, a2, a3) => bif (decide (a3 < a2)) then (bif (inB a3 (List.length a0)) then bif (a1 == (rdI a0 (Int.toNat a3))) then (some a3) else (L 2 [] j2 (M2 (a0, a1, a2, (IntKind.wrap .i64 (a3 + (1 : Int)))))) else none) else (some (-1 : Int))
theorem A1j (k j2 : Nat) (x : W2) : (E0 k).L 2 [] (j2 + 1) (M2 x) = W4 k j2 (E0 k).J (E0 k).L x := by
 apply cutX (E0 k) [.r, .l, .r, .b, .b] [j2] (M2 x) [] [(2, [], j2)] (W4 k j2 · · x) <;> intros <;> kernel_rfl
theorem Axu (k : Nat) : Ac Tryz.prog 85 (Ats k) := Ah (E0 k).C (l := []) k rfl trivial Ad Tryz.func85 (by kernel_rfl)
def Rj : Sk := ⟨[.lf (.ptr 0 0)], [[.pv (.slice (.int .u8)), .pv (.int .i64)]], []⟩
def X5 : Sk := ⟨[], Rj.boxes, []⟩
def Aim : Sk := ⟨sparse 54 [(0, .lf (.ptr 0 0))], [[.pv (.slice (.int .u8)), .pv (.int .i64)]], []⟩
abbrev X2 := ((List (Int)) × (Int))
def Ix : X2 → St := stOf Aim 102
def A2g (k : Nat) : EnvL := [(84, [Ad6 k]), (85, [Ats k])]
def E4 (k : Nat) : FnX ((List (Int)) × (Int)) := mkX ({ mkC (A2g k) 102 1 0 with hint := fun i => look none [(0, some Aim)] i }) k Tryz.f52 X5
def Pw (k : Nat) : ((List (Int)) × (Int)) → Option ((List (Int)) × (Int)) := hid (Ag (E4 k).C k Tryz.f52 Rj X5)
def Aty (k : Nat) : Sig := Af Rj X5 (Pw k)
noncomputable def X3 (k : Nat) (J : JF ((List (Int)) × (Int))) (L : LF ((List (Int)) × (Int))) : ((List (Int)) × (Int)) → Option ((List (Int)) × (Int))
 | (a0, a1) => L 0 [] k (Ix (a0, a1))
theorem A2h (k : Nat) (x : ((List (Int)) × (Int))) : Pw k x = X3 k (E4 k).J (E4 k).L x := by
 refine (Ae _ _).trans ?_; apply cutX (E4 k) [] [] (st0 (E4 k).C Tryz.f52 Rj x) [] [(0, [], k)] (X3 k · · x) <;> intros <;> kernel_rfl
noncomputable def X4 (k j0 : Nat) (J : JF ((List (Int)) × (Int))) (L : LF ((List (Int)) × (Int))) : X2 → Option ((List (Int)) × (Int))
 | (a0, a1) => bif (decide (a1 < ((List.length a0 : Nat) : Int))) then (((L7 k) (a0, a1)).bind fun o1 => bif (o1.1 == (2 : Int)) then (bif (cutB o1.2.2 (((List.length o1.2.1) : Nat) : Int) (List.length o1.2.1)) then ((Pr k) ((cutL o1.2.1 o1.2.2 (((List.length o1.2.1) : Nat) : Int)), (10 : Int))).bind fun o2 => bif (decide (o2 ≥ (0 : Int))) then (L 0 [] j0 (Ix (o1.2.1, (IntKind.wrap .i64 (o1.2.2 + o2))))) else (L 0 [] j0 (Ix (o1.2.1, ((List.length o1.2.1 : Nat) : Int)))) else none) else (bif (o1.1 == (1 : Int)) then (L 0 [] j0 (Ix (o1.2.1, (IntKind.wrap .i64 (o1.2.2 + (1 : Int)))))) else (some (o1.2.1, o1.2.2)))) else (some (a0, a1))
theorem A2i (k j0 : Nat) (x : X2) : (E4 k).L 0 [] (j0 + 1) (Ix x) = X4 k j0 (E4 k).J (E4 k).L x := by
 apply cutX (E4 k) [.b, .b] [j0] (Ix x) [] [(0, [], j0)] (X4 k j0 · · x) <;> intros <;> kernel_rfl
theorem Ax1 (k : Nat) : Ac Tryz.prog 52 (Aty k) := Ah (E4 k).C k rfl ⟨⟨Afs k, trivial⟩, ⟨Axu k, trivial⟩, trivial⟩ Ad Tryz.func52 (by kernel_rfl)
def Ah6 : Sk := ⟨[.lf (.rpt [(.slice (.int .u8)), (.int .i64)])], [], []⟩
def Ah7 : Sk := ⟨[.lf (.pv (.int .i64))], [], []⟩
def A13 (k : Nat) : EnvL := [(104, [sglexkind k])]
def Ah4 (k : Nat) : Cfg := mkC (A13 k) 62 0 0
def Jr (k : Nat) : ((List (Int)) × (Int)) → Option Int := hid (Ag (Ah4 k) k Tryz.f84 Ah6 Ah7)
def Ad7 (k : Nat) : Sig := Af Ah6 Ah7 (Jr k)
noncomputable def Ah5 (k : Nat) : ((List (Int)) × (Int)) → Option Int
 | (a0, a1) => bif (inB a1 (List.length a0)) then ((clexkind k) ((rdI a0 (Int.toNat a1)))).bind fun o1 => some o1 else none
theorem A14 (k : Nat) (x : ((List (Int)) × (Int))) : Jr k x = Ah5 k x := (Ae _ _).trans (by kernel_rfl)
theorem Afr (k : Nat) : Ac Tryz.prog 84 (Ad7 k) := Ah (Ah4 k) k rfl ⟨⟨Afq k, trivial⟩, trivial⟩ Ad Tryz.func84 (by kernel_rfl)
def Ait : Sk := ⟨[.lf (.pv (.int .i64))], [], []⟩
def Aiu : Sk := ⟨[.lf (.pv .bool)], [], []⟩
def Air (k : Nat) : Cfg := mkC [] 61 0 0
def Py (k : Nat) : Int → Option Bool := hid (Ag (Air k) k Tryz.f106 Ait Aiu)
def At1 (k : Nat) : Sig := Af Ait Aiu (Py k)
noncomputable def Ais (k : Nat) : Int → Option Bool
 | a0 => bif (a0 == (3 : Int)) then (some true) else (bif (a0 == (4 : Int)) then (some true) else (some (a0 == (6 : Int))))
theorem A2m (k : Nat) (x : Int) : Py k x = Ais k x := (Ae _ _).trans (by kernel_rfl)
theorem Ax3 (k : Nat) : Ac Tryz.prog 106 (At1 k) := Ah (Air k) (l := []) k rfl trivial Ad Tryz.func106 (by kernel_rfl)
abbrev H9 : Type := (List Int) × (List (Int)) × (Int)
def Ri : Sk := ⟨[.lf (.ptr 0 0), .lf (.fn 106 [] [])], [[.pv (.slice (.int .u8)), .pv (.int .i64)]], []⟩
def X1 : Sk := ⟨[.lf (.pv .str)], Ri.boxes, []⟩
def Aik : Sk := ⟨sparse 44 [(0, .lf (.ptr 0 0)), (1, .lf (.fn 106 [] [])), (5, .lf (.pv (.int .i64)))], [[.pv (.slice (.int .u8)), .pv (.int .i64)]], []⟩
abbrev Xz := H7
def M6 : Xz → St := stOf Aik 92
def A2d (k : Nat) : EnvL := [(84, [Ad7 k]), (106, [At1 k])]
def E2 (k : Nat) : FnX H9 := mkX ({ mkC (A2d k) 92 1 0 with hint := fun i => look none [(2, some Aik)] i }) k Tryz.f105 X1
def Pu (k : Nat) : ((List (Int)) × (Int)) → Option H9 := hid (Ag (E2 k).C k Tryz.f105 Ri X1)
def Atw (k : Nat) : Sig := Af Ri X1 (Pu k)
noncomputable def X0 (k : Nat) (J : JF H9) (L : LF H9) : ((List (Int)) × (Int)) → Option H9
 | (a0, a1) => L 2 [] k (M6 (a1, a0, a1))
theorem A2e (k : Nat) (x : ((List (Int)) × (Int))) : Pu k x = X0 k (E2 k).J (E2 k).L x := by
 refine (Ae _ _).trans ?_; apply cutX (E2 k) [] [] (st0 (E2 k).C Tryz.f105 Ri x) [] [(2, [], k)] (X0 k · · x) <;> intros <;> kernel_rfl
noncomputable def Ail (k j2 : Nat) (J : JF H9) (L : LF H9) : Xz → Option H9
 | (a0, a1, a2) => bif (decide (a2 < ((List.length a1 : Nat) : Int))) then (((Jr k) (a1, a2)).bind fun o1 => ((Py k) (o1)).bind fun o2 => bif o2 then (L 2 [] j2 (M6 (a0, a1, (IntKind.wrap .i64 (a2 + (1 : Int)))))) else (bif (cutB a0 a2 (List.length a1)) then some ((cutL a1 a0 a2), a1, a2) else none)) else (bif (cutB a0 a2 (List.length a1)) then some ((cutL a1 a0 a2), a1, a2) else none)
theorem A2f (k j2 : Nat) (x : Xz) : (E2 k).L 2 [] (j2 + 1) (M6 x) = Ail k j2 (E2 k).J (E2 k).L x := by
 apply cutX (E2 k) [.r, .r, .l, .b, .b] [j2] (M6 x) [] [(2, [], j2)] (Ail k j2 · · x) <;> intros <;> kernel_rfl
theorem Ax0 (k : Nat) : Ac Tryz.prog 105 (Atw k) := Ah (E2 k).C k rfl ⟨⟨Afr k, trivial⟩, ⟨Ax3 k, trivial⟩, trivial⟩ Ad Tryz.func105 (by kernel_rfl)
abbrev H10 : Type := (Int) × (List Int) × (Int) × (Int) × (Int) × (List (Int)) × (Int)
def X7 : Sk := ⟨[.lf (.ptr 0 0)], [[.pv (.slice (.int .u8)), .pv (.int .i64)]], []⟩
def Aiw : Sk := ⟨[.agg [.pv (.int .i64), .pv .str, .pv (.int .i64), .pv (.int .i64)], .lf (.pv (.int .i64))], X7.boxes, []⟩
def A2l (k : Nat) : EnvL := [(105, [Atw k])]
def Aiq (k : Nat) : Cfg := { mkC (A2l k) 61 1 0 with bl := [58, 60] }
def Vi (k : Nat) : ((List (Int)) × (Int)) → Option H10 := hid (Ag (Aiq k) k Tryz.f86 X7 Aiw)
def At0 (k : Nat) : Sig := Af X7 Aiw (Vi k)
noncomputable def Aiv (k : Nat) : ((List (Int)) × (Int)) → Option H10
 | (a0, a1) => ((Pu k) (a0, a1)).bind fun o1 => bif (decide (((List.length o1.1 : Nat) : Int) > (24 : Int))) then (some ((0 : Int), ([] : List Int), (0 : Int), (0 : Int), (4 : Int), o1.2.1, o1.2.2)) else (some ((1 : Int), o1.1, (0 : Int), (0 : Int), (0 : Int), o1.2.1, o1.2.2))
theorem A2n (k : Nat) (x : ((List (Int)) × (Int))) : Vi k x = Aiv k x := (Ae _ _).trans (by kernel_rfl)
theorem Ax4 (k : Nat) : Ac Tryz.prog 86 (At0 k) := Ah (Aiq k) k rfl ⟨⟨Ax0 k, trivial⟩, trivial⟩ Ad Tryz.func86 (by kernel_rfl)
def Aie : Sk := ⟨[.lf (.pv (.int .i64))], [], []⟩
def Aif : Sk := ⟨[.lf (.pv .bool)], [], []⟩
def Aic (k : Nat) : Cfg := mkC [] 53 0 0
def Pt (k : Nat) : Int → Option Bool := hid (Ag (Aic k) k Tryz.f107 Aie Aif)
def Atv (k : Nat) : Sig := Af Aie Aif (Pt k)
noncomputable def Aid (k : Nat) : Int → Option Bool
 | a0 => some (a0 == (4 : Int))
theorem A18 (k : Nat) (x : Int) : Pt k x = Aid k x := (Ae _ _).trans (by kernel_rfl)
theorem Axx (k : Nat) : Ac Tryz.prog 107 (Atv k) := Ah (Aic k) (l := []) k rfl trivial Ad Tryz.func107 (by kernel_rfl)
def Rh : Sk := ⟨[.lf (.ptr 0 0), .lf (.fn 107 [] [])], [[.pv (.slice (.int .u8)), .pv (.int .i64)]], []⟩
def Xy : Sk := ⟨[.lf (.pv .str)], Rh.boxes, []⟩
def Aii : Sk := ⟨sparse 44 [(0, .lf (.ptr 0 0)), (1, .lf (.fn 107 [] [])), (5, .lf (.pv (.int .i64)))], [[.pv (.slice (.int .u8)), .pv (.int .i64)]], []⟩
abbrev Xw := H7
def M5 : Xw → St := stOf Aii 92
def A2a (k : Nat) : EnvL := [(84, [Ad7 k]), (107, [Atv k])]
def E3 (k : Nat) : FnX H9 := mkX ({ mkC (A2a k) 92 1 0 with hint := fun i => look none [(2, some Aii)] i }) k Tryz.f105 Xy
def Pv (k : Nat) : ((List (Int)) × (Int)) → Option H9 := hid (Ag (E3 k).C k Tryz.f105 Rh Xy)
def Atx (k : Nat) : Sig := Af Rh Xy (Pv k)
noncomputable def Xx (k : Nat) (J : JF H9) (L : LF H9) : ((List (Int)) × (Int)) → Option H9
 | (a0, a1) => L 2 [] k (M5 (a1, a0, a1))
theorem A2b (k : Nat) (x : ((List (Int)) × (Int))) : Pv k x = Xx k (E3 k).J (E3 k).L x := by
 refine (Ae _ _).trans ?_; apply cutX (E3 k) [] [] (st0 (E3 k).C Tryz.f105 Rh x) [] [(2, [], k)] (Xx k · · x) <;> intros <;> kernel_rfl
noncomputable def Aij (k j2 : Nat) (J : JF H9) (L : LF H9) : Xw → Option H9
 | (a0, a1, a2) => bif (decide (a2 < ((List.length a1 : Nat) : Int))) then (((Jr k) (a1, a2)).bind fun o1 => ((Pt k) (o1)).bind fun o2 => bif o2 then (L 2 [] j2 (M5 (a0, a1, (IntKind.wrap .i64 (a2 + (1 : Int)))))) else (bif (cutB a0 a2 (List.length a1)) then some ((cutL a1 a0 a2), a1, a2) else none)) else (bif (cutB a0 a2 (List.length a1)) then some ((cutL a1 a0 a2), a1, a2) else none)
theorem A2c (k j2 : Nat) (x : Xw) : (E3 k).L 2 [] (j2 + 1) (M5 x) = Aij k j2 (E3 k).J (E3 k).L x := by
 apply cutX (E3 k) [.r, .r, .l, .b, .b] [j2] (M5 x) [] [(2, [], j2)] (Aij k j2 · · x) <;> intros <;> kernel_rfl
theorem Axz (k : Nat) : Ac Tryz.prog 105 (Atx k) := Ah (E3 k).C k rfl ⟨⟨Afr k, trivial⟩, ⟨Axx k, trivial⟩, trivial⟩ Ad Tryz.func105 (by kernel_rfl)
def A6z : Sk := ⟨[.lf (.pv .str), .lf (.pv (.int .i64)), .lf (.pv (.int .i64))], [], []⟩
def A60 : Sk := ⟨[.lf (.pv (.int .i64)), .lf (.err)], [], []⟩
def Vx (k : Nat) : ((List Int) × (Int) × (Int)) → Option ((Int) × (Bool)) := Kz
def Avn (k : Nat) : Sig := Af A6z A60 (Vx k)
theorem Azz (k : Nat) : Ac Tryz.prog 108 (Avn k) := A8v
def Xv : Sk := ⟨[.lf (.ptr 0 0)], [[.pv (.slice (.int .u8)), .pv (.int .i64)]], []⟩
def Aih : Sk := ⟨[.agg [.pv (.int .i64), .pv .str, .pv (.int .i64), .pv (.int .i64)], .lf (.pv (.int .i64))], Xv.boxes, []⟩
def A17 (k : Nat) : EnvL := [(105, [Atx k]), (108, [Avn k])]
def Aib (k : Nat) : Cfg := { mkC (A17 k) 69 1 0 with bl := [58, 60] }
def Vh (k : Nat) : ((List (Int)) × (Int)) → Option H10 := hid (Ag (Aib k) k Tryz.f87 Xv Aih)
def Atu (k : Nat) : Sig := Af Xv Aih (Vh k)
noncomputable def Aig (k : Nat) : ((List (Int)) × (Int)) → Option H10
 | (a0, a1) => ((Pv k) (a0, a1)).bind fun o1 => bif (decide (((List.length o1.1 : Nat) : Int) > (18 : Int))) then (some ((0 : Int), ([] : List Int), (0 : Int), (0 : Int), (4 : Int), o1.2.1, o1.2.2)) else (((Vx k) (o1.1, (10 : Int), (64 : Int))).bind fun o2 => some ((2 : Int), o1.1, o2.1, (0 : Int), (0 : Int), o1.2.1, o1.2.2))
theorem A19 (k : Nat) (x : ((List (Int)) × (Int))) : Vh k x = Aig k x := (Ae _ _).trans (by kernel_rfl)
theorem Axy (k : Nat) : Ac Tryz.prog 87 (Atu k) := Ah (Aib k) k rfl ⟨⟨Axz k, trivial⟩, ⟨Azz k, trivial⟩, trivial⟩ Ad Tryz.func87 (by kernel_rfl)
def X6 : Sk := ⟨[.lf (.ptr 0 0)], [[.pv (.slice (.int .u8)), .pv (.int .i64)]], []⟩
def Aip : Sk := ⟨[.agg [.pv (.int .i64), .pv .str, .pv (.int .i64), .pv (.int .i64)], .lf (.pv (.int .i64))], X6.boxes, []⟩
def A2j (k : Nat) : EnvL := [(84, [Ad6 k]), (86, [At0 k]), (87, [Atu k])]
def Ain (k : Nat) : Cfg := { mkC (A2j k) 92 1 0 with bl := [58, 60], ld := [(28, 9999), (29, 9999), (30, 0), (32, 9999), (33, 9999), (34, 0), (37, 9999), (38, 9999), (39, 0)], sr := [(2, 50)] }
def Px (k : Nat) : ((List (Int)) × (Int)) → Option H10 := hid (Ag (Ain k) k Tryz.f53 X6 Aip)
def Atz (k : Nat) : Sig := Af X6 Aip (Px k)
noncomputable def Aio (k : Nat) : ((List (Int)) × (Int)) → Option H10
 | (a0, a1) => ((L7 k) (a0, a1)).bind fun o1 => bif (o1.1 == (3 : Int)) then (((Vi k) (o1.2.1, o1.2.2)).bind fun o2 => some (o2.1, o2.2.1, o2.2.2.1, o2.2.2.2.1, o2.2.2.2.2.1, o2.2.2.2.2.2.1, o2.2.2.2.2.2.2)) else (bif (o1.1 == (4 : Int)) then (((Vh k) (o1.2.1, o1.2.2)).bind fun o3 => some (o3.1, o3.2.1, o3.2.2.1, o3.2.2.2.1, o3.2.2.2.2.1, o3.2.2.2.2.2.1, o3.2.2.2.2.2.2)) else (bif (o1.1 == (5 : Int)) then (bif (cutB (IntKind.wrap .i64 ((IntKind.wrap .i64 (o1.2.2 + (1 : Int))) - (1 : Int))) (IntKind.wrap .i64 (o1.2.2 + (1 : Int))) (List.length o1.2.1)) then some ((3 : Int), (cutL o1.2.1 (IntKind.wrap .i64 ((IntKind.wrap .i64 (o1.2.2 + (1 : Int))) - (1 : Int))) (IntKind.wrap .i64 (o1.2.2 + (1 : Int)))), (0 : Int), (0 : Int), (0 : Int), o1.2.1, (IntKind.wrap .i64 (o1.2.2 + (1 : Int)))) else none) else (some ((0 : Int), ([] : List Int), (0 : Int), (0 : Int), (40 : Int), o1.2.1, o1.2.2))))
theorem A2k (k : Nat) (x : ((List (Int)) × (Int))) : Px k x = Aio k x := (Ae _ _).trans (by kernel_rfl)
theorem Ax2 (k : Nat) : Ac Tryz.prog 53 (Atz k) := Ah (Ain k) k rfl ⟨⟨Afs k, trivial⟩, ⟨Ax4 k, trivial⟩, ⟨Axy k, trivial⟩, trivial⟩ Ad Tryz.func53 (by kernel_rfl)
abbrev H11 : Type := (List (Int)) × (List (Int)) × (Int) × (List (YT4))
abbrev H12 : Type := (Int) × (Int) × (List (YT4))
def Xo : Sk := ⟨[.lf (.pv (.slice (.int .u8)))], [], []⟩
def Xp : Sk := ⟨[.lf (.own 0), .lf (.pv (.int .i64)), .lf (.pv (.int .i64))], [], [some (83, yt4)]⟩
def Ah1 : Sk := ⟨sparse 46 [(0, .lf (.pv (.slice (.int .u8)))), (5, .lf (.ptr 0 0)), (6, .lf (.own 0))], [[.pv (.slice (.int .u8)), .pv (.int .i64)]], [some (83, yt4)]⟩
abbrev Xl := H11
def M4 : Xl → St := stOf Ah1 94
def A1v (k : Nat) : EnvL := [(52, [Aty k]), (53, [Atz k])]
def E1 (k : Nat) : FnX H12 := mkX ({ mkC (A1v k) 94 0 0 with hint := fun i => look none [(5, some Ah1)] i, bl := [58, 60] }) k Tryz.f31 Xp
def L6 (k : Nat) : (List (Int)) → Option H12 := hid (Ag (E1 k).C k Tryz.f31 Xo Xp)
def Ad5 (k : Nat) : Sig := Af Xo Xp (L6 k)
noncomputable def Xm (k : Nat) (J : JF H12) (L : LF H12) : (List (Int)) → Option H12
 | a0 => bif (decide (((List.length a0 : Nat) : Int) > (65536 : Int))) then (some ((4 : Int), (65536 : Int), [])) else (L 5 [] k (M4 (a0, a0, (0 : Int), [])))
theorem A1w (k : Nat) (x : (List (Int))) : L6 k x = Xm k (E1 k).J (E1 k).L x := by
 refine (Ae _ _).trans ?_; apply cutX (E1 k) [] [] (st0 (E1 k).C Tryz.f31 Xo x) [] [(5, [], k)] (Xm k · · x) <;> intros <;> kernel_rfl
noncomputable def Xn (k j5 : Nat) (J : JF H12) (L : LF H12) : Xl → Option H12
 | (a0, a1, a2, a3) => ((Pw k) (a1, a2)).bind fun o1 => bif (o1.2 == ((List.length a0 : Nat) : Int)) then (bif (appB 40 (List.length a3) (List.length ([((0 : Int), (([] : List Int), ((0 : Int), (o1.2, ()))))] : List (YT4)))) then some ((0 : Int), (0 : Int), (a3 ++ ([((0 : Int), (([] : List Int), ((0 : Int), (o1.2, ()))))] : List (YT4)))) else none) else (((Px k) (o1.1, o1.2)).bind fun o2 => bif (o2.2.2.2.2.1 != (0 : Int)) then (some (o2.2.2.2.2.1, o1.2, [])) else (bif (appB 40 (List.length a3) (List.length ([(o2.1, (o2.2.1, (o2.2.2.1, (o1.2, ()))))] : List (YT4)))) then L 5 [] j5 (M4 (a0, o2.2.2.2.2.2.1, o2.2.2.2.2.2.2, (a3 ++ ([(o2.1, (o2.2.1, (o2.2.2.1, (o1.2, ()))))] : List (YT4))))) else none))
theorem A1x (k j5 : Nat) (x : Xl) : (E1 k).L 5 [] (j5 + 1) (M4 x) = Xn k j5 (E1 k).J (E1 k).L x := by
 apply cutX (E1 k) [.r, .r, .r, .r, .b, .b] [j5] (M4 x) [] [(5, [], j5)] (Xn k j5 · · x) <;> intros <;> kernel_rfl
theorem Afp (k : Nat) : Ac Tryz.prog 31 (Ad5 k) := Ah (E1 k).C k rfl ⟨⟨Ax1 k, trivial⟩, ⟨Ax2 k, trivial⟩, trivial⟩ Ad Tryz.func31 (by kernel_rfl)
abbrev H13 : Type := (Int) × (List Int) × (Int) × (Int)
def Ahz : Sk := ⟨[.agg [.pv (.int .i64), .pv .str, .pv (.int .i64), .pv (.int .i64)]], [], []⟩
def Ah0 : Sk := ⟨[.lf (.pv .bool)], [], []⟩
def A1t (k : Nat) : EnvL := [(31, [Ad5 k])]
def Ahx (k : Nat) : Cfg := { mkC (A1t k) 78 0 0 with bl := [58, 60] }
def Ps (k : Nat) : H13 → Option Bool := hid (Ag (Ahx k) k Tryz.f77 Ahz Ah0)
def Att (k : Nat) : Sig := Af Ahz Ah0 (Ps k)
noncomputable def Ahy (k : Nat) : H13 → Option Bool
 | (a0, a1, a2, a3) => ((L6 k) (a1)).bind fun o1 => bif (o1.1 == (0 : Int)) then (bif (((List.length o1.2.2 : Nat) : Int) == (2 : Int)) then (bif (inB (0 : Int) (List.length o1.2.2)) then some ((eqI (rdA zt4 o1.2.2 (Int.toNat (0 : Int))).1 a0) && ((eqS (rdA zt4 o1.2.2 (Int.toNat (0 : Int))).2.1 a1) && ((eqI (rdA zt4 o1.2.2 (Int.toNat (0 : Int))).2.2.1 a2) && ((eqI (rdA zt4 o1.2.2 (Int.toNat (0 : Int))).2.2.2.1 (0 : Int)) && true)))) else none) else (some false)) else (some false)
theorem A1u (k : Nat) (x : H13) : Ps k x = Ahy k x := (Ae _ _).trans (by kernel_rfl)
theorem Axw (k : Nat) : Ac Tryz.prog 77 (Att k) := Ah (Ahx k) k rfl ⟨⟨Afp k, trivial⟩, trivial⟩ Ad Tryz.func77 (by kernel_rfl)
def Xj : Sk := ⟨[.lf (.pv .str)], [], []⟩
def Xk : Sk := ⟨[.lf (.pv .bool)], [], []⟩
def Ahu : Sk := ⟨sparse 50 [(3, .lf (.pv .str))], [], []⟩
abbrev A1m := (List Int)
def Xc : A1m → St := stOf Ahu 98
def Ahv : Sk := ⟨sparse 50 [(3, .lf (.pv .str))], [], []⟩
abbrev A1n := (List Int)
def Xd : A1n → St := stOf Ahv 98
def Ahw : Sk := ⟨sparse 50 [(3, .lf (.pv .str))], [], []⟩
abbrev A1o := (List Int)
def Xe : A1o → St := stOf Ahw 98
def Ck (k : Nat) : FnX Bool := mkX ({ mkC [] 98 0 0 with hint := fun i => look none [(16, some Ahu), (26, some Ahv), (33, some Ahw)] i }) k Tryz.f78 Xk
def L5 (k : Nat) : (List Int) → Option Bool := hid (Ag (Ck k).C k Tryz.f78 Xj Xk)
def Ad4 (k : Nat) : Sig := Af Xj Xk (L5 k)
noncomputable def Xf (k : Nat) (J : JF Bool) (L : LF Bool) : (List Int) → Option Bool
 | a0 => bif (a0 == ([99, 121, 99, 108, 101] : List Int)) then (some true) else (bif (a0 == ([116, 111] : List Int)) then (some true) else (bif (a0 == ([98, 121] : List Int)) then (some true) else (bif (a0 == ([112, 101, 97, 107] : List Int)) then (some true) else (bif (a0 == ([110, 111, 100, 101] : List Int)) then (some true) else (bif (a0 == ([104, 101, 97, 100] : List Int)) then (some true) else (bif (a0 == ([118, 111, 108, 117, 109, 101] : List Int)) then (some true) else (bif (a0 == ([102, 108, 111, 119] : List Int)) then (some true) else (bif (a0 == ([117, 115, 101] : List Int)) then (some true) else (bif (a0 == ([115, 112, 101, 101, 100] : List Int)) then (some true) else (bif (a0 == ([103, 114, 97, 100, 101] : List Int)) then (some true) else (bif (a0 == ([119, 105, 100, 116, 104] : List Int)) then (some true) else (bif (a0 == ([108, 101, 110, 103, 116, 104] : List Int)) then (some true) else (bif (a0 == ([103, 114, 101, 101, 110] : List Int)) then (some true) else (J 16 [] (Xc (a0))))))))))))))))
theorem A1p (k : Nat) (x : (List Int)) : L5 k x = Xf k (Ck k).J (Ck k).L x := by
 refine (Ae _ _).trans ?_; apply cutX (Ck k) [] [] (st0 (Ck k).C Tryz.f78 Xj x) [(16, []), (26, []), (33, [])] [] (Xf k · · x) <;> intros <;> kernel_rfl
noncomputable def Xg (k : Nat) (J : JF Bool) (L : LF Bool) : (List Int) → Option Bool
 | a0 => bif (a0 == ([119, 97, 108, 107] : List Int)) then (some true) else (bif (a0 == ([119, 105, 116, 104] : List Int)) then (some true) else (bif (a0 == ([108, 111, 110, 103] : List Int)) then (some true) else (bif (a0 == ([112, 97, 99, 101] : List Int)) then (some true) else (bif (a0 == ([108, 101, 97, 115, 116] : List Int)) then (some true) else (bif (a0 == ([112, 104, 97, 115, 101] : List Int)) then (some true) else (bif (a0 == ([103, 114, 111, 117, 112] : List Int)) then (some true) else (bif (a0 == ([114, 105, 110, 103] : List Int)) then (some true) else (bif (a0 == ([102, 114, 101, 101] : List Int)) then (some true) else (bif (a0 == ([102, 111, 101] : List Int)) then (some true) else (J 26 [] (Xd (a0))))))))))))
theorem A1q (k : Nat) (x : (List Int)) : (Ck k).J 16 [] (Xc x) = Xg k (Ck k).J (Ck k).L x := by
 apply cutX (Ck k) [.r, .l, .r, .b, .l, .b, .b, .b, .b, .l, .r] [] (Xc x) [(16, []), (26, []), (33, [])] [] (Xg k · · x) <;> intros <;> kernel_rfl
noncomputable def Xh (k : Nat) (J : JF Bool) (L : LF Bool) : (List Int) → Option Bool
 | a0 => bif (a0 == ([97, 114, 116, 101, 114, 121] : List Int)) then (some true) else (bif (a0 == ([115, 116, 111, 112] : List Int)) then (some true) else (bif (a0 == ([111, 117, 116] : List Int)) then (some true) else (bif (a0 == ([105, 110] : List Int)) then (some true) else (bif (a0 == ([97, 104, 101, 97, 100] : List Int)) then (some true) else (bif (a0 == ([98, 97, 99, 107] : List Int)) then (some true) else (bif (a0 == ([119, 101, 105, 103, 104, 116, 115] : List Int)) then (some true) else (J 33 [] (Xe (a0)))))))))
theorem A1r (k : Nat) (x : (List Int)) : (Ck k).J 26 [] (Xd x) = Xh k (Ck k).J (Ck k).L x := by
 apply cutX (Ck k) [.r, .l, .r, .b, .l, .b, .b, .b, .b, .l, .r, .r] [] (Xd x) [(16, []), (26, []), (33, [])] [] (Xh k · · x) <;> intros <;> kernel_rfl
noncomputable def Xi (k : Nat) (J : JF Bool) (L : LF Bool) : (List Int) → Option Bool
 | a0 => bif (a0 == ([112, 108, 97, 110] : List Int)) then (some true) else (bif (a0 == ([111, 102, 102, 115, 101, 116] : List Int)) then (some true) else (bif (a0 == ([115, 117, 109] : List Int)) then (some true) else (bif (a0 == ([115, 112, 108, 105, 116] : List Int)) then (some true) else (bif (a0 == ([121, 101, 108, 108, 111, 119] : List Int)) then (some true) else (bif (a0 == ([114, 101, 100] : List Int)) then (some true) else (bif (a0 == ([102, 108, 97, 115, 104] : List Int)) then (some true) else (bif (a0 == ([98, 101, 115, 116] : List Int)) then (some true) else (bif (a0 == ([121, 101, 115] : List Int)) then (some true) else (bif (a0 == ([110, 111] : List Int)) then (some true) else (bif (a0 == ([115, 112, 101, 110, 116] : List Int)) then (some true) else (some false)))))))))))
theorem A1s (k : Nat) (x : (List Int)) : (Ck k).J 33 [] (Xe x) = Xi k (Ck k).J (Ck k).L x := by
 apply cutX (Ck k) [.r, .l, .r, .b, .l, .b, .b, .b, .b, .l, .r, .r, .r] [] (Xe x) [(16, []), (26, []), (33, [])] [] (Xi k · · x) <;> intros <;> kernel_rfl
theorem Afo (k : Nat) : Ac Tryz.prog 78 (Ad4 k) := Ah (Ck k).C (l := []) k rfl trivial Ad Tryz.func78 (by kernel_rfl)
def fplannamedi : Sk := ⟨[.lf (.pv .str)], [], []⟩
def fplannamedo : Sk := ⟨[.lf (.pv .bool)], [], []⟩
def A3p (k : Nat) : EnvL := [(77, [Att k]), (78, [Ad4 k])]
def Akt (k : Nat) : Cfg := mkC (A3p k) 59 0 0
def cplannamed (k : Nat) : (List Int) → Option Bool := hid (Ag (Akt k) k Tryz.f47 fplannamedi fplannamedo)
def sgplannamed (k : Nat) : Sig := Af fplannamedi fplannamedo (cplannamed k)
noncomputable def Aku (k : Nat) : (List Int) → Option Bool
 | a0 => ((Ps k) ((1 : Int), a0, (0 : Int), (0 : Int))).bind fun o1 => bif o1 then (((L5 k) (a0)).bind fun o2 => some (!o2)) else (some false)
theorem A3q (k : Nat) (x : (List Int)) : cplannamed k x = Aku k x := (Ae _ _).trans (by kernel_rfl)
theorem Vq (k : Nat) : Ac Tryz.prog 47 (sgplannamed k) := Ah (Akt k) k rfl ⟨⟨Axw k, trivial⟩, ⟨Afo k, trivial⟩, trivial⟩ Ad Tryz.func47 (by kernel_rfl)
abbrev H14 : Type := (List Int) × (Int) × (Int)
def Aj1 : Sk := ⟨[.agg [.pv .str, .pv (.int .i64), .pv (.int .i64)]], [], []⟩
def Aj2 : Sk := ⟨[.lf (.pv .bool)], [], []⟩
def A27 (k : Nat) : EnvL := [(47, [sgplannamed k]), (23, [sgplannums k])]
def Ajz (k : Nat) : Cfg := { mkC (A27 k) 64 0 0 with bl := [58, 60] }
def Mg (k : Nat) : H14 → Option Bool := hid (Ag (Ajz k) k Tryz.f121 Aj1 Aj2)
def At7 (k : Nat) : Sig := Af Aj1 Aj2 (Mg k)
noncomputable def Aj0 (k : Nat) : H14 → Option Bool
 | (a0, a1, a2) => ((cplannamed k) (a0)).bind fun o1 => bif (!o1) then (some true) else (((cplannums k) (([a1, a2] : List (Int)))).bind fun o2 => some (!o2))
theorem A28 (k : Nat) (x : H14) : Mg k x = Aj0 k x := (Ae _ _).trans (by kernel_rfl)
theorem Ayg (k : Nat) : Ac Tryz.prog 121 (At7 k) := Ah (Ajz k) k rfl ⟨⟨Vq k, trivial⟩, ⟨P8 k, trivial⟩, trivial⟩ Ad Tryz.func121 (by kernel_rfl)
abbrev H15 : Type := (List (YT0)) × (Int) × (Int)
def Ww : Sk := ⟨[.lf (.pv (.slice yt0)), .lf (.fn 121 [] [])], [], []⟩
def Wx : Sk := ⟨[.lf (.pv (.int .i64))], [], []⟩
def Ahl : Sk := ⟨sparse 19 [(0, .lf (.pv (.slice yt0))), (1, .lf (.fn 121 [] [])), (7, .lf (.pv (.int .i64))), (8, .lf (.pv (.int .i64)))], [], []⟩
abbrev Wu := H15
def M0 : Wu → St := stOf Ahl 67
def A1c (k : Nat) : EnvL := [(121, [At7 k])]
def Ey (k : Nat) : FnX Int := mkX ({ mkC (A1c k) 67 0 0 with hint := fun i => look none [(2, some Ahl)] i }) k Tryz.f139 Wx
def Ve (k : Nat) : (List (YT0)) → Option Int := hid (Ag (Ey k).C k Tryz.f139 Ww Wx)
def Atq (k : Nat) : Sig := Af Ww Wx (Ve k)
noncomputable def Wv (k : Nat) (J : JF Int) (L : LF Int) : (List (YT0)) → Option Int
 | a0 => L 2 [] k (M0 (a0, ((List.length a0 : Nat) : Int), (0 : Int)))
theorem A1d (k : Nat) (x : (List (YT0))) : Ve k x = Wv k (Ey k).J (Ey k).L x := by
 refine (Ae _ _).trans ?_; apply cutX (Ey k) [] [] (st0 (Ey k).C Tryz.f139 Ww x) [] [(2, [], k)] (Wv k · · x) <;> intros <;> kernel_rfl
noncomputable def Ahm (k j2 : Nat) (J : JF Int) (L : LF Int) : Wu → Option Int
 | (a0, a1, a2) => bif (decide (a2 < a1)) then (idx zt0 a0 a2 fun o1 => ((Mg k) (o1.1, o1.2.1, o1.2.2.1)).bind fun o2 => bif o2 then (some a2) else (L 2 [] j2 (M0 (a0, a1, (IntKind.wrap .i64 (a2 + (1 : Int))))))) else (some (-1 : Int))
theorem A1e (k j2 : Nat) (x : Wu) : (Ey k).L 2 [] (j2 + 1) (M0 x) = Ahm k j2 (Ey k).J (Ey k).L x := by
 apply cutX (Ey k) [.r, .l, .r, .b, .b] [j2] (M0 x) [] [(2, [], j2)] (Ahm k j2 · · x) <;> intros <;> kernel_rfl
theorem Axs (k : Nat) : Ac Tryz.prog 139 (Atq k) := Ah (Ey k).C k rfl ⟨⟨Ayg k, trivial⟩, trivial⟩ Ad Tryz.func139 (by kernel_rfl)
def Ag5 : Sk := ⟨[.lf (.pv (.slice yt0)), .lf (.fn 121 [] [])], [], []⟩
def Ag6 : Sk := ⟨[.lf (.pv .bool)], [], []⟩
def A0u (k : Nat) : EnvL := [(139, [Atq k])]
def Ag3 (k : Nat) : Cfg := mkC (A0u k) 57 0 0
def Lz (k : Nat) : (List (YT0)) → Option Bool := hid (Ag (Ag3 k) k Tryz.f130 Ag5 Ag6)
def Atk (k : Nat) : Sig := Af Ag5 Ag6 (Lz k)
noncomputable def Ag4 (k : Nat) : (List (YT0)) → Option Bool
 | a0 => ((Ve k) (a0)).bind fun o1 => some (decide (o1 ≥ (0 : Int)))
theorem A0v (k : Nat) (x : (List (YT0))) : Lz k x = Ag4 k x := (Ae _ _).trans (by kernel_rfl)
theorem Axk (k : Nat) : Ac Tryz.prog 130 (Atk k) := Ah (Ag3 k) k rfl ⟨⟨Axs k, trivial⟩, trivial⟩ Ad Tryz.func130 (by kernel_rfl)
def Akl : Sk := ⟨[.lf (.pv (.slice yt0)), .lf (.pv (.int .i64)), .lf (.pv (.int .i64)), .lf (.fn 121 [] [])], [], []⟩
def Akm : Sk := ⟨[.lf (.pv .bool)], [], []⟩
def A3h (k : Nat) : EnvL := [(130, [Atk k])]
def Akj (k : Nat) : Cfg := mkC (A3h k) 72 0 0
def P3 (k : Nat) : H15 → Option Bool := hid (Ag (Akj k) k Tryz.f120 Akl Akm)
def Auc (k : Nat) : Sig := Af Akl Akm (P3 k)
noncomputable def Akk (k : Nat) : H15 → Option Bool
 | (a0, a1, a2) => bif (decide (((List.length a0 : Nat) : Int) < a1)) then (some true) else (bif (decide (((List.length a0 : Nat) : Int) > a2)) then (some true) else (((Lz k) (a0)).bind fun o1 => some o1))
theorem A3i (k : Nat) (x : H15) : P3 k x = Akk k x := (Ae _ _).trans (by kernel_rfl)
theorem Ayl (k : Nat) : Ac Tryz.prog 120 (Auc k) := Ah (Akj k) k rfl ⟨⟨Axk k, trivial⟩, trivial⟩ Ad Tryz.func120 (by kernel_rfl)
abbrev H16 : Type := (List Int) × (Int) × (Int) × (Int) × (List (YT0))
def Ajp : Sk := ⟨[.agg [.pv .str, .pv (.int .i64), .pv (.int .i64), .pv (.int .i64), .pv (.slice yt0)]], [], []⟩
def Ajq : Sk := ⟨[.lf (.pv .bool)], [], []⟩
def A21 (k : Nat) : EnvL := [(47, [sgplannamed k]), (23, [sgplannums k]), (120, [Auc k])]
def Ajn (k : Nat) : Cfg := { mkC (A21 k) 71 0 0 with bl := [58, 60] }
def Md (k : Nat) : H16 → Option Bool := hid (Ag (Ajn k) k Tryz.f103 Ajp Ajq)
def At4 (k : Nat) : Sig := Af Ajp Ajq (Md k)
noncomputable def Ajo (k : Nat) : H16 → Option Bool
 | (a0, a1, a2, a3, a4) => ((cplannamed k) (a0)).bind fun o1 => bif (!o1) then (some true) else (((cplannums k) (([a1, a2, a3] : List (Int)))).bind fun o2 => bif (!o2) then (some true) else (((P3 k) (a4, (0 : Int), (8 : Int))).bind fun o3 => some o3))
theorem A22 (k : Nat) (x : H16) : Md k x = Ajo k x := (Ae _ _).trans (by kernel_rfl)
theorem Ayd (k : Nat) : Ac Tryz.prog 103 (At4 k) := Ah (Ajn k) k rfl ⟨⟨Vq k, trivial⟩, ⟨P8 k, trivial⟩, ⟨Ayl k, trivial⟩, trivial⟩ Ad Tryz.func103 (by kernel_rfl)
abbrev H17 : Type := (List (YT1)) × (Int) × (Int)
def Wk : Sk := ⟨[.lf (.pv (.slice yt1)), .lf (.fn 103 [] [])], [], []⟩
def Wl : Sk := ⟨[.lf (.pv (.int .i64))], [], []⟩
def Ahf : Sk := ⟨sparse 19 [(0, .lf (.pv (.slice yt1))), (1, .lf (.fn 103 [] [])), (7, .lf (.pv (.int .i64))), (8, .lf (.pv (.int .i64)))], [], []⟩
abbrev Wi := H17
def Mx : Wi → St := stOf Ahf 67
def A03 (k : Nat) : EnvL := [(103, [At4 k])]
def Ev (k : Nat) : FnX Int := mkX ({ mkC (A03 k) 67 0 0 with hint := fun i => look none [(2, some Ahf)] i }) k Tryz.f129 Wl
def Vb (k : Nat) : (List (YT1)) → Option Int := hid (Ag (Ev k).C k Tryz.f129 Wk Wl)
def Atn (k : Nat) : Sig := Af Wk Wl (Vb k)
noncomputable def Wj (k : Nat) (J : JF Int) (L : LF Int) : (List (YT1)) → Option Int
 | a0 => L 2 [] k (Mx (a0, ((List.length a0 : Nat) : Int), (0 : Int)))
theorem A04 (k : Nat) (x : (List (YT1))) : Vb k x = Wj k (Ev k).J (Ev k).L x := by
 refine (Ae _ _).trans ?_; apply cutX (Ev k) [] [] (st0 (Ev k).C Tryz.f129 Wk x) [] [(2, [], k)] (Wj k · · x) <;> intros <;> kernel_rfl
noncomputable def Ahg (k j2 : Nat) (J : JF Int) (L : LF Int) : Wi → Option Int
 | (a0, a1, a2) => bif (decide (a2 < a1)) then (idx zt1 a0 a2 fun o1 => ((Md k) (o1.1, o1.2.1, o1.2.2.1, o1.2.2.2.1, o1.2.2.2.2.1)).bind fun o2 => bif o2 then (some a2) else (L 2 [] j2 (Mx (a0, a1, (IntKind.wrap .i64 (a2 + (1 : Int))))))) else (some (-1 : Int))
theorem A05 (k j2 : Nat) (x : Wi) : (Ev k).L 2 [] (j2 + 1) (Mx x) = Ahg k j2 (Ev k).J (Ev k).L x := by
 apply cutX (Ev k) [.r, .l, .r, .b, .b] [j2] (Mx x) [] [(2, [], j2)] (Ahg k j2 · · x) <;> intros <;> kernel_rfl
theorem Axp (k : Nat) : Ac Tryz.prog 129 (Atn k) := Ah (Ev k).C k rfl ⟨⟨Ayd k, trivial⟩, trivial⟩ Ad Tryz.func129 (by kernel_rfl)
def Agt : Sk := ⟨[.lf (.pv (.slice yt1)), .lf (.fn 103 [] [])], [], []⟩
def Agu : Sk := ⟨[.lf (.pv .bool)], [], []⟩
def A0o (k : Nat) : EnvL := [(129, [Atn k])]
def Agr (k : Nat) : Cfg := mkC (A0o k) 57 0 0
def Lw (k : Nat) : (List (YT1)) → Option Bool := hid (Ag (Agr k) k Tryz.f119 Agt Agu)
def Ath (k : Nat) : Sig := Af Agt Agu (Lw k)
noncomputable def Ags (k : Nat) : (List (YT1)) → Option Bool
 | a0 => ((Vb k) (a0)).bind fun o1 => some (decide (o1 ≥ (0 : Int)))
theorem A0p (k : Nat) (x : (List (YT1))) : Lw k x = Ags k x := (Ae _ _).trans (by kernel_rfl)
theorem Axh (k : Nat) : Ac Tryz.prog 119 (Ath k) := Ah (Agr k) k rfl ⟨⟨Axp k, trivial⟩, trivial⟩ Ad Tryz.func119 (by kernel_rfl)
def Aj9 : Sk := ⟨[.lf (.pv (.slice yt1)), .lf (.pv (.int .i64)), .lf (.pv (.int .i64)), .lf (.fn 103 [] [])], [], []⟩
def Aka : Sk := ⟨[.lf (.pv .bool)], [], []⟩
def A3b (k : Nat) : EnvL := [(119, [Ath k])]
def Aj7 (k : Nat) : Cfg := mkC (A3b k) 72 0 0
def Vn (k : Nat) : H17 → Option Bool := hid (Ag (Aj7 k) k Tryz.f102 Aj9 Aka)
def At9 (k : Nat) : Sig := Af Aj9 Aka (Vn k)
noncomputable def Aj8 (k : Nat) : H17 → Option Bool
 | (a0, a1, a2) => bif (decide (((List.length a0 : Nat) : Int) < a1)) then (some true) else (bif (decide (((List.length a0 : Nat) : Int) > a2)) then (some true) else (((Lw k) (a0)).bind fun o1 => some o1))
theorem A3c (k : Nat) (x : H17) : Vn k x = Aj8 k x := (Ae _ _).trans (by kernel_rfl)
theorem Ayi (k : Nat) : Ac Tryz.prog 102 (At9 k) := Ah (Aj7 k) k rfl ⟨⟨Axh k, trivial⟩, trivial⟩ Ad Tryz.func102 (by kernel_rfl)
def Ajl : Sk := ⟨[.lf (.pv (.slice yt1))], [], []⟩
def Ajm : Sk := ⟨[.lf (.pv .bool)], [], []⟩
def A2z (k : Nat) : EnvL := [(102, [At9 k])]
def Ajj (k : Nat) : Cfg := mkC (A2z k) 53 0 0
def Mc (k : Nat) : (List (YT1)) → Option Bool := hid (Ag (Ajj k) k Tryz.f81 Ajl Ajm)
def At3 (k : Nat) : Sig := Af Ajl Ajm (Mc k)
noncomputable def Ajk (k : Nat) : (List (YT1)) → Option Bool
 | a0 => ((Vn k) (a0, (1 : Int), (4 : Int))).bind fun o1 => some o1
theorem A20 (k : Nat) (x : (List (YT1))) : Mc k x = Ajk k x := (Ae _ _).trans (by kernel_rfl)
theorem Ayc (k : Nat) : Ac Tryz.prog 81 (At3 k) := Ah (Ajj k) k rfl ⟨⟨Ayi k, trivial⟩, trivial⟩ Ad Tryz.func81 (by kernel_rfl)
abbrev H18 : Type := (List (List (YT1))) × (Int) × (Int)
def Wg : Sk := ⟨[.lf (.pv (.slice (.slice yt1))), .lf (.fn 81 [] [])], [], []⟩
def Wh : Sk := ⟨[.lf (.pv (.int .i64))], [], []⟩
def Ahd : Sk := ⟨sparse 19 [(0, .lf (.pv (.slice (.slice yt1)))), (1, .lf (.fn 81 [] [])), (7, .lf (.pv (.int .i64))), (8, .lf (.pv (.int .i64)))], [], []⟩
abbrev We := H18
def Mw : We → St := stOf Ahd 67
def A00 (k : Nat) : EnvL := [(81, [At3 k])]
def Eu (k : Nat) : FnX Int := mkX ({ mkC (A00 k) 67 0 0 with hint := fun i => look none [(2, some Ahd)] i }) k Tryz.f118 Wh
def Va (k : Nat) : (List (List (YT1))) → Option Int := hid (Ag (Eu k).C k Tryz.f118 Wg Wh)
def Atm (k : Nat) : Sig := Af Wg Wh (Va k)
noncomputable def Wf (k : Nat) (J : JF Int) (L : LF Int) : (List (List (YT1))) → Option Int
 | a0 => L 2 [] k (Mw (a0, ((List.length a0 : Nat) : Int), (0 : Int)))
theorem A01 (k : Nat) (x : (List (List (YT1)))) : Va k x = Wf k (Eu k).J (Eu k).L x := by
 refine (Ae _ _).trans ?_; apply cutX (Eu k) [] [] (st0 (Eu k).C Tryz.f118 Wg x) [] [(2, [], k)] (Wf k · · x) <;> intros <;> kernel_rfl
noncomputable def Ahe (k j2 : Nat) (J : JF Int) (L : LF Int) : We → Option Int
 | (a0, a1, a2) => bif (decide (a2 < a1)) then (idx [] a0 a2 fun o1 => ((Mc k) (o1)).bind fun o2 => bif o2 then (some a2) else (L 2 [] j2 (Mw (a0, a1, (IntKind.wrap .i64 (a2 + (1 : Int))))))) else (some (-1 : Int))
theorem A02 (k j2 : Nat) (x : We) : (Eu k).L 2 [] (j2 + 1) (Mw x) = Ahe k j2 (Eu k).J (Eu k).L x := by
 apply cutX (Eu k) [.r, .l, .r, .b, .b] [j2] (Mw x) [] [(2, [], j2)] (Ahe k j2 · · x) <;> intros <;> kernel_rfl
theorem Axo (k : Nat) : Ac Tryz.prog 118 (Atm k) := Ah (Eu k).C k rfl ⟨⟨Ayc k, trivial⟩, trivial⟩ Ad Tryz.func118 (by kernel_rfl)
def Agp : Sk := ⟨[.lf (.pv (.slice (.slice yt1))), .lf (.fn 81 [] [])], [], []⟩
def Agq : Sk := ⟨[.lf (.pv .bool)], [], []⟩
def A0m (k : Nat) : EnvL := [(118, [Atm k])]
def Agn (k : Nat) : Cfg := mkC (A0m k) 57 0 0
def Lv (k : Nat) : (List (List (YT1))) → Option Bool := hid (Ag (Agn k) k Tryz.f101 Agp Agq)
def Atg (k : Nat) : Sig := Af Agp Agq (Lv k)
noncomputable def Ago (k : Nat) : (List (List (YT1))) → Option Bool
 | a0 => ((Va k) (a0)).bind fun o1 => some (decide (o1 ≥ (0 : Int)))
theorem A0n (k : Nat) (x : (List (List (YT1)))) : Lv k x = Ago k x := (Ae _ _).trans (by kernel_rfl)
theorem Axg (k : Nat) : Ac Tryz.prog 101 (Atg k) := Ah (Agn k) k rfl ⟨⟨Axo k, trivial⟩, trivial⟩ Ad Tryz.func101 (by kernel_rfl)
def Aj5 : Sk := ⟨[.lf (.pv (.slice (.slice yt1))), .lf (.pv (.int .i64)), .lf (.pv (.int .i64)), .lf (.fn 81 [] [])], [], []⟩
def Aj6 : Sk := ⟨[.lf (.pv .bool)], [], []⟩
def A29 (k : Nat) : EnvL := [(101, [Atg k])]
def Aj3 (k : Nat) : Cfg := mkC (A29 k) 72 0 0
def Vm (k : Nat) : H18 → Option Bool := hid (Ag (Aj3 k) k Tryz.f80 Aj5 Aj6)
def At8 (k : Nat) : Sig := Af Aj5 Aj6 (Vm k)
noncomputable def Aj4 (k : Nat) : H18 → Option Bool
 | (a0, a1, a2) => bif (decide (((List.length a0 : Nat) : Int) < a1)) then (some true) else (bif (decide (((List.length a0 : Nat) : Int) > a2)) then (some true) else (((Lv k) (a0)).bind fun o1 => some o1))
theorem A3a (k : Nat) (x : H18) : Vm k x = Aj4 k x := (Ae _ _).trans (by kernel_rfl)
theorem Ayh (k : Nat) : Ac Tryz.prog 80 (At8 k) := Ah (Aj3 k) k rfl ⟨⟨Axg k, trivial⟩, trivial⟩ Ad Tryz.func80 (by kernel_rfl)
def Ajt : Sk := ⟨[.agg [.pv (.slice (.slice yt1))]], [], []⟩
def Aju : Sk := ⟨[.lf (.pv .bool)], [], []⟩
def A23 (k : Nat) : EnvL := [(80, [At8 k])]
def Ajr (k : Nat) : Cfg := { mkC (A23 k) 54 0 0 with bl := [58, 60] }
def Me (k : Nat) : (List (List (YT1))) → Option Bool := hid (Ag (Ajr k) k Tryz.f49 Ajt Aju)
def At5 (k : Nat) : Sig := Af Ajt Aju (Me k)
noncomputable def Ajs (k : Nat) : (List (List (YT1))) → Option Bool
 | a0 => ((Vm k) (a0, (1 : Int), (2 : Int))).bind fun o1 => some o1
theorem A24 (k : Nat) (x : (List (List (YT1)))) : Me k x = Ajs k x := (Ae _ _).trans (by kernel_rfl)
theorem Aye (k : Nat) : Ac Tryz.prog 49 (At5 k) := Ah (Ajr k) k rfl ⟨⟨Ayh k, trivial⟩, trivial⟩ Ad Tryz.func49 (by kernel_rfl)
abbrev H19 : Type := (List ((List (List (YT1))) × (Unit))) × (Int) × (Int)
abbrev H20 : Type := List ((List (List (YT1))) × (Unit))
def Wo : Sk := ⟨[.lf (.pv (.slice (.cons (.slice (.slice yt1)) .nil))), .lf (.fn 49 [] [])], [], []⟩
def Wp : Sk := ⟨[.lf (.pv (.int .i64))], [], []⟩
def Ahh : Sk := ⟨sparse 19 [(0, .lf (.pv (.slice (.cons (.slice (.slice yt1)) .nil)))), (1, .lf (.fn 49 [] [])), (7, .lf (.pv (.int .i64))), (8, .lf (.pv (.int .i64)))], [], []⟩
abbrev Wm := H19
def My : Wm → St := stOf Ahh 67
def A06 (k : Nat) : EnvL := [(49, [At5 k])]
def Ew (k : Nat) : FnX Int := mkX ({ mkC (A06 k) 67 0 0 with hint := fun i => look none [(2, some Ahh)] i }) k Tryz.f100 Wp
def Vc (k : Nat) : H20 → Option Int := hid (Ag (Ew k).C k Tryz.f100 Wo Wp)
def Ato (k : Nat) : Sig := Af Wo Wp (Vc k)
noncomputable def Wn (k : Nat) (J : JF Int) (L : LF Int) : H20 → Option Int
 | a0 => L 2 [] k (My (a0, ((List.length a0 : Nat) : Int), (0 : Int)))
theorem A07 (k : Nat) (x : H20) : Vc k x = Wn k (Ew k).J (Ew k).L x := by
 refine (Ae _ _).trans ?_; apply cutX (Ew k) [] [] (st0 (Ew k).C Tryz.f100 Wo x) [] [(2, [], k)] (Wn k · · x) <;> intros <;> kernel_rfl
noncomputable def Ahi (k j2 : Nat) (J : JF Int) (L : LF Int) : Wm → Option Int
 | (a0, a1, a2) => bif (decide (a2 < a1)) then (idx ([], ()) a0 a2 fun o1 => ((Me k) (o1.1)).bind fun o2 => bif o2 then (some a2) else (L 2 [] j2 (My (a0, a1, (IntKind.wrap .i64 (a2 + (1 : Int))))))) else (some (-1 : Int))
theorem A08 (k j2 : Nat) (x : Wm) : (Ew k).L 2 [] (j2 + 1) (My x) = Ahi k j2 (Ew k).J (Ew k).L x := by
 apply cutX (Ew k) [.r, .l, .r, .b, .b] [j2] (My x) [] [(2, [], j2)] (Ahi k j2 · · x) <;> intros <;> kernel_rfl
theorem Axq (k : Nat) : Ac Tryz.prog 100 (Ato k) := Ah (Ew k).C k rfl ⟨⟨Aye k, trivial⟩, trivial⟩ Ad Tryz.func100 (by kernel_rfl)
def Agx : Sk := ⟨[.lf (.pv (.slice (.cons (.slice (.slice yt1)) .nil))), .lf (.fn 49 [] [])], [], []⟩
def Agy : Sk := ⟨[.lf (.pv .bool)], [], []⟩
def A0q (k : Nat) : EnvL := [(100, [Ato k])]
def Agv (k : Nat) : Cfg := mkC (A0q k) 57 0 0
def Lx (k : Nat) : H20 → Option Bool := hid (Ag (Agv k) k Tryz.f79 Agx Agy)
def Ati (k : Nat) : Sig := Af Agx Agy (Lx k)
noncomputable def Agw (k : Nat) : H20 → Option Bool
 | a0 => ((Vc k) (a0)).bind fun o1 => some (decide (o1 ≥ (0 : Int)))
theorem A0r (k : Nat) (x : H20) : Lx k x = Agw k x := (Ae _ _).trans (by kernel_rfl)
theorem Axi (k : Nat) : Ac Tryz.prog 79 (Ati k) := Ah (Agv k) k rfl ⟨⟨Axq k, trivial⟩, trivial⟩ Ad Tryz.func79 (by kernel_rfl)
def Akd : Sk := ⟨[.lf (.pv (.slice (.cons (.slice (.slice yt1)) .nil))), .lf (.pv (.int .i64)), .lf (.pv (.int .i64)), .lf (.fn 49 [] [])], [], []⟩
def Ake : Sk := ⟨[.lf (.pv .bool)], [], []⟩
def A3d (k : Nat) : EnvL := [(79, [Ati k])]
def Akb (k : Nat) : Cfg := mkC (A3d k) 72 0 0
def Vo (k : Nat) : H19 → Option Bool := hid (Ag (Akb k) k Tryz.f48 Akd Ake)
def Aua (k : Nat) : Sig := Af Akd Ake (Vo k)
noncomputable def Akc (k : Nat) : H19 → Option Bool
 | (a0, a1, a2) => bif (decide (((List.length a0 : Nat) : Int) < a1)) then (some true) else (bif (decide (((List.length a0 : Nat) : Int) > a2)) then (some true) else (((Lx k) (a0)).bind fun o1 => some o1))
theorem A3e (k : Nat) (x : H19) : Vo k x = Akc k x := (Ae _ _).trans (by kernel_rfl)
theorem Ayj (k : Nat) : Ac Tryz.prog 48 (Aua k) := Ah (Akb k) k rfl ⟨⟨Axi k, trivial⟩, trivial⟩ Ad Tryz.func48 (by kernel_rfl)
abbrev H21 : Type := (List Int) × (Int) × (List ((List (List (YT1))) × (Unit))) × (Int) × (Int)
def Ajx : Sk := ⟨[.agg [.pv .str, .pv (.int .i64), .pv (.slice (.cons (.slice (.slice yt1)) .nil)), .pv (.int .i64), .pv (.int .i64)]], [], []⟩
def Ajy : Sk := ⟨[.lf (.pv .bool)], [], []⟩
def A25 (k : Nat) : EnvL := [(47, [sgplannamed k]), (23, [sgplannums k]), (48, [Aua k])]
def Ajv (k : Nat) : Cfg := { mkC (A25 k) 73 0 0 with bl := [58, 60] }
def Mf (k : Nat) : H21 → Option Bool := hid (Ag (Ajv k) k Tryz.f25 Ajx Ajy)
def At6 (k : Nat) : Sig := Af Ajx Ajy (Mf k)
noncomputable def Ajw (k : Nat) : H21 → Option Bool
 | (a0, a1, a2, a3, a4) => ((cplannamed k) (a0)).bind fun o1 => bif (!o1) then (some true) else (((cplannums k) (([a1, a3, a4] : List (Int)))).bind fun o2 => bif (!o2) then (some true) else (((Vo k) (a2, (0 : Int), (4 : Int))).bind fun o3 => some o3))
theorem A26 (k : Nat) (x : H21) : Mf k x = Ajw k x := (Ae _ _).trans (by kernel_rfl)
theorem Ayf (k : Nat) : Ac Tryz.prog 25 (At6 k) := Ah (Ajv k) k rfl ⟨⟨Vq k, trivial⟩, ⟨P8 k, trivial⟩, ⟨Ayj k, trivial⟩, trivial⟩ Ad Tryz.func25 (by kernel_rfl)
end
end Go.Proofs.YtcmmgllmncllfaaGreatDoorV
