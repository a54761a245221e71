import Derived.Test.YtipcabmhdokfjaaGreatDoorB3
import Derived.Test.YtipcabmhdokfjaaGreatDoorProg
import Derived.Shelf.Strings.Builder1
import Derived.Test.YtipcabmhdokfjaaGreatDoorB4
import Derived.Lib.AppendIntMem
import Derived.LaidEql
import Derived.Stop.Asserts
import Derived.RowKitTokens
import Derived.Lib.IfaceEq
/-! Joined, names shortened: XB, X1, X2, XF, XE, XG, G0. -/
set_option linter.unusedVariables false
set_option linter.unusedSimpArgs false
namespace Go.Proofs.YtipcabmhdokfjaaGreatDoorV
open Go Go.RowKit
theorem Bif {w : World} {b : Nat} {cs : Array Value} {et : Nat} {fr : Nat × Nat} (h : w.heap[b]? = some (.cells cs et fr)) (off : Nat) (v : Value) : w.setCell ⟨b, off, none⟩ v = w.setRow b (cs.setIfInBounds off v) := by
 unfold World.setCell World.setRow
 congr 1
 apply Array.ext_getElem?
 intro i
 simp only [Array.getElem?_modify]
 split
 ·rename_i e
  subst e
  rw [h]
  simp
 ·rfl
def bdI : Sk := ⟨[.lf (.ptr 0 0)], [[.bld 0 56, .own 0, .pv (.int .i64)]], [some (5, .int .u8)]⟩
def bdO : Sk := ⟨[], [[.bld 0 56, .own 0, .pv (.int .i64)]], [some (5, .int .u8)]⟩
def bdS : Sk := ⟨[.lf (.pv .str)], [[.bld 0 56, .dead, .pv (.int .i64)]], [none]⟩
def copyC (x : Bool × Int × List Int) : Option (Bool × Int × List Int) := some (false, x.2.1, x.2.2)
def strC (x : Bool × Int × List Int) : Option (List Int × Bool × Int) := if x.2.2 = [] then none else some (x.2.2, x.1, x.2.1)
set_option maxHeartbeats 4000000 in
set_option maxRecDepth 100000 in
theorem Brd (b : Nat) (w : World) (h0 : w.cell? ⟨b, 0, none⟩ = some (.pointer (some ⟨b, 0, none⟩))) :
  Calls Tryz.prog 107 #[.pointer (some ⟨b, 0, none⟩)] w fun e w' => e = .returned (.tuple #[]) ∧ w' = w := by
 obtain ⟨j, hj, _⟩ := Option.map_eq_some_iff.1 (show (Tryz.prog.info? 54).map (·.size) = some 2 by kernel_rfl)
 have mixed : Tryz.prog.follows .mixedOrders = true := by kernel_rfl
 have t52 := Tryz.underlying52; have a52 := Tryz.isAgg52; have z52 := Tryz.sizeOf52; have v52 := Tryz.zeroValue52; have u52 := run_underlying Tryz.underlying52
 have t54 := Tryz.underlying54; have a54 := Tryz.isAgg54; have z54 := Tryz.sizeOf54; have v54 := Tryz.zeroValue54; have u54 := run_underlying Tryz.underlying54
 have t170 := Tryz.underlying170; have a170 := Tryz.isAgg170; have z170 := Tryz.sizeOf170; have v170 := Tryz.zeroValue170; have u170 := run_underlying Tryz.underlying170
 have t29 := Tryz.underlying29; have a29 := Tryz.isAgg29; have z29 := Tryz.sizeOf29; have v29 := Tryz.zeroValue29; have u29 := run_underlying Tryz.underlying29
 have t116 := Tryz.underlying116; have a116 := Tryz.isAgg116; have z116 := Tryz.sizeOf116; have v116 := Tryz.zeroValue116; have u116 := run_underlying Tryz.underlying116
 have t3 := Tryz.underlying3; have a3 := Tryz.isAgg3; have z3 := Tryz.sizeOf3; have v3 := Tryz.zeroValue3; have u3 := run_underlying Tryz.underlying3
 have t4 := Tryz.underlying4; have a4 := Tryz.isAgg4; have z4 := Tryz.sizeOf4; have v4 := Tryz.zeroValue4; have u4 := run_underlying Tryz.underlying4
 have t9 := Tryz.underlying9; have a9 := Tryz.isAgg9; have z9 := Tryz.sizeOf9; have v9 := Tryz.zeroValue9; have u9 := run_underlying Tryz.underlying9
 have t5 := Tryz.underlying5; have a5 := Tryz.isAgg5; have z5 := Tryz.sizeOf5; have v5 := Tryz.zeroValue5; have u5 := run_underlying Tryz.underlying5
 go_enter Tryz.func107, Tryz.ntmps107
 go_wp2
 rw [Lib.run_neq_ptr_same w _ Tryz.underlying52 hj]
 go_wp2
 go_end0
 exact ⟨rfl, rfl⟩
set_option maxHeartbeats 4000000 in
set_option maxRecDepth 100000 in
theorem Brc (b : Nat) (w : World) (h0 : w.cell? ⟨b, 0, none⟩ = some (.pointer none)) (hsh : w.shape? b = some (56, 3)) (hfz : w.frozen? ⟨b, 0, none⟩ = false) :
  Calls Tryz.prog 107 #[.pointer (some ⟨b, 0, none⟩)] w fun e w' => e = .returned (.tuple #[]) ∧ w' = w.setCell ⟨b, 0, none⟩ (.pointer (some ⟨b, 0, none⟩)) := by
 obtain ⟨j, hj, hjs⟩ := Option.map_eq_some_iff.1 (show (Tryz.prog.info? 54).map (·.size) = some 2 by kernel_rfl)
 have mixed : Tryz.prog.follows .mixedOrders = true := by kernel_rfl
 have t52 := Tryz.underlying52; have a52 := Tryz.isAgg52; have z52 := Tryz.sizeOf52; have v52 := Tryz.zeroValue52; have u52 := run_underlying Tryz.underlying52
 have t54 := Tryz.underlying54; have a54 := Tryz.isAgg54; have z54 := Tryz.sizeOf54; have v54 := Tryz.zeroValue54; have u54 := run_underlying Tryz.underlying54
 have t170 := Tryz.underlying170; have a170 := Tryz.isAgg170; have z170 := Tryz.sizeOf170; have v170 := Tryz.zeroValue170; have u170 := run_underlying Tryz.underlying170
 have t29 := Tryz.underlying29; have a29 := Tryz.isAgg29; have z29 := Tryz.sizeOf29; have v29 := Tryz.zeroValue29; have u29 := run_underlying Tryz.underlying29
 have t116 := Tryz.underlying116; have a116 := Tryz.isAgg116; have z116 := Tryz.sizeOf116; have v116 := Tryz.zeroValue116; have u116 := run_underlying Tryz.underlying116
 have t3 := Tryz.underlying3; have a3 := Tryz.isAgg3; have z3 := Tryz.sizeOf3; have v3 := Tryz.zeroValue3; have u3 := run_underlying Tryz.underlying3
 have t4 := Tryz.underlying4; have a4 := Tryz.isAgg4; have z4 := Tryz.sizeOf4; have v4 := Tryz.zeroValue4; have u4 := run_underlying Tryz.underlying4
 have t9 := Tryz.underlying9; have a9 := Tryz.isAgg9; have z9 := Tryz.sizeOf9; have v9 := Tryz.zeroValue9; have u9 := run_underlying Tryz.underlying9
 have t5 := Tryz.underlying5; have a5 := Tryz.isAgg5; have z5 := Tryz.sizeOf5; have v5 := Tryz.zeroValue5; have u5 := run_underlying Tryz.underlying5
 go_enter Tryz.func107, Tryz.ntmps107
 go_wp2
 rw [Lib.run_to_unsafe w ⟨b, 0, none⟩ Tryz.underlying52 Tryz.underlying170 hj (by rw [hjs]; decide) hsh (Nat.zero_lt_succ 2)]
 simp only [Result.andThen]
 rw [Oper.upon_value]
 go_wp2
 rw [run_callFunc_extern Tryz.func167 (by kernel_rfl) (by kernel_rfl) (by kernel_rfl) (e := Extern.AbiNoEscape.same) (by kernel_rfl)]
 rw [Lib.run_noEscape]
 simp only [Result.andThen]
 rw [Oper.upon_value]
 go_wp2
 rw [Lib.run_from_unsafe w ⟨b, 0, none⟩ Tryz.underlying170 Tryz.underlying52 hj hsh (by kernel_rfl)]
 simp only [Result.andThen]
 rw [Oper.upon_value]
 go_wp2
 go_end0
 exact ⟨rfl, rfl⟩
set_option maxHeartbeats 4000000 in
set_option maxRecDepth 100000 in
theorem Cgj (b g cap : Nat) (p d : Value) (cur : Array Value) (l : List UInt8) (w : World) (h0 : l ≠ []) (hb : w.heap[b]? = some (.cells #[p, .slice (some ⟨g, 0, none⟩) l.length cap, d] 56 (0, 0))) (hg : w.heap[g]? = some (.cells cur 5 (0, 0)))
  (hnc : l.length ≤ cap) (hcm : cap ≤ maxLen) (hcs : cur.size = cap * 1) (hcell : ∀ (j : Nat) (x : UInt8), l[j]? = some x → w.cell? ⟨g, j, none⟩ = some (.int .u8 x.toNat)) :
  Calls Tryz.prog 25 #[.pointer (some ⟨b, 0, none⟩)] w fun e w' => e = .returned (.string ⟨l.toArray⟩) ∧ w' = w.drew.freeze ⟨g, 0, none⟩ l.length := by
 have hl0 : l.length ≠ 0 := by simpa using h0
 have c1 : w.drew.cell? ⟨b, 1, none⟩ = some (.slice (some ⟨g, 0, none⟩) l.length cap) := by
  have : w.drew.heap[b]? = some (.cells #[p, .slice (some ⟨g, 0, none⟩) l.length cap, d] 56 (0, 0)) := hb
  rw [Lib.cell_of_heap this]; rfl
 have hSD : (Builtin.unsafeSliceData_ #[29] 116 #[.slice (some ⟨g, 0, none⟩) l.length cap]).run Tryz.prog w.drew = .ok (.pointer (some ⟨g, 0, none⟩)) w.drew :=
  Lib.run_unsafeSliceData_row _ _ _ _ _ _ (by omega)
 have hUS : (Builtin.unsafeString_ #[116, 3] 9 #[.pointer (some ⟨g, 0, none⟩), .int .i64 l.length]).run Tryz.prog w.drew = .ok (.string ⟨l.toArray⟩) (w.drew.freeze ⟨g, 0, none⟩ l.length) := by
  refine Lib.run_unsafeString_row w.drew 116 3 9 5 Tryz.underlying116 (by kernel_rfl) g cur.size (by have hg' : w.drew.heap[g]? = some (.cells cur 5 (0, 0)) := hg; simp [World.shape?, hg']) l h0 (by omega) (by unfold maxLen at hcm; omega) ?_
  intro j x hx
  rw [Ii, Nat.zero_add]
  exact hcell j x hx
 have mixed : Tryz.prog.follows .mixedOrders = true := by kernel_rfl
 have t52 := Tryz.underlying52; have a52 := Tryz.isAgg52; have z52 := Tryz.sizeOf52; have v52 := Tryz.zeroValue52; have u52 := run_underlying Tryz.underlying52
 have t54 := Tryz.underlying54; have a54 := Tryz.isAgg54; have z54 := Tryz.sizeOf54; have v54 := Tryz.zeroValue54; have u54 := run_underlying Tryz.underlying54
 have t170 := Tryz.underlying170; have a170 := Tryz.isAgg170; have z170 := Tryz.sizeOf170; have v170 := Tryz.zeroValue170; have u170 := run_underlying Tryz.underlying170
 have t29 := Tryz.underlying29; have a29 := Tryz.isAgg29; have z29 := Tryz.sizeOf29; have v29 := Tryz.zeroValue29; have u29 := run_underlying Tryz.underlying29
 have t116 := Tryz.underlying116; have a116 := Tryz.isAgg116; have z116 := Tryz.sizeOf116; have v116 := Tryz.zeroValue116; have u116 := run_underlying Tryz.underlying116
 have t3 := Tryz.underlying3; have a3 := Tryz.isAgg3; have z3 := Tryz.sizeOf3; have v3 := Tryz.zeroValue3; have u3 := run_underlying Tryz.underlying3
 have t4 := Tryz.underlying4; have a4 := Tryz.isAgg4; have z4 := Tryz.sizeOf4; have v4 := Tryz.zeroValue4; have u4 := run_underlying Tryz.underlying4
 have t9 := Tryz.underlying9; have a9 := Tryz.isAgg9; have z9 := Tryz.sizeOf9; have v9 := Tryz.zeroValue9; have u9 := run_underlying Tryz.underlying9
 have t5 := Tryz.underlying5; have a5 := Tryz.isAgg5; have z5 := Tryz.sizeOf5; have v5 := Tryz.zeroValue5; have u5 := run_underlying Tryz.underlying5
 go_enter Tryz.func25, Tryz.ntmps25
 go_wp2
 go_region_o
 all_goals (go_wp2; go_ret; exact ⟨rfl, rfl⟩)
section
variable {F : Nat → Prop} {s s' : St} {G : Gm} {vals vals' : List Value} {w w' : World}
theorem Holds.slotsTo (h : Holds F s G vals w) (hb : s'.boxes = s.boxes) (ho : s'.owns = s.owns) (hs : All2 (HA (HR F s' G w)) s'.slots vals') : Holds F s' G vals' w := by
 obtain ⟨sl, bx, ow⟩ := s
 obtain ⟨sl', bx', ow'⟩ := s'
 cases hb
 cases ho
 exact ⟨hs, h.box, h.own, h.bb, h.bo, h.oo, h.nF, h.Flt, h.ty, h.gl⟩
theorem box3 {b0 b1 b2 : L} {cs : Array Value} {R : L → Value → Prop} (h : All2 R [b0, b1, b2] cs.toList) : ∃ v0 v1 v2, cs = #[v0, v1, v2] ∧ R b0 v0 ∧ R b1 v1 ∧ R b2 v2 := by
 obtain ⟨l⟩ := cs
 cases h with
 | cons h0 h => cases h with
  | cons h1 h => cases h with
   | cons h2 h => cases h; exact ⟨_, _, _, rfl, h0, h1, h2⟩
end
theorem Brb : Aa Tryz.prog 107 ⟨bdI, bdO, C4 bdI.tys bdO.tys copyC⟩ := by
 refine ⟨⟨Tryz.f107, by kernel_rfl, by kernel_rfl, by kernel_rfl⟩, fun ps qs hrun F G vals w hH => ?_⟩
 simp only [C4] at hrun
 split at hrun
 rotate_left
 ·cases hrun
 rename_i x hx
 obtain ⟨y, hy, hq⟩ := Option.bind_eq_some_iff.1 hrun
 cases hq
 have hps := Kq hx
 subst hps
 obtain ⟨z, d, xs⟩ := x
 cases hy
 have hsl : All2 (HA (HR F (enc bdI (szS bdI) (toPL bdI.tys (z, d, xs))) G w)) [lf (.ptr 0 0)] vals := hH.slots
 cases hsl with
 | cons h0 hsl =>
 cases hsl
 cases (show _ = Value.pointer (some ⟨G.bx 0, 0, none⟩) from h0)
 obtain ⟨cs, et, hc, hl⟩ := hH.box 0 [.bld 0 56 z, .own 0, .pv ⟨.int .i64, d⟩] rfl
 obtain ⟨v0, v1, v2, rfl, k0, k1, k2⟩ := box3 hl
 have het : et = 56 := by
  have h1 := hH.ty 0 _ rfl _ _ _ hc
  have h2 : G.et 0 = 56 := k0.2
  rw [h1, h2]
 subst het
 have hcell : w.cell? ⟨G.bx 0, 0, none⟩ = some v0 := by rw [Lib.cell_of_heap hc]; rfl
 cases z with
 | false =>
  cases (show v0 = Value.pointer (some ⟨G.bx 0, 0, none⟩) from k0.1)
  refine (Brd (G.bx 0) w hcell).mono fun e w' he => ?_
  obtain ⟨rfl, rfl⟩ := he
  exact ⟨G, [], rfl, hH.slotsTo rfl rfl .nil, ⟨Keeps.refl _ _, fun k hk => .inl hk, fun _ _ => ⟨rfl, rfl⟩, fun _ _ o ho => ⟨⟨o, ho⟩, rfl⟩⟩⟩
 | true =>
  cases (show v0 = Value.pointer none from k0.1)
  refine (Brc (G.bx 0) w hcell (by simp [World.shape?, hc]) (Lib.frozen_of_heap hc 0)).mono fun e w' he => ?_
  obtain ⟨rfl, rfl⟩ := he
  have hst := Y6 hH (b := 0) (ls := [.bld 0 56 true, .own 0, .pv ⟨.int .i64, d⟩]) rfl (k := 0) (new := [.bld 0 56 false]) (by simp) (vs := [.pointer (some ⟨G.bx 0, 0, none⟩)]) (.cons ⟨rfl, k0.2⟩ .nil) hc
  rw [Bif hc]
  obtain ⟨m1, m2⟩ := hst
  have m3 := m2 1 1
  refine ⟨G, [], rfl, Holds.slotsTo m1 rfl rfl .nil, ⟨m3.keeps, fun k hk => m3.fresh k hk, m3.gb, fun l hl o ho => m3.go l hl o ho⟩⟩
theorem strC_ok : Aa Tryz.prog 25 ⟨bdI, bdS, C4 bdI.tys bdS.tys strC⟩ := by
 refine ⟨⟨Tryz.f25, by kernel_rfl, by kernel_rfl, by kernel_rfl⟩, fun ps qs hrun F G vals w hH => ?_⟩
 simp only [C4] at hrun
 split at hrun
 rotate_left
 ·cases hrun
 rename_i x hx
 obtain ⟨y, hy, hq⟩ := Option.bind_eq_some_iff.1 hrun
 cases hq
 have hps := Kq hx
 subst hps
 obtain ⟨z, d, xs⟩ := x
 unfold strC at hy
 split at hy
 ·cases hy
 rename_i hne
 cases hy
 simp only at hne
 have hsl : All2 (HA (HR F (enc bdI (szS bdI) (toPL bdI.tys (z, d, xs))) G w)) [lf (.ptr 0 0)] vals := hH.slots
 cases hsl with
 | cons h0 hsl =>
 cases hsl
 cases (show _ = Value.pointer (some ⟨G.bx 0, 0, none⟩) from h0)
 obtain ⟨cs, et, hc, hl⟩ := hH.box 0 [.bld 0 56 z, .own 0, .pv ⟨.int .i64, d⟩] rfl
 obtain ⟨v0, v1, v2, rfl, k0, k1, k2⟩ := box3 hl
 have het : et = 56 := by
  have h1 := hH.ty 0 _ rfl _ _ _ hc
  have h2 : G.et 0 = 56 := k0.2
  rw [h1, h2]
 subst het
 have ho : Ag (enc bdI (szS bdI) (toPL bdI.tys (z, d, xs))) 0 = some ⟨5, .int .u8, xs⟩ := rfl
 obtain ⟨_, cs2, hr, hel⟩ := hH.own 0 _ ho
 have hrep := Kt hH ho
 rcases hr.2 with ⟨_, hn⟩ | ⟨g, cap, cur, hv, _, hh, hnc, hm, hs, htk⟩
 ·exact absurd (List.length_eq_zero_iff.1 hn) hne
 cases (show v1 = G.ow 0 from k1.1)
 have hrep2 : E9 w (fun k => okS F (enc bdI (szS bdI) (toPL bdI.tys (z, d, xs))) G w k ∨ (G.ow 0).ownBlock = some k) (fun x es => Rep w _ (.int .u8) x es) 1 xs [G.ow 0] := hrep
 obtain ⟨A, c, e1, _, hcm, hx2⟩ := hrep2
 obtain ⟨ad, rfl, hsp, _, hel2⟩ := hx2 hne
 rw [hv] at e1
 cases e1
 obtain ⟨l, hlx, hcl⟩ := Ap8 (ok := fun k => okS F (enc bdI (szS bdI) (toPL bdI.tys (z, d, xs))) G w k ∨ (G.ow 0).ownBlock = some k) hsp xs ⟨g, 0, none⟩ hsp hel2
 have hll : List.length (α := Int) xs = l.length := (congrArg (List.length (α := Int)) hlx).symm.trans (List.length_map _)
 have hl0 : l ≠ [] := by rintro rfl; exact hne (by rw [← hlx]; rfl)
 have hrun2 := Cgj (G.bx 0) g cap v0 v2 cur l w hl0 (by rw [hc, hv]; exact congrArg (fun n => some (Obj.cells #[v0, Value.slice (some ⟨g, 0, none⟩) n cap, v2] 56 (0, 0))) hll) hh (Nat.le_trans (Nat.le_of_eq hll.symm) hnc) hm hs (fun j x hj => by
  obtain ⟨hj1, rfl⟩ := List.getElem?_eq_some_iff.1 hj
  have := hcl j hj1
  rwa [Ii, Nat.zero_add] at this)
 refine hrun2.mono fun e w' he => ?_
 obtain ⟨rfl, rfl⟩ := he
 generalize hs0 : enc bdI (szS bdI) (toPL bdI.tys (z, d, xs)) = s0 at *
 have hgl : Live s0 G g := .inr ⟨0, _, ho, by rw [hv]; rfl⟩
 have hk := Am4 (bs := []) (os := [0]) (si := ⟨[], [], []⟩) (Gi := G) (w' := w) hH (Keeps.refl _ _) (by
  rintro j (⟨b, ls, hb, _⟩ | ⟨l, x, hx, _⟩)
  ·simp [Ai] at hb
  ·simp [Ag] at hx)
 have hd := hk.1.grew (Grew.drew w)
 have hng : ¬ Live (Dm s0 [] [0]) G g := by
  rintro (⟨b, ls, hb, e⟩ | ⟨l', x, hx, e⟩)
  ·obtain ⟨q, hq, _, _⟩ := Km hb
   exact hH.bo b q 0 _ hq ho (by rw [hv, e]; rfl)
  ·obtain ⟨hx', hn⟩ := Iu hx
   have := hH.oo l' 0 x _ g hx' ho e (by rw [hv]; rfl)
   subst this
   exact hn (by simp)
 have hlen0 : l.length ≠ 0 := by simpa using hl0
 have hw : w.drew.freeze ⟨g, 0, none⟩ l.length = { w.drew with heap := w.drew.heap.modify g fun ob => match ob with
   | .cells c elem (lo, hi) => .cells c elem (if lo == hi then (0, 0 + l.length) else (min lo 0, max hi (0 + l.length)))
   | ob => ob } := by
  unfold World.freeze
  rw [if_neg hlen0]
  rfl
 generalize hw' : w.drew.freeze ⟨g, 0, none⟩ l.length = w2 at hw
 have hs2 : w2.heap.size = w.drew.heap.size := by rw [hw]; simp
 have hb2 : ∀ k, k ≠ g → w2.heap[k]? = w.drew.heap[k]? := by
  intro k hk
  rw [hw]
  simp only [Array.getElem?_modify]
  rw [if_neg (fun e => hk e.symm)]
 have hhd : w.drew.heap[g]? = some (.cells cur 5 (0, 0)) := hh
 have hc2 : J2 w.drew w2 g := by
  intro ad had
  rw [hw]
  simp only [World.cell?, Array.getElem?_modify, had, if_true, hhd, Option.map_some]
 have h5 := hd.mark hng hs2 hc2 hb2 fun x hx e => (hH.gl x hx).1 (by rw [e]; exact hgl)
 subst hs0
 refine ⟨G, [.string ⟨l.toArray⟩], rfl, Holds.slotsTo h5 rfl rfl (.cons ?_ .nil), ⟨⟨by rw [hw]; rfl, by rw [hw]; rfl, by rw [hw]; rfl, by rw [hs2]; exact Nat.le_refl _, fun k hk1 hk2 => (hb2 k fun e => hk2 (by rw [e]; exact hgl)).trans rfl⟩, fun k hk2 => ?_, fun _ _ => ⟨rfl, rfl⟩, fun l' hl' x hx => ?_⟩⟩
 ·have hsz : (⟨l.toArray⟩ : ByteArray).size ≤ maxLen := Nat.le_trans (Nat.le_of_eq (show l.toArray.size = List.length (α := Int) xs from hll.symm)) (Nat.le_trans hnc hm)
  exact (show ∃ y : ByteArray, [Value.string ⟨l.toArray⟩] = [.string y] ∧ bs y = xs ∧ y.size ≤ maxLen from ⟨_, rfl, by rw [bs_mk]; exact hlx, hsz⟩)
 ·exact hk.2.fresh k hk2
 ·have : l' = 0 := Nat.lt_one_iff.1 hl'
  subst this
  cases hx
def u8s (l : List Int) : List UInt8 := l.map fun n => UInt8.ofNat n.toNat
theorem Bom (y : ByteArray) : u8s (bs y) = y.data.toList := by
 unfold u8s bs
 rw [List.map_map]
 conv => rhs; rw [← List.map_id y.data.toList]
 apply List.map_congr_left
 intro b _
 simp
def piI : Sk := ⟨[.lf (.pv .str), .lf (.pv (.int .i64)), .lf (.pv (.int .i64))], [], []⟩
def piO : Sk := ⟨[.lf (.pv (.int .i64)), .lf (.err)], [], []⟩
def Oh (x : List Int × Int × Int) : Option (Int × Bool) :=
 if x.2.1 = 10 ∧ x.2.2 = 64 ∧ x.1.length ≤ 9223372036854775806 then
  (match Lib.parseIntB 64 (u8s x.1) with
  | .ok v => if (Lit.int .i64 v).wf then some (v, true) else none
  | _ => none)
 else none
theorem Cda : Aa Tryz.prog 190 ⟨piI, piO, C4 piI.tys piO.tys Oh⟩ := by
 refine Y3 (kin := piI) (kout := piO) rfl rfl rfl rfl Oh ⟨Tryz.f190, by kernel_rfl, by kernel_rfl, by kernel_rfl⟩ fun x y hxy F G vals w hH => ?_
 obtain ⟨a0, a1, a2⟩ := x
 have hs : All2 (HA (HR F (enc piI 0 (toPL piI.tys (a0, a1, a2))) G w)) [lf (.pv ⟨.str, a0⟩), lf (.pv ⟨.int .i64, a1⟩), lf (.pv ⟨.int .i64, a2⟩)] vals := hH.slots
 cases hs with
 | cons h0 hs => cases hs with
  | cons h1 hs => cases hs with
   | cons h2 hs =>
    cases hs
    obtain ⟨s, rfl, e0, hmax⟩ := Amy h0
    have e1 := (Se h1).1
    have e2 := (Se h2).1
    subst e0
    subst e1
    subst e2
    unfold Oh at hxy
    split at hxy
    ·rename_i hc
     obtain ⟨c1, c2, c3⟩ := hc
     simp only at c1 c2 c3 hxy
     subst c1 c2
     split at hxy
     ·rename_i v hv
      split at hxy
      case isFalse => cases hxy
      rename_i hwf
      cases hxy
      rw [Bom] at hv
      have hl : s.size ≤ 9223372036854775806 := by
       have e : (bs s).length = s.size := by
        unfold bs
        rw [List.length_map]
        rfl
       rw [← e]
       exact c3
      refine (Tryz.strconv_ParseInt_10_at64_ok s hl v hv w).mono fun e w' he => ?_
      refine ⟨[.int .i64 v, .nilIface], he.1, ?_, .cons ?_ (.cons ?_ .nil)⟩
      ·rcases he.2 with rfl | ⟨t, rfl⟩
       ·exact Grew.refl _
       ·exact X5 ⟨rfl, rfl, rfl, by rw [Lib.bytesWorld_size]; omega, fun i hi => Lib.bytesWorld_at_old w _ t i (by omega)⟩
      ·exact Cbe hwf
      ·exact Cbf
     ·cases hxy
    ·cases hxy
def toBy (l : List Int) : ByteArray := ⟨(u8s l).toArray⟩
theorem Aoy (y : ByteArray) : toBy (bs y) = y := by
 unfold toBy
 rw [Bom]
def Kl (x : List (List Int) × List Int) : List UInt8 := Lib.join ((x.1.map toBy).map (·.data.toList)) (toBy x.2).data.toList
def joI : Sk := ⟨[.lf (.pv (.slice .str)), .lf (.pv .str)], [], []⟩
def joO : Sk := ⟨[.lf (.pv .str)], [], []⟩
def N9 (x : List (List Int) × List Int) : Option (List Int) :=
 if (Kl x).length ≤ 140737488355328 ∧ x.1.length ≤ 140737488355328 ∧ (Kl x).length ≤ maxLen then some (bs ⟨(Kl x).toArray⟩) else none
theorem Cbn {ok : Nat → Prop} {w : World} {s : ByteArray} {a0 : List (List Int)} {v0 : Value} (hok : ∀ b, ok b → b < w.heap.size)
  (hR : E9 (α := List Int) w ok (fun (x : List Int) es => ∃ y : ByteArray, es = [.string y] ∧ bs y = x ∧ y.size ≤ maxLen) 1 a0 [v0])
  (c1 : (Kl (a0, bs s)).length ≤ 140737488355328) (c2 : a0.length ≤ 140737488355328) :
  Calls Tryz.prog 52 #[v0, .string s] w fun e w' => e = .returned (.string ⟨(Kl (a0, bs s)).toArray⟩) ∧ Below w.heap.size w w' := by
 obtain ⟨A, c, e1, h2, h3, h4⟩ := hR
 cases e1
 have hsep : (toBy (bs s)).data.toList = s.data.toList := by rw [Aoy]
 cases a0 with
 | nil =>
  refine (Tryz.strings_Join_none A c s w).mono fun e w' he => ⟨?_, he.2 ▸ Below.refl _ _⟩
  rw [he.1]
  rfl
 | cons z zs =>
  obtain ⟨ad, rfl, hsp, hokb, hel⟩ := h4 (by simp)
  obtain ⟨b, o, sp⟩ := ad
  simp only at hsp
  subst hsp
  have hlen : ((z :: zs).map toBy).length = (z :: zs).length := List.length_map _
  have hj := Tryz.strings_Join b o c ((z :: zs).map toBy) s w (fun j q hq => ?_) (hok _ hokb) (by rw [hlen]; exact c2) (by rw [hlen]; exact h2) (by rw [← hsep]; exact c1)
  ·rw [hlen] at hj
   refine hj.mono fun e w' he => ⟨?_, he.2⟩
   rw [he.1, ← hsep]
   rfl
  ·rw [List.getElem?_map] at hq
   obtain ⟨x, hx, rfl⟩ := Option.map_eq_some_iff.1 hq
   obtain ⟨es, ⟨y, rfl, hy, _⟩, hcl⟩ := hel j x hx
   subst hy
   rw [Aoy]
   have := hcl 0 (.string y) rfl
   simp [Addr.add] at this
   split at this
   ·rename_i e; subst e; simpa using this
   ·exact this
theorem Cbm : Aa Tryz.prog 52 ⟨joI, joO, C4 joI.tys joO.tys N9⟩ := by
 refine Y3 (kin := joI) (kout := joO) rfl rfl rfl rfl N9 ⟨Tryz.f52, by kernel_rfl, by kernel_rfl, by kernel_rfl⟩ fun x y hxy F G vals w hH => ?_
 obtain ⟨a0, a1⟩ := x
 have hs : All2 (HA (HR F (enc joI 0 (toPL joI.tys (a0, a1))) G w)) [lf (.pv ⟨.slice .str, a0⟩), lf (.pv ⟨.str, a1⟩)] vals := hH.slots
 cases hs with
 | cons h0 hs => cases hs with
  | cons h1 hs =>
   cases hs
   obtain ⟨s, rfl, e0, hmax⟩ := Amy h1
   subst e0
   unfold N9 at hxy
   split at hxy
   ·rename_i hc
    cases hxy
    exact (Cbn (ok := okS F (enc joI 0 (toPL joI.tys (a0, bs s))) G w) (fun b hb => hb.1) h0 hc.1 hc.2.1).mono fun e w' he => ⟨[_], he.1, X5 he.2, .cons (Amz hc.2.2) .nil⟩
   ·cases hxy
def fiI : Sk := ⟨[.lf (.pv (.int .i64)), .lf (.pv (.int .i64))], [], []⟩
def fiO : Sk := ⟨[.lf (.pv .str)], [], []⟩
def fmtI (x : Int × Int) : Option (List Int) := if x.2 = 10 ∧ (Lib.itoa x.1).length ≤ maxLen then some (bs ⟨(Lib.itoa x.1).toArray⟩) else none
theorem fmtI_ok : Aa Tryz.prog 54 ⟨fiI, fiO, C4 fiI.tys fiO.tys fmtI⟩ := by
 refine Y3 (kin := fiI) (kout := fiO) rfl rfl rfl rfl fmtI ⟨Tryz.f54, by kernel_rfl, by kernel_rfl, by kernel_rfl⟩ fun x y hxy F G vals w hH => ?_
 obtain ⟨a0, a1⟩ := x
 have hs : All2 (HA (HR F (enc fiI 0 (toPL fiI.tys (a0, a1))) G w)) [lf (.pv ⟨.int .i64, a0⟩), lf (.pv ⟨.int .i64, a1⟩)] vals := hH.slots
 cases hs with
 | cons h0 hs => cases hs with
  | cons h1 hs =>
   cases hs
   obtain ⟨e0, w0⟩ := Se h0
   obtain ⟨e1, w1⟩ := Se h1
   subst e0
   subst e1
   unfold fmtI at hxy
   split at hxy
   ·rename_i hc
    obtain ⟨c1, c2⟩ := hc
    simp only at c1 c2 hxy
    subst c1
    cases hxy
    obtain ⟨et, fr, hg⟩ := (hH.gl (1, (Lib.pow10Tab.map fun z => Value.int .u64 z).toArray) (by simp [gTab])).2
    have hb := Oy.1 w0
    simp [IntKind.min, IntKind.max, IntKind.signed, IntKind.bits] at hb
    have htab : Lib.TabIs Tryz.prog w "internal/strconv.uint64pow10" .u64 Lib.pow10Tab := by
     unfold Lib.TabIs World.var?
     rw [show Tryz.prog.globalNamed "internal/strconv.uint64pow10" = some 1 by kernel_rfl]
     simp only [Option.bind_some, hg]
    refine (Tryz.strconv_FormatInt_10 a0 (by omega) (by omega) w htab).mono fun e w' he => ?_
    obtain ⟨rfl, k, os, rfl⟩ := he
    refine ⟨[.string ⟨(Lib.itoa a0).toArray⟩], rfl, X5 (Lib.below_grow _ w (Nat.le_refl _) k os), .cons (Amz ?_) .nil⟩
    exact c2
   ·cases hxy
def rpI : Sk := ⟨[.lf (.pv .str), .lf (.pv (.int .i64))], [], []⟩
def rpO : Sk := ⟨[.lf (.pv .str)], [], []⟩
def repB (x : List Int × Int) : List UInt8 := Lib.repeatL (toBy x.1).data.toList x.2.toNat
def repS (x : List Int × Int) : Option (List Int) :=
 if 0 ≤ x.2 ∧ x.2 ≤ 9223372036854775807 ∧ x.1.length * x.2.toNat ≤ 140737488355328 ∧ (repB x).length ≤ maxLen then some (bs ⟨(repB x).toArray⟩) else none
theorem repS_ok : Aa Tryz.prog 51 ⟨rpI, rpO, C4 rpI.tys rpO.tys repS⟩ := by
 refine Y3 (kin := rpI) (kout := rpO) rfl rfl rfl rfl repS ⟨Tryz.f51, by kernel_rfl, by kernel_rfl, by kernel_rfl⟩ fun x y hxy F G vals w hH => ?_
 obtain ⟨a0, a1⟩ := x
 have hs : All2 (HA (HR F (enc rpI 0 (toPL rpI.tys (a0, a1))) G w)) [lf (.pv ⟨.str, a0⟩), lf (.pv ⟨.int .i64, a1⟩)] vals := hH.slots
 cases hs with
 | cons h0 hs => cases hs with
  | cons h1 hs =>
   cases hs
   obtain ⟨s, rfl, e0, hmax⟩ := Amy h0
   have e1 := (Se h1).1
   subst e0
   subst e1
   unfold repS at hxy
   split at hxy
   ·rename_i hc
    obtain ⟨c1, c2, c3, c4⟩ := hc
    simp only at c1 c2 c3 c4 hxy
    cases hxy
    have hlen : (bs s).length = s.size := Ft s
    have hr := Tryz.strings_Repeat s a1.toNat w (by omega) (by rw [← hlen]; exact c3)
    have ea : ((a1.toNat : Nat) : Int) = a1 := Int.toNat_of_nonneg c1
    rw [ea] at hr
    refine hr.mono fun e w' he => ?_
    obtain ⟨rfl, hb⟩ := he
    have hB : repB (bs s, a1) = Lib.repeatL s.data.toList a1.toNat := by unfold repB; rw [Aoy]
    have c5 : (⟨(repB (bs s, a1)).toArray⟩ : ByteArray).size ≤ maxLen := c4
    exact ⟨[.string ⟨(repB (bs s, a1)).toArray⟩], by rw [hB]; rfl, X5 hb, .cons (Amz c5) .nil⟩
   ·cases hxy
end Go.Proofs.YtipcabmhdokfjaaGreatDoorV
set_option maxHeartbeats 4000000
set_option maxRecDepth 100000
namespace Go.Proofs.YtipcabmhdokfjaaGreatDoorV
open Go Go.RowKit Go.Extern.Stop Go.Stop Go.Extern
theorem as_nil (t : Value) (w : World) :
  Calls Tryz.prog 48 #[.nilIface, t] w fun e w' => e = .returned (.bool false) ∧ w' = w := by
 go_enter Tryz.func48, Tryz.ntmps48
 go_wp2
 go_ret
 exact ⟨rfl, rfl⟩
theorem Bxi (t : Addr) (w : World) : (ReflectliteValue.unpack (.iface 90 (.pointer (some t)))).run Tryz.prog w
  = .ok (.agg #[.pointer (some ⟨7, 90, none⟩), .pointer (some ⟨w.heap.size, 0, none⟩), .int .u64 150]) (w.alloc (.cells #[.pointer (some t)] 90)) := by kernel_rfl
theorem Bxg (a : Addr) (w : World) : (ReflectliteValue.methodAny (ReflectliteValue.valueError "reflectlite.Value.Type" 0) (fun t _ _ _ => ReflectliteType.toType t) #[.agg #[.pointer (some ⟨7, 90, none⟩), .pointer (some a), .int .u64 150]]).run Tryz.prog w
  = .ok (.iface 236 (.agg #[.pointer (some ⟨7, 90, none⟩)])) w := by kernel_rfl
theorem Bw7 (h : Value) (w : World) : (Go.method 438 236 (.agg #[h]) "Kind").run Tryz.prog w = .ok (241, h) w := by kernel_rfl
theorem Bw2 (w : World) : ((ReflectliteType.abiMethod fun t => (fun a : Nat => Value.int IntKind.u8 (a : Int)) <$> Rtype.kind t) #[.pointer (some ⟨7, 90, none⟩)]).run Tryz.prog w = .ok (.int .u8 22) w := by kernel_rfl
theorem Bw1 (w : World) : ((ReflectliteType.abiMethod fun t => (fun a : Nat => Value.int IntKind.u8 (a : Int)) <$> Rtype.kind t) #[.pointer (some ⟨7, 88, none⟩)]).run Tryz.prog w = .ok (.int .u8 22) w := by kernel_rfl
theorem Ari (z : Sem Value) (f : TypeId → Addr → Nat → Nat → Sem Value) (v : Value) :
  ReflectliteValue.method z f #[v] = (do match ← ReflectliteValue.parts v with | none => z | some (t, a, fl) => f t a fl (fl % 32)) := rfl
theorem Arh (a : Addr) (w : World) : (ReflectliteValue.parts (.agg #[.pointer (some ⟨7, 90, none⟩), .pointer (some a), .int .u64 150])).run Tryz.prog w = .ok (some (90, a, 150)) w := by kernel_rfl
theorem Bwz (a p : Addr) (W : World) (ha : W.cell? a = some (.pointer (some p))) :
  (ReflectliteValue.method (ReflectliteValue.valueError "reflectlite.Value.IsNil" 0) ReflectliteValue.isNil #[.agg #[.pointer (some ⟨7, 90, none⟩), .pointer (some a), .int .u64 150]]).run Tryz.prog W = .ok (.bool false) W := by
 rw [Ari]
 simp only [Sem.run_bind, Arh, Result.andThen]
 simp [ReflectliteValue.isNil, loadVar, isAgg, underlying, Tryz.underlying90, ha, Result.andThen]
theorem Bw5 (h : Value) (w : World) : (Go.method 438 236 (.agg #[h]) "Elem").run Tryz.prog w = .ok (254, .agg #[h]) w := by kernel_rfl
theorem Bw6 (h : Value) (w : World) : (Go.method 438 236 (.agg #[h]) "Implements").run Tryz.prog w = .ok (255, .agg #[h]) w := by kernel_rfl
theorem Bw3 (h : Value) (w : World) : (Go.method 438 236 (.agg #[h]) "AssignableTo").run Tryz.prog w = .ok (252, .agg #[h]) w := by kernel_rfl
theorem Bwv (w : World) : (ReflectliteType.method ReflectliteType.elem #[.agg #[.pointer (some ⟨7, 90, none⟩)]]).run Tryz.prog w = .ok (.iface 236 (.agg #[.pointer (some ⟨7, 88, none⟩)])) w := by kernel_rfl
theorem Bwy (w : World) : (ReflectliteType.relation "Implements" ReflectliteType.implements_ #[.agg #[.pointer (some ⟨7, 88, none⟩)], .iface 236 (.agg #[.pointer (some ⟨7, 82, none⟩)])]).run Tryz.prog w = .ok (.bool true) w := by kernel_rfl
theorem Bxf (v : Value) (w : World) : (ReflectliteType.typeOf #[.iface 88 v]).run Tryz.prog w = .ok (.iface 236 (.agg #[.pointer (some ⟨7, 88, none⟩)])) w := by kernel_rfl
theorem Bws (w : World) : (ReflectliteType.relation "AssignableTo" ReflectliteType.assignableTo #[.agg #[.pointer (some ⟨7, 88, none⟩)], .iface 236 (.agg #[.pointer (some ⟨7, 88, none⟩)])]).run Tryz.prog w = .ok (.bool true) w := by kernel_rfl
theorem Bxh (e : Addr) (w : World) : (ReflectliteValue.unpack (.iface 88 (.pointer (some e)))).run Tryz.prog w
  = .ok (.agg #[.pointer (some ⟨7, 88, none⟩), .pointer (some ⟨w.heap.size, 0, none⟩), .int .u64 150]) (w.alloc (.cells #[.pointer (some e)] 88)) := by kernel_rfl
theorem Bwu (w : World) : (Rtype.elem? 90).run Tryz.prog w = .ok (some 88) w := by kernel_rfl
theorem er_mk (p : Addr) (w : World) : (ReflectliteValue.mk 88 p ReflectliteValue.flagAddr).run Tryz.prog w = .ok (.agg #[.pointer (some ⟨7, 88, none⟩), .pointer (some p), .int .u64 406]) w := by kernel_rfl
theorem Bww (a p : Addr) (W : World) (ha : W.cell? a = some (.pointer (some p))) :
  (ReflectliteValue.method (ReflectliteValue.valueError "reflectlite.Value.Elem" 0) ReflectliteValue.elem #[.agg #[.pointer (some ⟨7, 90, none⟩), .pointer (some a), .int .u64 150]]).run Tryz.prog W
   = .ok (.agg #[.pointer (some ⟨7, 88, none⟩), .pointer (some p), .int .u64 406]) W := by
 rw [Ari]
 simp only [Sem.run_bind, Arh, Result.andThen]
 simp [ReflectliteValue.elem, loadVar, isAgg, underlying, Tryz.underlying90, ha, Result.andThen, Bwu, er_mk]
theorem er_rls (v x : Value) : ReflectliteValue.set #[v, x] = (do
  let (some (dst, a, fl), some (src, b, _)) := (← ReflectliteValue.parts v, ← ReflectliteValue.parts x)
   | unsupported (.noEntry "extern/(internal/reflectlite.Value).Set.zeroValue")
  if fl / ReflectliteValue.flagAddr % 2 == 0 then unsupported (.noEntry "extern/(internal/reflectlite.Value).Set.unaddressable")
  let val ← loadVar src b
  if ← Rtype.directlyAssignable dst src then storeVar dst a val
  else if ← Rtype.implements dst src then
   if (← Rtype.kind src) == 20 then
    match val with
    | .nilIface => unsupported (.noEntry "extern/reflectlite: a nil value of one interface type handed on as a value of another")
    | _ => storeVar dst a val
   else storeVar dst a (.iface src val)
  else panicString ("reflectlite.Set: value of type " ++ (← Rtype.spelt src) ++ " is not assignable to type " ++ (← Rtype.spelt dst))
  pure (.tuple #[])) := rfl
theorem Bxe (a : Addr) (w : World) : (ReflectliteValue.parts (.agg #[.pointer (some ⟨7, 88, none⟩), .pointer (some a), .int .u64 406])).run Tryz.prog w = .ok (some (88, a, 406)) w := by kernel_rfl
theorem Bxd (a : Addr) (w : World) : (ReflectliteValue.parts (.agg #[.pointer (some ⟨7, 88, none⟩), .pointer (some a), .int .u64 150])).run Tryz.prog w = .ok (some (88, a, 150)) w := by kernel_rfl
theorem Bwt (w : World) : (Rtype.directlyAssignable 88 88).run Tryz.prog w = .ok true w := by kernel_rfl
theorem er_set (ta b e : Addr) (old : Value) (W : World) (hb : W.cell? b = some (.pointer (some e))) (ht : W.cell? ta = some old) (hf : W.frozen? ta = false) :
  (ReflectliteValue.set #[.agg #[.pointer (some ⟨7, 88, none⟩), .pointer (some ta), .int .u64 406], .agg #[.pointer (some ⟨7, 88, none⟩), .pointer (some b), .int .u64 150]]).run Tryz.prog W
   = .ok (.tuple #[]) (W.setCell ta (.pointer (some e))) := by
 rw [er_rls]
 simp only [Sem.run_bind, Bxe, Bxd, Result.andThen]
 simp [ReflectliteValue.flagAddr, loadVar, isAgg, underlying, Tryz.underlying88, hb, Result.andThen, Bwt, storeVar, Value.cells, storeCells, Addr.add]
 rw [run_store Tryz.prog W ta _ _ (by rfl)]
 simp [ht, hf]
def asW (w : World) (t e : Addr) : World :=
 (((w.alloc (.cells #[.pointer (some t)] 90)).alloc (.cells #[.pointer (some ⟨7, 90, none⟩), .pointer (some ⟨w.heap.size, 0, none⟩), .int .u64 150] 173)).alloc (.cells #[.pointer (some ⟨7, 90, none⟩), .pointer (some ⟨w.heap.size, 0, none⟩), .int .u64 150] 173)).alloc (.cells #[.pointer (some e)] 88)
theorem as_hit (e t : Addr) (old : Value) (w : World) (hg : w.cell? ⟨0, 0, none⟩ = some (.iface 236 (.agg #[.pointer (some ⟨7, 82, none⟩)]))) (ht0 : w.cell? t = some old) (hf0 : w.frozen? t = false) :
  Calls Tryz.prog 48 #[.iface 88 (.pointer (some e)), .iface 90 (.pointer (some t))] w fun ev w' => ev = .returned (.bool true) ∧ w' = (asW w t e).setCell t (.pointer (some e)) := by
 have h6 := @run_callFunc_extern Tryz.prog 102 _ (fun args => ReflectliteValue.unpack (args.getD 0 (.tuple #[]))) Tryz.func102 (by kernel_rfl) (by kernel_rfl) (by kernel_rfl) (by kernel_rfl)
 have h7 := @run_callFunc_extern Tryz.prog 103 _ (ReflectliteValue.methodAny (ReflectliteValue.valueError "reflectlite.Value.Type" 0) (fun t _ _ _ => ReflectliteType.toType t)) Tryz.func103 (by kernel_rfl) (by kernel_rfl) (by kernel_rfl) (by kernel_rfl)
 have h8 := @run_callFunc_extern Tryz.prog 104 _ (ReflectliteValue.method (ReflectliteValue.valueError "reflectlite.Value.IsNil" 0) ReflectliteValue.isNil) Tryz.func104 (by kernel_rfl) (by kernel_rfl) (by kernel_rfl) (by kernel_rfl)
 have h27 := @run_callFunc_extern Tryz.prog 241 _ (ReflectliteType.abiMethod fun t => do pure (.int .u8 (← Rtype.kind t))) Tryz.func241 (by kernel_rfl) (by kernel_rfl) (by kernel_rfl) (by kernel_rfl)
 have h37 := @run_callFunc_extern Tryz.prog 254 _ (ReflectliteType.method ReflectliteType.elem) Tryz.func254 (by kernel_rfl) (by kernel_rfl) (by kernel_rfl) (by kernel_rfl)
 have h38 := @run_callFunc_extern Tryz.prog 255 _ (ReflectliteType.relation "Implements" ReflectliteType.implements_) Tryz.func255 (by kernel_rfl) (by kernel_rfl) (by kernel_rfl) (by kernel_rfl)
 have h10 := @run_callFunc_extern Tryz.prog 163 _ ReflectliteType.typeOf Tryz.func163 (by kernel_rfl) (by kernel_rfl) (by kernel_rfl) (by kernel_rfl)
 have h35 := @run_callFunc_extern Tryz.prog 252 _ (ReflectliteType.relation "AssignableTo" ReflectliteType.assignableTo) Tryz.func252 (by kernel_rfl) (by kernel_rfl) (by kernel_rfl) (by kernel_rfl)
 have h11 := @run_callFunc_extern Tryz.prog 164 _ (ReflectliteValue.method (ReflectliteValue.valueError "reflectlite.Value.Elem" 0) ReflectliteValue.elem) Tryz.func164 (by kernel_rfl) (by kernel_rfl) (by kernel_rfl) (by kernel_rfl)
 have h12 := @run_callFunc_extern Tryz.prog 165 _ ReflectliteValue.set Tryz.func165 (by kernel_rfl) (by kernel_rfl) (by kernel_rfl) (by kernel_rfl)
 have tO := Bxf
 have mA := Bw3
 have a25 := Bws
 have v25 := Bxh
 have f6 := Bxi
 have f7 := Bxg
 have mK := Bw7
 have mE := Bw5
 have mI := Bw6
 have k27 := Bw2
 have k25 := Bw1
 have e27 := Bwv
 have i25 := Bwy
 have n8 := Bwz ⟨w.heap.size, 0, none⟩ t ((w.alloc (.cells #[.pointer (some t)] 90)).alloc (.cells #[.pointer (some ⟨7, 90, none⟩), .pointer (some ⟨w.heap.size, 0, none⟩), .int .u64 150] 173)) (by simp)
 have hlt : 0 < w.heap.size := by
  rcases Nat.eq_zero_or_pos w.heap.size with h0 | h
  ·simp [World.cell?, h0] at hg
  ·exact h
 have hg2 : ((w.alloc (.cells #[.pointer (some t)] 90)).alloc (.cells #[.pointer (some ⟨7, 90, none⟩), .pointer (some ⟨w.heap.size, 0, none⟩), .int .u64 150] 173)).cell? ⟨0, 0, none⟩ = some (.iface 236 (.agg #[.pointer (some ⟨7, 82, none⟩)])) := by
  rw [World.cell?_alloc_lt _ _ ⟨0, 0, none⟩ (by simp), World.cell?_alloc_lt _ _ ⟨0, 0, none⟩ hlt]; exact hg
 have htl : t.block < w.heap.size := by
  rcases Nat.lt_or_ge t.block w.heap.size with h | h
  ·exact h
  ·simp [World.cell?, Array.getElem?_eq_none h] at ht0
 have el := Bww ⟨w.heap.size, 0, none⟩ t (((w.alloc (.cells #[.pointer (some t)] 90)).alloc (.cells #[.pointer (some ⟨7, 90, none⟩), .pointer (some ⟨w.heap.size, 0, none⟩), .int .u64 150] 173)).alloc (.cells #[.pointer (some ⟨7, 90, none⟩), .pointer (some ⟨w.heap.size, 0, none⟩), .int .u64 150] 173)) (by rw [World.cell?_alloc_lt _ _ ⟨w.heap.size, 0, none⟩ (by simp; omega)]; simp)
 have st := er_set t ⟨w.heap.size + 1 + 1 + 1, 0, none⟩ e old (asW w t e)
  (by unfold asW; rw [World.cell?_alloc_at _ _ _ _ (by simp)]; rfl)
  (by unfold asW; rw [World.cell?_alloc_lt _ _ t (by simp; omega), World.cell?_alloc_lt _ _ t (by simp; omega), World.cell?_alloc_lt _ _ t (by simp; omega), World.cell?_alloc_lt _ _ t htl]; exact ht0)
  (by unfold asW; rw [World.frozen?_alloc_old _ _ t (by simp; omega), World.frozen?_alloc_old _ _ t (by simp; omega), World.frozen?_alloc_old _ _ t (by simp; omega), World.frozen?_alloc_old _ _ t (Nat.ne_of_lt htl)]; exact hf0)
 unfold asW at st
 go_enter Tryz.func48, Tryz.ntmps48
 go_wp2
 refine wp_loop_rounds 1 ?_
 rw [rounds_succ]
 go_wp2
 go_ret
 exact ⟨rfl, rfl⟩
theorem Bw0 (v : Value) (w : World) : (Extern.ReflectliteType.typeOf #[.iface 30 v]).run Tryz.prog w = .ok (.iface 236 (.agg #[.pointer (some ⟨7, 30, none⟩)])) w := by kernel_rfl
theorem er_cmp (w : World) : (callFunc 253 #[.agg #[.pointer (some ⟨7, 30, none⟩)]]).run Tryz.prog w = .ok (.value (.bool true)) w := by kernel_rfl
theorem Bw4 (v : Value) (w : World) : (Go.method 438 236 v "Comparable").run Tryz.prog w = .ok (253, v) w := by kernel_rfl
theorem Bw9 (v : Value) (xT : TypeId) (w : World) : (Instr.typeAssert (.iface 88 v) xT 284 true).run Tryz.prog w = .ok (.tuple #[.nilIface, .bool false]) w := run_typeAssert_lacksB Tryz.underlying284 (by kernel_rfl) (by kernel_rfl) v xT w
theorem Bxa (v : Value) (xT : TypeId) (w : World) : (Instr.typeAssert (.iface 30 v) xT 284 true).run Tryz.prog w = .ok (.tuple #[.nilIface, .bool false]) w := run_typeAssert_lacksB Tryz.underlying284 (by kernel_rfl) (by kernel_rfl) v xT w
theorem Bwx (v : Value) (xT : TypeId) (w : World) : (Instr.typeAssert (.iface 88 v) xT 244 true).run Tryz.prog w = .ok (.tuple #[.iface 88 v, .bool true]) w := run_typeAssert_hasB Tryz.underlying244 (by kernel_rfl) v xT w
theorem Bxb (v : Value) (xT : TypeId) (w : World) : (Instr.typeAssert (.iface 30 v) xT 244 true).run Tryz.prog w = .ok (.tuple #[.nilIface, .bool false]) w := run_typeAssert_lacksB Tryz.underlying244 (by kernel_rfl) (by kernel_rfl) v xT w
theorem Bxc (v : Value) (xT : TypeId) (w : World) : (Instr.typeAssert (.iface 30 v) xT 245 true).run Tryz.prog w = .ok (.tuple #[.nilIface, .bool false]) w := run_typeAssert_lacksB Tryz.underlying245 (by kernel_rfl) (by kernel_rfl) v xT w
theorem Bw8 (v : Value) (w : World) : (Go.method 438 88 v "Unwrap").run Tryz.prog w = .ok (247, v) w := by kernel_rfl
theorem is_no (b off : Nat) (n m : Int) (w : World) (h1 : w.cell? ⟨b, off, none⟩ = some (.int .i64 n)) :
  Calls Tryz.prog 106 #[.iface 88 (.pointer (some ⟨b, off, none⟩)), .iface 30 (.int .i64 m)] w fun e w' => e = .returned (.bool (n == m)) ∧ w' = w := by
 have h8 := @run_callFunc_extern Tryz.prog 163 _ Extern.ReflectliteType.typeOf Tryz.func163 (by kernel_rfl) (by kernel_rfl) (by kernel_rfl) (by kernel_rfl)
 have h32 := er_cmp
 have tT := Bw0
 have mR := Bw4
 have nE := Bw9
 have nN := Bxa
 have uE := Bwx
 have uN := Bxb
 have vN := Bxc
 have mU := Bw8
 have heq := Lib.run_eql_iface_int (P := Tryz.prog) (tx := 30) (k := .i64) w n m Tryz.underlying82 (by kernel_rfl) Tryz.underlying30
 have hty := run_eql_iface_types (P := Tryz.prog) 88 30 (.pointer (some ⟨b, off, none⟩)) (.int .i64 m) Tryz.underlying82 (by decide) w
 cases hnm : n == m <;> rw [hnm] at heq
 all_goals
  go_enter Tryz.func106, Tryz.ntmps106
  go_wp2
  refine wp_loop_rounds 2 ?_
  rw [rounds_succ]
  go_wp2
  rw [rounds_succ]
  go_wp2
  go_ret
  exact ⟨rfl, rfl⟩
end Go.Proofs.YtipcabmhdokfjaaGreatDoorV
namespace Go.Proofs.YtipcabmhdokfjaaGreatDoorV
open Go Go.RowKit
def asI : Sk := ⟨[.lf (.erp 88 [.int .i64, .int .i64]), .lf (.ifp 90 0 0)], [[.nil .ptr]], []⟩
def asO : Sk := ⟨[.lf (.pv .bool)], [[.orp [.int .i64, .int .i64]]], []⟩
def asF (x : Bool × Int × Int) : Option (Bool × Bool × Int × Int) := some (!x.1, x.1, x.2.1, x.2.2)
def isI : Sk := ⟨[.lf (.erp 88 [.int .i64, .int .i64]), .lf (.ifc 30 [.int .i64] false)], [], []⟩
def isO : Sk := ⟨[.lf (.pv .bool)], [], []⟩
def isF (x : Bool × Int × Int × Int) : Option Bool := if x.1 then none else some (x.2.1 == x.2.2.2)
theorem Cf5 {w : World} {b : Nat} {cs : Array Value} {et : Nat} {fr : Nat × Nat} (h : w.heap[b]? = some (.cells cs et fr)) : w.setRow b cs = w := by
 obtain ⟨hlt, e⟩ := Array.getElem?_eq_some_iff.1 h
 have e2 : (w.setRow b cs).heap = w.heap := by
  unfold World.setRow
  apply Array.ext_getElem?
  intro i
  simp only [Array.getElem?_modify]
  split
  ·rename_i e3
   subst e3
   rw [h]
   rfl
  ·rfl
 cases w
 simp only [World.setRow] at e2 ⊢
 rw [e2]
theorem box1 {b0 : L} {cs : Array Value} {R : L → Value → Prop} (h : All2 R [b0] cs.toList) : ∃ v0, cs = #[v0] ∧ R b0 v0 := by
 obtain ⟨l⟩ := cs
 cases h with
 | cons h0 h => cases h; exact ⟨_, rfl, h0⟩
theorem Bo5 (w : World) (t e : Addr) : Grew w (asW w t e) :=
 (((Grew.alloc w _).trans (Grew.alloc _ _)).trans (Grew.alloc _ _)).trans (Grew.alloc _ _)
theorem asF_ok : Aa Tryz.prog 48 ⟨asI, asO, C4 asI.tys asO.tys asF⟩ := by
 refine ⟨⟨Tryz.f48, by kernel_rfl, by kernel_rfl, by kernel_rfl⟩, fun ps qs hrun F G vals w hH => ?_⟩
 simp only [C4] at hrun
 split at hrun
 rotate_left
 ·cases hrun
 rename_i x hx
 obtain ⟨y, hy, hq⟩ := Option.bind_eq_some_iff.1 hrun
 cases hq
 have hps := Kq hx
 subst hps
 obtain ⟨z, n, p⟩ := x
 cases hy
 have hsl : All2 (HA (HR F (enc asI (szS asI) (toPL asI.tys (z, n, p))) G w)) [lf (.erp z 88 [⟨.int .i64, n⟩, ⟨.int .i64, p⟩]), lf (.ifp 90 0 0)] vals := hH.slots
 cases hsl with
 | cons h0 hsl =>
 cases hsl with
 | cons h1 hsl =>
 cases hsl
 cases (show _ = Value.iface 90 (.pointer (some ⟨G.bx 0, 0, none⟩)) from h1)
 obtain ⟨cs, et, hc, hl⟩ := hH.box 0 [.cst .ptr] rfl
 obtain ⟨v0, rfl, k0⟩ := box1 hl
 cases (show v0 = Value.pointer none from k0)
 have hcell : w.cell? ⟨G.bx 0, 0, none⟩ = some (.pointer none) := by rw [Lib.cell_of_heap hc]; rfl
 cases z with
 | true =>
  cases (show _ = Value.nilIface from h0)
  refine (as_nil _ w).mono fun e w' he => ?_
  obtain ⟨rfl, rfl⟩ := he
  have hst := Y6 hH (b := 0) (ls := [.cst .ptr]) rfl (k := 0) (new := [.orp true [⟨.int .i64, n⟩, ⟨.int .i64, p⟩]]) (by simp) (vs := [.pointer none]) (.cons rfl .nil) hc
  obtain ⟨m1, m2⟩ := hst
  have hs : w'.setRow (G.bx 0) ((#[Value.pointer none] : Array Value).toList.take 0 ++ [Value.pointer none] ++ (#[Value.pointer none] : Array Value).toList.drop (0 + [Value.pointer none].length)).toArray = w' := Cf5 hc
  rw [hs] at m1
  have m3 := m2 1 0
  rw [hs] at m3
  exact ⟨G, [.bool false], rfl, Holds.slotsTo m1 rfl rfl (.cons (by exact rfl) .nil), ⟨m3.keeps, fun k hk => m3.fresh k hk, m3.gb, fun l hl o ho => m3.go l hl o ho⟩⟩
 | false =>
  obtain ⟨u, rfl, hrp⟩ := (show ∃ u, _ = Value.iface 88 u ∧ RP w (okS F (enc asI (szS asI) (toPL asI.tys (false, n, p))) G w) [⟨.int .i64, n⟩, ⟨.int .i64, p⟩] u from h0)
  obtain ⟨a, cs2, rfl, hsp, hok, hcl, hall⟩ := hrp
  obtain ⟨_, et0, fr0, hg0⟩ := hH.gl (0, #[.iface 236 (.agg #[.pointer (some ⟨7, 82, none⟩)])]) (by simp [gTab])
  have hg : w.cell? ⟨0, 0, none⟩ = some (.iface 236 (.agg #[.pointer (some ⟨7, 82, none⟩)])) := by rw [Lib.cell_of_heap hg0]; rfl
  refine (as_hit a ⟨G.bx 0, 0, none⟩ (.pointer none) w hg hcell (Lib.frozen_of_heap hc 0)).mono fun e w' he => ?_
  obtain ⟨rfl, rfl⟩ := he
  have hgr := Bo5 w ⟨G.bx 0, 0, none⟩ a
  have hH2 := hH.grew hgr
  have hc2 : (asW w ⟨G.bx 0, 0, none⟩ a).heap[G.bx 0]? = some (.cells #[.pointer none] et (0, 0)) := by
   rw [hgr.block (Array.getElem?_eq_some_iff.1 hc).1]; exact hc
  have hr2 : HR F (enc asI (szS asI) (toPL asI.tys (false, n, p))) G (asW w ⟨G.bx 0, 0, none⟩ a) (.orp false [⟨.int .i64, n⟩, ⟨.int .i64, p⟩]) (.pointer (some a)) :=
   RP.mono (fun k hk => okS.grew hgr hk) ⟨a, cs2, rfl, hsp, hok, hcl, hall⟩
  have hst := Y6 hH2 (b := 0) (ls := [.cst .ptr]) rfl (k := 0) (new := [.orp false [⟨.int .i64, n⟩, ⟨.int .i64, p⟩]]) (by simp) (vs := [.pointer (some a)]) (.cons hr2 .nil) hc2
  rw [Bif hc2]
  obtain ⟨m1, m2⟩ := hst
  have m3 := (Step.grew hgr).trans (m2 1 0)
  refine ⟨G, [.bool true], rfl, Holds.slotsTo m1 rfl rfl (.cons (by exact rfl) .nil), ⟨m3.keeps, fun k hk => m3.fresh k hk, m3.gb, fun l hl o ho => m3.go l hl o ho⟩⟩
theorem isF_ok : Aa Tryz.prog 106 ⟨isI, isO, C4 isI.tys isO.tys isF⟩ := by
 refine ⟨⟨Tryz.f106, by kernel_rfl, by kernel_rfl, by kernel_rfl⟩, fun ps qs hrun F G vals w hH => ?_⟩
 simp only [C4] at hrun
 split at hrun
 rotate_left
 ·cases hrun
 rename_i x hx
 obtain ⟨y, hy, hq⟩ := Option.bind_eq_some_iff.1 hrun
 cases hq
 have hps := Kq hx
 subst hps
 obtain ⟨z, n, p, m⟩ := x
 cases z with
 | true => cases hy
 | false =>
  cases hy
  have hsl : All2 (HA (HR F (enc isI (szS isI) (toPL isI.tys (false, n, p, m))) G w)) [lf (.erp false 88 [⟨.int .i64, n⟩, ⟨.int .i64, p⟩]), lf (.ifc 30 [⟨.int .i64, m⟩] false)] vals := hH.slots
  cases hsl with
  | cons h0 hsl =>
  cases hsl with
  | cons h1 hsl =>
  cases hsl
  obtain ⟨u, rfl, hrp⟩ := (show ∃ u, _ = Value.iface 88 u ∧ RP w (okS F (enc isI (szS isI) (toPL isI.tys (false, n, p, m))) G w) [⟨.int .i64, n⟩, ⟨.int .i64, p⟩] u from h0)
  obtain ⟨⟨b, off, spt⟩, cs2, rfl, hsp, hok, hcl, hall⟩ := hrp
  cases (show spt = none from hsp)
  obtain ⟨cs3, hall3, e3⟩ := (show ∃ cs, All2 (RepL w (okS F (enc isI (szS isI) (toPL isI.tys (false, n, p, m))) G w)) [⟨.int .i64, m⟩] cs ∧ _ = Value.iface 30 (if false = true then .agg cs.toArray else cs.headD undef) from h1)
  cases hall3 with
  | cons r0 r1 =>
  cases r1
  cases (show [_] = [Value.int .i64 m] from r0.1)
  cases e3
  cases hall with
  | cons q0 q1 =>
  have hcell : w.cell? ⟨b, off, none⟩ = some (.int .i64 n) := by
   have h2 := hcl 0 _ rfl
   rw [List.singleton_inj.1 (show [_] = [Value.int .i64 n] from q0.1)] at h2
   rwa [Ii, Nat.add_zero] at h2
  refine (is_no b off n m w hcell).mono fun e w' he => ?_
  obtain ⟨rfl, rfl⟩ := he
  exact ⟨G, [.bool (BEq.beq (α := Int) n m)], rfl, hH.slotsTo rfl rfl (.cons (by exact rfl) .nil), ⟨Keeps.refl _ _, fun k hk => .inl hk, fun _ _ => ⟨rfl, rfl⟩, fun _ _ o ho => ⟨⟨o, ho⟩, rfl⟩⟩⟩
noncomputable section
abbrev yt0 : Ty := (.cons (.int .i64) (.cons (.int .i64) .nil))
abbrev YT0 : Type := (Int) × ((Int) × (Unit))
abbrev zt0 : YT0 := ((0 : Int), ((0 : Int), ()))
abbrev yt1 : Ty := (.cons .str (.cons (.int .i64) (.cons (.int .i64) (.cons yt0 (.cons (.int .i64) (.cons (.int .i64) (.cons (.int .i64) (.cons (.int .i64) (.cons (.int .i64) (.cons (.int .i64) .nil))))))))))
abbrev YT1 : Type := (List Int) × ((Int) × ((Int) × ((YT0) × ((Int) × ((Int) × ((Int) × ((Int) × ((Int) × ((Int) × (Unit))))))))))
abbrev zt1 : YT1 := ([], ((0 : Int), ((0 : Int), (zt0, ((0 : Int), ((0 : Int), ((0 : Int), ((0 : Int), ((0 : Int), ((0 : Int), ()))))))))))
abbrev yt2 : Ty := (.cons .str (.cons .str (.cons (.int .i64) (.cons (.int .i64) (.cons (.int .i64) (.cons (.int .i64) .nil))))))
abbrev YT2 : Type := (List Int) × ((List Int) × ((Int) × ((Int) × ((Int) × ((Int) × (Unit))))))
abbrev zt2 : YT2 := ([], ([], ((0 : Int), ((0 : Int), ((0 : Int), ((0 : Int), ()))))))
abbrev yt3 : Ty := (.cons .str (.cons (.slice .str) (.cons (.int .i64) .nil)))
abbrev YT3 : Type := (List Int) × ((List (List Int)) × ((Int) × (Unit)))
abbrev zt3 : YT3 := ([], ([], ((0 : Int), ())))
abbrev yt4 : Ty := (.cons .bool (.cons (.slice .str) .nil))
abbrev YT4 : Type := (Bool) × ((List (List Int)) × (Unit))
abbrev zt4 : YT4 := (false, ([], ()))
abbrev yt5 : Ty := (.cons .str (.cons .str (.cons (.int .i64) .nil)))
abbrev YT5 : Type := (List Int) × ((List Int) × ((Int) × (Unit)))
abbrev zt5 : YT5 := ([], ([], ((0 : Int), ())))
abbrev yt6 : Ty := (.cons .str (.cons (.slice yt1) (.cons (.slice yt2) (.cons (.slice yt3) (.cons (.slice (.cons (.slice yt4) .nil)) (.cons (.slice yt5) (.cons (.int .i64) .nil)))))))
abbrev YT6 : Type := (List Int) × ((List (YT1)) × ((List (YT2)) × ((List (YT3)) × ((List ((List (YT4)) × (Unit))) × ((List (YT5)) × ((Int) × (Unit)))))))
abbrev zt6 : YT6 := ([], ([], ([], ([], ([], ([], ((0 : Int), ())))))))
abbrev yt7 : Ty := (.cons .str (.cons .str (.cons .str (.cons (.int .i64) (.cons (.int .i64) (.cons (.int .i64) .nil))))))
abbrev YT7 : Type := (List Int) × ((List Int) × ((List Int) × ((Int) × ((Int) × ((Int) × (Unit))))))
abbrev zt7 : YT7 := ([], ([], ([], ((0 : Int), ((0 : Int), ((0 : Int), ()))))))
abbrev yt8 : Ty := (.cons (.int .i64) (.cons .str (.cons (.int .i64) (.cons (.int .i64) .nil))))
abbrev YT8 : Type := (Int) × ((List Int) × ((Int) × ((Int) × (Unit))))
abbrev zt8 : YT8 := ((0 : Int), ([], ((0 : Int), ((0 : Int), ()))))
theorem Ad : Tryz.prog.follows .mixedOrders = true := by kernel_rfl
noncomputable def mkC (l : EnvL) (n b o : Nat) : Cfg := { P := Tryz.prog, env := Ob l, n := n, npB := b, npO := o }
def q0 : List SL := [.pv .str, .pv (.slice yt1), .pv (.slice yt2), .pv (.slice yt3), .pv (.slice (.cons (.slice yt4) .nil)), .pv (.slice yt5), .pv (.int .i64)]
def q1 : List SL := [.pv (.int .i64), .pv (.int .i64), .pv (.int .i64), .pv (.int .i64), .pv (.int .i64), .pv (.slice yt6), .pv (.slice yt7), .pv (.int .i64), .pv (.int .i64)]
def q2 : List SL := [.pv (.slice yt8), .pv (.int .i64), .pv (.int .i64)]
def q3 : List SL := [.pv (.int .i64), .pv (.int .i64), .pv (.int .i64), .pv (.int .i64), .pv (.int .i64), .nil .sl, .nil .sl, .pv (.int .i64), .pv (.int .i64)]
def q4 : List SL := [.fn 142 [] [(2, 0), (3, 0)], .fn 146 [] [(4, 0), (5, 0)], .fn 142 [] [(6, 0), (7, 0)], .fn 146 [] [(8, 0), (9, 0)], .fn 142 [] [(10, 0), (11, 0)], .fn 146 [] [(12, 0), (13, 0)], .fn 142 [] [(14, 0), (15, 0)], .fn 142 [] [(16, 0), (17, 0)], .fn 147 [] [(18, 0), (19, 0)], .fn 142 [] [(20, 0), (21, 0)], .fn 148 [] [(22, 0), (23, 0), (24, 0), (25, 0), (26, 0)], .fn 161 [] [(27, 0), (28, 0), (29, 0)]]
def q5 : List SL := [.fn 146 [] [(1, 0), (2, 0)], .fn 142 [] [(3, 0), (4, 0)], .fn 146 [] [(5, 0), (6, 0)]]
def q6 : List SL := [.fn 146 [] [(2, 0), (3, 0)], .fn 142 [] [(4, 0), (5, 0)], .fn 146 [] [(6, 0), (7, 0)]]
def q7 : List SL := [.pv .str, .nil .sl, .nil .sl, .nil .sl, .nil .sl, .nil .sl, .pv (.int .i64)]
def q8 : List SL := [.fn 191 [] [(2, 0), (3, 0)], .fn 192 [] [(4, 0), (5, 0)], .fn 142 [] [(6, 0), (7, 0)], .fn 194 [] [(8, 0), (9, 0), (10, 0), (11, 0), (12, 0)], .fn 195 [] [(13, 0), (14, 0), (15, 0), (16, 0), (17, 0)], .fn 196 [] [(18, 0), (19, 0), (20, 0), (21, 0), (22, 0)], .fn 198 [] [(23, 0), (24, 0), (25, 0), (26, 0), (27, 0)], .fn 202 [] [(28, 0), (29, 0), (30, 0), (31, 0), (32, 0)], .fn 142 [] [(33, 0), (34, 0)]]
def q9 : List SL := [.pv .str, .pv (.int .i64), .pv (.int .i64), .pv (.int .i64), .pv (.int .i64), .pv (.int .i64), .pv (.int .i64), .pv (.int .i64), .pv (.int .i64), .pv (.int .i64), .pv (.int .i64)]
def q10 : List SL := [.fn 191 [] [(2, 0), (3, 0)], .fn 192 [] [(4, 0), (5, 0)], .fn 142 [] [(6, 0), (7, 0)], .fn 146 [] [(8, 0), (9, 0)], .fn 142 [] [(10, 0), (11, 0)], .fn 146 [] [(12, 0), (13, 0)], .fn 142 [] [(14, 0), (15, 0)], .fn 147 [] [(16, 0), (17, 0)], .fn 142 [] [(18, 0), (19, 0)], .fn 146 [] [(20, 0), (21, 0)], .fn 142 [] [(22, 0), (23, 0)], .fn 161 [] [(24, 0), (25, 0), (26, 0)], .fn 146 [] [(27, 0), (28, 0)], .fn 142 [] [(29, 0), (30, 0)], .fn 146 [] [(31, 0), (32, 0)], .fn 142 [] [(33, 0), (34, 0)], .fn 146 [] [(35, 0), (36, 0)], .fn 142 [] [(37, 0), (38, 0)], .fn 146 [] [(39, 0), (40, 0)], .fn 142 [] [(41, 0), (42, 0)]]
def q11 : List SL := [.rpt [(.int .i64), (.int .i64), (.int .i64), (.int .i64), (.int .i64), (.int .i64), (.int .i64), (.int .i64)]]
def q12 : List SL := [.rpt [(.int .i64), (.int .i64), (.int .i64), (.int .i64), (.int .i64), (.int .i64), (.int .i64)]]
def q13 : List SL := [.pv .str, .own 0, .nil .sl, .nil .sl, .nil .sl, .nil .sl, .pv (.int .i64)]
def q14 : List SL := [.pv .str, .pv .str, .pv (.int .i64), .pv (.int .i64), .pv (.int .i64), .pv (.int .i64)]
def q15 : List SL := [.fn 191 [] [(2, 0), (3, 0)], .fn 192 [] [(4, 0), (5, 0)], .fn 142 [] [(6, 0), (7, 0)], .fn 192 [] [(8, 0), (9, 0)], .fn 142 [] [(10, 0), (11, 0)], .fn 146 [] [(12, 0), (13, 0)], .fn 142 [] [(14, 0), (15, 0)], .fn 146 [] [(16, 0), (17, 0)], .fn 142 [] [(18, 0), (19, 0)], .fn 146 [] [(20, 0), (21, 0)], .fn 142 [] [(22, 0), (23, 0)]]
def q16 : List SL := [.pv .str, .own 0, .own 1, .nil .sl, .nil .sl, .nil .sl, .pv (.int .i64)]
def q17 : List SL := [.fn 191 [] [(2, 0), (3, 0)], .fn 192 [] [(4, 0), (5, 0)], .fn 142 [] [(6, 0), (7, 0)], .fn 211 [] [(8, 0), (9, 0), (10, 0)]]
def q18 : List SL := [.pv .str, .own 0, .own 1, .own 2, .nil .sl, .nil .sl, .pv (.int .i64)]
def q19 : List SL := [.fn 142 [] [(2, 0), (3, 0)], .fn 212 [] [(4, 0), (5, 0)], .fn 213 [] [(6, 0), (7, 0), (8, 0), (9, 0), (10, 0)], .fn 142 [] [(11, 0), (12, 0)]]
def q20 : List SL := [.fn 161 [] [(2, 0), (3, 0), (4, 0)], .fn 211 [] [(5, 0), (6, 0), (7, 0)]]
def q21 : List SL := [.pv .str, .own 0, .own 1, .own 2, .own 3, .nil .sl, .pv (.int .i64)]
def q22 : List SL := [.fn 191 [] [(2, 0), (3, 0)], .fn 192 [] [(4, 0), (5, 0)], .fn 192 [] [(6, 0), (7, 0)], .fn 142 [] [(8, 0), (9, 0)]]
def q23 : List SL := [.pv .str, .own 0, .own 1, .own 2, .own 3, .own 4, .pv (.int .i64)]
def q24 : List SL := [.pv (.int .i64), .pv (.int .i64), .pv (.int .i64), .pv (.int .i64), .pv (.int .i64), .own 0, .nil .sl, .pv (.int .i64), .pv (.int .i64)]
def q25 : List SL := [.pv (.int .i64), .pv (.int .i64), .pv (.int .i64), .pv (.int .i64), .pv (.int .i64), .own 1, .nil .sl, .pv (.int .i64), .pv (.int .i64)]
def q26 : List SL := [.fn 142 [] [(2, 0), (3, 0)], .fn 162 [] [(4, 0), (5, 0), (6, 0), (7, 0), (8, 0)], .fn 142 [] [(9, 0), (10, 0)], .fn 146 [] [(11, 0), (12, 0)], .fn 146 [] [(13, 0), (14, 0)], .fn 142 [] [(15, 0), (16, 0)], .fn 142 [] [(17, 0), (18, 0)]]
def q27 : List SL := [.pv .str, .pv .str, .pv .str, .pv (.int .i64), .pv (.int .i64), .pv (.int .i64)]
def q28 : List SL := [.fn 191 [] [(2, 0), (3, 0)], .fn 192 [] [(4, 0), (5, 0)], .fn 142 [] [(6, 0), (7, 0)], .fn 192 [] [(8, 0), (9, 0)], .fn 142 [] [(10, 0), (11, 0)], .fn 192 [] [(12, 0), (13, 0)], .fn 142 [] [(14, 0), (15, 0)], .fn 146 [] [(16, 0), (17, 0)], .fn 142 [] [(18, 0), (19, 0)], .fn 146 [] [(20, 0), (21, 0)], .fn 142 [] [(22, 0), (23, 0)]]
def q29 : List SL := [.pv (.int .i64), .pv (.int .i64), .pv (.int .i64), .pv (.int .i64), .pv (.int .i64), .own 0, .own 1, .pv (.int .i64), .pv (.int .i64)]
abbrev H0 : Type := (List (List Int)) × (Int)
def Ams : Sk := ⟨[.lf (.pv (.slice .str))], [], []⟩
def Amt : Sk := ⟨[.lf (.pv .bool)], [], []⟩
def Be7 : Sk := ⟨sparse 23 [(0, .lf (.pv (.slice .str))), (3, .lf (.pv (.int .i64)))], [], []⟩
abbrev Amp := H0
def N4 : Amp → St := stOf Be7 71
def F4 (k : Nat) : FnX Bool := mkX ({ mkC [] 71 0 0 with hint := fun i => look none [(2, some Be7)] i }) k Tryz.f16 Amt
def Gr (k : Nat) : (List (List Int)) → Option Bool := hid (Ac (F4 k).C k Tryz.f16 Ams Amt)
def Aon (k : Nat) : Sig := Ab Ams Amt (Gr k)
noncomputable def Amr (k : Nat) (J : JF Bool) (L : LF Bool) : (List (List Int)) → Option Bool
 | a0 => L 2 [] k (N4 (a0, (0 : Int)))
theorem Ca3 (k : Nat) (x : (List (List Int))) : Gr k x = Amr k (F4 k).J (F4 k).L x := by
 refine (Af _ _).trans ?_; apply cutX (F4 k) [] [] (st0 (F4 k).C Tryz.f16 Ams x) [] [(2, [], k)] (Amr k · · x) <;> intros <;> kernel_rfl
noncomputable def Sd (k j2 : Nat) (J : JF Bool) (L : LF Bool) : Amp → Option Bool
 | (a0, a1) => bif (decide (a1 < ((List.length a0 : Nat) : Int))) then (bif (decide (a1 < (50 : Int))) then (idx [] a0 a1 fun o1 => bif (decide (((List.length o1 : Nat) : Int) > (100 : Int))) then (some false) else (L 2 [] j2 (N4 (a0, (IntKind.wrap .i64 (a1 + (1 : Int))))))) else (some (decide (((List.length a0 : Nat) : Int) ≤ (50 : Int))))) else (some (decide (((List.length a0 : Nat) : Int) ≤ (50 : Int))))
theorem Amq (k j2 : Nat) (x : Amp) : (F4 k).L 2 [] (j2 + 1) (N4 x) = Sd k j2 (F4 k).J (F4 k).L x := by
 apply cutX (F4 k) [.r, .l, .r, .b, .b] [j2] (N4 x) [] [(2, [], j2)] (Sd k j2 · · x) <;> intros <;> kernel_rfl
theorem Aq0 (k : Nat) : Aa Tryz.prog 16 (Aon k) := Ae (F4 k).C (l := []) k rfl trivial Ad Tryz.func16 (by kernel_rfl)
abbrev H1 : Type := (Int) × (List Int) × (List (YT1)) × (List (YT2)) × (List (YT3)) × (List ((List (YT4)) × (Unit))) × (List (YT5)) × (Int) × (List (List Int))
abbrev H2 : Type := (Int) × (List Int) × (List (YT1)) × (List (YT2)) × (List (YT3)) × (List ((List (YT4)) × (Unit))) × (List (YT5)) × (Int)
abbrev H3 : Type := (Int) × (Int) × (List Int) × (List (YT1)) × (List (YT2)) × (List (YT3)) × (List ((List (YT4)) × (Unit))) × (List (YT5)) × (Int)
abbrev H4 : Type := (List Int) × (List (YT1)) × (List (YT2)) × (List (YT3)) × (List ((List (YT4)) × (Unit))) × (List (YT5)) × (Int)
def Amn : Sk := ⟨[.agg [.pv .str, .pv (.slice yt1), .pv (.slice yt2), .pv (.slice yt3), .pv (.slice (.cons (.slice yt4) .nil)), .pv (.slice yt5), .pv (.int .i64)]], [], []⟩
def Amo : Sk := ⟨[.lf (.pv .bool)], [], []⟩
def Be3 : Sk := ⟨sparse 172 [(1, .lf (.ptr 0 0)), (3, .lf (.own 0)), (4, .lf (.pv (.int .i64)))], [q0], [some (9, .str)]⟩
abbrev Amk := H1
def Sc : Amk → St := stOf Be3 220
def Bey : Sk := ⟨sparse 172 [(1, .lf (.ptr 0 0)), (5, .lf (.pv (.int .i64)))], [q0], []⟩
abbrev Amf := H2
def N2 : Amf → St := stOf Bey 220
def Bez : Sk := ⟨sparse 172 [(1, .lf (.ptr 0 0)), (6, .lf (.pv (.int .i64)))], [q0], []⟩
abbrev Amg := H2
def Lv : Amg → St := stOf Bez 220
def Be0 : Sk := ⟨sparse 172 [(1, .lf (.ptr 0 0)), (7, .lf (.pv (.int .i64)))], [q0], []⟩
abbrev Amh := H2
def Lw : Amh → St := stOf Be0 220
def Be1 : Sk := ⟨sparse 172 [(1, .lf (.ptr 0 0)), (7, .lf (.pv (.int .i64))), (8, .lf (.pv (.int .i64)))], [q0], []⟩
abbrev Ami := H3
def Sb : Ami → St := stOf Be1 220
def Be2 : Sk := ⟨sparse 172 [(1, .lf (.ptr 0 0)), (9, .lf (.pv (.int .i64)))], [q0], []⟩
abbrev Amj := H2
def N3 : Amj → St := stOf Be2 220
def Cay (k : Nat) : EnvL := [(16, [Aon k])]
def Bg (k : Nat) : FnX Bool := mkX ({ mkC (Cay k) 220 0 0 with hint := fun i => look none [(5, some Be3), (11, some Bey), (16, some Bez), (21, some Be0), (26, some Be1), (31, some Be2)] i, bl := [54, 56], ld := [(71, 9999), (72, 0), (75, 9999), (76, 9999), (77, 9999), (78, 0), (81, 9999), (82, 9999), (157, 9999), (158, 0), (161, 9999), (162, 9999), (163, 9999), (164, 0), (167, 9999), (168, 9999)] }) k Tryz.f15 Amo
def Wl (k : Nat) : H4 → Option Bool := hid (Ac (Bg k).C k Tryz.f15 Amn Amo)
def Bn7 (k : Nat) : Sig := Ab Amn Amo (Wl k)
noncomputable def Aml (k : Nat) (J : JF Bool) (L : LF Bool) : H4 → Option Bool
 | (a0, a1, a2, a3, a4, a5, a6) => bif (decide (((List.length a1 : Nat) : Int) > (50 : Int))) then (some false) else (bif (decide (((List.length a2 : Nat) : Int) > (50 : Int))) then (some false) else (bif (decide (((List.length a3 : Nat) : Int) > (50 : Int))) then (some false) else (bif (decide (((List.length a4 : Nat) : Int) > (50 : Int))) then (some false) else (bif (decide (((List.length a5 : Nat) : Int) > (80 : Int))) then (some false) else (L 5 [] k (Sc ((0 : Int), a0, a1, a2, a3, a4, a5, a6, ([a0] : List (List Int)))))))))
theorem Caz (k : Nat) (x : H4) : Wl k x = Aml k (Bg k).J (Bg k).L x := by
 refine (Af _ _).trans ?_; apply cutX (Bg k) [] [] (st0 (Bg k).C Tryz.f15 Amn x) [] [(5, [], k), (11, [], k), (16, [], k), (21, [], k), (31, [], k)] (Aml k · · x) <;> intros <;> kernel_rfl
noncomputable def X4 (k j5 : Nat) (J : JF Bool) (L : LF Bool) : Amk → Option Bool
 | (a0, a1, a2, a3, a4, a5, a6, a7, a8) => bif (decide (a0 < ((List.length a2 : Nat) : Int))) then (idx zt1 a2 a0 fun o1 => app 16 a8 ([o1.1] : List (List Int)) fun o2 => L 5 [] j5 (Sc ((IntKind.wrap .i64 (a0 + (1 : Int))), a1, a2, a3, a4, a5, a6, a7, o2))) else (bif (cutB (0 : Int) (minI ((List.length a8 : Nat) : Int) (50 : Int)) (List.length a8)) then ((Gr k) ((cutL a8 (0 : Int) (minI ((List.length a8 : Nat) : Int) (50 : Int))))).bind fun o3 => bif (!o3) then (some false) else (L 11 [] k (N2 ((0 : Int), a1, a2, a3, a4, a5, a6, a7))) else none)
theorem Bex (k j5 : Nat) (x : Amk) : (Bg k).L 5 [] (j5 + 1) (Sc x) = X4 k j5 (Bg k).J (Bg k).L x := by
 apply cutX (Bg k) [.r, .r, .r, .l, .r, .b, .b] [j5] (Sc x) [] [(5, [], j5), (11, [], k), (16, [], k), (21, [], k), (31, [], k)] (X4 k j5 · · x) <;> intros <;> kernel_rfl
noncomputable def X0 (k j11 : Nat) (J : JF Bool) (L : LF Bool) : Amf → Option Bool
 | (a0, a1, a2, a3, a4, a5, a6, a7) => bif (decide (a0 < ((List.length a3 : Nat) : Int))) then (idx zt2 a3 a0 fun o1 => idx zt2 a3 a0 fun o2 => ((Gr k) (([o1.1, o2.2.1] : List (List Int)))).bind fun o3 => bif (!o3) then (some false) else (L 11 [] j11 (N2 ((IntKind.wrap .i64 (a0 + (1 : Int))), a1, a2, a3, a4, a5, a6, a7)))) else (L 16 [] k (Lv ((0 : Int), a1, a2, a3, a4, a5, a6, a7)))
theorem Bet (k j11 : Nat) (x : Amf) : (Bg k).L 11 [] (j11 + 1) (N2 x) = X0 k j11 (Bg k).J (Bg k).L x := by
 apply cutX (Bg k) [.r, .r, .r, .r, .r, .l, .r, .b, .b] [j11] (N2 x) [] [(5, [], k), (11, [], j11), (16, [], k), (21, [], k), (31, [], k)] (X0 k j11 · · x) <;> intros <;> kernel_rfl
noncomputable def X1 (k j16 : Nat) (J : JF Bool) (L : LF Bool) : Amg → Option Bool
 | (a0, a1, a2, a3, a4, a5, a6, a7) => bif (decide (a0 < ((List.length a4 : Nat) : Int))) then (idx zt3 a4 a0 fun o1 => ((Gr k) (([o1.1] : List (List Int)))).bind fun o2 => bif (!o2) then (some false) else (idx zt3 a4 a0 fun o3 => ((Gr k) (o3.2.1)).bind fun o4 => bif (!o4) then (some false) else (L 16 [] j16 (Lv ((IntKind.wrap .i64 (a0 + (1 : Int))), a1, a2, a3, a4, a5, a6, a7))))) else (L 21 [] k (Lw ((0 : Int), a1, a2, a3, a4, a5, a6, a7)))
theorem Beu (k j16 : Nat) (x : Amg) : (Bg k).L 16 [] (j16 + 1) (Lv x) = X1 k j16 (Bg k).J (Bg k).L x := by
 apply cutX (Bg k) [.r, .r, .r, .r, .r, .r, .l, .r, .b, .b] [j16] (Lv x) [] [(5, [], k), (11, [], k), (16, [], j16), (21, [], k), (31, [], k)] (X1 k j16 · · x) <;> intros <;> kernel_rfl
noncomputable def X2 (k j21 : Nat) (J : JF Bool) (L : LF Bool) : Amh → Option Bool
 | (a0, a1, a2, a3, a4, a5, a6, a7) => bif (decide (a0 < ((List.length a5 : Nat) : Int))) then (idx ([], ()) a5 a0 fun o1 => bif (decide (((List.length o1.1 : Nat) : Int) > (5 : Int))) then (some false) else (L 26 [j21] k (Sb (a0, (0 : Int), a1, a2, a3, a4, a5, a6, a7)))) else (L 31 [] k (N3 ((0 : Int), a1, a2, a3, a4, a5, a6, a7)))
theorem Bev (k j21 : Nat) (x : Amh) : (Bg k).L 21 [] (j21 + 1) (Lw x) = X2 k j21 (Bg k).J (Bg k).L x := by
 apply cutX (Bg k) [.r, .r, .r, .r, .r, .r, .r, .l, .r, .b, .b] [j21] (Lw x) [] [(5, [], k), (11, [], k), (16, [], k), (21, [], j21), (26, [j21], k), (31, [], k)] (X2 k j21 · · x) <;> intros <;> kernel_rfl
noncomputable def Amm (k j21 j26 : Nat) (J : JF Bool) (L : LF Bool) : Ami → Option Bool
 | (a0, a1, a2, a3, a4, a5, a6, a7, a8) => idx ([], ()) a6 a0 fun o1 => bif (decide (a1 < ((List.length o1.1 : Nat) : Int))) then (idx ([], ()) a6 a0 fun o2 => idx zt4 o2.1 a1 fun o3 => ((Gr k) (o3.2.1)).bind fun o4 => bif (!o4) then (some false) else (L 26 [j21] j26 (Sb (a0, (IntKind.wrap .i64 (a1 + (1 : Int))), a2, a3, a4, a5, a6, a7, a8)))) else (L 21 [] j21 (Lw ((IntKind.wrap .i64 (a0 + (1 : Int))), a2, a3, a4, a5, a6, a7, a8)))
theorem Ca0 (k j21 j26 : Nat) (x : Ami) : (Bg k).L 26 [j21] (j26 + 1) (Sb x) = Amm k j21 j26 (Bg k).J (Bg k).L x := by
 apply cutX (Bg k) [.r, .r, .r, .r, .r, .r, .r, .l, .r, .b, .b, .r, .l, .b, .r, .r, .b, .b] [j21, j26] (Sb x) [] [(5, [], k), (11, [], k), (16, [], k), (21, [], j21), (26, [j21], j26), (31, [], k)] (Amm k j21 j26 · · x) <;> intros <;> kernel_rfl
noncomputable def X3 (k j31 : Nat) (J : JF Bool) (L : LF Bool) : Amj → Option Bool
 | (a0, a1, a2, a3, a4, a5, a6, a7) => bif (decide (a0 < ((List.length a6 : Nat) : Int))) then (idx zt5 a6 a0 fun o1 => idx zt5 a6 a0 fun o2 => ((Gr k) (([o1.1, o2.2.1] : List (List Int)))).bind fun o3 => bif (!o3) then (some false) else (L 31 [] j31 (N3 ((IntKind.wrap .i64 (a0 + (1 : Int))), a1, a2, a3, a4, a5, a6, a7)))) else (some true)
theorem Bew (k j31 : Nat) (x : Amj) : (Bg k).L 31 [] (j31 + 1) (N3 x) = X3 k j31 (Bg k).J (Bg k).L x := by
 apply cutX (Bg k) [.r, .r, .r, .r, .r, .r, .r, .r, .l, .r, .b, .b] [j31] (N3 x) [] [(5, [], k), (11, [], k), (16, [], k), (21, [], k), (31, [], j31)] (X3 k j31 · · x) <;> intros <;> kernel_rfl
theorem Bwj (k : Nat) : Aa Tryz.prog 15 (Bn7 k) := Ae (Bg k).C k rfl ⟨⟨Aq0 k, trivial⟩, trivial⟩ Ad Tryz.func15 (by kernel_rfl)
abbrev H5 : Type := (Int) × (Int) × (Int) × (Int) × (Int) × (Int) × (List (YT6)) × (List (YT7)) × (Int) × (Int)
abbrev H6 : Type := (Int) × (Int) × (Int) × (Int) × (Int) × (List (YT6)) × (List (YT7)) × (Int) × (Int)
def Amd : Sk := ⟨[.agg [.pv (.int .i64), .pv (.int .i64), .pv (.int .i64), .pv (.int .i64), .pv (.int .i64), .pv (.slice yt6), .pv (.slice yt7), .pv (.int .i64), .pv (.int .i64)]], [], []⟩
def Ame : Sk := ⟨[.lf (.pv .bool)], [], []⟩
def Bej : Sk := ⟨sparse 57 [(1, .lf (.ptr 0 0)), (3, .lf (.pv (.int .i64)))], [q1], []⟩
abbrev Ama := H5
def Nz : Ama → St := stOf Bej 105
def Bek : Sk := ⟨sparse 57 [(1, .lf (.ptr 0 0)), (4, .lf (.pv (.int .i64)))], [q1], []⟩
abbrev Amb := H5
def N1 : Amb → St := stOf Bek 105
def Car (k : Nat) : EnvL := [(15, [Bn7 k]), (16, [Aon k])]
def Dx (k : Nat) : FnX Bool := mkX ({ mkC (Car k) 105 0 0 with hint := fun i => look none [(4, some Bej), (9, some Bek)] i, bl := [54, 56], ld := [(36, 9999), (37, 0), (40, 9999), (41, 9999), (42, 9999), (43, 0), (46, 9999), (47, 9999), (48, 9999), (49, 0), (52, 9999), (53, 9999)] }) k Tryz.f7 Ame
def Wk (k : Nat) : H6 → Option Bool := hid (Ac (Dx k).C k Tryz.f7 Amd Ame)
def Bn5 (k : Nat) : Sig := Ab Amd Ame (Wk k)
noncomputable def Amc (k : Nat) (J : JF Bool) (L : LF Bool) : H6 → Option Bool
 | (a0, a1, a2, a3, a4, a5, a6, a7, a8) => bif (decide (((List.length a5 : Nat) : Int) > (15 : Int))) then (some false) else (bif (decide (((List.length a6 : Nat) : Int) > (15 : Int))) then (some false) else (L 4 [] k (Nz ((0 : Int), a0, a1, a2, a3, a4, a5, a6, a7, a8))))
theorem Cas (k : Nat) (x : H6) : Wk k x = Amc k (Dx k).J (Dx k).L x := by
 refine (Af _ _).trans ?_; apply cutX (Dx k) [] [] (st0 (Dx k).C Tryz.f7 Amd x) [] [(4, [], k), (9, [], k)] (Amc k · · x) <;> intros <;> kernel_rfl
noncomputable def Xy (k j4 : Nat) (J : JF Bool) (L : LF Bool) : Ama → Option Bool
 | (a0, a1, a2, a3, a4, a5, a6, a7, a8, a9) => bif (decide (a0 < ((List.length a6 : Nat) : Int))) then (idx zt6 a6 a0 fun o1 => ((Wl k) (o1.1, o1.2.1, o1.2.2.1, o1.2.2.2.1, o1.2.2.2.2.1, o1.2.2.2.2.2.1, o1.2.2.2.2.2.2.1)).bind fun o2 => bif (!o2) then (some false) else (L 4 [] j4 (Nz ((IntKind.wrap .i64 (a0 + (1 : Int))), a1, a2, a3, a4, a5, a6, a7, a8, a9)))) else (L 9 [] k (N1 ((0 : Int), a1, a2, a3, a4, a5, a6, a7, a8, a9)))
theorem Beh (k j4 : Nat) (x : Ama) : (Dx k).L 4 [] (j4 + 1) (Nz x) = Xy k j4 (Dx k).J (Dx k).L x := by
 apply cutX (Dx k) [.r, .r, .l, .r, .b, .b] [j4] (Nz x) [] [(4, [], j4), (9, [], k)] (Xy k j4 · · x) <;> intros <;> kernel_rfl
noncomputable def Xz (k j9 : Nat) (J : JF Bool) (L : LF Bool) : Amb → Option Bool
 | (a0, a1, a2, a3, a4, a5, a6, a7, a8, a9) => bif (decide (a0 < ((List.length a7 : Nat) : Int))) then (idx zt7 a7 a0 fun o1 => idx zt7 a7 a0 fun o2 => idx zt7 a7 a0 fun o3 => ((Gr k) (([o1.1, o2.2.1, o3.2.2.1] : List (List Int)))).bind fun o4 => bif (!o4) then (some false) else (L 9 [] j9 (N1 ((IntKind.wrap .i64 (a0 + (1 : Int))), a1, a2, a3, a4, a5, a6, a7, a8, a9)))) else (some true)
theorem Bei (k j9 : Nat) (x : Amb) : (Dx k).L 9 [] (j9 + 1) (N1 x) = Xz k j9 (Dx k).J (Dx k).L x := by
 apply cutX (Dx k) [.r, .r, .r, .l, .r, .b, .b] [j9] (N1 x) [] [(4, [], k), (9, [], j9)] (Xz k j9 · · x) <;> intros <;> kernel_rfl
theorem Bwg (k : Nat) : Aa Tryz.prog 7 (Bn5 k) := Ae (Dx k).C k rfl ⟨⟨Bwj k, trivial⟩, ⟨Aq0 k, trivial⟩, trivial⟩ Ad Tryz.func7 (by kernel_rfl)
def Bcr : Sk := ⟨[.lf (.pv (.int .i64))], [], []⟩
def Bcs : Sk := ⟨[.lf (.pv .bool)], [], []⟩
def Bcp (k : Nat) : Cfg := mkC [] 57 0 0
def Qi (k : Nat) : Int → Option Bool := hid (Ac (Bcp k) k Tryz.f62 Bcr Bcs)
def Bnr (k : Nat) : Sig := Ab Bcr Bcs (Qi k)
noncomputable def Bcq (k : Nat) : Int → Option Bool
 | a0 => bif (decide (a0 < (0 : Int))) then (some true) else (some (decide (a0 > (999999999999999999 : Int))))
theorem B9l (k : Nat) (x : Int) : Qi k x = Bcq k x := (Af _ _).trans (by kernel_rfl)
theorem Bvv (k : Nat) : Aa Tryz.prog 62 (Bnr k) := Ae (Bcp k) (l := []) k rfl trivial Ad Tryz.func62 (by kernel_rfl)
abbrev H7 : Type := (List (Int)) × (Int) × (Int)
def Ads : Sk := ⟨[.lf (.pv (.slice (.int .i64))), .lf (.fn 62 [] [])], [], []⟩
def Adt : Sk := ⟨[.lf (.pv (.int .i64))], [], []⟩
def As7 : Sk := ⟨sparse 19 [(0, .lf (.pv (.slice (.int .i64)))), (1, .lf (.fn 62 [] [])), (7, .lf (.pv (.int .i64))), (8, .lf (.pv (.int .i64)))], [], []⟩
abbrev Adq := H7
def Q3 : Adq → St := stOf As7 67
def Byy (k : Nat) : EnvL := [(62, [Bnr k])]
def G6 (k : Nat) : FnX Int := mkX ({ mkC (Byy k) 67 0 0 with hint := fun i => look none [(2, some As7)] i }) k Tryz.f114 Adt
def Aae (k : Nat) : (List (Int)) → Option Int := hid (Ac (G6 k).C k Tryz.f114 Ads Adt)
def Bi3 (k : Nat) : Sig := Ab Ads Adt (Aae k)
noncomputable def Adr (k : Nat) (J : JF Int) (L : LF Int) : (List (Int)) → Option Int
 | a0 => L 2 [] k (Q3 (a0, ((List.length a0 : Nat) : Int), (0 : Int)))
theorem Byz (k : Nat) (x : (List (Int))) : Aae k x = Adr k (G6 k).J (G6 k).L x := by
 refine (Af _ _).trans ?_; apply cutX (G6 k) [] [] (st0 (G6 k).C Tryz.f114 Ads x) [] [(2, [], k)] (Adr k · · x) <;> intros <;> kernel_rfl
noncomputable def As8 (k j2 : Nat) (J : JF Int) (L : LF Int) : Adq → Option Int
 | (a0, a1, a2) => bif (decide (a2 < a1)) then (idxI a0 a2 fun o1 => ((Qi k) (o1)).bind fun o2 => bif o2 then (some a2) else (L 2 [] j2 (Q3 (a0, a1, (IntKind.wrap .i64 (a2 + (1 : Int))))))) else (some (-1 : Int))
theorem By0 (k j2 : Nat) (x : Adq) : (G6 k).L 2 [] (j2 + 1) (Q3 x) = As8 k j2 (G6 k).J (G6 k).L x := by
 apply cutX (G6 k) [.r, .l, .r, .b, .b] [j2] (Q3 x) [] [(2, [], j2)] (As8 k j2 · · x) <;> intros <;> kernel_rfl
theorem Bqf (k : Nat) : Aa Tryz.prog 114 (Bi3 k) := Ae (G6 k).C k rfl ⟨⟨Bvv k, trivial⟩, trivial⟩ Ad Tryz.func114 (by kernel_rfl)
def Asi : Sk := ⟨[.lf (.pv (.slice (.int .i64))), .lf (.fn 62 [] [])], [], []⟩
def Asj : Sk := ⟨[.lf (.pv .bool)], [], []⟩
def Bx1 (k : Nat) : EnvL := [(114, [Bi3 k])]
def Asg (k : Nat) : Cfg := mkC (Bx1 k) 57 0 0
def Pk (k : Nat) : (List (Int)) → Option Bool := hid (Ac (Asg k) k Tryz.f61 Asi Asj)
def Bir (k : Nat) : Sig := Ab Asi Asj (Pk k)
noncomputable def Ash (k : Nat) : (List (Int)) → Option Bool
 | a0 => ((Aae k) (a0)).bind fun o1 => some (decide (o1 ≥ (0 : Int)))
theorem Bx2 (k : Nat) (x : (List (Int))) : Pk k x = Ash k x := (Af _ _).trans (by kernel_rfl)
theorem Bp1 (k : Nat) : Aa Tryz.prog 61 (Bir k) := Ae (Asg k) k rfl ⟨⟨Bqf k, trivial⟩, trivial⟩ Ad Tryz.func61 (by kernel_rfl)
def fshownumsi : Sk := ⟨[.lf (.pv (.slice (.int .i64)))], [], []⟩
def fshownumso : Sk := ⟨[.lf (.pv .bool)], [], []⟩
def B9k (k : Nat) : EnvL := [(61, [Bir k])]
def Bco (k : Nat) : Cfg := mkC (B9k k) 54 0 0
def cshownums (k : Nat) : (List (Int)) → Option Bool := hid (Ac (Bco k) k Tryz.f29 fshownumsi fshownumso)
def sgshownums (k : Nat) : Sig := Ab fshownumsi fshownumso (cshownums k)
noncomputable def Bct (k : Nat) : (List (Int)) → Option Bool
 | a0 => ((Pk k) (a0)).bind fun o1 => some (!o1)
theorem B9m (k : Nat) (x : (List (Int))) : cshownums k x = Bct k x := (Af _ _).trans (by kernel_rfl)
theorem Wb (k : Nat) : Aa Tryz.prog 29 (sgshownums k) := Ae (Bco k) k rfl ⟨⟨Bp1 k, trivial⟩, trivial⟩ Ad Tryz.func29 (by kernel_rfl)
def flexkindi : Sk := ⟨[.lf (.pv (.int .u8))], [], []⟩
def flexkindo : Sk := ⟨[.lf (.pv (.int .i64))], [], []⟩
def Atn : Sk := ⟨sparse 36 [(17, .lf (.pv (.int .u8)))], [], []⟩
abbrev Bzk := Int
def M5 : Bzk → St := stOf Atn 84
def Ato : Sk := ⟨sparse 36 [(17, .lf (.pv (.int .u8)))], [], []⟩
abbrev Bzl := Int
def Ael : Bzl → St := stOf Ato 84
def flexkind (k : Nat) : FnX Int := mkX ({ mkC [] 84 0 0 with hint := fun i => look none [(10, some Atn), (14, some Ato)] i }) k Tryz.f186 flexkindo
def clexkind (k : Nat) : Int → Option Int := hid (Ac (flexkind k).C k Tryz.f186 flexkindi flexkindo)
def sglexkind (k : Nat) : Sig := Ab flexkindi flexkindo (clexkind k)
noncomputable def Aem (k : Nat) (J : JF Int) (L : LF Int) : Int → Option Int
 | a0 => bif (decide ((97 : Int) ≤ a0)) then (bif (decide (a0 ≤ (122 : Int))) then (some (3 : Int)) else (bif (decide ((48 : Int) ≤ a0)) then (bif (decide (a0 ≤ (57 : Int))) then (some (4 : Int)) else (bif (a0 == (32 : Int)) then (some (1 : Int)) else (bif (a0 == (9 : Int)) then (some (1 : Int)) else (bif (a0 == (10 : Int)) then (some (1 : Int)) else (bif (a0 == (13 : Int)) then (some (1 : Int)) else (J 10 [] (M5 (a0)))))))) else (bif (a0 == (32 : Int)) then (some (1 : Int)) else (bif (a0 == (9 : Int)) then (some (1 : Int)) else (bif (a0 == (10 : Int)) then (some (1 : Int)) else (bif (a0 == (13 : Int)) then (some (1 : Int)) else (J 10 [] (M5 (a0))))))))) else (bif (decide ((48 : Int) ≤ a0)) then (bif (decide (a0 ≤ (57 : Int))) then (some (4 : Int)) else (bif (a0 == (32 : Int)) then (some (1 : Int)) else (bif (a0 == (9 : Int)) then (some (1 : Int)) else (bif (a0 == (10 : Int)) then (some (1 : Int)) else (bif (a0 == (13 : Int)) then (some (1 : Int)) else (J 10 [] (M5 (a0)))))))) else (bif (a0 == (32 : Int)) then (some (1 : Int)) else (bif (a0 == (9 : Int)) then (some (1 : Int)) else (bif (a0 == (10 : Int)) then (some (1 : Int)) else (bif (a0 == (13 : Int)) then (some (1 : Int)) else (J 10 [] (M5 (a0))))))))
theorem Bzm (k : Nat) (x : Int) : clexkind k x = Aem k (flexkind k).J (flexkind k).L x := by
 refine (Af _ _).trans ?_; apply cutX (flexkind k) [] [] (st0 (flexkind k).C Tryz.f186 flexkindi x) [(10, []), (14, [])] [] (Aem k · · x) <;> intros <;> kernel_rfl
noncomputable def Aen (k : Nat) (J : JF Int) (L : LF Int) : Int → Option Int
 | a0 => bif (a0 == (35 : Int)) then (some (2 : Int)) else (bif (a0 == (95 : Int)) then (some (6 : Int)) else (bif (a0 == (123 : Int)) then (some (5 : Int)) else (bif (a0 == (125 : Int)) then (some (5 : Int)) else (J 14 [] (Ael (a0))))))
theorem Bzn (k : Nat) (x : Int) : (flexkind k).J 10 [] (M5 x) = Aen k (flexkind k).J (flexkind k).L x := by
 apply cutX (flexkind k) [.r, .r, .l, .r, .b, .l, .b, .b, .l, .b, .l, .b, .l, .b, .l, .r] [] (M5 x) [(10, []), (14, [])] [] (Aen k · · x) <;> intros <;> kernel_rfl
noncomputable def Aeo (k : Nat) (J : JF Int) (L : LF Int) : Int → Option Int
 | a0 => bif (a0 == (44 : Int)) then (some (5 : Int)) else (bif (a0 == (59 : Int)) then (some (5 : Int)) else (bif (a0 == (58 : Int)) then (some (5 : Int)) else (bif (a0 == (47 : Int)) then (some (5 : Int)) else (bif (a0 == (45 : Int)) then (some (5 : Int)) else (some (0 : Int))))))
theorem Bzo (k : Nat) (x : Int) : (flexkind k).J 14 [] (Ael x) = Aeo k (flexkind k).J (flexkind k).L x := by
 apply cutX (flexkind k) [.r, .r, .l, .r, .b, .l, .b, .b, .l, .b, .l, .b, .l, .b, .l, .r, .r, .r, .r] [] (Ael x) [(10, []), (14, [])] [] (Aeo k · · x) <;> intros <;> kernel_rfl
theorem Aqa (k : Nat) : Aa Tryz.prog 186 (sglexkind k) := Ae (flexkind k).C (l := []) k rfl trivial Ad Tryz.func186 (by kernel_rfl)
abbrev H8 : Type := (Int) × (List (Int)) × (Int)
def Aep : Sk := ⟨[.lf (.ptr 0 0)], [[.pv (.slice (.int .u8)), .pv (.int .i64)]], []⟩
def Atv : Sk := ⟨[.lf (.pv (.int .i64))], Aep.boxes, []⟩
def Bzr (k : Nat) : EnvL := [(186, [sglexkind k])]
def Att (k : Nat) : Cfg := mkC (Bzr k) 62 1 0
def Pn (k : Nat) : ((List (Int)) × (Int)) → Option H8 := hid (Ac (Att k) k Tryz.f138 Aep Atv)
def An7 (k : Nat) : Sig := Ab Aep Atv (Pn k)
noncomputable def Atu (k : Nat) : ((List (Int)) × (Int)) → Option H8
 | (a0, a1) => bif (inB a1 (List.length a0)) then ((clexkind k) ((rdI a0 (Int.toNat a1)))).bind fun o1 => some (o1, a0, a1) else none
theorem Bzs (k : Nat) (x : ((List (Int)) × (Int))) : Pn k x = Atu k x := (Af _ _).trans (by kernel_rfl)
theorem Aqc (k : Nat) : Aa Tryz.prog 138 (An7 k) := Ae (Att k) k rfl ⟨⟨Aqa k, trivial⟩, trivial⟩ Ad Tryz.func138 (by kernel_rfl)
abbrev H9 : Type := (List (Int)) × (Int) × (Int) × (Int)
def Ad2 : Sk := ⟨[.lf (.pv (.slice (.int .u8))), .lf (.pv (.int .u8))], [], []⟩
def Ad3 : Sk := ⟨[.lf (.pv (.int .i64))], [], []⟩
def Atb : Sk := ⟨sparse 19 [(0, .lf (.pv (.slice (.int .u8)))), (1, .lf (.pv (.int .u8))), (7, .lf (.pv (.int .i64))), (8, .lf (.pv (.int .i64)))], [], []⟩
abbrev Adz := H9
def Q5 : Adz → St := stOf Atb 67
def G8 (k : Nat) : FnX Int := mkX ({ mkC [] 67 0 0 with hint := fun i => look none [(2, some Atb)] i }) k Tryz.f139 Ad3
def To (k : Nat) : ((List (Int)) × (Int)) → Option Int := hid (Ac (G8 k).C k Tryz.f139 Ad2 Ad3)
def Bi5 (k : Nat) : Sig := Ab Ad2 Ad3 (To k)
noncomputable def Ad0 (k : Nat) (J : JF Int) (L : LF Int) : ((List (Int)) × (Int)) → Option Int
 | (a0, a1) => L 2 [] k (Q5 (a0, a1, ((List.length a0 : Nat) : Int), (0 : Int)))
theorem By4 (k : Nat) (x : ((List (Int)) × (Int))) : To k x = Ad0 k (G8 k).J (G8 k).L x := by
 refine (Af _ _).trans ?_; apply cutX (G8 k) [] [] (st0 (G8 k).C Tryz.f139 Ad2 x) [] [(2, [], k)] (Ad0 k · · x) <;> intros <;> kernel_rfl
noncomputable def Ad1 (k j2 : Nat) (J : JF Int) (L : LF Int) : Adz → Option Int
 | (a0, a1, a2, a3) => bif (decide (a3 < a2)) then (bif (inB a3 (List.length a0)) then bif (a1 == (rdI a0 (Int.toNat a3))) then (some a3) else (L 2 [] j2 (Q5 (a0, a1, a2, (IntKind.wrap .i64 (a3 + (1 : Int)))))) else none) else (some (-1 : Int))
theorem By5 (k j2 : Nat) (x : Adz) : (G8 k).L 2 [] (j2 + 1) (Q5 x) = Ad1 k j2 (G8 k).J (G8 k).L x := by
 apply cutX (G8 k) [.r, .l, .r, .b, .b] [j2] (Q5 x) [] [(2, [], j2)] (Ad1 k j2 · · x) <;> intros <;> kernel_rfl
theorem Bqh (k : Nat) : Aa Tryz.prog 139 (Bi5 k) := Ae (G8 k).C (l := []) k rfl trivial Ad Tryz.func139 (by kernel_rfl)
def Ww : Sk := ⟨[.lf (.ptr 0 0)], [[.pv (.slice (.int .u8)), .pv (.int .i64)]], []⟩
def Ae0 : Sk := ⟨[], Ww.boxes, []⟩
def At7 : Sk := ⟨sparse 54 [(0, .lf (.ptr 0 0))], [[.pv (.slice (.int .u8)), .pv (.int .i64)]], []⟩
abbrev Aex := ((List (Int)) × (Int))
def Ln : Aex → St := stOf At7 102
def Bz2 (k : Nat) : EnvL := [(138, [An7 k]), (139, [Bi5 k])]
def Hc (k : Nat) : FnX ((List (Int)) × (Int)) := mkX ({ mkC (Bz2 k) 102 1 0 with hint := fun i => look none [(0, some At7)] i }) k Tryz.f90 Ae0
def Tu (k : Nat) : ((List (Int)) × (Int)) → Option ((List (Int)) × (Int)) := hid (Ac (Hc k).C k Tryz.f90 Ww Ae0)
def Bjb (k : Nat) : Sig := Ab Ww Ae0 (Tu k)
noncomputable def Aey (k : Nat) (J : JF ((List (Int)) × (Int))) (L : LF ((List (Int)) × (Int))) : ((List (Int)) × (Int)) → Option ((List (Int)) × (Int))
 | (a0, a1) => L 0 [] k (Ln (a0, a1))
theorem Bz3 (k : Nat) (x : ((List (Int)) × (Int))) : Tu k x = Aey k (Hc k).J (Hc k).L x := by
 refine (Af _ _).trans ?_; apply cutX (Hc k) [] [] (st0 (Hc k).C Tryz.f90 Ww x) [] [(0, [], k)] (Aey k · · x) <;> intros <;> kernel_rfl
noncomputable def Aez (k j0 : Nat) (J : JF ((List (Int)) × (Int))) (L : LF ((List (Int)) × (Int))) : Aex → Option ((List (Int)) × (Int))
 | (a0, a1) => bif (decide (a1 < ((List.length a0 : Nat) : Int))) then (((Pn k) (a0, a1)).bind fun o1 => bif (o1.1 == (2 : Int)) then (bif (cutB o1.2.2 (((List.length o1.2.1) : Nat) : Int) (List.length o1.2.1)) then ((To k) ((cutL o1.2.1 o1.2.2 (((List.length o1.2.1) : Nat) : Int)), (10 : Int))).bind fun o2 => bif (decide (o2 ≥ (0 : Int))) then (L 0 [] j0 (Ln (o1.2.1, (IntKind.wrap .i64 (o1.2.2 + o2))))) else (L 0 [] j0 (Ln (o1.2.1, ((List.length o1.2.1 : Nat) : Int)))) else none) else (bif (o1.1 == (1 : Int)) then (L 0 [] j0 (Ln (o1.2.1, (IntKind.wrap .i64 (o1.2.2 + (1 : Int)))))) else (some (o1.2.1, o1.2.2)))) else (some (a0, a1))
theorem Bz4 (k j0 : Nat) (x : Aex) : (Hc k).L 0 [] (j0 + 1) (Ln x) = Aez k j0 (Hc k).J (Hc k).L x := by
 apply cutX (Hc k) [.b, .b] [j0] (Ln x) [] [(0, [], j0)] (Aez k j0 · · x) <;> intros <;> kernel_rfl
theorem Bqo (k : Nat) : Aa Tryz.prog 90 (Bjb k) := Ae (Hc k).C k rfl ⟨⟨Aqc k, trivial⟩, ⟨Bqh k, trivial⟩, trivial⟩ Ad Tryz.func90 (by kernel_rfl)
def Atr : Sk := ⟨[.lf (.rpt [(.slice (.int .u8)), (.int .i64)])], [], []⟩
def Ats : Sk := ⟨[.lf (.pv (.int .i64))], [], []⟩
def Bzp (k : Nat) : EnvL := [(186, [sglexkind k])]
def Atp (k : Nat) : Cfg := mkC (Bzp k) 62 0 0
def Mq (k : Nat) : ((List (Int)) × (Int)) → Option Int := hid (Ac (Atp k) k Tryz.f138 Atr Ats)
def An8 (k : Nat) : Sig := Ab Atr Ats (Mq k)
noncomputable def Atq (k : Nat) : ((List (Int)) × (Int)) → Option Int
 | (a0, a1) => bif (inB a1 (List.length a0)) then ((clexkind k) ((rdI a0 (Int.toNat a1)))).bind fun o1 => some o1 else none
theorem Bzq (k : Nat) (x : ((List (Int)) × (Int))) : Mq k x = Atq k x := (Af _ _).trans (by kernel_rfl)
theorem Aqb (k : Nat) : Aa Tryz.prog 138 (An8 k) := Ae (Atp k) k rfl ⟨⟨Aqa k, trivial⟩, trivial⟩ Ad Tryz.func138 (by kernel_rfl)
def Aue : Sk := ⟨[.lf (.pv (.int .i64))], [], []⟩
def Auf : Sk := ⟨[.lf (.pv .bool)], [], []⟩
def Auc (k : Nat) : Cfg := mkC [] 61 0 0
def Tw (k : Nat) : Int → Option Bool := hid (Ac (Auc k) k Tryz.f188 Aue Auf)
def Bje (k : Nat) : Sig := Ab Aue Auf (Tw k)
noncomputable def Aud (k : Nat) : Int → Option Bool
 | a0 => bif (a0 == (3 : Int)) then (some true) else (bif (a0 == (4 : Int)) then (some true) else (some (a0 == (6 : Int))))
theorem Bz8 (k : Nat) (x : Int) : Tw k x = Aud k x := (Af _ _).trans (by kernel_rfl)
theorem Bqq (k : Nat) : Aa Tryz.prog 188 (Bje k) := Ae (Auc k) (l := []) k rfl trivial Ad Tryz.func188 (by kernel_rfl)
abbrev H10 : Type := (List Int) × (List (Int)) × (Int)
def Wv : Sk := ⟨[.lf (.ptr 0 0), .lf (.fn 188 [] [])], [[.pv (.slice (.int .u8)), .pv (.int .i64)]], []⟩
def Aew : Sk := ⟨[.lf (.pv .str)], Wv.boxes, []⟩
def At5 : Sk := ⟨sparse 44 [(0, .lf (.ptr 0 0)), (1, .lf (.fn 188 [] [])), (5, .lf (.pv (.int .i64)))], [[.pv (.slice (.int .u8)), .pv (.int .i64)]], []⟩
abbrev Aeu := H8
def Q9 : Aeu → St := stOf At5 92
def Bzz (k : Nat) : EnvL := [(138, [An8 k]), (188, [Bje k])]
def Ha (k : Nat) : FnX H10 := mkX ({ mkC (Bzz k) 92 1 0 with hint := fun i => look none [(2, some At5)] i }) k Tryz.f187 Aew
def Ts (k : Nat) : ((List (Int)) × (Int)) → Option H10 := hid (Ac (Ha k).C k Tryz.f187 Wv Aew)
def Bi9 (k : Nat) : Sig := Ab Wv Aew (Ts k)
noncomputable def Aev (k : Nat) (J : JF H10) (L : LF H10) : ((List (Int)) × (Int)) → Option H10
 | (a0, a1) => L 2 [] k (Q9 (a1, a0, a1))
theorem Bz0 (k : Nat) (x : ((List (Int)) × (Int))) : Ts k x = Aev k (Ha k).J (Ha k).L x := by
 refine (Af _ _).trans ?_; apply cutX (Ha k) [] [] (st0 (Ha k).C Tryz.f187 Wv x) [] [(2, [], k)] (Aev k · · x) <;> intros <;> kernel_rfl
noncomputable def At6 (k j2 : Nat) (J : JF H10) (L : LF H10) : Aeu → Option H10
 | (a0, a1, a2) => bif (decide (a2 < ((List.length a1 : Nat) : Int))) then (((Mq k) (a1, a2)).bind fun o1 => ((Tw k) (o1)).bind fun o2 => bif o2 then (L 2 [] j2 (Q9 (a0, a1, (IntKind.wrap .i64 (a2 + (1 : Int)))))) else (bif (cutB a0 a2 (List.length a1)) then some ((cutL a1 a0 a2), a1, a2) else none)) else (bif (cutB a0 a2 (List.length a1)) then some ((cutL a1 a0 a2), a1, a2) else none)
theorem Bz1 (k j2 : Nat) (x : Aeu) : (Ha k).L 2 [] (j2 + 1) (Q9 x) = At6 k j2 (Ha k).J (Ha k).L x := by
 apply cutX (Ha k) [.r, .r, .l, .b, .b] [j2] (Q9 x) [] [(2, [], j2)] (At6 k j2 · · x) <;> intros <;> kernel_rfl
theorem Bqn (k : Nat) : Aa Tryz.prog 187 (Bi9 k) := Ae (Ha k).C k rfl ⟨⟨Aqb k, trivial⟩, ⟨Bqq k, trivial⟩, trivial⟩ Ad Tryz.func187 (by kernel_rfl)
abbrev H11 : Type := (Int) × (List Int) × (Int) × (Int) × (Int) × (List (Int)) × (Int)
def Ae2 : Sk := ⟨[.lf (.ptr 0 0)], [[.pv (.slice (.int .u8)), .pv (.int .i64)]], []⟩
def Auh : Sk := ⟨[.agg [.pv (.int .i64), .pv .str, .pv (.int .i64), .pv (.int .i64)], .lf (.pv (.int .i64))], Ae2.boxes, []⟩
def Bz7 (k : Nat) : EnvL := [(187, [Bi9 k])]
def Aub (k : Nat) : Cfg := { mkC (Bz7 k) 61 1 0 with bl := [54, 56] }
def Aai (k : Nat) : ((List (Int)) × (Int)) → Option H11 := hid (Ac (Aub k) k Tryz.f140 Ae2 Auh)
def Bjd (k : Nat) : Sig := Ab Ae2 Auh (Aai k)
noncomputable def Aug (k : Nat) : ((List (Int)) × (Int)) → Option H11
 | (a0, a1) => ((Ts k) (a0, a1)).bind fun o1 => bif (decide (((List.length o1.1 : Nat) : Int) > (24 : Int))) then (some ((0 : Int), ([] : List Int), (0 : Int), (0 : Int), (4 : Int), o1.2.1, o1.2.2)) else (some ((1 : Int), o1.1, (0 : Int), (0 : Int), (0 : Int), o1.2.1, o1.2.2))
theorem Bz9 (k : Nat) (x : ((List (Int)) × (Int))) : Aai k x = Aug k x := (Af _ _).trans (by kernel_rfl)
theorem Bqr (k : Nat) : Aa Tryz.prog 140 (Bjd k) := Ae (Aub k) k rfl ⟨⟨Bqn k, trivial⟩, trivial⟩ Ad Tryz.func140 (by kernel_rfl)
def Atz : Sk := ⟨[.lf (.pv (.int .i64))], [], []⟩
def At0 : Sk := ⟨[.lf (.pv .bool)], [], []⟩
def Atx (k : Nat) : Cfg := mkC [] 53 0 0
def Tr (k : Nat) : Int → Option Bool := hid (Ac (Atx k) k Tryz.f189 Atz At0)
def Bi8 (k : Nat) : Sig := Ab Atz At0 (Tr k)
noncomputable def Aty (k : Nat) : Int → Option Bool
 | a0 => some (a0 == (4 : Int))
theorem Bzu (k : Nat) (x : Int) : Tr k x = Aty k x := (Af _ _).trans (by kernel_rfl)
theorem Bqk (k : Nat) : Aa Tryz.prog 189 (Bi8 k) := Ae (Atx k) (l := []) k rfl trivial Ad Tryz.func189 (by kernel_rfl)
def Wu : Sk := ⟨[.lf (.ptr 0 0), .lf (.fn 189 [] [])], [[.pv (.slice (.int .u8)), .pv (.int .i64)]], []⟩
def Aet : Sk := ⟨[.lf (.pv .str)], Wu.boxes, []⟩
def At3 : Sk := ⟨sparse 44 [(0, .lf (.ptr 0 0)), (1, .lf (.fn 189 [] [])), (5, .lf (.pv (.int .i64)))], [[.pv (.slice (.int .u8)), .pv (.int .i64)]], []⟩
abbrev Aer := H8
def Q8 : Aer → St := stOf At3 92
def Bzw (k : Nat) : EnvL := [(138, [An8 k]), (189, [Bi8 k])]
def Hb (k : Nat) : FnX H10 := mkX ({ mkC (Bzw k) 92 1 0 with hint := fun i => look none [(2, some At3)] i }) k Tryz.f187 Aet
def Tt (k : Nat) : ((List (Int)) × (Int)) → Option H10 := hid (Ac (Hb k).C k Tryz.f187 Wu Aet)
def Bja (k : Nat) : Sig := Ab Wu Aet (Tt k)
noncomputable def Aes (k : Nat) (J : JF H10) (L : LF H10) : ((List (Int)) × (Int)) → Option H10
 | (a0, a1) => L 2 [] k (Q8 (a1, a0, a1))
theorem Bzx (k : Nat) (x : ((List (Int)) × (Int))) : Tt k x = Aes k (Hb k).J (Hb k).L x := by
 refine (Af _ _).trans ?_; apply cutX (Hb k) [] [] (st0 (Hb k).C Tryz.f187 Wu x) [] [(2, [], k)] (Aes k · · x) <;> intros <;> kernel_rfl
noncomputable def At4 (k j2 : Nat) (J : JF H10) (L : LF H10) : Aer → Option H10
 | (a0, a1, a2) => bif (decide (a2 < ((List.length a1 : Nat) : Int))) then (((Mq k) (a1, a2)).bind fun o1 => ((Tr k) (o1)).bind fun o2 => bif o2 then (L 2 [] j2 (Q8 (a0, a1, (IntKind.wrap .i64 (a2 + (1 : Int)))))) else (bif (cutB a0 a2 (List.length a1)) then some ((cutL a1 a0 a2), a1, a2) else none)) else (bif (cutB a0 a2 (List.length a1)) then some ((cutL a1 a0 a2), a1, a2) else none)
theorem Bzy (k j2 : Nat) (x : Aer) : (Hb k).L 2 [] (j2 + 1) (Q8 x) = At4 k j2 (Hb k).J (Hb k).L x := by
 apply cutX (Hb k) [.r, .r, .l, .b, .b] [j2] (Q8 x) [] [(2, [], j2)] (At4 k j2 · · x) <;> intros <;> kernel_rfl
theorem Bqm (k : Nat) : Aa Tryz.prog 187 (Bja k) := Ae (Hb k).C k rfl ⟨⟨Aqb k, trivial⟩, ⟨Bqk k, trivial⟩, trivial⟩ Ad Tryz.func187 (by kernel_rfl)
def Cac : Sk := ⟨[.lf (.pv .str), .lf (.pv (.int .i64)), .lf (.pv (.int .i64))], [], []⟩
def Cad : Sk := ⟨[.lf (.pv (.int .i64)), .lf (.err)], [], []⟩
def Acb (k : Nat) : ((List Int) × (Int) × (Int)) → Option ((Int) × (Bool)) := Oh
def Bn2 (k : Nat) : Sig := Ab Cac Cad (Acb k)
theorem Bv6 (k : Nat) : Aa Tryz.prog 190 (Bn2 k) := Cda
def Aeq : Sk := ⟨[.lf (.ptr 0 0)], [[.pv (.slice (.int .u8)), .pv (.int .i64)]], []⟩
def At2 : Sk := ⟨[.agg [.pv (.int .i64), .pv .str, .pv (.int .i64), .pv (.int .i64)], .lf (.pv (.int .i64))], Aeq.boxes, []⟩
def Bzt (k : Nat) : EnvL := [(187, [Bja k]), (190, [Bn2 k])]
def Atw (k : Nat) : Cfg := { mkC (Bzt k) 69 1 0 with bl := [54, 56] }
def Aah (k : Nat) : ((List (Int)) × (Int)) → Option H11 := hid (Ac (Atw k) k Tryz.f141 Aeq At2)
def Bi7 (k : Nat) : Sig := Ab Aeq At2 (Aah k)
noncomputable def At1 (k : Nat) : ((List (Int)) × (Int)) → Option H11
 | (a0, a1) => ((Tt k) (a0, a1)).bind fun o1 => bif (decide (((List.length o1.1 : Nat) : Int) > (18 : Int))) then (some ((0 : Int), ([] : List Int), (0 : Int), (0 : Int), (4 : Int), o1.2.1, o1.2.2)) else (((Acb k) (o1.1, (10 : Int), (64 : Int))).bind fun o2 => some ((2 : Int), o1.1, o2.1, (0 : Int), (0 : Int), o1.2.1, o1.2.2))
theorem Bzv (k : Nat) (x : ((List (Int)) × (Int))) : Aah k x = At1 k x := (Af _ _).trans (by kernel_rfl)
theorem Bql (k : Nat) : Aa Tryz.prog 141 (Bi7 k) := Ae (Atw k) k rfl ⟨⟨Bqm k, trivial⟩, ⟨Bv6 k, trivial⟩, trivial⟩ Ad Tryz.func141 (by kernel_rfl)
def Ae1 : Sk := ⟨[.lf (.ptr 0 0)], [[.pv (.slice (.int .u8)), .pv (.int .i64)]], []⟩
def Aua : Sk := ⟨[.agg [.pv (.int .i64), .pv .str, .pv (.int .i64), .pv (.int .i64)], .lf (.pv (.int .i64))], Ae1.boxes, []⟩
def Bz5 (k : Nat) : EnvL := [(138, [An7 k]), (140, [Bjd k]), (141, [Bi7 k])]
def At8 (k : Nat) : Cfg := { mkC (Bz5 k) 92 1 0 with bl := [54, 56], ld := [(28, 9999), (29, 9999), (30, 0), (32, 9999), (33, 9999), (34, 0), (37, 9999), (38, 9999), (39, 0)], sr := [(2, 50)] }
def Tv (k : Nat) : ((List (Int)) × (Int)) → Option H11 := hid (Ac (At8 k) k Tryz.f91 Ae1 Aua)
def Bjc (k : Nat) : Sig := Ab Ae1 Aua (Tv k)
noncomputable def At9 (k : Nat) : ((List (Int)) × (Int)) → Option H11
 | (a0, a1) => ((Pn k) (a0, a1)).bind fun o1 => bif (o1.1 == (3 : Int)) then (((Aai k) (o1.2.1, o1.2.2)).bind fun o2 => some (o2.1, o2.2.1, o2.2.2.1, o2.2.2.2.1, o2.2.2.2.2.1, o2.2.2.2.2.2.1, o2.2.2.2.2.2.2)) else (bif (o1.1 == (4 : Int)) then (((Aah k) (o1.2.1, o1.2.2)).bind fun o3 => some (o3.1, o3.2.1, o3.2.2.1, o3.2.2.2.1, o3.2.2.2.2.1, o3.2.2.2.2.2.1, o3.2.2.2.2.2.2)) else (bif (o1.1 == (5 : Int)) then (bif (cutB (IntKind.wrap .i64 ((IntKind.wrap .i64 (o1.2.2 + (1 : Int))) - (1 : Int))) (IntKind.wrap .i64 (o1.2.2 + (1 : Int))) (List.length o1.2.1)) then some ((3 : Int), (cutL o1.2.1 (IntKind.wrap .i64 ((IntKind.wrap .i64 (o1.2.2 + (1 : Int))) - (1 : Int))) (IntKind.wrap .i64 (o1.2.2 + (1 : Int)))), (0 : Int), (0 : Int), (0 : Int), o1.2.1, (IntKind.wrap .i64 (o1.2.2 + (1 : Int)))) else none) else (some ((0 : Int), ([] : List Int), (0 : Int), (0 : Int), (40 : Int), o1.2.1, o1.2.2))))
theorem Bz6 (k : Nat) (x : ((List (Int)) × (Int))) : Tv k x = At9 k x := (Af _ _).trans (by kernel_rfl)
theorem Bqp (k : Nat) : Aa Tryz.prog 91 (Bjc k) := Ae (At8 k) k rfl ⟨⟨Aqc k, trivial⟩, ⟨Bqr k, trivial⟩, ⟨Bql k, trivial⟩, trivial⟩ Ad Tryz.func91 (by kernel_rfl)
abbrev H12 : Type := (List (Int)) × (List (Int)) × (Int) × (List (YT8))
abbrev H13 : Type := (Int) × (Int) × (List (YT8))
def Aej : Sk := ⟨[.lf (.pv (.slice (.int .u8)))], [], []⟩
def Aek : Sk := ⟨[.lf (.own 0), .lf (.pv (.int .i64)), .lf (.pv (.int .i64))], [], [some (135, yt8)]⟩
def Atm : Sk := ⟨sparse 46 [(0, .lf (.pv (.slice (.int .u8)))), (5, .lf (.ptr 0 0)), (6, .lf (.own 0))], [[.pv (.slice (.int .u8)), .pv (.int .i64)]], [some (135, yt8)]⟩
abbrev Aeg := H12
def Q7 : Aeg → St := stOf Atm 94
def Bzh (k : Nat) : EnvL := [(90, [Bjb k]), (91, [Bjc k])]
def G9 (k : Nat) : FnX H13 := mkX ({ mkC (Bzh k) 94 0 0 with hint := fun i => look none [(5, some Atm)] i, bl := [54, 56] }) k Tryz.f46 Aek
def Pm (k : Nat) : (List (Int)) → Option H13 := hid (Ac (G9 k).C k Tryz.f46 Aej Aek)
def An6 (k : Nat) : Sig := Ab Aej Aek (Pm k)
noncomputable def Aeh (k : Nat) (J : JF H13) (L : LF H13) : (List (Int)) → Option H13
 | a0 => bif (decide (((List.length a0 : Nat) : Int) > (65536 : Int))) then (some ((4 : Int), (65536 : Int), [])) else (L 5 [] k (Q7 (a0, a0, (0 : Int), [])))
theorem Bzi (k : Nat) (x : (List (Int))) : Pm k x = Aeh k (G9 k).J (G9 k).L x := by
 refine (Af _ _).trans ?_; apply cutX (G9 k) [] [] (st0 (G9 k).C Tryz.f46 Aej x) [] [(5, [], k)] (Aeh k · · x) <;> intros <;> kernel_rfl
noncomputable def Aei (k j5 : Nat) (J : JF H13) (L : LF H13) : Aeg → Option H13
 | (a0, a1, a2, a3) => ((Tu k) (a1, a2)).bind fun o1 => bif (o1.2 == ((List.length a0 : Nat) : Int)) then (bif (appB 40 (List.length a3) (List.length ([((0 : Int), (([] : List Int), ((0 : Int), (o1.2, ()))))] : List (YT8)))) then some ((0 : Int), (0 : Int), (a3 ++ ([((0 : Int), (([] : List Int), ((0 : Int), (o1.2, ()))))] : List (YT8)))) else none) else (((Tv k) (o1.1, o1.2)).bind fun o2 => bif (o2.2.2.2.2.1 != (0 : Int)) then (some (o2.2.2.2.2.1, o1.2, [])) else (bif (appB 40 (List.length a3) (List.length ([(o2.1, (o2.2.1, (o2.2.2.1, (o1.2, ()))))] : List (YT8)))) then L 5 [] j5 (Q7 (a0, o2.2.2.2.2.2.1, o2.2.2.2.2.2.2, (a3 ++ ([(o2.1, (o2.2.1, (o2.2.2.1, (o1.2, ()))))] : List (YT8))))) else none))
theorem Bzj (k j5 : Nat) (x : Aeg) : (G9 k).L 5 [] (j5 + 1) (Q7 x) = Aei k j5 (G9 k).J (G9 k).L x := by
 apply cutX (G9 k) [.r, .r, .r, .r, .b, .b] [j5] (Q7 x) [] [(5, [], j5)] (Aei k j5 · · x) <;> intros <;> kernel_rfl
theorem Ap9 (k : Nat) : Aa Tryz.prog 46 (An6 k) := Ae (G9 k).C k rfl ⟨⟨Bqo k, trivial⟩, ⟨Bqp k, trivial⟩, trivial⟩ Ad Tryz.func46 (by kernel_rfl)
abbrev H14 : Type := (Int) × (List Int) × (Int) × (Int)
def Atk : Sk := ⟨[.agg [.pv (.int .i64), .pv .str, .pv (.int .i64), .pv (.int .i64)]], [], []⟩
def Atl : Sk := ⟨[.lf (.pv .bool)], [], []⟩
def Bzf (k : Nat) : EnvL := [(46, [An6 k])]
def Ati (k : Nat) : Cfg := { mkC (Bzf k) 78 0 0 with bl := [54, 56] }
def Tq (k : Nat) : H14 → Option Bool := hid (Ac (Ati k) k Tryz.f118 Atk Atl)
def Bi6 (k : Nat) : Sig := Ab Atk Atl (Tq k)
noncomputable def Atj (k : Nat) : H14 → Option Bool
 | (a0, a1, a2, a3) => ((Pm k) (a1)).bind fun o1 => bif (o1.1 == (0 : Int)) then (bif (((List.length o1.2.2 : Nat) : Int) == (2 : Int)) then (bif (inB (0 : Int) (List.length o1.2.2)) then some ((eqI (rdA zt8 o1.2.2 (Int.toNat (0 : Int))).1 a0) && ((eqS (rdA zt8 o1.2.2 (Int.toNat (0 : Int))).2.1 a1) && ((eqI (rdA zt8 o1.2.2 (Int.toNat (0 : Int))).2.2.1 a2) && ((eqI (rdA zt8 o1.2.2 (Int.toNat (0 : Int))).2.2.2.1 (0 : Int)) && true)))) else none) else (some false)) else (some false)
theorem Bzg (k : Nat) (x : H14) : Tq k x = Atj k x := (Af _ _).trans (by kernel_rfl)
theorem Bqj (k : Nat) : Aa Tryz.prog 118 (Bi6 k) := Ae (Ati k) k rfl ⟨⟨Ap9 k, trivial⟩, trivial⟩ Ad Tryz.func118 (by kernel_rfl)
def Aee : Sk := ⟨[.lf (.pv .str)], [], []⟩
def Aef : Sk := ⟨[.lf (.pv .bool)], [], []⟩
def Atf : Sk := ⟨sparse 50 [(3, .lf (.pv .str))], [], []⟩
abbrev By8 := (List Int)
def Ad7 : By8 → St := stOf Atf 98
def Atg : Sk := ⟨sparse 50 [(3, .lf (.pv .str))], [], []⟩
abbrev By9 := (List Int)
def Ad8 : By9 → St := stOf Atg 98
def Ath : Sk := ⟨sparse 50 [(3, .lf (.pv .str))], [], []⟩
abbrev Bza := (List Int)
def Ad9 : Bza → St := stOf Ath 98
def Dw (k : Nat) : FnX Bool := mkX ({ mkC [] 98 0 0 with hint := fun i => look none [(16, some Atf), (26, some Atg), (33, some Ath)] i }) k Tryz.f119 Aef
def Mp (k : Nat) : (List Int) → Option Bool := hid (Ac (Dw k).C k Tryz.f119 Aee Aef)
def Y0 (k : Nat) : Sig := Ab Aee Aef (Mp k)
noncomputable def Aea (k : Nat) (J : JF Bool) (L : LF Bool) : (List Int) → Option Bool
 | a0 => bif (a0 == ([99, 121, 99, 108, 101] : List Int)) then (some true) else (bif (a0 == ([116, 111] : List Int)) then (some true) else (bif (a0 == ([98, 121] : List Int)) then (some true) else (bif (a0 == ([112, 101, 97, 107] : List Int)) then (some true) else (bif (a0 == ([110, 111, 100, 101] : List Int)) then (some true) else (bif (a0 == ([104, 101, 97, 100] : List Int)) then (some true) else (bif (a0 == ([118, 111, 108, 117, 109, 101] : List Int)) then (some true) else (bif (a0 == ([102, 108, 111, 119] : List Int)) then (some true) else (bif (a0 == ([117, 115, 101] : List Int)) then (some true) else (bif (a0 == ([115, 112, 101, 101, 100] : List Int)) then (some true) else (bif (a0 == ([103, 114, 97, 100, 101] : List Int)) then (some true) else (bif (a0 == ([119, 105, 100, 116, 104] : List Int)) then (some true) else (bif (a0 == ([108, 101, 110, 103, 116, 104] : List Int)) then (some true) else (bif (a0 == ([103, 114, 101, 101, 110] : List Int)) then (some true) else (J 16 [] (Ad7 (a0))))))))))))))))
theorem Bzb (k : Nat) (x : (List Int)) : Mp k x = Aea k (Dw k).J (Dw k).L x := by
 refine (Af _ _).trans ?_; apply cutX (Dw k) [] [] (st0 (Dw k).C Tryz.f119 Aee x) [(16, []), (26, []), (33, [])] [] (Aea k · · x) <;> intros <;> kernel_rfl
noncomputable def Aeb (k : Nat) (J : JF Bool) (L : LF Bool) : (List Int) → Option Bool
 | a0 => bif (a0 == ([119, 97, 108, 107] : List Int)) then (some true) else (bif (a0 == ([119, 105, 116, 104] : List Int)) then (some true) else (bif (a0 == ([108, 111, 110, 103] : List Int)) then (some true) else (bif (a0 == ([112, 97, 99, 101] : List Int)) then (some true) else (bif (a0 == ([108, 101, 97, 115, 116] : List Int)) then (some true) else (bif (a0 == ([112, 104, 97, 115, 101] : List Int)) then (some true) else (bif (a0 == ([103, 114, 111, 117, 112] : List Int)) then (some true) else (bif (a0 == ([114, 105, 110, 103] : List Int)) then (some true) else (bif (a0 == ([102, 114, 101, 101] : List Int)) then (some true) else (bif (a0 == ([102, 111, 101] : List Int)) then (some true) else (J 26 [] (Ad8 (a0))))))))))))
theorem Bzc (k : Nat) (x : (List Int)) : (Dw k).J 16 [] (Ad7 x) = Aeb k (Dw k).J (Dw k).L x := by
 apply cutX (Dw k) [.r, .l, .r, .b, .l, .b, .b, .b, .b, .l, .r] [] (Ad7 x) [(16, []), (26, []), (33, [])] [] (Aeb k · · x) <;> intros <;> kernel_rfl
noncomputable def Aec (k : Nat) (J : JF Bool) (L : LF Bool) : (List Int) → Option Bool
 | a0 => bif (a0 == ([97, 114, 116, 101, 114, 121] : List Int)) then (some true) else (bif (a0 == ([115, 116, 111, 112] : List Int)) then (some true) else (bif (a0 == ([111, 117, 116] : List Int)) then (some true) else (bif (a0 == ([105, 110] : List Int)) then (some true) else (bif (a0 == ([97, 104, 101, 97, 100] : List Int)) then (some true) else (bif (a0 == ([98, 97, 99, 107] : List Int)) then (some true) else (bif (a0 == ([119, 101, 105, 103, 104, 116, 115] : List Int)) then (some true) else (J 33 [] (Ad9 (a0)))))))))
theorem Bzd (k : Nat) (x : (List Int)) : (Dw k).J 26 [] (Ad8 x) = Aec k (Dw k).J (Dw k).L x := by
 apply cutX (Dw k) [.r, .l, .r, .b, .l, .b, .b, .b, .b, .l, .r, .r] [] (Ad8 x) [(16, []), (26, []), (33, [])] [] (Aec k · · x) <;> intros <;> kernel_rfl
noncomputable def Aed (k : Nat) (J : JF Bool) (L : LF Bool) : (List Int) → Option Bool
 | a0 => bif (a0 == ([112, 108, 97, 110] : List Int)) then (some true) else (bif (a0 == ([111, 102, 102, 115, 101, 116] : List Int)) then (some true) else (bif (a0 == ([115, 117, 109] : List Int)) then (some true) else (bif (a0 == ([115, 112, 108, 105, 116] : List Int)) then (some true) else (bif (a0 == ([121, 101, 108, 108, 111, 119] : List Int)) then (some true) else (bif (a0 == ([114, 101, 100] : List Int)) then (some true) else (bif (a0 == ([102, 108, 97, 115, 104] : List Int)) then (some true) else (bif (a0 == ([98, 101, 115, 116] : List Int)) then (some true) else (bif (a0 == ([121, 101, 115] : List Int)) then (some true) else (bif (a0 == ([110, 111] : List Int)) then (some true) else (bif (a0 == ([115, 112, 101, 110, 116] : List Int)) then (some true) else (some false)))))))))))
theorem Bze (k : Nat) (x : (List Int)) : (Dw k).J 33 [] (Ad9 x) = Aed k (Dw k).J (Dw k).L x := by
 apply cutX (Dw k) [.r, .l, .r, .b, .l, .b, .b, .b, .b, .l, .r, .r, .r] [] (Ad9 x) [(16, []), (26, []), (33, [])] [] (Aed k · · x) <;> intros <;> kernel_rfl
theorem Aag (k : Nat) : Aa Tryz.prog 119 (Y0 k) := Ae (Dw k).C (l := []) k rfl trivial Ad Tryz.func119 (by kernel_rfl)
def Bcj : Sk := ⟨[.lf (.pv .str)], [], []⟩
def Bck : Sk := ⟨[.lf (.pv .bool)], [], []⟩
def B9f (k : Nat) : EnvL := [(118, [Bi6 k]), (119, [Y0 k])]
def Bch (k : Nat) : Cfg := mkC (B9f k) 59 0 0
def Qg (k : Nat) : (List Int) → Option Bool := hid (Ac (Bch k) k Tryz.f117 Bcj Bck)
def Bnq (k : Nat) : Sig := Ab Bcj Bck (Qg k)
noncomputable def Bci (k : Nat) : (List Int) → Option Bool
 | a0 => ((Tq k) ((1 : Int), a0, (0 : Int), (0 : Int))).bind fun o1 => bif (!o1) then (some true) else (((Mp k) (a0)).bind fun o2 => some o2)
theorem B9g (k : Nat) (x : (List Int)) : Qg k x = Bci k x := (Af _ _).trans (by kernel_rfl)
theorem Bvu (k : Nat) : Aa Tryz.prog 117 (Bnq k) := Ae (Bch k) k rfl ⟨⟨Bqj k, trivial⟩, ⟨Aag k, trivial⟩, trivial⟩ Ad Tryz.func117 (by kernel_rfl)
abbrev H15 : Type := (List (List Int)) × (Int) × (Int)
def Adx : Sk := ⟨[.lf (.pv (.slice .str)), .lf (.fn 117 [] [])], [], []⟩
def Ady : Sk := ⟨[.lf (.pv (.int .i64))], [], []⟩
def As9 : Sk := ⟨sparse 19 [(0, .lf (.pv (.slice .str))), (1, .lf (.fn 117 [] [])), (7, .lf (.pv (.int .i64))), (8, .lf (.pv (.int .i64)))], [], []⟩
abbrev Adu := H15
def Q4 : Adu → St := stOf As9 67
def By1 (k : Nat) : EnvL := [(117, [Bnq k])]
def G7 (k : Nat) : FnX Int := mkX ({ mkC (By1 k) 67 0 0 with hint := fun i => look none [(2, some As9)] i }) k Tryz.f176 Ady
def Aaf (k : Nat) : (List (List Int)) → Option Int := hid (Ac (G7 k).C k Tryz.f176 Adx Ady)
def Bi4 (k : Nat) : Sig := Ab Adx Ady (Aaf k)
noncomputable def Adw (k : Nat) (J : JF Int) (L : LF Int) : (List (List Int)) → Option Int
 | a0 => L 2 [] k (Q4 (a0, ((List.length a0 : Nat) : Int), (0 : Int)))
theorem By2 (k : Nat) (x : (List (List Int))) : Aaf k x = Adw k (G7 k).J (G7 k).L x := by
 refine (Af _ _).trans ?_; apply cutX (G7 k) [] [] (st0 (G7 k).C Tryz.f176 Adx x) [] [(2, [], k)] (Adw k · · x) <;> intros <;> kernel_rfl
noncomputable def Ata (k j2 : Nat) (J : JF Int) (L : LF Int) : Adu → Option Int
 | (a0, a1, a2) => bif (decide (a2 < a1)) then (idx [] a0 a2 fun o1 => ((Qg k) (o1)).bind fun o2 => bif o2 then (some a2) else (L 2 [] j2 (Q4 (a0, a1, (IntKind.wrap .i64 (a2 + (1 : Int))))))) else (some (-1 : Int))
theorem By3 (k j2 : Nat) (x : Adu) : (G7 k).L 2 [] (j2 + 1) (Q4 x) = Ata k j2 (G7 k).J (G7 k).L x := by
 apply cutX (G7 k) [.r, .l, .r, .b, .b] [j2] (Q4 x) [] [(2, [], j2)] (Ata k j2 · · x) <;> intros <;> kernel_rfl
theorem Bqg (k : Nat) : Aa Tryz.prog 176 (Bi4 k) := Ae (G7 k).C k rfl ⟨⟨Bvu k, trivial⟩, trivial⟩ Ad Tryz.func176 (by kernel_rfl)
def Asm : Sk := ⟨[.lf (.pv (.slice .str)), .lf (.fn 117 [] [])], [], []⟩
def Asn : Sk := ⟨[.lf (.pv .bool)], [], []⟩
def Bx3 (k : Nat) : EnvL := [(176, [Bi4 k])]
def Ask (k : Nat) : Cfg := mkC (Bx3 k) 57 0 0
def Pl (k : Nat) : (List (List Int)) → Option Bool := hid (Ac (Ask k) k Tryz.f116 Asm Asn)
def Bis (k : Nat) : Sig := Ab Asm Asn (Pl k)
noncomputable def Asl (k : Nat) : (List (List Int)) → Option Bool
 | a0 => ((Aaf k) (a0)).bind fun o1 => some (decide (o1 ≥ (0 : Int)))
theorem Bx4 (k : Nat) (x : (List (List Int))) : Pl k x = Asl k x := (Af _ _).trans (by kernel_rfl)
theorem Bp2 (k : Nat) : Aa Tryz.prog 116 (Bis k) := Ae (Ask k) k rfl ⟨⟨Bqg k, trivial⟩, trivial⟩ Ad Tryz.func116 (by kernel_rfl)
def fshownamesi : Sk := ⟨[.lf (.pv (.slice .str))], [], []⟩
def fshownameso : Sk := ⟨[.lf (.pv .bool)], [], []⟩
def B9e (k : Nat) : EnvL := [(116, [Bis k])]
def Bcg (k : Nat) : Cfg := mkC (B9e k) 54 0 0
def cshownames (k : Nat) : (List (List Int)) → Option Bool := hid (Ac (Bcg k) k Tryz.f64 fshownamesi fshownameso)
def sgshownames (k : Nat) : Sig := Ab fshownamesi fshownameso (cshownames k)
noncomputable def Bcl (k : Nat) : (List (List Int)) → Option Bool
 | a0 => ((Pl k) (a0)).bind fun o1 => some (!o1)
theorem B9h (k : Nat) (x : (List (List Int))) : cshownames k x = Bcl k x := (Af _ _).trans (by kernel_rfl)
theorem Ld (k : Nat) : Aa Tryz.prog 64 (sgshownames k) := Ae (Bcg k) k rfl ⟨⟨Bp2 k, trivial⟩, trivial⟩ Ad Tryz.func64 (by kernel_rfl)
abbrev H16 : Type := (List Int) × (Int) × (Int) × (Int) × (Int) × (Int) × (Int) × (Int) × (Int) × (Int) × (Int)
def Bav : Sk := ⟨[.agg [.pv .str, .pv (.int .i64), .pv (.int .i64), .pv (.int .i64), .pv (.int .i64), .pv (.int .i64), .pv (.int .i64), .pv (.int .i64), .pv (.int .i64), .pv (.int .i64), .pv (.int .i64)]], [], []⟩
def Baw : Sk := ⟨[.lf (.pv .bool)], [], []⟩
def B8j (k : Nat) : EnvL := [(64, [sgshownames k]), (29, [sgshownums k])]
def Bat (k : Nat) : Cfg := { mkC (B8j k) 89 0 0 with bl := [54, 56] }
def Qa (k : Nat) : H16 → Option Bool := hid (Ac (Bat k) k Tryz.f66 Bav Baw)
def Bnd (k : Nat) : Sig := Ab Bav Baw (Qa k)
noncomputable def Bau (k : Nat) : H16 → Option Bool
 | (a0, a1, a2, a3, a4, a5, a6, a7, a8, a9, a10) => ((cshownames k) (([a0] : List (List Int)))).bind fun o1 => bif (!o1) then (some true) else (((cshownums k) (([a1, a2, a3, a4, a5, a7, a8, a9] : List (Int)))).bind fun o2 => bif (!o2) then (some true) else (bif (decide (a6 < (-999999999999999999 : Int))) then (some true) else (some (decide (a6 > (999999999999999999 : Int))))))
theorem B8k (k : Nat) (x : H16) : Qa k x = Bau k x := (Af _ _).trans (by kernel_rfl)
theorem Bvg (k : Nat) : Aa Tryz.prog 66 (Bnd k) := Ae (Bat k) k rfl ⟨⟨Ld k, trivial⟩, ⟨Wb k, trivial⟩, trivial⟩ Ad Tryz.func66 (by kernel_rfl)
abbrev H17 : Type := (List (YT1)) × (Int) × (Int)
def Ac4 : Sk := ⟨[.lf (.pv (.slice yt1)), .lf (.fn 66 [] [])], [], []⟩
def Ac5 : Sk := ⟨[.lf (.pv (.int .i64))], [], []⟩
def Asv : Sk := ⟨sparse 19 [(0, .lf (.pv (.slice yt1))), (1, .lf (.fn 66 [] [])), (7, .lf (.pv (.int .i64))), (8, .lf (.pv (.int .i64)))], [], []⟩
abbrev Ac2 := H17
def Qx : Ac2 → St := stOf Asv 67
def Byg (k : Nat) : EnvL := [(66, [Bnd k])]
def Gw (k : Nat) : FnX Int := mkX ({ mkC (Byg k) 67 0 0 with hint := fun i => look none [(2, some Asv)] i }) k Tryz.f177 Ac5
def Z8 (k : Nat) : (List (YT1)) → Option Int := hid (Ac (Gw k).C k Tryz.f177 Ac4 Ac5)
def Bix (k : Nat) : Sig := Ab Ac4 Ac5 (Z8 k)
noncomputable def Ac3 (k : Nat) (J : JF Int) (L : LF Int) : (List (YT1)) → Option Int
 | a0 => L 2 [] k (Qx (a0, ((List.length a0 : Nat) : Int), (0 : Int)))
theorem Byh (k : Nat) (x : (List (YT1))) : Z8 k x = Ac3 k (Gw k).J (Gw k).L x := by
 refine (Af _ _).trans ?_; apply cutX (Gw k) [] [] (st0 (Gw k).C Tryz.f177 Ac4 x) [] [(2, [], k)] (Ac3 k · · x) <;> intros <;> kernel_rfl
noncomputable def Asw (k j2 : Nat) (J : JF Int) (L : LF Int) : Ac2 → Option Int
 | (a0, a1, a2) => bif (decide (a2 < a1)) then (idx zt1 a0 a2 fun o1 => ((Qa k) (o1.1, o1.2.1, o1.2.2.1, o1.2.2.2.1.1, o1.2.2.2.1.2.1, o1.2.2.2.2.1, o1.2.2.2.2.2.1, o1.2.2.2.2.2.2.1, o1.2.2.2.2.2.2.2.1, o1.2.2.2.2.2.2.2.2.1, o1.2.2.2.2.2.2.2.2.2.1)).bind fun o2 => bif o2 then (some a2) else (L 2 [] j2 (Qx (a0, a1, (IntKind.wrap .i64 (a2 + (1 : Int))))))) else (some (-1 : Int))
theorem Byi (k j2 : Nat) (x : Ac2) : (Gw k).L 2 [] (j2 + 1) (Qx x) = Asw k j2 (Gw k).J (Gw k).L x := by
 apply cutX (Gw k) [.r, .l, .r, .b, .b] [j2] (Qx x) [] [(2, [], j2)] (Asw k j2 · · x) <;> intros <;> kernel_rfl
theorem Bp9 (k : Nat) : Aa Tryz.prog 177 (Bix k) := Ae (Gw k).C k rfl ⟨⟨Bvg k, trivial⟩, trivial⟩ Ad Tryz.func177 (by kernel_rfl)
def Aru : Sk := ⟨[.lf (.pv (.slice yt1)), .lf (.fn 66 [] [])], [], []⟩
def Arv : Sk := ⟨[.lf (.pv .bool)], [], []⟩
def Bxp (k : Nat) : EnvL := [(177, [Bix k])]
def Ars (k : Nat) : Cfg := mkC (Bxp k) 57 0 0
def Pd (k : Nat) : (List (YT1)) → Option Bool := hid (Ac (Ars k) k Tryz.f120 Aru Arv)
def Bil (k : Nat) : Sig := Ab Aru Arv (Pd k)
noncomputable def Art (k : Nat) : (List (YT1)) → Option Bool
 | a0 => ((Z8 k) (a0)).bind fun o1 => some (decide (o1 ≥ (0 : Int)))
theorem Bxq (k : Nat) (x : (List (YT1))) : Pd k x = Art k x := (Af _ _).trans (by kernel_rfl)
theorem Bpv (k : Nat) : Aa Tryz.prog 120 (Bil k) := Ae (Ars k) k rfl ⟨⟨Bp9 k, trivial⟩, trivial⟩ Ad Tryz.func120 (by kernel_rfl)
def Bbr : Sk := ⟨[.lf (.pv (.slice yt1)), .lf (.pv (.int .i64)), .lf (.fn 66 [] [])], [], []⟩
def Bbs : Sk := ⟨[.lf (.pv .bool)], [], []⟩
def B8z (k : Nat) : EnvL := [(120, [Bil k])]
def Bbp (k : Nat) : Cfg := mkC (B8z k) 64 0 0
def V6 (k : Nat) : ((List (YT1)) × (Int)) → Option Bool := hid (Ac (Bbp k) k Tryz.f65 Bbr Bbs)
def Bnl (k : Nat) : Sig := Ab Bbr Bbs (V6 k)
noncomputable def Bbq (k : Nat) : ((List (YT1)) × (Int)) → Option Bool
 | (a0, a1) => bif (decide (((List.length a0 : Nat) : Int) > a1)) then (some true) else (((Pd k) (a0)).bind fun o1 => some o1)
theorem B80 (k : Nat) (x : ((List (YT1)) × (Int))) : V6 k x = Bbq k x := (Af _ _).trans (by kernel_rfl)
theorem Bvo (k : Nat) : Aa Tryz.prog 65 (Bnl k) := Ae (Bbp k) k rfl ⟨⟨Bpv k, trivial⟩, trivial⟩ Ad Tryz.func65 (by kernel_rfl)
abbrev H18 : Type := (List Int) × (List Int) × (Int) × (Int) × (Int) × (Int)
def Ba3 : Sk := ⟨[.agg [.pv .str, .pv .str, .pv (.int .i64), .pv (.int .i64), .pv (.int .i64), .pv (.int .i64)]], [], []⟩
def Ba4 : Sk := ⟨[.lf (.pv .bool)], [], []⟩
def B8n (k : Nat) : EnvL := [(64, [sgshownames k]), (29, [sgshownums k])]
def Ba1 (k : Nat) : Cfg := { mkC (B8n k) 69 0 0 with bl := [54, 56] }
def Qc (k : Nat) : H18 → Option Bool := hid (Ac (Ba1 k) k Tryz.f68 Ba3 Ba4)
def Bnf (k : Nat) : Sig := Ab Ba3 Ba4 (Qc k)
noncomputable def Ba2 (k : Nat) : H18 → Option Bool
 | (a0, a1, a2, a3, a4, a5) => ((cshownames k) (([a0, a1] : List (List Int)))).bind fun o1 => bif (!o1) then (some true) else (((cshownums k) (([a2, a3, a4] : List (Int)))).bind fun o2 => some (!o2))
theorem B8o (k : Nat) (x : H18) : Qc k x = Ba2 k x := (Af _ _).trans (by kernel_rfl)
theorem Bvi (k : Nat) : Aa Tryz.prog 68 (Bnf k) := Ae (Ba1 k) k rfl ⟨⟨Ld k, trivial⟩, ⟨Wb k, trivial⟩, trivial⟩ Ad Tryz.func68 (by kernel_rfl)
abbrev H19 : Type := (List (YT2)) × (Int) × (Int)
def Adc : Sk := ⟨[.lf (.pv (.slice yt2)), .lf (.fn 68 [] [])], [], []⟩
def Add : Sk := ⟨[.lf (.pv (.int .i64))], [], []⟩
def Asz : Sk := ⟨sparse 19 [(0, .lf (.pv (.slice yt2))), (1, .lf (.fn 68 [] [])), (7, .lf (.pv (.int .i64))), (8, .lf (.pv (.int .i64)))], [], []⟩
abbrev Ada := H19
def Qz : Ada → St := stOf Asz 67
def Bym (k : Nat) : EnvL := [(68, [Bnf k])]
def Gy (k : Nat) : FnX Int := mkX ({ mkC (Bym k) 67 0 0 with hint := fun i => look none [(2, some Asz)] i }) k Tryz.f178 Add
def Aaa (k : Nat) : (List (YT2)) → Option Int := hid (Ac (Gy k).C k Tryz.f178 Adc Add)
def Biz (k : Nat) : Sig := Ab Adc Add (Aaa k)
noncomputable def Adb (k : Nat) (J : JF Int) (L : LF Int) : (List (YT2)) → Option Int
 | a0 => L 2 [] k (Qz (a0, ((List.length a0 : Nat) : Int), (0 : Int)))
theorem Byn (k : Nat) (x : (List (YT2))) : Aaa k x = Adb k (Gy k).J (Gy k).L x := by
 refine (Af _ _).trans ?_; apply cutX (Gy k) [] [] (st0 (Gy k).C Tryz.f178 Adc x) [] [(2, [], k)] (Adb k · · x) <;> intros <;> kernel_rfl
noncomputable def As0 (k j2 : Nat) (J : JF Int) (L : LF Int) : Ada → Option Int
 | (a0, a1, a2) => bif (decide (a2 < a1)) then (idx zt2 a0 a2 fun o1 => ((Qc k) (o1.1, o1.2.1, o1.2.2.1, o1.2.2.2.1, o1.2.2.2.2.1, o1.2.2.2.2.2.1)).bind fun o2 => bif o2 then (some a2) else (L 2 [] j2 (Qz (a0, a1, (IntKind.wrap .i64 (a2 + (1 : Int))))))) else (some (-1 : Int))
theorem Byo (k j2 : Nat) (x : Ada) : (Gy k).L 2 [] (j2 + 1) (Qz x) = As0 k j2 (Gy k).J (Gy k).L x := by
 apply cutX (Gy k) [.r, .l, .r, .b, .b] [j2] (Qz x) [] [(2, [], j2)] (As0 k j2 · · x) <;> intros <;> kernel_rfl
theorem Bqb (k : Nat) : Aa Tryz.prog 178 (Biz k) := Ae (Gy k).C k rfl ⟨⟨Bvi k, trivial⟩, trivial⟩ Ad Tryz.func178 (by kernel_rfl)
end
end Go.Proofs.YtipcabmhdokfjaaGreatDoorV
