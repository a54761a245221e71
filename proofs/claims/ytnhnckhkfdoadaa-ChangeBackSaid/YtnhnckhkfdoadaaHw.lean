import Derived.Test.YtnhnckhkfdoadaaBase
import Derived.RangeFuncBox
import Derived.RangeFuncLeaves
import Derived.Shelf.Abstract
import Derived.OwnWalkIn
import Derived.TacticsInMore
import Derived.LoopNIn
import Derived.LoopIn
import Derived.Maps.AppendAt
/-! The changes of a way: the iterator (way).steps, and the loop over it in (way).all, by hand. -/
set_option linter.unusedVariables false
set_option linter.unusedSimpArgs false
namespace Go.Proofs.Ytnhnckhkfdoadaa.Hw
open Go.RowKit Go.Shelf Go.Proofs.YtnhnckhkfdoadaaW.PrintWords Go.Proofs.YtnhnckhkfdoadaaW.PrintLast Go.Proofs.YtnhnckhkfdoadaaW.PrintMore
attribute [local go_sem] Oper.semAt_some max2_int min2_int max_two min_two

/-- the changes: m at once at most, the sign s, l ticks left. -/
def stp (m s : Int) : Nat → Int → List Int
  | 0, _ => []
  | k + 1, l => if 0 < l then s * (if m < l then m else l) :: stp m s k (l - m) else []
def way (t m s : Int) : List Int := stp m s t.toNat t
theorem stp_more (m s : Int) (hm : 1 ≤ m) : ∀ (k j : Nat) (l : Int), l ≤ k → l ≤ j → stp m s k l = stp m s j l
  | 0, 0, l, _, _ => rfl
  | 0, j + 1, l, h, _ => by rw [stp, stp, if_neg (by omega)]
  | k + 1, 0, l, _, h => by rw [stp, stp, if_neg (by omega)]
  | k + 1, j + 1, l, h, h' => by
    rw [stp, stp]
    split
    · rw [stp_more m s hm k j (l - m) (by omega) (by omega)]
    · rfl
theorem way_pos (t m s : Int) (hm : 1 ≤ m) (h : 0 < t) : way t m s = s * (if m < t then m else t) :: way (t - m) m s := by
  unfold way
  obtain ⟨k, hk⟩ : ∃ k, t.toNat = k + 1 := ⟨t.toNat - 1, by omega⟩
  rw [hk, stp, if_pos h, stp_more m s hm k (t - m).toNat (t - m) (by omega) (by omega)]
theorem way_nil (t m s : Int) (h : t ≤ 0) : way t m s = [] := by
  unfold way
  cases hk : t.toNat with
  | zero => rfl
  | succ k => rw [stp, if_neg (by omega)]
theorem stp_len (m s : Int) : ∀ (k : Nat) (l : Int), (stp m s k l).length ≤ k
  | 0, _ => by simp [stp]
  | k + 1, l => by
    rw [stp]
    split
    · have := stp_len m s k (l - m); simp; omega
    · simp

/-- What is asked of a way. -/
def Fits (t m s : Int) : Prop := (0 ≤ t ∧ t ≤ 6000) ∧ (1 ≤ m ∧ m ≤ 6000) ∧ (s = 1 ∨ s = -1)
instance (t m s : Int) : Decidable (Fits t m s) := inferInstanceAs (Decidable (_ ∧ _))

/-- What a round must keep: the block that the iterator reads. -/
def KB (B : Nat) (o : Obj) (W W' : World) : Prop := W.heap[B]? = some o → W'.heap[B]? = some o
theorem KB.t {B : Nat} {o : Obj} {X Y Z : World} (h : KB B o X Y) (k : KB B o Y Z) : KB B o X Z := fun e => k (h e)
theorem KB.b {B : Nat} {o : Obj} {w : World} (hB : B < w.heap.size) (W : World) (l : Nat) (x x' : Obj) (hl : w.heap.size ≤ l) (_ : W.heap[l]? = some x) (_ : x.isCells = false) (_ : x.isWalk = false) : KB B o W (W.putObj l x') := fun e =>
  (World.putObj_heap_other (fun h => by omega)).trans e
theorem blk_own {β : Type} (B : Nat) (cs : Array Value) (t : TypeId) (fr : Nat × Nat) : Own (fun (_ : β) W => W.heap[B]? = some (.cells cs t fr)) := fun s X Y row hs hg hrow =>
  (hg.block B (Array.getElem?_eq_some_iff.1 hs).1 (fun e' => by obtain ⟨o, ho, hc⟩ := hrow B e'.symm; rw [hs] at ho; cases ho; cases hc)).trans hs

set_option maxRecDepth 100000 in
set_option maxHeartbeats 1000000 in
theorem steps1_in (F : Fence) (n : Nat) (h6 : F.fn 44) (hro : F.round = none) (hn : 1 ≤ n) (l Bn : Nat) (t m s : Int) (hf : Fits t m s) (J Jx : List Int → World → Prop)
    (hY : ∀ pre x W, J pre W → pre.length < (way t m s).length → YieldAt F (n - 1) Try.prog l #[.int .i64 x] W fun e W' =>
      (e = .returned (.bool true) ∧ J (pre ++ [x]) W' ∧ KB Bn (.cells #[.int .i64 t, .int .i64 m, .int .i64 s] 44 (0, 0)) W W') ∨ (e = .returned (.bool false) ∧ Jx (pre ++ [x]) W'))
    (W : World) (hbk : W.heap[Bn]? = some (.cells #[.int .i64 t, .int .i64 m, .int .i64 s] 44 (0, 0))) (h0 : J [] W) :
    CallsIn F n Try.prog 44 #[.func (.yield l) #[] #[], .pointer (some ⟨Bn, 0, none⟩)] W fun e W' => (∃ v, e = .returned v) ∧
      ((∃ ys, ys = way t m s ∧ J ys W') ∨ (∃ pre, pre <+: way t m s ∧ Jx pre W')) := by
  obtain ⟨⟨ht0, ht1⟩, ⟨hm0, hm1⟩, hs⟩ := hf
  have HS := Aside0.mk hs
  clear hs
  have hc0 : W.cell? ⟨Bn, 0, none⟩ = some (.int .i64 t) := (blk_cell hbk 0).trans rfl
  have HBK := Aside0.mk hbk
  clear hbk
  refine callsIn_of_wp Try.func44 rfl h6 ?_ hro
  simp only [Try.ntmps44, List.size_toArray, List.length_cons, List.length_nil, Nat.reduceAdd, Nat.reduceSub, Array.replicate_succ, Array.replicate_zero, List.push_toArray, List.append_toArray, List.nil_append, List.cons_append]
  gi_wp2
  gi_loopw [3] (fun p wr => ∃ (pre : List Int) (q : Int), p = .int .i64 q ∧ q ≤ 6000 ∧ -6000 ≤ q ∧ Aside0 (way t m s = pre ++ way q m s) ∧ Aside0 (wr.heap[Bn]? = some (.cells #[.int .i64 t, .int .i64 m, .int .i64 s] 44 (0, 0))) ∧ J pre wr)
    (fun p wr => (intOf p).toNat)
  case atStart =>
    exact ⟨[], t, rfl, by omega, by omega, ⟨rfl⟩, HBK, h0⟩
  case round =>
    clear hc0
    obtain ⟨pre, q, rfl, hq1, hq2, hx, hcs, hJs⟩ := hrel
    by_cases hq : 0 < q
    · by_cases hmq : m < q
      · have hw := way_pos q m s hm0 hq
        rw [if_pos hmq] at hw
        have hy0 : wrap64 (s * m) = s * m := by
          rcases HS.out with h | h <;> rw [h] <;> unfold wrap64 <;> omega
        rw [← hy0] at hw
        obtain ⟨fn, tmps, assign, body, hy, hR⟩ := hY pre (wrap64 (s * m)) wr hJs (by rw [hx.out, hw]; simp)
        have hc1 : wr.cell? ⟨Bn, 1, none⟩ = some (.int .i64 m) := (blk_cell hcs.out 1).trans rfl
        have hc2 : wr.cell? ⟨Bn, 2, none⟩ = some (.int .i64 s) := (blk_cell hcs.out 2).trans rfl
        have HW := Aside0.mk hw
        clear hy0 hw
        gi_wp2
        refine hR.mono ?_
        rintro e W3 (⟨rfl, hJ3, hk3⟩ | ⟨rfl, hJx3⟩)
        · have hb3 := hk3 hcs.out
          have hd1 : W3.cell? ⟨Bn, 1, none⟩ = some (.int .i64 m) := (blk_cell hb3 1).trans rfl
          have HB3 := Aside0.mk hb3
          clear hb3 hc1 hc2 hk3
          gi_wp2
          go_roundw
          case rel => exact ⟨_, q - m, rfl, by omega, by omega, ⟨by rw [hx.out, HW.out]; simp⟩, HB3, hJ3⟩
          case measure => simp [intOf]; omega
        · gi_wp2
          refine bodyPost_ret (results_none rfl _ _ _) rfl ?_
          exact ⟨⟨_, rfl⟩, .inr ⟨_, ⟨way (q - m) m s, by rw [hx.out, HW.out]; simp⟩, hJx3⟩⟩
      · have hw := way_pos q m s hm0 hq
        rw [if_neg hmq] at hw
        have hy0 : wrap64 (s * q) = s * q := by
          rcases HS.out with h | h <;> rw [h] <;> unfold wrap64 <;> omega
        rw [← hy0] at hw
        obtain ⟨fn, tmps, assign, body, hy, hR⟩ := hY pre (wrap64 (s * q)) wr hJs (by rw [hx.out, hw]; simp)
        have hc1 : wr.cell? ⟨Bn, 1, none⟩ = some (.int .i64 m) := (blk_cell hcs.out 1).trans rfl
        have hc2 : wr.cell? ⟨Bn, 2, none⟩ = some (.int .i64 s) := (blk_cell hcs.out 2).trans rfl
        have HW := Aside0.mk hw
        clear hy0 hw
        gi_wp2
        refine hR.mono ?_
        rintro e W3 (⟨rfl, hJ3, hk3⟩ | ⟨rfl, hJx3⟩)
        · have hb3 := hk3 hcs.out
          have hd1 : W3.cell? ⟨Bn, 1, none⟩ = some (.int .i64 m) := (blk_cell hb3 1).trans rfl
          have HB3 := Aside0.mk hb3
          clear hb3 hc1 hc2 hk3
          gi_wp2
          go_roundw
          case rel => exact ⟨_, q - m, rfl, by omega, by omega, ⟨by rw [hx.out, HW.out]; simp⟩, HB3, hJ3⟩
          case measure => simp [intOf]; omega
        · gi_wp2
          refine bodyPost_ret (results_none rfl _ _ _) rfl ?_
          exact ⟨⟨_, rfl⟩, .inr ⟨_, ⟨way (q - m) m s, by rw [hx.out, HW.out]; simp⟩, hJx3⟩⟩
    · have hw := way_nil q m s (by omega)
      have HW := Aside0.mk hw
      clear hw
      gi_wp2
      go_end0
      exact ⟨⟨_, rfl⟩, .inl (by rw [hx.out, HW.out, List.append_nil]; exact hJs)⟩

set_option maxHeartbeats 1000000 in
theorem steps_in (F : Fence) (n : Nat) (h5 : F.fn 40) (hro : F.round = none) (t m s : Int) (w : World) :
    CallsIn F n Try.prog 40 #[.agg #[.int .i64 t, .int .i64 m, .int .i64 s]] w fun e w' => e = .returned (.func (.func 44) #[] #[.pointer (some ⟨w.heap.size, 0, none⟩)]) ∧ w' = w.alloc (.cells #[.int .i64 t, .int .i64 m, .int .i64 s] 44) := by
  refine callsIn_of_wp Try.func40 rfl h5 ?_ hro
  simp only [Try.ntmps40, List.size_toArray, List.length_cons, List.length_nil, Nat.reduceAdd, Nat.reduceSub, Array.replicate_succ, Array.replicate_zero, List.push_toArray, List.append_toArray, List.nil_append, List.cons_append]
  gi_wp2
  go_ret
  exact ⟨rfl, rfl⟩

theorem steps_stops (F : Fence) (n : Nat) (h6 : F.fn 44) (hro : F.round = none) (hn : 1 ≤ n) (Bn : Nat) (t m s : Int) (hf : Fits t m s) (w : World) (hbk : w.heap[Bn]? = some (.cells #[.int .i64 t, .int .i64 m, .int .i64 s] 44 (0, 0))) :
    SeqStopsK F n Try.prog 44 #[.pointer (some ⟨Bn, 0, none⟩)] (fun x : Int => #[Value.int .i64 x]) (KB Bn (.cells #[.int .i64 t, .int .i64 m, .int .i64 s] 44 (0, 0))) (fun ys => ys = way t m s) (fun pre => pre <+: way t m s) (way t m s).length w := fun l J Jx W hW _ _ hY h0 =>
  steps1_in F n h6 hro hn l Bn t m s hf J Jx hY W (blk_below hbk hW) h0

theorem info2 : (Try.prog.info? 2).map (fun i => (i.zero, i.size, i.bytes)) = some (some (.int .i64 0), 1, 8) := by kernel_rfl

set_option maxRecDepth 100000 in
set_option maxHeartbeats 2000000 in
theorem all_in (F : Fence) (n : Nat) (h3 : F.fn 31) (h4 : F.fn 40) (h5 : F.fn 44) (hro : F.round = none) (hn : 3 ≤ n) (t m s : Int) (hf : Fits t m s) (w : World) :
    CallsIn F n Try.prog 31 #[.agg #[.int .i64 t, .int .i64 m, .int .i64 s]] w fun e W' => ∃ v, e = .returned v ∧ W'.ownsRow w.heap.size 2 1 v (way t m s).length ((way t m s).map (Value.int .i64)) ∧ Below w.heap.size w W' := by
  have h1 : 1 ≤ n := by omega
  have hlen : (way t m s).length ≤ 6000 := by have := stp_len m s t.toNat t; have := hf.1; unfold way; omega
  obtain ⟨i0, hi, hz0, hz1, hz2⟩ := info_parts info2
  refine callsIn_of_wp_marks Try.func31 rfl h3 ?_ hro
  simp only [Try.ntmps31, List.size_toArray, List.length_cons, List.length_nil, Nat.reduceAdd, Nat.reduceSub, Array.replicate_succ, Array.replicate_zero, List.push_toArray, List.append_toArray, List.nil_append, List.cons_append]
  gi_wp2_with (gi_at_call 40; refine (steps_in F (n - 1) h4 hro _ _ _ _).mono ?_; rintro e w' ⟨rfl, rfl⟩)
  have hu44 := Try.underlying44
  have hB0 : Below w.heap.size w (((w.alloc (.cells #[.int .i64 t, .int .i64 m, .int .i64 s] 44)).alloc (.cells #[.slice none 0 0] 32)).alloc (.cells #[.int .i64 t, .int .i64 m, .int .i64 s] 44)) := (((Below.refl _ w).alloc (Nat.le_refl _) _).alloc (by simp) _).alloc (by simp; omega) _
  have hbk := blk_new ((w.alloc (.cells #[.int .i64 t, .int .i64 m, .int .i64 s] 44)).alloc (.cells #[.slice none 0 0] 32)) (.cells #[.int .i64 t, .int .i64 m, .int .i64 s] 44)
  simp only [World.size_alloc] at hbk
  have bO := Boxed.new (w.alloc (.cells #[.int .i64 t, .int .i64 m, .int .i64 s] 44)) 32 (.slice none 0 0)
  rw [World.size_alloc] at bO
  refine wpIn_rangeFunc_ownG hro h1 (gf := 44) (lb := #[.pointer (some ⟨w.heap.size + 1 + 1, 0, none⟩)]) rfl h5 (enters_of Try.func44 (by kernel_rfl) rfl)
    (steps_stops F (n - 1) h5 hro (by omega) (w.heap.size + 1 + 1) t m s hf (((w.alloc (.cells #[.int .i64 t, .int .i64 m, .int .i64 s] 44)).alloc (.cells #[.slice none 0 0] 32)).alloc (.cells #[.int .i64 t, .int .i64 m, .int .i64 s] 44)) hbk) KB.t (KB.b (by simp)) (Below.refl _ _) (fun _ => rfl)
    (fun pre W => ((∃ v, Boxed W (w.heap.size + 1) 32 v ∧ W.ownsRow w.heap.size 2 1 v pre.length (pre.map (Value.int .i64)) ∧ True) ∧ W.heap[w.heap.size + 1 + 1]? = some (.cells #[.int .i64 t, .int .i64 m, .int .i64 s] 44 (0, 0))) ∧ Below w.heap.size w W)
    (fun _ _ _ => False)
    (OwnFrom.and (OwnFrom.and (Own.from (holdsRow_own w.heap.size (w.heap.size + 1) 32 2 1 (fun pre : List Int => pre.length) (fun pre => pre.map (Value.int .i64)) (fun pre v => True)) _) (Own.from (blk_own _ _ _ _) _)) (ownFrom_below (Nat.le_refl _) (by simp; omega)))
    (fun _ _ _ _ _ hs _ _ => hs)
    ⟨⟨⟨_, bO.alloc _, World.ownsRow_nil _ _ _ _, trivial⟩, hbk⟩, hB0⟩
    (fun x => { tmps := #[.agg #[.int .i64 t, .int .i64 m, .int .i64 s], .pointer (some ⟨w.heap.size, 0, none⟩), .slice none 0 0, .pointer (some ⟨w.heap.size + 1, 0, none⟩), .int .i64 x, .agg #[.int .i64 t, .int .i64 m, .int .i64 s], .func (.func 44) #[] #[.pointer (some ⟨w.heap.size + 1 + 1, 0, none⟩)], .int .i64 x, undef, undef, undef, undef, undef], defers := [] }) ?assign ?body ?done ?stop
  case assign =>
    intro l x W K hK
    gi_wp2
    exact hK
  case body =>
    rintro l pre x W ⟨⟨⟨v, hv, hrow, _⟩, hk0⟩, hB⟩ hlt
    have HK0 := Aside0.mk hk0
    clear hk0 hbk
    have hc := hv.cell
    gi_wp2_with (gi_at_builtin; refine wpListIn_append_own _ rfl _ _ 32 rfl w.heap.size 2 i0 (.int .i64 0) 1 8 Try.underlying32 hi hz0 hz1 hz2 rfl (by decide) _ _ _ rfl (hrow.alloc _) ⟨W.heap.size, 0, none⟩ 1 1 [.int .i64 x] rfl rfl (cell_one_new _ _ _) (by simp [Value.oneCell']) (by unfold maxLen; omega) (by omega) (by have := hB.size; simp; omega) ?_; intro v' w1 hown' hgrow _; obtain ⟨g', cap', rfl⟩ := ownsRow_succ hown'; obtain ⟨hv1, hv2, hr2, hk2, hb2⟩ := hv.appended (by decide) hrow hB.size (Nat.le_succ _) hown' hgrow; have hc1 := hv1.cell; have hf1 := hv1.frozen)
    have hk3 := blk_far (blk_grown (blk_alloc HK0.out (.cells #[.int .i64 x] 2)) hgrow (own_ne (hrow.alloc (.cells #[.int .i64 x] 2)) (blk_alloc HK0.out _) (by decide))) (p := ⟨w.heap.size + 1, 0, none⟩) (by simp) (.slice (some ⟨g', 0, none⟩) (pre.length + 1) cap')
    exact ⟨hk2.from _, fun _ => hk3, ⟨⟨_, hv2, by simpa using hr2, trivial⟩, hk3⟩, hB.trans hb2⟩
  case done =>
    rintro D ys W hD rfl ⟨⟨⟨v, hv, hrow, _⟩, _⟩, hB⟩ hK
    clear hbk
    have hc := hv.cell
    gi_wp2
    refine ⟨by simp, .inl ⟨_, _, rfl, run_takeDeferred hK, ?_⟩⟩
    exact ⟨_, results_tmp rfl _ _ _, v, rfl, ownsRow_putObj hrow _ hK rfl, hB.trans (belowK_b (w := w) (Nat.le_refl _) W D _ _ (by simp at hD; omega) hK rfl rfl)⟩
  case stop =>
    rintro D c pre W _ _ h _
    exact h.elim

theorem all_calls (t m s : Int) (hf : Fits t m s) (w : World) :
    Calls Try.prog 31 #[.agg #[.int .i64 t, .int .i64 m, .int .i64 s]] w fun e w' => ∃ v0_ : Value, e = .returned v0_ ∧ Kd.R (Kd.int .i64) 2 w' w.heap.size (fun _ => True) v0_ (way t m s) ∧ Below w.heap.size w w' := by
  refine (callsIn_wide (n := 3)).1 ?_
  refine (all_in _ 3 trivial trivial trivial rfl (by omega) t m s hf w).mono ?_
  rintro e w' ⟨v, rfl, ho, hb⟩
  exact ⟨v, rfl, Kd.R_of_own ho (fun _ _ => trivial), hb⟩
end Go.Proofs.Ytnhnckhkfdoadaa.Hw
