import Derived.Test.YtghmhkpgdmgepaaDevQ
/-! Device: walks to timings, as they are read. -/
set_option linter.unusedVariables false
set_option linter.unusedSimpArgs false
namespace Go.Proofs.YtghmhkpgdmgepaaV
open Go Go.RowKit

theorem num2E {x y : Int} (hx : 0 ≤ x) (hy : 0 ≤ y) : numE [x, y] = some (vi x.toNat ++ vi y.toNat) := by
  simp [numE, show ¬ x < 0 by omega, show ¬ y < 0 by omega]
theorem num3E {x y z : Int} (hx : 0 ≤ x) (hy : 0 ≤ y) (hz : 0 ≤ z) : numE [x, y, z] = some (vi x.toNat ++ (vi y.toNat ++ vi z.toNat)) := by
  simp [numE, show ¬ x < 0 by omega, show ¬ y < 0 by omega, show ¬ z < 0 by omega]
theorem i64_of {x : Int} (h : 0 ≤ x) (h2 : x ≤ 9223372036854775807) : I64 x := ⟨by omega, h2⟩
theorem len_ml {l : List Int} (h : l.length ≤ 24) : l.length ≤ maxLen := by simp only [maxLen]; omega

def WalkS (b : List Int) (i : Nat) (o : List Int × Int × Int × List Int × Int) : Prop := ∃ j : Nat, o.2.2.2.1 = b ∧ o.2.2.2.2 = (j : Int) ∧ i ≤ j ∧ j ≤ b.length ∧ walkE (o.1, (o.2.1, (o.2.2.1, ()))) = some (seg b i j) ∧ OkW (o.1, (o.2.1, (o.2.2.1, ())))
theorem walk_g (K : Nat) (hK : 100 ≤ K) (b : List Int) (hb : Bytes b) (i : Nat) (hi : i ≤ b.length) : Good (c47 K (b, (i : Int))) b.length (WalkS b i) := by
  unfold c47
  rw [f47_e, f47_t]
  refine Good.bind (name_g K hK b hb i hi) fun o1 ho1 => ?_
  obtain ⟨j1, a1, a2, a3, a4, a5⟩ := ho1
  rw [a1]
  refine Good.bind (num_g K hK b hb j1 a3) fun o2 ho2 => ?_
  obtain ⟨j2, b1, b2, b3, b4, b5, b6⟩ := ho2
  rw [b1]
  refine Good.bind (num_g K hK b hb j2 b3) fun o3 ho3 => ?_
  obtain ⟨j3, d1, d2, d3, d4, d5, d6⟩ := ho3
  refine .ok ⟨j3, by rw [d1], by rw [d1], by omega, d3, ?_, len_ml a5, i64_of b4 b5, i64_of d4 d5⟩
  unfold walkE
  simp only []
  rw [a4, num2E b4 d4, app2_some, b6, d6, seg_app b2 d2 d3, seg_app a2 (by omega) d3]

theorem walks_g (K : Nat) (hK : 100 ≤ K) (b : List Int) (hb : Bytes b) (i : Nat) (hi : i ≤ b.length) : Good (c46 K (8, b, (i : Int))) b.length (TakeS walkE OkW 8 b i) := by
  unfold c46
  rw [f46_e, f46_t]
  exact take_g K hK b hb 8 (by omega) 32 (by omega) walkE OkW (fun j c t d p acc => f46_l3 K (c34 K) (c47 K) j c t d p acc) (fun d p => c47 K (d, p)) (fun o => (o.1, (o.2.1, (o.2.2.1, ())))) (fun o => o.2.2.2.1) (fun o => o.2.2.2.2)
    (fun j c t d p acc => by rw [f46_el3, f46_tl3]) (fun i hi => by
      have := walk_g K hK b hb i hi
      exact this) i hi

def SlotS (b : List Int) (i : Nat) (o : List Int × Int × Int × Int × List Int × Int × List YT0) : Prop := ∃ j : Nat, o.2.2.2.2.1 = b ∧ o.2.2.2.2.2.1 = (j : Int) ∧ i ≤ j ∧ j ≤ b.length ∧ slotE (o.1, (o.2.1, (o.2.2.1, (o.2.2.2.1, (o.2.2.2.2.2.2, ()))))) = some (seg b i j) ∧ OkS (o.1, (o.2.1, (o.2.2.1, (o.2.2.2.1, (o.2.2.2.2.2.2, ())))))
theorem slot_g (K : Nat) (hK : 100 ≤ K) (b : List Int) (hb : Bytes b) (i : Nat) (hi : i ≤ b.length) : Good (c45 K (b, (i : Int))) b.length (SlotS b i) := by
  unfold c45
  rw [f45_e, f45_t]
  refine Good.bind (name_g K hK b hb i hi) fun o1 ho1 => ?_
  obtain ⟨j1, a1, a2, a3, a4, a5⟩ := ho1
  rw [a1]
  refine Good.bind (num_g K hK b hb j1 a3) fun o2 ho2 => ?_
  obtain ⟨j2, b1, b2, b3, b4, b5, b6⟩ := ho2
  rw [b1]
  refine Good.bind (num_g K hK b hb j2 b3) fun o3 ho3 => ?_
  obtain ⟨j3, d1, d2, d3, d4, d5, d6⟩ := ho3
  rw [d1]
  refine Good.bind (num_g K hK b hb j3 d3) fun o4 ho4 => ?_
  obtain ⟨j4, e1, e2, e3, e4, e5, e6⟩ := ho4
  rw [e1]
  refine Good.bind (walks_g K hK b hb j4 e3) fun o5 ho5 => ?_
  obtain ⟨j5, g1, g2, g3, g4, g5, g6⟩ := ho5
  refine .ok ⟨j5, g1, g2, by omega, g4, ?_, len_ml a5, i64_of b4 b5, i64_of d4 d5, i64_of e4 e5, g6⟩
  unfold slotE
  simp only []
  rw [a4, num3E b4 d4 e4, g5, app2_some, app2_some, b6, d6, e6, seg_app d2 e2 e3, seg_app b2 (by omega) e3, seg_app (by omega) g3 g4, seg_app a2 (by omega) g4]

def RingS (b : List Int) (i : Nat) (o : List Int × Int × List YT1) : Prop := ∃ j : Nat, o.1 = b ∧ o.2.1 = (j : Int) ∧ i ≤ j ∧ j ≤ b.length ∧ ringE o.2.2 = some (seg b i j) ∧ OkR o.2.2
theorem ring_g (K : Nat) (hK : 100 ≤ K) (b : List Int) (hb : Bytes b) (i : Nat) (hi : i ≤ b.length) : Good (c41 K (b, (i : Int))) b.length (RingS b i) := by
  have h : Good (c44 K (4, b, (i : Int))) b.length (TakeS slotE OkS 4 b i) := by
    unfold c44
    rw [f44_e, f44_t]
    exact take_g K hK b hb 4 (by omega) 64 (by omega) slotE OkS (fun j c t d p acc => f44_l3 K (c34 K) (c45 K) j c t d p acc) (fun d p => c45 K (d, p)) (fun o => (o.1, (o.2.1, (o.2.2.1, (o.2.2.2.1, (o.2.2.2.2.2.2, ())))))) (fun o => o.2.2.2.2.1) (fun o => o.2.2.2.2.2.1)
      (fun j c t d p acc => by rw [f44_el3, f44_tl3]) (fun i hi => slot_g K hK b hb i hi) i hi
  unfold c41
  rw [f41_e, f41_t]
  refine Good.bind h fun o ho => ?_
  exact .ok ho
def SpanS (b : List Int) (i : Nat) (o : List Int × Int × List (List YT1)) : Prop := ∃ j : Nat, o.1 = b ∧ o.2.1 = (j : Int) ∧ i ≤ j ∧ j ≤ b.length ∧ spanE (o.2.2, ()) = some (seg b i j) ∧ OkP (o.2.2, ())
theorem span_g (K : Nat) (hK : 100 ≤ K) (b : List Int) (hb : Bytes b) (i : Nat) (hi : i ≤ b.length) : Good (c37 K (b, (i : Int))) b.length (SpanS b i) := by
  have h : Good (c40 K (2, b, (i : Int))) b.length (TakeS ringE OkR 2 b i) := by
    unfold c40
    rw [f40_e, f40_t]
    exact take_g K hK b hb 2 (by omega) 24 (by omega) ringE OkR (fun j c t d p acc => f40_l3 K (c34 K) (c41 K) j c t d p acc) (fun d p => c41 K (d, p)) (fun o => o.2.2) (fun o => o.1) (fun o => o.2.1)
      (fun j c t d p acc => by rw [f40_el3, f40_tl3]) (fun i hi => ring_g K hK b hb i hi) i hi
  unfold c37
  rw [f37_e, f37_t]
  refine Good.bind h fun o ho => ?_
  exact .ok ho
theorem spans_g (K : Nat) (hK : 100 ≤ K) (b : List Int) (hb : Bytes b) (i : Nat) (hi : i ≤ b.length) : Good (c36 K (4, b, (i : Int))) b.length (TakeS spanE OkP 4 b i) := by
  unfold c36
  rw [f36_e, f36_t]
  exact take_g K hK b hb 4 (by omega) 24 (by omega) spanE OkP (fun j c t d p acc => f36_l3 K (c34 K) (c37 K) j c t d p acc) (fun d p => c37 K (d, p)) (fun o => (o.2.2, ())) (fun o => o.1) (fun o => o.2.1)
    (fun j c t d p acc => by rw [f36_el3, f36_tl3]) (fun i hi => span_g K hK b hb i hi) i hi

def TimingS (b : List Int) (i : Nat) (o : List Int × Int × Int × Int × List Int × Int × List ((List (List YT1)) × Unit)) : Prop := ∃ j : Nat, o.2.2.2.2.1 = b ∧ o.2.2.2.2.2.1 = (j : Int) ∧ i ≤ j ∧ j ≤ b.length ∧ timingE (o.1, (o.2.1, (o.2.2.2.2.2.2, ((o.2.2.1, (o.2.2.2.1, ())), ())))) = some (seg b i j) ∧ OkT (o.1, (o.2.1, (o.2.2.2.2.2.2, ((o.2.2.1, (o.2.2.2.1, ())), ()))))
theorem timing_g (K : Nat) (hK : 100 ≤ K) (b : List Int) (hb : Bytes b) (i : Nat) (hi : i ≤ b.length) : Good (c29 K (b, (i : Int))) b.length (TimingS b i) := by
  unfold c29
  rw [f29_e, f29_t]
  refine Good.bind (name_g K hK b hb i hi) fun o1 ho1 => ?_
  obtain ⟨j1, a1, a2, a3, a4, a5⟩ := ho1
  rw [a1]
  refine Good.bind (num_g K hK b hb j1 a3) fun o2 ho2 => ?_
  obtain ⟨j2, b1, b2, b3, b4, b5, b6⟩ := ho2
  rw [b1]
  refine Good.bind (num_g K hK b hb j2 b3) fun o3 ho3 => ?_
  obtain ⟨j3, d1, d2, d3, d4, d5, d6⟩ := ho3
  rw [d1]
  refine Good.bind (num_g K hK b hb j3 d3) fun o4 ho4 => ?_
  obtain ⟨j4, e1, e2, e3, e4, e5, e6⟩ := ho4
  rw [e1]
  refine Good.bind (spans_g K hK b hb j4 e3) fun o5 ho5 => ?_
  obtain ⟨j5, g1, g2, g3, g4, g5, g6⟩ := ho5
  refine .ok ⟨j5, g1, g2, by omega, g4, ?_, len_ml a5, i64_of b4 b5, i64_of d4 d5, i64_of e4 e5, g6⟩
  unfold timingE
  simp only []
  rw [a4, num3E b4 d4 e4, g5, app2_some, app2_some, b6, d6, e6, seg_app d2 e2 e3, seg_app b2 (by omega) e3, seg_app (by omega) g3 g4, seg_app a2 (by omega) g4]
theorem timings_g (K : Nat) (hK : 100 ≤ K) (b : List Int) (hb : Bytes b) (i : Nat) (hi : i ≤ b.length) : Good (c28 K (12, b, (i : Int))) b.length (TakeS timingE OkT 12 b i) := by
  unfold c28
  rw [f28_e, f28_t]
  exact take_g K hK b hb 12 (by omega) 64 (by omega) timingE OkT (fun j c t d p acc => f28_l3 K (c34 K) (c29 K) j c t d p acc) (fun d p => c29 K (d, p)) (fun o => (o.1, (o.2.1, (o.2.2.2.2.2.2, ((o.2.2.1, (o.2.2.2.1, ())), ()))))) (fun o => o.2.2.2.2.1) (fun o => o.2.2.2.2.2.1)
    (fun j c t d p acc => by rw [f28_el3, f28_tl3]) (fun i hi => timing_g K hK b hb i hi) i hi
end Go.Proofs.YtghmhkpgdmgepaaV
