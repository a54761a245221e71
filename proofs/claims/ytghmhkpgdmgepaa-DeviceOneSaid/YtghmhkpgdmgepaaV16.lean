import Derived.Test.YtghmhkpgdmgepaaV15
/-! The V engine, 16: rows that are made, cut and appended to. -/
set_option linter.unusedVariables false
set_option linter.unusedSimpArgs false
namespace Go.Proofs.YtghmhkpgdmgepaaV
open Go Go.RowKit

section
variable {P : Program} {F : Nat → Prop} {s s' : St} {G : Gm} {a : Act} {w : World} {o : Oper} {v : AV} {vals : List Value}

theorem elemTy_some {e : Nat} {t : Ty} (h : elemTy P e = some t) : ∃ i z, P.info? e = some i ∧ i.zero = some z ∧ i.size = t.size ∧ z.cells.size = t.size ∧ 0 < t.size := by
  unfold elemTy at h
  obtain ⟨t', _, h2⟩ := Option.bind_eq_some_iff.1 h
  split at h2
  · rename_i hc
    cases h2
    obtain ⟨h3, h4, h5⟩ := hc
    unfold sizeT at h3
    obtain ⟨i, hi, h6⟩ := Option.map_eq_some_iff.1 h3
    unfold zeroSize at h5
    obtain ⟨z, hz, h7⟩ := Option.map_eq_some_iff.1 h5
    rw [hi] at hz
    exact ⟨i, z, hi, hz, h6, h7, h4⟩
  · cases h2
theorem elemOfSl_some {t e : Nat} (h : elemOfSl P t = some e) : P.underlying t = some (.slice e) := by
  unfold elemOfSl at h
  split at h
  · cases h; assumption
  · cases h

theorem datum_rep (h : Holds F s G vals w) (ms : List Nat) {t : Ty} {ls : List L} {x : t.den} {vs : List Value} (hd : datum s t ls = some x) (hv : All2 (HR F s G w) ls vs) (hm : ∀ m ∈ ownsOf ls, m ∈ ms) :
    All2 (RepL w (okS F (frzAll s ms) G w)) (flat t x) vs := by
  unfold datum at hd
  obtain ⟨ps, hps, h2⟩ := Option.bind_eq_some_iff.1 hd
  obtain ⟨⟨y, r⟩, hy, h3⟩ := Option.bind_eq_some_iff.1 h2
  split at h3
  · rename_i he
    cases h3
    have hr : r = [] := by simpa using he
    subst hr
    have := unflat_some hy
    rw [List.append_nil] at this
    rw [← this]
    exact plsOf_rep h ms _ _ _ _ hps hv hm
  · cases h3

/-- Cells that repeat. -/
theorem repeat_cells (z : Array Value) (n : Nat) (hz : 0 < z.size) : ((List.range (n * z.size)).map fun i => z[i % z.size]!) = (List.replicate n z.toList).flatten := by
  induction n with
  | zero => simp
  | succ n ih =>
    rw [Nat.succ_mul, Nat.add_comm, List.range_add, List.map_append, List.replicate_succ, List.flatten_cons, ← ih, List.map_map]
    congr 1
    · apply List.ext_getElem
      · simp
      · intro i h1 h2
        have h3 : i < z.size := by simpa using h1
        simp [Nat.mod_eq_of_lt h3, h3]
    · apply List.map_congr_left
      intro i _
      simp
theorem rep_replicate {ok : Nat → Prop} {t : Ty} {x : t.den} {cs : List Value} (h : All2 (RepL w ok) (flat t x) cs) : ∀ n : Nat, RepRow w ok t (List.replicate n x) (List.replicate n cs).flatten
  | 0 => .nil
  | n + 1 => by
    unfold RepRow
    rw [List.replicate_succ, List.flatMap_cons, List.replicate_succ, List.flatten_cons]
    exact h.app (rep_replicate h n)

theorem alloc_owns {e : Nat} {t : Ty} {xs : List t.den} {cells : Array Value} {n : Nat} (hn : xs.length = n) (hc : cells.size = n * t.size) (hm : n ≤ maxLen) :
    (w.alloc (.cells cells e)).ownsRow 0 e t.size (.slice (some ⟨w.heap.size, 0, none⟩) n n) xs.length cells.toList := by
  subst hn
  exact ⟨by simpa using hc, .inr ⟨w.heap.size, _, cells, rfl, Nat.zero_le _, heap_alloc_new w _, Nat.le_refl _, hm, hc, by rw [List.take_of_length_le]; simp; omega⟩⟩

theorem e_make (h : Holds F s G a.tmps.toList w) {t e d : Nat} {x y : Operand} (ho : o.op = .makeSlice t x y) (hd : o.dst = some d) (he : elemOfSl P t = some e) {n m : Int} (hn : int1 (s.get x) = some n) (hm : int1 (s.get y) = some m)
    {te : Ty} (hte : elemTy P e = some te) {z : List L} (hz : zeroLs P e = some z) {q : te.den} (hq : datum s te z = some q)
    (hc : (decide (0 ≤ n) && decide (n = m) && decide ((bytesT P e : Int) * n ≤ 140737488355328) && decide (n ≤ 9223372036854775807)) = true)
    (hv : (addOwn s d ⟨e, te, List.replicate n.toNat q⟩).val = some s') : EOK P F s G a w o s' := by
  obtain ⟨hf, rfl⟩ := addOwn_some hv
  obtain ⟨i, zv, hi, hzv, hs1, hs2, hs3⟩ := elemTy_some hte
  obtain ⟨i', zv', hi', hzv', rfl, hone⟩ := zeroLs_holds hz
  rw [hi] at hi'
  cases hi'
  rw [hzv] at hzv'
  cases hzv'
  simp only [Bool.and_eq_true, decide_eq_true_eq] at hc
  obtain ⟨⟨⟨c1, rfl⟩, c3⟩, c4⟩ := hc
  obtain ⟨kx, ex, _⟩ := int1_eval h hn
  obtain ⟨ky, ey, _⟩ := int1_eval h hm
  have hb : bytesT P e = i.bytes := by simp [bytesT, hi]
  rw [hb] at c3
  have hrun := run_make (P := P) w t e i zv (elemOfSl_some he) hi hzv kx ky n n c1 (Int.le_refl _) (by omega) c4
  have hrep := datum_rep h [] hq (constLs_holds (fun u hu => constL_holds u hu) _ hone) (fun m hm => by
    exfalso
    have : ∀ l : List Value, ownsOf (l.map constL) = [] := by
      intro l
      induction l with
      | nil => rfl
      | cons u l ih =>
        simp only [List.map_cons]
        have : ∀ k, constL u ≠ .own k := fun k e => by have := constL_noO k u; rw [e] at this; simp [L.noO] at this
        unfold ownsOf
        split
        · rename_i e; cases e
        · rename_i k r e; injection e with e1 e2; exact absurd e1 (this k)
        · rename_i r e1 e2; injection e2 with e3 e4; subst e4; exact ih
    rw [this] at hm
    cases hm)
  have hcells : (madeCells zv.cells (n.toNat * i.size)).toList = (List.replicate n.toNat zv.cells.toList).flatten := by
    rw [← repeat_cells _ _ (by omega), hs2, ← hs1]
    simp [madeCells]
    try (intro a _; rw [show zv.cells.size = i.size by omega])
  have hsz : (madeCells zv.cells (n.toNat * i.size)).size = n.toNat * te.size := by rw [size_madeCells, hs1]
  have hmx : n.toNat ≤ maxLen := by unfold maxLen; omega
  obtain ⟨h2, h3⟩ := newOwn h none (n := N0 + d) (o := ⟨e, te, List.replicate n.toNat q⟩) hf (by omega) (w' := w.alloc (.cells (madeCells zv.cells (n.toNat * i.size)) e)) hs3
    ⟨rfl, rfl, rfl, by simp, fun k hk _ => (Grew.alloc w _).block hk⟩ (v' := .slice (some ⟨w.heap.size, 0, none⟩) n.toNat n.toNat) (fun k hk => .inr (by simp [Value.ownBlock] at hk; omega))
    (alloc_owns (by simp) hsz hmx) (by rw [hcells]; exact rep_replicate hrep _) rfl (some d)
  rw [← hd] at h2 h3 ⊢
  refine .value (u := .slice (some ⟨w.heap.size, 0, none⟩) n.toNat n.toNat) ?_ h2 h3
  simp [execOp, ho, ex, ey, hrun]

theorem fill_rows {ok : Nat → Prop} (t : Ty) (h : Holds F s G vals w) (ms : List Nat) : ∀ (q : List (Nat × List L)) (vs : List (Nat × Value)) (xs ys : List t.den) (cs : Array Value),
    All2 (fun x y => x.1 = y.1 ∧ All2 (HR F s G w) x.2 y.2.cells.toList) q vs → (∀ m ∈ q.flatMap (fun x => ownsOf x.2), m ∈ ms) → RepRow w (okS F (frzAll s ms) G w) t xs cs.toList → partElems s t q xs = some ys →
    ∃ cs', Instr.fill (fun i => some (i * t.size, t.size)) cs vs = some cs' ∧ RepRow w (okS F (frzAll s ms) G w) t ys cs'.toList ∧ ys.length = xs.length
  | [], _, xs, ys, cs, h1, _, h3, h4 => by cases h1; cases h4; exact ⟨cs, rfl, h3, rfl⟩
  | (i, ls) :: q, _, xs, ys, cs, h1, h2, h3, h4 => by
    cases h1 with
    | cons h5 h6 =>
      rename_i y vs
      obtain ⟨i', v⟩ := y
      obtain ⟨rfl, h7⟩ := h5
      simp only [partElems] at h4
      split at h4
      · rename_i hi
        obtain ⟨x, hx, h8⟩ := Option.bind_eq_some_iff.1 h4
        have hrep := datum_rep h ms hx h7 (fun m hm => h2 m (by simp [hm]))
        have hlen : v.cells.toList.length = t.size := by rw [← hrep.len, flat_len]
        have hcl := h3.len
        have hb : i * t.size + t.size ≤ cs.size := by
          have h9 : (i + 1) * t.size ≤ xs.length * t.size := Nat.mul_le_mul_right _ hi
          rw [Nat.succ_mul] at h9
          rw [Array.length_toList] at hcl
          omega
        have h10 : v.cells.zipIdx.foldl (fun cs (c, j) => cs.setIfInBounds (i * t.size + j) c) cs = (cs.toList.take (i * t.size) ++ v.cells.toList ++ cs.toList.drop (i * t.size + v.cells.toList.length)).toArray := by
          have := fold_set v.cells.toList (i * t.size) 0 cs (by rw [hlen]; omega)
          rw [← Array.toList_inj]
          rw [← Array.foldl_toList, Array.toList_zipIdx]
          simpa using this
        have hget : xs[i]? = some xs[i] := List.getElem?_eq_getElem hi
        obtain ⟨A, B, f1, f2, f3⟩ := flatMap_set hget
        have h11 : RepRow w (okS F (frzAll s ms) G w) t (xs.set i x) (cs.toList.take (i * t.size) ++ v.cells.toList ++ cs.toList.drop (i * t.size + v.cells.toList.length)) := by
          unfold RepRow at h3 ⊢
          rw [f3]
          have g1 := All2.take h3 (i * t.size)
          have g2 := All2.drop h3 (i * t.size + v.cells.toList.length)
          rw [f1, List.append_assoc, ← f2, List.take_left] at g1
          rw [f1, ← f2, hlen, List.drop_left' (by rw [List.length_append, flat_len])] at g2
          rw [f2] at g1 g2
          rw [hlen]
          exact (g1.app hrep).app g2
        obtain ⟨cs', hfill, g3, g4⟩ := fill_rows (ok := ok) t h ms q vs (xs.set i x) ys _ h6 (fun m hm => h2 m (by simp only [List.flatMap_cons, List.mem_append]; exact .inr hm)) (by simpa using h11) h8
        refine ⟨cs', ?_, g3, by simpa using g4⟩
        simp only [Instr.fill]
        rw [if_neg, h10]
        · simpa using hfill
        · rw [Array.length_toList] at hlen
          simp only [ne_eq, Bool.or_eq_true, decide_eq_true_eq, not_or, Decidable.not_not]
          constructor <;> omega
      · cases h4

theorem frzAll_fresh (ms : List Nat) : ∀ {s : St}, (frzAll s ms).owns.length = s.owns.length := by
  induction ms with
  | nil => intro s; rfl
  | cons m ms ih =>
    intro s
    rw [frzAll, ih]
    unfold frz
    split
    · simp [setOwn, St.map]
    · rfl

theorem e_build (h : Holds F s G a.tmps.toList w) {t e d len : Nat} {ps : Array (Nat × Operand)} (ho : o.op = .buildSlice t len ps) (hd : o.dst = some d) (he : elemOfSl P t = some e)
    {te : Ty} (hte : elemTy P e = some te) {z : List L} (hz : zeroLs P e = some z) {x : te.den} (hx : datum s te z = some x) {q : List (Nat × List L)} (hq : partsOf s ps.toList = some q) {xs : List te.den} (hxs : partElems s te q (List.replicate len x) = some xs)
    (hl : len * te.size ≤ 16777216) (hv : (addOwn (frzAll s (q.flatMap fun x => ownsOf x.2)) d ⟨e, te, xs⟩).val = some s') : EOK P F s G a w o s' := by
  obtain ⟨hf, rfl⟩ := addOwn_some hv
  obtain ⟨i, zv, hi, hzv, hs1, hs2, hs3⟩ := elemTy_some hte
  obtain ⟨i', zv', hi', hzv', rfl, hone⟩ := zeroLs_holds hz
  rw [hi] at hi'
  cases hi'
  rw [hzv] at hzv'
  cases hzv'
  have hz2 := datum_rep h (q.flatMap fun x => ownsOf x.2) hx (constLs_holds (fun u hu => constL_holds u hu) _ hone) (fun m hm => by
    exfalso
    have : ∀ l : List Value, ownsOf (l.map constL) = [] := by
      intro l
      induction l with
      | nil => rfl
      | cons u l ih =>
        simp only [List.map_cons]
        have : ∀ k, constL u ≠ .own k := fun k e => by have := constL_noO k u; rw [e] at this; simp [L.noO] at this
        unfold ownsOf
        split
        · rename_i e; cases e
        · rename_i k r e; injection e with e1 e2; exact absurd e1 (this k)
        · rename_i r e1 e2; injection e2 with e3 e4; subst e4; exact ih
    rw [this] at hm
    cases hm)
  have hzero : RepRow w (okS F (frzAll s (q.flatMap fun x => ownsOf x.2)) G w) te (List.replicate len x) ((Array.range (len * i.size)).map (zv.cells[· % zv.cells.size]!)).toList := by
    have := rep_replicate hz2 len
    rw [← repeat_cells _ _ (by omega), hs2, ← hs1] at this
    rw [hs2, ← hs1]
    simpa using this
  obtain ⟨cs, hfill, hrow, hlen⟩ := fill_rows (ok := fun _ => True) te h _ q _ (List.replicate len x) xs _ (parts_holds h ps.toList q hq) (fun m hm => hm) hzero hxs
  rw [List.length_replicate] at hlen
  have hcs : cs.size = len * te.size := by have := hrow.len; rw [hlen, Array.length_toList] at this; exact this
  have h' := frzAll_holds (q.flatMap fun x => ownsOf x.2) h
  obtain ⟨h2, h3⟩ := newOwn h' none (n := N0 + d) (o := ⟨e, te, xs⟩) hf (by omega) (w' := w.alloc (.cells cs e)) hs3
    ⟨rfl, rfl, rfl, by simp, fun k hk _ => (Grew.alloc w _).block hk⟩ (v' := .slice (some ⟨w.heap.size, 0, none⟩) len len) (fun k hk => .inr (by simp [Value.ownBlock] at hk; omega))
    (alloc_owns hlen hcs (by unfold maxLen; have := Nat.le_mul_of_pos_right len hs3; omega)) hrow rfl (some d)
  rw [← hd] at h2 h3 ⊢
  refine .value (u := .slice (some ⟨w.heap.size, 0, none⟩) len len) ?_ h2 ((frzAll_step _ _ _ h).trans h3)
  have e1 : (ps.map fun (x : Nat × Operand) => (x.1, a.eval x.2)).toList = ps.toList.map fun (x : Nat × Operand) => (x.1, a.eval x.2) := by simp
  rw [← hs1] at hfill hl
  by_cases h0 : len * i.size = 0
  · have hl0 : len = 0 := by
      rcases Nat.mul_eq_zero.1 h0 with h0 | h0
      · exact h0
      · omega
    subst hl0
    have e0 : ∀ f : Nat → Value, (Array.range (0 * i.size)).map f = #[] := fun f => by rw [Nat.zero_mul, ← Array.toList_inj]; simp
    rw [e0] at hfill
    simp [execOp, ho, Instr.buildSlice, run_underlying (elemOfSl_some he), sizeOf, typeInfo, hi, newRow, e1, -Array.toList_map, Array.range_zero']
    rw [hfill]
    rfl
  · have hrun := run_buildSlice (P := P) w t e len (ps.map fun (x : Nat × Operand) => (x.1, a.eval x.2)) cs i zv (elemOfSl_some he) hi hzv (by omega) h0 (by rw [e1]; exact hfill)
    simp only [execOp, ho, Sem.run_bind]
    rw [hrun]
    rfl

end
end Go.Proofs.YtghmhkpgdmgepaaV
