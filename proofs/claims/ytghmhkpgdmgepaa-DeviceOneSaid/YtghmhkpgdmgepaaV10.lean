import Derived.Test.YtghmhkpgdmgepaaV9
/-! The V engine, 10: values that are worked out: conversions, fields, elements, cuts. -/
set_option linter.unusedVariables false
set_option linter.unusedSimpArgs false
namespace Go.Proofs.YtghmhkpgdmgepaaV
open Go Go.RowKit

section
variable {P : Program} {F : Nat → Prop} {s : St} {G : Gm} {a : Act} {w : World} {o : Oper} {v : AV} {vals : List Value}

theorem uOf {e : Nat} (h : isU8 P e = true) : P.underlying e = some (.int .u8) := by
  unfold isU8 at h
  split at h
  · assumption
  · cases h

theorem wf_u8 (b : UInt8) : (Lit.int .u8 (b.toNat : Int)).wf = true := by
  rw [wf_bounds]
  have := b.toNat_lt
  simp [IntKind.min, IntKind.max, IntKind.signed, IntKind.bits]
  omega
/-- A block that is made now is no box's and no row's. -/
theorem ok_new (h : Holds F s G vals w) {w' : World} (hs : w.heap.size < w'.heap.size) : okS F s G w' w.heap.size :=
  ⟨hs, fun hF => Nat.lt_irrefl _ (h.Flt _ hF), fun hL => Nat.lt_irrefl _ (h.lt hL)⟩

theorem toBytes_sound (h : Holds F s G a.tmps.toList w) {src dst e : Nat} (hs : P.underlying src = some .string) (hd : P.underlying dst = some (.slice e)) (he : P.underlying e = some (.int .u8)) (y : ByteArray) (hy : y.size ≤ maxLen) :
    ∃ u w', (convert src dst (.string y)).run P w = .ok u w' ∧ Grew w w' ∧ HR F s G w' (pvL (.int .u8) (bs y)) u := by
  refine ⟨_, _, run_bytes_of_string w src dst e y hs hd he, (Grew.drew w).trans (Grew.alloc _ _), ?_⟩
  have hcap : y.size ≤ grownCap w y.size 0 e := grownCap_ge w y.size 0 e
  have hm : grownCap w y.size 0 e ≤ maxLen := grownCap_le_maxLen w y.size 0 e hy
  have hl : (bs y).length = y.size := bs_len y
  refine rep_slice_mk' (e := .int .u8) (w := w.drew.alloc (.cells (bytesRow y (grownCap w y.size 0 e)) e ((bytesRow y (grownCap w y.size 0 e)).size, (bytesRow y (grownCap w y.size 0 e)).size + 1)))
    (ok := okS F s G (w.drew.alloc (.cells (bytesRow y (grownCap w y.size 0 e)) e ((bytesRow y (grownCap w y.size 0 e)).size, (bytesRow y (grownCap w y.size 0 e)).size + 1))))
    (xs := bs y) (cs := (bs y).map (Value.int .u8)) (a := ⟨w.heap.size, 0, none⟩) (c := grownCap w y.size 0 e) ?_ ?_ rfl (ok_new h (by simp)) hl hcap hm
  · unfold RepRow
    have : ∀ l : List UInt8, All2 (RepL (w.drew.alloc (.cells (bytesRow y (grownCap w y.size 0 e)) e ((bytesRow y (grownCap w y.size 0 e)).size, (bytesRow y (grownCap w y.size 0 e)).size + 1)))
      (okS F s G (w.drew.alloc (.cells (bytesRow y (grownCap w y.size 0 e)) e ((bytesRow y (grownCap w y.size 0 e)).size, (bytesRow y (grownCap w y.size 0 e)).size + 1)))))
      ((l.map fun b => (b.toNat : Int)).flatMap (flat (.int .u8))) ((l.map fun b => (b.toNat : Int)).map (Value.int .u8)) := by
      intro l
      induction l with
      | nil => exact .nil
      | cons b l ih =>
        exact .cons ⟨rfl, wf_u8 b⟩ ih
    exact this y.data.toList
  · intro j u hj
    have hb := cells_block (w := w.drew.alloc (.cells (bytesRow y (grownCap w y.size 0 e)) e ((bytesRow y (grownCap w y.size 0 e)).size, (bytesRow y (grownCap w y.size 0 e)).size + 1))) (heap_alloc_new w.drew _) 0
    simp only [List.drop_zero] at hb
    refine hb j u ?_
    unfold bytesRow
    simp only [Array.toList_append, Array.toList_map, Array.toList_replicate]
    have hj2 : j < (bs y).length := by have := (List.getElem?_eq_some_iff.1 hj).1; simpa using this
    have e1 : (List.map (fun b => Value.int .u8 (b.toNat : Int)) y.data.toList) = (bs y).map (Value.int .u8) := by simp [bs]
    rw [List.getElem?_append_left (by simpa [bs] using hj2)]
    first | (rw [e1]; exact hj) | (simpa [bs] using hj)

theorem v_convert (h : Holds F s G a.tmps.toList w) {t1 t2 : Nat} {x : Operand} (ho : o.op = .convert t1 t2 x) (hv : (opV P s (.convert t1 t2 x)).val = some v) : VOK P F s G a w o v := by
  simp only [opV] at hv
  split at hv
  · rename_i k k' n h1 h2 h3
    cases hv
    obtain ⟨e, hw⟩ := pvInt (leaf_holds h h3)
    exact .same (u := .int k (k.wrap n)) (by simp [execOp, ho, e, convert, run_underlying h1, run_underlying h2, Conv.intToInt]) ⟨rfl, wf_wrap _ _⟩
  · rename_i q h1 h2 h3
    cases hv
    obtain ⟨y, e, rfl, hy⟩ := pvStr (leaf_holds h h3)
    exact .same (u := .string y) (by simp [execOp, ho, e, convert, run_underlying h1, run_underlying h2]) ⟨y, rfl, rfl, hy⟩
  · rename_i e q h1 h2 h3
    split at hv
    · rename_i h4
      cases hv
      obtain ⟨y, hr, rfl, hy⟩ := run_toString h1 (uOf h4) h2 (leaf_holds h h3)
      exact .same (u := .string y) (by simp [execOp, ho, hr]) ⟨y, rfl, rfl, hy⟩
    · cases hv
  · rename_i e l h1 h2 h3
    split at hv
    · rename_i h4
      split at hv
      · rename_i q h5
        cases hv
        have hl := leaf_holds h h3
        obtain ⟨w1, h6, h7⟩ := Option.bind_eq_some_iff.1 h5
        have h8 : RepL w (fun k => okS F s G w k ∨ (G.ow l).ownBlock = some k) ⟨.slice w1.t, w1.xs⟩ (G.ow l) := own_rep h h6
        rw [asTy_some h7] at h8
        obtain ⟨y, hr, rfl, hy⟩ := run_toString (P := P) h1 (uOf h4) h2 h8
        rw [← show a.eval x = G.ow l from hl.1] at hr
        exact .same (u := .string y) (by simp [execOp, ho, hr]) ⟨y, rfl, rfl, hy⟩
      · cases hv
    · cases hv
  · rename_i e q h1 h2 h3
    split at hv
    · rename_i h4
      cases hv
      obtain ⟨y, e2, rfl, hy⟩ := pvStr (leaf_holds h h3)
      obtain ⟨u, w', hr, hg, hh⟩ := toBytes_sound h h1 h2 (uOf h4) y hy
      exact ⟨u, w', by simp [execOp, ho, e2, hr], hg, hh⟩
    · cases hv
  · cases hv

theorem v_ifc (h : Holds F s G a.tmps.toList w) {t : Nat} {x : Operand} (ho : o.op = .makeInterface t x) (hv : (opV P s (.makeInterface t x)).val = some v) : VOK P F s G a w o v := by
  have hpl : ∀ (ls : List L) (ps : List PL) (cs : List Value), plsAll ls = some ps → All2 (HR F s G w) ls cs → All2 (RepL w (okS F s G w)) ps cs := by
    intro ls
    induction ls with
    | nil => intro ps cs h1 h2; cases h1; cases h2; exact .nil
    | cons l ls ih =>
      intro ps cs h1 h2
      cases l <;> simp only [plsAll] at h1 <;> (try cases h1)
      obtain ⟨q, hq, rfl⟩ := Option.map_eq_some_iff.1 h1
      cases h2 with
      | cons h2 h3 => exact .cons h2 (ih _ _ hq h3)
  simp only [opV] at hv
  split at hv
  · cases hv
  rename_i hifc
  have hu : ∃ d, P.underlying t = some d ∧ ∀ m, d ≠ .interface m := by
    unfold isIfc at hifc
    cases hd : P.underlying t with
    | none => rw [hd] at hifc; exact absurd rfl hifc
    | some d => exact ⟨d, rfl, fun m e => by rw [hd, e] at hifc; exact absurd rfl hifc⟩
  obtain ⟨d, hd, hni⟩ := hu
  have hrun : ∀ u, (Instr.makeInterface t u).run P w = .ok (.iface t u) w := by
    intro u
    simp only [Instr.makeInterface, Sem.run_bind, run_underlying hd, Result.andThen_ok]
    cases d <;> first | rfl | exact absurd rfl (hni _)
  have hg := get_holds h x
  split at hv
  · rename_i l hl
    rw [hl] at hg
    rw [Oc.val_ofOption] at hv
    obtain ⟨ps, hps, rfl⟩ := Option.map_eq_some_iff.1 hv
    have := hpl [l] ps [a.eval x] hps (.cons hg .nil)
    exact .same (u := .iface t (a.eval x)) (by simp [execOp, ho, hrun]) ⟨_, this, rfl⟩
  · rename_i ls hl
    rw [hl] at hg
    rw [Oc.val_ofOption] at hv
    obtain ⟨ps, hps, rfl⟩ := Option.map_eq_some_iff.1 hv
    obtain ⟨cs, e, ha⟩ := hg
    have := hpl ls ps cs.toList hps ha
    exact .same (u := .iface t (a.eval x)) (by simp [execOp, ho, hrun]) ⟨_, this, by simp [e]⟩
  · cases hv

theorem fnPtrs_holds (h : Holds F s G a.tmps.toList w) : ∀ (xs : List Operand) (ps : List (Nat × Nat)), fnPtrs s xs = some ps → xs.map a.eval = ps.map (ptrV G)
  | [], ps, h1 => by cases h1; rfl
  | x :: xs, ps, h1 => by
    simp only [fnPtrs] at h1
    split at h1
    · rename_i b q hl
      obtain ⟨q', hq, rfl⟩ := Option.map_eq_some_iff.1 h1
      have h2 : a.eval x = _ := leaf_holds h hl
      simp [h2, ptrV, fnPtrs_holds h xs q' hq]
    · cases h1

theorem v_func (h : Holds F s G a.tmps.toList w) {f : Nat} {x y : Array Operand} (ho : o.op = .makeFunc (.func f) x y) (hv : (opV P s (.makeFunc (.func f) x y)).val = some v) : VOK P F s G a w o v := by
  simp only [opV] at hv
  split at hv
  · rename_i p q h1 h2
    cases hv
    have e1 := fnPtrs_holds h _ _ h1
    have e2 := fnPtrs_holds h _ _ h2
    refine .same (u := .func (.func f) (x.map a.eval) (y.map a.eval)) (by simp [execOp, ho, Instr.makeFunc]) ?_
    have e3 : (p.map (ptrV G)).toArray = x.map a.eval := by rw [← e1, ← Array.toList_map, Array.toArray_toList]
    have e4 : (q.map (ptrV G)).toArray = y.map a.eval := by rw [← e2, ← Array.toList_map, Array.toArray_toList]
    show _ = Value.func _ (p.map (ptrV G)).toArray (q.map (ptrV G)).toArray
    rw [e3, e4]
  · cases hv

theorem v_extract (h : Holds F s G a.tmps.toList w) {x : Operand} {i : Nat} (ho : o.op = .extract x i) (hv : (opV P s (.extract x i)).val = some v) : VOK P F s G a w o v := by
  have hg := get_holds h x
  simp only [opV] at hv
  split at hv
  · rename_i cs hl
    rw [hl] at hg
    split at hv
    · rename_i c hc
      cases hv
      obtain ⟨vs, e, ha⟩ := hg
      obtain ⟨u, hu, hcu⟩ := ha.get hc
      rw [Array.getElem?_toList] at hu
      exact .same (u := u) (by simp [execOp, ho, e, Instr.extract, hu]) hcu
    · cases hv
  · cases hv

end
end Go.Proofs.YtghmhkpgdmgepaaV
