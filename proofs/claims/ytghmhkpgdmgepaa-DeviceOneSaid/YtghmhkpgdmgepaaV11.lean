import Derived.Test.YtghmhkpgdmgepaaV10
/-! The V engine, 11: values that are worked out: fields, elements, cuts, structs. -/
set_option linter.unusedVariables false
set_option linter.unusedSimpArgs false
namespace Go.Proofs.YtghmhkpgdmgepaaV
open Go Go.RowKit

section
variable {P : Program} {F : Nat → Prop} {s : St} {G : Gm} {a : Act} {w : World} {o : Oper} {v : AV} {vals : List Value}

theorem fieldOff_some {S f k t : Nat} (h : fieldOff P S f = some (k, t)) : ∃ fs x n, P.underlying S = some (.struct fs) ∧ fs[f]? = some x ∧ x.offset = k ∧ x.type = t ∧ sizeT P t = some n ∧ n ≠ 0 := by
  unfold fieldOff at h
  split at h
  · rename_i fs hu
    obtain ⟨x, hx, h2⟩ := Option.bind_eq_some_iff.1 h
    obtain ⟨n, hn, h3⟩ := Option.bind_eq_some_iff.1 h2
    split at h3
    · cases h3
    · rename_i hz
      cases h3
      exact ⟨fs, x, n, hu, hx, rfl, rfl, hn, hz⟩
  · cases h

theorem add_at (g o n : Nat) : (⟨g, o, none⟩ : Addr).add n = ⟨g, o + n, none⟩ := by unfold Addr.add; split <;> simp_all
theorem add_add (a : Addr) (h : a.spot = none) (m n : Nat) : (a.add m).add n = a.add (m + n) := by
  obtain ⟨b, o, sp⟩ := a
  obtain rfl : sp = none := h
  simp [add_at, Nat.add_assoc]
theorem add_spot (a : Addr) (h : a.spot = none) (n : Nat) : (a.add n).spot = none := by
  obtain ⟨b, o, sp⟩ := a
  obtain rfl : sp = none := h
  simp [add_at]
theorem Cells.drop {ad : Addr} {cs : List Value} (hs : ad.spot = none) (h : Cells w ad cs) (n : Nat) : Cells w (ad.add n) (cs.drop n) := by
  intro j v hv
  rw [List.getElem?_drop] at hv
  rw [add_add ad hs]
  exact h _ _ hv

theorem sizeOf_run {t n : Nat} (hn : sizeT P t = some n) : (sizeOf t).run P w = .ok n w := by
  unfold sizeT at hn
  obtain ⟨i, hi, rfl⟩ := Option.map_eq_some_iff.1 hn
  simp [sizeOf, typeInfo, hi]

theorem v_fieldAddr (h : Holds F s G a.tmps.toList w) {S f : Nat} {x : Operand} (ho : o.op = .fieldAddr S x f) (hv : (opV P s (.fieldAddr S x f)).val = some v) : VOK P F s G a w o v := by
  have key : ∀ {k t : Nat}, fieldOff P S f = some (k, t) → ∀ {ad : Addr}, a.eval x = .pointer (some ad) → (execOp a.eval o).run P w = .ok (.value (.pointer (some (ad.add k)))) w := by
    intro k t hf ad e
    obtain ⟨fs, y, n, hu, hy, rfl, rfl, hn, hz⟩ := fieldOff_some hf
    simp [execOp, ho, e, Instr.fieldAt, run_underlying hu, hy, Instr.sureAddr, fieldPlace, sizeOf_run hn, hz]
  simp only [opV] at hv
  split at hv
  · rename_i k t b q hf hl
    cases hv
    have e : a.eval x = _ := leaf_holds h hl
    refine .same (key hf e) ?_
    show Value.pointer _ = _
    rw [add_at]
  · rename_i k t ps hf hl
    cases hv
    obtain ⟨ad, cs, e, hs, hok, hc, hr⟩ := leaf_holds h hl
    exact .same (key hf e) ⟨_, cs.drop k, rfl, add_spot ad hs k, by rw [add_block]; exact hok, hc.drop hs k, hr.drop k⟩
  · rename_i k t l i q z hf hl
    cases hv
    obtain ⟨g, n, c, hG, e, h3⟩ := leaf_holds h hl
    exact .same (key hf e) ⟨g, n, c, hG, by rw [add_at, Nat.add_assoc], h3⟩
  · cases hv

theorem v_field (h : Holds F s G a.tmps.toList w) {S f : Nat} {x : Operand} (ho : o.op = .field S x f) (hv : (opV P s (.field S x f)).val = some v) : VOK P F s G a w o v := by
  have hg := get_holds h x
  simp only [opV] at hv
  split at hv
  · rename_i k t ls hf hl
    rw [hl] at hg
    obtain ⟨cs, e, ha⟩ := hg
    split at hv
    · rename_i n hn
      split at hv
      · rename_i hle'
        obtain ⟨hle, hu⟩ := hle'
        rw [Oc.val_ofOption] at hv
        obtain ⟨d, hd⟩ := Option.isSome_iff_exists.1 hu
        obtain ⟨fs, y, n', hus, hy, rfl, rfl, hn', hz⟩ := fieldOff_some hf
        rw [hn] at hn'
        cases hn'
        have hlen := ha.len
        have h2 := (ha.drop y.offset).take n
        have hm := mkAV_holds h2 hv
        refine .same (u := if isAggB P y.type then .agg ((cs.toList.drop y.offset).take n).toArray else ((cs.toList.drop y.offset).take n).headD undef) ?_ hm
        simp only [execOp, ho, e, Instr.field, Sem.run_bind, run_underlying hus, Result.andThen_ok, hy, asAgg, Sem.run_pure, part, run_isAgg y.type hd]
        cases hgg : isAggB P y.type with
        | true =>
          simp only [if_true, Sem.run_bind, sizeOf_run hn, Result.andThen_ok, Sem.run_pure]
          congr 3
          rw [← Array.toList_inj]
          simp [List.extract_eq_take_drop]
        | false =>
          rw [hgg] at hv
          simp only [mkAV, Bool.false_eq_true, if_false] at hv
          have h1 : n = 1 := by
            split at hv
            · rename_i l hl1
              have := congrArg List.length hl1
              simp at this
              omega
            · cases hv
          subst h1
          have hl9 : cs.toList.length = cs.size := Array.length_toList
          have hlt : y.offset < cs.size := by omega
          have e2 : cs[y.offset]? = some cs[y.offset] := Array.getElem?_eq_getElem hlt
          simp only [Bool.false_eq_true, if_false, e2, Sem.run_pure, Result.andThen_ok]
          congr 2
          have h7 : (cs.toList.drop y.offset).take 1 = [cs[y.offset]] := by
            rw [List.take_one]
            simp [hlt]
          rw [h7]
          rfl
      · cases hv
    · cases hv
  · cases hv

theorem rdD_get (t : Ty) (xs : List t.den) (i : Nat) (h : i < xs.length) : xs[i]? = some (rdD t xs i) := by simp [rdD, List.getD, List.getElem?_eq_getElem h]
theorem inB_true {i : Int} {n : Nat} (h : inB i n = true) : 0 ≤ i ∧ i < n := by simpa [inB] using h

theorem v_indexAddr (h : Holds F s G a.tmps.toList w) {T : Nat} {x y : Operand} (ho : o.op = .indexAddr T x y) (hv : (opV P s (.indexAddr T x y)).val = some v) : VOK P F s G a w o v := by
  simp only [opV] at hv
  split at hv
  · rename_i e l i hu hl hi
    obtain ⟨k, ei, _⟩ := int1_eval h hi
    split at hv
    · rename_i q hq
      split at hv
      · rename_i hz
        cases hb : inB i q.xs.length with
        | false => rw [hb] at hv; cases hv
        | true =>
          rw [hb] at hv
          cases hv
          obtain ⟨h0, h1⟩ := inB_true hb
          have e1 : a.eval x = G.ow l := (leaf_holds h hl).1
          obtain ⟨_, cs, hr, he⟩ := h.own l q hq
          rcases hr.2 with ⟨_, hn⟩ | ⟨g, cap, cur, hG, _⟩
          · omega
          · rw [hG] at e1
            refine .same (u := .pointer (some ⟨g, i.toNat * q.t.size, none⟩)) ?_ ⟨g, _, _, hG, by simp, fun z hz' => ?_⟩
            · simp [execOp, ho, e1, ei, Instr.indexAt, asIntOf, run_underlying hu, h0, h1, sizeOf_run hz, add_at]
            · have : ownAt s l = some z := hz'
              rw [hq] at this
              cases this
              exact ⟨by omega, rfl⟩
      · cases hv
    · cases hv
  · rename_i e t xs i hu hl hi
    obtain ⟨k, ei, _⟩ := int1_eval h hi
    split at hv
    · rename_i hz
      cases hb : inB i (List.length xs) with
      | false => rw [hb] at hv; cases hv
      | true =>
        rw [hb] at hv
        cases hv
        obtain ⟨h0, h1⟩ := inB_true hb
        obtain ⟨A, c, e1, hl1, hc1, hx⟩ := pvSl (leaf_holds h hl)
        have e2 := List.singleton_inj.1 e1
        have hne : xs ≠ [] := by rintro rfl; simp at h1; omega
        obtain ⟨ad, rfl, hs, hok, hel⟩ := hx hne
        have hlt : i.toNat < List.length xs := by omega
        have hget := rdD_get t xs i.toNat hlt
        obtain ⟨es, hr, hce⟩ := hel _ _ hget
        refine .same (u := .pointer (some (ad.add (i.toNat * t.size)))) ?_ ⟨_, es, rfl, add_spot ad hs _, by rw [add_block]; exact hok, hce, rep_flat hr⟩
        simp [execOp, ho, e2, ei, Instr.indexAt, asIntOf, run_underlying hu, h0, h1, sizeOf_run hz]
    · cases hv
  · rename_i m e b q i hu hl hi
    obtain ⟨k, ei, _⟩ := int1_eval h hi
    split at hv
    · rename_i n hz
      cases hb : inB i m with
      | false => rw [hb] at hv; cases hv
      | true =>
        rw [hb] at hv
        cases hv
        obtain ⟨h0, h1⟩ := inB_true hb
        have e1 : a.eval x = _ := leaf_holds h hl
        refine .same (u := .pointer (some ⟨G.bx b, q + i.toNat * n, none⟩)) ?_ rfl
        simp [execOp, ho, e1, ei, Instr.indexAt, asIntOf, run_underlying hu, h0, h1, sizeOf_run hz, Instr.sureAddr, add_at]
    · cases hv
  · cases hv

theorem v_index (h : Holds F s G a.tmps.toList w) {T : Nat} {x y : Operand} (ho : o.op = .index T x y) (hv : (opV P s (.index T x y)).val = some v) : VOK P F s G a w o v := by
  simp only [opV] at hv
  split at hv
  · rename_i q i hu hl hi
    obtain ⟨k, ei, _⟩ := int1_eval h hi
    obtain ⟨z, e1, rfl, hz⟩ := pvStr (leaf_holds h hl)
    cases hb : inB i (List.length (bs z)) with
    | false => rw [hb] at hv; cases hv
    | true =>
      rw [hb] at hv
      cases hv
      obtain ⟨h0, h1⟩ := inB_true hb
      have hlt : i.toNat < z.size := by rw [← bs_len]; omega
      refine .same (u := .int .u8 (z[i.toNat].toNat : Int)) ?_ ?_
      · have : z[i.toNat]? = some z[i.toNat] := by simp [hlt]
        simp [execOp, ho, e1, ei, Instr.index, asIntOf, run_underlying hu, h0, this]
      · rw [bs_get z i.toNat hlt]
        exact ⟨rfl, wf_u8 _⟩
  · cases hv

theorem optInt_sound (h : Holds F s G a.tmps.toList w) {d : Int} {x : Option Operand} {n : Int} (hn : optInt s d x = some n) : (x = none ∧ n = d) ∨ ∃ y k, x = some y ∧ a.eval y = .int k n := by
  cases x with
  | none => exact .inl ⟨rfl, by simpa [optInt] using hn.symm⟩
  | some y =>
    obtain ⟨k, e, _⟩ := int1_eval h (x := y) hn
    exact .inr ⟨y, k, rfl, e⟩
theorem cutB_true {lo hi : Int} {n : Nat} (h : cutB lo hi n = true) : 0 ≤ lo ∧ lo ≤ hi ∧ hi ≤ n := by simpa [cutB] using h

/-- The bounds of a cut, as Go has them. -/
theorem run_bounds (h : Holds F s G a.tmps.toList w) {lo hi : Option Operand} {p q : Int} {len cap : Nat} (g : Bool) (hp : optInt s 0 lo = some p) (hq : optInt s len hi = some q) (hb : cutB p q len = true) (hc : len ≤ cap) :
    (Instr.sliceBounds g len cap (lo.map a.eval) (hi.map a.eval) none).run P w = .ok (p.toNat, q.toNat, cap) w := by
  obtain ⟨h0, h1, h2⟩ := cutB_true hb
  have hb1 : ∀ (k : IntKind) (z : Int) (y : Nat) (code : BoundsCode), 0 ≤ z → z ≤ y → (Instr.sliceBound (.int k z) y code).run P w = .ok z.toNat w := by
    intro k z y code g0 g1
    simp [Instr.sliceBound, asIntOf, g0, g1]
  have hlo : ∀ y : Nat, p ≤ y → ∀ code, (match lo.map a.eval with | some v => Instr.sliceBound v y code | none => pure 0).run P w = .ok p.toNat w := by
    intro y hy code
    rcases optInt_sound h hp with ⟨rfl, rfl⟩ | ⟨z, k, rfl, e⟩
    · rfl
    · simp [e, hb1 k p y code h0 hy]
  unfold Instr.sliceBounds
  rcases optInt_sound h hq with ⟨rfl, rfl⟩ | ⟨z, k, rfl, e⟩
  · have := hlo len (by omega)
    simp only [Option.map_none, Sem.run_bind, Sem.run_pure, Result.andThen_ok, Option.isSome_none, Bool.false_eq_true, if_false]
    rcases optInt_sound h hp with ⟨rfl, rfl⟩ | ⟨z, k, rfl, e⟩
    · simp
    · simp [e, hb1 k p len _ h0 (by omega)]
  · simp only [Option.map_some, Option.map_none, Sem.run_bind, Sem.run_pure, Result.andThen_ok, Option.isSome_none, Bool.false_eq_true, if_false, e, hb1 k q cap _ (by omega) (by omega)]
    rcases optInt_sound h hp with ⟨rfl, rfl⟩ | ⟨z2, k2, rfl, e2⟩
    · simp
    · simp [e2, hb1 k2 p q.toNat _ h0 (by omega)]

theorem cut_rep {ok : Nat → Prop} {t : Ty} {xs : List t.den} {A : Option Addr} {c : Nat} (hr : Rep w ok (.slice t) xs [.slice A xs.length c]) {p q : Nat} (h1 : p ≤ q) (h2 : q ≤ xs.length) :
    Rep w ok (.slice t) ((xs.take q).drop p) [.slice (if c = p then A else A.map (·.add (p * t.size))) (q - p) (c - p)] := by
  have hr' : RepSl w ok (fun x es => Rep w ok t x es) t.size xs [.slice A xs.length c] := hr
  obtain ⟨A', c', e1, hl, hc, hx⟩ := hr'
  simp only [List.cons.injEq, Value.slice.injEq, and_true] at e1
  obtain ⟨rfl, _, rfl⟩ := e1
  have hlen : ((xs.take q).drop p).length = q - p := by rw [List.length_drop, List.length_take]; omega
  show RepSl w ok (fun x es => Rep w ok t x es) t.size ((xs.take q).drop p) _
  refine ⟨_, c - p, by rw [hlen], by rw [hlen]; omega, by omega, fun hne => ?_⟩
  have hlt : p < q := by
    rcases Nat.lt_or_ge p q with h | h
    · exact h
    · exact absurd (List.length_eq_zero_iff.1 (by rw [hlen]; omega)) hne
  have hne' : xs ≠ [] := by rintro rfl; simp at h2; omega
  obtain ⟨ad, rfl, hs, hok, hel⟩ := hx hne'
  rw [if_neg (by omega)]
  refine ⟨_, rfl, add_spot ad hs _, by rw [add_block]; exact hok, fun i x hi => ?_⟩
  rw [List.getElem?_drop, List.getElem?_take] at hi
  split at hi
  · obtain ⟨es, hr, hc⟩ := hel _ _ hi
    refine ⟨es, hr, ?_⟩
    rw [add_add ad hs, ← Nat.add_mul]
    exact hc
  · cases hi

theorem v_slice (h : Holds F s G a.tmps.toList w) {T : Nat} {x : Operand} {lo hi : Option Operand} (ho : o.op = .slice T x lo hi none) (hv : (opV P s (.slice T x lo hi none)).val = some v) : VOK P F s G a w o v := by
  simp only [opV] at hv
  split at hv
  · rename_i q hu hl
    split at hv
    · rename_i p r hp hr
      cases hb : cutB p r (List.length q) with
      | false => rw [hb] at hv; cases hv
      | true =>
        rw [hb] at hv
        cases hv
        obtain ⟨z, e1, rfl, hz⟩ := pvStr (leaf_holds h hl)
        have hlz : List.length (bs z) = z.size := bs_len z
        rw [hlz] at hr hb
        have hrun := run_bounds (P := P) h false hp hr hb (Nat.le_refl _)
        refine .same (u := .string (z.extract p.toNat r.toNat)) ?_ ⟨_, rfl, bs_extract z _ _, ?_⟩
        · simp [execOp, ho, e1, Instr.sliceAt, Instr.slice, run_underlying hu, hrun]
        · have := bs_len (z.extract p.toNat r.toNat)
          rw [bs_extract, List.length_drop, List.length_take, bs_len] at this
          omega
    · cases hv
  · rename_i e t xs hu hl
    split at hv
    · rename_i p r hp hr
      split at hv
      · rename_i hz
        cases hb : cutB p r (List.length xs) with
        | false => rw [hb] at hv; cases hv
        | true =>
          rw [hb] at hv
          cases hv
          have hrep := leaf_holds h hl
          obtain ⟨A, c, e1, hl1, hc1, hx⟩ := pvSl hrep
          have e2 := List.singleton_inj.1 e1
          have hrun := run_bounds (P := P) h true hp hr hb hl1
          obtain ⟨h0, h1, h2⟩ := cutB_true hb
          have hrep2 : Rep w (okS F s G w) (.slice t) xs [.slice A (List.length xs) c] := by rw [← e2]; exact hrep
          have := cut_rep (p := p.toNat) (q := r.toNat) hrep2 (by omega) (by omega)
          refine .same (u := .slice (if c = p.toNat then A else A.map (·.add (p.toNat * t.size))) (r.toNat - p.toNat) (c - p.toNat)) ?_ this
          simp [execOp, ho, e2, Instr.sliceAt, Instr.slice, run_underlying hu, hrun, sizeOf_run hz]
      · cases hv
    · cases hv
  · cases hv

end
end Go.Proofs.YtghmhkpgdmgepaaV
