import Derived.Test.YtgmpjapnhdilaaaGreatB0
import Derived.Maps.AppendAt
import Derived.Laws.MakeOwn
import Derived.Laws.OwnMore
import Derived.Great.BuildSlice
import Derived.Lib.AppendStr
/-! Joined, names shortened: V10, V11, V12, V13, V14, V15, V16, V17. -/
set_option linter.unusedVariables false
set_option linter.unusedSimpArgs false
namespace Go.Proofs.YtgmpjapnhdilaaaGreatV
open Go Go.RowKit
section
variable {P : Program} {F : Nat → Prop} {s : St} {G : Gm} {a : Act} {w : World} {o : Oper} {v : AV} {vals : List Value}
theorem uOf {e : Nat} (h : isU8 P e = true) : P.underlying e = some (.int .u8) := by
 unfold isU8 at h
 split at h
 ·assumption
 ·cases h
theorem wf_u8 (b : UInt8) : (Lit.int .u8 (b.toNat : Int)).wf = true := by
 rw [Qi]
 have := b.toNat_lt
 simp [IntKind.min, IntKind.max, IntKind.signed, IntKind.bits]
 omega
theorem ok_new (h : Holds F s G vals w) {w' : World} (hs : w.heap.size < w'.heap.size) : okS F s G w' w.heap.size :=
 ⟨hs, fun hF => Nat.lt_irrefl _ (h.Flt _ hF), fun hL => Nat.lt_irrefl _ (h.lt hL)⟩
theorem Bj2 (h : Holds F s G a.tmps.toList w) {src dst e : Nat} (hs : P.underlying src = some .string) (hd : P.underlying dst = some (.slice e)) (he : P.underlying e = some (.int .u8)) (y : ByteArray) (hy : y.size ≤ maxLen) :
  ∃ u w', (convert src dst (.string y)).run P w = .ok u w' ∧ Grew w w' ∧ HR F s G w' (pvL (.int .u8) (bs y)) u := by
 refine ⟨_, _, run_bytes_of_string w src dst e y hs hd he, (Grew.drew w).trans (Grew.alloc _ _), ?_⟩
 have hcap : y.size ≤ grownCap w y.size 0 e := grownCap_ge w y.size 0 e
 have hm : grownCap w y.size 0 e ≤ maxLen := grownCap_le_maxLen w y.size 0 e hy
 have hl : (bs y).length = y.size := Ds y
 refine Bi4 (e := .int .u8) (w := w.drew.alloc (.cells (bytesRow y (grownCap w y.size 0 e)) e ((bytesRow y (grownCap w y.size 0 e)).size, (bytesRow y (grownCap w y.size 0 e)).size + 1)))
  (ok := okS F s G (w.drew.alloc (.cells (bytesRow y (grownCap w y.size 0 e)) e ((bytesRow y (grownCap w y.size 0 e)).size, (bytesRow y (grownCap w y.size 0 e)).size + 1))))
  (xs := bs y) (cs := (bs y).map (Value.int .u8)) (a := ⟨w.heap.size, 0, none⟩) (c := grownCap w y.size 0 e) ?_ ?_ rfl (ok_new h (by simp)) hl hcap hm
 ·unfold RepRow
  have : ∀ l : List UInt8, All2 (RepL (w.drew.alloc (.cells (bytesRow y (grownCap w y.size 0 e)) e ((bytesRow y (grownCap w y.size 0 e)).size, (bytesRow y (grownCap w y.size 0 e)).size + 1)))
   (okS F s G (w.drew.alloc (.cells (bytesRow y (grownCap w y.size 0 e)) e ((bytesRow y (grownCap w y.size 0 e)).size, (bytesRow y (grownCap w y.size 0 e)).size + 1)))))
   ((l.map fun b => (b.toNat : Int)).flatMap (flat (.int .u8))) ((l.map fun b => (b.toNat : Int)).map (Value.int .u8)) := by
   intro l
   induction l with
   | nil => exact .nil
   | cons b l ih =>
    exact .cons ⟨rfl, wf_u8 b⟩ ih
  exact this y.data.toList
 ·intro j u hj
  have hb := Gp (w := w.drew.alloc (.cells (bytesRow y (grownCap w y.size 0 e)) e ((bytesRow y (grownCap w y.size 0 e)).size, (bytesRow y (grownCap w y.size 0 e)).size + 1))) (heap_alloc_new w.drew _) 0
  simp only [List.drop_zero] at hb
  refine hb j u ?_
  unfold bytesRow
  simp only [Array.toList_append, Array.toList_map, Array.toList_replicate]
  have hj2 : j < (bs y).length := by have := (List.getElem?_eq_some_iff.1 hj).1; simpa using this
  have e1 : (List.map (fun b => Value.int .u8 (b.toNat : Int)) y.data.toList) = (bs y).map (Value.int .u8) := by simp [bs]
  rw [List.getElem?_append_left (by simpa [bs] using hj2)]
  first | (rw [e1]; exact hj) | (simpa [bs] using hj)
theorem Bj5 (h : Holds F s G a.tmps.toList w) {t1 t2 : Nat} {x : Operand} (ho : o.op = .convert t1 t2 x) (hv : (opV P s (.convert t1 t2 x)).val = some v) : VOK P F s G a w o v := by
 simp only [opV] at hv
 split at hv
 ·rename_i k k' n h1 h2 h3
  cases hv
  obtain ⟨e, hw⟩ := C8 (As h h3)
  exact .same (u := .int k (k.wrap n)) (by simp [execOp, ho, e, convert, run_underlying h1, run_underlying h2, Conv.intToInt]) ⟨rfl, wf_wrap _ _⟩
 ·rename_i q h1 h2 h3
  cases hv
  obtain ⟨y, e, rfl, hy⟩ := Es (As h h3)
  exact .same (u := .string y) (by simp [execOp, ho, e, convert, run_underlying h1, run_underlying h2]) ⟨y, rfl, rfl, hy⟩
 ·rename_i e q h1 h2 h3
  split at hv
  ·rename_i h4
   cases hv
   obtain ⟨y, hr, rfl, hy⟩ := A6d h1 (uOf h4) h2 (As h h3)
   exact .same (u := .string y) (by simp [execOp, ho, hr]) ⟨y, rfl, rfl, hy⟩
  ·cases hv
 ·rename_i e l h1 h2 h3
  split at hv
  ·rename_i h4
   split at hv
   ·rename_i q h5
    cases hv
    have hl := As h h3
    obtain ⟨w1, h6, h7⟩ := Option.bind_eq_some_iff.1 h5
    have h8 : RepL w (fun k => okS F s G w k ∨ (G.ow l).ownBlock = some k) ⟨.slice w1.t, w1.xs⟩ (a.eval x) := Hn h h6 hl.1
    rw [Ee h7] at h8
    obtain ⟨y, hr, rfl, hy⟩ := A6d (P := P) h1 (uOf h4) h2 h8
    exact .same (u := .string y) (by simp [execOp, ho, hr]) ⟨y, rfl, rfl, hy⟩
   ·cases hv
  ·cases hv
 ·rename_i e q h1 h2 h3
  split at hv
  ·rename_i h4
   cases hv
   obtain ⟨y, e2, rfl, hy⟩ := Es (As h h3)
   obtain ⟨u, w', hr, hg, hh⟩ := Bj2 h h1 h2 (uOf h4) y hy
   exact ⟨u, w', by simp [execOp, ho, e2, hr], hg, hh⟩
  ·cases hv
 ·cases hv
theorem v_ifc (h : Holds F s G a.tmps.toList w) {t : Nat} {x : Operand} (ho : o.op = .makeInterface t x) (hv : (opV P s (.makeInterface t x)).val = some v) : VOK P F s G a w o v := by
 have hpl : ∀ (ls : List L) (ps : List PL) (cs : List Value), Er ls = some ps → All2 (HR F s G w) ls cs → All2 (RepL w (okS F s G w)) ps cs := by
  intro ls
  induction ls with
  | nil => intro ps cs h1 h2; cases h1; cases h2; exact .nil
  | cons l ls ih =>
   intro ps cs h1 h2
   cases l <;> simp only [Er] at h1 <;> (try cases h1)
   obtain ⟨q, hq, rfl⟩ := Option.map_eq_some_iff.1 h1
   cases h2 with
   | cons h2 h3 => exact .cons h2 (ih _ _ hq h3)
 simp only [opV] at hv
 split at hv
 ·cases hv
 rename_i hifc
 have hu : ∃ d, P.underlying t = some d ∧ ∀ m, d ≠ .interface m := by
  unfold isIfc at hifc
  cases hd : P.underlying t with
  | none => rw [hd] at hifc; exact absurd rfl hifc
  | some d => exact ⟨d, rfl, fun m e => by rw [hd, e] at hifc; exact absurd rfl hifc⟩
 obtain ⟨d, hd, hni⟩ := hu
 have hrun : ∀ u, (Instr.makeInterface t u).run P w = .ok (.iface t u) w := by
  intro u
  simp only [Instr.makeInterface, Sem.run_bind, run_underlying hd, Result.andThen_ok]
  cases d <;> first | rfl | exact absurd rfl (hni _)
 have hg := Bw h x
 split at hv
 ·rename_i b o hl
  rw [hl] at hg
  cases hv
  exact .same (u := .iface t (a.eval x)) (by simp [execOp, ho, hrun]) (show Value.iface t (a.eval x) = _ by rw [show a.eval x = _ from hg])
 ·rename_i l _ hl
  rw [hl] at hg
  rw [Oc.val_ofOption] at hv
  obtain ⟨ps, hps, rfl⟩ := Option.map_eq_some_iff.1 hv
  have := hpl [l] ps [a.eval x] hps (.cons hg .nil)
  exact .same (u := .iface t (a.eval x)) (by simp [execOp, ho, hrun]) ⟨_, this, rfl⟩
 ·rename_i ls hl
  rw [hl] at hg
  rw [Oc.val_ofOption] at hv
  obtain ⟨ps, hps, rfl⟩ := Option.map_eq_some_iff.1 hv
  obtain ⟨cs, e, ha⟩ := hg
  have := hpl ls ps cs.toList hps ha
  exact .same (u := .iface t (a.eval x)) (by simp [execOp, ho, hrun]) ⟨_, this, by simp [e]⟩
 ·cases hv
theorem Afa (h : Holds F s G a.tmps.toList w) : ∀ (xs : List Operand) (ps : List (Nat × Nat)), Cz s xs = some ps → xs.map a.eval = ps.map (ptrV G)
 | [], ps, h1 => by cases h1; rfl
 | x :: xs, ps, h1 => by
  simp only [Cz] at h1
  split at h1
  ·rename_i b q hl
   obtain ⟨q', hq, rfl⟩ := Option.map_eq_some_iff.1 h1
   have h2 : a.eval x = _ := As h hl
   simp [h2, ptrV, Afa h xs q' hq]
  ·cases h1
theorem v_func (h : Holds F s G a.tmps.toList w) {f : Nat} {x y : Array Operand} (ho : o.op = .makeFunc (.func f) x y) (hv : (opV P s (.makeFunc (.func f) x y)).val = some v) : VOK P F s G a w o v := by
 simp only [opV] at hv
 split at hv
 ·rename_i p q h1 h2
  cases hv
  have e1 := Afa h _ _ h1
  have e2 := Afa h _ _ h2
  refine .same (u := .func (.func f) (x.map a.eval) (y.map a.eval)) (by simp [execOp, ho, Instr.makeFunc]) ?_
  have e3 : (p.map (ptrV G)).toArray = x.map a.eval := by rw [← e1, ← Array.toList_map, Array.toArray_toList]
  have e4 : (q.map (ptrV G)).toArray = y.map a.eval := by rw [← e2, ← Array.toList_map, Array.toArray_toList]
  show _ = Value.func _ (p.map (ptrV G)).toArray (q.map (ptrV G)).toArray
  rw [e3, e4]
 ·cases hv
theorem Bj6 (h : Holds F s G a.tmps.toList w) {x : Operand} {i : Nat} (ho : o.op = .extract x i) (hv : (opV P s (.extract x i)).val = some v) : VOK P F s G a w o v := by
 have hg := Bw h x
 simp only [opV] at hv
 split at hv
 ·rename_i cs hl
  rw [hl] at hg
  split at hv
  ·rename_i c hc
   cases hv
   obtain ⟨vs, e, ha⟩ := hg
   obtain ⟨u, hu, hcu⟩ := ha.get hc
   rw [Array.getElem?_toList] at hu
   exact .same (u := u) (by simp [execOp, ho, e, Instr.extract, hu]) hcu
  ·cases hv
 ·cases hv
end
section
variable {P : Program} {F : Nat → Prop} {s : St} {G : Gm} {a : Act} {w : World} {o : Oper} {v : AV} {vals : List Value}
theorem Awb {S f k t : Nat} (h : G7 P S f = some (k, t)) : ∃ fs x n, P.underlying S = some (.struct fs) ∧ fs[f]? = some x ∧ x.offset = k ∧ x.type = t ∧ Ay P t = some n ∧ n ≠ 0 := by
 unfold G7 at h
 split at h
 ·rename_i fs hu
  obtain ⟨x, hx, h2⟩ := Option.bind_eq_some_iff.1 h
  obtain ⟨n, hn, h3⟩ := Option.bind_eq_some_iff.1 h2
  split at h3
  ·cases h3
  ·rename_i hz
   cases h3
   exact ⟨fs, x, n, hu, hx, rfl, rfl, hn, hz⟩
 ·cases h
theorem Fh (g o n : Nat) : (⟨g, o, none⟩ : Addr).add n = ⟨g, o + n, none⟩ := by unfold Addr.add; split <;> simp_all
theorem Yz (a : Addr) (h : a.spot = none) (m n : Nat) : (a.add m).add n = a.add (m + n) := by
 obtain ⟨b, o, sp⟩ := a
 obtain rfl : sp = none := h
 simp [Fh, Nat.add_assoc]
theorem Y0 (a : Addr) (h : a.spot = none) (n : Nat) : (a.add n).spot = none := by
 obtain ⟨b, o, sp⟩ := a
 obtain rfl : sp = none := h
 simp [Fh]
theorem Cells.drop {ad : Addr} {cs : List Value} (hs : ad.spot = none) (h : Cells w ad cs) (n : Nat) : Cells w (ad.add n) (cs.drop n) := by
 intro j v hv
 rw [List.getElem?_drop] at hv
 rw [Yz ad hs]
 exact h _ _ hv
theorem Ca {t n : Nat} (hn : Ay P t = some n) : (sizeOf t).run P w = .ok n w := by
 unfold Ay at hn
 obtain ⟨i, hi, rfl⟩ := Option.map_eq_some_iff.1 hn
 simp [sizeOf, typeInfo, hi]
theorem Bj7 (h : Holds F s G a.tmps.toList w) {S f : Nat} {x : Operand} (ho : o.op = .fieldAddr S x f) (hv : (opV P s (.fieldAddr S x f)).val = some v) : VOK P F s G a w o v := by
 have key : ∀ {k t : Nat}, G7 P S f = some (k, t) → ∀ {ad : Addr}, a.eval x = .pointer (some ad) → (execOp a.eval o).run P w = .ok (.value (.pointer (some (ad.add k)))) w := by
  intro k t hf ad e
  obtain ⟨fs, y, n, hu, hy, rfl, rfl, hn, hz⟩ := Awb hf
  simp [execOp, ho, e, Instr.fieldAt, run_underlying hu, hy, Instr.sureAddr, fieldPlace, Ca hn, hz]
 simp only [opV] at hv
 split at hv
 ·rename_i k t b q hf hl
  cases hv
  have e : a.eval x = _ := As h hl
  refine .same (key hf e) ?_
  show Value.pointer _ = _
  rw [Fh]
 ·rename_i k t ps hf hl
  cases hv
  obtain ⟨ad, cs, e, hs, hok, hc, hr⟩ := As h hl
  exact .same (key hf e) ⟨_, cs.drop k, rfl, Y0 ad hs k, by rw [Gn]; exact hok, hc.drop hs k, hr.drop k⟩
 ·rename_i k t l i q z hf hl
  cases hv
  obtain ⟨g, n, c, hG, e, h3⟩ := As h hl
  exact .same (key hf e) ⟨g, n, c, hG, by rw [Fh, Nat.add_assoc], h3⟩
 ·cases hv
theorem v_field (h : Holds F s G a.tmps.toList w) {S f : Nat} {x : Operand} (ho : o.op = .field S x f) (hv : (opV P s (.field S x f)).val = some v) : VOK P F s G a w o v := by
 have hg := Bw h x
 simp only [opV] at hv
 split at hv
 ·rename_i k t ls hf hl
  rw [hl] at hg
  obtain ⟨cs, e, ha⟩ := hg
  split at hv
  ·rename_i n hn
   split at hv
   ·rename_i hle'
    obtain ⟨hle, hu⟩ := hle'
    rw [Oc.val_ofOption] at hv
    obtain ⟨d, hd⟩ := Option.isSome_iff_exists.1 hu
    obtain ⟨fs, y, n', hus, hy, rfl, rfl, hn', hz⟩ := Awb hf
    rw [hn] at hn'
    cases hn'
    have hlen := ha.len
    have h2 := (ha.drop y.offset).take n
    have hm := Aod h2 hv
    refine .same (u := if By P y.type then .agg ((cs.toList.drop y.offset).take n).toArray else ((cs.toList.drop y.offset).take n).headD undef) ?_ hm
    simp only [execOp, ho, e, Instr.field, Sem.run_bind, run_underlying hus, Result.andThen_ok, hy, asAgg, Sem.run_pure, part, A59 y.type hd]
    cases hgg : By P y.type with
    | true =>
     simp only [if_true, Sem.run_bind, Ca hn, Result.andThen_ok, Sem.run_pure]
     congr 3
     rw [← Array.toList_inj]
     simp [List.extract_eq_take_drop]
    | false =>
     rw [hgg] at hv
     simp only [mkAV, Bool.false_eq_true, if_false] at hv
     have h1 : n = 1 := by
      split at hv
      ·rename_i l hl1
       have := congrArg List.length hl1
       simp at this
       omega
      ·cases hv
     subst h1
     have hl9 : cs.toList.length = cs.size := Array.length_toList
     have hlt : y.offset < cs.size := by omega
     have e2 : cs[y.offset]? = some cs[y.offset] := Array.getElem?_eq_getElem hlt
     simp only [Bool.false_eq_true, if_false, e2, Sem.run_pure, Result.andThen_ok]
     congr 2
     have h7 : (cs.toList.drop y.offset).take 1 = [cs[y.offset]] := by
      rw [List.take_one]
      simp [hlt]
     rw [h7]
     rfl
   ·cases hv
  ·cases hv
 ·cases hv
theorem A5y (t : Ty) (xs : List t.den) (i : Nat) (h : i < xs.length) : xs[i]? = some (rdD t xs i) := by simp [rdD, List.getD, List.getElem?_eq_getElem h]
theorem O6 {i : Int} {n : Nat} (h : inB i n = true) : 0 ≤ i ∧ i < n := by simpa [inB] using h
theorem Bj8 (h : Holds F s G a.tmps.toList w) {T : Nat} {x y : Operand} (ho : o.op = .indexAddr T x y) (hv : (opV P s (.indexAddr T x y)).val = some v) : VOK P F s G a w o v := by
 simp only [opV] at hv
 split at hv
 ·rename_i e l i hu hl hi
  obtain ⟨k, ei, _⟩ := Dl h hi
  split at hv
  ·rename_i q hq
   split at hv
   ·rename_i hz
    cases hb : inB i q.xs.length with
    | false => rw [hb] at hv; cases hv
    | true =>
     rw [hb] at hv
     cases hv
     obtain ⟨h0, h1⟩ := O6 hb
     have e1 : a.eval x = G.ow l := Hl h hq (As h hl).1 (by omega)
     obtain ⟨_, cs, hr, he⟩ := h.own l q hq
     rcases hr.2 with ⟨_, hn⟩ | ⟨g, cap, cur, hG, _⟩
     ·omega
     ·rw [hG] at e1
      refine .same (u := .pointer (some ⟨g, i.toNat * q.t.size, none⟩)) ?_ ⟨g, _, _, hG, by simp, fun z hz' => ?_⟩
      ·simp [execOp, ho, e1, ei, Instr.indexAt, asIntOf, run_underlying hu, h0, h1, Ca hz, Fh]
      ·have : Aa s l = some z := hz'
       rw [hq] at this
       cases this
       exact ⟨by omega, rfl⟩
   ·cases hv
  ·cases hv
 ·rename_i e t xs i hu hl hi
  obtain ⟨k, ei, _⟩ := Dl h hi
  split at hv
  ·rename_i hz
   cases hb : inB i (List.length xs) with
   | false => rw [hb] at hv; cases hv
   | true =>
    rw [hb] at hv
    cases hv
    obtain ⟨h0, h1⟩ := O6 hb
    obtain ⟨A, c, e1, hl1, hc1, hx⟩ := pvSl (As h hl)
    have e2 := List.singleton_inj.1 e1
    have hne : xs ≠ [] := by rintro rfl; simp at h1; omega
    obtain ⟨ad, rfl, hs, hok, hel⟩ := hx hne
    have hlt : i.toNat < List.length xs := by omega
    have hget := A5y t xs i.toNat hlt
    obtain ⟨es, hr, hce⟩ := hel _ _ hget
    refine .same (u := .pointer (some (ad.add (i.toNat * t.size)))) ?_ ⟨_, es, rfl, Y0 ad hs _, by rw [Gn]; exact hok, hce, K7 hr⟩
    simp [execOp, ho, e2, ei, Instr.indexAt, asIntOf, run_underlying hu, h0, h1, Ca hz]
  ·cases hv
 ·rename_i e r n l i hu hl hi
  obtain ⟨k, ei, _⟩ := Dl h hi
  split at hv
  ·rename_i hz
   cases hb : decide (i = (r : Int)) with
   | false => rw [hb] at hv; cases hv
   | true =>
    rw [hb] at hv
    cases hv
    have hir := of_decide_eq_true hb
    obtain ⟨g, cs, c, u, hm, e1, hlt, hbig, hu2, ho2, h1c⟩ := (As h hl : HR F s G w (.rro r n l) (a.eval x))
    refine .same (u := .pointer (some ⟨g, r, none⟩)) ?_ ⟨g, cs, r, u, hm, rfl, hu2, ho2, h1c⟩
    have h0 : 0 ≤ i := by omega
    have h1 : i < (n : Int) := by omega
    have h2 : i.toNat = r := by omega
    simp [execOp, ho, e1, ei, Instr.indexAt, asIntOf, run_underlying hu, h0, h1, Ca hz, Fh, h2]
  ·cases hv
 ·rename_i e b n i hu hl hi
  obtain ⟨k, ei, _⟩ := Dl h hi
  split at hv
  ·rename_i z hz
   cases hb : inB i n with
   | false => rw [hb] at hv; cases hv
   | true =>
    rw [hb] at hv
    cases hv
    obtain ⟨h0, h1⟩ := O6 hb
    have e1 : a.eval x = _ := As h hl
    refine .same (u := .pointer (some ⟨G.bx b, i.toNat * z, none⟩)) ?_ rfl
    simp [execOp, ho, e1, ei, Instr.indexAt, asIntOf, run_underlying hu, h0, h1, Ca hz, Fh]
  ·cases hv
 ·rename_i m e b q i hu hl hi
  obtain ⟨k, ei, _⟩ := Dl h hi
  split at hv
  ·rename_i n hz
   cases hb : inB i m with
   | false => rw [hb] at hv; cases hv
   | true =>
    rw [hb] at hv
    cases hv
    obtain ⟨h0, h1⟩ := O6 hb
    have e1 : a.eval x = _ := As h hl
    refine .same (u := .pointer (some ⟨G.bx b, q + i.toNat * n, none⟩)) ?_ rfl
    simp [execOp, ho, e1, ei, Instr.indexAt, asIntOf, run_underlying hu, h0, h1, Ca hz, Instr.sureAddr, Fh]
  ·cases hv
 ·cases hv
theorem v_index (h : Holds F s G a.tmps.toList w) {T : Nat} {x y : Operand} (ho : o.op = .index T x y) (hv : (opV P s (.index T x y)).val = some v) : VOK P F s G a w o v := by
 simp only [opV] at hv
 split at hv
 ·rename_i q i hu hl hi
  obtain ⟨k, ei, _⟩ := Dl h hi
  obtain ⟨z, e1, rfl, hz⟩ := Es (As h hl)
  cases hb : inB i (List.length (bs z)) with
  | false => rw [hb] at hv; cases hv
  | true =>
   rw [hb] at hv
   cases hv
   obtain ⟨h0, h1⟩ := O6 hb
   have hlt : i.toNat < z.size := by rw [← Ds]; omega
   refine .same (u := .int .u8 (z[i.toNat].toNat : Int)) ?_ ?_
   ·have : z[i.toNat]? = some z[i.toNat] := by simp [hlt]
    simp [execOp, ho, e1, ei, Instr.index, asIntOf, run_underlying hu, h0, this]
   ·rw [bs_get z i.toNat hlt]
    exact ⟨rfl, wf_u8 _⟩
 ·cases hv
theorem Pe (h : Holds F s G a.tmps.toList w) {d : Int} {x : Option Operand} {n : Int} (hn : A4 s d x = some n) : (x = none ∧ n = d) ∨ ∃ y k, x = some y ∧ a.eval y = .int k n := by
 cases x with
 | none => exact .inl ⟨rfl, by simpa [A4] using hn.symm⟩
 | some y =>
  obtain ⟨k, e, _⟩ := Dl h (x := y) hn
  exact .inr ⟨y, k, rfl, e⟩
theorem Rp {lo hi : Int} {n : Nat} (h : cutB lo hi n = true) : 0 ≤ lo ∧ lo ≤ hi ∧ hi ≤ n := by simpa [cutB] using h
theorem Pm (h : Holds F s G a.tmps.toList w) {lo hi : Option Operand} {p q : Int} {len cap : Nat} (g : Bool) (hp : A4 s 0 lo = some p) (hq : A4 s len hi = some q) (hb : cutB p q len = true) (hc : len ≤ cap) :
  (Instr.sliceBounds g len cap (lo.map a.eval) (hi.map a.eval) none).run P w = .ok (p.toNat, q.toNat, cap) w := by
 obtain ⟨h0, h1, h2⟩ := Rp hb
 have hb1 : ∀ (k : IntKind) (z : Int) (y : Nat) (code : BoundsCode), 0 ≤ z → z ≤ y → (Instr.sliceBound (.int k z) y code).run P w = .ok z.toNat w := by
  intro k z y code g0 g1
  simp [Instr.sliceBound, asIntOf, g0, g1]
 have hlo : ∀ y : Nat, p ≤ y → ∀ code, (match lo.map a.eval with | some v => Instr.sliceBound v y code | none => pure 0).run P w = .ok p.toNat w := by
  intro y hy code
  rcases Pe h hp with ⟨rfl, rfl⟩ | ⟨z, k, rfl, e⟩
  ·rfl
  ·simp [e, hb1 k p y code h0 hy]
 unfold Instr.sliceBounds
 rcases Pe h hq with ⟨rfl, rfl⟩ | ⟨z, k, rfl, e⟩
 ·have := hlo len (by omega)
  simp only [Option.map_none, Sem.run_bind, Sem.run_pure, Result.andThen_ok, Option.isSome_none, Bool.false_eq_true, if_false]
  rcases Pe h hp with ⟨rfl, rfl⟩ | ⟨z, k, rfl, e⟩
  ·simp
  ·simp [e, hb1 k p len _ h0 (by omega)]
 ·simp only [Option.map_some, Option.map_none, Sem.run_bind, Sem.run_pure, Result.andThen_ok, Option.isSome_none, Bool.false_eq_true, if_false, e, hb1 k q cap _ (by omega) (by omega)]
  rcases Pe h hp with ⟨rfl, rfl⟩ | ⟨z2, k2, rfl, e2⟩
  ·simp
  ·simp [e2, hb1 k2 p q.toNat _ h0 (by omega)]
theorem Au1 {ok : Nat → Prop} {t : Ty} {xs : List t.den} {A : Option Addr} {c : Nat} (hr : Rep w ok (.slice t) xs [.slice A xs.length c]) {p q : Nat} (h1 : p ≤ q) (h2 : q ≤ xs.length) :
  Rep w ok (.slice t) ((xs.take q).drop p) [.slice (if c = p then A else A.map (·.add (p * t.size))) (q - p) (c - p)] := by
 have hr' : Da w ok (fun x es => Rep w ok t x es) t.size xs [.slice A xs.length c] := hr
 obtain ⟨A', c', e1, hl, hc, hx⟩ := hr'
 simp only [List.cons.injEq, Value.slice.injEq, and_true] at e1
 obtain ⟨rfl, _, rfl⟩ := e1
 have hlen : ((xs.take q).drop p).length = q - p := by rw [List.length_drop, List.length_take]; omega
 show Da w ok (fun x es => Rep w ok t x es) t.size ((xs.take q).drop p) _
 refine ⟨_, c - p, by rw [hlen], by rw [hlen]; omega, by omega, fun hne => ?_⟩
 have hlt : p < q := by
  rcases Nat.lt_or_ge p q with h | h
  ·exact h
  ·exact absurd (List.length_eq_zero_iff.1 (by rw [hlen]; omega)) hne
 have hne' : xs ≠ [] := by rintro rfl; simp at h2; omega
 obtain ⟨ad, rfl, hs, hok, hel⟩ := hx hne'
 rw [if_neg (by omega)]
 refine ⟨_, rfl, Y0 ad hs _, by rw [Gn]; exact hok, fun i x hi => ?_⟩
 rw [List.getElem?_drop, List.getElem?_take] at hi
 split at hi
 ·obtain ⟨es, hr, hc⟩ := hel _ _ hi
  refine ⟨es, hr, ?_⟩
  rw [Yz ad hs, ← Nat.add_mul]
  exact hc
 ·cases hi
theorem v_slice (h : Holds F s G a.tmps.toList w) {T : Nat} {x : Operand} {lo hi : Option Operand} (ho : o.op = .slice T x lo hi none) (hv : (opV P s (.slice T x lo hi none)).val = some v) : VOK P F s G a w o v := by
 simp only [opV] at hv
 split at hv
 ·rename_i q hu hl
  split at hv
  ·rename_i p r hp hr
   cases hb : cutB p r (List.length q) with
   | false => rw [hb] at hv; cases hv
   | true =>
    rw [hb] at hv
    cases hv
    obtain ⟨z, e1, rfl, hz⟩ := Es (As h hl)
    have hlz : List.length (bs z) = z.size := Ds z
    rw [hlz] at hr hb
    have hrun := Pm (P := P) h false hp hr hb (Nat.le_refl _)
    refine .same (u := .string (z.extract p.toNat r.toNat)) ?_ ⟨_, rfl, Arz z _ _, ?_⟩
    ·simp [execOp, ho, e1, Instr.sliceAt, Instr.slice, run_underlying hu, hrun]
    ·have := Ds (z.extract p.toNat r.toNat)
     rw [Arz, List.length_drop, List.length_take, Ds] at this
     omega
  ·cases hv
 ·rename_i e t xs hu hl
  split at hv
  ·rename_i p r hp hr
   split at hv
   ·rename_i hz
    cases hb : cutB p r (List.length xs) with
    | false => rw [hb] at hv; cases hv
    | true =>
     rw [hb] at hv
     cases hv
     have hrep := As h hl
     obtain ⟨A, c, e1, hl1, hc1, hx⟩ := pvSl hrep
     have e2 := List.singleton_inj.1 e1
     have hrun := Pm (P := P) h true hp hr hb hl1
     obtain ⟨h0, h1, h2⟩ := Rp hb
     have hrep2 : Rep w (okS F s G w) (.slice t) xs [.slice A (List.length xs) c] := by rw [← e2]; exact hrep
     have := Au1 (p := p.toNat) (q := r.toNat) hrep2 (by omega) (by omega)
     refine .same (u := .slice (if c = p.toNat then A else A.map (·.add (p.toNat * t.size))) (r.toNat - p.toNat) (c - p.toNat)) ?_ this
     simp [execOp, ho, e2, Instr.sliceAt, Instr.slice, run_underlying hu, hrun, Ca hz]
   ·cases hv
  ·cases hv
 ·cases hv
end
section
variable {P : Program} {F : Nat → Prop} {s : St} {G : Gm} {a : Act} {w : World} {o : Oper} {v : AV} {vals : List Value}
theorem Li {n : Nat} (h : n ≤ maxLen) : (Lit.int .i64 (n : Int)).wf = true := by
  rw [Qi]
  simp [IntKind.min, IntKind.max, IntKind.signed, IntKind.bits]
  unfold maxLen at h
  omega
theorem arr0 {α β : Type} {as : Array α} {f : α → Option β} {b : β} (h : (as[0]?).bind f = some b) : ∃ x, as[0]? = some x ∧ f x = some b := Option.bind_eq_some_iff.1 h
theorem v_len (h : Holds F s G a.tmps.toList w) {as : Array Operand} {ts : Array Nat} (ho : o.op = .call { callee := .builtin .len, args := as, argTypes := ts })
    (hv : (opV P s (.call { callee := .builtin .len, args := as, argTypes := ts })).val = some v) : VOK P F s G a w o v := by
  have run : ∀ {t x d}, ts[0]? = some t → as[0]? = some x → P.underlying t = some d → ∀ n : Nat, (∀ w', (match d, a.eval x with
      | .string, .string q => (pure (goInt q.size) : Sem Value).run P w'
      | .slice _, .slice _ m _ => (pure (goInt m) : Sem Value).run P w'
      | _, _ => (stuck "" : Sem Value).run P w') = .ok (.int .i64 n) w') → (execOp a.eval o).run P w = .ok (.value (.int .i64 n)) w := by
    intro t x d h1 h2 h3 n h4
    have e2 : (as.map a.eval)[0]? = some (a.eval x) := by simp [h2]
    have h5 := h4 w
    simp only [execOp, ho, resolve, invoke, builtin, Sem.run_bind, Sem.run_pure, Result.andThen_ok, Builtin.len_, h1, e2, run_underlying h3]
    cases d <;> cases hx : a.eval x <;> rw [hx] at h5 <;> simp at h5 <;> simp [h5]
  simp only [opV] at hv
  split at hv
  · rename_i q h1 h2
    cases hv
    obtain ⟨t, ht, hu⟩ := arr0 h1
    obtain ⟨x, hx, hl⟩ := arr0 h2
    obtain ⟨y, e, rfl, hy⟩ := Es (As h hl)
    have hn : List.length (bs y) = y.size := Ds y
    refine .same (run ht hx hu (List.length (bs y)) fun w' => by rw [e, hn]; rfl) ⟨rfl, Li ?_⟩
    rw [hn]; exact hy
  · rename_i e q xs h1 h2
    cases hv
    obtain ⟨t, ht, hu⟩ := arr0 h1
    obtain ⟨x, hx, hl⟩ := arr0 h2
    obtain ⟨A, c, e1, hl1, hc1, _⟩ := pvSl (As h hl)
    have e2 := List.singleton_inj.1 e1
    exact .same (run ht hx hu (List.length xs) fun w' => by rw [e2]; rfl) ⟨rfl, Li (Nat.le_trans hl1 hc1)⟩
  · rename_i e l h1 h2
    split at hv
    · rename_i q hq
      cases hv
      obtain ⟨t, ht, hu⟩ := arr0 h1
      obtain ⟨x, hx, hl⟩ := arr0 h2
      have hr := Hn h hq (As h hl).1
      obtain ⟨A, c, e2, hl1, hc1, _⟩ := (show Da w _ _ _ q.xs [a.eval x] from hr)
      have e3 := List.singleton_inj.1 e2
      exact .same (run ht hx hu q.xs.length fun w' => by rw [e3]; rfl) ⟨rfl, Li (Nat.le_trans hl1 hc1)⟩
    · cases hv
  · rename_i e h1 h2
    cases hv
    obtain ⟨t, ht, hu⟩ := arr0 h1
    obtain ⟨x, hx, hl⟩ := arr0 h2
    have e1 : a.eval x = _ := As h hl
    exact .same (run ht hx hu 0 fun w' => by rw [e1]; rfl) ⟨rfl, Li (Nat.zero_le _)⟩
  · rename_i e b n h1 h2
    split at hv
    · rename_i hn
      cases hv
      obtain ⟨t, ht, hu⟩ := arr0 h1
      obtain ⟨x, hx, hl⟩ := arr0 h2
      have e1 : a.eval x = _ := As h hl
      exact .same (run ht hx hu n fun w' => by rw [e1]; rfl) ⟨rfl, Li (Nat.le_trans hn (by decide))⟩
    · cases hv
  · cases hv
theorem Afc (f : PL → PL → Option PL) (g : Value → Value → Sem Value) (hf : ∀ p q r x y, f p q = some r → HR F s G w (.pv p) x → HR F s G w (.pv q) y → ∃ z, (g x y).run P w = .ok z w ∧ HR F s G w (.pv r) z) :
    ∀ (xs : List Operand) (p r : PL) (x : Value), HR F s G w (.pv p) x → Holds F s G a.tmps.toList w → Nd f p (xs.map s.get) = some r → ∃ z, ((xs.map a.eval).foldlM g x).run P w = .ok z w ∧ HR F s G w (.pv r) z
  | [], p, r, x, hp, h, h1 => by cases h1; exact ⟨x, by simp, hp⟩
  | y :: xs, p, r, x, hp, h, h1 => by
    simp only [List.map_cons] at h1
    unfold Nd at h1
    split at h1
    · rename_i heq; cases heq
    · rename_i q r' heq
      injection heq with e1 e2
      obtain ⟨z, hz, h2⟩ := Option.bind_eq_some_iff.1 h1
      have hy := Bw h y
      rw [e1] at hy
      obtain ⟨u, hu, hru⟩ := hf _ _ _ _ _ hz hp hy
      subst e2
      obtain ⟨k, hk, hrk⟩ := Afc f g hf xs z r u hru h h2
      exact ⟨k, by simp [hu, hk], hrk⟩
    · cases h1
theorem minI_wf {k : IntKind} {x y : Int} (hx : (Lit.int k x).wf = true) (hy : (Lit.int k y).wf = true) : (Lit.int k (minI x y)).wf = true := by unfold minI; split <;> assumption
theorem maxI_wf {k : IntKind} {x y : Int} (hx : (Lit.int k x).wf = true) (hy : (Lit.int k y).wf = true) : (Lit.int k (maxI x y)).wf = true := by unfold maxI; split <;> assumption
theorem v_min (h : Holds F s G a.tmps.toList w) {as : Array Operand} {ts : Array Nat} (ho : o.op = .call { callee := .builtin .min, args := as, argTypes := ts })
    (hv : (opV P s (.call { callee := .builtin .min, args := as, argTypes := ts })).val = some v) : VOK P F s G a w o v := by
  simp only [opV] at hv
  split at hv
  · rename_i p r heq
    rw [Oc.val_ofOption] at hv
    obtain ⟨q, hq, rfl⟩ := Option.map_eq_some_iff.1 hv
    cases hl : as.toList with
    | nil => rw [hl] at heq; cases heq
    | cons x xs =>
      rw [hl] at heq
      simp only [List.map_cons, List.cons.injEq] at heq
      obtain ⟨e1, rfl⟩ := heq
      have hx := Bw h x
      rw [e1] at hx
      obtain ⟨z, hz, hr⟩ := Afc (P := P) min2P Builtin.min2 (by
        intro p q r x y h1 hp hq
        unfold min2P at h1
        split at h1
        · rename_i k m k' n
          split at h1
          · rename_i hk
            cases h1
            cases hk
            obtain ⟨rfl, h2⟩ := C8 hp
            obtain ⟨rfl, h3⟩ := C8 hq
            exact ⟨_, by simp [Builtin.min2]; rfl, rfl, minI_wf h2 h3⟩
          · cases h1
        · cases h1) xs p q (a.eval x) hx h hq
      refine .same (u := z) ?_ hr
      have e3 : (as.map a.eval).toList = a.eval x :: xs.map a.eval := by simp [hl]
      simp [execOp, ho, resolve, invoke, builtin, Builtin.min_, e3, hz, -Array.toList_map]
  · cases hv
theorem v_max (h : Holds F s G a.tmps.toList w) {as : Array Operand} {ts : Array Nat} (ho : o.op = .call { callee := .builtin .max, args := as, argTypes := ts })
    (hv : (opV P s (.call { callee := .builtin .max, args := as, argTypes := ts })).val = some v) : VOK P F s G a w o v := by
  simp only [opV] at hv
  split at hv
  · rename_i p r heq
    rw [Oc.val_ofOption] at hv
    obtain ⟨q, hq, rfl⟩ := Option.map_eq_some_iff.1 hv
    cases hl : as.toList with
    | nil => rw [hl] at heq; cases heq
    | cons x xs =>
      rw [hl] at heq
      simp only [List.map_cons, List.cons.injEq] at heq
      obtain ⟨e1, rfl⟩ := heq
      have hx := Bw h x
      rw [e1] at hx
      obtain ⟨z, hz, hr⟩ := Afc (P := P) max2P Builtin.max2 (by
        intro p q r x y h1 hp hq
        unfold max2P at h1
        split at h1
        · rename_i k m k' n
          split at h1
          · rename_i hk
            cases h1
            cases hk
            obtain ⟨rfl, h2⟩ := C8 hp
            obtain ⟨rfl, h3⟩ := C8 hq
            exact ⟨_, by simp [Builtin.max2]; rfl, rfl, maxI_wf h2 h3⟩
          · cases h1
        · cases h1) xs p q (a.eval x) hx h hq
      refine .same (u := z) ?_ hr
      have e3 : (as.map a.eval).toList = a.eval x :: xs.map a.eval := by simp [hl]
      simp [execOp, ho, resolve, invoke, builtin, Builtin.max_, e3, hz, -Array.toList_map]
  · cases hv
theorem Afd : ∀ (vs : List Value) (off j : Nat) (cs : Array Value), off + j + vs.length ≤ cs.size →
    ((vs.zipIdx j).foldl (fun cs (x : Value × Nat) => cs.setIfInBounds (off + x.2) x.1) cs).toList = cs.toList.take (off + j) ++ vs ++ cs.toList.drop (off + j + vs.length)
  | [], off, j, cs, h => by simp
  | v :: vs, off, j, cs, h => by
    simp only [List.zipIdx_cons, List.foldl_cons]
    rw [Afd vs off (j + 1) _ (by simp at h ⊢; omega)]
    simp only [Array.toList_setIfInBounds, List.length_cons] at h ⊢
    have hlt : off + j < cs.toList.length := by simp; omega
    apply List.ext_getElem?
    intro i
    rw [List.getElem?_append, List.getElem?_append, List.getElem?_append, List.getElem?_append]
    simp only [List.length_append, List.length_take, List.length_set, List.getElem?_take, List.getElem?_drop, List.getElem?_set, List.length_cons, Array.length_toList]
    by_cases h1 : i < off + j
    · have e1 : i < min (off + (j + 1)) cs.size := by omega
      have e2 : i < min (off + (j + 1)) cs.size + vs.length := by omega
      have e3 : i < min (off + j) cs.size := by omega
      have e4 : i < min (off + j) cs.size + (vs.length + 1) := by omega
      have e5 : ¬ off + j = i := by omega
      have e6 : i < off + (j + 1) := by omega
      simp [e1, e2, e3, e4, e5, e6, h1]
    · by_cases h2 : i = off + j
      · subst h2
        have e1 : off + j < min (off + (j + 1)) cs.size := by omega
        have e2 : off + j < min (off + (j + 1)) cs.size + vs.length := by omega
        have e3 : ¬ off + j < min (off + j) cs.size := by omega
        have e4 : off + j < min (off + j) cs.size + (vs.length + 1) := by omega
        have e6 : off + j < off + (j + 1) := by omega
        have e7 : off + j - min (off + j) cs.size = 0 := by omega
        have e8 : off + j < cs.size := by omega
        simp [e1, e2, e3, e4, e6, e7, e8]
      · have e1 : ¬ i < min (off + (j + 1)) cs.size := by omega
        have e3 : ¬ i < min (off + j) cs.size := by omega
        by_cases h3 : i < off + j + 1 + vs.length
        · have e2 : i < min (off + (j + 1)) cs.size + vs.length := by omega
          have e4 : i < min (off + j) cs.size + (vs.length + 1) := by omega
          have e5 : i - min (off + j) cs.size = (i - min (off + (j + 1)) cs.size) + 1 := by omega
          simp [e1, e2, e3, e4, e5]
        · have e2 : ¬ i < min (off + (j + 1)) cs.size + vs.length := by omega
          have e4 : ¬ i < min (off + j) cs.size + (vs.length + 1) := by omega
          have e5 : ¬ off + j = off + (j + 1) + vs.length + (i - (min (off + (j + 1)) cs.size + vs.length)) := by omega
          have e6 : off + (j + 1) + vs.length + (i - (min (off + (j + 1)) cs.size + vs.length)) = off + j + (vs.length + 1) + (i - (min (off + j) cs.size + (vs.length + 1))) := by omega
          simp [e1, e2, e3, e4, e5, e6]
          intro h9
          exact absurd h9 (by omega)
theorem Adm {R : L → Value → Prop} (f : Nat → Option (Nat × Nat)) : ∀ (q : List (Nat × List L)) (vs : List (Nat × Value)) (z ls : List L) (cs : Array Value),
    All2 (fun x y => x.1 = y.1 ∧ All2 R x.2 y.2.cells.toList) q vs → All2 R z cs.toList → Dw f z q = some ls → ∃ cs', Instr.fill f cs vs = some cs' ∧ All2 R ls cs'.toList
  | [], _, z, ls, cs, h1, h2, h3 => by cases h1; cases h3; exact ⟨cs, rfl, h2⟩
  | (i, new) :: q, _, z, ls, cs, h1, h2, h3 => by
    cases h1 with
    | cons h4 h5 =>
      rename_i y vs
      obtain ⟨i', v⟩ := y
      obtain ⟨rfl, h6⟩ := h4
      simp only [Dw] at h3
      obtain ⟨⟨off, size⟩, hf, h7⟩ := Option.bind_eq_some_iff.1 h3
      split at h7
      · rename_i hc
        obtain ⟨hc1, hc2⟩ := hc
        have hl1 := h6.len
        have hl2 := h2.len
        simp only [Array.length_toList] at hl1 hl2
        have h8 : v.cells.zipIdx.foldl (fun cs (c, j) => cs.setIfInBounds (off + j) c) cs = (cs.toList.take off ++ v.cells.toList ++ cs.toList.drop (off + v.cells.toList.length)).toArray := by
          have := Afd v.cells.toList off 0 cs (by simp; omega)
          rw [← Array.toList_inj]
          rw [← Array.foldl_toList, Array.toList_zipIdx]
          simpa using this
        have h9 : All2 R (splice z off new) (cs.toList.take off ++ v.cells.toList ++ cs.toList.drop (off + v.cells.toList.length)) := by
          unfold splice
          have : new.length = v.cells.toList.length := by rw [Array.length_toList]; exact hl1
          rw [this]
          exact ((h2.take off).app h6).app (h2.drop _)
        obtain ⟨cs', hfill, ha⟩ := Adm f q vs _ ls (cs.toList.take off ++ v.cells.toList ++ cs.toList.drop (off + v.cells.toList.length)).toArray h5 (by simpa using h9) h7
        refine ⟨cs', ?_, ha⟩
        simp only [Instr.fill, hf]
        rw [if_neg, h8]
        · exact hfill
        · simp only [ne_eq, Bool.or_eq_true, decide_eq_true_eq, not_or, Decidable.not_not]
          simp at hc1
          constructor <;> omega
      · cases h7
theorem Wq (h : Holds F s G a.tmps.toList w) : ∀ (ps : List (Nat × Operand)) (q : List (Nat × List L)), Bl s ps = some q →
    All2 (fun x y => x.1 = y.1 ∧ All2 (HR F s G w) x.2 y.2.cells.toList) q (ps.map fun (x : Nat × Operand) => (x.1, a.eval x.2))
  | [], q, h1 => by cases h1; exact .nil
  | (i, x) :: ps, q, h1 => by
    simp only [Bl] at h1
    obtain ⟨ls, hl, h2⟩ := Option.bind_eq_some_iff.1 h1
    obtain ⟨q', hq, rfl⟩ := Option.map_eq_some_iff.1 h2
    exact .cons ⟨rfl, Wc h hl⟩ (Wq h ps q' hq)
theorem Ec {t : Nat} {z : List L} (h : Bo P t = some z) : ∃ i v, P.info? t = some i ∧ i.zero = some v ∧ z = v.cells.toList.map A0 ∧ ∀ u ∈ v.cells.toList, u.oneCell' = true := by
  unfold Bo at h
  obtain ⟨v, hv, h2⟩ := Option.bind_eq_some_iff.1 h
  obtain ⟨i, hi, hz⟩ := Option.bind_eq_some_iff.1 hv
  split at h2
  · rename_i h3
    cases h2
    exact ⟨i, v, hi, hz, rfl, fun u hu => List.all_eq_true.1 h3 u hu⟩
  · cases h2
theorem v_build (h : Holds F s G a.tmps.toList w) {t : Nat} {ps : Array (Nat × Operand)} (ho : o.op = .build t ps) (hv : (opV P s (.build t ps)).val = some v) : VOK P F s G a w o v := by
  simp only [opV] at hv
  split at hv
  · rename_i z q f hz hq hf
    rw [Oc.val_ofOption] at hv
    obtain ⟨ls, hls, rfl⟩ := Option.map_eq_some_iff.1 hv
    obtain ⟨i, zv, hi, hzz, rfl, h1⟩ := Ec hz
    have hp := Wq h ps.toList q hq
    obtain ⟨cs', hfill, ha⟩ := Adm (R := HR F s G w) f q _ _ ls zv.cells hp (Ey (fun u hu => Ex u hu) _ h1) hls
    have e1 : (ps.map fun (x : Nat × Operand) => (x.1, a.eval x.2)).toList = ps.toList.map fun (x : Nat × Operand) => (x.1, a.eval x.2) := by simp
    have hb : P.built t (ps.map fun (x : Nat × Operand) => (x.1, a.eval x.2)).toList = some cs' := by
      rw [e1]
      unfold A5o at hf
      unfold Program.built
      split at hf
      · rename_i fs hu
        obtain ⟨pl, hpl, rfl⟩ := Option.map_eq_some_iff.1 hf
        simp only [hi, hu, hzz, hpl]
        exact hfill
      · rename_i m e hu
        obtain ⟨ie, hie, rfl⟩ := Option.map_eq_some_iff.1 hf
        simp only [hi, hu, hzz, hie]
        exact hfill
      · cases hf
    exact .same (u := .agg cs') (by simp only [execOp, ho, Sem.run_bind]; rw [run_build w t _ cs' hb]; rfl) ⟨cs', rfl, ha⟩
  · cases hv
theorem Biq (h : Holds F s G a.tmps.toList w) (hv : (opV P s o.op).val = some v) : VOK P F s G a w o v := by
  cases ho : o.op with
  | move x => rw [ho] at hv; cases hv; exact A9c h (.inl ho) rfl
  | assign x => rw [ho] at hv; cases hv; exact A9c h (.inr ho) rfl
  | pick c x y =>
    rw [ho] at hv
    simp only [opV] at hv
    split at hv
    · rename_i b hb
      exact v_pick h ho hb hv
    · cases hv
  | build t ps => rw [ho] at hv; exact v_build h ho hv
  | load t x =>
    rw [ho] at hv
    simp only [opV] at hv
    split at hv
    · rename_i l n hl hn
      split at hv
      · rename_i hu
        rw [Oc.val_ofOption] at hv
        exact v_load h ho hl hn hv hu
      · cases hv
    · cases hv
  | nilCheck x =>
    rw [ho] at hv
    simp only [opV] at hv
    split at hv <;> first | (cases hv; done) | skip
    all_goals
      first
      | (rename_i hl
         cases hv
         exact v_nil h ho hl rfl)
      | (rename_i z ps hl
         cases z with
         | true => cases hv
         | false =>
           cases hv
           have h1 := As h hl
           obtain ⟨ad, cs, e, h2⟩ := (show RP w (okS F s G w) ps (a.eval x) from h1)
           exact .same (u := a.eval x) (by simp [execOp, ho, e]) ⟨ad, cs, e, h2⟩)
  | binOp op t x y t' =>
    rw [ho] at hv
    simp only [opV] at hv
    split at hv
    · rename_i l1 l2 h1 h2
      split at hv
      · rename_i r hn
        cases hv
        exact A9d h ho h1 hn (.inl ⟨rfl, rfl⟩)
      · rename_i r hn
        cases hv
        exact A9d h ho h1 hn (.inr ⟨rfl, rfl⟩)
      · exact v_bin h ho h1 h2 hv
    · split at hv
      · rename_i xs ys h1 h2
        rw [Oc.val_ofOption] at hv
        obtain ⟨r, hr, rfl⟩ := Option.map_eq_some_iff.1 hv
        exact A9b h ho h1 h2 hr (.inl ⟨rfl, rfl⟩)
      · rename_i xs ys h1 h2
        rw [Oc.val_ofOption] at hv
        obtain ⟨r, hr, rfl⟩ := Option.map_eq_some_iff.1 hv
        exact A9b h ho h1 h2 hr (.inr ⟨rfl, rfl⟩)
      · cases hv
  | unOp op t x =>
    rw [ho] at hv
    simp only [opV] at hv
    split at hv
    · rename_i p hp
      rw [Oc.val_ofOption] at hv
      exact v_un h ho hp hv
    · cases hv
  | convert t1 t2 x => rw [ho] at hv; exact Bj5 h ho hv
  | makeInterface t x => rw [ho] at hv; exact v_ifc h ho hv
  | makeFunc f x y =>
    rw [ho] at hv
    cases f with
    | func f => exact v_func h ho hv
    | _ => simp only [opV] at hv; cases hv
  | fieldAddr S x f => rw [ho] at hv; exact Bj7 h ho hv
  | field S x f => rw [ho] at hv; exact v_field h ho hv
  | indexAddr T x y => rw [ho] at hv; exact Bj8 h ho hv
  | index T x y => rw [ho] at hv; exact v_index h ho hv
  | extract x i => rw [ho] at hv; exact Bj6 h ho hv
  | slice T x lo hi mx =>
    rw [ho] at hv
    cases mx with
    | none => exact v_slice h ho hv
    | some m => simp only [opV] at hv; cases hv
  | call c =>
    obtain ⟨f, as, ts⟩ := c
    rw [ho] at hv
    cases f with
    | builtin b =>
      cases b <;> first | exact v_len h ho hv | exact v_min h ho hv | exact v_max h ho hv | (simp only [opV] at hv; cases hv)
    | _ => simp only [opV] at hv; cases hv
  | _ => rw [ho] at hv; simp only [opV] at hv; cases hv
end
theorem HL.tr {G G' : Gm} {w w' : World} {ok ok' : Nat → Prop} {os os' : List (Option Own)} {l : L} {v : Value} (h1 : ∀ k, ok k → ok' k ∧ w'.heap[k]? = w.heap[k]?)
  (hb : ∀ b, l.noB b = false → G'.bx b = G.bx b ∧ G'.et b = G.et b) (ho : ∀ q, l.noO q = false → G'.ow q = G.ow q)
  (h2 : ∀ (q : Nat) (x' : Own), l.noO q = false → (os'[q]?).bind id = some x' → ∃ x : Own, (os[q]?).bind id = some x ∧ x.xs.length ≤ x'.xs.length ∧ x.t.size = x'.t.size)
  (h : HL G w ok os l v) (hfx : G'.fx = G.fx := by rfl) : HL G' w' ok' os' l v := by
 cases l with
 | dead => exact h
 | pv p => exact RepL.mono h1 h
 | cst k => exact h
 | ptr b o => rw [show v = _ from h]; show _ = _; rw [(hb b (by simp [L.noB])).1]
 | own l => exact ⟨by rw [ho l (by simp [L.noO])]; exact h.1, h.2⟩
 | ept l i o sz =>
  obtain ⟨g, n, c, e, e2, e3⟩ := h
  refine ⟨g, n, c, by rw [ho l (by simp [L.noO])]; exact e, e2, fun x' hx => ?_⟩
  obtain ⟨x, hx, hl, hs⟩ := h2 l x' (by simp [L.noO]) hx
  have := e3 x hx
  exact ⟨by omega, by omega⟩
 | rpt ps =>
  obtain ⟨a, cs, e, hs, ho, hc, hr⟩ := h
  exact ⟨a, cs, e, hs, (h1 _ ho).1, hc.move (h1 _ ho).2, hr.imp fun _ _ h => h.mono h1⟩
 | fn f a c =>
  have e : ∀ (q : List (Nat × Nat)), (∀ x ∈ q, (L.fn f a c).noB x.1 = false) → q.map (ptrV G) = q.map (ptrV G') := by
   intro q hq
   apply List.map_congr_left
   intro x hx
   simp only [ptrV]
   rw [(hb x.1 (hq x hx)).1]
  rw [show v = _ from h]
  show _ = _
  rw [e a (fun x hx => ?_), e c (fun x hx => ?_)]
  ·simp only [L.noB, Bool.and_eq_false_iff]
   exact .inr (List.all_eq_false.2 ⟨x, hx, by simp⟩)
  ·simp only [L.noB, Bool.and_eq_false_iff]
   exact .inl (List.all_eq_false.2 ⟨x, hx, by simp⟩)
 | ifc t ps g =>
  obtain ⟨cs, hr, e⟩ := h
  exact ⟨cs, hr.imp fun _ _ h => h.mono h1, e⟩
 | err b => exact h
 | bld b t z =>
  have hb2 := hb b (by simp [L.noB])
  refine ⟨by rw [hb2.1]; exact h.1, by rw [hb2.2]; exact h.2⟩
 | sb b n =>
  have hb2 := hb b (by simp [L.noB])
  show v = _
  rw [hb2.1]; exact h
 | ifp t b o =>
  have hb2 := hb b (by simp [L.noB])
  show v = _
  rw [hb2.1]; exact h
 | erp z t ps => cases z with
  | true => exact h
  | false =>
   obtain ⟨u, e, hr⟩ := h
   exact ⟨u, e, hr.mono h1⟩
 | orp z ps => cases z with
  | true => exact h
  | false => exact RP.mono h1 h
 | rro i n l =>
  obtain ⟨g, cs, c, u, hm, e, k1, k2, k3, k4, k5⟩ := h
  exact ⟨g, cs, c, u, by rw [hfx]; exact hm, e, k1, k2, k3, by rw [ho l (by simp [L.noO])]; exact k4, k5⟩
 | rrp l =>
  obtain ⟨g, cs, i, u, hm, e, k3, k4, k5⟩ := h
  exact ⟨g, cs, i, u, by rw [hfx]; exact hm, e, k3, by rw [ho l (by simp [L.noO])]; exact k4, k5⟩
section
variable {P : Program} {F : Nat → Prop} {s s' : St} {G : Gm} {a : Act} {w : World} {o : Oper} {v : AV} {vals : List Value}
theorem Qq {p : L → Bool} (h : s.all p = true) : ∀ x ∈ s.slots, x.all p = true := by
 simp only [St.all, Bool.and_eq_true, List.all_eq_true] at h
 exact h.1
theorem Fi {p : L → Bool} (h : s.all p = true) {b : Nat} {ls : List L} (hb : Ae s b = some ls) : ∀ l ∈ ls, p l = true := by
 simp only [St.all, Bool.and_eq_true, List.all_eq_true] at h
 unfold Ae at hb
 cases he : s.boxes[b]? with
 | none => simp [he] at hb
 | some x =>
  simp [he] at hb
  subst hb
  have := h.2 _ (List.mem_of_getElem? he)
  simpa using this
theorem Y1 {p : L → Bool} (hc : ∀ v, p (A0 v) = true) (hf : ∀ f, p (.fn f [] []) = true) (h : s.all p = true) (x : Operand) : (s.get x).all p = true := by
 cases x with
 | tmp t =>
  simp only [St.get]
  cases he : s.slots[t]? with
  | none => simp [List.getD, he, AV.all]
  | some v =>
   rw [show s.slots.getD t .dead = v from by simp [List.getD, he]]
   exact Qq h v (List.mem_of_getElem? he)
 | const v =>
  simp only [St.get, Md]
  split
  ·split
   ·simp [AV.all, CV.leaves, hc]
   ·rfl
  ·rfl
  ·simp [lf, AV.all, CV.leaves, hc]
 | global g => rfl
 | func f => simp [St.get, lf, AV.all, CV.leaves, hf]
theorem Me (n : Nat) (v : Value) : (A0 v).noB n = true := by unfold A0; split <;> (try split) <;> rfl
theorem Rb (n : Nat) (v : Value) : (A0 v).noO n = true := by unfold A0; split <;> (try split) <;> rfl
theorem An9 {p : L → Bool} {x : AV} (h : x.all p = true) {ls : List L} (hl : Cj x = some ls) : ∀ l ∈ ls, p l = true := by
 unfold Cj at hl
 split at hl
 ·cases hl; simpa [AV.all] using h
 ·cases hl
theorem Zc {b : Nat} {ls : List L} (hb : b < s.boxes.length) (b' : Nat) : Ae (At s b ls) b' = if b' = b then some ls else Ae s b' := by
 unfold Ae At
 simp only [List.getElem?_set]
 by_cases h : b = b'
 ·subst h; simp [hb]
 ·have : ¬ b' = b := fun e => h e.symm
  simp [h, this]
theorem Wk {b : Nat} {x : Option Own} (hb : b < s.owns.length) (b' : Nat) : Aa (Al s b x) b' = if b' = b then x else Aa s b' := by
 unfold Aa Al
 simp only [List.getElem?_set]
 by_cases h : b = b'
 ·subst h; simp [hb]
 ·have : ¬ b' = b := fun e => h e.symm
  simp [h, this]
theorem T4 {n : Nat} (h : Bq s n = true) : Ae s n = none ∧ n < s.boxes.length ∧ s.all (L.noB n) = true := by
 simp only [Bq, Bool.and_eq_true] at h
 obtain ⟨h1, h2⟩ := h
 cases he : s.boxes[n]? with
 | none => rw [he] at h1; cases h1
 | some x =>
  rw [he] at h1
  cases x with
  | none => exact ⟨by simp [Ae, he], (List.getElem?_eq_some_iff.1 he).1, h2⟩
  | some y => cases h1
theorem Az8 {n : Nat} (h : Ch s n = true) : Aa s n = none ∧ n < s.owns.length ∧ s.all (L.noO n) = true := by
 simp only [Ch, Bool.and_eq_true] at h
 obtain ⟨h1, h2⟩ := h
 cases he : s.owns[n]? with
 | none => rw [he] at h1; cases h1
 | some x =>
  rw [he] at h1
  cases x with
  | none => exact ⟨by simp [Aa, he], (List.getElem?_eq_some_iff.1 he).1, h2⟩
  | some y => cases h1
@[simp] theorem setBox_ownAt (b : Nat) (ls : List L) (l : Nat) : Aa (At s b ls) l = Aa s l := rfl
@[simp] theorem setOwn_boxAt (b : Nat) (x : Option Own) (l : Nat) : Ae (Al s b x) l = Ae s l := rfl
@[simp] theorem setBox_owns (b : Nat) (ls : List L) : (At s b ls).owns = s.owns := rfl
def Gm.setB (G : Gm) (n k t : Nat) : Gm := { G with bx := fun b => if b = n then k else G.bx b, et := fun b => if b = n then t else G.et b }
def Gm.setO (G : Gm) (n : Nat) (v : Value) : Gm := { G with ow := fun b => if b = n then v else G.ow b }
theorem Aof (h : Holds F s G a.tmps.toList w) {n : Nat} (hf : Bq s n = true) (hN : N0 ≤ n) {ls : List L} (hls : ∀ l ∈ ls, l.noB n = true) {cs : Array Value} (et : Nat) (hc : All2 (HR F s G w) ls cs.toList) (d : Option Nat) :
  Holds F ((At s n ls).put d (lf (.ptr n 0))) (G.setB n w.heap.size et) (a.put d (.pointer (some ⟨w.heap.size, 0, none⟩))).tmps.toList (w.alloc (.cells cs et)) ∧
   Step N0 N0 s G w ((At s n ls).put d (lf (.ptr n 0))) (G.setB n w.heap.size et) (w.alloc (.cells cs et)) := by
 obtain ⟨hn, hlt, hall⟩ := T4 hf
 have hbx := fun b => Zc (s := s) (ls := ls) hlt b
 have hG : ∀ b, b ≠ n → (G.setB n w.heap.size et).bx b = G.bx b := fun b hb => by simp [Gm.setB, hb]
 have hGn : (G.setB n w.heap.size et).bx n = w.heap.size := by simp [Gm.setB]
 have hGe : ∀ b, b ≠ n → (G.setB n w.heap.size et).et b = G.et b := fun b hb => by simp [Gm.setB, hb]
 have hlive : ∀ k, Live (At s n ls) (G.setB n w.heap.size et) k ↔ Live s G k ∨ k = w.heap.size := by
  intro k
  constructor
  ·rintro (⟨b, q, hb, rfl⟩ | ⟨l, q, hq, hk⟩)
   ·rw [hbx] at hb
    split at hb
    ·rename_i e; subst e; exact .inr hGn
    ·rename_i e; exact .inl (.inl ⟨b, q, hb, (hG b e).symm⟩)
   ·exact .inl (.inr ⟨l, q, hq, hk⟩)
  ·rintro ((⟨b, q, hb, rfl⟩ | ⟨l, q, hq, hk⟩) | rfl)
   ·have e : b ≠ n := by rintro rfl; rw [hn] at hb; cases hb
    exact .inl ⟨b, q, by rw [hbx, if_neg e]; exact hb, hG b e⟩
   ·exact .inr ⟨l, q, hq, hk⟩
   ·exact .inl ⟨n, ls, by rw [hbx]; simp, hGn⟩
 have hgr := Grew.alloc w (.cells cs et)
 have hok : ∀ k, okS F s G w k → okS F (At s n ls) (G.setB n w.heap.size et) (w.alloc (.cells cs et)) k ∧ (w.alloc (.cells cs et)).heap[k]? = w.heap[k]? := by
  intro k hk
  refine ⟨⟨Nat.lt_of_lt_of_le hk.1 hgr.size, hk.2.1, fun hL => ?_⟩, hgr.block hk.1⟩
  rcases (hlive k).1 hL with h1 | h1
  ·exact hk.2.2 h1
  ·have := hk.1; omega
 have htr : ∀ l v, l.noB n = true → HR F s G w l v → HR F (At s n ls) (G.setB n w.heap.size et) (w.alloc (.cells cs et)) l v := by
  intro l v hl hr
  refine HL.tr hok (fun b hb => have e : b ≠ n := ?_; ⟨hG b e, by simp [Gm.setB, e]⟩) (fun _ _ => rfl) (fun q x' _ hx => ⟨x', hx, Nat.le_refl _, rfl⟩) hr
  rintro rfl
  rw [hl] at hb
  cases hb
 have hH : Holds F (At s n ls) (G.setB n w.heap.size et) a.tmps.toList (w.alloc (.cells cs et)) := by
  refine ⟨?_, ?_, ?_, ?_, ?_, h.oo, ?_, ?_, ?_, h.glOf (fun k hk _ => hgr.block hk) fun k hk => ((hlive k).1 hk).imp id fun e => Nat.le_of_eq e.symm⟩
  ·exact h.slots.imp_mem fun x u hx ha => HA.imp_all htr (Qq hall x hx) ha
  ·intro b q hb
   rw [hbx] at hb
   split at hb
   ·rename_i e
    subst e
    cases hb
    exact ⟨cs, et, by rw [hGn]; exact heap_alloc_new w _, hc.imp_mem fun l u hl hr => htr l u (hls l hl) hr⟩
   ·rename_i e
    obtain ⟨cs', et', h1, h2⟩ := h.box b q hb
    refine ⟨cs', et', ?_, h2.imp_mem fun l u hl hr => htr l u (Fi hall hb l hl) hr⟩
    rw [hG b e, hgr.block (Array.getElem?_eq_some_iff.1 h1).1]
    exact h1
  ·intro l q hq
   obtain ⟨h0, cs', h1, h2⟩ := h.own l q hq
   exact ⟨h0, cs', Fb h1 (fun k hk => hgr.block (h1.lt k hk).2), h2.mono hok⟩
  ·intro b b' q q' hb hb' e
   rw [hbx] at hb hb'
   split at hb <;> split at hb'
   ·rename_i e1 e2; rw [e1, e2]
   ·rename_i e1 e2
    subst e1
    rw [hGn, hG b' e2] at e
    obtain ⟨_, _, h1, _⟩ := h.box b' q' hb'
    have := (Array.getElem?_eq_some_iff.1 h1).1
    omega
   ·rename_i e1 e2
    subst e2
    rw [hGn, hG b e1] at e
    obtain ⟨_, _, h1, _⟩ := h.box b q hb
    have := (Array.getElem?_eq_some_iff.1 h1).1
    omega
   ·rename_i e1 e2
    rw [hG b e1, hG b' e2] at e
    exact h.bb b b' q q' hb hb' e
  ·intro b q l x hb hx e
   rw [hbx] at hb
   split at hb
   ·rename_i e1
    subst e1
    rw [hGn] at e
    have := h.lt (.inr ⟨l, x, hx, e⟩)
    omega
   ·rename_i e1
    rw [hG b e1] at e
    exact h.bo b q l x hb hx e
  ·intro k hk hF
   rcases (hlive k).1 hk with h1 | rfl
   ·exact h.nF k h1 hF
   ·exact Nat.lt_irrefl _ (h.Flt _ hF)
  ·exact fun k hk => Nat.lt_of_lt_of_le (h.Flt k hk) hgr.size
  ·intro b q hb cs' et' fr' hc'
   rw [hbx] at hb
   split at hb
   ·rename_i e
    subst e
    rw [hGn, heap_alloc_new w _] at hc'
    cases hc'
    simp [Gm.setB]
   ·rename_i e
    obtain ⟨cs2, et2, h1, h2⟩ := h.box b q hb
    rw [hG b e, hgr.block (Array.getElem?_eq_some_iff.1 h1).1] at hc'
    have := h.ty b q hb cs' et' fr' hc'
    simpa [Gm.setB, e] using this
 refine ⟨hH.put d (v := lf (.ptr n 0)) (by show _ = _; rw [hGn]), Step.trans (s1 := At s n ls) ⟨⟨hgr.os, hgr.tape, hgr.output, hgr.size, fun k hk _ => hgr.block hk⟩, fun k hk => ?_, fun b hb => ⟨hG b (by omega), hGe b (by omega)⟩, fun l _ q hq => ⟨⟨q, hq⟩, rfl⟩, rfl⟩ (Step.put d _)⟩
 rcases (hlive k).1 hk with h1 | rfl
 ·exact .inl h1
 ·exact .inr (Nat.le_refl _)
def gone (s : St) : Option Nat → St
 | none => s
 | some l => D7 s l
def Em : Option Nat → L → L
 | none, l => l
 | some n, l => Dm n l
theorem Bhs (c : Option Nat) : (gone s c).slots = (match c with | none => s.slots | some n => s.slots.map (AV.map (Dm n))) := by cases c <;> rfl
theorem Kv {c : Option Nat} {b : Nat} {ls : List L} (h : Ae (gone s c) b = some ls) : ∃ q, Ae s b = some q ∧ ls = q.map (Em c) := by
 cases c with
 | none => exact ⟨ls, h, by simp [show Em none = id from rfl]⟩
 | some n =>
  simp only [gone, D7, setOwn_boxAt] at h
  unfold Ae St.map at h
  simp only [List.getElem?_map] at h
  unfold Ae
  cases he : s.boxes[b]? with
  | none => simp [he] at h
  | some x =>
   cases x with
   | none => simp [he] at h
   | some q => simp [he] at h; exact ⟨q, rfl, h.symm⟩
theorem A9y {c : Option Nat} {b : Nat} {q : List L} (h : Ae s b = some q) : Ae (gone s c) b = some (q.map (Em c)) := by
 cases c with
 | none => rw [show Em none = id from rfl]; simpa [gone] using h
 | some n =>
  simp only [gone, D7, setOwn_boxAt]
  unfold Ae at h ⊢
  unfold St.map
  simp only [List.getElem?_map]
  cases he : s.boxes[b]? with
  | none => simp [he] at h
  | some x =>
   cases x with
   | none => simp [he] at h
   | some y => simp [he] at h; subst h; rfl
theorem Bhr (c : Option Nat) (l : Nat) : Aa (gone s c) l = if c = some l then none else Aa s l := by
 cases c with
 | none => simp [gone]
 | some n =>
  simp only [gone, D7]
  by_cases hlt : n < s.owns.length
  ·rw [Wk (s := s.map (Dm n)) hlt]
   by_cases h : l = n
   ·subst h; simp
   ·have : ¬ n = l := fun e => h e.symm
    simp [h, this]
    rfl
  ·have e1 : Aa (Al (s.map (Dm n)) n none) l = Aa s l := by
    unfold Aa Al
    simp only [St.map]
    rw [List.set_eq_of_length_le (by omega)]
   rw [e1]
   split
   ·rename_i e
    cases e
    unfold Aa
    rw [List.getElem?_eq_none (by omega)]
    rfl
   ·rfl
theorem Holds.bb' (h : Holds F s G vals w) (c : Option Nat) (n : Nat) (o : Own) : ∀ b b' ls ls', Ae (Al (gone s c) n (some o)) b = some ls → Ae (Al (gone s c) n (some o)) b' = some ls' → G.bx b = G.bx b' → b = b' := by
 intro b b' q q' hb hb' e
 obtain ⟨p, hp, _⟩ := Kv (c := c) hb
 obtain ⟨p', hp', _⟩ := Kv (c := c) hb'
 exact h.bb b b' p p' hp hp' e
theorem Hj (h : Holds F s G a.tmps.toList w) {n : Nat} (c : Option Nat) (hf : Ch (gone s c) n = true) (hN : N0 ≤ n) {o : Own} {v' : Value} {w' : World} (h0 : 0 < o.t.size)
  (hk : Keeps (fun k => ∃ l x, c = some l ∧ Aa s l = some x ∧ (G.ow l).ownBlock = some k) w w')
  (hat : ∀ k, v'.ownBlock = some k → (∃ l x, c = some l ∧ Aa s l = some x ∧ (G.ow l).ownBlock = some k) ∨ w.heap.size ≤ k)
  {cs : List Value} (hr : w'.ownsRow 0 o.e o.t.size v' o.xs.length cs) (he : RepRow w (okS F s G w) o.t o.xs cs) (h1c : v'.oneCell' = true) (d : Option Nat) :
  Holds F ((Al (gone s c) n (some o)).put d (lf (.own n))) (G.setO n v') (a.put d v').tmps.toList w' ∧
   Step N0 N0 s G w ((Al (gone s c) n (some o)).put d (lf (.own n))) (G.setO n v') w' := by
 obtain ⟨hn, hlt, hall⟩ := Az8 hf
 have hox := fun l => Wk (s := gone s c) (x := some o) hlt l
 have hG : ∀ l, l ≠ n → (G.setO n v').ow l = G.ow l := fun l hl => by simp [Gm.setO, hl]
 have hGn : (G.setO n v').ow n = v' := by simp [Gm.setO]
 have hold : ∀ l x, Aa (Al (gone s c) n (some o)) l = some x → (l = n ∧ x = o) ∨ (l ≠ n ∧ c ≠ some l ∧ Aa s l = some x) := by
  intro l x hx
  rw [hox] at hx
  split at hx
  ·rename_i e; cases hx; exact .inl ⟨e, rfl⟩
  ·rename_i e
   rw [Bhr] at hx
   split at hx
   ·cases hx
   ·rename_i e2; exact .inr ⟨e, e2, hx⟩
 have hlive : ∀ k, Live (Al (gone s c) n (some o)) (G.setO n v') k → Live s G k ∨ w.heap.size ≤ k := by
  rintro k (⟨b, q, hb, rfl⟩ | ⟨l, x, hx, hkk⟩)
  ·obtain ⟨q', hq', _⟩ := Kv (c := c) hb
   exact .inl (.inl ⟨b, q', hq', rfl⟩)
  ·rcases hold l x hx with ⟨rfl, rfl⟩ | ⟨e1, _, e3⟩
   ·rw [hGn] at hkk
    rcases hat k hkk with ⟨l', x', _, h2, h3⟩ | h2
    ·exact .inl (.inr ⟨l', x', h2, h3⟩)
    ·exact .inr h2
   ·rw [hG l e1] at hkk
    exact .inl (.inr ⟨l, x, e3, hkk⟩)
 have hblk : ∀ k, k < w.heap.size → (∀ l x, c = some l → Aa s l = some x → (G.ow l).ownBlock ≠ some k) → w'.heap[k]? = w.heap[k]? :=
  fun k hk1 hk2 => hk.block k hk1 (by rintro ⟨l, x, e1, e2, e3⟩; exact hk2 l x e1 e2 e3)
 have hok : ∀ k, okS F s G w k → okS F (Al (gone s c) n (some o)) (G.setO n v') w' k ∧ w'.heap[k]? = w.heap[k]? := by
  intro k hk1
  refine ⟨⟨Nat.lt_of_lt_of_le hk1.1 hk.size, hk1.2.1, fun hL => ?_⟩, hblk k hk1.1 fun l x e1 e2 e3 => hk1.2.2 (.inr ⟨l, x, e2, e3⟩)⟩
  rcases hlive k hL with h2 | h2
  ·exact hk1.2.2 h2
  ·have := hk1.1; omega
 have htr : ∀ l v, l.noO n = true → Em c l = l → HR F s G w l v → HR F (Al (gone s c) n (some o)) (G.setO n v') w' l v := by
  intro l v hl hgl hr
  refine HL.tr (G := G) hok (fun _ _ => ⟨rfl, rfl⟩) (fun q hq => hG q ?_) (fun q x' hq hx => ?_) hr
  ·rintro rfl
   rw [hl] at hq
   cases hq
  ·rcases hold q x' hx with ⟨rfl, _⟩ | ⟨_, _, e3⟩
   ·rw [hl] at hq; cases hq
   ·exact ⟨x', e3, Nat.le_refl _, rfl⟩
 have hdead : ∀ v, v.oneCell' = true → HR F (Al (gone s c) n (some o)) (G.setO n v') w' .dead v := fun v hv => hv
 have htr2 : ∀ l v, (Em c l).noO n = true → HR F s G w l v → HR F (Al (gone s c) n (some o)) (G.setO n v') w' (Em c l) v := by
  intro l v hl hr
  have hcase : Em c l = l ∨ Em c l = .dead := by
   cases c with
   | none => exact .inl rfl
   | some m =>
    simp only [Em, Dm]
    split <;> (try split) <;> first | exact .inr rfl | exact .inl rfl
  rcases hcase with e | e
  ·rw [e] at hl ⊢
   exact htr l v hl e hr
  ·rw [e]
   exact hdead v hr.one
 have hH : Holds F (Al (gone s c) n (some o)) (G.setO n v') a.tmps.toList w' := by
  refine ⟨?_, ?_, ?_, h.bb' c n o, ?_, ?_, ?_, ?_, ?_, h.glOf (fun k hk1 hk2 => hblk k hk1 fun l x _ e2 e3 => hk2 (.inr ⟨l, x, e2, e3⟩)) hlive⟩
  ·have h5 : All2 (HA (HR F s G w)) s.slots a.tmps.toList := h.slots
   have hall2 := Qq hall
   show All2 _ (gone s c).slots _
   rw [Bhs] at hall2 ⊢
   cases c with
   | none => exact h5.imp_mem fun x u hx ha => HA.imp_all (fun l v hl hr => htr2 l v hl hr) (hall2 x hx) ha
   | some m =>
    have h6 : All2 (fun x u => HA (HR F (Al (gone s (some m)) n (some o)) (G.setO n v') w') (AV.map (Dm m) x) u) s.slots a.tmps.toList := by
     refine h5.imp_mem fun x u hx ha => ?_
     have h7 := hall2 (AV.map (Dm m) x) (List.mem_map.2 ⟨x, hx, rfl⟩)
     exact HA.map_all (g := Dm m) (p := L.noO n) (fun l v hl hr => htr2 l v hl hr) h7 ha
    exact h6.map_left
  ·intro b q hb
   obtain ⟨q', hq', rfl⟩ := Kv (c := c) hb
   obtain ⟨cs', et', h1, h2⟩ := h.box b q' hq'
   refine ⟨cs', et', ?_, ?_⟩
   ·show w'.heap[G.bx b]? = _
    rw [hblk _ (Array.getElem?_eq_some_iff.1 h1).1 (fun l x _ e2 => h.bo b q' l x hq' e2)]
    exact h1
   ·have hall2 := Fi hall (A9y (c := c) hq')
    exact All2.map_left (h2.imp_mem fun l u hl hr => htr2 l u (hall2 _ (List.mem_map.2 ⟨l, hl, rfl⟩)) hr)
  ·intro l x hx
   rcases hold l x hx with ⟨rfl, rfl⟩ | ⟨e1, e2, e3⟩
   ·exact ⟨h0, cs, by rw [hGn]; exact hr, he.mono hok⟩
   ·obtain ⟨g0, cs', g1, g2⟩ := h.own l x e3
    refine ⟨g0, cs', ?_, g2.mono hok⟩
    rw [hG l e1]
    refine Fb g1 fun k hkk => hblk k (g1.lt k hkk).2 fun l' x' c1 c2 c3 => ?_
    have := h.oo l l' x x' k e3 c2 hkk c3
    subst this
    exact e2 c1
  ·intro b q l x hb hx e
   obtain ⟨q', hq', _⟩ := Kv (c := c) hb
   rcases hold l x hx with ⟨rfl, rfl⟩ | ⟨e1, e2, e3⟩
   ·rw [hGn] at e
    rcases hat _ e with ⟨l', x', _, g2, g3⟩ | g2
    ·exact h.bo b q' l' x' hq' g2 g3
    ·have := h.lt (.inl ⟨b, q', hq', rfl⟩)
     have e8 : (G.setO l v').bx b = G.bx b := rfl
     rw [e8] at g2
     omega
   ·rw [hG l e1] at e
    exact h.bo b q' l x hq' e3 e
  ·intro l l' x x' k hx hx' e e'
   rcases hold l x hx with ⟨rfl, rfl⟩ | ⟨e1, e2, e3⟩ <;> rcases hold l' x' hx' with ⟨f1, rfl⟩ | ⟨f1, f2, f3⟩
   ·exact f1.symm
   ·rw [hGn] at e
    rw [hG l' f1] at e'
    rcases hat _ e with ⟨m, y, g1, g2, g3⟩ | g2
    ·have := h.oo m l' y x' k g2 f3 g3 e'
     subst this
     exact absurd g1 f2
    ·have := h.lt (.inr ⟨l', x', f3, e'⟩)
     omega
   ·subst f1
    rw [hGn] at e'
    rw [hG l e1] at e
    rcases hat _ e' with ⟨m, y, g1, g2, g3⟩ | g2
    ·have := h.oo m l y x k g2 e3 g3 e
     subst this
     exact absurd g1 e2
    ·have := h.lt (.inr ⟨l, x, e3, e⟩)
     omega
   ·rw [hG l e1] at e
    rw [hG l' f1] at e'
    exact h.oo l l' x x' k e3 f3 e e'
  ·intro k hkk hF
   rcases hlive k hkk with g1 | g1
   ·exact h.nF k g1 hF
   ·have := h.Flt k hF; omega
  ·exact fun k hkk => Nat.lt_of_lt_of_le (h.Flt k hkk) hk.size
  ·intro b q hb cs' et' fr' hc'
   obtain ⟨q', hq', _⟩ := Kv (c := c) hb
   obtain ⟨cs2, et2, h1, h2⟩ := h.box b q' hq'
   have hc2 : w'.heap[G.bx b]? = some (.cells cs' et' fr') := hc'
   rw [hblk _ (Array.getElem?_eq_some_iff.1 h1).1 (fun l x _ e2 => h.bo b q' l x hq' e2)] at hc2
   exact h.ty b q' hq' cs' et' fr' hc2
 refine ⟨hH.put d (v := lf (.own n)) ⟨.inl hGn.symm, h1c⟩, Step.trans (s1 := Al (gone s c) n (some o)) ⟨⟨hk.os, hk.tape, hk.output, hk.size, fun k hk1 hk2 => hblk k hk1 fun l x _ e2 e3 => hk2 (.inr ⟨l, x, e2, e3⟩)⟩, hlive, fun b hb => ⟨rfl, rfl⟩, fun l hl x hx => ?_, rfl⟩ (Step.put d _)⟩
 rcases hold l x hx with ⟨rfl, rfl⟩ | ⟨e1, e2, e3⟩
 ·omega
 ·exact ⟨⟨x, e3⟩, hG l e1⟩
theorem Biy (s : St) (d : Option Nat) (v u : AV) : (s.put d v).put d u = s.put d u := by
 cases d with
 | none => rfl
 | some d => simp [St.put]
theorem Bix (a : Act) (d : Option Nat) (v u : Value) : (a.put d v).put d u = a.put d u := by
 cases d with
 | none => rfl
 | some d => simp [Act.put]
theorem A4y (h : Holds F s G a.tmps.toList w) {n : Nat} (c : Option Nat) (hf : Ch (gone s c) n = true) (hN : N0 ≤ n) {o : Own} (h0 : 0 < o.t.size) (hx : o.xs = []) (ad : Option Addr) (d : Option Nat) :
  Holds F ((Al (gone s c) n (some o)).put d (lf (.own n))) (G.setO n (.slice none 0 0)) (a.put d (.slice ad 0 0)).tmps.toList w ∧
   Step N0 N0 s G w ((Al (gone s c) n (some o)).put d (lf (.own n))) (G.setO n (.slice none 0 0)) w := by
 obtain ⟨h1, h2⟩ := Hj h c hf hN (o := o) (v' := .slice none 0 0) (w' := w) h0 (Keeps.refl _ _) (fun k hk => by cases hk) (cs := []) (by rw [hx]; exact World.ownsRow_nil w 0 o.e o.t.size) (by rw [hx]; exact .nil) rfl d
 refine ⟨?_, h2⟩
 have hG : (G.setO n (.slice none 0 0)).ow n = .slice none 0 0 := by simp [Gm.setO]
 have h3 := h1.put d (v := lf (.own n)) (u := .slice ad 0 0) (show OwV ((G.setO n (.slice none 0 0)).ow n) (.slice ad 0 0) ∧ _ from ⟨by
  cases ad with
  | none => exact .inl hG.symm
  | some ad => exact .inr ⟨hG, ad, rfl⟩, rfl⟩)
 rw [Biy, Bix] at h3
 exact h3
end
section
variable {P : Program} {F : Nat → Prop} {s s' : St} {G : Gm} {a : Act} {w : World} {o : Oper} {v : AV} {vals : List Value}
theorem Aob {f : L → L} {b : Nat} {ls : List L} (h : Ae (s.map f) b = some ls) : ∃ q, Ae s b = some q ∧ ls = q.map f := by
 unfold Ae St.map at h
 simp only [List.getElem?_map] at h
 unfold Ae
 cases he : s.boxes[b]? with
 | none => simp [he] at h
 | some x =>
  cases x with
  | none => simp [he] at h
  | some q => simp [he] at h; exact ⟨q, rfl, h.symm⟩
theorem Fw {n : Nat} {x : Own} (hx : Aa s n = some x) : frz s n = Al (s.map (frzL n ⟨.slice x.t, x.xs⟩)) n none := by unfold frz; rw [hx]
theorem A5d {n : Nat} {x : Own} (hx : Aa s n = some x) : n < s.owns.length := by
 unfold Aa at hx
 cases he : s.owns[n]? with
 | none => simp [he] at hx
 | some y => exact (List.getElem?_eq_some_iff.1 he).1
theorem El (n l : Nat) : Aa (frz s n) l = if l = n then none else Aa s l := by
 cases hx : Aa s n with
 | none =>
  have : frz s n = s := by unfold frz; rw [hx]
  rw [this]
  split
  ·rename_i e; rw [e]; exact hx
  ·rfl
 | some x =>
  rw [Fw hx, Wk (s := s.map _) (A5d hx)]
  rfl
theorem Aik {n b : Nat} {ls : List L} (h : Ae (frz s n) b = some ls) : ∃ q, Ae s b = some q := by
 cases hx : Aa s n with
 | none =>
  have : frz s n = s := by unfold frz; rw [hx]
  rw [this] at h
  exact ⟨ls, h⟩
 | some x =>
  rw [Fw hx] at h
  obtain ⟨q, hq, _⟩ := Aob (f := frzL n ⟨.slice x.t, x.xs⟩) h
  exact ⟨q, hq⟩
theorem E4 (h : Holds F s G vals w) {n k : Nat} (hk : Live (frz s n) G k) : Live s G k ∧ ∀ x, Aa s n = some x → (G.ow n).ownBlock ≠ some k := by
 rcases hk with ⟨b, q, hb, rfl⟩ | ⟨l, x, hx, hkk⟩
 ·obtain ⟨q', hq'⟩ := Aik hb
  exact ⟨.inl ⟨b, q', hq', rfl⟩, fun x hx => h.bo b q' n x hq' hx⟩
 ·rw [El] at hx
  split at hx
  ·cases hx
  ·rename_i e
   exact ⟨.inr ⟨l, x, hx, hkk⟩, fun y hy e2 => e (h.oo l n x y k hx hy hkk e2)⟩
theorem Jz (h : Holds F s G vals w) (n : Nat) : Holds F (frz s n) G vals w := by
 cases hx : Aa s n with
 | none =>
  have : frz s n = s := by unfold frz; rw [hx]
  rw [this]
  exact h
 | some x =>
  have hok : ∀ k, okS F s G w k → okS F (frz s n) G w k ∧ w.heap[k]? = w.heap[k]? := fun k hk => ⟨⟨hk.1, hk.2.1, fun hL => hk.2.2 (E4 h hL).1⟩, rfl⟩
  have hok2 : ∀ k, (okS F s G w k ∨ (G.ow n).ownBlock = some k) → okS F (frz s n) G w k ∧ w.heap[k]? = w.heap[k]? := by
   rintro k (hk | hk)
   ·exact hok k hk
   ·exact ⟨⟨h.lt (.inr ⟨n, x, hx, hk⟩), h.nF k (.inr ⟨n, x, hx, hk⟩), fun hL => (E4 h hL).2 x hx hk⟩, rfl⟩
  have hl : ∀ l v, HR F s G w l v → HR F (frz s n) G w (frzL n ⟨.slice x.t, x.xs⟩ l) v := by
   intro l v hr
   have gen : l.noO n = true → HR F (frz s n) G w l v := fun hno => by
    refine HL.tr (G := G) hok (fun _ _ => ⟨rfl, rfl⟩) (fun _ _ => rfl) (fun q x' hq hx' => ?_) hr
    have h5 : Aa (frz s n) q = some x' := hx'
    rw [El] at h5
    split at h5
    ·cases h5
    ·exact ⟨x', h5, Nat.le_refl _, rfl⟩
   unfold frzL
   split
   ·rename_i l'
    split
    ·rename_i e
     subst e
     exact Rep.mono hok2 (Hn h hx hr.1)
    ·rename_i e
     exact gen (by simpa [L.noO] using e)
   ·rename_i l' i q z
    split
    ·exact hr.one
    ·rename_i e
     exact gen (by simpa [L.noO] using e)
   ·split
    ·exact hr.one
    ·rename_i e
     exact gen (by simpa [L.noO] using e)
   ·split
    ·exact hr.one
    ·rename_i e
     exact gen (by simpa [L.noO] using e)
   ·rename_i h1 h2 h3 h4
    refine gen ?_
    cases l <;> first | rfl | exact absurd rfl (h1 _) | exact absurd rfl (h2 _ _ _ _) | exact absurd rfl (h3 _ _ _) | exact absurd rfl (h4 _)
  have hbx : ∀ {b ls}, Ae (frz s n) b = some ls → ∃ q, Ae s b = some q ∧ ls = q.map (frzL n ⟨.slice x.t, x.xs⟩) := by
   intro b ls hb
   rw [Fw hx] at hb
   exact Aob (f := frzL n ⟨.slice x.t, x.xs⟩) hb
  refine ⟨?_, ?_, ?_, ?_, ?_, ?_, ?_, h.Flt, fun b ls hb => (hbx hb).elim fun q hq => h.ty b q hq.1, h.glOf (fun _ _ _ => rfl) fun k hk => .inl (E4 h hk).1⟩
  ·have e : (frz s n).slots = s.slots.map (AV.map (frzL n ⟨.slice x.t, x.xs⟩)) := by rw [Fw hx]; rfl
   rw [e]
   exact All2.map_left (h.slots.imp fun _ _ ha => HA.map hl ha)
  ·intro b ls hb
   obtain ⟨q, hq, rfl⟩ := hbx hb
   obtain ⟨cs, et, h1, h2⟩ := h.box b q hq
   exact ⟨cs, et, h1, All2.map_left (h2.imp hl)⟩
  ·intro l y hy
   rw [El] at hy
   split at hy
   ·cases hy
   ·obtain ⟨h0, cs, h1, h2⟩ := h.own l y hy
    exact ⟨h0, cs, h1, h2.mono hok⟩
  ·intro b b' q q' hb hb'
   obtain ⟨p, hp, _⟩ := hbx hb
   obtain ⟨p', hp', _⟩ := hbx hb'
   exact h.bb b b' p p' hp hp'
  ·intro b q l y hb hy
   obtain ⟨p, hp, _⟩ := hbx hb
   rw [El] at hy
   split at hy
   ·cases hy
   ·exact h.bo b p l y hp hy
  ·intro l l' y y' k hy hy'
   rw [El] at hy hy'
   split at hy <;> split at hy' <;> first | (cases hy; done) | (cases hy'; done) | exact h.oo l l' y y' k hy hy'
  ·exact fun k hk => h.nF k (E4 h hk).1
theorem Ail (h : Holds F s G vals w) (n nb no : Nat) : Step nb no s G w (frz s n) G w :=
 ⟨Keeps.refl _ _, fun k hk => .inl (E4 h hk).1, fun _ _ => ⟨rfl, rfl⟩, fun l _ x hx => by
  rw [El] at hx
  split at hx
  ·cases hx
  ·exact ⟨⟨x, hx⟩, rfl⟩, rfl⟩
theorem T5 : ∀ (ms : List Nat) {s : St}, Holds F s G vals w → Holds F (Bb s ms) G vals w
 | [], _, h => h
 | m :: ms, _, h => T5 ms (Jz h m)
theorem T6 (nb no : Nat) : ∀ (ms : List Nat) {s : St}, Holds F s G vals w → Step nb no s G w (Bb s ms) G w
 | [], s, h => Step.refl _ _ _ _ _
 | m :: ms, s, h => (Ail h m nb no).trans (T6 nb no ms (Jz h m))
theorem N2 : ∀ (ms : List Nat) (s : St) (l : Nat), Aa (Bb s ms) l = if l ∈ ms then none else Aa s l
 | [], s, l => by simp [Bb]
 | m :: ms, s, l => by
  rw [Bb, N2 ms, El]
  by_cases h1 : l ∈ ms
  ·simp [h1]
  ·by_cases h2 : l = m <;> simp [h1, h2]
theorem Aih : ∀ (ms : List Nat) {s : St}, Holds F s G vals w → ∀ {k}, Live (Bb s ms) G k → Live s G k ∧ ∀ m ∈ ms, ∀ x, Aa s m = some x → (G.ow m).ownBlock ≠ some k
 | [], s, h, k, hk => ⟨hk, fun m hm => by simp at hm⟩
 | m :: ms, s, h, k, hk => by
  obtain ⟨h1, h2⟩ := Aih ms (Jz h m) hk
  obtain ⟨h3, h4⟩ := E4 h h1
  refine ⟨h3, fun m' hm' x hx => ?_⟩
  rcases List.mem_cons.1 hm' with rfl | hm'
  ·exact h4 x hx
  ·by_cases e : m' = m
   ·subst e; exact h4 x hx
   ·exact h2 m' hm' x (by rw [El, if_neg e]; exact hx)
theorem Aii (h : Holds F s G vals w) (ms : List Nat) {k : Nat} (hk : okS F s G w k ∨ ∃ m ∈ ms, ∃ x, Aa s m = some x ∧ (G.ow m).ownBlock = some k) : okS F (Bb s ms) G w k := by
 rcases hk with hk | ⟨m, hm, x, hx, hk⟩
 ·exact ⟨hk.1, hk.2.1, fun hL => hk.2.2 (Aih ms h hL).1⟩
 ·exact ⟨h.lt (.inr ⟨m, x, hx, hk⟩), h.nF k (.inr ⟨m, x, hx, hk⟩), fun hL => (Aih ms h hL).2 m hm x hx hk⟩
theorem A0c : ∀ (ms : List Nat) {s : St} {b : Nat} {ls : List L}, Ae (Bb s ms) b = some ls → ∃ q, Ae s b = some q
 | [], _, _, ls, h => ⟨ls, h⟩
 | m :: ms, s, b, ls, h => by
  obtain ⟨q, hq⟩ := A0c ms h
  exact Aik hq
theorem A5g {w : World} {ok : Nat → Prop} : ∀ {ps : List PL} {q : List P0} {cs : List Value}, Wl ps = some q → All2 (RepL w ok) ps cs → All2P q cs
 | [], q, cs, h, h2 => by cases h; cases h2; exact .nil
 | p :: r, q, cs, h, h2 => by
  simp only [Wl] at h
  obtain ⟨a, ha, h3⟩ := Option.bind_eq_some_iff.1 h
  obtain ⟨b, hb, rfl⟩ := Option.map_eq_some_iff.1 h3
  cases h2 with
  | cons h4 h5 =>
   refine .cons ?_ (A5g hb h5)
   unfold p0Of at ha
   split at ha
   ·cases ha
    have h6 := h4
    unfold RepL Rep at h6
    exact ⟨by simpa using h6.1, h6.2⟩
   ·cases ha
    have h6 := h4
    unfold RepL Rep at h6
    exact (by simpa using h6 : _ = Value.bool _)
   ·cases ha
    have h6 := h4
    unfold RepL Rep at h6
    obtain ⟨y, e, h7, h8⟩ := h6
    exact ⟨y, by simpa using e, h7, h8⟩
   ·cases ha
theorem Aoq (h : Holds F s G vals w) (ms : List Nat) : ∀ (ts : List Ty) (ls : List L) (ps : List PL) (vs : List Value), Fd s ts ls = some ps → All2 (HR F s G w) ls vs → (∀ m ∈ A7 ls, m ∈ ms) →
  All2 (RepL w (okS F (Bb s ms) G w)) ps vs
 | [], [], ps, vs, h1, h2, _ => by cases h1; cases h2; exact .nil
 | t :: ts, l :: ls, ps, vs, h1, h2, h3 => by
  simp only [Fd] at h1
  obtain ⟨p, hp, h4⟩ := Option.bind_eq_some_iff.1 h1
  obtain ⟨q, hq, rfl⟩ := Option.map_eq_some_iff.1 h4
  cases h2 with
  | cons h5 h6 =>
   refine .cons ?_ (Aoq h ms ts ls q _ hq h6 fun m hm => h3 m ?_)
   ·unfold plOf at hp
    split at hp
    ·split at hp
     ·obtain ⟨q, hq, rfl⟩ := Option.map_eq_some_iff.1 hp
      obtain ⟨cs, h7, rfl⟩ := h5
      exact ⟨_, rfl, cs, A5g hq h7, rfl⟩
     ·cases hp
    ·split at hp
     ·cases hp
      exact ⟨_, rfl, show _ = _ from h5⟩
     ·cases hp
    ·cases hp
     exact RepL.mono (fun k hk => ⟨Aii h ms (.inl hk), rfl⟩) h5
    ·rename_i l'
     obtain ⟨x, hx, rfl⟩ := Option.map_eq_some_iff.1 hp
     have h7 := Hn h hx h5.1
     refine Rep.mono (fun k hk => ⟨Aii h ms ?_, rfl⟩) h7
     rcases hk with hk | hk
     ·exact .inl hk
     ·exact .inr ⟨l', h3 l' (by simp [A7]), x, hx, hk⟩
    ·split at hp
     ·cases hp
      rename_i e
      rw [show _ = _ from h5]
      exact ⟨none, 0, rfl, Nat.le_refl _, Nat.zero_le _, fun hne => absurd rfl hne⟩
     ·cases hp
    ·cases hp
   ·cases l <;> simp only [A7, List.mem_cons] <;> first | exact hm | exact .inr hm
 | [], _ :: _, _, _, h1, _, _ => by cases h1
 | _ :: _, [], _, _, h1, _, _ => by cases h1
theorem Bjt (h : Holds F s G vals w) {b : Nat} {ls : List L} (hb : Ae s b = some ls) {k : Nat} {new : List L} (hk : k + new.length ≤ ls.length) {vs : List Value} (hv : All2 (HR F s G w) new vs) {cs : Array Value} {et : Nat}
  (hc : w.heap[G.bx b]? = some (.cells cs et (0, 0))) : Holds F (At s b (splice ls k new)) G vals (w.setRow (G.bx b) (cs.toList.take k ++ vs ++ cs.toList.drop (k + vs.length)).toArray) ∧
   ∀ nb no, Step nb no s G w (At s b (splice ls k new)) G (w.setRow (G.bx b) (cs.toList.take k ++ vs ++ cs.toList.drop (k + vs.length)).toArray) := by
 have hlt : b < s.boxes.length := by
  unfold Ae at hb
  cases he : s.boxes[b]? with
  | none => simp [he] at hb
  | some y => exact (List.getElem?_eq_some_iff.1 he).1
 have hbx := fun b' => Zc (s := s) (ls := splice ls k new) hlt b'
 generalize hw : w.setRow (G.bx b) (cs.toList.take k ++ vs ++ cs.toList.drop (k + vs.length)).toArray = w'
 have hsz : w'.heap.size = w.heap.size := by rw [← hw]; simp
 have hoth : ∀ j, j ≠ G.bx b → w'.heap[j]? = w.heap[j]? := fun j hj => by rw [← hw]; exact setRow_other w _ _ _ hj
 have hself : w'.heap[G.bx b]? = some (.cells (cs.toList.take k ++ vs ++ cs.toList.drop (k + vs.length)).toArray et (0, 0)) := by rw [← hw]; exact setRow_heap w _ cs _ et _ hc
 have hl1 : ∀ j, Live (At s b (splice ls k new)) G j ↔ Live s G j := by
  intro j
  constructor
  ·rintro (⟨b', q, hb', rfl⟩ | hr)
   ·rw [hbx] at hb'
    split at hb'
    ·rename_i e; subst e; exact .inl ⟨b', ls, hb, rfl⟩
    ·exact .inl ⟨b', q, hb', rfl⟩
   ·exact .inr hr
  ·rintro (⟨b', q, hb', rfl⟩ | hr)
   ·by_cases e : b' = b
    ·exact .inl ⟨b', splice ls k new, by rw [hbx, if_pos e], rfl⟩
    ·exact .inl ⟨b', q, by rw [hbx, if_neg e]; exact hb', rfl⟩
   ·exact .inr hr
 have hok : ∀ j, okS F s G w j → okS F (At s b (splice ls k new)) G w' j ∧ w'.heap[j]? = w.heap[j]? := by
  intro j hj
  exact ⟨⟨by rw [hsz]; exact hj.1, hj.2.1, fun hL => hj.2.2 ((hl1 j).1 hL)⟩, hoth j fun e => hj.2.2 (.inl ⟨b, ls, hb, e.symm⟩)⟩
 have htr : ∀ l v, HR F s G w l v → HR F (At s b (splice ls k new)) G w' l v := fun l v hr => HL.tr (G := G) hok (fun _ _ => ⟨rfl, rfl⟩) (fun _ _ => rfl) (fun q x' _ hx => ⟨x', hx, Nat.le_refl _, rfl⟩) hr
 refine ⟨⟨?_, ?_, ?_, ?_, ?_, h.oo, ?_, ?_, ?_, h.glOf (fun j _ hj => hoth j fun e => hj (.inl ⟨b, ls, hb, e.symm⟩)) fun j hj => .inl ((hl1 j).1 hj)⟩, fun nb no => ⟨⟨by rw [← hw]; rfl, by rw [← hw]; rfl, by rw [← hw]; rfl, by rw [hsz]; exact Nat.le_refl _, fun j _ hj => hoth j fun e => hj (.inl ⟨b, ls, hb, e.symm⟩)⟩, fun j hj => .inl ((hl1 j).1 hj), fun _ _ => ⟨rfl, rfl⟩, fun l _ x hx => ⟨⟨x, hx⟩, rfl⟩, rfl⟩⟩
 ·exact h.slots.imp fun _ _ ha => ha.imp htr
 ·intro b' q hb'
  rw [hbx] at hb'
  split at hb'
  ·rename_i e
   subst e
   cases hb'
   obtain ⟨cs2, et2, h1, h2⟩ := h.box b' ls hb
   rw [hc] at h1
   cases h1
   refine ⟨_, et, hself, ?_⟩
   have h9 : All2 (HR F s G w) (splice ls k new) (cs.toList.take k ++ vs ++ cs.toList.drop (k + vs.length)) := by
    unfold splice
    rw [show new.length = vs.length from hv.len]
    exact ((h2.take k).app hv).app (h2.drop _)
   simp only [List.toList_toArray]
   exact h9.imp htr
  ·rename_i e
   obtain ⟨cs2, et2, h1, h2⟩ := h.box b' q hb'
   exact ⟨cs2, et2, by rw [hoth _ fun e2 => e (h.bb b' b q ls hb' hb e2)]; exact h1, h2.imp htr⟩
 ·intro l x hx
  obtain ⟨h0, cs2, h1, h2⟩ := h.own l x hx
  refine ⟨h0, cs2, Fb h1 fun j hj => hoth j fun e => ?_, h2.mono hok⟩
  subst e
  exact h.bo b ls l x hb hx hj
 ·intro b1 b2 q1 q2 h1 h2 e
  rw [hbx] at h1 h2
  split at h1 <;> split at h2
  ·rename_i e1 e2; rw [e1, e2]
  ·rename_i e1 e2; subst e1; exact h.bb _ _ _ _ hb h2 e
  ·rename_i e1 e2; subst e2; exact h.bb _ _ _ _ h1 hb e
  ·exact h.bb _ _ _ _ h1 h2 e
 ·intro b1 q1 l x h1 hx
  rw [hbx] at h1
  split at h1
  ·rename_i e1; subst e1; exact h.bo _ _ l x hb hx
  ·exact h.bo _ _ l x h1 hx
 ·exact fun j hj => h.nF j ((hl1 j).1 hj)
 ·exact fun j hj => by rw [hsz]; exact h.Flt j hj
 ·intro b' q hb' cs3 et3 fr3 hc3
  by_cases e : G.bx b' = G.bx b
  ·rw [e, hself] at hc3
   cases hc3
   have hbb : b' = b := by
    rw [hbx] at hb'
    split at hb'
    ·rename_i e2; exact e2
    ·exact h.bb b' b q ls hb' hb e
   subst hbb
   exact h.ty b' ls hb _ _ _ hc
  ·rw [hoth _ e] at hc3
   rw [hbx] at hb'
   split at hb'
   ·rename_i e2; exact absurd (by rw [e2]) e
   ·exact h.ty b' q hb' cs3 et3 fr3 hc3
end
section
variable {P : Program} {F : Nat → Prop} {s s' : St} {G : Gm} {a : Act} {w : World} {o : Oper} {v : AV} {vals : List Value}
theorem Ae6 {t : Ty} : ∀ {xs : List t.den} {i : Nat} {x : t.den}, xs[i]? = some x → ∃ a b, xs.flatMap (flat t) = a ++ flat t x ++ b ∧ a.length = i * t.size ∧ ∀ y, (xs.set i y).flatMap (flat t) = a ++ flat t y ++ b
 | [], i, x, h => by simp at h
 | y :: ys, 0, x, h => by simp at h; subst h; exact ⟨[], ys.flatMap (flat t), by simp, by simp, fun y => by simp⟩
 | y :: ys, i + 1, x, h => by
  obtain ⟨a, b, e, hl, hs⟩ := Ae6 (xs := ys) (i := i) (x := x) (by simpa using h)
  exact ⟨flat t y ++ a, b, by simp [e], by simp [hl, Dx, Nat.add_mul, Nat.add_comm], fun z => by simp [hs z]⟩
theorem Bjx {α : Type} (cur vs : List α) (p m : Nat) (hp : p + vs.length ≤ m) (hm : m ≤ cur.length) :
  (cur.take p ++ vs ++ cur.drop (p + vs.length)).take m = (cur.take m).take p ++ vs ++ (cur.take m).drop (p + vs.length) := by
 have hl : (cur.take p ++ vs).length = p + vs.length := by rw [List.length_append, List.length_take]; omega
 rw [List.take_append, hl, List.take_of_length_le (by rw [hl]; exact hp), List.take_take, Nat.min_eq_left (by omega), List.drop_take]
theorem Yt (h : Holds F s G vals w) {l : Nat} {x : Own} (hx : Aa s l = some x) {g n cap : Nat} (hG : G.ow l = .slice (some ⟨g, 0, none⟩) n cap) {cur cur' : Array Value} (hh : w.heap[g]? = some (.cells cur x.e (0, 0))) (hs : cur'.size = cur.size)
  {xs' : List x.t.den} (hl : xs'.length = x.xs.length) (hr : RepRow w (okS F s G w) x.t xs' (cur'.toList.take (xs'.length * x.t.size))) :
  Holds F (Al s l (some ⟨x.e, x.t, xs'⟩)) G vals (w.setRow g cur') ∧ ∀ nb no, Step nb no s G w (Al s l (some ⟨x.e, x.t, xs'⟩)) G (w.setRow g cur') := by
 have hox := fun q => Wk (s := s) (x := some (⟨x.e, x.t, xs'⟩ : Own)) (A5d hx) q
 generalize hw : w.setRow g cur' = w'
 have hsz : w'.heap.size = w.heap.size := by rw [← hw]; simp
 have hoth : ∀ j, j ≠ g → w'.heap[j]? = w.heap[j]? := fun j hj => by rw [← hw]; exact setRow_other w _ _ _ hj
 have hself : w'.heap[g]? = some (.cells cur' x.e (0, 0)) := by rw [← hw]; exact setRow_heap w _ cur _ x.e _ hh
 have hgl : Live s G g := .inr ⟨l, x, hx, by rw [hG]; rfl⟩
 have hl1 : ∀ j, Live (Al s l (some ⟨x.e, x.t, xs'⟩)) G j ↔ Live s G j := by
  intro j
  constructor
  ·rintro (hr | ⟨l', q, hq, hj⟩)
   ·exact .inl hr
   ·rw [hox] at hq
    split at hq
    ·rename_i e; subst e; exact .inr ⟨l', x, hx, hj⟩
    ·exact .inr ⟨l', q, hq, hj⟩
  ·rintro (hr | ⟨l', q, hq, hj⟩)
   ·exact .inl hr
   ·by_cases e : l' = l
    ·exact .inr ⟨l', _, by rw [hox, if_pos e], hj⟩
    ·exact .inr ⟨l', q, by rw [hox, if_neg e]; exact hq, hj⟩
 have hok : ∀ j, okS F s G w j → okS F (Al s l (some ⟨x.e, x.t, xs'⟩)) G w' j ∧ w'.heap[j]? = w.heap[j]? := by
  intro j hj
  exact ⟨⟨by rw [hsz]; exact hj.1, hj.2.1, fun hL => hj.2.2 ((hl1 j).1 hL)⟩, hoth j fun e => hj.2.2 (by rw [e]; exact hgl)⟩
 have htr : ∀ q v, HR F s G w q v → HR F (Al s l (some ⟨x.e, x.t, xs'⟩)) G w' q v := fun q v hr => HL.tr (G := G) hok (fun _ _ => ⟨rfl, rfl⟩) (fun _ _ => rfl) (fun q x' _ hx' => by
  have h5 : Aa (Al s l (some ⟨x.e, x.t, xs'⟩)) q = some x' := hx'
  rw [hox] at h5
  split at h5
  ·rename_i e; subst e; cases h5; exact ⟨x, hx, by simp [hl], rfl⟩
  ·exact ⟨x', h5, Nat.le_refl _, rfl⟩) hr
 refine ⟨⟨?_, ?_, ?_, h.bb, ?_, ?_, ?_, ?_, ?_, h.glOf (fun j _ hj => hoth j fun e => hj (by rw [e]; exact hgl)) fun j hj => .inl ((hl1 j).1 hj)⟩, fun nb no => ⟨⟨by rw [← hw]; rfl, by rw [← hw]; rfl, by rw [← hw]; rfl, by rw [hsz]; exact Nat.le_refl _, fun j _ hj => hoth j fun e => hj (by rw [e]; exact hgl)⟩, fun j hj => .inl ((hl1 j).1 hj), fun _ _ => ⟨rfl, rfl⟩, fun l' _ q hq => ?_, rfl⟩⟩
 ·exact h.slots.imp fun _ _ ha => ha.imp htr
 ·intro b q hb
  obtain ⟨cs2, et2, h1, h2⟩ := h.box b q hb
  have hne : G.bx b ≠ g := fun e => h.bo b q l x hb hx (by rw [hG, e]; rfl)
  exact ⟨cs2, et2, by rw [hoth _ hne]; exact h1, h2.imp htr⟩
 ·intro l' q hq
  rw [hox] at hq
  split at hq
  ·rename_i e
   subst e
   cases hq
   obtain ⟨h0, cs2, h1, h2⟩ := h.own l' x hx
   refine ⟨h0, cur'.toList.take (xs'.length * x.t.size), ⟨?_, .inr ?_⟩, hr.mono hok⟩
   ·have := hr.len
    exact this
   ·rcases h1.2 with ⟨e1, _⟩ | ⟨g', cap', cur2, e1, e2, e3, e4, e5, e6, e7⟩
    ·rw [hG] at e1; cases e1
    ·rw [hG] at e1
     cases e1
     rw [hh] at e3
     cases e3
     refine ⟨g, cap, cur', ?_, Nat.zero_le _, hself, by simpa [hl] using e4, e5, by rw [hs]; exact e6, rfl⟩
     rw [hG]
     simp [hl]
  ·rename_i e
   obtain ⟨h0, cs2, h1, h2⟩ := h.own l' q hq
   refine ⟨h0, cs2, Fb h1 fun j hj => hoth j fun e2 => ?_, h2.mono hok⟩
   subst e2
   exact e (h.oo l' l q x j hq hx hj (by rw [hG]; rfl))
 ·intro b q l' y hb hy
  rw [hox] at hy
  split at hy
  ·rename_i e; subst e; exact h.bo b q l' x hb hx
  ·exact h.bo b q l' y hb hy
 ·intro l1 l2 x1 x2 j h1 h2
  rw [hox] at h1 h2
  split at h1 <;> split at h2
  ·rename_i e1 e2; intro _ _; rw [e1, e2]
  ·rename_i e1 e2; subst e1; exact h.oo _ _ _ _ _ hx h2
  ·rename_i e1 e2; subst e2; exact h.oo _ _ _ _ _ h1 hx
  ·exact h.oo _ _ _ _ _ h1 h2
 ·exact fun j hj => h.nF j ((hl1 j).1 hj)
 ·exact fun j hj => by rw [hsz]; exact h.Flt j hj
 ·intro b q hb cs3 et3 fr3 hc3
  have hne : G.bx b ≠ g := fun e => h.bo b q l x hb hx (by rw [hG, e]; rfl)
  rw [hoth _ hne] at hc3
  exact h.ty b q hb cs3 et3 fr3 hc3
 ·rw [hox] at hq
  split at hq
  ·rename_i e; subst e; exact ⟨⟨x, hx⟩, rfl⟩
  ·exact ⟨⟨q, hq⟩, rfl⟩
def EOK (P : Program) (F : Nat → Prop) (s : St) (G : Gm) (a : Act) (w : World) (o : Oper) (s' : St) : Prop :=
 ∀ (K : Act → World → Prop) (Q : Exit → Act → World → Prop), (∀ G' a' w', Holds F s' G' a'.tmps.toList w' → Step N0 N0 s G w s' G' w' → a'.defers = a.defers → K a' w') → o.wp P a w K Q
theorem F9 (a : Act) (d : Option Tmp) (u : Value) : (a.put d u).defers = a.defers := by cases d <;> rfl
theorem EOK.value {u : Value} {w' : World} {G' : Gm} (hr : (execOp a.eval o).run P w = .ok (.value u) w') (h : Holds F s' G' (a.put o.dst u).tmps.toList w') (hs : Step N0 N0 s G w s' G' w') : EOK P F s G a w o s' := by
 intro K Q hK
 unfold Oper.wp
 rw [hr]
 exact hK _ _ _ h hs (F9 _ _ _)
theorem EOK.skip {w' : World} {G' : Gm} (hr : (execOp a.eval o).run P w = .ok .skip w') (h : Holds F s' G' (a.put o.dst undef).tmps.toList w') (hs : Step N0 N0 s G w s' G' w') : EOK P F s G a w o s' := by
 intro K Q hK
 unfold Oper.wp
 rw [hr]
 exact hK _ _ _ h hs (F9 _ _ _)
theorem Mp (h : Holds F s G a.tmps.toList w) (hv : ((opV P s o.op).bind fun v => Oc.ok (s.put o.dst v)).val = some s') : EOK P F s G a w o s' := by
 rw [Oc.val_bind] at hv
 obtain ⟨v, h1, h2⟩ := Option.bind_eq_some_iff.1 hv
 cases h2
 obtain ⟨u, w', hr, hg, hh⟩ := Biq h h1
 exact .value hr ((h.grew hg).put o.dst hh) ((Step.grew hg).trans (Step.put _ _))
theorem Gl {d : Nat} {ls : List L} (h : (Fg s d ls).val = some s') : Bq s (N0 + d) = true ∧ s' = (At s (N0 + d) ls).put (some d) (lf (.ptr (N0 + d) 0)) := by
 unfold Fg at h
 split at h
 ·rename_i hf; cases h; exact ⟨hf, rfl⟩
 ·cases h
theorem Dq {d : Nat} {x : Own} (h : (Br s d x).val = some s') : Ch s (N0 + d) = true ∧ s' = (Al s (N0 + d) (some x)).put (some d) (lf (.own (N0 + d))) := by
 unfold Br at h
 split at h
 ·rename_i hf; cases h; exact ⟨hf, rfl⟩
 ·cases h
theorem A4v {bl : List Nat} {t n : Nat} {vals : List Value} (h : Holds F s G vals w) (ht : G.et n = t) : Holds F (K4 bl t n s) G vals w ∧ Step N0 N0 s G w (K4 bl t n s) G w := by
 unfold K4
 split
 ·split
  ·rename_i r hr
   obtain ⟨cs, et, hc, hl⟩ := h.box n _ hr
   cases hcs : cs.toList with
   | nil => rw [hcs] at hl; cases hl
   | cons v vs =>
    rw [hcs] at hl
    cases hl with
    | cons h0 h1 =>
     have hlt : n < s.boxes.length := by
      unfold Ae at hr
      cases he : s.boxes[n]? with
      | none => simp [he] at hr
      | some y => exact (List.getElem?_eq_some_iff.1 he).1
     have hbx := fun b' => Zc (s := s) (ls := .bld n t true :: r) hlt b'
     have hlive : Live (At s n (.bld n t true :: r)) G = Live s G := by
      funext j
      simp only [Live, eq_iff_iff]
      constructor
      ·rintro (⟨b', q, hb', rfl⟩ | hr2)
       ·rw [hbx] at hb'
        split at hb'
        ·rename_i e; subst e; exact .inl ⟨_, _, hr, rfl⟩
        ·exact .inl ⟨b', q, hb', rfl⟩
       ·exact .inr hr2
      ·rintro (⟨b', q, hb', rfl⟩ | hr2)
       ·by_cases e : b' = n
        ·exact .inl ⟨b', _, by rw [hbx, if_pos e], rfl⟩
        ·exact .inl ⟨b', q, by rw [hbx, if_neg e]; exact hb', rfl⟩
       ·exact .inr hr2
     have hHR : HR F (At s n (.bld n t true :: r)) G w = HR F s G w := by
      unfold HR okS
      rw [hlive]
      rfl
     refine ⟨⟨by rw [hHR]; exact h.slots, fun b ls hb => ?_, fun l x hx => ?_, fun b b' ls ls' hb hb' e => ?_, fun b ls l x hb hx => ?_, h.oo, by rw [hlive]; exact h.nF, h.Flt, fun b ls hb => ?_, by rw [hlive]; exact h.gl⟩, ⟨Keeps.refl _ _, fun j hj => .inl (by rw [hlive] at hj; exact hj), fun _ _ => ⟨rfl, rfl⟩, fun l _ x hx => ⟨⟨x, hx⟩, rfl⟩, rfl⟩⟩
     ·rw [hHR]
      rw [hbx] at hb
      split at hb
      ·rename_i e
       subst e
       cases hb
       refine ⟨cs, et, hc, ?_⟩
       rw [hcs]
       exact .cons ⟨h0, ht⟩ h1
      ·exact h.box b ls hb
     ·have hok : okS F (At s n (.bld n t true :: r)) G w = okS F s G w := by
       funext j
       simp only [okS, hlive]
      rw [hok]
      exact h.own l x hx
     ·rw [hbx] at hb hb'
      split at hb <;> split at hb'
      ·rename_i e1 e2; rw [e1, e2]
      ·rename_i e1 e2; subst e1; exact h.bb _ _ _ _ hr hb' e
      ·rename_i e1 e2; subst e2; exact h.bb _ _ _ _ hb hr e
      ·exact h.bb _ _ _ _ hb hb' e
     ·rw [hbx] at hb
      split at hb
      ·rename_i e; subst e; exact h.bo _ _ l x hr hx
      ·exact h.bo b ls l x hb hx
     ·rw [hbx] at hb
      split at hb
      ·rename_i e; subst e; exact h.ty _ _ hr
      ·exact h.ty b ls hb
  ·exact ⟨h, Step.refl _ _ _ _ _⟩
 ·exact ⟨h, Step.refl _ _ _ _ _⟩
theorem Arc {bl : List Nat} {t d : Nat} {ls : List L} (h : (Gk bl t s d ls).val = some s') : Bq s (N0 + d) = true ∧ s' = K4 bl t (N0 + d) ((At s (N0 + d) ls).put (some d) (lf (.ptr (N0 + d) 0))) := by
 unfold Gk at h
 rw [Oc.val_bind] at h
 obtain ⟨s1, h1, h2⟩ := Option.bind_eq_some_iff.1 h
 cases h2
 obtain ⟨h3, rfl⟩ := Gl h1
 exact ⟨h3, rfl⟩
theorem Ave (h : Holds F s G a.tmps.toList w) {t d : Nat} (ho : o.op = .alloc t) (hd : o.dst = some d) {ls : List L} {bl : List Nat} (hz : Bo P t = some ls) (hv : (Gk bl t s d ls).val = some s') : EOK P F s G a w o s' := by
 obtain ⟨hf, rfl⟩ := Arc hv
 obtain ⟨i, zv, hi, hzz, rfl, h1⟩ := Ec hz
 obtain ⟨h2, h3⟩ := Aof h hf (by omega) (ls := zv.cells.toList.map A0) (fun l hl => by obtain ⟨v, _, rfl⟩ := List.mem_map.1 hl; exact Me _ _) (cs := zv.cells) t (Ey (fun u hu => Ex u hu) _ h1) (some d)
 obtain ⟨h4, h5⟩ := A4v (bl := bl) (t := t) (n := N0 + d) h2 (by simp [Gm.setB])
 rw [← hd] at h4 h5 h3 ⊢
 refine .value (u := .pointer (some ⟨w.heap.size, 0, none⟩)) ?_ h4 (h3.trans h5)
 simp [execOp, ho, Instr.alloc, zeroValue, typeInfo, hi, hzz, newVar, newRow]
theorem e_box (h : Holds F s G a.tmps.toList w) {t d : Nat} {x : Operand} (ho : o.op = .box t x) (hd : o.dst = some d) {ls : List L} {bl : List Nat} (hl : Cj (s.get x) = some ls) (hv : (Gk bl t s d ls).val = some s') : EOK P F s G a w o s' := by
 obtain ⟨hf, rfl⟩ := Arc hv
 have hall := (T4 hf).2.2
 have h4 := An9 (Y1 (fun v => Me _ v) (fun f => rfl) hall x) hl
 obtain ⟨h2, h3⟩ := Aof h hf (by omega) h4 (cs := (a.eval x).cells) t (Wc h hl) (some d)
 obtain ⟨h6, h5⟩ := A4v (bl := bl) (t := t) (n := N0 + d) h2 (by simp [Gm.setB])
 rw [← hd] at h6 h5 h3 ⊢
 refine .value (u := .pointer (some ⟨w.heap.size, 0, none⟩)) ?_ h6 (h3.trans h5)
 simp [execOp, ho, Instr.box, newVar, newRow]
theorem A33 {ls : List L} {cs : List Value} (h : All2 (HR F s G w) ls cs) : ∀ u ∈ cs, u.oneCell' = true := by
 intro u hu
 obtain ⟨i, hi, rfl⟩ := List.getElem_of_mem hu
 have hi2 : cs[i]? = some cs[i] := List.getElem?_eq_getElem hi
 obtain ⟨l, _, hl⟩ := All2.get' h hi2
 exact hl.one
theorem Bc0 (h : Holds F s G a.tmps.toList w) {t b k n : Nat} {x y : Operand} (ho : o.op = .store t x y) (hd : o.dst = none) (hp : Ai (s.get x) = some (.ptr b k)) {new : List L} (hn : Cj (s.get y) = some new) (hz : Ay P t = some n)
  {ls : List L} (hb : Ae s b = some ls) (hc : new.length = n ∧ k + n ≤ ls.length) : EOK P F s G a w o (At s b (splice ls k new)) := by
 obtain ⟨cs, et, hcs, hall⟩ := h.box b ls hb
 have hv := Wc h hn
 have hl1 := hv.len
 have hl2 := hall.len
 have hlt : k + (a.eval y).cells.toList.length ≤ cs.size := by simp at hl1 hl2 ⊢; omega
 obtain ⟨h2, h3⟩ := Bjt (k := k) (new := new) h hb (by omega) hv hcs
 have hst := run_storeCells_at P (G.bx b) k et (a.eval y).cells.toList 0 cs w hcs (by simpa using hlt) (A33 hv)
 have e : a.eval x = _ := As h hp
 refine .skip ?_ (by rw [hd]; exact h2) (h3 _ _)
 have hsz : (a.eval y).cells.size = n := by simp at hl1; omega
 simp only [execOp, ho, Instr.storeAt, e, Instr.sureAddr, Sem.run_bind, Sem.run_pure, Result.andThen_ok, storeVar, Ca hz, hsz]
 simp [hst]
theorem Bc1 (h : Holds F s G a.tmps.toList w) {t l i k z n : Nat} {x y : Operand} (ho : o.op = .store t x y) (hd : o.dst = none) (hp : Ai (s.get x) = some (.ept l i k z)) {new : List L} (hn : Cj (s.get y) = some new) (hz : Ay P t = some n)
  {q : Own} (hq : Aa s l = some q) (hc : new.length = n ∧ k + n ≤ q.t.size) {ts : List Ty} {ps : List PL} (hps : Fd s ts new = some ps) {x' : q.t.den}
  (hu : unflat q.t ((flat q.t (rdD q.t q.xs i)).take k ++ ps ++ (flat q.t (rdD q.t q.xs i)).drop (k + n)) = some (x', [])) (hno : (A7 new).contains l = false) :
  EOK P F s G a w o (Al (Bb s (A7 new)) l (some ⟨q.e, q.t, q.xs.set i x'⟩)) := by
 have hv := Wc h hn
 have hl1 := hv.len
 have hlp := As h hp
 obtain ⟨g, m, c, hG, hptr, h3⟩ := hlp
 obtain ⟨hi, rfl⟩ := h3 q hq
 have hm : l ∉ A7 new := by simpa using hno
 have h' := T5 (A7 new) h
 have hq' : Aa (Bb s (A7 new)) l = some q := by rw [N2, if_neg hm]; exact hq
 have hrep := Aoq h (A7 new) _ _ _ _ hps hv (fun _ h => h)
 obtain ⟨h0, cs, hr, he⟩ := h'.own l q hq'
 rcases hr.2 with ⟨e1, _⟩ | ⟨g', cap, cur, e1, _, e3, e4, e5, e6, e7⟩
 ·rw [hG] at e1; cases e1
 ·rw [hG] at e1
  cases e1
  have hpl : ps.length = n := by rw [hrep.len, ← hl1]; exact hc.1
  have hget := A5y q.t q.xs i hi
  obtain ⟨A, B, f1, f2, f3⟩ := Ae6 hget
  have hfx : flat q.t x' = (flat q.t (rdD q.t q.xs i)).take k ++ ps ++ (flat q.t (rdD q.t q.xs i)).drop (k + n) := by
   have := Yw hu
   simpa using this.symm
  have hfl := Dx q.t (rdD q.t q.xs i)
  have hrow : (q.xs.set i x').flatMap (flat q.t) = (q.xs.flatMap (flat q.t)).take (i * q.t.size + k) ++ ps ++ (q.xs.flatMap (flat q.t)).drop (i * q.t.size + k + n) := by
   rw [f3, hfx, f1]
   have g1 : (A ++ flat q.t (rdD q.t q.xs i) ++ B).take (i * q.t.size + k) = A ++ (flat q.t (rdD q.t q.xs i)).take k := by
    rw [List.append_assoc, ← f2, List.take_length_add_append, List.take_append_of_le_length (by rw [hfl]; omega)]
   have g2 : (A ++ flat q.t (rdD q.t q.xs i) ++ B).drop (i * q.t.size + k + n) = (flat q.t (rdD q.t q.xs i)).drop (k + n) ++ B := by
    rw [List.append_assoc, ← f2, Nat.add_assoc, List.drop_length_add_append, List.drop_append_of_le_length (by rw [hfl]; omega)]
   rw [g1, g2]
   simp [List.append_assoc]
  have hcl : cs.length = q.xs.length * q.t.size := he.len
  have hbnd : i * q.t.size + q.t.size ≤ q.xs.length * q.t.size := by
   rw [← Nat.succ_mul]
   exact Nat.mul_le_mul_right _ hi
  have hcs : q.xs.length * q.t.size ≤ cur.size := by rw [e6]; exact Nat.mul_le_mul_right _ e4
  have hst := run_storeCells_at P g (i * q.t.size + k) q.e (a.eval y).cells.toList 0 cur w e3 (by simp at hl1 ⊢; omega) (A33 hv)
  have hvl : (a.eval y).cells.toList.length = n := by rw [← hl1]; exact hc.1
  obtain ⟨h2, h5⟩ := Yt (cur' := (cur.toList.take (i * q.t.size + k) ++ (a.eval y).cells.toList ++ cur.toList.drop (i * q.t.size + k + (a.eval y).cells.toList.length)).toArray) h' hq' hG e3
   (by simp only [List.size_toArray, List.length_append, List.length_take, List.length_drop, hvl, Array.length_toList]; omega) (xs' := q.xs.set i x') (by simp) (by
    unfold RepRow
    rw [hrow]
    have g3 : (cur.toList.take (i * q.t.size + k) ++ (a.eval y).cells.toList ++ cur.toList.drop (i * q.t.size + k + (a.eval y).cells.toList.length)).toArray.toList.take ((q.xs.set i x').length * q.t.size) =
      cs.take (i * q.t.size + k) ++ (a.eval y).cells.toList ++ cs.drop (i * q.t.size + k + n) := by
     rw [List.length_set, ← e7]
     have := Bjx cur.toList (a.eval y).cells.toList (i * q.t.size + k) (q.xs.length * q.t.size) (by rw [hvl]; omega) (by simpa using hcs)
     rw [hvl] at this
     simp only [List.toList_toArray, hvl]
     exact this
    rw [g3]
    exact ((All2.take he _).app hrep).app (All2.drop he _))
  have hsz : (a.eval y).cells.size = n := by simpa using hvl
  refine .skip ?_ (by rw [hd]; exact h2) ((T6 _ _ _ h).trans (h5 _ _))
  simp only [execOp, ho, Instr.storeAt, hptr, Instr.sureAddr, Sem.run_bind, Sem.run_pure, Result.andThen_ok, storeVar, Ca hz, hsz]
  simp [hst]
end
section
variable {P : Program} {F : Nat → Prop} {s s' : St} {G : Gm} {a : Act} {w : World} {o : Oper} {v : AV} {vals : List Value}
theorem Ft {e : Nat} {t : Ty} (h : Bi P e = some t) : ∃ i z, P.info? e = some i ∧ i.zero = some z ∧ i.size = t.size ∧ z.cells.size = t.size ∧ 0 < t.size := by
 unfold Bi at h
 obtain ⟨t', _, h2⟩ := Option.bind_eq_some_iff.1 h
 split at h2
 ·rename_i hc
  cases h2
  obtain ⟨h3, h4, h5⟩ := hc
  unfold Ay at h3
  obtain ⟨i, hi, h6⟩ := Option.map_eq_some_iff.1 h3
  unfold A9f at h5
  obtain ⟨z, hz, h7⟩ := Option.map_eq_some_iff.1 h5
  rw [hi] at hz
  exact ⟨i, z, hi, hz, h6, h7, h4⟩
 ·cases h2
theorem Bn {t e : Nat} (h : A1 P t = some e) : P.underlying t = some (.slice e) := by
 unfold A1 at h
 split at h
 ·cases h; assumption
 ·cases h
theorem Mk (h : Holds F s G vals w) (ms : List Nat) {t : Ty} {ls : List L} {x : t.den} {vs : List Value} (hd : datum s t ls = some x) (hv : All2 (HR F s G w) ls vs) (hm : ∀ m ∈ A7 ls, m ∈ ms) :
  All2 (RepL w (okS F (Bb s ms) G w)) (flat t x) vs := by
 unfold datum at hd
 obtain ⟨ps, hps, h2⟩ := Option.bind_eq_some_iff.1 hd
 obtain ⟨⟨y, r⟩, hy, h3⟩ := Option.bind_eq_some_iff.1 h2
 split at h3
 ·rename_i he
  cases h3
  have hr : r = [] := by simpa using he
  subst hr
  have := Yw hy
  rw [List.append_nil] at this
  rw [← this]
  exact Aoq h ms _ _ _ _ hps hv hm
 ·cases h3
theorem Pk (z : Array Value) (n : Nat) (hz : 0 < z.size) : ((List.range (n * z.size)).map fun i => z[i % z.size]!) = (List.replicate n z.toList).flatten := by
 induction n with
 | zero => simp
 | succ n ih =>
  rw [Nat.succ_mul, Nat.add_comm, List.range_add, List.map_append, List.replicate_succ, List.flatten_cons, ← ih, List.map_map]
  congr 1
  ·apply List.ext_getElem
   ·simp
   ·intro i h1 h2
    have h3 : i < z.size := by simpa using h1
    simp [Nat.mod_eq_of_lt h3, h3]
  ·apply List.map_congr_left
   intro i _
   simp
theorem Pj {ok : Nat → Prop} {t : Ty} {x : t.den} {cs : List Value} (h : All2 (RepL w ok) (flat t x) cs) : ∀ n : Nat, RepRow w ok t (List.replicate n x) (List.replicate n cs).flatten
 | 0 => .nil
 | n + 1 => by
  unfold RepRow
  rw [List.replicate_succ, List.flatMap_cons, List.replicate_succ, List.flatten_cons]
  exact h.app (Pj h n)
theorem Aro {e : Nat} {t : Ty} {xs : List t.den} {cells : Array Value} {n : Nat} (hn : xs.length = n) (hc : cells.size = n * t.size) (hm : n ≤ maxLen) :
  (w.alloc (.cells cells e)).ownsRow 0 e t.size (.slice (some ⟨w.heap.size, 0, none⟩) n n) xs.length cells.toList := by
 subst hn
 exact ⟨by simpa using hc, .inr ⟨w.heap.size, _, cells, rfl, Nat.zero_le _, heap_alloc_new w _, Nat.le_refl _, hm, hc, by rw [List.take_of_length_le]; simp; omega⟩⟩
theorem e_make (h : Holds F s G a.tmps.toList w) {t e d : Nat} {x y : Operand} (ho : o.op = .makeSlice t x y) (hd : o.dst = some d) (he : A1 P t = some e) {n m : Int} (hn : int1 (s.get x) = some n) (hm : int1 (s.get y) = some m)
  {te : Ty} (hte : Bi P e = some te) {z : List L} (hz : Bo P e = some z) {q : te.den} (hq : datum s te z = some q)
  (hc : (decide (0 ≤ n) && decide (n = m) && decide ((B8 P e : Int) * n ≤ 140737488355328) && decide (n ≤ 9223372036854775807)) = true)
  (hv : (Br s d ⟨e, te, List.replicate n.toNat q⟩).val = some s') : EOK P F s G a w o s' := by
 obtain ⟨hf, rfl⟩ := Dq hv
 obtain ⟨i, zv, hi, hzv, hs1, hs2, hs3⟩ := Ft hte
 obtain ⟨i', zv', hi', hzv', rfl, hone⟩ := Ec hz
 rw [hi] at hi'
 cases hi'
 rw [hzv] at hzv'
 cases hzv'
 simp only [Bool.and_eq_true, decide_eq_true_eq] at hc
 obtain ⟨⟨⟨c1, rfl⟩, c3⟩, c4⟩ := hc
 obtain ⟨kx, ex, _⟩ := Dl h hn
 obtain ⟨ky, ey, _⟩ := Dl h hm
 have hb : B8 P e = i.bytes := by simp [B8, hi]
 rw [hb] at c3
 have hrun := run_make (P := P) w t e i zv (Bn he) hi hzv kx ky n n c1 (Int.le_refl _) (by omega) c4
 have hrep := Mk h [] hq (Ey (fun u hu => Ex u hu) _ hone) (fun m hm => by
  exfalso
  have : ∀ l : List Value, A7 (l.map A0) = [] := by
   intro l
   induction l with
   | nil => rfl
   | cons u l ih =>
    simp only [List.map_cons]
    have : ∀ k, A0 u ≠ .own k := fun k e => by have := Rb k u; rw [e] at this; simp [L.noO] at this
    unfold A7
    split
    ·rename_i e; cases e
    ·rename_i k r e; injection e with e1 e2; exact absurd e1 (this k)
    ·rename_i r e1 e2; injection e2 with e3 e4; subst e4; exact ih
  rw [this] at hm
  cases hm)
 have hcells : (madeCells zv.cells (n.toNat * i.size)).toList = (List.replicate n.toNat zv.cells.toList).flatten := by
  rw [← Pk _ _ (by omega), hs2, ← hs1]
  simp [madeCells]
  try (intro a _; rw [show zv.cells.size = i.size by omega])
 have hsz : (madeCells zv.cells (n.toNat * i.size)).size = n.toNat * te.size := by rw [size_madeCells, hs1]
 have hmx : n.toNat ≤ maxLen := by unfold maxLen; omega
 obtain ⟨h2, h3⟩ := Hj h none (n := N0 + d) (o := ⟨e, te, List.replicate n.toNat q⟩) hf (by omega) (w' := w.alloc (.cells (madeCells zv.cells (n.toNat * i.size)) e)) hs3
  ⟨rfl, rfl, rfl, by simp, fun k hk _ => (Grew.alloc w _).block hk⟩ (v' := .slice (some ⟨w.heap.size, 0, none⟩) n.toNat n.toNat) (fun k hk => .inr (by simp [Value.ownBlock] at hk; omega))
  (Aro (by simp) hsz hmx) (by rw [hcells]; exact Pj hrep _) rfl (some d)
 rw [← hd] at h2 h3 ⊢
 refine .value (u := .slice (some ⟨w.heap.size, 0, none⟩) n.toNat n.toNat) ?_ h2 h3
 simp [execOp, ho, ex, ey, hrun]
theorem Awc {ok : Nat → Prop} (t : Ty) (h : Holds F s G vals w) (ms : List Nat) : ∀ (q : List (Nat × List L)) (vs : List (Nat × Value)) (xs ys : List t.den) (cs : Array Value),
  All2 (fun x y => x.1 = y.1 ∧ All2 (HR F s G w) x.2 y.2.cells.toList) q vs → (∀ m ∈ q.flatMap (fun x => A7 x.2), m ∈ ms) → RepRow w (okS F (Bb s ms) G w) t xs cs.toList → Ep s t q xs = some ys →
  ∃ cs', Instr.fill (fun i => some (i * t.size, t.size)) cs vs = some cs' ∧ RepRow w (okS F (Bb s ms) G w) t ys cs'.toList ∧ ys.length = xs.length
 | [], _, xs, ys, cs, h1, _, h3, h4 => by cases h1; cases h4; exact ⟨cs, rfl, h3, rfl⟩
 | (i, ls) :: q, _, xs, ys, cs, h1, h2, h3, h4 => by
  cases h1 with
  | cons h5 h6 =>
   rename_i y vs
   obtain ⟨i', v⟩ := y
   obtain ⟨rfl, h7⟩ := h5
   simp only [Ep] at h4
   split at h4
   ·rename_i hi
    obtain ⟨x, hx, h8⟩ := Option.bind_eq_some_iff.1 h4
    have hrep := Mk h ms hx h7 (fun m hm => h2 m (by simp [hm]))
    have hlen : v.cells.toList.length = t.size := by rw [← hrep.len, Dx]
    have hcl := h3.len
    have hb : i * t.size + t.size ≤ cs.size := by
     have h9 : (i + 1) * t.size ≤ xs.length * t.size := Nat.mul_le_mul_right _ hi
     rw [Nat.succ_mul] at h9
     rw [Array.length_toList] at hcl
     omega
    have h10 : v.cells.zipIdx.foldl (fun cs (c, j) => cs.setIfInBounds (i * t.size + j) c) cs = (cs.toList.take (i * t.size) ++ v.cells.toList ++ cs.toList.drop (i * t.size + v.cells.toList.length)).toArray := by
     have := Afd v.cells.toList (i * t.size) 0 cs (by rw [hlen]; omega)
     rw [← Array.toList_inj]
     rw [← Array.foldl_toList, Array.toList_zipIdx]
     simpa using this
    have hget : xs[i]? = some xs[i] := List.getElem?_eq_getElem hi
    obtain ⟨A, B, f1, f2, f3⟩ := Ae6 hget
    have h11 : RepRow w (okS F (Bb s ms) G w) t (xs.set i x) (cs.toList.take (i * t.size) ++ v.cells.toList ++ cs.toList.drop (i * t.size + v.cells.toList.length)) := by
     unfold RepRow at h3 ⊢
     rw [f3]
     have g1 := All2.take h3 (i * t.size)
     have g2 := All2.drop h3 (i * t.size + v.cells.toList.length)
     rw [f1, List.append_assoc, ← f2, List.take_left] at g1
     rw [f1, ← f2, hlen, List.drop_left' (by rw [List.length_append, Dx])] at g2
     rw [f2] at g1 g2
     rw [hlen]
     exact (g1.app hrep).app g2
    obtain ⟨cs', hfill, g3, g4⟩ := Awc (ok := ok) t h ms q vs (xs.set i x) ys _ h6 (fun m hm => h2 m (by simp only [List.flatMap_cons, List.mem_append]; exact .inr hm)) (by simpa using h11) h8
    refine ⟨cs', ?_, g3, by simpa using g4⟩
    simp only [Instr.fill]
    rw [if_neg, h10]
    ·simpa using hfill
    ·rw [Array.length_toList] at hlen
     simp only [ne_eq, Bool.or_eq_true, decide_eq_true_eq, not_or, Decidable.not_not]
     constructor <;> omega
   ·cases h4
theorem e_build (h : Holds F s G a.tmps.toList w) {t e d len : Nat} {ps : Array (Nat × Operand)} (ho : o.op = .buildSlice t len ps) (hd : o.dst = some d) (he : A1 P t = some e)
  {te : Ty} (hte : Bi P e = some te) {z : List L} (hz : Bo P e = some z) {x : te.den} (hx : datum s te z = some x) {q : List (Nat × List L)} (hq : Bl s ps.toList = some q) {xs : List te.den} (hxs : Ep s te q (List.replicate len x) = some xs)
  (hl : len * te.size ≤ 16777216) (hv : (Br (Bb s (q.flatMap fun x => A7 x.2)) d ⟨e, te, xs⟩).val = some s') : EOK P F s G a w o s' := by
 obtain ⟨hf, rfl⟩ := Dq hv
 obtain ⟨i, zv, hi, hzv, hs1, hs2, hs3⟩ := Ft hte
 obtain ⟨i', zv', hi', hzv', rfl, hone⟩ := Ec hz
 rw [hi] at hi'
 cases hi'
 rw [hzv] at hzv'
 cases hzv'
 have hz2 := Mk h (q.flatMap fun x => A7 x.2) hx (Ey (fun u hu => Ex u hu) _ hone) (fun m hm => by
  exfalso
  have : ∀ l : List Value, A7 (l.map A0) = [] := by
   intro l
   induction l with
   | nil => rfl
   | cons u l ih =>
    simp only [List.map_cons]
    have : ∀ k, A0 u ≠ .own k := fun k e => by have := Rb k u; rw [e] at this; simp [L.noO] at this
    unfold A7
    split
    ·rename_i e; cases e
    ·rename_i k r e; injection e with e1 e2; exact absurd e1 (this k)
    ·rename_i r e1 e2; injection e2 with e3 e4; subst e4; exact ih
  rw [this] at hm
  cases hm)
 have hzero : RepRow w (okS F (Bb s (q.flatMap fun x => A7 x.2)) G w) te (List.replicate len x) ((Array.range (len * i.size)).map (zv.cells[· % zv.cells.size]!)).toList := by
  have := Pj hz2 len
  rw [← Pk _ _ (by omega), hs2, ← hs1] at this
  rw [hs2, ← hs1]
  simpa using this
 obtain ⟨cs, hfill, hrow, hlen⟩ := Awc (ok := fun _ => True) te h _ q _ (List.replicate len x) xs _ (Wq h ps.toList q hq) (fun m hm => hm) hzero hxs
 rw [List.length_replicate] at hlen
 have hcs : cs.size = len * te.size := by have := hrow.len; rw [hlen, Array.length_toList] at this; exact this
 have h' := T5 (q.flatMap fun x => A7 x.2) h
 obtain ⟨h2, h3⟩ := Hj h' none (n := N0 + d) (o := ⟨e, te, xs⟩) hf (by omega) (w' := w.alloc (.cells cs e)) hs3
  ⟨rfl, rfl, rfl, by simp, fun k hk _ => (Grew.alloc w _).block hk⟩ (v' := .slice (some ⟨w.heap.size, 0, none⟩) len len) (fun k hk => .inr (by simp [Value.ownBlock] at hk; omega))
  (Aro hlen hcs (by unfold maxLen; have := Nat.le_mul_of_pos_right len hs3; omega)) hrow rfl (some d)
 rw [← hd] at h2 h3 ⊢
 refine .value (u := .slice (some ⟨w.heap.size, 0, none⟩) len len) ?_ h2 ((T6 _ _ _ h).trans h3)
 have e1 : (ps.map fun (x : Nat × Operand) => (x.1, a.eval x.2)).toList = ps.toList.map fun (x : Nat × Operand) => (x.1, a.eval x.2) := by simp
 rw [← hs1] at hfill hl
 by_cases h0 : len * i.size = 0
 ·have hl0 : len = 0 := by
   rcases Nat.mul_eq_zero.1 h0 with h0 | h0
   ·exact h0
   ·omega
  subst hl0
  have e0 : ∀ f : Nat → Value, (Array.range (0 * i.size)).map f = #[] := fun f => by rw [Nat.zero_mul, ← Array.toList_inj]; simp
  rw [e0] at hfill
  simp [execOp, ho, Instr.buildSlice, run_underlying (Bn he), sizeOf, typeInfo, hi, newRow, e1, -Array.toList_map, Array.range_zero']
  rw [hfill]
  rfl
 ·have hrun := run_buildSlice (P := P) w t e len (ps.map fun (x : Nat × Operand) => (x.1, a.eval x.2)) cs i zv (Bn he) hi hzv (by omega) h0 (by rw [e1]; exact hfill)
  simp only [execOp, ho, Sem.run_bind]
  rw [hrun]
  rfl
end
section
variable {P : Program} {F : Nat → Prop} {s s' : St} {G : Gm} {a : Act} {w : World} {o : Oper} {v : AV} {vals : List Value}
theorem N3 (h : Holds F s G vals w) {l : Nat} {x : Own} (hx : Aa s l = some x) {k : Nat} (hk : okS F s G w k ∨ (G.ow l).ownBlock = some k) : okS F (frz s l) G w k := by
 have := Aii h [l] (k := k) (by
  rcases hk with hk | hk
  ·exact .inl hk
  ·exact .inr ⟨l, by simp, x, hx, hk⟩)
 exact this
theorem e_cut (h : Holds F s G a.tmps.toList w) {T d e : Nat} {x : Operand} {lo hi : Option Operand} (ho : o.op = .slice T x lo hi none) (hd : o.dst = some d) {l : Nat} (hl : Ai (s.get x) = some (.own l)) (he : A1 P T = some e)
  {q : Own} (hq : Aa s l = some q) {p r : Int} (hp : A4 s 0 lo = some p) (hr : A4 s q.xs.length hi = some r) (hz : Ay P e = some q.t.size) (hb : cutB p r q.xs.length = true) :
  EOK P F s G a w o ((frz s l).put (some d) (lf (pvL q.t (cutL q.xs p r)))) := by
 have hrep := Hn h hq (As h hl).1
 obtain ⟨A, c, e2, hl1, hc1, hx⟩ := (show Da w _ _ _ q.xs [a.eval x] from hrep)
 have e3 := List.singleton_inj.1 e2
 have hrun := Pm (P := P) h true hp hr hb hl1
 obtain ⟨h0, h1, h2⟩ := Rp hb
 rw [e3] at hrep
 have h5 := Au1 (p := p.toNat) (q := r.toNat) hrep (by omega) (by omega)
 have h6 : HR F (frz s l) G w (pvL q.t (cutL q.xs p r)) (.slice (if c = p.toNat then A else A.map (·.add (p.toNat * q.t.size))) (r.toNat - p.toNat) (c - p.toNat)) :=
  Rep.mono (fun k hk => ⟨N3 h hq hk, rfl⟩) h5
 have h7 := (Jz h l).put (some d) (v := lf (pvL q.t (cutL q.xs p r))) h6
 rw [← hd] at h7 ⊢
 refine .value ?_ h7 ((Ail h l _ _).trans (Step.put _ _))
 simp [execOp, ho, e3, Instr.sliceAt, Instr.slice, run_underlying (Bn he), hrun, Ca hz]
theorem e_pop (h : Holds F s G a.tmps.toList w) {T d e : Nat} {x : Operand} {hi : Option Operand} (ho : o.op = .slice T x none hi none) (hd : o.dst = some d) {l : Nat} (hl : Ai (s.get x) = some (.own l)) (he : A1 P T = some e)
  {q : Own} (hq : Aa s l = some q) {r : Int} (hr : A4 s q.xs.length hi = some r) (hz : Ay P e = some q.t.size) (hb : cutB 0 r q.xs.length = true) (hne : 0 < q.xs.length) (hv : (Br (D7 s l) d ⟨q.e, q.t, q.xs.take r.toNat⟩).val = some s') :
  EOK P F s G a w o s' := by
 obtain ⟨hf, rfl⟩ := Dq hv
 have e1 : a.eval x = G.ow l := Hl h hq (As h hl).1 hne
 obtain ⟨h0', cs, hrow, hel⟩ := h.own l q hq
 obtain ⟨h0, h1, h2⟩ := Rp hb
 have hn : r.toNat ≤ q.xs.length := by omega
 have htl : (q.xs.take r.toNat).length = r.toNat := by rw [List.length_take]; omega
 have hsize : r.toNat * q.t.size ≤ q.xs.length * q.t.size := Nat.mul_le_mul_right _ hn
 have hcl : (cs.take (r.toNat * q.t.size)).length = (q.xs.take r.toNat).length * q.t.size := by rw [htl, List.length_take, hel.len]; omega
 have hrep' : RepRow w (okS F s G w) q.t (q.xs.take r.toNat) (cs.take (r.toNat * q.t.size)) := by
  unfold RepRow at hel ⊢
  have : (q.xs.take r.toNat).flatMap (flat q.t) = (q.xs.flatMap (flat q.t)).take (r.toNat * q.t.size) := by
   have e9 : q.xs.flatMap (flat q.t) = (q.xs.take r.toNat).flatMap (flat q.t) ++ (q.xs.drop r.toNat).flatMap (flat q.t) := by rw [← List.flatMap_append, List.take_append_drop]
   rw [e9, List.take_left' (by rw [Ae5, htl])]
  rw [this]
  exact All2.take hel _
 have key : ∃ v', (execOp a.eval o).run P w = .ok (.value v') w ∧ w.ownsRow 0 q.e q.t.size v' (q.xs.take r.toNat).length (cs.take (r.toNat * q.t.size)) ∧ v'.oneCell' = true ∧ v'.ownBlock = (G.ow l).ownBlock := by
  have hbd : ∀ c, q.xs.length ≤ c → (Instr.sliceBounds true q.xs.length c ((none : Option Operand).map a.eval) (hi.map a.eval) none).run P w = .ok ((0 : Int).toNat, r.toNat, c) w :=
   fun c hc => Pm (P := P) h (lo := none) (p := 0) true rfl hr hb hc
  rcases hrow.2 with ⟨ev, en⟩ | ⟨g, cap, cur, ev, g1, g2, g3, g4, g5, g6⟩
  ·have hz0 : q.xs.length = 0 := en
   have hr0 : r.toNat = 0 := by omega
   refine ⟨.slice none 0 0, ?_, ?_, rfl, by rw [ev]⟩
   ·have := hbd 0 (by omega)
    rw [hz0] at this
    simp at this
    simp [execOp, ho, e1, ev, Instr.sliceAt, Instr.slice, run_underlying (Bn he), this, Ca hz, hr0]
   ·exact ⟨hcl, .inl ⟨rfl, by rw [htl]; exact hr0⟩⟩
  ·refine ⟨.slice (some ⟨g, 0, none⟩) r.toNat cap, ?_, ?_, rfl, by rw [ev]; rfl⟩
   ·have := hbd cap g3
    simp at this
    have hadd : (⟨g, 0, none⟩ : Addr).add 0 = ⟨g, 0, none⟩ := rfl
    simp [execOp, ho, e1, ev, Instr.sliceAt, Instr.slice, run_underlying (Bn he), this, Ca hz, hadd]
   ·refine ⟨hcl, .inr ⟨g, cap, cur, by rw [htl], g1, g2, by rw [htl]; omega, g4, g5, ?_⟩⟩
    rw [htl, ← g6, List.take_take, Nat.min_eq_left hsize]
 obtain ⟨v', hrun, hown, hone, hblk⟩ := key
 obtain ⟨h3, h4⟩ := Hj h (some l) (n := N0 + d) (o := ⟨q.e, q.t, q.xs.take r.toNat⟩) hf (by omega) (w' := w) h0' (Keeps.refl _ _) (v' := v') (fun k hk => .inl ⟨l, q, rfl, hq, by rw [← hblk]; exact hk⟩) hown hrep' hone (some d)
 rw [← hd] at h3 h4 ⊢
 exact .value hrun h3 h4
theorem A53 {ok : Nat → Prop} {t : Ty} {ad : Addr} (hs : ad.spot = none) : ∀ (xs : List t.den) (k : Nat), (∀ (i : Nat) (x : t.den), xs[i]? = some x → ∃ es, Rep w ok t x es ∧ Cells w (ad.add ((k + i) * t.size)) es) →
  ∃ cs, RepRow w ok t xs cs ∧ Cells w (ad.add (k * t.size)) cs
 | [], k, _ => ⟨[], .nil, fun j v hv => by simp at hv⟩
 | x :: xs, k, h => by
  obtain ⟨es, h1, h2⟩ := h 0 x (by simp)
  obtain ⟨cs, h3, h4⟩ := A53 hs xs (k + 1) (fun i y hy => by
   have := h (i + 1) y (by simpa using hy)
   rw [Nat.add_assoc, Nat.add_comm 1 i]
   exact this)
  refine ⟨es ++ cs, ?_, ?_⟩
  ·unfold RepRow
   rw [List.flatMap_cons]
   exact (K7 h1).app h3
  ·intro j v hv
   rw [List.getElem?_append] at hv
   split at hv
   ·rw [Nat.add_zero] at h2
    exact h2 j v hv
   ·rename_i hj
    have h5 := h4 _ _ hv
    have hl := h1.len
    rw [Yz ad hs] at h5 ⊢
    have e : (k + 1) * t.size + (j - es.length) = k * t.size + j := by rw [Nat.succ_mul]; omega
    rw [e] at h5
    exact h5
theorem Bja (t ty e : Nat) (i : TypeInfo) (size cap : Nat) (ht : P.underlying t = some (.slice e)) (hi : P.info? e = some i) (v : Value) (n : Nat) (xs : List Value) (hown : w.ownsRow 0 e size v n xs) :
  (Builtin.append_ #[t, t] ty #[v, .slice none 0 cap]).run P w = .ok v w := by
 rcases hown.2 with ⟨rfl, rfl⟩ | ⟨g, cap, cur, rfl, _, _, hnc, _⟩
 ·simp [Builtin.append_, run_underlying ht, sizeOf, typeInfo, hi, Builtin.lenOf, Builtin.firstCells]
 ·simp [Builtin.append_, run_underlying ht, sizeOf, typeInfo, hi, Builtin.lenOf, Builtin.firstCells, hnc, storeCells]
theorem Aq0 (h : Holds F s G vals w) {t : Ty} {l : L} {v : Value} (hl : HR F s G w l v) {ys : List t.den} (hy : Do s t l = some ys) :
  (ys = [] ∧ ∃ c, v = .slice none 0 c) ∨ ∃ ad c cs, v = .slice (some ad) ys.length c ∧ Cells w ad cs ∧ RepRow w (okS F s G w) t ys cs := by
 have gen : ∀ {zs : List t.den}, Rep w (okS F s G w) (.slice t) zs [v] → (zs = [] ∧ ∃ c, v = .slice none 0 c) ∨ ∃ ad c cs, v = .slice (some ad) zs.length c ∧ Cells w ad cs ∧ RepRow w (okS F s G w) t zs cs := by
  intro zs hr
  obtain ⟨A, c, e1, hl1, hc1, hx⟩ := (show Da w _ _ _ zs [v] from hr)
  have e2 := List.singleton_inj.1 e1
  by_cases hn : zs = []
  ·subst hn
   cases A with
   | none => exact .inl ⟨rfl, c, e2⟩
   | some ad => exact .inr ⟨ad, c, [], e2, fun j v hv => by simp at hv, .nil⟩
  ·obtain ⟨ad, rfl, hs, _, hel⟩ := hx hn
   obtain ⟨cs, h3, h4⟩ := A53 hs zs 0 (fun i x hi => by rw [Nat.zero_add]; exact hel i x hi)
   rw [Nat.zero_mul] at h4
   exact .inr ⟨ad, c, cs, e2, h4, h3⟩
 cases l with
 | pv p =>
  have hy' : asTy (.slice t) p = some ys := hy
  have h2 : RepL w (okS F s G w) p v := hl
  rw [Ee hy'] at h2
  exact gen h2
 | own m =>
  have hy' : ((Aa s m).bind fun o => asTy (.slice t) ⟨.slice o.t, o.xs⟩) = some ys := hy
  obtain ⟨q, hq, h2⟩ := Option.bind_eq_some_iff.1 hy'
  have e5 := Ee h2
  obtain ⟨qe, qt, qx⟩ := q
  injection e5 with e6 e7
  injection e6 with e8
  subst e8
  have e9 := eq_of_heq e7
  subst e9
  obtain ⟨h0, cs, hr, he⟩ := h.own m _ hq
  rcases hl.1 with e1 | ⟨hg, ad, rfl⟩
  rotate_left
  ·have hx : qx = [] := by
    rcases hr.2 with ⟨_, hn⟩ | ⟨g, cap, cur, hv, _⟩
    ·exact List.length_eq_zero_iff.1 hn
    ·rw [hg] at hv; cases hv
   subst hx
   exact .inr ⟨ad, 0, [], rfl, fun j v hv => by simp at hv, .nil⟩
  rw [e1]
  rcases hr.2 with ⟨e1, e3⟩ | ⟨g, cap, cur, e1, _, e3, e4, e5, e6, e7⟩
  ·exact .inl ⟨List.length_eq_zero_iff.1 e3, 0, e1⟩
  ·refine .inr ⟨⟨g, 0, none⟩, cap, cs, e1, ?_, he⟩
   rw [← e7]
   have := Gp e3 0
   simp only [List.drop_zero] at this
   exact this.take _
 | cst k =>
  cases k with
  | sl =>
   have hy' : some ([] : List t.den) = some ys := hy
   cases hy'
   exact .inl ⟨rfl, 0, hl⟩
  | _ => cases (show (none : Option (List t.den)) = some ys from hy)
 | _ => cases (show (none : Option (List t.den)) = some ys from hy)
theorem Qu {e m n : Nat} (h : Cb P e m n = true) : (m + n) * B8 P e ≤ 140737488355328 ∧ m + n ≤ maxLen := by simpa [Cb] using h
theorem Bjb (h : Holds F s G vals w) {t e ty : Nat} {te : Ty} (ht : P.underlying t = some (.slice e)) (hte : Bi P e = some te) {v u : Value} {xs ys : List te.den} {cs : List Value} (hown : w.ownsRow 0 e te.size v xs.length cs) (hrow : RepRow w (okS F s G w) te xs cs)
  (hu : (ys = [] ∧ ∃ c, u = .slice none 0 c) ∨ ∃ ad c ds, u = .slice (some ad) ys.length c ∧ Cells w ad ds ∧ RepRow w (okS F s G w) te ys ds) (hm : Cb P e xs.length ys.length = true) :
  ∃ v' w' cs', (Builtin.append_ #[t, t] ty #[v, u]).run P w = .ok v' w' ∧ w'.ownsRow 0 e te.size v' (xs ++ ys).length cs' ∧ RepRow w (okS F s G w) te (xs ++ ys) cs' ∧ w.grownBy w' v.ownBlock ∧ (v'.ownBlock = v.ownBlock ∨ v'.ownBlock = some w.heap.size) ∧ v'.oneCell' = true := by
 obtain ⟨i, z, hi, hz, hs1, hs2, hs3⟩ := Ft hte
 obtain ⟨hm1, hm2⟩ := Qu hm
 have hone : ∀ {v : Value} {w : World} {n : Nat} {cs : List Value}, w.ownsRow 0 e te.size v n cs → v.oneCell' = true := by
  intro v w n cs hr
  rcases hr.2 with ⟨rfl, _⟩ | ⟨_, _, _, rfl, _⟩ <;> rfl
 rcases hu with ⟨rfl, c, rfl⟩ | ⟨ad, c, ds, rfl, hds, hrd⟩
 ·refine ⟨v, w, cs, Bja t ty e i te.size c ht hi v xs.length cs hown, by simpa using hown, by simpa using hrow, ⟨rfl, rfl, rfl, Nat.le_refl _, fun _ _ _ => rfl⟩, .inl rfl, hone hown⟩
 ·have hb : B8 P e = i.bytes := by simp [B8, hi]
  rw [hb] at hm1
  obtain ⟨v', w', h1, h2, h3, _, h5⟩ := run_append_own_at (P := P) w 0 t ty e i z te.size i.bytes ht hi hz hs1 rfl hs2 hs3 v xs.length cs hown ad ys.length c ds hrd.len hds hrd.one hm2 hm1 (Nat.zero_le _)
  refine ⟨v', w', cs ++ ds, h1, by rw [List.length_append]; exact h2, ?_, h3, h5, hone h2⟩
  unfold RepRow
  rw [List.flatMap_append]
  exact All2.app hrow hrd
def Aq5 (P : Program) (F : Nat → Prop) (s : St) (G : Gm) (w : World) (t u ty e : Nat) (te : Ty) (b : Value) (ys : List te.den) : Prop :=
 ∀ (v : Value) (xs : List te.den) (cs : List Value), w.ownsRow 0 e te.size v xs.length cs → RepRow w (okS F s G w) te xs cs → Cb P e xs.length ys.length = true →
  ∃ v' w' cs', (Builtin.append_ #[t, u] ty #[v, b]).run P w = .ok v' w' ∧ w'.ownsRow 0 e te.size v' (xs ++ ys).length cs' ∧ RepRow w (okS F s G w) te (xs ++ ys) cs' ∧ w.grownBy w' v.ownBlock ∧ (v'.ownBlock = v.ownBlock ∨ v'.ownBlock = some w.heap.size) ∧ v'.oneCell' = true
theorem Aq2 {e : Nat} (h : Gg P e = true) : ∃ i, P.info? e = some i ∧ i.zero = some (.int .u8 0) ∧ i.bytes = 1 ∧ i.size = 1 := by
 unfold Gg at h
 split at h
 ·rename_i i hi
  simp only [Bool.and_eq_true, decide_eq_true_eq] at h
  obtain ⟨h1, h2, h3⟩ := h
  split at h1
  ·rename_i n hz
   have := of_decide_eq_true h1
   subst this
   exact ⟨i, hi, hz, h2, h3⟩
  ·cases h1
 ·cases h
theorem A36 {t : Nat} (h : F2 P t = true) : P.underlying t = some .string := by
 unfold F2 at h
 split at h
 ·assumption
 ·cases h
theorem Bju {ok : Nat → Prop} (y : ByteArray) : RepRow w ok (.int .u8) (bs y) (Go.Lib.strCells y) := by
 unfold RepRow bs Go.Lib.strCells
 have : ∀ l : List UInt8, All2 (RepL w ok) ((l.map fun b => (b.toNat : Int)).flatMap (flat (.int .u8))) (l.map fun b => Value.int .u8 b.toNat) := by
  intro l
  induction l with
  | nil => exact .nil
  | cons b l ih =>
   refine .cons ?_ ih
   exact ⟨rfl, wf_u8 b⟩
 exact this _
theorem Bjc {t u e ty : Nat} (ht : P.underlying t = some (.slice e)) (hus : F2 P u = true) (hu8 : Gg P e = true) (y : ByteArray) (zs : List (Ty.int .u8).den) (hzs : bs y = zs) : Aq5 P F s G w t u ty e (.int .u8) (.string y) zs := by
 intro v xs cs hown hrow hm
 obtain ⟨i, hi, hz, hb, hs⟩ := Aq2 hu8
 have hu := A36 hus
 have hl' : (bs y).length = y.size := by simp [bs]
 have hln : zs.length = y.size := by rw [← hzs]; exact hl'
 have hone : ∀ {v : Value} {w : World} {n : Nat} {cs : List Value}, w.ownsRow 0 e 1 v n cs → v.oneCell' = true := by
  intro v w n cs hr
  rcases hr.2 with ⟨rfl, _⟩ | ⟨_, _, _, rfl, _⟩ <;> rfl
 obtain ⟨hm1, hm2⟩ := Qu hm
 rw [show B8 P e = 1 by simp [B8, hi, hb], Nat.mul_one] at hm1
 replace hm1 : xs.length + y.size ≤ 140737488355328 := by rw [← hln]; exact hm1
 replace hm2 : xs.length + y.size ≤ maxLen := by rw [← hln]; exact hm2
 obtain ⟨v', w', h1, h2, h3, h4⟩ := Go.Lib.run_append_own_string (P := P) w 0 t u ty e i ht hu hi hz hs hb v xs.length cs hown y hm2 hm1 (Nat.zero_le _)
 have hblk : v'.ownBlock = v.ownBlock ∨ v'.ownBlock = some w.heap.size := by
  simp only [maxLen] at hm2
  rcases hown.2 with ⟨rfl, hn⟩ | ⟨g, cap, cur, rfl, _, hg, hnc, hcm, hcs, htake⟩
  ·by_cases h0 : y.size = 0
   ·exact .inl (by rw [h4.2 ⟨rfl, h0⟩])
   ·rw [run_append_nil_string (P := P) w t u ty e i (.int .u8 0) ht hu hi hz y (by omega) (by omega) (by rw [hb]; omega)] at h1
    cases h1
    exact .inr rfl
  ·by_cases hroom : xs.length + y.size ≤ cap
   ·rw [Go.Lib.run_append_room_string (P := P) w t u ty e i ht hu hi hs g xs.length cap cur hg y hroom (by simp only [Ty.size, Nat.mul_one] at hcs; omega)] at h1
    cases h1
    exact .inl rfl
   ·have holds : ∀ j u, cs[j]? = some u → w.cell? ((⟨g, 0, none⟩ : Addr).add j) = some u := hown.cells (g := g) rfl
    rw [Go.Lib.run_append_grow_string (P := P) w t u ty e i (.int .u8 0) ht hu hi hz ⟨g, 0, none⟩ xs.length cap cs (by rw [hs]; exact hown.1) holds y (by omega) (by omega) (by rw [hb]; exact growslice_fits (by omega) (by omega))] at h1
    cases h1
    exact .inr rfl
 refine ⟨v', w', cs ++ Go.Lib.strCells y, h1, by rw [List.length_append, hln]; exact h2, ?_, h3, hblk, hone h2⟩
 unfold RepRow
 rw [List.flatMap_append]
 refine All2.app hrow ?_
 have := Bju (w := w) (ok := okS F s G w) y
 rw [hzs] at this
 exact this
def Ql (P : Program) (w : World) (t u ty : Nat) (b : Value) (n : Nat) : Prop := ∀ ad : Addr, (n = 0 → (Builtin.append_ #[t, u] ty #[.slice (some ad) 0 0, b]).run P w = .ok (.slice (some ad) 0 0) w) ∧
 (0 < n → (Builtin.append_ #[t, u] ty #[.slice (some ad) 0 0, b]).run P w = (Builtin.append_ #[t, u] ty #[.slice none 0 0, b]).run P w)
theorem A9h {ok : Nat → Prop} {t e ty : Nat} {te : Ty} {u : Value} {ys : List te.den} (ht : P.underlying t = some (.slice e)) (hte : Bi P e = some te)
  (hu : (ys = [] ∧ ∃ c, u = .slice none 0 c) ∨ ∃ ad c ds, u = .slice (some ad) ys.length c ∧ Cells w ad ds ∧ RepRow w ok te ys ds) (hm : Cb P e 0 ys.length = true) : Ql P w t t ty u ys.length := by
 obtain ⟨i, z, hi, hz, hs1, hs2, hs3⟩ := Ft hte
 obtain ⟨hm1, hm2⟩ := Qu hm
 have hb : B8 P e = i.bytes := by simp [B8, hi]
 rw [hb] at hm1
 intro ad
 rcases hu with ⟨rfl, c, rfl⟩ | ⟨a2, c, ds, rfl, hds, hrd⟩
 ·refine ⟨fun _ => ?_, fun h => absurd h (by simp)⟩
  simp [Builtin.append_, run_underlying ht, sizeOf, typeInfo, hi, Builtin.lenOf, Builtin.firstCells, storeCells]
 ·refine ⟨fun h0 => ?_, fun h0 => ?_⟩
  ·rw [h0]
   simp [Builtin.append_, run_underlying ht, sizeOf, typeInfo, hi, Builtin.lenOf, Builtin.firstCells, storeCells, loadCells, loadCellsFrom]
  ·have hl : ds.length = ys.length * i.size := by rw [hrd.len, hs1]
   have hmx : maxLen = 9223372036854775807 := rfl
   rw [run_append_nil (P := P) w t ty e i z ht hi hz a2 ys.length c ds hl hds h0 (by omega) (by rw [Nat.zero_add] at hm1; omega)]
   have h3 := run_append_grow (P := P) w t ty e i z ht hi hz ad 0 0 [] (by simp) (fun j v h => by simp at h) a2 ys.length c ds hl hds (by omega) (by omega) (by rw [Nat.zero_add, nextslicecap_zero h0]; rw [Nat.zero_add] at hm1; omega)
   simp only [Nat.zero_add, Array.empty_append] at h3
   exact h3
theorem A9i {t u e ty : Nat} (ht : P.underlying t = some (.slice e)) (hus : F2 P u = true) (hu8 : Gg P e = true) (y : ByteArray) (hm : y.size ≤ 140737488355328) : Ql P w t u ty (.string y) y.size := by
 obtain ⟨i, hi, hz, hb, hs⟩ := Aq2 hu8
 have hu := A36 hus
 intro ad
 refine ⟨fun h0 => ?_, fun h0 => ?_⟩
 ·simp [Builtin.append_, run_underlying ht, run_underlying hu, sizeOf, typeInfo, hi, Builtin.lenOf, Builtin.firstCells, storeCells, h0]
 ·rw [run_append_nil_string (P := P) w t u ty e i (.int .u8 0) ht hu hi hz y h0 (by omega) (by rw [hb]; omega)]
  have holds : ∀ j u, ([] : List Value)[j]? = some u → w.cell? (ad.add j) = some u := fun j u h => by simp at h
  have h3 := Go.Lib.run_append_grow_string (P := P) w t u ty e i (.int .u8 0) ht hu hi hz ad 0 0 [] (by simp) holds y (by omega) (by omega) (by rw [Nat.zero_add, nextslicecap_zero h0, hb]; omega)
  rw [h3]
  have hst : (Go.Lib.strCells y).toArray = Array.map (fun b : UInt8 => Value.int IntKind.u8 (b.toNat : Int)) y.data := by
   apply Array.ext'
   simp [Go.Lib.strCells]
  simp [Nat.zero_add, hst]
theorem Ww {x y : Operand} {t u' : Nat} (ho : o.op = .call { callee := .builtin .append, args := #[x, y], argTypes := #[t, u'] }) {u : Value} {w' : World} (h : (Builtin.append_ #[t, u'] o.type #[a.eval x, a.eval y]).run P w = .ok u w') :
  (execOp a.eval o).run P w = .ok (.value u) w' := by
 simp only [execOp, ho, resolve, invoke, builtin, Sem.run_bind, Sem.run_pure, Result.andThen_ok, List.map_toArray, List.map_cons, List.map_nil, h]
theorem Avf (h : Holds F s G a.tmps.toList w) {x y : Operand} {t u d e : Nat} (ho : o.op = .call { callee := .builtin .append, args := #[x, y], argTypes := #[t, u] }) (hd : o.dst = some d) {la lb : L} (hla : Ai (s.get x) = some la)
  (he : A1 P t = some e) (hsrc : ∀ (te : Ty) (ys : List te.den), Bi P e = some te → Do s te lb = some ys → Aq5 P F s G w t u o.type e te (a.eval y) ys)
  (hal : ∀ (te : Ty) (ys : List te.den), Bi P e = some te → Do s te lb = some ys → Cb P e 0 ys.length = true → Ql P w t u o.type (a.eval y) ys.length) (hv : (Fj P s d e la lb).val = some s') : EOK P F s G a w o s' := by
 have ka := As h hla
 have ht := Bn he
 unfold Fj at hv
 split at hv
 ·cases hv
 ·rename_i te hte
  split at hv
  ·rename_i l
   split at hv
   ·rename_i q hq
    split at hv
    ·rename_i hqe
     split at hv
     ·rename_i xs ys hxs hys
      cases hb : Cb P e (List.length xs) ys.length with
      | false => rw [hb] at hv; cases hv
      | true =>
       rw [hb] at hv
       obtain ⟨hf, rfl⟩ := Dq (show (Br (D7 s l) d ⟨e, te, List.append xs ys⟩).val = some s' from hv)
       have e5 := Ee hxs
       obtain ⟨qe, qt, qx⟩ := q
       injection e5 with e6 e7
       injection e6 with e8
       subst e8
       have e9 := eq_of_heq e7
       subst e9
       obtain rfl : qe = e := hqe
       obtain ⟨h0, cs, hown, hrow⟩ := h.own l _ hq
       rcases ka.1 with e1 | ⟨hgn, ad, e1⟩
       rotate_left
       ·have hx : qx = [] := by
         rcases hown.2 with ⟨_, hn⟩ | ⟨g, cap, cur, hv, _⟩
         ·exact List.length_eq_zero_iff.1 hn
         ·rw [hgn] at hv; cases hv
        subst hx
        obtain ⟨al0, al1⟩ := hal _ _ hte hys hb ad
        by_cases hy0 : ys.length = 0
        ·have := List.length_eq_zero_iff.1 hy0
         subst this
         obtain ⟨g1, g2⟩ := A4y h (some l) (n := N0 + d) (o := ⟨qe, qt, List.append [] []⟩) hf (by omega) h0 rfl (some ad) (some d)
         rw [← hd] at g1 g2 ⊢
         exact .value (Ww ho (by rw [e1]; exact al0 rfl)) g1 g2
        ·obtain ⟨v', w', cs', h1, h2, h3, h4, h5, h6⟩ := hsrc _ _ hte hys (.slice none 0 0) [] [] (World.ownsRow_nil w 0 qe qt.size) .nil hb
         rw [← al1 (by omega), ← e1] at h1
         obtain ⟨g1, g2⟩ := Hj h (some l) (n := N0 + d) (o := ⟨qe, qt, List.append [] ys⟩) hf (by omega) (w' := w') h0
          ⟨h4.os, h4.tape, h4.output, h4.size, fun k hk1 hk2 => h4.block k hk1 (by simp [Value.ownBlock])⟩ (v' := v')
          (fun k hk => by
           rcases h5 with h5 | h5
           ·rw [h5] at hk; simp [Value.ownBlock] at hk
           ·rw [h5] at hk; cases hk; exact .inr (Nat.le_refl _)) h2 h3 h6 (some d)
         rw [← hd] at g1 g2 ⊢
         exact .value (Ww ho h1) g1 g2
       obtain ⟨v', w', cs', h1, h2, h3, h4, h5, h6⟩ := hsrc _ _ hte hys _ _ _ hown hrow hb
       rw [← e1] at h1
       obtain ⟨g1, g2⟩ := Hj h (some l) (n := N0 + d) (o := ⟨qe, qt, List.append qx ys⟩) hf (by omega) (w' := w') h0
        ⟨h4.os, h4.tape, h4.output, h4.size, fun k hk1 hk2 => h4.block k hk1 fun e => hk2 ⟨l, _, rfl, hq, e.symm⟩⟩ (v' := v')
        (fun k hk => by
         rcases h5 with h5 | h5
         ·exact .inl ⟨l, _, rfl, hq, by rw [← h5]; exact hk⟩
         ·rw [h5] at hk; cases hk; exact .inr (Nat.le_refl _)) h2 h3 h6 (some d)
       rw [← hd] at g1 g2 ⊢
       exact .value (Ww ho h1) g1 g2
     ·cases hv
    ·cases hv
   ·cases hv
  ·split at hv
   ·rename_i ys hys
    cases hb : Cb P e 0 ys.length with
    | false => rw [hb] at hv; cases hv
    | true =>
     rw [hb] at hv
     obtain ⟨hf, rfl⟩ := Dq (show (Br s d ⟨e, te, ys⟩).val = some s' from hv)
     obtain ⟨i, z, hi, hz, hs1, hs2, hs3⟩ := Ft hte
     obtain ⟨v', w', cs', h1, h2, h3, h4, h5, h6⟩ := hsrc _ _ hte hys _ [] _ (World.ownsRow_nil w 0 e te.size) .nil hb
     rw [← show a.eval x = .slice none 0 0 from ka] at h1
     simp only [List.nil_append] at h2 h3
     obtain ⟨g1, g2⟩ := Hj h none (n := N0 + d) (o := ⟨e, te, ys⟩) hf (by omega) (w' := w') hs3
      ⟨h4.os, h4.tape, h4.output, h4.size, fun k hk1 hk2 => h4.block k hk1 (by simp [Value.ownBlock])⟩ (v' := v')
      (fun k hk => by
       rcases h5 with h5 | h5
       ·rw [h5] at hk; simp [Value.ownBlock] at hk
       ·rw [h5] at hk; cases hk; exact .inr (Nat.le_refl _)) h2 h3 h6 (some d)
     rw [← hd] at g1 g2 ⊢
     exact .value (Ww ho h1) g1 g2
   ·cases hv
  ·cases hv
theorem Bcw (h : Holds F s G a.tmps.toList w) {x y : Operand} {t d e : Nat} (ho : o.op = .call { callee := .builtin .append, args := #[x, y], argTypes := #[t, t] }) (hd : o.dst = some d) {la lb : L} (hla : Ai (s.get x) = some la) (hlb : Ai (s.get y) = some lb)
  (he : A1 P t = some e) (hv : (Fj P s d e la lb).val = some s') : EOK P F s G a w o s' :=
 Avf h ho hd hla he (fun te ys hte hys v xs cs hown hrow hm => Bjb (ty := o.type) h (Bn he) hte hown hrow (Aq0 h (As h hlb) hys) hm)
  (fun te ys hte hys hm => A9h (ty := o.type) (Bn he) hte (Aq0 h (As h hlb) hys) hm) hv
theorem Bcx (h : Holds F s G a.tmps.toList w) {x y : Operand} {t u d e : Nat} (ho : o.op = .call { callee := .builtin .append, args := #[x, y], argTypes := #[t, u] }) (hd : o.dst = some d) {la : L} {z : List Int} (hla : Ai (s.get x) = some la) (hlb : Ai (s.get y) = some (.pv ⟨.str, z⟩))
  (he : A1 P t = some e) (hus : F2 P u = true) (hu8 : Gg P e = true) (hv : (Fj P s d e la (pvL (.int .u8) z)).val = some s') : EOK P F s G a w o s' := by
 obtain ⟨yb, h1, h2, h3⟩ : ∃ yb : ByteArray, a.eval y = .string yb ∧ bs yb = z ∧ yb.size ≤ maxLen := by
  obtain ⟨yb, e1, e2, e3⟩ := (show Rep w (okS F s G w) .str z [a.eval y] from As h hlb)
  exact ⟨yb, List.singleton_inj.1 e1, e2, e3⟩
 refine Avf h ho hd hla he (fun te ys hte hys => ?_) (fun te ys hte hys hm => ?_) hv
 rotate_left
 ·have hys' : asTy (.slice te) ⟨.slice (.int .u8), z⟩ = some ys := hys
  have e5 := Ee hys'
  injection e5 with e6 e7
  injection e6 with e8
  subst e8
  have e9 := eq_of_heq e7
  subst e9
  have hln : z.length = yb.size := by rw [← h2]; simp [bs]
  obtain ⟨i, hi, hz, hb, hs⟩ := Aq2 hu8
  obtain ⟨hm1, hm2⟩ := Qu hm
  rw [show B8 P e = 1 by simp [B8, hi, hb], Nat.mul_one, Nat.zero_add] at hm1
  have hm3 : z.length ≤ 140737488355328 := hm1
  show Ql P w t u o.type (a.eval y) (List.length z)
  rw [h1, hln]
  exact A9i (Bn he) hus hu8 yb (by omega)
 have hys' : asTy (.slice te) ⟨.slice (.int .u8), z⟩ = some ys := hys
 have e5 := Ee hys'
 injection e5 with e6 e7
 injection e6 with e8
 subst e8
 have e9 := eq_of_heq e7
 subst e9
 rw [h1]
 exact Bjc (Bn he) hus hu8 yb _ h2
end
end Go.Proofs.YtgmpjapnhdilaaaGreatV
