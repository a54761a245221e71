import Derived.Test.YtghmhkpgdmgepaaV16
import Derived.Lib.AppendStr
/-! The V engine, 17: rows that are cut, and appended to. -/
set_option linter.unusedVariables false
set_option linter.unusedSimpArgs false
namespace Go.Proofs.YtghmhkpgdmgepaaV
open Go Go.RowKit

section
variable {P : Program} {F : Nat → Prop} {s s' : St} {G : Gm} {a : Act} {w : World} {o : Oper} {v : AV} {vals : List Value}

theorem frz_ok (h : Holds F s G vals w) {l : Nat} {x : Own} (hx : ownAt s l = some x) {k : Nat} (hk : okS F s G w k ∨ (G.ow l).ownBlock = some k) : okS F (frz s l) G w k := by
  have := frzAll_ok h [l] (k := k) (by
    rcases hk with hk | hk
    · exact .inl hk
    · exact .inr ⟨l, by simp, x, hx, hk⟩)
  exact this

theorem e_cut (h : Holds F s G a.tmps.toList w) {T d e : Nat} {x : Operand} {lo hi : Option Operand} (ho : o.op = .slice T x lo hi none) (hd : o.dst = some d) {l : Nat} (hl : leaf1 (s.get x) = some (.own l)) (he : elemOfSl P T = some e)
    {q : Own} (hq : ownAt s l = some q) {p r : Int} (hp : optInt s 0 lo = some p) (hr : optInt s q.xs.length hi = some r) (hz : sizeT P e = some q.t.size) (hb : cutB p r q.xs.length = true) :
    EOK P F s G a w o ((frz s l).put (some d) (lf (pvL q.t (cutL q.xs p r)))) := by
  have e1 : a.eval x = G.ow l := (leaf_holds h hl).1
  have hrep := own_rep h hq
  obtain ⟨A, c, e2, hl1, hc1, hx⟩ := (show RepSl w _ _ _ q.xs [G.ow l] from hrep)
  have e3 := List.singleton_inj.1 e2
  have hrun := run_bounds (P := P) h true hp hr hb hl1
  obtain ⟨h0, h1, h2⟩ := cutB_true hb
  rw [e3] at hrep
  have h5 := cut_rep (p := p.toNat) (q := r.toNat) hrep (by omega) (by omega)
  have h6 : HR F (frz s l) G w (pvL q.t (cutL q.xs p r)) (.slice (if c = p.toNat then A else A.map (·.add (p.toNat * q.t.size))) (r.toNat - p.toNat) (c - p.toNat)) :=
    Rep.mono (fun k hk => ⟨frz_ok h hq (by rw [e3]; exact hk), rfl⟩) h5
  have h7 := (frz_holds h l).put (some d) (v := lf (pvL q.t (cutL q.xs p r))) h6
  rw [← hd] at h7 ⊢
  refine .value ?_ h7 ((frz_step h l _ _).trans (Step.put _ _))
  simp [execOp, ho, e1, e3, Instr.sliceAt, Instr.slice, run_underlying (elemOfSl_some he), hrun, sizeOf_run hz]

theorem e_pop (h : Holds F s G a.tmps.toList w) {T d e : Nat} {x : Operand} {hi : Option Operand} (ho : o.op = .slice T x none hi none) (hd : o.dst = some d) {l : Nat} (hl : leaf1 (s.get x) = some (.own l)) (he : elemOfSl P T = some e)
    {q : Own} (hq : ownAt s l = some q) {r : Int} (hr : optInt s q.xs.length hi = some r) (hz : sizeT P e = some q.t.size) (hb : cutB 0 r q.xs.length = true) (hv : (addOwn (killO s l) d ⟨q.e, q.t, q.xs.take r.toNat⟩).val = some s') :
    EOK P F s G a w o s' := by
  obtain ⟨hf, rfl⟩ := addOwn_some hv
  have e1 : a.eval x = G.ow l := (leaf_holds h hl).1
  obtain ⟨h0', cs, hrow, hel⟩ := h.own l q hq
  obtain ⟨h0, h1, h2⟩ := cutB_true hb
  have hn : r.toNat ≤ q.xs.length := by omega
  have htl : (q.xs.take r.toNat).length = r.toNat := by rw [List.length_take]; omega
  have hsize : r.toNat * q.t.size ≤ q.xs.length * q.t.size := Nat.mul_le_mul_right _ hn
  have hcl : (cs.take (r.toNat * q.t.size)).length = (q.xs.take r.toNat).length * q.t.size := by rw [htl, List.length_take, hel.len]; omega
  have hrep' : RepRow w (okS F s G w) q.t (q.xs.take r.toNat) (cs.take (r.toNat * q.t.size)) := by
    unfold RepRow at hel ⊢
    have : (q.xs.take r.toNat).flatMap (flat q.t) = (q.xs.flatMap (flat q.t)).take (r.toNat * q.t.size) := by
      have e9 : q.xs.flatMap (flat q.t) = (q.xs.take r.toNat).flatMap (flat q.t) ++ (q.xs.drop r.toNat).flatMap (flat q.t) := by rw [← List.flatMap_append, List.take_append_drop]
      rw [e9, List.take_left' (by rw [flatMap_len, htl])]
    rw [this]
    exact All2.take hel _
  -- the value
  have key : ∃ v', (execOp a.eval o).run P w = .ok (.value v') w ∧ w.ownsRow 0 q.e q.t.size v' (q.xs.take r.toNat).length (cs.take (r.toNat * q.t.size)) ∧ v'.oneCell' = true ∧ v'.ownBlock = (G.ow l).ownBlock := by
    have hbd : ∀ c, q.xs.length ≤ c → (Instr.sliceBounds true q.xs.length c ((none : Option Operand).map a.eval) (hi.map a.eval) none).run P w = .ok ((0 : Int).toNat, r.toNat, c) w :=
      fun c hc => run_bounds (P := P) h (lo := none) (p := 0) true rfl hr hb hc
    rcases hrow.2 with ⟨ev, en⟩ | ⟨g, cap, cur, ev, g1, g2, g3, g4, g5, g6⟩
    · have hz0 : q.xs.length = 0 := en
      have hr0 : r.toNat = 0 := by omega
      refine ⟨.slice none 0 0, ?_, ?_, rfl, by rw [ev]⟩
      · have := hbd 0 (by omega)
        rw [hz0] at this
        simp at this
        simp [execOp, ho, e1, ev, Instr.sliceAt, Instr.slice, run_underlying (elemOfSl_some he), this, sizeOf_run hz, hr0]
      · exact ⟨hcl, .inl ⟨rfl, by rw [htl]; exact hr0⟩⟩
    · refine ⟨.slice (some ⟨g, 0, none⟩) r.toNat cap, ?_, ?_, rfl, by rw [ev]; rfl⟩
      · have := hbd cap g3
        simp at this
        have hadd : (⟨g, 0, none⟩ : Addr).add 0 = ⟨g, 0, none⟩ := rfl
        simp [execOp, ho, e1, ev, Instr.sliceAt, Instr.slice, run_underlying (elemOfSl_some he), this, sizeOf_run hz, hadd]
      · refine ⟨hcl, .inr ⟨g, cap, cur, by rw [htl], g1, g2, by rw [htl]; omega, g4, g5, ?_⟩⟩
        rw [htl, ← g6, List.take_take, Nat.min_eq_left hsize]
  obtain ⟨v', hrun, hown, hone, hblk⟩ := key
  obtain ⟨h3, h4⟩ := newOwn h (some l) (n := N0 + d) (o := ⟨q.e, q.t, q.xs.take r.toNat⟩) hf (by omega) (w' := w) h0' (Keeps.refl _ _) (v' := v') (fun k hk => .inl ⟨l, q, rfl, hq, by rw [← hblk]; exact hk⟩) hown hrep' hone (some d)
  rw [← hd] at h3 h4 ⊢
  exact .value hrun h3 h4

/-- A row that is read, cell by cell. -/
theorem row_of {ok : Nat → Prop} {t : Ty} {ad : Addr} (hs : ad.spot = none) : ∀ (xs : List t.den) (k : Nat), (∀ (i : Nat) (x : t.den), xs[i]? = some x → ∃ es, Rep w ok t x es ∧ Cells w (ad.add ((k + i) * t.size)) es) →
    ∃ cs, RepRow w ok t xs cs ∧ Cells w (ad.add (k * t.size)) cs
  | [], k, _ => ⟨[], .nil, fun j v hv => by simp at hv⟩
  | x :: xs, k, h => by
    obtain ⟨es, h1, h2⟩ := h 0 x (by simp)
    obtain ⟨cs, h3, h4⟩ := row_of hs xs (k + 1) (fun i y hy => by
      have := h (i + 1) y (by simpa using hy)
      rw [Nat.add_assoc, Nat.add_comm 1 i]
      exact this)
    refine ⟨es ++ cs, ?_, ?_⟩
    · unfold RepRow
      rw [List.flatMap_cons]
      exact (rep_flat h1).app h3
    · intro j v hv
      rw [List.getElem?_append] at hv
      split at hv
      · rw [Nat.add_zero] at h2
        exact h2 j v hv
      · rename_i hj
        have h5 := h4 _ _ hv
        have hl := h1.len
        rw [add_add ad hs] at h5 ⊢
        have e : (k + 1) * t.size + (j - es.length) = k * t.size + j := by rw [Nat.succ_mul]; omega
        rw [e] at h5
        exact h5

theorem run_append_none (t ty e : Nat) (i : TypeInfo) (size cap : Nat) (ht : P.underlying t = some (.slice e)) (hi : P.info? e = some i) (v : Value) (n : Nat) (xs : List Value) (hown : w.ownsRow 0 e size v n xs) :
    (Builtin.append_ #[t, t] ty #[v, .slice none 0 cap]).run P w = .ok v w := by
  rcases hown.2 with ⟨rfl, rfl⟩ | ⟨g, cap, cur, rfl, _, _, hnc, _⟩
  · simp [Builtin.append_, run_underlying ht, sizeOf, typeInfo, hi, Builtin.lenOf, Builtin.firstCells]
  · simp [Builtin.append_, run_underlying ht, sizeOf, typeInfo, hi, Builtin.lenOf, Builtin.firstCells, hnc, storeCells]

/-- What is appended: no cells, or cells that read. -/
theorem src_sound (h : Holds F s G vals w) {t : Ty} {l : L} {v : Value} (hl : HR F s G w l v) {ys : List t.den} (hy : srcOf s t l = some ys) :
    (ys = [] ∧ ∃ c, v = .slice none 0 c) ∨ ∃ ad c cs, v = .slice (some ad) ys.length c ∧ Cells w ad cs ∧ RepRow w (okS F s G w) t ys cs := by
  have gen : ∀ {zs : List t.den}, Rep w (okS F s G w) (.slice t) zs [v] → (zs = [] ∧ ∃ c, v = .slice none 0 c) ∨ ∃ ad c cs, v = .slice (some ad) zs.length c ∧ Cells w ad cs ∧ RepRow w (okS F s G w) t zs cs := by
    intro zs hr
    obtain ⟨A, c, e1, hl1, hc1, hx⟩ := (show RepSl w _ _ _ zs [v] from hr)
    have e2 := List.singleton_inj.1 e1
    by_cases hn : zs = []
    · subst hn
      cases A with
      | none => exact .inl ⟨rfl, c, e2⟩
      | some ad => exact .inr ⟨ad, c, [], e2, fun j v hv => by simp at hv, .nil⟩
    · obtain ⟨ad, rfl, hs, _, hel⟩ := hx hn
      obtain ⟨cs, h3, h4⟩ := row_of hs zs 0 (fun i x hi => by rw [Nat.zero_add]; exact hel i x hi)
      rw [Nat.zero_mul] at h4
      exact .inr ⟨ad, c, cs, e2, h4, h3⟩
  cases l with
  | pv p =>
    have hy' : asTy (.slice t) p = some ys := hy
    have h2 : RepL w (okS F s G w) p v := hl
    rw [asTy_some hy'] at h2
    exact gen h2
  | own m =>
    have hy' : ((ownAt s m).bind fun o => asTy (.slice t) ⟨.slice o.t, o.xs⟩) = some ys := hy
    obtain ⟨q, hq, h2⟩ := Option.bind_eq_some_iff.1 hy'
    have e5 := asTy_some h2
    obtain ⟨qe, qt, qx⟩ := q
    injection e5 with e6 e7
    injection e6 with e8
    subst e8
    have e9 := eq_of_heq e7
    subst e9
    obtain ⟨h0, cs, hr, he⟩ := h.own m _ hq
    rw [show v = G.ow m from hl.1]
    rcases hr.2 with ⟨e1, e3⟩ | ⟨g, cap, cur, e1, _, e3, e4, e5, e6, e7⟩
    · exact .inl ⟨List.length_eq_zero_iff.1 e3, 0, e1⟩
    · refine .inr ⟨⟨g, 0, none⟩, cap, cs, e1, ?_, he⟩
      rw [← e7]
      have := cells_block e3 0
      simp only [List.drop_zero] at this
      exact this.take _
  | cst k =>
    cases k with
    | sl =>
      have hy' : some ([] : List t.den) = some ys := hy
      cases hy'
      exact .inl ⟨rfl, 0, hl⟩
    | _ => cases (show (none : Option (List t.den)) = some ys from hy)
  | _ => cases (show (none : Option (List t.den)) = some ys from hy)

theorem appMax_true {e m n : Nat} (h : appMax P e m n = true) : (m + n) * bytesT P e ≤ 140737488355328 ∧ m + n ≤ maxLen := by simpa [appMax] using h

/-- append, in the model: the value that comes back, its row. -/
theorem run_appended (h : Holds F s G vals w) {t e ty : Nat} {te : Ty} (ht : P.underlying t = some (.slice e)) (hte : elemTy P e = some te) {v u : Value} {xs ys : List te.den} {cs : List Value} (hown : w.ownsRow 0 e te.size v xs.length cs) (hrow : RepRow w (okS F s G w) te xs cs)
    (hu : (ys = [] ∧ ∃ c, u = .slice none 0 c) ∨ ∃ ad c ds, u = .slice (some ad) ys.length c ∧ Cells w ad ds ∧ RepRow w (okS F s G w) te ys ds) (hm : appMax P e xs.length ys.length = true) :
    ∃ v' w' cs', (Builtin.append_ #[t, t] ty #[v, u]).run P w = .ok v' w' ∧ w'.ownsRow 0 e te.size v' (xs ++ ys).length cs' ∧ RepRow w (okS F s G w) te (xs ++ ys) cs' ∧ w.grownBy w' v.ownBlock ∧ (v'.ownBlock = v.ownBlock ∨ v'.ownBlock = some w.heap.size) ∧ v'.oneCell' = true := by
  obtain ⟨i, z, hi, hz, hs1, hs2, hs3⟩ := elemTy_some hte
  obtain ⟨hm1, hm2⟩ := appMax_true hm
  have hone : ∀ {v : Value} {w : World} {n : Nat} {cs : List Value}, w.ownsRow 0 e te.size v n cs → v.oneCell' = true := by
    intro v w n cs hr
    rcases hr.2 with ⟨rfl, _⟩ | ⟨_, _, _, rfl, _⟩ <;> rfl
  rcases hu with ⟨rfl, c, rfl⟩ | ⟨ad, c, ds, rfl, hds, hrd⟩
  · refine ⟨v, w, cs, run_append_none t ty e i te.size c ht hi v xs.length cs hown, by simpa using hown, by simpa using hrow, ⟨rfl, rfl, rfl, Nat.le_refl _, fun _ _ _ => rfl⟩, .inl rfl, hone hown⟩
  · have hb : bytesT P e = i.bytes := by simp [bytesT, hi]
    rw [hb] at hm1
    obtain ⟨v', w', h1, h2, h3, _, h5⟩ := run_append_own_at (P := P) w 0 t ty e i z te.size i.bytes ht hi hz hs1 rfl hs2 hs3 v xs.length cs hown ad ys.length c ds hrd.len hds hrd.one hm2 hm1 (Nat.zero_le _)
    refine ⟨v', w', cs ++ ds, h1, by rw [List.length_append]; exact h2, ?_, h3, h5, hone h2⟩
    unfold RepRow
    rw [List.flatMap_append]
    exact All2.app hrow hrd

theorem run_call_append {x y : Operand} {t : Nat} (ho : o.op = .call { callee := .builtin .append, args := #[x, y], argTypes := #[t, t] }) {u : Value} {w' : World} (h : (Builtin.append_ #[t, t] o.type #[a.eval x, a.eval y]).run P w = .ok u w') :
    (execOp a.eval o).run P w = .ok (.value u) w' := by
  simp only [execOp, ho, resolve, invoke, builtin, Sem.run_bind, Sem.run_pure, Result.andThen_ok, List.map_toArray, List.map_cons, List.map_nil, h]

/-- What append comes to, wherever its source is from. -/
def AppRun (P : Program) (F : Nat → Prop) (s : St) (G : Gm) (w : World) (t u ty e : Nat) (te : Ty) (b : Value) (ys : List te.den) : Prop :=
  ∀ (v : Value) (xs : List te.den) (cs : List Value), w.ownsRow 0 e te.size v xs.length cs → RepRow w (okS F s G w) te xs cs → appMax P e xs.length ys.length = true →
    ∃ v' w' cs', (Builtin.append_ #[t, u] ty #[v, b]).run P w = .ok v' w' ∧ w'.ownsRow 0 e te.size v' (xs ++ ys).length cs' ∧ RepRow w (okS F s G w) te (xs ++ ys) cs' ∧ w.grownBy w' v.ownBlock ∧ (v'.ownBlock = v.ownBlock ∨ v'.ownBlock = some w.heap.size) ∧ v'.oneCell' = true

theorem u8Row_some {e : Nat} (h : u8Row P e = true) : ∃ i, P.info? e = some i ∧ i.zero = some (.int .u8 0) ∧ i.bytes = 1 ∧ i.size = 1 := by
  unfold u8Row at h
  split at h
  · rename_i i hi
    simp only [Bool.and_eq_true, decide_eq_true_eq] at h
    obtain ⟨h1, h2, h3⟩ := h
    split at h1
    · rename_i n hz
      have := of_decide_eq_true h1
      subst this
      exact ⟨i, hi, hz, h2, h3⟩
    · cases h1
  · cases h
theorem isStrT_some {t : Nat} (h : isStrT P t = true) : P.underlying t = some .string := by
  unfold isStrT at h
  split at h
  · assumption
  · cases h
theorem strCells_row {ok : Nat → Prop} (y : ByteArray) : RepRow w ok (.int .u8) (bs y) (Go.Lib.strCells y) := by
  unfold RepRow bs Go.Lib.strCells
  have : ∀ l : List UInt8, All2 (RepL w ok) ((l.map fun b => (b.toNat : Int)).flatMap (flat (.int .u8))) (l.map fun b => Value.int .u8 b.toNat) := by
    intro l
    induction l with
    | nil => exact .nil
    | cons b l ih =>
      refine .cons ?_ ih
      exact ⟨rfl, wf_u8 b⟩
  exact this _
theorem run_appendedS {t u e ty : Nat} (ht : P.underlying t = some (.slice e)) (hus : isStrT P u = true) (hu8 : u8Row P e = true) (y : ByteArray) (zs : List (Ty.int .u8).den) (hzs : bs y = zs) : AppRun P F s G w t u ty e (.int .u8) (.string y) zs := by
  intro v xs cs hown hrow hm
  obtain ⟨i, hi, hz, hb, hs⟩ := u8Row_some hu8
  have hu := isStrT_some hus
  have hln : zs.length = y.size := by have : (bs y).length = y.size := by simp [bs]
                                      rw [hzs] at this; exact this
  have hone : ∀ {v : Value} {w : World} {n : Nat} {cs : List Value}, w.ownsRow 0 e 1 v n cs → v.oneCell' = true := by
    intro v w n cs hr
    rcases hr.2 with ⟨rfl, _⟩ | ⟨_, _, _, rfl, _⟩ <;> rfl
  obtain ⟨hm1, hm2⟩ := appMax_true hm
  rw [show bytesT P e = 1 by simp [bytesT, hi, hb], Nat.mul_one] at hm1
  replace hm1 : xs.length + y.size ≤ 140737488355328 := by rw [← hln]; exact hm1
  replace hm2 : xs.length + y.size ≤ maxLen := by rw [← hln]; exact hm2
  obtain ⟨v', w', h1, h2, h3, h4⟩ := Go.Lib.run_append_own_string (P := P) w 0 t u ty e i ht hu hi hz hs hb v xs.length cs hown y hm2 hm1 (Nat.zero_le _)
  have hblk : v'.ownBlock = v.ownBlock ∨ v'.ownBlock = some w.heap.size := by
    simp only [maxLen] at hm2
    rcases hown.2 with ⟨rfl, hn⟩ | ⟨g, cap, cur, rfl, _, hg, hnc, hcm, hcs, htake⟩
    · by_cases h0 : y.size = 0
      · exact .inl (by rw [h4.2 ⟨rfl, h0⟩])
      · rw [run_append_nil_string (P := P) w t u ty e i (.int .u8 0) ht hu hi hz y (by omega) (by omega) (by rw [hb]; omega)] at h1
        cases h1
        exact .inr rfl
    · by_cases hroom : xs.length + y.size ≤ cap
      · rw [Go.Lib.run_append_room_string (P := P) w t u ty e i ht hu hi hs g xs.length cap cur hg y hroom (by simp only [Ty.size, Nat.mul_one] at hcs; omega)] at h1
        cases h1
        exact .inl rfl
      · have holds : ∀ j u, cs[j]? = some u → w.cell? ((⟨g, 0, none⟩ : Addr).add j) = some u := hown.cells (g := g) rfl
        rw [Go.Lib.run_append_grow_string (P := P) w t u ty e i (.int .u8 0) ht hu hi hz ⟨g, 0, none⟩ xs.length cap cs (by rw [hs]; exact hown.1) holds y (by omega) (by omega) (by rw [hb]; exact growslice_fits (by omega) (by omega))] at h1
        cases h1
        exact .inr rfl
  refine ⟨v', w', cs ++ Go.Lib.strCells y, h1, by rw [List.length_append, hln]; exact h2, ?_, h3, hblk, hone h2⟩
  unfold RepRow
  rw [List.flatMap_append]
  refine All2.app hrow ?_
  have := strCells_row (w := w) (ok := okS F s G w) y
  rw [hzs] at this
  exact this

theorem run_call_appendU {x y : Operand} {t u' : Nat} (ho : o.op = .call { callee := .builtin .append, args := #[x, y], argTypes := #[t, u'] }) {u : Value} {w' : World} (h : (Builtin.append_ #[t, u'] o.type #[a.eval x, a.eval y]).run P w = .ok u w') :
    (execOp a.eval o).run P w = .ok (.value u) w' := by
  simp only [execOp, ho, resolve, invoke, builtin, Sem.run_bind, Sem.run_pure, Result.andThen_ok, List.map_toArray, List.map_cons, List.map_nil, h]

theorem e_appendG (h : Holds F s G a.tmps.toList w) {x y : Operand} {t u d e : Nat} (ho : o.op = .call { callee := .builtin .append, args := #[x, y], argTypes := #[t, u] }) (hd : o.dst = some d) {la lb : L} (hla : leaf1 (s.get x) = some la)
    (he : elemOfSl P t = some e) (hsrc : ∀ (te : Ty) (ys : List te.den), elemTy P e = some te → srcOf s te lb = some ys → AppRun P F s G w t u o.type e te (a.eval y) ys) (hv : (appendOc P s d e la lb).val = some s') : EOK P F s G a w o s' := by
  have ka := leaf_holds h hla
  have ht := elemOfSl_some he
  unfold appendOc at hv
  split at hv
  · cases hv
  · rename_i te hte
    split at hv
    · rename_i l
      split at hv
      · rename_i q hq
        split at hv
        · rename_i hqe
          split at hv
          · rename_i xs ys hxs hys
            cases hb : appMax P e (List.length xs) ys.length with
            | false => rw [hb] at hv; cases hv
            | true =>
              rw [hb] at hv
              obtain ⟨hf, rfl⟩ := addOwn_some (show (addOwn (killO s l) d ⟨e, te, List.append xs ys⟩).val = some s' from hv)
              have e5 := asTy_some hxs
              obtain ⟨qe, qt, qx⟩ := q
              injection e5 with e6 e7
              injection e6 with e8
              subst e8
              have e9 := eq_of_heq e7
              subst e9
              obtain rfl : qe = e := hqe
              obtain ⟨h0, cs, hown, hrow⟩ := h.own l _ hq
              obtain ⟨v', w', cs', h1, h2, h3, h4, h5, h6⟩ := hsrc _ _ hte hys _ _ _ hown hrow hb
              rw [← show a.eval x = G.ow l from ka.1] at h1
              obtain ⟨g1, g2⟩ := newOwn h (some l) (n := N0 + d) (o := ⟨qe, qt, List.append qx ys⟩) hf (by omega) (w' := w') h0
                ⟨h4.os, h4.tape, h4.output, h4.size, fun k hk1 hk2 => h4.block k hk1 fun e => hk2 ⟨l, _, rfl, hq, e.symm⟩⟩ (v' := v')
                (fun k hk => by
                  rcases h5 with h5 | h5
                  · exact .inl ⟨l, _, rfl, hq, by rw [← h5]; exact hk⟩
                  · rw [h5] at hk; cases hk; exact .inr (Nat.le_refl _)) h2 h3 h6 (some d)
              rw [← hd] at g1 g2 ⊢
              exact .value (run_call_appendU ho h1) g1 g2
          · cases hv
        · cases hv
      · cases hv
    · split at hv
      · rename_i ys hys
        cases hb : appMax P e 0 ys.length with
        | false => rw [hb] at hv; cases hv
        | true =>
          rw [hb] at hv
          obtain ⟨hf, rfl⟩ := addOwn_some (show (addOwn s d ⟨e, te, ys⟩).val = some s' from hv)
          obtain ⟨i, z, hi, hz, hs1, hs2, hs3⟩ := elemTy_some hte
          obtain ⟨v', w', cs', h1, h2, h3, h4, h5, h6⟩ := hsrc _ _ hte hys _ [] _ (World.ownsRow_nil w 0 e te.size) .nil hb
          rw [← show a.eval x = .slice none 0 0 from ka] at h1
          simp only [List.nil_append] at h2 h3
          obtain ⟨g1, g2⟩ := newOwn h none (n := N0 + d) (o := ⟨e, te, ys⟩) hf (by omega) (w' := w') hs3
            ⟨h4.os, h4.tape, h4.output, h4.size, fun k hk1 hk2 => h4.block k hk1 (by simp [Value.ownBlock])⟩ (v' := v')
            (fun k hk => by
              rcases h5 with h5 | h5
              · rw [h5] at hk; simp [Value.ownBlock] at hk
              · rw [h5] at hk; cases hk; exact .inr (Nat.le_refl _)) h2 h3 h6 (some d)
          rw [← hd] at g1 g2 ⊢
          exact .value (run_call_appendU ho h1) g1 g2
      · cases hv
    · cases hv


theorem e_append (h : Holds F s G a.tmps.toList w) {x y : Operand} {t d e : Nat} (ho : o.op = .call { callee := .builtin .append, args := #[x, y], argTypes := #[t, t] }) (hd : o.dst = some d) {la lb : L} (hla : leaf1 (s.get x) = some la) (hlb : leaf1 (s.get y) = some lb)
    (he : elemOfSl P t = some e) (hv : (appendOc P s d e la lb).val = some s') : EOK P F s G a w o s' :=
  e_appendG h ho hd hla he (fun te ys hte hys v xs cs hown hrow hm => run_appended (ty := o.type) h (elemOfSl_some he) hte hown hrow (src_sound h (leaf_holds h hlb) hys) hm) hv
theorem e_appendS (h : Holds F s G a.tmps.toList w) {x y : Operand} {t u d e : Nat} (ho : o.op = .call { callee := .builtin .append, args := #[x, y], argTypes := #[t, u] }) (hd : o.dst = some d) {la : L} {z : List Int} (hla : leaf1 (s.get x) = some la) (hlb : leaf1 (s.get y) = some (.pv ⟨.str, z⟩))
    (he : elemOfSl P t = some e) (hus : isStrT P u = true) (hu8 : u8Row P e = true) (hv : (appendOc P s d e la (pvL (.int .u8) z)).val = some s') : EOK P F s G a w o s' := by
  obtain ⟨yb, h1, h2, h3⟩ : ∃ yb : ByteArray, a.eval y = .string yb ∧ bs yb = z ∧ yb.size ≤ maxLen := by
    obtain ⟨yb, e1, e2, e3⟩ := (show Rep w (okS F s G w) .str z [a.eval y] from leaf_holds h hlb)
    exact ⟨yb, List.singleton_inj.1 e1, e2, e3⟩
  refine e_appendG h ho hd hla he (fun te ys hte hys => ?_) hv
  have hys' : asTy (.slice te) ⟨.slice (.int .u8), z⟩ = some ys := hys
  have e5 := asTy_some hys'
  injection e5 with e6 e7
  injection e6 with e8
  subst e8
  have e9 := eq_of_heq e7
  subst e9
  rw [h1]
  exact run_appendedS (elemOfSl_some he) hus hu8 yb _ h2

end
end Go.Proofs.YtghmhkpgdmgepaaV
