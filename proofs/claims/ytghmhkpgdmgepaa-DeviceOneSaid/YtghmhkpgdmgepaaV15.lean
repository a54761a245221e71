import Derived.Test.YtghmhkpgdmgepaaV14
import Derived.Laws.MakeOwn
import Derived.Laws.OwnMore
import Derived.Great.BuildSlice
/-! The V engine, 15: operations that make or write memory. -/
set_option linter.unusedVariables false
set_option linter.unusedSimpArgs false
namespace Go.Proofs.YtghmhkpgdmgepaaV
open Go Go.RowKit

section
variable {P : Program} {F : Nat → Prop} {s s' : St} {G : Gm} {a : Act} {w : World} {o : Oper} {v : AV} {vals : List Value}

theorem flatMap_set {t : Ty} : ∀ {xs : List t.den} {i : Nat} {x : t.den}, xs[i]? = some x → ∃ a b, xs.flatMap (flat t) = a ++ flat t x ++ b ∧ a.length = i * t.size ∧ ∀ y, (xs.set i y).flatMap (flat t) = a ++ flat t y ++ b
  | [], i, x, h => by simp at h
  | y :: ys, 0, x, h => by simp at h; subst h; exact ⟨[], ys.flatMap (flat t), by simp, by simp, fun y => by simp⟩
  | y :: ys, i + 1, x, h => by
    obtain ⟨a, b, e, hl, hs⟩ := flatMap_set (xs := ys) (i := i) (x := x) (by simpa using h)
    exact ⟨flat t y ++ a, b, by simp [e], by simp [hl, flat_len, Nat.add_mul, Nat.add_comm], fun z => by simp [hs z]⟩

theorem take_splice {α : Type} (cur vs : List α) (p m : Nat) (hp : p + vs.length ≤ m) (hm : m ≤ cur.length) :
    (cur.take p ++ vs ++ cur.drop (p + vs.length)).take m = (cur.take m).take p ++ vs ++ (cur.take m).drop (p + vs.length) := by
  have hl : (cur.take p ++ vs).length = p + vs.length := by rw [List.length_append, List.length_take]; omega
  rw [List.take_append, hl, List.take_of_length_le (by rw [hl]; exact hp), List.take_take, Nat.min_eq_left (by omega), List.drop_take]
/-- A row is written. -/
theorem store_own (h : Holds F s G vals w) {l : Nat} {x : Own} (hx : ownAt s l = some x) {g n cap : Nat} (hG : G.ow l = .slice (some ⟨g, 0, none⟩) n cap) {cur cur' : Array Value} (hh : w.heap[g]? = some (.cells cur x.e (0, 0))) (hs : cur'.size = cur.size)
    {xs' : List x.t.den} (hl : xs'.length = x.xs.length) (hr : RepRow w (okS F s G w) x.t xs' (cur'.toList.take (xs'.length * x.t.size))) :
    Holds F (setOwn s l (some ⟨x.e, x.t, xs'⟩)) G vals (w.setRow g cur') ∧ ∀ nb no, Step nb no s G w (setOwn s l (some ⟨x.e, x.t, xs'⟩)) G (w.setRow g cur') := by
  have hox := fun q => ownAt_set (s := s) (x := some (⟨x.e, x.t, xs'⟩ : Own)) (ownAt_lt hx) q
  generalize hw : w.setRow g cur' = w'
  have hsz : w'.heap.size = w.heap.size := by rw [← hw]; simp
  have hoth : ∀ j, j ≠ g → w'.heap[j]? = w.heap[j]? := fun j hj => by rw [← hw]; exact setRow_other w _ _ _ hj
  have hself : w'.heap[g]? = some (.cells cur' x.e (0, 0)) := by rw [← hw]; exact setRow_heap w _ cur _ x.e _ hh
  have hgl : Live s G g := .inr ⟨l, x, hx, by rw [hG]; rfl⟩
  have hl1 : ∀ j, Live (setOwn s l (some ⟨x.e, x.t, xs'⟩)) G j ↔ Live s G j := by
    intro j
    constructor
    · rintro (hr | ⟨l', q, hq, hj⟩)
      · exact .inl hr
      · rw [hox] at hq
        split at hq
        · rename_i e; subst e; exact .inr ⟨l', x, hx, hj⟩
        · exact .inr ⟨l', q, hq, hj⟩
    · rintro (hr | ⟨l', q, hq, hj⟩)
      · exact .inl hr
      · by_cases e : l' = l
        · exact .inr ⟨l', _, by rw [hox, if_pos e], hj⟩
        · exact .inr ⟨l', q, by rw [hox, if_neg e]; exact hq, hj⟩
  have hok : ∀ j, okS F s G w j → okS F (setOwn s l (some ⟨x.e, x.t, xs'⟩)) G w' j ∧ w'.heap[j]? = w.heap[j]? := by
    intro j hj
    exact ⟨⟨by rw [hsz]; exact hj.1, hj.2.1, fun hL => hj.2.2 ((hl1 j).1 hL)⟩, hoth j fun e => hj.2.2 (by rw [e]; exact hgl)⟩
  have htr : ∀ q v, HR F s G w q v → HR F (setOwn s l (some ⟨x.e, x.t, xs'⟩)) G w' q v := fun q v hr => HL.tr (G := G) hok (fun _ _ => ⟨rfl, rfl⟩) (fun _ _ => rfl) (fun q x' _ hx' => by
    have h5 : ownAt (setOwn s l (some ⟨x.e, x.t, xs'⟩)) q = some x' := hx'
    rw [hox] at h5
    split at h5
    · rename_i e; subst e; cases h5; exact ⟨x, hx, by simp [hl], rfl⟩
    · exact ⟨x', h5, Nat.le_refl _, rfl⟩) hr
  refine ⟨⟨?_, ?_, ?_, h.bb, ?_, ?_, ?_, ?_, ?_⟩, fun nb no => ⟨⟨by rw [← hw]; rfl, by rw [← hw]; rfl, by rw [← hw]; rfl, by rw [hsz]; exact Nat.le_refl _, fun j _ hj => hoth j fun e => hj (by rw [e]; exact hgl)⟩, fun j hj => .inl ((hl1 j).1 hj), fun _ _ => ⟨rfl, rfl⟩, fun l' _ q hq => ?_⟩⟩
  · exact h.slots.imp fun _ _ ha => ha.imp htr
  · intro b q hb
    obtain ⟨cs2, et2, h1, h2⟩ := h.box b q hb
    have hne : G.bx b ≠ g := fun e => h.bo b q l x hb hx (by rw [hG, e]; rfl)
    exact ⟨cs2, et2, by rw [hoth _ hne]; exact h1, h2.imp htr⟩
  · intro l' q hq
    rw [hox] at hq
    split at hq
    · rename_i e
      subst e
      cases hq
      obtain ⟨h0, cs2, h1, h2⟩ := h.own l' x hx
      refine ⟨h0, cur'.toList.take (xs'.length * x.t.size), ⟨?_, .inr ?_⟩, hr.mono hok⟩
      · have := hr.len
        exact this
      · rcases h1.2 with ⟨e1, _⟩ | ⟨g', cap', cur2, e1, e2, e3, e4, e5, e6, e7⟩
        · rw [hG] at e1; cases e1
        · rw [hG] at e1
          cases e1
          rw [hh] at e3
          cases e3
          refine ⟨g, cap, cur', ?_, Nat.zero_le _, hself, by simpa [hl] using e4, e5, by rw [hs]; exact e6, rfl⟩
          rw [hG]
          simp [hl]
    · rename_i e
      obtain ⟨h0, cs2, h1, h2⟩ := h.own l' q hq
      refine ⟨h0, cs2, ownsRow_block h1 fun j hj => hoth j fun e2 => ?_, h2.mono hok⟩
      subst e2
      exact e (h.oo l' l q x j hq hx hj (by rw [hG]; rfl))
  · intro b q l' y hb hy
    rw [hox] at hy
    split at hy
    · rename_i e; subst e; exact h.bo b q l' x hb hx
    · exact h.bo b q l' y hb hy
  · intro l1 l2 x1 x2 j h1 h2
    rw [hox] at h1 h2
    split at h1 <;> split at h2
    · rename_i e1 e2; intro _ _; rw [e1, e2]
    · rename_i e1 e2; subst e1; exact h.oo _ _ _ _ _ hx h2
    · rename_i e1 e2; subst e2; exact h.oo _ _ _ _ _ h1 hx
    · exact h.oo _ _ _ _ _ h1 h2
  · exact fun j hj => h.nF j ((hl1 j).1 hj)
  · exact fun j hj => by rw [hsz]; exact h.Flt j hj
  · intro b q hb cs3 et3 fr3 hc3
    have hne : G.bx b ≠ g := fun e => h.bo b q l x hb hx (by rw [hG, e]; rfl)
    rw [hoth _ hne] at hc3
    exact h.ty b q hb cs3 et3 fr3 hc3
  · rw [hox] at hq
    split at hq
    · rename_i e; subst e; exact ⟨⟨x, hx⟩, rfl⟩
    · exact ⟨⟨q, hq⟩, rfl⟩

/-- An operation is done, and the next state holds. -/
def EOK (P : Program) (F : Nat → Prop) (s : St) (G : Gm) (a : Act) (w : World) (o : Oper) (s' : St) : Prop :=
  ∀ (K : Act → World → Prop) (Q : Exit → Act → World → Prop), (∀ G' a' w', Holds F s' G' a'.tmps.toList w' → Step N0 N0 s G w s' G' w' → a'.defers = a.defers → K a' w') → o.wp P a w K Q

theorem put_defers (a : Act) (d : Option Tmp) (u : Value) : (a.put d u).defers = a.defers := by cases d <;> rfl
theorem EOK.value {u : Value} {w' : World} {G' : Gm} (hr : (execOp a.eval o).run P w = .ok (.value u) w') (h : Holds F s' G' (a.put o.dst u).tmps.toList w') (hs : Step N0 N0 s G w s' G' w') : EOK P F s G a w o s' := by
  intro K Q hK
  unfold Oper.wp
  rw [hr]
  exact hK _ _ _ h hs (put_defers _ _ _)
theorem EOK.skip {w' : World} {G' : Gm} (hr : (execOp a.eval o).run P w = .ok .skip w') (h : Holds F s' G' (a.put o.dst undef).tmps.toList w') (hs : Step N0 N0 s G w s' G' w') : EOK P F s G a w o s' := by
  intro K Q hK
  unfold Oper.wp
  rw [hr]
  exact hK _ _ _ h hs (put_defers _ _ _)

theorem e_value (h : Holds F s G a.tmps.toList w) (hv : ((opV P s o.op).bind fun v => Oc.ok (s.put o.dst v)).val = some s') : EOK P F s G a w o s' := by
  rw [Oc.val_bind] at hv
  obtain ⟨v, h1, h2⟩ := Option.bind_eq_some_iff.1 hv
  cases h2
  obtain ⟨u, w', hr, hg, hh⟩ := opV_sound h h1
  exact .value hr ((h.grew hg).put o.dst hh) ((Step.grew hg).trans (Step.put _ _))

theorem addBox_some {d : Nat} {ls : List L} (h : (addBox s d ls).val = some s') : freshB s (N0 + d) = true ∧ s' = (setBox s (N0 + d) ls).put (some d) (lf (.ptr (N0 + d) 0)) := by
  unfold addBox at h
  split at h
  · rename_i hf; cases h; exact ⟨hf, rfl⟩
  · cases h
theorem addOwn_some {d : Nat} {x : Own} (h : (addOwn s d x).val = some s') : freshO s (N0 + d) = true ∧ s' = (setOwn s (N0 + d) (some x)).put (some d) (lf (.own (N0 + d))) := by
  unfold addOwn at h
  split at h
  · rename_i hf; cases h; exact ⟨hf, rfl⟩
  · cases h

/-- A new box, its builder told as such. -/
theorem mkBld_holds {bl : List Nat} {t n : Nat} {vals : List Value} (h : Holds F s G vals w) (ht : G.et n = t) : Holds F (mkBld bl t n s) G vals w ∧ Step N0 N0 s G w (mkBld bl t n s) G w := by
  unfold mkBld
  split
  · split
    · rename_i r hr
      obtain ⟨cs, et, hc, hl⟩ := h.box n _ hr
      cases hcs : cs.toList with
      | nil => rw [hcs] at hl; cases hl
      | cons v vs =>
        rw [hcs] at hl
        cases hl with
        | cons h0 h1 =>
          have hlt : n < s.boxes.length := by
            unfold boxAt at hr
            cases he : s.boxes[n]? with
            | none => simp [he] at hr
            | some y => exact (List.getElem?_eq_some_iff.1 he).1
          have hbx := fun b' => boxAt_set (s := s) (ls := .bld n t true :: r) hlt b'
          have hlive : Live (setBox s n (.bld n t true :: r)) G = Live s G := by
            funext j
            simp only [Live, eq_iff_iff]
            constructor
            · rintro (⟨b', q, hb', rfl⟩ | hr2)
              · rw [hbx] at hb'
                split at hb'
                · rename_i e; subst e; exact .inl ⟨_, _, hr, rfl⟩
                · exact .inl ⟨b', q, hb', rfl⟩
              · exact .inr hr2
            · rintro (⟨b', q, hb', rfl⟩ | hr2)
              · by_cases e : b' = n
                · exact .inl ⟨b', _, by rw [hbx, if_pos e], rfl⟩
                · exact .inl ⟨b', q, by rw [hbx, if_neg e]; exact hb', rfl⟩
              · exact .inr hr2
          have hHR : HR F (setBox s n (.bld n t true :: r)) G w = HR F s G w := by
            unfold HR okS
            rw [hlive]
            rfl
          refine ⟨⟨by rw [hHR]; exact h.slots, fun b ls hb => ?_, fun l x hx => ?_, fun b b' ls ls' hb hb' e => ?_, fun b ls l x hb hx => ?_, h.oo, by rw [hlive]; exact h.nF, h.Flt, fun b ls hb => ?_⟩, ⟨Keeps.refl _ _, fun j hj => .inl (by rw [hlive] at hj; exact hj), fun _ _ => ⟨rfl, rfl⟩, fun l _ x hx => ⟨⟨x, hx⟩, rfl⟩⟩⟩
          · rw [hHR]
            rw [hbx] at hb
            split at hb
            · rename_i e
              subst e
              cases hb
              refine ⟨cs, et, hc, ?_⟩
              rw [hcs]
              exact .cons ⟨h0, ht⟩ h1
            · exact h.box b ls hb
          · have hok : okS F (setBox s n (.bld n t true :: r)) G w = okS F s G w := by
              funext j
              simp only [okS, hlive]
            rw [hok]
            exact h.own l x hx
          · rw [hbx] at hb hb'
            split at hb <;> split at hb'
            · rename_i e1 e2; rw [e1, e2]
            · rename_i e1 e2; subst e1; exact h.bb _ _ _ _ hr hb' e
            · rename_i e1 e2; subst e2; exact h.bb _ _ _ _ hb hr e
            · exact h.bb _ _ _ _ hb hb' e
          · rw [hbx] at hb
            split at hb
            · rename_i e; subst e; exact h.bo _ _ l x hr hx
            · exact h.bo b ls l x hb hx
          · rw [hbx] at hb
            split at hb
            · rename_i e; subst e; exact h.ty _ _ hr
            · exact h.ty b ls hb
    · exact ⟨h, Step.refl _ _ _ _ _⟩
  · exact ⟨h, Step.refl _ _ _ _ _⟩
theorem addBoxT_some {bl : List Nat} {t d : Nat} {ls : List L} (h : (addBoxT bl t s d ls).val = some s') : freshB s (N0 + d) = true ∧ s' = mkBld bl t (N0 + d) ((setBox s (N0 + d) ls).put (some d) (lf (.ptr (N0 + d) 0))) := by
  unfold addBoxT at h
  rw [Oc.val_bind] at h
  obtain ⟨s1, h1, h2⟩ := Option.bind_eq_some_iff.1 h
  cases h2
  obtain ⟨h3, rfl⟩ := addBox_some h1
  exact ⟨h3, rfl⟩

theorem e_alloc (h : Holds F s G a.tmps.toList w) {t d : Nat} (ho : o.op = .alloc t) (hd : o.dst = some d) {ls : List L} {bl : List Nat} (hz : zeroLs P t = some ls) (hv : (addBoxT bl t s d ls).val = some s') : EOK P F s G a w o s' := by
  obtain ⟨hf, rfl⟩ := addBoxT_some hv
  obtain ⟨i, zv, hi, hzz, rfl, h1⟩ := zeroLs_holds hz
  obtain ⟨h2, h3⟩ := newBox h hf (by omega) (ls := zv.cells.toList.map constL) (fun l hl => by obtain ⟨v, _, rfl⟩ := List.mem_map.1 hl; exact constL_noB _ _) (cs := zv.cells) t (constLs_holds (fun u hu => constL_holds u hu) _ h1) (some d)
  obtain ⟨h4, h5⟩ := mkBld_holds (bl := bl) (t := t) (n := N0 + d) h2 (by simp [Gm.setB])
  rw [← hd] at h4 h5 h3 ⊢
  refine .value (u := .pointer (some ⟨w.heap.size, 0, none⟩)) ?_ h4 (h3.trans h5)
  simp [execOp, ho, Instr.alloc, zeroValue, typeInfo, hi, hzz, newVar, newRow]

theorem e_box (h : Holds F s G a.tmps.toList w) {t d : Nat} {x : Operand} (ho : o.op = .box t x) (hd : o.dst = some d) {ls : List L} {bl : List Nat} (hl : leavesOf (s.get x) = some ls) (hv : (addBoxT bl t s d ls).val = some s') : EOK P F s G a w o s' := by
  obtain ⟨hf, rfl⟩ := addBoxT_some hv
  have hall := (freshB_some hf).2.2
  have h4 := leaves_all (all_get (fun v => constL_noB _ v) (fun f => rfl) hall x) hl
  obtain ⟨h2, h3⟩ := newBox h hf (by omega) h4 (cs := (a.eval x).cells) t (leaves_holds h hl) (some d)
  obtain ⟨h6, h5⟩ := mkBld_holds (bl := bl) (t := t) (n := N0 + d) h2 (by simp [Gm.setB])
  rw [← hd] at h6 h5 h3 ⊢
  refine .value (u := .pointer (some ⟨w.heap.size, 0, none⟩)) ?_ h6 (h3.trans h5)
  simp [execOp, ho, Instr.box, newVar, newRow]

theorem hr_ones {ls : List L} {cs : List Value} (h : All2 (HR F s G w) ls cs) : ∀ u ∈ cs, u.oneCell' = true := by
  intro u hu
  obtain ⟨i, hi, rfl⟩ := List.getElem_of_mem hu
  have hi2 : cs[i]? = some cs[i] := List.getElem?_eq_getElem hi
  obtain ⟨l, _, hl⟩ := All2.get' h hi2
  exact hl.one

theorem e_store_box (h : Holds F s G a.tmps.toList w) {t b k n : Nat} {x y : Operand} (ho : o.op = .store t x y) (hd : o.dst = none) (hp : leaf1 (s.get x) = some (.ptr b k)) {new : List L} (hn : leavesOf (s.get y) = some new) (hz : sizeT P t = some n)
    {ls : List L} (hb : boxAt s b = some ls) (hc : new.length = n ∧ k + n ≤ ls.length) : EOK P F s G a w o (setBox s b (splice ls k new)) := by
  obtain ⟨cs, et, hcs, hall⟩ := h.box b ls hb
  have hv := leaves_holds h hn
  have hl1 := hv.len
  have hl2 := hall.len
  have hlt : k + (a.eval y).cells.toList.length ≤ cs.size := by simp at hl1 hl2 ⊢; omega
  obtain ⟨h2, h3⟩ := store_box (k := k) (new := new) h hb (by omega) hv hcs
  have hst := run_storeCells_at P (G.bx b) k et (a.eval y).cells.toList 0 cs w hcs (by simpa using hlt) (hr_ones hv)
  have e : a.eval x = _ := leaf_holds h hp
  refine .skip ?_ (by rw [hd]; exact h2) (h3 _ _)
  have hsz : (a.eval y).cells.size = n := by simp at hl1; omega
  simp only [execOp, ho, Instr.storeAt, e, Instr.sureAddr, Sem.run_bind, Sem.run_pure, Result.andThen_ok, storeVar, sizeOf_run hz, hsz]
  simp [hst]

theorem e_store_elem (h : Holds F s G a.tmps.toList w) {t l i k z n : Nat} {x y : Operand} (ho : o.op = .store t x y) (hd : o.dst = none) (hp : leaf1 (s.get x) = some (.ept l i k z)) {new : List L} (hn : leavesOf (s.get y) = some new) (hz : sizeT P t = some n)
    {q : Own} (hq : ownAt s l = some q) (hc : new.length = n ∧ k + n ≤ q.t.size) {ts : List Ty} {ps : List PL} (hps : plsOf s ts new = some ps) {x' : q.t.den}
    (hu : unflat q.t ((flat q.t (rdD q.t q.xs i)).take k ++ ps ++ (flat q.t (rdD q.t q.xs i)).drop (k + n)) = some (x', [])) (hno : (ownsOf new).contains l = false) :
    EOK P F s G a w o (setOwn (frzAll s (ownsOf new)) l (some ⟨q.e, q.t, q.xs.set i x'⟩)) := by
  have hv := leaves_holds h hn
  have hl1 := hv.len
  have hlp := leaf_holds h hp
  obtain ⟨g, m, c, hG, hptr, h3⟩ := hlp
  obtain ⟨hi, rfl⟩ := h3 q hq
  have hm : l ∉ ownsOf new := by simpa using hno
  have h' := frzAll_holds (ownsOf new) h
  have hq' : ownAt (frzAll s (ownsOf new)) l = some q := by rw [frzAll_ownAt, if_neg hm]; exact hq
  have hrep := plsOf_rep h (ownsOf new) _ _ _ _ hps hv (fun _ h => h)
  obtain ⟨h0, cs, hr, he⟩ := h'.own l q hq'
  rcases hr.2 with ⟨e1, _⟩ | ⟨g', cap, cur, e1, _, e3, e4, e5, e6, e7⟩
  · rw [hG] at e1; cases e1
  · rw [hG] at e1
    cases e1
    have hpl : ps.length = n := by rw [hrep.len, ← hl1]; exact hc.1
    have hget := rdD_get q.t q.xs i hi
    obtain ⟨A, B, f1, f2, f3⟩ := flatMap_set hget
    have hfx : flat q.t x' = (flat q.t (rdD q.t q.xs i)).take k ++ ps ++ (flat q.t (rdD q.t q.xs i)).drop (k + n) := by
      have := unflat_some hu
      simpa using this.symm
    have hfl := flat_len q.t (rdD q.t q.xs i)
    -- the row's data, with the new ones in their place
    have hrow : (q.xs.set i x').flatMap (flat q.t) = (q.xs.flatMap (flat q.t)).take (i * q.t.size + k) ++ ps ++ (q.xs.flatMap (flat q.t)).drop (i * q.t.size + k + n) := by
      rw [f3, hfx, f1]
      have g1 : (A ++ flat q.t (rdD q.t q.xs i) ++ B).take (i * q.t.size + k) = A ++ (flat q.t (rdD q.t q.xs i)).take k := by
        rw [List.append_assoc, ← f2, List.take_length_add_append, List.take_append_of_le_length (by rw [hfl]; omega)]
      have g2 : (A ++ flat q.t (rdD q.t q.xs i) ++ B).drop (i * q.t.size + k + n) = (flat q.t (rdD q.t q.xs i)).drop (k + n) ++ B := by
        rw [List.append_assoc, ← f2, Nat.add_assoc, List.drop_length_add_append, List.drop_append_of_le_length (by rw [hfl]; omega)]
      rw [g1, g2]
      simp [List.append_assoc]
    have hcl : cs.length = q.xs.length * q.t.size := he.len
    have hbnd : i * q.t.size + q.t.size ≤ q.xs.length * q.t.size := by
      rw [← Nat.succ_mul]
      exact Nat.mul_le_mul_right _ hi
    have hcs : q.xs.length * q.t.size ≤ cur.size := by rw [e6]; exact Nat.mul_le_mul_right _ e4
    have hst := run_storeCells_at P g (i * q.t.size + k) q.e (a.eval y).cells.toList 0 cur w e3 (by simp at hl1 ⊢; omega) (hr_ones hv)
    have hvl : (a.eval y).cells.toList.length = n := by rw [← hl1]; exact hc.1
    obtain ⟨h2, h5⟩ := store_own (cur' := (cur.toList.take (i * q.t.size + k) ++ (a.eval y).cells.toList ++ cur.toList.drop (i * q.t.size + k + (a.eval y).cells.toList.length)).toArray) h' hq' hG e3
      (by simp only [List.size_toArray, List.length_append, List.length_take, List.length_drop, hvl, Array.length_toList]; omega) (xs' := q.xs.set i x') (by simp) (by
        unfold RepRow
        rw [hrow]
        have g3 : (cur.toList.take (i * q.t.size + k) ++ (a.eval y).cells.toList ++ cur.toList.drop (i * q.t.size + k + (a.eval y).cells.toList.length)).toArray.toList.take ((q.xs.set i x').length * q.t.size) =
            cs.take (i * q.t.size + k) ++ (a.eval y).cells.toList ++ cs.drop (i * q.t.size + k + n) := by
          rw [List.length_set, ← e7]
          have := take_splice cur.toList (a.eval y).cells.toList (i * q.t.size + k) (q.xs.length * q.t.size) (by rw [hvl]; omega) (by simpa using hcs)
          rw [hvl] at this
          simp only [List.toList_toArray, hvl]
          exact this
        rw [g3]
        exact ((All2.take he _).app hrep).app (All2.drop he _))
    have hsz : (a.eval y).cells.size = n := by simpa using hvl
    refine .skip ?_ (by rw [hd]; exact h2) ((frzAll_step _ _ _ h).trans (h5 _ _))
    simp only [execOp, ho, Instr.storeAt, hptr, Instr.sureAddr, Sem.run_bind, Sem.run_pure, Result.andThen_ok, storeVar, sizeOf_run hz, hsz]
    simp [hst]

end
end Go.Proofs.YtghmhkpgdmgepaaV
