import Derived.Test.YtghmhkpgdmgepaaV8
/-! The V engine, 9: values that are worked out, the rest. -/
set_option linter.unusedVariables false
set_option linter.unusedSimpArgs false
namespace Go.Proofs.YtghmhkpgdmgepaaV
open Go Go.RowKit

section
variable {P : Program} {F : Nat → Prop} {s : St} {G : Gm} {a : Act} {w : World} {o : Oper} {v : AV}

theorem binP_sound {op : BinOp} {t : Nat} {p q : PL} {x y : Value} (hp : HR F s G w (.pv p) x) (hq : HR F s G w (.pv q) y) {c : Bool} {r : PL} (h : binP op p q = some (c, r)) (hc : c = true)
    (hb : boolOk P t p = true) :
    ∃ u, (binOp op t x y).run P w = .ok u w ∧ HR F s G w (.pv r) u := by
  obtain ⟨tp, xp⟩ := p
  obtain ⟨tq, xq⟩ := q
  cases tp <;> cases tq <;> simp only [binP] at h <;> (try cases h)
  case int.int k k' =>
    obtain ⟨rfl, h1⟩ := pvInt hp
    obtain ⟨rfl, h2⟩ := pvInt hq
    exact binI_sound h1 h hc
  case bool.bool =>
    obtain rfl := pvBool hp
    obtain rfl := pvBool hq
    refine binB_sound ?_ h
    simp only [boolOk] at hb
    split at hb
    · assumption
    · cases hb
  case str.str =>
    obtain ⟨y1, rfl, h1, _⟩ := pvStr hp
    obtain ⟨y2, rfl, h2, _⟩ := pvStr hq
    rw [← h1, ← h2] at h
    exact binS_sound h hc

theorem run_eqGuard (op : BinOp) (t : Nat) (x y : Operand) (u v : Value) (hu : ∀ cs, u ≠ .agg cs) (hn : u ≠ .nilIface) : (eqGuard op t x y u v).run P w = .ok () w := by
  unfold eqGuard
  cases op <;> simp
  all_goals (cases u <;> first | exact absurd rfl hn | exact absurd rfl (hu _) | rfl)

theorem run_ptr_nil_in (d t e : Nat) (ht : P.underlying t = some (.pointer e)) (q : Option Addr) : (Op.equalIn (d + 1) t (.pointer none) (.pointer q)).run P w = .ok q.isNone w ∧ (Op.equalIn (d + 1) t (.pointer q) (.pointer none)).run P w = .ok q.isNone w := by
  constructor
  · simp [Op.equalIn, run_underlying ht]
  · cases q <;> simp [Op.equalIn, run_underlying ht]
theorem run_ptr_nil (op : BinOp) (t e : Nat) (ht : P.underlying t = some (.pointer e)) (u v : Value) (b : Bool) (h : (u = .pointer none ∧ ∃ q, v = .pointer q ∧ b = q.isNone) ∨ (v = .pointer none ∧ ∃ q, u = .pointer q ∧ b = q.isNone)) :
    (Op.equal t u v).run P w = .ok b w := by
  rcases h with ⟨rfl, q, rfl, rfl⟩ | ⟨rfl, q, rfl, rfl⟩
  · exact (run_ptr_nil_in 9999 t e ht q).1
  · exact (run_ptr_nil_in 9999 t e ht q).2

theorem nilEq_sound {x y : L} {u v : Value} (hx : HR F s G w x u) (hy : HR F s G w y v) {b : Bool} (h : nilEq x y = some b) :
    (u = .pointer none ∧ ∃ q, v = .pointer q ∧ b = q.isNone) ∨ (v = .pointer none ∧ ∃ q, u = .pointer q ∧ b = q.isNone) := by
  have hn : ∀ {z : L} {k : Value}, HR F s G w z k → (∃ b o, z = .ptr b o) ∨ (∃ l i o q, z = .ept l i o q) ∨ (∃ ps, z = .rpt ps) → ∃ q, k = .pointer (some q) := by
    rintro z k hz (⟨b, o, rfl⟩ | ⟨l, i, o, q, rfl⟩ | ⟨ps, rfl⟩)
    · exact ⟨_, hz⟩
    · obtain ⟨_, _, _, _, e, _⟩ := hz; exact ⟨_, e⟩
    · obtain ⟨_, _, e, _⟩ := hz; exact ⟨_, e⟩
  unfold nilEq at h
  split at h <;> cases h
  · exact .inl ⟨hx, none, hy, rfl⟩
  · obtain ⟨q, e⟩ := hn hy (.inl ⟨_, _, rfl⟩); exact .inl ⟨hx, _, e, rfl⟩
  · obtain ⟨q, e⟩ := hn hx (.inl ⟨_, _, rfl⟩); exact .inr ⟨hy, _, e, rfl⟩
  · obtain ⟨q, e⟩ := hn hy (.inr (.inl ⟨_, _, _, _, rfl⟩)); exact .inl ⟨hx, _, e, rfl⟩
  · obtain ⟨q, e⟩ := hn hx (.inr (.inl ⟨_, _, _, _, rfl⟩)); exact .inr ⟨hy, _, e, rfl⟩
  · obtain ⟨q, e⟩ := hn hy (.inr (.inr ⟨_, rfl⟩)); exact .inl ⟨hx, _, e, rfl⟩
  · obtain ⟨q, e⟩ := hn hx (.inr (.inr ⟨_, rfl⟩)); exact .inr ⟨hy, _, e, rfl⟩

theorem run_binOp_ptr (op : BinOp) (t e : Nat) (ht : P.underlying t = some (.pointer e)) (u v : Value) (b : Bool) (h : (u = .pointer none ∧ ∃ q, v = .pointer q ∧ b = q.isNone) ∨ (v = .pointer none ∧ ∃ q, u = .pointer q ∧ b = q.isNone)) :
    ((binOp .eql t u v).run P w = .ok (.bool b) w) ∧ ((binOp .neq t u v).run P w = .ok (.bool !b) w) := by
  have h1 := run_ptr_nil (P := P) (w := w) op t e ht u v b h
  have hu : ∃ q, u = .pointer q := by rcases h with ⟨rfl, _⟩ | ⟨_, q, rfl, _⟩ <;> exact ⟨_, rfl⟩
  have hv : ∃ q, v = .pointer q := by rcases h with ⟨_, q, rfl, _⟩ | ⟨rfl, _⟩ <;> exact ⟨_, rfl⟩
  obtain ⟨p, rfl⟩ := hu
  obtain ⟨q, rfl⟩ := hv
  constructor <;> simp [binOp, h1]

theorem v_bin (h : Holds F s G a.tmps.toList w) {op : BinOp} {t t' : Nat} {x y : Operand} (ho : o.op = .binOp op t x y t') {l1 l2 : L} (h1 : leaf1 (s.get x) = some l1) (h2 : leaf1 (s.get y) = some l2)
    (hv : ((binOc P t op l1 l2).bind fun r => .ok (lf r)).val = some v) : VOK P F s G a w o v := by
  have k1 := leaf_holds h h1
  have k2 := leaf_holds h h2
  rw [Oc.val_bind] at hv
  obtain ⟨r, hr, e⟩ := Option.bind_eq_some_iff.1 hv
  cases e
  have hagg : ∀ cs, a.eval x ≠ .agg cs := fun cs e => by have := k1.one; rw [e] at this; cases this
  unfold binOc at hr
  split at hr
  · rename_i p q
    split at hr
    · rename_i c r' hb
      split at hr
      · rename_i hbt
        cases c with
        | false => cases hr
        | true =>
        cases hr
        obtain ⟨u, hu, hru⟩ := binP_sound (t := t) k1 k2 hb rfl hbt
        have hni : a.eval x ≠ .nilIface := by
          intro e
          obtain ⟨tp, xp⟩ := p
          cases tp <;> simp only [binP] at hb <;> (try cases hb)
          · have := (pvInt k1).1; rw [e] at this; cases this
          · have := pvBool k1; rw [e] at this; cases this
          · obtain ⟨_, this, _⟩ := pvStr k1; rw [e] at this; cases this
        exact .same (u := u) (by simp [execOp, ho, run_eqGuard op t x y _ _ hagg hni, hu]) hru
      · cases hr
    · cases hr
  · have hni : a.eval x ≠ .nilIface := by
      intro e
      split at hr
      all_goals first | cases hr; done | skip
      all_goals
        rename_i hb _
        rcases nilEq_sound k1 k2 hb with ⟨e2, _⟩ | ⟨_, q, e2, _⟩ <;> (rw [e] at e2; cases e2)
    split at hr
    · rename_i b e hb ht
      cases hr
      have h5 := (run_binOp_ptr (P := P) (w := w) .eql t e ht _ _ b (nilEq_sound k1 k2 hb)).1
      exact .same (u := .bool b) (by simp [execOp, ho, run_eqGuard _ t x y _ _ hagg hni, h5]) (show HR F s G w (pvB b) _ from rfl)
    · rename_i b e hb ht
      cases hr
      have h5 := (run_binOp_ptr (P := P) (w := w) .neq t e ht _ _ b (nilEq_sound k1 k2 hb)).2
      exact .same (u := .bool !b) (by simp [execOp, ho, run_eqGuard _ t x y _ _ hagg hni, h5]) (show HR F s G w (pvB !b) _ from rfl)
    · cases hr

theorem nilI_sound {w : World} {t : Nat} {l : L} {y : Operand} {r : Bool} {u : Value} (h : nilI P t l y = some r) (hu : HR F s G w l u) :
    y = .const .nilIface ∧ ∃ ms, P.underlying t = some (.interface ms) ∧ ((r = true ∧ u = .nilIface) ∨ (r = false ∧ ∃ d x, u = .iface d x)) := by
  unfold nilI at h
  split at h
  · rename_i ms ht
    refine ⟨rfl, ms, ht, ?_⟩
    split at h
    · rename_i b
      cases h
      cases r with
      | true => exact .inl ⟨rfl, hu⟩
      | false => exact .inr ⟨rfl, hu⟩
    · cases h
      obtain ⟨cs, _, e⟩ := hu
      exact .inr ⟨rfl, _, _, e⟩
    · cases h
      exact .inl ⟨rfl, hu⟩
    · cases h
  · cases h
theorem run_ifc_nil_in (d t : Nat) (ms : Array (String × Nat)) (ht : P.underlying t = some (.interface ms)) : (Op.equalIn (d + 1) t .nilIface .nilIface).run P w = .ok true w := by
  simp [Op.equalIn, run_underlying ht]
theorem run_ifc_nil_in2 (d t : Nat) (ms : Array (String × Nat)) (ht : P.underlying t = some (.interface ms)) (tx : Nat) (z : Value) : (Op.equalIn (d + 1) t (.iface tx z) .nilIface).run P w = .ok false w := by
  simp [Op.equalIn, run_underlying ht]
theorem v_nilI (h : Holds F s G a.tmps.toList w) {op : BinOp} {t t' : Nat} {x y : Operand} (ho : o.op = .binOp op t x y t') {l1 : L} (h1 : leaf1 (s.get x) = some l1) {r : Bool} (hn : nilI P t l1 y = some r)
    (hv : (op = .eql ∧ v = lf (pvB r)) ∨ (op = .neq ∧ v = lf (pvB !r))) : VOK P F s G a w o v := by
  have k1 := leaf_holds h h1
  obtain ⟨rfl, ms, ht, hu⟩ := nilI_sound hn k1
  have ey : a.eval (.const .nilIface) = .nilIface := rfl
  have heq : (Op.equal t (a.eval x) .nilIface).run P w = .ok r w := by
    rcases hu with ⟨rfl, e⟩ | ⟨rfl, d, z, e⟩ <;> rw [e]
    · exact run_ifc_nil_in 9999 t ms ht
    · exact run_ifc_nil_in2 9999 t ms ht d z
  have hgd : ∀ op, (eqGuard op t x (.const .nilIface) (a.eval x) .nilIface).run P w = .ok () w := by
    intro op
    rcases hu with ⟨rfl, e⟩ | ⟨rfl, d, z, e⟩ <;> rw [e] <;> unfold eqGuard <;> cases op <;> simp
  have hb : (binOp .eql t (a.eval x) .nilIface).run P w = .ok (.bool r) w ∧ (binOp .neq t (a.eval x) .nilIface).run P w = .ok (.bool !r) w := by
    rcases hu with ⟨_, e⟩ | ⟨_, d, z, e⟩ <;> rw [e] at heq ⊢ <;> constructor <;> simp [binOp, heq]
  rcases hv with ⟨rfl, rfl⟩ | ⟨rfl, rfl⟩
  · exact .same (u := .bool r) (by simp [execOp, ho, ey, hgd, hb.1]) (show HR F s G w (pvB r) _ from rfl)
  · exact .same (u := .bool !r) (by simp [execOp, ho, ey, hgd, hb.2]) (show HR F s G w (pvB !r) _ from rfl)

theorem run_part_cell {t off : Nat} {cs : Array Value} {v : Value} (ha : (match P.underlying t with | some (.struct _) => false | some (.array _ _) => false | some _ => true | none => false) = true) (hv : cs[off]? = some v) : (part t cs off).run P w = .ok v w := by
  cases hd : P.underlying t with
  | none => rw [hd] at ha; cases ha
  | some d =>
    rw [hd] at ha
    cases d <;> first | cases ha; done | skip
    all_goals simp [part, isAgg, run_underlying hd, hv]
theorem eqPL_sound {ok : Nat → Prop} {os : List (Option Own)} {t : Nat} {p q : PL} {b : Bool} (h : eqPL P t p q = some b) {u v : Value} (hu : HL G w ok os (.pv p) u) (hv : HL G w ok os (.pv q) v) (d : Nat) :
    (match P.underlying t with | some (.struct _) => false | some (.array _ _) => false | some _ => true | none => false) = true ∧ (Op.equalIn (d + 1) t u v).run P w = .ok b w := by
  unfold eqPL at h
  split at h
  · rename_i k0 k x k' y ht
    split at h
    · rename_i e
      subst e
      cases h
      rw [(pvInt hu).1, (pvInt hv).1, ht]
      exact ⟨rfl, by simp [Op.equalIn, run_underlying ht, eqI]⟩
    · cases h
  · rename_i x y ht
    cases h
    rw [pvBool hu, pvBool hv, ht]
    exact ⟨rfl, by simp [Op.equalIn, run_underlying ht, eqB]⟩
  · rename_i x y ht
    cases h
    obtain ⟨a1, rfl, e1, _⟩ := pvStr hu
    obtain ⟨a2, rfl, e2, _⟩ := pvStr hv
    rw [ht]
    refine ⟨rfl, ?_⟩
    subst e1 e2
    rw [show eqS (bs a1) (bs a2) = (a1 == a2) by rw [eqS, ← bs_beq, beq_toListBytes]]
    simp [Op.equalIn, run_underlying ht]
  · cases h
theorem eqFs_sound {ok : Nat → Prop} {os : List (Option Own)} {xs ys : List L} {us vs : Array Value} (hx : All2 (HL G w ok os) xs us.toList) (hy : All2 (HL G w ok os) ys vs.toList) (d : Nat) : ∀ (fs : List Field) {b : Bool}, eqFs P fs xs ys = some b →
    (Op.eqFields (d + 1) us vs fs).run P w = .ok b w
  | [], b, h => by cases h; simp [Op.eqFields]
  | f :: r, b, h => by
    simp only [eqFs] at h
    split at h
    · cases h
    · rename_i hn
      split at h
      · rename_i p q hp hq
        obtain ⟨b1, h1, h2⟩ := Option.bind_eq_some_iff.1 h
        obtain ⟨b2, h3, rfl⟩ := Option.map_eq_some_iff.1 h2
        obtain ⟨u, hu1, hu2⟩ := hx.get hp
        obtain ⟨v, hv1, hv2⟩ := hy.get hq
        obtain ⟨k1, k2⟩ := eqPL_sound (w := w) h1 hu2 hv2 d
        have k3 := run_part_cell (P := P) (w := w) k1 (show us[f.offset]? = some u by simpa using hu1)
        have k4 := run_part_cell (P := P) (w := w) k1 (show vs[f.offset]? = some v by simpa using hv1)
        have k5 := eqFs_sound hx hy d r h3
        have hn' : f.name ≠ "_" := by simpa using hn
        rw [Op.eqFields]
        simp only [if_pos hn', Sem.run_bind, k3, k4, k2, Result.andThen_ok]
        cases b1
        · simp
        · simpa using k5
      · cases h
theorem v_eqSt (h : Holds F s G a.tmps.toList w) {op : BinOp} {t t' : Nat} {x y : Operand} (ho : o.op = .binOp op t x y t') {xs ys : List L} (h1 : s.get x = .cv (.agg xs)) (h2 : s.get y = .cv (.agg ys)) {r : Bool} (hn : eqSt P t xs ys = some r)
    (hv : (op = .eql ∧ v = lf (pvB r)) ∨ (op = .neq ∧ v = lf (pvB !r))) : VOK P F s G a w o v := by
  have k1 := get_holds h x
  have k2 := get_holds h y
  rw [h1] at k1
  rw [h2] at k2
  obtain ⟨us, e1, k1⟩ := k1
  obtain ⟨vs, e2, k2⟩ := k2
  unfold eqSt at hn
  split at hn
  · rename_i fs ht
    split at hn
    · cases hn
    · rename_i hg
      simp only [Bool.or_eq_true, not_or, Bool.not_eq_true] at hg
      have hf : P.fieldsOf t = fs := by simp [Program.fieldsOf, ht]
      have heq : (Op.equal t (.agg us) (.agg vs)).run P w = .ok r w := by
        refine (run_equalIn_struct (P := P) w 9999 t us vs (by rw [hf]; exact ht) hg.1).trans ?_
        rw [hf]
        exact eqFs_sound k1 k2 9998 fs.toList hn
      have hgd : ∀ op, (eqGuard op t x y (.agg us) (.agg vs)).run P w = .ok () w := by
        intro op
        unfold eqGuard
        cases op <;> simp [hg.2]
      have hb : (binOp .eql t (.agg us) (.agg vs)).run P w = .ok (.bool r) w ∧ (binOp .neq t (.agg us) (.agg vs)).run P w = .ok (.bool !r) w := by
        constructor <;> simp [binOp, heq]
      rcases hv with ⟨rfl, rfl⟩ | ⟨rfl, rfl⟩
      · exact .same (u := .bool r) (by simp [execOp, ho, e1, e2, hgd, hb.1]) (show HR F s G w (pvB r) _ from rfl)
      · exact .same (u := .bool !r) (by simp [execOp, ho, e1, e2, hgd, hb.2]) (show HR F s G w (pvB !r) _ from rfl)
  · cases hn

theorem v_un (h : Holds F s G a.tmps.toList w) {op : UnOp} {t : Nat} {x : Operand} (ho : o.op = .unOp op t x) {p : PL} (h1 : leaf1 (s.get x) = some (.pv p)) (hv : ((unOc op p).map fun r => lf (.pv r)) = some v) : VOK P F s G a w o v := by
  have k1 := leaf_holds h h1
  obtain ⟨r, hr, rfl⟩ := Option.map_eq_some_iff.1 hv
  obtain ⟨t, y⟩ := p
  unfold unOc at hr
  split at hr
  · rename_i b e
    cases e
    cases hr
    have e := pvBool k1
    exact .same (u := .bool (!b)) (by simp [execOp, ho, e, Op.unary]) rfl
  · rename_i k n e
    cases e
    cases hr
    obtain ⟨e, _⟩ := pvInt k1
    exact .same (u := .int k (negI k n)) (by simp [execOp, ho, e, Op.unary, Op.intArith, negI]) ⟨rfl, wf_wrap _ _⟩
  · rename_i k n e
    cases e
    cases hr
    obtain ⟨e, _⟩ := pvInt k1
    exact .same (u := .int k (notI k n)) (by simp [execOp, ho, e, Op.unary, Op.intBits, notI]) ⟨rfl, wf_wrap _ _⟩
  · cases hr

end
end Go.Proofs.YtghmhkpgdmgepaaV
