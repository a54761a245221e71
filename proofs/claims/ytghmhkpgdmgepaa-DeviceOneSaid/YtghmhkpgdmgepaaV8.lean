import Derived.Test.YtghmhkpgdmgepaaV7
/-! The V engine, 8: values that are worked out are what Go works out. -/
set_option linter.unusedVariables false
set_option linter.unusedSimpArgs false
namespace Go.Proofs.YtghmhkpgdmgepaaV
open Go Go.RowKit

/-- Go works out a value v; the world may grow. -/
def VOK (P : Program) (F : Nat → Prop) (s : St) (G : Gm) (a : Act) (w : World) (o : Oper) (v : AV) : Prop :=
  ∃ u w', (execOp a.eval o).run P w = .ok (.value u) w' ∧ Grew w w' ∧ HA (HR F s G w') v u

section
variable {P : Program} {F : Nat → Prop} {s : St} {G : Gm} {a : Act} {w : World} {o : Oper} {v : AV}

theorem VOK.same {u : Value} (h : (execOp a.eval o).run P w = .ok (.value u) w) (hv : HA (HR F s G w) v u) : VOK P F s G a w o v := ⟨u, w, h, Grew.refl _, hv⟩

theorem v_move (h : Holds F s G a.tmps.toList w) {x : Operand} (ho : o.op = .move x ∨ o.op = .assign x) (hv : v = s.get x) : VOK P F s G a w o v := by
  subst hv
  exact .same (u := a.eval x) (by rcases ho with ho | ho <;> simp [execOp, ho]) (get_holds h x)

theorem v_pick (h : Holds F s G a.tmps.toList w) {c x y : Operand} (ho : o.op = .pick c x y) {b : Bool} (hb : bool1 (s.get c) = some b)
    (hv : (bif b then some (s.get x) else some (s.get y)) = some v) : VOK P F s G a w o v := by
  have hc := bool1_eval h hb
  cases b with
  | true => cases hv; exact .same (u := a.eval x) (by simp [execOp, ho, hc, asBool]) (get_holds h x)
  | false => cases hv; exact .same (u := a.eval y) (by simp [execOp, ho, hc, asBool]) (get_holds h y)

theorem v_load (h : Holds F s G a.tmps.toList w) {t : Nat} {x : Operand} (ho : o.op = .load t x) {l : L} (hl : leaf1 (s.get x) = some l) {n : Nat} (hn : sizeT P t = some n)
    (hv : ((loadLs s n l).bind fun ls => mkAV (isAggB P t) ls) = some v) (hu : (P.underlying t).isSome = true) : VOK P F s G a w o v := by
  obtain ⟨ls, h1, h2⟩ := Option.bind_eq_some_iff.1 hv
  obtain ⟨ad, cs, hp, hc, hcl, ha⟩ := loadLs_sound h (leaf_holds h hl) h1
  have h3 : isAggB P t = true ∨ n = 1 := by
    cases hg : isAggB P t with
    | true => exact .inl rfl
    | false =>
      rw [hg] at h2
      simp only [mkAV, Bool.false_eq_true, if_false] at h2
      split at h2
      · rename_i l'
        have := ha.len
        simp at this
        exact .inr (by omega)
      · cases h2
  refine .same (u := if isAggB P t then .agg cs.toArray else cs.headD undef) ?_ (mkAV_holds ha h2)
  simp [execOp, ho, hp, Instr.loadAt, Instr.sureAddr, loadVar_sound hn hc hcl h3 hu]

theorem v_nil (h : Holds F s G a.tmps.toList w) {x : Operand} (ho : o.op = .nilCheck x) {l : L} (hl : leaf1 (s.get x) = some l)
    (hk : (match l with | .ptr b o => some (lf (.ptr b o)) | .rpt ps => some (lf (.rpt ps)) | .ept l i o z => some (lf (.ept l i o z)) | .fn f a c => some (lf (.fn f a c)) | _ => none) = some v) : VOK P F s G a w o v := by
  have h1 := leaf_holds h hl
  cases l with
  | ptr b q =>
    cases hk
    have h2 : a.eval x = _ := h1
    exact .same (u := a.eval x) (by simp [execOp, ho, h2]) h1
  | rpt ps =>
    cases hk
    have h2 := h1
    obtain ⟨ad, cs, e, _⟩ := h2
    exact .same (u := a.eval x) (by simp [execOp, ho, e]) h1
  | ept l i q z =>
    cases hk
    have h2 := h1
    obtain ⟨g, n, c, _, e, _⟩ := h2
    exact .same (u := a.eval x) (by simp [execOp, ho, e]) h1
  | fn f b c =>
    cases hk
    have h2 : a.eval x = _ := h1
    exact .same (u := a.eval x) (by simp [execOp, ho, h2]) h1
  | _ => cases hk

theorem hl_int {k : IntKind} {n : Int} (h : (Lit.int k n).wf = true) : HR F s G w (pvI k n) (.int k n) := ⟨rfl, h⟩
theorem hl_bool (b : Bool) : HR F s G w (pvB b) (.bool b) := rfl
theorem hl_str (y : ByteArray) (h : y.size ≤ maxLen) : HR F s G w (pvS (bs y)) (.string y) := ⟨y, rfl, rfl, h⟩

theorem binI_sound {op : BinOp} {t : Nat} {k k' : IntKind} {x y : Int} (hx : (Lit.int k x).wf = true) {c : Bool} {r : PL} (h : binI op k k' x y = some (c, r)) (hc : c = true) :
    ∃ u, (binOp op t (.int k x) (.int k' y)).run P w = .ok u w ∧ HR F s G w (.pv r) u := by
  subst hc
  cases op <;> simp only [binI] at h <;> (try split at h) <;> (try cases h)
  all_goals (try subst_vars)
  case add => exact ⟨_, by simp [binOp, Op.intArith], rfl, wf_wrap _ _⟩
  case sub => exact ⟨_, by simp [binOp, Op.intArith], rfl, wf_wrap _ _⟩
  case mul => exact ⟨_, by simp [binOp, Op.intArith], rfl, wf_wrap _ _⟩
  case quo =>
    simp only [Option.some.injEq, Prod.mk.injEq, Bool.not_eq_true', decide_eq_false_iff_not] at h
    obtain ⟨hy, rfl⟩ := h
    exact ⟨_, by simp [binOp, Op.intDiv, hy], rfl, wf_wrap _ _⟩
  case rem =>
    simp only [Option.some.injEq, Prod.mk.injEq, Bool.not_eq_true', decide_eq_false_iff_not] at h
    obtain ⟨hy, rfl⟩ := h
    exact ⟨_, by simp [binOp, Op.intDiv, hy], rfl, wf_tmod _ hx⟩
  case and => exact ⟨_, by simp [binOp, Op.intBits], rfl, wf_wrap _ _⟩
  case or => exact ⟨_, by simp [binOp, Op.intBits], rfl, wf_wrap _ _⟩
  case xor => exact ⟨_, by simp [binOp, Op.intBits], rfl, wf_wrap _ _⟩
  case andNot => exact ⟨_, by simp [binOp, Op.intBits], rfl, wf_wrap _ _⟩
  case shl =>
    simp only [Option.some.injEq, Prod.mk.injEq, decide_eq_true_eq] at h
    obtain ⟨hy, rfl⟩ := h
    have hy' : ¬ y < 0 := by omega
    exact ⟨_, by simp [binOp, Op.shift, hy'], rfl, wf_wrap _ _⟩
  case shr =>
    simp only [Option.some.injEq, Prod.mk.injEq, decide_eq_true_eq] at h
    obtain ⟨hy, rfl⟩ := h
    have hy' : ¬ y < 0 := by omega
    exact ⟨_, by simp [binOp, Op.shift, hy'], rfl, wf_fdiv hx _⟩
  all_goals exact ⟨_, by simp [binOp, Op.intCmp], rfl⟩

theorem binS_sound {op : BinOp} {t : Nat} {x y : ByteArray} {c : Bool} {r : PL} (h : binS op (bs x) (bs y) = some (c, r)) (hc : c = true) :
    ∃ u, (binOp op t (.string x) (.string y)).run P w = .ok u w ∧ HR F s G w (.pv r) u := by
  subst hc
  cases op <;> simp only [binS] at h <;> (try cases h)
  case add =>
    simp only [Option.some.injEq, Prod.mk.injEq, decide_eq_true_eq, bs_len] at h
    obtain ⟨hl, rfl⟩ := h
    have hm : ¬ ((x.size + y.size : Nat) : Int) > IntKind.i64.max := by
      simp only [IntKind.max, IntKind.signed, IntKind.bits, maxLen] at *
      simp
      omega
    refine ⟨.string (x ++ y), by simp only [binOp, Op.stringOp]; rw [if_neg hm]; rfl, x ++ y, rfl, bs_app x y, ?_⟩
    have e : (x ++ y).size = x.size + y.size := by have := bs_len (x ++ y); rw [bs_app, List.length_append, bs_len, bs_len] at this; omega
    omega
  case eql => exact ⟨.bool (x.toList == y.toList), by simp [binOp, Op.stringOp], by rw [bs_beq]; rfl⟩
  case neq => exact ⟨.bool !(x.toList == y.toList), by simp [binOp, Op.stringOp], by rw [bs_beq]; rfl⟩
  case lss => exact ⟨.bool (Op.bytesLess x.toList y.toList), by simp [binOp, Op.stringOp], by rw [bs_lt]; rfl⟩
  case leq => exact ⟨.bool (Op.bytesLess x.toList y.toList || x.toList == y.toList), by simp [binOp, Op.stringOp], by rw [bs_lt, bs_beq]; rfl⟩
  case gtr => exact ⟨.bool !(Op.bytesLess x.toList y.toList || x.toList == y.toList), by simp [binOp, Op.stringOp], by rw [bs_lt, bs_beq]; rfl⟩
  case geq => exact ⟨.bool !(Op.bytesLess x.toList y.toList), by simp [binOp, Op.stringOp], by rw [bs_lt]; rfl⟩

theorem binB_sound {op : BinOp} {t : Nat} (ht : P.underlying t = some .bool) {x y : Bool} {c : Bool} {r : PL} (h : binB op x y = some (c, r)) :
    ∃ u, (binOp op t (.bool x) (.bool y)).run P w = .ok u w ∧ HR F s G w (.pv r) u := by
  cases op <;> simp only [binB] at h <;> (try cases h)
  case eql => exact ⟨.bool (x == y), by simp only [binOp, Sem.run_bind, run_equal_bool w t x y ht, Result.andThen_ok, Sem.run_pure], rfl⟩
  case neq => exact ⟨.bool !(x == y), by simp only [binOp, Sem.run_bind, run_equal_bool w t x y ht, Result.andThen_ok, Sem.run_pure], rfl⟩
end
end Go.Proofs.YtghmhkpgdmgepaaV
