import Derived.Test.YtghmhkpgdmgepaaV21
import Derived.LoopN
import Derived.WalkSmall
/-! The V engine, 22: regions and code. -/
set_option linter.unusedVariables false
set_option linter.unusedSimpArgs false
namespace Go.Proofs.YtghmhkpgdmgepaaV
open Go Go.RowKit

def EnvOK (C : Cfg) : Prop := ∀ g, ∀ sg ∈ C.env g, SigOK C.P g sg

section
variable {C : Cfg} {F : Nat → Prop} {s s' : St} {G : Gm} {a : Act} {w w' : World} {o : Oper} {v : AV} {vals : List Value}

theorem ptrs_hold (h : Holds F s G vals w) : ∀ (xs : List (Nat × Nat)), All2 (HA (HR F s G w)) (xs.map fun x => lf (.ptr x.1 x.2)) (xs.map (ptrV G))
  | [] => .nil
  | x :: xs => .cons (show HR F s G w (.ptr x.1 x.2) (ptrV G x) from rfl) (ptrs_hold h xs)
theorem gets_hold (h : Holds F s G a.tmps.toList w) : ∀ (xs : List Operand), All2 (HA (HR F s G w)) (xs.map s.get) (xs.map a.eval)
  | [] => .nil
  | x :: xs => .cons (get_holds h x) (gets_hold h xs)

theorem run_enter {P : Program} {f : FuncId} {fn : Func} (hf : P.funcs[f]? = some fn) (hname : (fn.name == "runtime.NumGoroutine") = false) (hb : fn.body.isSome = true) (args : Array Value) (w : World) : (callFunc f args).run P w = .ok (.enter f args) w := by
  have h1 : fn.name ≠ "runtime.NumGoroutine" := by simpa using hname
  obtain ⟨c, hc⟩ := Option.isSome_iff_exists.1 hb
  simp [callFunc, hf, h1, hc]

theorem e_callL (h : Holds F s G a.tmps.toList w) {f : Operand} {as : Array Operand} {ts : Array Nat} {d g : Nat} {first caps : List (Nat × Nat)} {sgs : List Sig} (hsg : ∀ sg ∈ sgs, SigOK C.P g sg) (ho : o.op = .call { callee := .value f, args := as, argTypes := ts }) (hd : o.dst = some d)
    (hl : leaf1 (s.get f) = some (.fn g first caps)) (hv : (callOc s d (first.map (fun x => lf (.ptr x.1 x.2)) ++ as.toList.map s.get ++ caps.map (fun x => lf (.ptr x.1 x.2))) sgs).val = some s') : EOK C.P F s G a w o s' := by
  have hfn : a.eval f = _ := leaf_holds h hl
  have hargs := ((ptrs_hold h first).app (gets_hold h as.toList)).app (ptrs_hold h caps)
  obtain ⟨⟨fn, k1, k2, k3⟩, hcall⟩ := call_sound (g := g) h hargs sgs hsg hv
  intro K Q hK
  unfold Oper.wp
  have hrun : (execOp a.eval o).run C.P w = .ok (.enter g (first.map (ptrV G) ++ as.toList.map a.eval ++ caps.map (ptrV G)).toArray) w := by
    have e1 : ((first.map (ptrV G)).toArray ++ as.map a.eval ++ (caps.map (ptrV G)).toArray) = (first.map (ptrV G) ++ as.toList.map a.eval ++ caps.map (ptrV G)).toArray := by
      rw [← Array.toList_inj]; simp
    simp only [execOp, ho, resolve, hfn, Deferred.ofValue, Sem.run_bind, Sem.run_pure, Result.andThen_ok, invoke, e1, run_enter k1 k2 k3]
  rw [hrun, Oper.upon_enter]
  refine hcall.mono ?_
  rintro e w' ⟨G', rv, rfl, h2, h3⟩
  rw [← hd] at h2
  exact hK _ _ _ h2 h3 (put_defers _ _ _)
theorem e_call (hE : EnvOK C) (h : Holds F s G a.tmps.toList w) {f : Operand} {as : Array Operand} {ts : Array Nat} {d : Nat} (ho : o.op = .call { callee := .value f, args := as, argTypes := ts }) (hd : o.dst = some d)
    (hv : (opE C s o.dst o.op).val = some s') : EOK C.P F s G a w o s' := by
  rw [ho, hd] at hv
  simp only [opE] at hv
  split at hv
  · rename_i g first caps hl
    exact e_callL h (hE g) ho hd hl hv
  · cases hv

theorem opE_any (hE : EnvOK C) (h : Holds F s G a.tmps.toList w) (hv : (opE C s o.dst o.op).val = some s') : EOK C.P F s G a w o s' := by
  cases hc : isCall o.op with
  | false => exact opE_sound h hc hv
  | true =>
    unfold isCall at hc
    split at hc
    · rename_i f as ts ho
      cases hd : o.dst with
      | some d => exact e_call hE h ho hd hv
      | none =>
        rw [hd, ho] at hv
        simp only [opE, opV, Oc.bind, Oc.val] at hv
        cases hv
    · cases hc

theorem put_same {g : Nat} {u : Value} (h : a.tmps[g]? = some u) : a.put (some g) u = a := by
  unfold Act.put
  obtain ⟨hlt, e⟩ := Array.getElem?_eq_some_iff.1 h
  obtain ⟨tm, df⟩ := a
  simp only at *
  congr 1
  apply Array.ext
  · simp
  · intro i h1 h2
    simp only [Array.getElem_setIfInBounds h2]
    split
    · rename_i e2; subst e2; exact e.symm
    · rfl
theorem eval_bool {g : Nat} {b : Bool} (h : a.eval (.tmp g) = .bool b) : a.tmps[g]? = some (.bool b) := by
  simp only [Act.eval, Array.getD_eq_getD_getElem?] at h
  cases he : a.tmps[g]? with
  | none => rw [he] at h; cases h
  | some u => rw [he] at h; simp at h; rw [h]
/-- What a test says, said again. -/
theorem refine_slot (h : Holds F s G a.tmps.toList w) {g : Nat} {b : Bool} (hb : bool1 (s.get (.tmp g)) = some b) : Holds F (s.put (some g) (lf (pvB b))) G a.tmps.toList w := by
  have h1 := bool1_eval h hb
  have h2 := h.put (some g) (v := lf (pvB b)) (u := .bool b) rfl
  rw [put_same (eval_bool h1)] at h2
  exact h2

/-- How code is left. -/
def ExR : XE → Exit → Prop
  | .normal, x => x = .normal
  | .exit id, x => x = .exit id
  | .ret, x => x = .ret
  | .pan t ps g, x => ∃ v, PanV t ps g v ∧ x = .panic [{ v := v, recovered := false }]

theorem flat1_any {p : PL} {u : Value} {ok : Nat → Prop} (hf : flat1 p.t = true) (h : RepL w ok p u) : ∀ (w' : World) (ok' : Nat → Prop), RepL w' ok' p u := by
  obtain ⟨t, x⟩ := p
  intro w' ok'
  cases t with
  | int k => exact h
  | bool => exact h
  | str => exact h
  | slice e => cases hf
  | nil => cases hf
  | cons a b => cases hf

theorem opP_any (hE : EnvOK C) (h : Holds F s G a.tmps.toList w) {e : XE} (hv : (opP C s o.dst o.op).val = some (e, s')) (K : Act → World → Prop) (Q : Exit → Act → World → Prop)
    (hK : ∀ G' a' w', e = .normal → Holds F s' G' a'.tmps.toList w' → Step N0 N0 s G w s' G' w' → a'.defers = a.defers → K a' w')
    (hP : ∀ G' a' w' x, e ≠ .normal → ExR e x → Holds F s' G' a'.tmps.toList w' → Step N0 N0 s G w s' G' w' → a'.defers = a.defers → Q x a' w') : o.wp C.P a w K Q := by
  unfold opP at hv
  split at hv
  · rename_i x ho
    split at hv
    · rename_i t ps g hl
      split at hv
      · rename_i hf
        simp only [Oc.val] at hv
        cases hv
        obtain ⟨cs, hcs, hx⟩ : HR F s G w (.ifc t ps g) (a.eval x) := leaf_holds h hl
        unfold Oper.wp
        have hrun : (execOp a.eval o).run C.P w = .halt (.panic (a.eval x)) w := by
          rw [hx]
          simp only [execOp, ho, hx, Sem.run_bind, run_panic_iface]
          rfl
        rw [hrun, Oper.upon_panic]
        exact hP G a w _ (by simp) ⟨_, ⟨cs, hcs.imp_mem fun p u hp hr => ⟨List.all_eq_true.1 hf p hp, flat1_any (List.all_eq_true.1 hf p hp) hr⟩, hx⟩, rfl⟩ h (Step.refl _ _ _ _ _) rfl
      · cases hv
    · cases hv
  · rename_i f as ts d ho hd
    split at hv
    · rename_i g first caps hl
      have hfn : a.eval f = _ := leaf_holds h hl
      have hargs := ((ptrs_hold h first).app (gets_hold h as.toList)).app (ptrs_hold h caps)
      obtain ⟨⟨fn, k1, k2, k3⟩, hcall⟩ := callP_sound (g := g) h hargs (C.env g) (hE g) hv
      unfold Oper.wp
      have hrun : (execOp a.eval o).run C.P w = .ok (.enter g (first.map (ptrV G) ++ as.toList.map a.eval ++ caps.map (ptrV G)).toArray) w := by
        have e1 : ((first.map (ptrV G)).toArray ++ as.map a.eval ++ (caps.map (ptrV G)).toArray) = (first.map (ptrV G) ++ as.toList.map a.eval ++ caps.map (ptrV G)).toArray := by
          rw [← Array.toList_inj]; simp
        simp only [execOp, ho, resolve, hfn, Deferred.ofValue, Sem.run_bind, Sem.run_pure, Result.andThen_ok, invoke, e1, run_enter k1 k2 k3]
      rw [hrun, Oper.upon_enter]
      refine hcall.mono ?_
      rintro r w' (⟨he, G', rv, rfl, h2, h3⟩ | ⟨t, ps, pg, v, he, h1, rfl, h2, h3⟩)
      · rw [← hd] at h2
        exact hK _ _ _ he h2 h3 (put_defers _ _ _)
      · exact hP _ _ _ _ (by rw [he]; simp) (by rw [he]; exact ⟨v, h1, rfl⟩) h2 h3 rfl
    · cases hv
  · rw [Oc.val_bind] at hv
    obtain ⟨s1, h1, h2⟩ := Option.bind_eq_some_iff.1 hv
    cases h2
    exact opE_any hE h h1 K Q fun G' a' w' k1 k2 k3 => hK G' a' w' rfl k1 k2 k3

/-- A way to tell operations that is right. -/
def FOK (C : Cfg) (f : St → Option Nat → Op → Oc St) : Prop :=
  ∀ (F : Nat → Prop) (s s' : St) (G : Gm) (a : Act) (w : World) (o : Oper), Holds F s G a.tmps.toList w → (f s o.dst o.op).val = some s' → EOK C.P F s G a w o s'

variable {f : St → Option Nat → Op → Oc St}
/-- One operation of a region. -/
theorem oper_sound (hE : FOK C f) {all : Array Oper} (h : Holds F s G a.tmps.toList w) (hv : (operOc f all s o).val = some s') (K : Act → World → Prop) (Q : Exit → Act → World → Prop)
    (hK : ∀ G' a' w', Holds F s' G' a'.tmps.toList w' → Step N0 N0 s G w s' G' w' → a'.defers = a.defers → K a' w') :
    if Region.wanted o (yielded all a.tmps) then o.wp C.P a w K Q else K (a.put o.dst undef) w := by
  unfold operOc at hv
  split at hv
  · rename_i hg
    have : Region.wanted o (yielded all a.tmps) = true := by simp [Region.wanted, hg]
    rw [if_pos this]
    exact hE _ _ _ _ _ _ _ h hv K Q hK
  · rename_i j want hg
    split at hv
    · rename_i g hj
      split at hv
      · rename_i c hc
        have h1 := bool1_eval h hc
        have hy : yielded all a.tmps j = some c := by simp [yielded, hj, eval_bool h1]
        have hw : Region.wanted o (yielded all a.tmps) = (c == want) := by simp [Region.wanted, hg, hy]
        have h2 := refine_slot h hc
        rw [hw]
        have hskip : ∀ {b : Bool}, c = b → s' = (s.put (some g) (lf (pvB b))).put o.dst (.tup []) → K (a.put o.dst undef) w := by
          intro b hcb e
          subst hcb
          subst e
          exact hK G _ w (h2.put o.dst (v := .tup []) ⟨#[], rfl, .nil⟩) ((Step.put _ _).trans (Step.put _ _)) (put_defers _ _ _)
        have hdo : ∀ {b : Bool}, c = b → (f (s.put (some g) (lf (pvB b))) o.dst o.op).val = some s' → o.wp C.P a w K Q := by
          intro b hcb e
          subst hcb
          exact hE _ _ _ _ _ _ _ h2 e K Q fun G' a' w' k1 k2 k3 => hK G' a' w' k1 ((Step.put _ _).trans k2) k3
        cases want <;> cases c <;> simp only [Oc.val, if_true, if_false, cond_true, cond_false, Bool.false_eq_true] at hv
        · rw [if_pos (by rfl)]; exact hdo rfl hv
        · rw [if_neg (by decide)]; exact hskip rfl (by cases hv; rfl)
        · rw [if_neg (by decide)]; exact hskip rfl (by cases hv; rfl)
        · rw [if_pos (by rfl)]; exact hdo rfl hv
      · split at hv
        · rename_i hu
          cases hv
          have hg1 : a.eval (.tmp g) = .tuple #[] := by
            have hA := get_holds h (.tmp g)
            unfold isUnd at hu
            split at hu
            · rename_i e
              rw [e] at hA
              obtain ⟨vs, e1, e2⟩ := hA
              rw [e1]
              cases hq : vs.toList with
              | nil => rw [show vs = #[] from Array.toList_eq_nil_iff.1 hq]
              | cons u us => rw [hq] at e2; cases e2
            · cases hu
          have hy : yielded all a.tmps j = none := by
            simp only [yielded, hj, Option.bind_some]
            simp only [Act.eval, Array.getD_eq_getD_getElem?] at hg1
            cases he : a.tmps[g]? with
            | none => rfl
            | some u => rw [he] at hg1; simp at hg1; rw [hg1]
          have hw : Region.wanted o (yielded all a.tmps) = false := by simp [Region.wanted, hg, hy]
          rw [hw, if_neg (by decide)]
          exact hK G _ w (h.put o.dst (v := .tup []) ⟨#[], rfl, .nil⟩) (Step.put _ _) (put_defers _ _ _)
        · cases hv
    · cases hv

/-- A region in the text's order. -/
theorem opsK_val {R : Type} (all : Array Oper) : ∀ (l : List Oper) (s : St) (K : St → Option R) (r : R), opsK f all l s K = some r → ∃ s', K s' = some r ∧ l.foldl (fun x o => x.bind fun s => (operOc f all s o).val) (some s) = some s'
  | [], s, K, r, h => ⟨s, h, rfl⟩
  | o :: l, s, K, r, h => by
    simp only [opsK, Oc.runK_eq] at h
    obtain ⟨s1, h1, h2⟩ := Option.bind_eq_some_iff.1 h
    obtain ⟨s', h3, h4⟩ := opsK_val all l s1 K r h2
    refine ⟨s', h3, ?_⟩
    simp only [List.foldl_cons, Option.bind_some, h1]
    exact h4
theorem fold_none (all : Array Oper) : ∀ (l : List Oper), l.foldl (fun x o => x.bind fun s => (operOc f all s o).val) none = none
  | [] => rfl
  | o :: l => by simp only [List.foldl_cons, Option.bind_none]; exact fold_none all l
theorem ops_sound (hE : FOK C f) (all : Array Oper) (Q : Exit → Act → World → Prop) : ∀ (l : List Oper) {s : St} {G : Gm} {a : Act} {w : World}, Holds F s G a.tmps.toList w → l.foldl (fun x o => x.bind fun s => (operOc f all s o).val) (some s) = some s' →
    (∀ G' a' w', Holds F s' G' a'.tmps.toList w' → Step N0 N0 s G w s' G' w' → a'.defers = a.defers → Q .normal a' w') → wpList C.P all Q l a w
  | [], s, G, a, w, h, hf, hQ => by
    cases hf
    exact hQ G a w h (Step.refl _ _ _ _ _) rfl
  | o :: l, s, G, a, w, h, hf, hQ => by
    simp only [List.foldl_cons, Option.bind_some] at hf
    cases h1 : (operOc f all s o).val with
    | none => rw [h1, fold_none] at hf; cases hf
    | some s1 =>
      rw [h1] at hf
      refine wpList_step fun K hK => oper_sound hE h h1 K Q fun G' a' w' k1 k2 k3 => hK _ _ ?_
      exact ops_sound hE all Q l k1 hf fun G2 a2 w2 m1 m2 m3 => hQ G2 a2 w2 m1 (k2.trans m2) (m3.trans k3)

/-- One operation of a region, that may panic. -/
theorem operP_sound (hE : EnvOK C) {all : Array Oper} {e : XE} (h : Holds F s G a.tmps.toList w) (hv : (operP C all s o).val = some (e, s')) (K : Act → World → Prop) (Q : Exit → Act → World → Prop)
    (hK : ∀ G' a' w', e = .normal → Holds F s' G' a'.tmps.toList w' → Step N0 N0 s G w s' G' w' → a'.defers = a.defers → K a' w')
    (hP : ∀ G' a' w' x, e ≠ .normal → ExR e x → Holds F s' G' a'.tmps.toList w' → Step N0 N0 s G w s' G' w' → a'.defers = a.defers → Q x a' w') :
    if Region.wanted o (yielded all a.tmps) then o.wp C.P a w K Q else K (a.put o.dst undef) w := by
  unfold operP at hv
  split at hv
  · rename_i hg
    have : Region.wanted o (yielded all a.tmps) = true := by simp [Region.wanted, hg]
    rw [if_pos this]
    exact opP_any hE h hv K Q hK hP
  · rename_i j want hg
    split at hv
    · rename_i g hj
      split at hv
      · rename_i c hc
        have h1 := bool1_eval h hc
        have hy : yielded all a.tmps j = some c := by simp [yielded, hj, eval_bool h1]
        have hw : Region.wanted o (yielded all a.tmps) = (c == want) := by simp [Region.wanted, hg, hy]
        have h2 := refine_slot h hc
        rw [hw]
        have hskip : ∀ {b : Bool}, c = b → (e, s') = (XE.normal, (s.put (some g) (lf (pvB b))).put o.dst (.tup [])) → K (a.put o.dst undef) w := by
          intro b hcb e
          subst hcb
          cases e
          exact hK G _ w rfl (h2.put o.dst (v := .tup []) ⟨#[], rfl, .nil⟩) ((Step.put _ _).trans (Step.put _ _)) (put_defers _ _ _)
        have hdo : ∀ {b : Bool}, c = b → (opP C (s.put (some g) (lf (pvB b))) o.dst o.op).val = some (e, s') → o.wp C.P a w K Q := by
          intro b hcb e
          subst hcb
          exact opP_any hE h2 e K Q (fun G' a' w' k0 k1 k2 k3 => hK G' a' w' k0 k1 ((Step.put _ _).trans k2) k3) fun G' a' w' x k0 k1 k2 k3 k4 => hP G' a' w' x k0 k1 k2 ((Step.put _ _).trans k3) k4
        cases want <;> cases c <;> simp only [Oc.val, if_true, if_false, cond_true, cond_false, Bool.false_eq_true] at hv
        · rw [if_pos (by rfl)]; exact hdo rfl hv
        · rw [if_neg (by decide)]; exact hskip rfl (by cases hv; rfl)
        · rw [if_neg (by decide)]; exact hskip rfl (by cases hv; rfl)
        · rw [if_pos (by rfl)]; exact hdo rfl hv
      · split at hv
        · rename_i hu
          simp only [Oc.val] at hv
          cases hv
          have hg1 : a.eval (.tmp g) = .tuple #[] := by
            have hA := get_holds h (.tmp g)
            unfold isUnd at hu
            split at hu
            · rename_i e
              rw [e] at hA
              obtain ⟨vs, e1, e2⟩ := hA
              rw [e1]
              cases hq : vs.toList with
              | nil => rw [show vs = #[] from Array.toList_eq_nil_iff.1 hq]
              | cons u us => rw [hq] at e2; cases e2
            · cases hu
          have hy : yielded all a.tmps j = none := by
            simp only [yielded, hj, Option.bind_some]
            simp only [Act.eval, Array.getD_eq_getD_getElem?] at hg1
            cases he : a.tmps[g]? with
            | none => rfl
            | some u => rw [he] at hg1; simp at hg1; rw [hg1]
          have hw : Region.wanted o (yielded all a.tmps) = false := by simp [Region.wanted, hg, hy]
          rw [hw, if_neg (by decide)]
          exact hK G _ w rfl (h.put o.dst (v := .tup []) ⟨#[], rfl, .nil⟩) (Step.put _ _) (put_defers _ _ _)
        · cases hv
    · cases hv
theorem opsP_sound {R : Type} (hE : EnvOK C) (all : Array Oper) : ∀ (l : List Oper) (s : St) (K : XE → St → Option R) (r : R), opsP C all l s K = some r → ∃ e s', K e s' = some r ∧
    ∀ (F : Nat → Prop) (G : Gm) (a : Act) (w : World) (Q : Exit → Act → World → Prop), Holds F s G a.tmps.toList w →
      (∀ G' a' w' x, ExR e x → Holds F s' G' a'.tmps.toList w' → Step N0 N0 s G w s' G' w' → a'.defers = a.defers → Q x a' w') → wpList C.P all Q l a w
  | [], s, K, r, h => ⟨.normal, s, h, fun F G a w Q hH hQ => hQ G a w .normal rfl hH (Step.refl _ _ _ _ _) rfl⟩
  | o :: l, s, K, r, h => by
    simp only [opsP, Oc.runK_eq] at h
    obtain ⟨⟨e1, s1⟩, h1, h2⟩ := Option.bind_eq_some_iff.1 h
    by_cases he : e1 = .normal
    · subst he
      simp only [goP] at h2
      obtain ⟨e, s', h3, h4⟩ := opsP_sound hE all l s1 K r h2
      refine ⟨e, s', h3, fun F G a w Q hH hQ => wpList_step fun K' hK => operP_sound hE hH h1 K' Q (fun G1 a1 w1 _ k1 k2 k3 => hK _ _ ?_) fun G1 a1 w1 x k0 => absurd rfl k0⟩
      exact h4 F G1 a1 w1 Q k1 fun G2 a2 w2 x m0 m1 m2 m3 => hQ G2 a2 w2 x m0 m1 (k2.trans m2) (m3.trans k3)
    · have h5 : K e1 s1 = some r := by
        unfold goP at h2
        cases e1 with
        | normal => exact absurd rfl he
        | _ => exact h2
      exact ⟨e1, s1, h5, fun F G a w Q hH hQ => wpList_step fun K' hK => operP_sound hE hH h1 K' Q (fun G1 a1 w1 k0 => absurd k0 he) fun G1 a1 w1 x _ k0 k1 k2 k3 => hQ G1 a1 w1 x k0 k1 k2 k3⟩

/-- What the draws' order may be. -/
def DrawOK (C : Cfg) : Prop := ∀ (ops : Array Oper), commutes ops = true → ∀ (F : Nat → Prop) (s s' : St) (G : Gm) (a : Act) (w : World) (Q : Exit → Act → World → Prop), Holds F s G a.tmps.toList w →
    ops.toList.foldl (fun x o => x.bind fun s => (operOc (opD C) ops s o).val) (some s) = some s' →
    (∀ G' a' w', Holds F s' G' a'.tmps.toList w' → Step N0 N0 s G w s' G' w' → a'.defers = a.defers → Q .normal a' w') → ∀ id, (Code.region id ops true).wp C.P Q a w
theorem fok_E (hE : EnvOK C) : FOK C (opE C) := fun F s s' G a w o h hv => opE_any hE h hv

theorem Step.le {nb no nb' no' : Nat} {G' : Gm} (h : Step nb no s G w s' G' w') (h1 : nb' ≤ nb) (h2 : no' ≤ no) : Step nb' no' s G w s' G' w' :=
  ⟨h.keeps, h.fresh, fun b hb => h.gb b (by omega), fun l hl => h.go l (by omega)⟩

theorem fixB_get {n : Nat} {l : List Nat} (h : fixB n l = true) {i : Nat} (hi : i < n) : l.getD i (i + 1) = i := by
  have := List.all_eq_true.1 h i (List.mem_range.2 hi)
  simpa using this

/-- A state told as the shape at the head of some code. -/
theorem norm_sound {R : Type} {c : Code} {K : St → Option R} {r : R} (hn : norm C c s K = some r) : ∃ s', K s' = some r ∧ ∀ (F : Nat → Prop) (G : Gm) (vals : List Value) (w : World), Holds F s G vals w → ∃ G', Holds F s' G' vals w ∧ Step C.npB C.npO s G w s' G' w := by
  unfold norm at hn
  split at hn
  · exact ⟨s, hn, fun F G vals w h => ⟨G, h, Step.refl _ _ _ _ _⟩⟩
  · rename_i k hk
    split at hn
    · rename_i x hx
      split at hn
      · rename_i hfix
        simp only [Bool.and_eq_true] at hfix
        refine ⟨x.s, hn, fun F G vals w h => ?_⟩
        obtain ⟨hH, hL⟩ := co_sound h hx
        obtain ⟨hnB, hnO, hdis, hdisB, as, bs, os, hA, hB, hO, hs⟩ := co_parts hx
        obtain ⟨hOl, hOk, hOg⟩ := coOs_get hO
        refine ⟨_, hH.weakF (fun j hj => .inl hj), ⟨Keeps.refl _ _, fun j hj => .inl (hL j hj), fun b hb => ?_, fun l hl y hy => ?_⟩⟩
        · have h1 := fixB_get hfix.1 hb
          simp only [coG]
          have h2 : x.mB[b]? = some b := by
            simp only [List.getD] at h1
            cases he : x.mB[b]? with
            | none => rw [he] at h1; simp at h1
            | some z => rw [he] at h1; simp at h1; rw [h1]
          simp [List.getD, h2]
        · rw [hs] at hy
          obtain ⟨⟨kk, hkk⟩, hor⟩ := hOg l y (get_app_none hy)
          have h1 := List.all_eq_true.1 hfix.2 l (List.mem_range.2 hl)
          simp only [List.getD, hkk, Option.getD_some] at h1
          rcases hor with ⟨m, f1, f2⟩ | ⟨f1, _⟩
          · rw [f1] at h1
            simp at h1
            subst h1
            exact ⟨⟨y, f2⟩, by simp [coG, List.getD, f1]⟩
          · rw [f1] at h1
            simp at h1
      · cases hn
    · cases hn

/-- Code does what it is told as. -/
def CodeOK (C : Cfg) (c : Code) (s : St) (e : XE) (s' : St) : Prop :=
  ∀ (F : Nat → Prop) (G : Gm) (a : Act) (w : World) (Q : Exit → Act → World → Prop), Holds F s G a.tmps.toList w →
    (∀ G' a' w' x, ExR e x → Holds F s' G' a'.tmps.toList w' → Step C.npB C.npO s G w s' G' w' → a'.defers = a.defers → Q x a' w') → c.wp C.P Q a w

theorem loop_sound {R : Type} {b : Code} {K : XE → St → Option R} {k : Nat} (hb : ∀ (s : St) (K' : XE → St → Option R) (r : R), ev C k b s K' = some r → ∃ e s', K' e s' = some r ∧ CodeOK C b s e s') :
    ∀ (n : Nat) (s : St) (r : R), iterN (bodyK C b (ev C k b) K) n s = some r → ∃ e s', K e s' = some r ∧ e ≠ .normal ∧ ∀ (F : Nat → Prop) (G : Gm) (a : Act) (w : World) (Q : Exit → Act → World → Prop), Holds F s G a.tmps.toList w →
      (∀ G' a' w' x, ExR e x → Holds F s' G' a'.tmps.toList w' → Step C.npB C.npO s G w s' G' w' → a'.defers = a.defers → Q x a' w') → Code.rounds C.P b Q n a w
  | 0, s, r, h => by cases h
  | n + 1, s, r, h => by
    simp only [iterN, bodyK] at h
    obtain ⟨e1, s1, h1, h2⟩ := hb s _ r h
    have pass : e1 ≠ .normal → K e1 s1 = some r → ∃ e s', K e s' = some r ∧ e ≠ .normal ∧ ∀ (F : Nat → Prop) (G : Gm) (a : Act) (w : World) (Q : Exit → Act → World → Prop), Holds F s G a.tmps.toList w →
      (∀ G' a' w' x, ExR e x → Holds F s' G' a'.tmps.toList w' → Step C.npB C.npO s G w s' G' w' → a'.defers = a.defers → Q x a' w') → Code.rounds C.P b Q (n + 1) a w := by
      intro hne h1
      refine ⟨e1, s1, h1, hne, fun F G a w Q hH hQ => ?_⟩
      rw [rounds_succ]
      refine h2 F G a w _ hH fun G1 a1 w1 x k0 k1 k2 k3 => ?_
      have hQ1 := hQ G1 a1 w1 x k0 k1 k2 k3
      cases e1 with
      | normal => exact absurd rfl hne
      | exit id => cases k0; exact hQ1
      | ret => cases k0; exact hQ1
      | pan t ps g => obtain ⟨v, _, rfl⟩ := k0; exact hQ1
    cases e1 with
    | normal =>
      simp only [loopK] at h1
      obtain ⟨s2, h3, h4⟩ := norm_sound h1
      obtain ⟨e, s', h5, h6, h7⟩ := loop_sound hb n s2 r h3
      refine ⟨e, s', h5, h6, fun F G a w Q hH hQ => ?_⟩
      rw [rounds_succ]
      refine h2 F G a w _ hH fun G1 a1 w1 x k0 k1 k2 k3 => ?_
      cases k0
      obtain ⟨G2, k4, k5⟩ := h4 F G1 _ w1 k1
      exact h7 F G2 a1 w1 Q k4 fun G3 a3 w3 x m0 m1 m2 m3 => hQ G3 a3 w3 x m0 m1 ((k2.trans k5).trans m2) (m3.trans k3)
    | exit id => exact pass (by simp) h1
    | ret => exact pass (by simp) h1
    | pan t ps g => exact pass (by simp) h1

theorem ev_sound (hE : EnvOK C) (hD : DrawOK C) (hnb : C.npB ≤ N0) (hno : C.npO ≤ N0) (k : Nat) {R : Type} : ∀ (c : Code) (s : St) (K : XE → St → Option R) (r : R), ev C k c s K = some r → ∃ e s', K e s' = some r ∧ CodeOK C c s e s'
  | .skip, s, K, r, h => ⟨.normal, s, h, fun F G a w Q hH hQ => wp_skip (hQ G a w .normal rfl hH (Step.refl _ _ _ _ _) rfl)⟩
  | .label l, s, K, r, h => ⟨.normal, s, h, fun F G a w Q hH hQ => wp_label (hQ G a w .normal rfl hH (Step.refl _ _ _ _ _) rfl)⟩
  | .ret, s, K, r, h => ⟨.ret, s, h, fun F G a w Q hH hQ => wp_ret (hQ G a w .ret rfl hH (Step.refl _ _ _ _ _) rfl)⟩
  | .exit id, s, K, r, h => ⟨.exit id, s, h, fun F G a w Q hH hQ => wp_exit (hQ G a w (.exit id) rfl hH (Step.refl _ _ _ _ _) rfl)⟩
  | .region id ops draw, s, K, r, h => by
    simp only [ev] at h
    cases draw with
    | false =>
      obtain ⟨e, s', h1, h2⟩ := opsP_sound hE ops ops.toList s K r h
      exact ⟨e, s', h1, fun F G a w Q hH hQ => wp_region_list (h2 F G a w Q hH fun G' a' w' x k0 k1 k2 k3 => hQ G' a' w' x k0 k1 (k2.le hnb hno) k3)⟩
    | true =>
      simp only [if_true] at h
      split at h
      · rename_i hc
        obtain ⟨s', h1, h2⟩ := opsK_val ops ops.toList s (K .normal) r h
        exact ⟨.normal, s', h1, fun F G a w Q hH hQ => hD ops hc F s s' G a w Q hH h2 (fun G' a' w' k1 k2 k3 => hQ G' a' w' .normal rfl k1 (k2.le hnb hno) k3) id⟩
      · cases h
  | .seq x y, s, K, r, h => by
    simp only [ev] at h
    obtain ⟨e1, s1, h1, h2⟩ := ev_sound hE hD hnb hno k x s _ r h
    cases e1 with
    | normal =>
      simp only [seqK] at h1
      obtain ⟨s2, h3, h4⟩ := norm_sound h1
      obtain ⟨e, s', h5, h6⟩ := ev_sound hE hD hnb hno k y s2 _ r h3
      refine ⟨e, s', h5, fun F G a w Q hH hQ => wp_seq (h2 F G a w _ hH fun G1 a1 w1 x k0 k1 k2 k3 => ?_)⟩
      cases k0
      obtain ⟨G2, k4, k5⟩ := h4 F G1 _ w1 k1
      exact h6 F G2 a1 w1 Q k4 fun G3 a3 w3 x m0 m1 m2 m3 => hQ G3 a3 w3 x m0 m1 ((k2.trans k5).trans m2) (m3.trans k3)
    | exit id => exact ⟨.exit id, s1, h1, fun F G a w Q hH hQ => wp_seq (h2 F G a w _ hH fun G1 a1 w1 x k0 k1 k2 k3 => by cases k0; exact hQ G1 a1 w1 _ rfl k1 k2 k3)⟩
    | ret => exact ⟨.ret, s1, h1, fun F G a w Q hH hQ => wp_seq (h2 F G a w _ hH fun G1 a1 w1 x k0 k1 k2 k3 => by cases k0; exact hQ G1 a1 w1 _ rfl k1 k2 k3)⟩
    | pan t ps g => exact ⟨.pan t ps g, s1, h1, fun F G a w Q hH hQ => wp_seq (h2 F G a w _ hH fun G1 a1 w1 x k0 k1 k2 k3 => by obtain ⟨v, hv, rfl⟩ := k0; exact hQ G1 a1 w1 _ ⟨v, hv, rfl⟩ k1 k2 k3)⟩
  | .cond c x y, s, K, r, h => by
    simp only [ev] at h
    split at h
    · rename_i b hb
      have href : ∀ (F : Nat → Prop) (G : Gm) (a : Act) (w : World), Holds F s G a.tmps.toList w → Holds F (refine s c b) G a.tmps.toList w ∧ Step C.npB C.npO s G w (refine s c b) G w := by
        intro F G a w hH
        unfold refine
        split
        · exact ⟨refine_slot hH hb, Step.put _ _⟩
        · exact ⟨hH, Step.refl _ _ _ _ _⟩
      cases b with
      | true =>
        simp only [cond_true] at h
        obtain ⟨e, s', h1, h2⟩ := ev_sound hE hD hnb hno k x _ _ r h
        refine ⟨e, s', h1, fun F G a w Q hH hQ => ?_⟩
        obtain ⟨k1, k2⟩ := href F G a w hH
        exact wp_cond_true (bool1_eval hH hb) (h2 F G a w Q k1 fun G1 a1 w1 x m0 m1 m2 m3 => hQ G1 a1 w1 x m0 m1 (k2.trans m2) m3)
      | false =>
        simp only [cond_false] at h
        obtain ⟨e, s', h1, h2⟩ := ev_sound hE hD hnb hno k y _ _ r h
        refine ⟨e, s', h1, fun F G a w Q hH hQ => ?_⟩
        obtain ⟨k1, k2⟩ := href F G a w hH
        exact wp_cond_false (bool1_eval hH hb) (h2 F G a w Q k1 fun G1 a1 w1 x m0 m1 m2 m3 => hQ G1 a1 w1 x m0 m1 (k2.trans m2) m3)
    · cases h
  | .block id b, s, K, r, h => by
    simp only [ev] at h
    obtain ⟨e1, s1, h1, h2⟩ := ev_sound hE hD hnb hno k b s _ r h
    cases e1 with
    | normal => exact ⟨.normal, s1, h1, fun F G a w Q hH hQ => wp_block (h2 F G a w _ hH fun G1 a1 w1 x k0 k1 k2 k3 => by cases k0; exact hQ G1 a1 w1 _ rfl k1 k2 k3)⟩
    | exit i =>
      simp only [blkK] at h1
      split at h1
      · rename_i e
        exact ⟨.normal, s1, h1, fun F G a w Q hH hQ => wp_block (h2 F G a w _ hH fun G1 a1 w1 x k0 k1 k2 k3 => by
          cases k0
          simp only [Exit.inBlock, e, if_true]
          exact hQ G1 a1 w1 _ rfl k1 k2 k3)⟩
      · rename_i e
        exact ⟨.exit i, s1, h1, fun F G a w Q hH hQ => wp_block (h2 F G a w _ hH fun G1 a1 w1 x k0 k1 k2 k3 => by
          cases k0
          simp only [Exit.inBlock, e, if_false]
          exact hQ G1 a1 w1 _ rfl k1 k2 k3)⟩
    | ret => exact ⟨.ret, s1, h1, fun F G a w Q hH hQ => wp_block (h2 F G a w _ hH fun G1 a1 w1 x k0 k1 k2 k3 => by cases k0; exact hQ G1 a1 w1 _ rfl k1 k2 k3)⟩
    | pan t ps g => exact ⟨.pan t ps g, s1, h1, fun F G a w Q hH hQ => wp_block (h2 F G a w _ hH fun G1 a1 w1 x k0 k1 k2 k3 => by obtain ⟨v, hv, rfl⟩ := k0; exact hQ G1 a1 w1 _ ⟨v, hv, rfl⟩ k1 k2 k3)⟩
  | .loop b, s, K, r, h => by
    simp only [ev] at h
    obtain ⟨s1, h1, h2⟩ := norm_sound h
    obtain ⟨e, s', h3, h4, h5⟩ := loop_sound (fun s K' r h => ev_sound hE hD hnb hno k b s K' r h) k s1 r h1
    refine ⟨e, s', h3, fun F G a w Q hH hQ => wp_loop_rounds k ?_⟩
    obtain ⟨G1, k1, k2⟩ := h2 F G _ w hH
    exact h5 F G1 a w Q k1 fun G2 a2 w2 x m0 m1 m2 m3 => hQ G2 a2 w2 x m0 m1 (k2.trans m2) m3
  | .scope b, s, K, r, h => by cases h
  | .goto l, s, K, r, h => by cases h
  | .refuse y, s, K, r, h => by cases h
  | .rangeFunc f p x y, s, K, r, h => by cases h

end
end Go.Proofs.YtghmhkpgdmgepaaV
