import Derived.Test.YtghmhkpgdmgepaaV11
/-! The V engine, 12: values that are worked out: lengths, least and greatest, structs; all of them. -/
set_option linter.unusedVariables false
set_option linter.unusedSimpArgs false
namespace Go.Proofs.YtghmhkpgdmgepaaV
open Go Go.RowKit

section
variable {P : Program} {F : Nat → Prop} {s : St} {G : Gm} {a : Act} {w : World} {o : Oper} {v : AV} {vals : List Value}

theorem wf_len {n : Nat} (h : n ≤ maxLen) : (Lit.int .i64 (n : Int)).wf = true := by
  rw [wf_bounds]
  simp [IntKind.min, IntKind.max, IntKind.signed, IntKind.bits]
  unfold maxLen at h
  omega

theorem arr0 {α β : Type} {as : Array α} {f : α → Option β} {b : β} (h : (as[0]?).bind f = some b) : ∃ x, as[0]? = some x ∧ f x = some b := Option.bind_eq_some_iff.1 h

theorem v_len (h : Holds F s G a.tmps.toList w) {as : Array Operand} {ts : Array Nat} (ho : o.op = .call { callee := .builtin .len, args := as, argTypes := ts })
    (hv : (opV P s (.call { callee := .builtin .len, args := as, argTypes := ts })).val = some v) : VOK P F s G a w o v := by
  have run : ∀ {t x d}, ts[0]? = some t → as[0]? = some x → P.underlying t = some d → ∀ n : Nat, (∀ w', (match d, a.eval x with
      | .string, .string q => (pure (goInt q.size) : Sem Value).run P w'
      | .slice _, .slice _ m _ => (pure (goInt m) : Sem Value).run P w'
      | _, _ => (stuck "" : Sem Value).run P w') = .ok (.int .i64 n) w') → (execOp a.eval o).run P w = .ok (.value (.int .i64 n)) w := by
    intro t x d h1 h2 h3 n h4
    have e2 : (as.map a.eval)[0]? = some (a.eval x) := by simp [h2]
    have h5 := h4 w
    simp only [execOp, ho, resolve, invoke, builtin, Sem.run_bind, Sem.run_pure, Result.andThen_ok, Builtin.len_, h1, e2, run_underlying h3]
    cases d <;> cases hx : a.eval x <;> rw [hx] at h5 <;> simp at h5 <;> simp [h5]
  simp only [opV] at hv
  split at hv
  · rename_i q h1 h2
    cases hv
    obtain ⟨t, ht, hu⟩ := arr0 h1
    obtain ⟨x, hx, hl⟩ := arr0 h2
    obtain ⟨y, e, rfl, hy⟩ := pvStr (leaf_holds h hl)
    have hn : List.length (bs y) = y.size := bs_len y
    refine .same (run ht hx hu (List.length (bs y)) fun w' => by rw [e, hn]; rfl) ⟨rfl, wf_len ?_⟩
    rw [hn]; exact hy
  · rename_i e q xs h1 h2
    cases hv
    obtain ⟨t, ht, hu⟩ := arr0 h1
    obtain ⟨x, hx, hl⟩ := arr0 h2
    obtain ⟨A, c, e1, hl1, hc1, _⟩ := pvSl (leaf_holds h hl)
    have e2 := List.singleton_inj.1 e1
    exact .same (run ht hx hu (List.length xs) fun w' => by rw [e2]; rfl) ⟨rfl, wf_len (Nat.le_trans hl1 hc1)⟩
  · rename_i e l h1 h2
    split at hv
    · rename_i q hq
      cases hv
      obtain ⟨t, ht, hu⟩ := arr0 h1
      obtain ⟨x, hx, hl⟩ := arr0 h2
      have e1 : a.eval x = G.ow l := (leaf_holds h hl).1
      have hr := own_rep h hq
      obtain ⟨A, c, e2, hl1, hc1, _⟩ := (show RepSl w _ _ _ q.xs [G.ow l] from hr)
      have e3 := List.singleton_inj.1 e2
      exact .same (run ht hx hu q.xs.length fun w' => by rw [e1, e3]; rfl) ⟨rfl, wf_len (Nat.le_trans hl1 hc1)⟩
    · cases hv
  · rename_i e h1 h2
    cases hv
    obtain ⟨t, ht, hu⟩ := arr0 h1
    obtain ⟨x, hx, hl⟩ := arr0 h2
    have e1 : a.eval x = _ := leaf_holds h hl
    exact .same (run ht hx hu 0 fun w' => by rw [e1]; rfl) ⟨rfl, wf_len (Nat.zero_le _)⟩
  · cases hv

theorem foldP_sound (f : PL → PL → Option PL) (g : Value → Value → Sem Value) (hf : ∀ p q r x y, f p q = some r → HR F s G w (.pv p) x → HR F s G w (.pv q) y → ∃ z, (g x y).run P w = .ok z w ∧ HR F s G w (.pv r) z) :
    ∀ (xs : List Operand) (p r : PL) (x : Value), HR F s G w (.pv p) x → Holds F s G a.tmps.toList w → foldP f p (xs.map s.get) = some r → ∃ z, ((xs.map a.eval).foldlM g x).run P w = .ok z w ∧ HR F s G w (.pv r) z
  | [], p, r, x, hp, h, h1 => by cases h1; exact ⟨x, by simp, hp⟩
  | y :: xs, p, r, x, hp, h, h1 => by
    simp only [List.map_cons] at h1
    unfold foldP at h1
    split at h1
    · rename_i heq; cases heq
    · rename_i q r' heq
      injection heq with e1 e2
      obtain ⟨z, hz, h2⟩ := Option.bind_eq_some_iff.1 h1
      have hy := get_holds h y
      rw [e1] at hy
      obtain ⟨u, hu, hru⟩ := hf _ _ _ _ _ hz hp hy
      subst e2
      obtain ⟨k, hk, hrk⟩ := foldP_sound f g hf xs z r u hru h h2
      exact ⟨k, by simp [hu, hk], hrk⟩
    · cases h1

theorem minI_wf {k : IntKind} {x y : Int} (hx : (Lit.int k x).wf = true) (hy : (Lit.int k y).wf = true) : (Lit.int k (minI x y)).wf = true := by unfold minI; split <;> assumption
theorem maxI_wf {k : IntKind} {x y : Int} (hx : (Lit.int k x).wf = true) (hy : (Lit.int k y).wf = true) : (Lit.int k (maxI x y)).wf = true := by unfold maxI; split <;> assumption

theorem v_min (h : Holds F s G a.tmps.toList w) {as : Array Operand} {ts : Array Nat} (ho : o.op = .call { callee := .builtin .min, args := as, argTypes := ts })
    (hv : (opV P s (.call { callee := .builtin .min, args := as, argTypes := ts })).val = some v) : VOK P F s G a w o v := by
  simp only [opV] at hv
  split at hv
  · rename_i p r heq
    rw [Oc.val_ofOption] at hv
    obtain ⟨q, hq, rfl⟩ := Option.map_eq_some_iff.1 hv
    cases hl : as.toList with
    | nil => rw [hl] at heq; cases heq
    | cons x xs =>
      rw [hl] at heq
      simp only [List.map_cons, List.cons.injEq] at heq
      obtain ⟨e1, rfl⟩ := heq
      have hx := get_holds h x
      rw [e1] at hx
      obtain ⟨z, hz, hr⟩ := foldP_sound (P := P) min2P Builtin.min2 (by
        intro p q r x y h1 hp hq
        unfold min2P at h1
        split at h1
        · rename_i k m k' n
          split at h1
          · rename_i hk
            cases h1
            cases hk
            obtain ⟨rfl, h2⟩ := pvInt hp
            obtain ⟨rfl, h3⟩ := pvInt hq
            exact ⟨_, by simp [Builtin.min2]; rfl, rfl, minI_wf h2 h3⟩
          · cases h1
        · cases h1) xs p q (a.eval x) hx h hq
      refine .same (u := z) ?_ hr
      have e3 : (as.map a.eval).toList = a.eval x :: xs.map a.eval := by simp [hl]
      simp [execOp, ho, resolve, invoke, builtin, Builtin.min_, e3, hz, -Array.toList_map]
  · cases hv

theorem v_max (h : Holds F s G a.tmps.toList w) {as : Array Operand} {ts : Array Nat} (ho : o.op = .call { callee := .builtin .max, args := as, argTypes := ts })
    (hv : (opV P s (.call { callee := .builtin .max, args := as, argTypes := ts })).val = some v) : VOK P F s G a w o v := by
  simp only [opV] at hv
  split at hv
  · rename_i p r heq
    rw [Oc.val_ofOption] at hv
    obtain ⟨q, hq, rfl⟩ := Option.map_eq_some_iff.1 hv
    cases hl : as.toList with
    | nil => rw [hl] at heq; cases heq
    | cons x xs =>
      rw [hl] at heq
      simp only [List.map_cons, List.cons.injEq] at heq
      obtain ⟨e1, rfl⟩ := heq
      have hx := get_holds h x
      rw [e1] at hx
      obtain ⟨z, hz, hr⟩ := foldP_sound (P := P) max2P Builtin.max2 (by
        intro p q r x y h1 hp hq
        unfold max2P at h1
        split at h1
        · rename_i k m k' n
          split at h1
          · rename_i hk
            cases h1
            cases hk
            obtain ⟨rfl, h2⟩ := pvInt hp
            obtain ⟨rfl, h3⟩ := pvInt hq
            exact ⟨_, by simp [Builtin.max2]; rfl, rfl, maxI_wf h2 h3⟩
          · cases h1
        · cases h1) xs p q (a.eval x) hx h hq
      refine .same (u := z) ?_ hr
      have e3 : (as.map a.eval).toList = a.eval x :: xs.map a.eval := by simp [hl]
      simp [execOp, ho, resolve, invoke, builtin, Builtin.max_, e3, hz, -Array.toList_map]
  · cases hv

/-! #### structs -/
theorem fold_set : ∀ (vs : List Value) (off j : Nat) (cs : Array Value), off + j + vs.length ≤ cs.size →
    ((vs.zipIdx j).foldl (fun cs (x : Value × Nat) => cs.setIfInBounds (off + x.2) x.1) cs).toList = cs.toList.take (off + j) ++ vs ++ cs.toList.drop (off + j + vs.length)
  | [], off, j, cs, h => by simp
  | v :: vs, off, j, cs, h => by
    simp only [List.zipIdx_cons, List.foldl_cons]
    rw [fold_set vs off (j + 1) _ (by simp at h ⊢; omega)]
    simp only [Array.toList_setIfInBounds, List.length_cons] at h ⊢
    have hlt : off + j < cs.toList.length := by simp; omega
    apply List.ext_getElem?
    intro i
    rw [List.getElem?_append, List.getElem?_append, List.getElem?_append, List.getElem?_append]
    simp only [List.length_append, List.length_take, List.length_set, List.getElem?_take, List.getElem?_drop, List.getElem?_set, List.length_cons, Array.length_toList]
    by_cases h1 : i < off + j
    · have e1 : i < min (off + (j + 1)) cs.size := by omega
      have e2 : i < min (off + (j + 1)) cs.size + vs.length := by omega
      have e3 : i < min (off + j) cs.size := by omega
      have e4 : i < min (off + j) cs.size + (vs.length + 1) := by omega
      have e5 : ¬ off + j = i := by omega
      have e6 : i < off + (j + 1) := by omega
      simp [e1, e2, e3, e4, e5, e6, h1]
    · by_cases h2 : i = off + j
      · subst h2
        have e1 : off + j < min (off + (j + 1)) cs.size := by omega
        have e2 : off + j < min (off + (j + 1)) cs.size + vs.length := by omega
        have e3 : ¬ off + j < min (off + j) cs.size := by omega
        have e4 : off + j < min (off + j) cs.size + (vs.length + 1) := by omega
        have e6 : off + j < off + (j + 1) := by omega
        have e7 : off + j - min (off + j) cs.size = 0 := by omega
        have e8 : off + j < cs.size := by omega
        simp [e1, e2, e3, e4, e6, e7, e8]
      · have e1 : ¬ i < min (off + (j + 1)) cs.size := by omega
        have e3 : ¬ i < min (off + j) cs.size := by omega
        by_cases h3 : i < off + j + 1 + vs.length
        · have e2 : i < min (off + (j + 1)) cs.size + vs.length := by omega
          have e4 : i < min (off + j) cs.size + (vs.length + 1) := by omega
          have e5 : i - min (off + j) cs.size = (i - min (off + (j + 1)) cs.size) + 1 := by omega
          simp [e1, e2, e3, e4, e5]
        · have e2 : ¬ i < min (off + (j + 1)) cs.size + vs.length := by omega
          have e4 : ¬ i < min (off + j) cs.size + (vs.length + 1) := by omega
          have e5 : ¬ off + j = off + (j + 1) + vs.length + (i - (min (off + (j + 1)) cs.size + vs.length)) := by omega
          have e6 : off + (j + 1) + vs.length + (i - (min (off + (j + 1)) cs.size + vs.length)) = off + j + (vs.length + 1) + (i - (min (off + j) cs.size + (vs.length + 1))) := by omega
          simp [e1, e2, e3, e4, e5, e6]
          intro h9
          exact absurd h9 (by omega)

theorem fill_sound {R : L → Value → Prop} (f : Nat → Option (Nat × Nat)) : ∀ (q : List (Nat × List L)) (vs : List (Nat × Value)) (z ls : List L) (cs : Array Value),
    All2 (fun x y => x.1 = y.1 ∧ All2 R x.2 y.2.cells.toList) q vs → All2 R z cs.toList → fillLs f z q = some ls → ∃ cs', Instr.fill f cs vs = some cs' ∧ All2 R ls cs'.toList
  | [], _, z, ls, cs, h1, h2, h3 => by cases h1; cases h3; exact ⟨cs, rfl, h2⟩
  | (i, new) :: q, _, z, ls, cs, h1, h2, h3 => by
    cases h1 with
    | cons h4 h5 =>
      rename_i y vs
      obtain ⟨i', v⟩ := y
      obtain ⟨rfl, h6⟩ := h4
      simp only [fillLs] at h3
      obtain ⟨⟨off, size⟩, hf, h7⟩ := Option.bind_eq_some_iff.1 h3
      split at h7
      · rename_i hc
        obtain ⟨hc1, hc2⟩ := hc
        have hl1 := h6.len
        have hl2 := h2.len
        simp only [Array.length_toList] at hl1 hl2
        have h8 : v.cells.zipIdx.foldl (fun cs (c, j) => cs.setIfInBounds (off + j) c) cs = (cs.toList.take off ++ v.cells.toList ++ cs.toList.drop (off + v.cells.toList.length)).toArray := by
          have := fold_set v.cells.toList off 0 cs (by simp; omega)
          rw [← Array.toList_inj]
          rw [← Array.foldl_toList, Array.toList_zipIdx]
          simpa using this
        have h9 : All2 R (splice z off new) (cs.toList.take off ++ v.cells.toList ++ cs.toList.drop (off + v.cells.toList.length)) := by
          unfold splice
          have : new.length = v.cells.toList.length := by rw [Array.length_toList]; exact hl1
          rw [this]
          exact ((h2.take off).app h6).app (h2.drop _)
        obtain ⟨cs', hfill, ha⟩ := fill_sound f q vs _ ls (cs.toList.take off ++ v.cells.toList ++ cs.toList.drop (off + v.cells.toList.length)).toArray h5 (by simpa using h9) h7
        refine ⟨cs', ?_, ha⟩
        simp only [Instr.fill, hf]
        rw [if_neg, h8]
        · exact hfill
        · simp only [ne_eq, Bool.or_eq_true, decide_eq_true_eq, not_or, Decidable.not_not]
          simp at hc1
          constructor <;> omega
      · cases h7

theorem parts_holds (h : Holds F s G a.tmps.toList w) : ∀ (ps : List (Nat × Operand)) (q : List (Nat × List L)), partsOf s ps = some q →
    All2 (fun x y => x.1 = y.1 ∧ All2 (HR F s G w) x.2 y.2.cells.toList) q (ps.map fun (x : Nat × Operand) => (x.1, a.eval x.2))
  | [], q, h1 => by cases h1; exact .nil
  | (i, x) :: ps, q, h1 => by
    simp only [partsOf] at h1
    obtain ⟨ls, hl, h2⟩ := Option.bind_eq_some_iff.1 h1
    obtain ⟨q', hq, rfl⟩ := Option.map_eq_some_iff.1 h2
    exact .cons ⟨rfl, leaves_holds h hl⟩ (parts_holds h ps q' hq)

theorem zeroLs_holds {t : Nat} {z : List L} (h : zeroLs P t = some z) : ∃ i v, P.info? t = some i ∧ i.zero = some v ∧ z = v.cells.toList.map constL ∧ ∀ u ∈ v.cells.toList, u.oneCell' = true := by
  unfold zeroLs at h
  obtain ⟨v, hv, h2⟩ := Option.bind_eq_some_iff.1 h
  obtain ⟨i, hi, hz⟩ := Option.bind_eq_some_iff.1 hv
  split at h2
  · rename_i h3
    cases h2
    exact ⟨i, v, hi, hz, rfl, fun u hu => List.all_eq_true.1 h3 u hu⟩
  · cases h2

theorem v_build (h : Holds F s G a.tmps.toList w) {t : Nat} {ps : Array (Nat × Operand)} (ho : o.op = .build t ps) (hv : (opV P s (.build t ps)).val = some v) : VOK P F s G a w o v := by
  simp only [opV] at hv
  split at hv
  · rename_i z q f hz hq hf
    rw [Oc.val_ofOption] at hv
    obtain ⟨ls, hls, rfl⟩ := Option.map_eq_some_iff.1 hv
    obtain ⟨i, zv, hi, hzz, rfl, h1⟩ := zeroLs_holds hz
    have hp := parts_holds h ps.toList q hq
    obtain ⟨cs', hfill, ha⟩ := fill_sound (R := HR F s G w) f q _ _ ls zv.cells hp (constLs_holds (fun u hu => constL_holds u hu) _ h1) hls
    have e1 : (ps.map fun (x : Nat × Operand) => (x.1, a.eval x.2)).toList = ps.toList.map fun (x : Nat × Operand) => (x.1, a.eval x.2) := by simp
    have hb : P.built t (ps.map fun (x : Nat × Operand) => (x.1, a.eval x.2)).toList = some cs' := by
      rw [e1]
      unfold placesOf at hf
      unfold Program.built
      split at hf
      · rename_i fs hu
        obtain ⟨pl, hpl, rfl⟩ := Option.map_eq_some_iff.1 hf
        simp only [hi, hu, hzz, hpl]
        exact hfill
      · rename_i m e hu
        obtain ⟨ie, hie, rfl⟩ := Option.map_eq_some_iff.1 hf
        simp only [hi, hu, hzz, hie]
        exact hfill
      · cases hf
    exact .same (u := .agg cs') (by simp only [execOp, ho, Sem.run_bind]; rw [run_build w t _ cs' hb]; rfl) ⟨cs', rfl, ha⟩
  · cases hv

/-- All values that are worked out. -/
theorem opV_sound (h : Holds F s G a.tmps.toList w) (hv : (opV P s o.op).val = some v) : VOK P F s G a w o v := by
  cases ho : o.op with
  | move x => rw [ho] at hv; cases hv; exact v_move h (.inl ho) rfl
  | assign x => rw [ho] at hv; cases hv; exact v_move h (.inr ho) rfl
  | pick c x y =>
    rw [ho] at hv
    simp only [opV] at hv
    split at hv
    · rename_i b hb
      exact v_pick h ho hb hv
    · cases hv
  | build t ps => rw [ho] at hv; exact v_build h ho hv
  | load t x =>
    rw [ho] at hv
    simp only [opV] at hv
    split at hv
    · rename_i l n hl hn
      split at hv
      · rename_i hu
        rw [Oc.val_ofOption] at hv
        exact v_load h ho hl hn hv hu
      · cases hv
    · cases hv
  | nilCheck x =>
    rw [ho] at hv
    simp only [opV] at hv
    split at hv <;> first | (cases hv; done) | skip
    all_goals
      rename_i hl
      cases hv
      exact v_nil h ho hl rfl
  | binOp op t x y t' =>
    rw [ho] at hv
    simp only [opV] at hv
    split at hv
    · rename_i l1 l2 h1 h2
      split at hv
      · rename_i r hn
        cases hv
        exact v_nilI h ho h1 hn (.inl ⟨rfl, rfl⟩)
      · rename_i r hn
        cases hv
        exact v_nilI h ho h1 hn (.inr ⟨rfl, rfl⟩)
      · exact v_bin h ho h1 h2 hv
    · split at hv
      · rename_i xs ys h1 h2
        rw [Oc.val_ofOption] at hv
        obtain ⟨r, hr, rfl⟩ := Option.map_eq_some_iff.1 hv
        exact v_eqSt h ho h1 h2 hr (.inl ⟨rfl, rfl⟩)
      · rename_i xs ys h1 h2
        rw [Oc.val_ofOption] at hv
        obtain ⟨r, hr, rfl⟩ := Option.map_eq_some_iff.1 hv
        exact v_eqSt h ho h1 h2 hr (.inr ⟨rfl, rfl⟩)
      · cases hv
  | unOp op t x =>
    rw [ho] at hv
    simp only [opV] at hv
    split at hv
    · rename_i p hp
      rw [Oc.val_ofOption] at hv
      exact v_un h ho hp hv
    · cases hv
  | convert t1 t2 x => rw [ho] at hv; exact v_convert h ho hv
  | makeInterface t x => rw [ho] at hv; exact v_ifc h ho hv
  | makeFunc f x y =>
    rw [ho] at hv
    cases f with
    | func f => exact v_func h ho hv
    | _ => simp only [opV] at hv; cases hv
  | fieldAddr S x f => rw [ho] at hv; exact v_fieldAddr h ho hv
  | field S x f => rw [ho] at hv; exact v_field h ho hv
  | indexAddr T x y => rw [ho] at hv; exact v_indexAddr h ho hv
  | index T x y => rw [ho] at hv; exact v_index h ho hv
  | extract x i => rw [ho] at hv; exact v_extract h ho hv
  | slice T x lo hi mx =>
    rw [ho] at hv
    cases mx with
    | none => exact v_slice h ho hv
    | some m => simp only [opV] at hv; cases hv
  | call c =>
    obtain ⟨f, as, ts⟩ := c
    rw [ho] at hv
    cases f with
    | builtin b =>
      cases b <;> first | exact v_len h ho hv | exact v_min h ho hv | exact v_max h ho hv | (simp only [opV] at hv; cases hv)
    | _ => simp only [opV] at hv; cases hv
  | _ => rw [ho] at hv; simp only [opV] at hv; cases hv

end
end Go.Proofs.YtghmhkpgdmgepaaV
