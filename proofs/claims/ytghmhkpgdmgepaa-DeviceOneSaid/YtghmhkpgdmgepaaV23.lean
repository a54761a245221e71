import Derived.Test.YtghmhkpgdmgepaaV22
/-! The V engine, 23: functions. -/
set_option linter.unusedVariables false
set_option linter.unusedSimpArgs false
namespace Go.Proofs.YtghmhkpgdmgepaaV
open Go Go.RowKit

section
variable {C : Cfg} {F : Nat → Prop} {s s' : St} {G : Gm} {a : Act} {w w' : World} {vals : List Value}

theorem pad_get {α : Type} (l : List (Option α)) (n i : Nat) : ((l ++ List.replicate n none)[i]?).bind id = (l[i]?).bind id := by
  rw [List.getElem?_append]
  split
  · rfl
  · rename_i h
    rw [List.getElem?_replicate, List.getElem?_eq_none (by omega)]
    split <;> rfl
theorem enc_box (k : Sk) (n m : Nat) (ps : List PL) (b : Nat) : boxAt (enc k n ps) b = boxAt (enc k m ps) b := by
  unfold boxAt enc; simp only [pad_get]
theorem enc_own (k : Sk) (n m : Nat) (ps : List PL) (b : Nat) : ownAt (enc k n ps) b = ownAt (enc k m ps) b := by
  unfold ownAt enc; simp only [pad_get]
theorem encAs_len : ∀ (ks : List SA) (ps : List PL), (encAs ks ps).length = ks.length
  | [], _ => rfl
  | k :: ks, ps => by simp [encAs, encAs_len ks]

theorem runL_mapM {α β : Type} (f : α → Sem β) (g : α → β) (P : Program) (w : World) : ∀ (l : List α), (∀ x ∈ l, (f x).run P w = .ok (g x) w) → (l.mapM f).run P w = .ok (l.map g) w
  | [], _ => rfl
  | x :: l, h => by
    simp [List.mapM_cons, h x (by simp), runL_mapM f g P w l fun y hy => h y (by simp [hy])]

/-- A result, in the model. -/
def resS (tmps : Array Value) : ResultVar → Sem Value
  | .tmp t => pure (tmps.getD t undef)
  | .cell a t => do loadVar t (← asAddr (tmps.getD a undef))

theorem res_sound (h : Holds F s G a.tmps.toList w) (hu : ∀ r ∈ ([] : List Nat), True) {r : ResultVar} {v : AV} (hv : resAV C.P s r = some v) :
    ∃ u, (resS a.tmps r).run C.P w = .ok u w ∧ HA (HR F s G w) v u := by
  cases r with
  | tmp t =>
    simp only [resAV] at hv
    cases hv
    exact ⟨_, rfl, get_holds h (.tmp t)⟩
  | cell b t =>
    simp only [resAV] at hv
    obtain ⟨l, h1, h2⟩ := Option.bind_eq_some_iff.1 hv
    obtain ⟨n, h3, h4⟩ := Option.bind_eq_some_iff.1 h2
    obtain ⟨ls, h5, h6⟩ := Option.bind_eq_some_iff.1 h4
    split at h6
    · rename_i hus
      obtain ⟨ad, cs, hp, hc, hcl, ha⟩ := loadLs_sound h (leaf_holds h (x := .tmp b) h1) h5
      have h7 : isAggB C.P t = true ∨ n = 1 := by
        cases hg : isAggB C.P t with
        | true => exact .inl rfl
        | false =>
          rw [hg] at h6
          simp only [mkAV, Bool.false_eq_true, if_false] at h6
          split at h6
          · rename_i l'
            have := ha.len
            simp at this
            exact .inr (by omega)
          · cases h6
      refine ⟨_, ?_, mkAV_holds ha h6⟩
      have e : a.tmps.getD b undef = .pointer (some ad) := hp
      simp only [resS, e, asAddr, Sem.run_bind, Sem.run_pure, Result.andThen_ok]
      exact loadVar_sound h3 hc hcl h7 hus
    · cases h6

theorem ress_sound (h : Holds F s G a.tmps.toList w) : ∀ (rs : List ResultVar) (as : List AV), resAVs C.P s rs = some as →
    ∃ us : List Value, (rs.mapM (resS a.tmps)).run C.P w = .ok us w ∧ All2 (HA (HR F s G w)) as us
  | [], as, h1 => by cases h1; exact ⟨[], rfl, .nil⟩
  | r :: rs, as, h1 => by
    simp only [resAVs] at h1
    obtain ⟨v, h2, h3⟩ := Option.bind_eq_some_iff.1 h1
    obtain ⟨q, h4, rfl⟩ := Option.map_eq_some_iff.1 h3
    obtain ⟨u, h5, h6⟩ := res_sound h (fun _ _ => trivial) h2
    obtain ⟨us, h7, h8⟩ := ress_sound h rs q h4
    refine ⟨u :: us, ?_, .cons h6 h8⟩
    simp only [List.mapM_cons, Sem.run_bind, h5, Result.andThen_ok, h7, Sem.run_pure]

theorem results_run {fn : Func} {tmps : Array Value} {us : List Value} {P : Program} {w : World} (h : (fn.results.toList.mapM (resS tmps)).run P w = .ok us w) : (results fn tmps).run P w = .ok (retV us) w := by
  have key : results fn tmps = (do let vs ← fn.results.mapM (resS tmps); pure (if h : vs.size = 1 then vs[0] else .tuple vs)) := by
    unfold results
    congr 1
  rw [key, Array.mapM_eq_mapM_toList]
  simp only [Sem.run_bind, Sem.run_map]
  rw [h]
  simp only [Result.andThen_ok, Sem.run_pure]
  congr 1
  match us with
  | [] => rfl
  | [v] => rfl
  | _ :: _ :: _ => rfl

/-- The end of a function. -/
theorem ret_sound {fn : Func} {kin kout : Sk} {x : HLs kin.tys} {y : HLs kout.tys} {s1 : St} {G1 : Gm} {a1 : Act} {w1 : World} (hnB : C.npB = kin.boxes.length) (hnO : C.npO = kin.owns.length)
    (k1 : Holds F s1 G1 a1.tmps.toList w1) (k2 : Step C.npB C.npO { enc kin C.n (toPL kin.tys x) with slots := encAs kin.slots (toPL kin.tys x) ++ List.replicate (fn.ntmps - kin.slots.length) AV.dead } G w s1 G1 w1)
    (hfin : finish C fn.results kout s1 = some y) : ∃ (rv : List Value) (G' : Gm), (results fn a1.tmps).run C.P w1 = .ok (retV rv) w1 ∧ Holds F (enc kout (szS kout) (toPL kout.tys y)) G' rv w1 ∧
      Step kin.boxes.length kin.owns.length (enc kin (szS kin) (toPL kin.tys x)) G w (enc kout (szS kout) (toPL kout.tys y)) G' w1 := by
  unfold finish at hfin
  obtain ⟨as, g1, g2⟩ := Option.bind_eq_some_iff.1 hfin
  obtain ⟨cc, g3, g4⟩ := Option.bind_eq_some_iff.1 g2
  split at g4
  · rename_i hfix
    obtain ⟨qs, g5, g6⟩ := Option.bind_eq_some_iff.1 g4
    obtain ⟨us, m1, m2⟩ := ress_sound (a := a1) k1 fn.results.toList as g1
    have hres := results_run (fn := fn) (tmps := a1.tmps) m1
    have h0 : Holds F { s1 with slots := as } G1 us w1 := ⟨m2, k1.box, k1.own, k1.bb, k1.bo, k1.oo, k1.nF, k1.Flt, k1.ty⟩
    obtain ⟨hH2, hL⟩ := co_sound h0 g3
    obtain ⟨hnB', hnO', hdis, hdisB, as', bs, os, hA, hB, hO, hs⟩ := co_parts g3
    obtain ⟨hOl, hOk, hOg⟩ := coOs_get hO
    obtain ⟨d1, d2, d3⟩ := dec_enc g5 (szS kout)
    rw [← ofPL_some g6] at d1 d2 d3
    have hH3 := (hH2.weakF (fun j hj => .inl hj)).ext d1 d2 d3
    refine ⟨us, _, hres, hH3, ?_⟩
    simp only [Bool.and_eq_true] at hfix
    have hstep : Step C.npB C.npO s1 G1 w1 cc.s (coG G1 cc.mB cc.mO) w1 := by
      refine ⟨Keeps.refl _ _, fun j hj => .inl (hL j hj), fun b hb => ?_, fun l hl z hz => ?_⟩
      · have h1 := fixB_get hfix.1 hb
        simp only [coG]
        have h2 : cc.mB[b]? = some b := by
          simp only [List.getD] at h1
          cases he : cc.mB[b]? with
          | none => rw [he] at h1; simp at h1
          | some z => rw [he] at h1; simp at h1; rw [h1]
        simp [List.getD, h2]
      · rw [hs] at hz
        obtain ⟨⟨kk, hkk⟩, hor⟩ := hOg l z (get_app_none hz)
        have h1 := List.all_eq_true.1 hfix.2 l (List.mem_range.2 hl)
        simp only [List.getD, hkk, Option.getD_some] at h1
        rcases hor with ⟨m, f1, f2⟩ | ⟨f1, _⟩
        · rw [f1] at h1
          simp at h1
          subst h1
          exact ⟨⟨z, f2⟩, by simp [coG, List.getD, f1]⟩
        · rw [f1] at h1
          simp at h1
    have ht := k2.trans hstep
    rw [hnB, hnO] at ht
    have e1 : Live (enc kin (szS kin) (toPL kin.tys x)) = Live { enc kin C.n (toPL kin.tys x) with slots := encAs kin.slots (toPL kin.tys x) ++ List.replicate (fn.ntmps - kin.slots.length) AV.dead } := by
      funext G k
      have b1 : ∀ b, boxAt { enc kin C.n (toPL kin.tys x) with slots := encAs kin.slots (toPL kin.tys x) ++ List.replicate (fn.ntmps - kin.slots.length) AV.dead } b = boxAt (enc kin (szS kin) (toPL kin.tys x)) b := fun b => enc_box _ _ _ _ _
      have b2 : ∀ b, ownAt { enc kin C.n (toPL kin.tys x) with slots := encAs kin.slots (toPL kin.tys x) ++ List.replicate (fn.ntmps - kin.slots.length) AV.dead } b = ownAt (enc kin (szS kin) (toPL kin.tys x)) b := fun b => enc_own _ _ _ _ _
      simp [Live, b1, b2]
    have e2 : ∀ G, Live (enc kout (szS kout) (toPL kout.tys y)) G = Live cc.s G := by
      intro G
      funext k
      simp [Live, d2, d3]
    refine ⟨⟨ht.keeps.os, ht.keeps.tape, ht.keeps.output, ht.keeps.size, fun j hj hn => ht.keeps.block j hj (by rw [← e1]; exact hn)⟩, fun j hj => ?_, ht.gb, fun l hl z hz => ?_⟩
    · rw [e2] at hj
      have := ht.fresh j hj
      rw [← e1] at this
      exact this
    · obtain ⟨⟨z', hz'⟩, h9⟩ := ht.go l hl z (by rw [← d3]; exact hz)
      exact ⟨⟨z', (enc_own kin C.n (szS kin) (toPL kin.tys x) l).symm.trans hz'⟩, h9⟩
  · cases g4

theorem start_holds {fn : Func} {kin : Sk} {x : HLs kin.tys} (hH : Holds F (enc kin (szS kin) (toPL kin.tys x)) G vals w) : Holds F { enc kin C.n (toPL kin.tys x) with slots := encAs kin.slots (toPL kin.tys x) ++ List.replicate (fn.ntmps - kin.slots.length) AV.dead } G (vals.toArray ++ Array.replicate (fn.ntmps - vals.toArray.size) undef).toList w := by
  have hargs : vals.length = kin.slots.length := by
    have := hH.slots.len
    have e2 : (enc kin (szS kin) (toPL kin.tys x)).slots = encAs kin.slots (toPL kin.tys x) := rfl
    rw [e2, encAs_len] at this
    exact this.symm
  have hS : Holds F { enc kin C.n (toPL kin.tys x) with slots := encAs kin.slots (toPL kin.tys x) } G vals w := hH.ext rfl (fun b => enc_box _ _ _ _ _) (fun b => enc_own _ _ _ _ _)
  refine ⟨?_, hS.box, hS.own, hS.bb, hS.bo, hS.oo, hS.nF, hS.Flt, hS.ty⟩
  simp only [Array.toList_append, Array.toList_replicate]
  refine hS.slots.app ?_
  rw [← hargs, List.size_toArray]
  have : ∀ n : Nat, All2 (HA (HR F { enc kin C.n (toPL kin.tys x) with slots := encAs kin.slots (toPL kin.tys x) } G w)) (List.replicate n AV.dead) (List.replicate n undef) := by
    intro n
    induction n with
    | zero => exact .nil
    | succ n ih => rw [List.replicate_succ, List.replicate_succ]; exact .cons trivial ih
  exact this _

/-- A function's contract, by its code. -/
theorem fn_sound (hE : EnvOK C) (hD : DrawOK C) (k : Nat) {g : Nat} {fn : Func} {c : Code} (hf : C.P.funcs[g]? = some fn) (hname : (fn.name == "runtime.NumGoroutine") = false) (hb : fn.body = some c) (kin kout : Sk)
    (hnB : C.npB = kin.boxes.length) (hnO : C.npO = kin.owns.length) (hlB : C.npB ≤ N0) (hlO : C.npO ≤ N0) : SigOK C.P g ⟨kin, kout, mkFun kin.tys kout.tys (fnOf C k fn kin kout)⟩ := by
  refine ⟨⟨fn, hf, hname, by rw [hb]; rfl⟩, fun ps qs hrun => ?_⟩
  show CallOK _ _ _ _ _ _
  intro F G vals w hH
  have hrun' := hrun
  simp only [mkFun] at hrun'
  split at hrun'
  · rename_i x hx
    obtain ⟨y, hy, hq⟩ := Option.bind_eq_some_iff.1 hrun'
    cases hq
    have hps := ofPL_some hx
    subst hps
    unfold fnOf at hy
    have hbody : bodyOf fn = c := by simp [bodyOf, hb]
    rw [hbody] at hy
    obtain ⟨e, s1, h1, h2⟩ := ev_sound hE hD hlB hlO k c _ _ y hy
    refine calls_of_wp hf hb (h2 F G _ w _ (start_holds hH) fun G1 a1 w1 ex k0 k1 k2 k3 => ?_)
    have fin : ∀ (hfin : finish C fn.results kout s1 = some y), ∃ v, (results fn a1.tmps).run C.P w1 = .ok v w1 ∧ ∃ G' rv, Ending.returned v = .returned (retV rv) ∧ Holds F (enc kout (szS kout) (toPL kout.tys y)) G' rv w1 ∧
        Step kin.boxes.length kin.owns.length (enc kin (szS kin) (toPL kin.tys x)) G w (enc kout (szS kout) (toPL kout.tys y)) G' w1 := fun hfin => by
      obtain ⟨rv, G', r1, r2, r3⟩ := ret_sound hnB hnO k1 k2 hfin
      exact ⟨_, r1, G', rv, rfl, r2, r3⟩
    cases e with
    | normal => cases k0; exact ⟨k3, fin h1⟩
    | ret => cases k0; exact ⟨k3, fin h1⟩
    | exit i => cases h1
    | pan t ps g => cases h1
  · cases hrun'

/-- The contract of a function that may panic, by its code. -/
theorem fnP_sound (hE : EnvOK C) (hD : DrawOK C) (k : Nat) {g : Nat} {fn : Func} {c : Code} (hf : C.P.funcs[g]? = some fn) (hname : (fn.name == "runtime.NumGoroutine") = false) (hb : fn.body = some c) (kin kout : Sk) (pt : Nat) (tp : List Ty) (pg : Bool)
    (hnB : C.npB = kin.boxes.length) (hnO : C.npO = kin.owns.length) (hlB : C.npB ≤ N0) (hlO : C.npO ≤ N0) : SigOK C.P g ⟨kin, kout, mkFunP kin.tys kout.tys pt tp pg (fnOfP C k fn kin kout pt tp pg)⟩ := by
  refine ⟨⟨fn, hf, hname, by rw [hb]; rfl⟩, fun ps qs hrun => ?_⟩
  show CallOKP _ _ _ _ _ (pt, tp, pg) _ _
  intro F G vals w hH
  have hrun' := hrun
  simp only [mkFunP] at hrun'
  split at hrun'
  · rename_i x hx
    obtain ⟨y, hy, hq⟩ := Option.bind_eq_some_iff.1 hrun'
    have hps := ofPL_some hx
    subst hps
    unfold fnOfP at hy
    have hbody : bodyOf fn = c := by simp [bodyOf, hb]
    rw [hbody] at hy
    obtain ⟨e, s1, h1, h2⟩ := ev_sound hE hD hlB hlO k c _ _ y hy
    refine calls_of_wp hf hb (h2 F G _ w _ (start_holds hH) fun G1 a1 w1 ex k0 k1 k2 k3 => ?_)
    have fin : ∀ {z : HLs kout.tys}, y = .inl z → finish C fn.results kout s1 = some z → ∃ v, (results fn a1.tmps).run C.P w1 = .ok v w1 ∧
        ((∃ q G' rv, qs = ⟨.bool, false⟩ :: q ∧ Ending.returned v = .returned (retV rv) ∧ Holds F (enc kout (szS kout) q) G' rv w1 ∧ Step kin.boxes.length kin.owns.length (enc kin (szS kin) (toPL kin.tys x)) G w (enc kout (szS kout) q) G' w1) ∨
         (∃ q u, qs = ⟨.bool, true⟩ :: q ∧ Ending.returned v = .panicked [{ v := u, recovered := false }] ∧ PanV pt q pg u ∧ Keeps (Live (enc kin (szS kin) (toPL kin.tys x)) G) w w1)) := fun {z} hz hfin => by
      subst hz
      cases hq
      obtain ⟨rv, G', r1, r2, r3⟩ := ret_sound hnB hnO k1 k2 hfin
      exact ⟨_, r1, .inl ⟨_, G', rv, rfl, rfl, r2, r3⟩⟩
    cases e with
    | normal => cases k0; obtain ⟨z, h3, h4⟩ := Option.map_eq_some_iff.1 h1; exact ⟨k3, fin h4.symm h3⟩
    | ret => cases k0; obtain ⟨z, h3, h4⟩ := Option.map_eq_some_iff.1 h1; exact ⟨k3, fin h4.symm h3⟩
    | exit i => cases h1
    | pan t ps g =>
      obtain ⟨v, hv, rfl⟩ := k0
      simp only [retKP] at h1
      split at h1
      · rename_i ht
        simp only [Bool.and_eq_true, beq_iff_eq] at ht
        obtain ⟨rfl, rfl⟩ := ht
        obtain ⟨z, h3, rfl⟩ := Option.map_eq_some_iff.1 h1
        cases hq
        have hz := ofPL_some h3
        refine ⟨k3, .inr ⟨_, v, rfl, rfl, by rw [hz]; exact hv, ?_⟩⟩
        have e1 : Live (enc kin (szS kin) (toPL kin.tys x)) = Live { enc kin C.n (toPL kin.tys x) with slots := encAs kin.slots (toPL kin.tys x) ++ List.replicate (fn.ntmps - kin.slots.length) AV.dead } := by
          funext G k
          have b1 : ∀ b, boxAt { enc kin C.n (toPL kin.tys x) with slots := encAs kin.slots (toPL kin.tys x) ++ List.replicate (fn.ntmps - kin.slots.length) AV.dead } b = boxAt (enc kin (szS kin) (toPL kin.tys x)) b := fun b => enc_box _ _ _ _ _
          have b2 : ∀ b, ownAt { enc kin C.n (toPL kin.tys x) with slots := encAs kin.slots (toPL kin.tys x) ++ List.replicate (fn.ntmps - kin.slots.length) AV.dead } b = ownAt (enc kin (szS kin) (toPL kin.tys x)) b := fun b => enc_own _ _ _ _ _
          simp [Live, b1, b2]
        rw [e1]
        exact k2.keeps
      · cases h1
  · cases hrun'

end
end Go.Proofs.YtghmhkpgdmgepaaV
