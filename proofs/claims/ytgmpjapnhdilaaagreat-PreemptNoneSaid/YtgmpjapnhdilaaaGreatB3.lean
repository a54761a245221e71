import Derived.Test.YtgmpjapnhdilaaaGreatB2
import Derived.Orders
/-! Joined, names shortened: V23, V24, V32, V33, V34, V25, V26, V27, V28. -/
set_option linter.unusedVariables false
set_option linter.unusedSimpArgs false
namespace Go.Proofs.YtgmpjapnhdilaaaGreatV
open Go Go.RowKit
section
variable {C : Cfg} {F : Nat → Prop} {s s' : St} {G : Gm} {a : Act} {w w' : World} {vals : List Value}
theorem A5h {α : Type} (l : List (Option α)) (n i : Nat) : ((l ++ List.replicate n none)[i]?).bind id = (l[i]?).bind id := by
  rw [List.getElem?_append]
  split
  · rfl
  · rename_i h
    rw [List.getElem?_replicate, List.getElem?_eq_none (by omega)]
    split <;> rfl
theorem Avj (k : Sk) (n m : Nat) (ps : List PL) (b : Nat) : Ae (enc k n ps) b = Ae (enc k m ps) b := by
  unfold Ae enc; simp only [A5h]
theorem Acp (k : Sk) (n m : Nat) (ps : List PL) (b : Nat) : Aa (enc k n ps) b = Aa (enc k m ps) b := by
  unfold Aa enc; simp only [A5h]
theorem Avi : ∀ (ks : List SA) (ps : List PL), (B3 ks ps).length = ks.length
  | [], _ => rfl
  | k :: ks, ps => by simp [B3, Avi ks]
def resS (tmps : Array Value) : ResultVar → Sem Value
  | .tmp t => pure (tmps.getD t undef)
  | .cell a t => do loadVar t (← asAddr (tmps.getD a undef))
theorem Bi5 (h : Holds F s G a.tmps.toList w) (hu : ∀ r ∈ ([] : List Nat), True) {r : ResultVar} {v : AV} (hv : Wt C.P s r = some v) :
    ∃ u, (resS a.tmps r).run C.P w = .ok u w ∧ HA (HR F s G w) v u := by
  cases r with
  | tmp t =>
    simp only [Wt] at hv
    cases hv
    exact ⟨_, rfl, Bw h (.tmp t)⟩
  | cell b t =>
    simp only [Wt] at hv
    obtain ⟨l, h1, h2⟩ := Option.bind_eq_some_iff.1 hv
    obtain ⟨n, h3, h4⟩ := Option.bind_eq_some_iff.1 h2
    obtain ⟨ls, h5, h6⟩ := Option.bind_eq_some_iff.1 h4
    split at h6
    · rename_i hus
      obtain ⟨ad, cs, hp, hc, hcl, ha⟩ := A4l h (As h (x := .tmp b) h1) h5
      have h7 : By C.P t = true ∨ n = 1 := by
        cases hg : By C.P t with
        | true => exact .inl rfl
        | false =>
          rw [hg] at h6
          simp only [mkAV, Bool.false_eq_true, if_false] at h6
          split at h6
          · rename_i l'
            have := ha.len
            simp at this
            exact .inr (by omega)
          · cases h6
      refine ⟨_, ?_, Aod ha h6⟩
      have e : a.tmps.getD b undef = .pointer (some ad) := hp
      simp only [resS, e, asAddr, Sem.run_bind, Sem.run_pure, Result.andThen_ok]
      exact A4m h3 hc hcl h7 hus
    · cases h6
theorem A51 (h : Holds F s G a.tmps.toList w) : ∀ (rs : List ResultVar) (as : List AV), Wu C.P s rs = some as →
    ∃ us : List Value, (rs.mapM (resS a.tmps)).run C.P w = .ok us w ∧ All2 (HA (HR F s G w)) as us
  | [], as, h1 => by cases h1; exact ⟨[], rfl, .nil⟩
  | r :: rs, as, h1 => by
    simp only [Wu] at h1
    obtain ⟨v, h2, h3⟩ := Option.bind_eq_some_iff.1 h1
    obtain ⟨q, h4, rfl⟩ := Option.map_eq_some_iff.1 h3
    obtain ⟨u, h5, h6⟩ := Bi5 h (fun _ _ => trivial) h2
    obtain ⟨us, h7, h8⟩ := A51 h rs q h4
    refine ⟨u :: us, ?_, .cons h6 h8⟩
    simp only [List.mapM_cons, Sem.run_bind, h5, Result.andThen_ok, h7, Sem.run_pure]
theorem Bi6 {fn : Func} {tmps : Array Value} {us : List Value} {P : Program} {w : World} (h : (fn.results.toList.mapM (resS tmps)).run P w = .ok us w) : (results fn tmps).run P w = .ok (retV us) w := by
  have key : results fn tmps = (do let vs ← fn.results.mapM (resS tmps); pure (if h : vs.size = 1 then vs[0] else .tuple vs)) := by
    unfold results
    congr 1
  rw [key, Array.mapM_eq_mapM_toList]
  simp only [Sem.run_bind, Sem.run_map]
  rw [h]
  simp only [Result.andThen_ok, Sem.run_pure]
  congr 1
  match us with
  | [] => rfl
  | [v] => rfl
  | _ :: _ :: _ => rfl
theorem K8 {fn : Func} {kin kout : Sk} {x : HLs kin.tys} {y : HLs kout.tys} {s1 : St} {G1 : Gm} {a1 : Act} {w1 : World} (hnB : C.npB = kin.boxes.length) (hnO : C.npO = kin.owns.length)
    (k1 : Holds F s1 G1 a1.tmps.toList w1) (k2 : Step C.npB C.npO { enc kin C.n (toPL kin.tys x) with slots := B3 kin.slots (toPL kin.tys x) ++ List.replicate (fn.ntmps - kin.slots.length) AV.dead } G w s1 G1 w1)
    (hfin : finish C fn.results kout s1 = some y) : ∃ (rv : List Value) (G' : Gm), (results fn a1.tmps).run C.P w1 = .ok (retV rv) w1 ∧ Holds F (enc kout (szS kout) (toPL kout.tys y)) G' rv w1 ∧
      Step kin.boxes.length kin.owns.length (enc kin (szS kin) (toPL kin.tys x)) G w (enc kout (szS kout) (toPL kout.tys y)) G' w1 := by
  unfold finish at hfin
  obtain ⟨as, g1, g2⟩ := Option.bind_eq_some_iff.1 hfin
  obtain ⟨cc, g3, g4⟩ := Option.bind_eq_some_iff.1 g2
  split at g4
  · rename_i hfix
    obtain ⟨qs, g5, g6⟩ := Option.bind_eq_some_iff.1 g4
    obtain ⟨us, m1, m2⟩ := A51 (a := a1) k1 fn.results.toList as g1
    have hres := Bi6 (fn := fn) (tmps := a1.tmps) m1
    have h0 : Holds F { s1 with slots := as } G1 us w1 := ⟨m2, k1.box, k1.own, k1.bb, k1.bo, k1.oo, k1.nF, k1.Flt, k1.ty, k1.gl⟩
    obtain ⟨hH2, hL⟩ := Aaj h0 g3
    obtain ⟨hnB', hnO', hdis, hdisB, as', bs, os, hA, hB, hO, hs⟩ := Ii g3
    obtain ⟨hOl, hOk, hOg⟩ := Ew hO
    obtain ⟨d1, d2, d3⟩ := Mn g5 (szS kout)
    rw [← F6 g6] at d1 d2 d3
    have hH3 := (hH2.weakF (fun j hj => .inl hj)).ext d1 d2 d3
    refine ⟨us, _, hres, hH3, ?_⟩
    simp only [Bool.and_eq_true] at hfix
    have hstep : Step C.npB C.npO s1 G1 w1 cc.s (coG G1 cc.mB cc.mO) w1 := by
      refine ⟨Keeps.refl _ _, fun j hj => .inl (hL j hj), fun b hb => ?_, fun l hl z hz => ?_, rfl⟩
      · have h1 := Awd hfix.1 hb
        simp only [coG]
        have h2 : cc.mB[b]? = some b := by
          simp only [List.getD] at h1
          cases he : cc.mB[b]? with
          | none => rw [he] at h1; simp at h1
          | some z => rw [he] at h1; simp at h1; rw [h1]
        simp [List.getD, h2]
      · rw [hs] at hz
        obtain ⟨⟨kk, hkk⟩, hor⟩ := hOg l z (F0 hz)
        have h1 := List.all_eq_true.1 hfix.2 l (List.mem_range.2 hl)
        simp only [List.getD, hkk, Option.getD_some] at h1
        rcases hor with ⟨m, f1, f2⟩ | ⟨f1, _⟩
        · rw [f1] at h1
          simp at h1
          subst h1
          exact ⟨⟨z, f2⟩, by simp [coG, List.getD, f1]⟩
        · rw [f1] at h1
          simp at h1
    have ht := k2.trans hstep
    rw [hnB, hnO] at ht
    have e1 : Live (enc kin (szS kin) (toPL kin.tys x)) = Live { enc kin C.n (toPL kin.tys x) with slots := B3 kin.slots (toPL kin.tys x) ++ List.replicate (fn.ntmps - kin.slots.length) AV.dead } := by
      funext G k
      have b1 : ∀ b, Ae { enc kin C.n (toPL kin.tys x) with slots := B3 kin.slots (toPL kin.tys x) ++ List.replicate (fn.ntmps - kin.slots.length) AV.dead } b = Ae (enc kin (szS kin) (toPL kin.tys x)) b := fun b => Avj _ _ _ _ _
      have b2 : ∀ b, Aa { enc kin C.n (toPL kin.tys x) with slots := B3 kin.slots (toPL kin.tys x) ++ List.replicate (fn.ntmps - kin.slots.length) AV.dead } b = Aa (enc kin (szS kin) (toPL kin.tys x)) b := fun b => Acp _ _ _ _ _
      simp [Live, b1, b2]
    have e2 : ∀ G, Live (enc kout (szS kout) (toPL kout.tys y)) G = Live cc.s G := by
      intro G
      funext k
      simp [Live, d2, d3]
    refine ⟨⟨ht.keeps.os, ht.keeps.tape, ht.keeps.output, ht.keeps.size, fun j hj hn => ht.keeps.block j hj (by rw [← e1]; exact hn)⟩, fun j hj => ?_, ht.gb, fun l hl z hz => ?_, ht.fx⟩
    · rw [e2] at hj
      have := ht.fresh j hj
      rw [← e1] at this
      exact this
    · obtain ⟨⟨z', hz'⟩, h9⟩ := ht.go l hl z (by rw [← d3]; exact hz)
      exact ⟨⟨z', (Acp kin C.n (szS kin) (toPL kin.tys x) l).symm.trans hz'⟩, h9⟩
  · cases g4
theorem Qc {fn : Func} {kin : Sk} {x : HLs kin.tys} (hH : Holds F (enc kin (szS kin) (toPL kin.tys x)) G vals w) : Holds F { enc kin C.n (toPL kin.tys x) with slots := B3 kin.slots (toPL kin.tys x) ++ List.replicate (fn.ntmps - kin.slots.length) AV.dead } G (vals.toArray ++ Array.replicate (fn.ntmps - vals.toArray.size) undef).toList w := by
  have hargs : vals.length = kin.slots.length := by
    have := hH.slots.len
    have e2 : (enc kin (szS kin) (toPL kin.tys x)).slots = B3 kin.slots (toPL kin.tys x) := rfl
    rw [e2, Avi] at this
    exact this.symm
  have hS : Holds F { enc kin C.n (toPL kin.tys x) with slots := B3 kin.slots (toPL kin.tys x) } G vals w := hH.ext rfl (fun b => Avj _ _ _ _ _) (fun b => Acp _ _ _ _ _)
  refine ⟨?_, hS.box, hS.own, hS.bb, hS.bo, hS.oo, hS.nF, hS.Flt, hS.ty, hS.gl⟩
  simp only [Array.toList_append, Array.toList_replicate]
  refine hS.slots.app ?_
  rw [← hargs, List.size_toArray]
  have : ∀ n : Nat, All2 (HA (HR F { enc kin C.n (toPL kin.tys x) with slots := B3 kin.slots (toPL kin.tys x) } G w)) (List.replicate n AV.dead) (List.replicate n undef) := by
    intro n
    induction n with
    | zero => exact .nil
    | succ n ih => rw [List.replicate_succ, List.replicate_succ]; exact .cons trivial ih
  exact this _
theorem Bem (hE : Bp C) (hD : Ed C) (k : Nat) {g : Nat} {fn : Func} {c : Code} (hf : C.P.funcs[g]? = some fn) (hname : (fn.name == "runtime.NumGoroutine") = false) (hb : fn.body = some c) (kin kout : Sk)
    (hnB : C.npB = kin.boxes.length) (hnO : C.npO = kin.owns.length) (hlB : C.npB ≤ N0) (hlO : C.npO ≤ N0) : Af C.P g ⟨kin, kout, Ck kin.tys kout.tys (Ac C k fn kin kout)⟩ := by
  refine ⟨⟨fn, hf, hname, by rw [hb]; rfl⟩, fun ps qs hrun => ?_⟩
  show Lj _ _ _ _ _ _
  intro F G vals w hH
  have hrun' := hrun
  simp only [Ck] at hrun'
  split at hrun'
  · rename_i x hx
    obtain ⟨y, hy, hq⟩ := Option.bind_eq_some_iff.1 hrun'
    cases hq
    have hps := F6 hx
    subst hps
    unfold Ac at hy
    have hbody : Au fn = c := by simp [Au, hb]
    rw [hbody] at hy
    obtain ⟨e, s1, h1, h2⟩ := Df hE hD hlB hlO k c _ _ y hy
    refine calls_of_wp hf hb (h2 F G _ w _ (Qc hH) fun G1 a1 w1 ex k0 k1 k2 k3 => ?_)
    have fin : ∀ (hfin : finish C fn.results kout s1 = some y), ∃ v, (results fn a1.tmps).run C.P w1 = .ok v w1 ∧ ∃ G' rv, Ending.returned v = .returned (retV rv) ∧ Holds F (enc kout (szS kout) (toPL kout.tys y)) G' rv w1 ∧
        Step kin.boxes.length kin.owns.length (enc kin (szS kin) (toPL kin.tys x)) G w (enc kout (szS kout) (toPL kout.tys y)) G' w1 := fun hfin => by
      obtain ⟨rv, G', r1, r2, r3⟩ := K8 hnB hnO k1 k2 hfin
      exact ⟨_, r1, G', rv, rfl, r2, r3⟩
    cases e with
    | normal => cases k0; exact ⟨k3, fin h1⟩
    | ret => cases k0; exact ⟨k3, fin h1⟩
    | exit i => cases h1
    | pan t ps g => cases h1
  · cases hrun'
theorem Bel (hE : Bp C) (hD : Ed C) (k : Nat) {g : Nat} {fn : Func} {c : Code} (hf : C.P.funcs[g]? = some fn) (hname : (fn.name == "runtime.NumGoroutine") = false) (hb : fn.body = some c) (kin kout k2 : Sk)
    (hnB : C.npB = kin.boxes.length) (hnO : C.npO = kin.owns.length) (hlB : C.npB ≤ N0) (hlO : C.npO ≤ N0) : Af C.P g ⟨kin, kout, F4 kin.tys kout.tys k2 (E2 C k fn kin kout k2)⟩ := by
  refine ⟨⟨fn, hf, hname, by rw [hb]; rfl⟩, fun ps qs hrun => ?_⟩
  show Aq6 _ _ _ _ _ (.two k2) _ _
  intro F G vals w hH
  have hrun' := hrun
  simp only [F4] at hrun'
  split at hrun'
  · rename_i x hx
    obtain ⟨y, hy, hq⟩ := Option.bind_eq_some_iff.1 hrun'
    have hps := F6 hx
    subst hps
    unfold E2 at hy
    have hbody : Au fn = c := by simp [Au, hb]
    rw [hbody] at hy
    obtain ⟨e, s1, h1, h2⟩ := Df hE hD hlB hlO k c _ _ y hy
    refine calls_of_wp hf hb (h2 F G _ w _ (Qc hH) fun G1 a1 w1 ex k0 k1 k2' k3 => ?_)
    have fin : (match finish C fn.results kout s1 with | some y => some (.inl y) | none => (finish C fn.results k2 s1).map .inr) = some y → ∃ v, (results fn a1.tmps).run C.P w1 = .ok v w1 ∧
        ((∃ q G' rv, qs = ⟨.bool, false⟩ :: q ∧ Ending.returned v = .returned (retV rv) ∧ Holds F (enc kout (szS kout) q) G' rv w1 ∧ Step kin.boxes.length kin.owns.length (enc kin (szS kin) (toPL kin.tys x)) G w (enc kout (szS kout) q) G' w1) ∨
         (∃ q G' rv, qs = ⟨.bool, true⟩ :: q ∧ Ending.returned v = .returned (retV rv) ∧ Holds F (enc k2 (szS k2) q) G' rv w1 ∧ Step kin.boxes.length kin.owns.length (enc kin (szS kin) (toPL kin.tys x)) G w (enc k2 (szS k2) q) G' w1)) := fun hm => by
      cases hfin : finish C fn.results kout s1 with
      | some z =>
        rw [hfin] at hm
        cases hm
        cases hq
        obtain ⟨rv, G', r1, r2, r3⟩ := K8 hnB hnO k1 k2' hfin
        exact ⟨_, r1, .inl ⟨_, G', rv, rfl, rfl, r2, r3⟩⟩
      | none =>
        rw [hfin] at hm
        obtain ⟨z, hz, rfl⟩ := Option.map_eq_some_iff.1 hm
        cases hq
        obtain ⟨rv, G', r1, r2, r3⟩ := K8 hnB hnO k1 k2' hz
        exact ⟨_, r1, .inr ⟨_, G', rv, rfl, rfl, r2, r3⟩⟩
    cases e with
    | normal => cases k0; exact ⟨k3, fin h1⟩
    | ret => cases k0; exact ⟨k3, fin h1⟩
    | exit i => cases h1
    | pan t ps g => cases h1
  · cases hrun'
end
section
variable {C : Cfg} {F : Nat → Prop} {s s' : St} {G : Gm} {a : Act} {w w' : World} {o : Oper} {v : AV} {vals : List Value}
theorem A3 {d : Nat} {v : AV} {x : Operand} (h : x ≠ .tmp d) : (s.put (some d) v).get x = s.get x := by
 cases x with
 | tmp t =>
  have hne : d ≠ t := fun e => h (by rw [e])
  simp only [St.get, St.put, List.getD, List.getElem?_set_ne hne]
 | _ => rfl
theorem Bh9 {d : Option Nat} {v : AV} {n : Nat} {l : L} : Bd (s.put d v) n l = Bd s n l := by
 unfold Bd
 cases l <;> simp
theorem Wp {d : Nat} {v : AV} : ∀ (ps : List (Nat × Operand)), (∀ x ∈ ps, x.2 ≠ .tmp d) → Bl (s.put (some d) v) ps = Bl s ps
 | [], _ => rfl
 | (i, x) :: r, h => by
  simp only [Bl]
  rw [A3 (h (i, x) (by simp)), Wp r fun y hy => h y (by simp [hy])]
theorem Afb {d : Nat} {v : AV} : ∀ (xs : List Operand), (∀ x ∈ xs, x ≠ .tmp d) → Cz (s.put (some d) v) xs = Cz s xs
 | [], _ => rfl
 | x :: r, h => by
  simp only [Cz]
  rw [A3 (h x (by simp)), Afb r fun y hy => h y (by simp [hy])]
theorem A3z {d : Nat} {v : AV} (xs : List Operand) (h : ∀ x ∈ xs, x ≠ .tmp d) : xs.map (s.put (some d) v).get = xs.map s.get := by
 apply List.map_congr_left
 intro x hx
 exact A3 (h x hx)
theorem Bir {d : Option Nat} {v : AV} {l : Nat} : Hm (s.put d v) l = Hm s l := by simp [Hm]
theorem A5b {d : Nat} {v : AV} {k : Int} {x : Option Operand} (h : ∀ y, x = some y → y ≠ .tmp d) : A4 (s.put (some d) v) k x = A4 s k x := by
 cases x with
 | none => rfl
 | some y => simp only [A4]; rw [A3 (h y rfl)]
theorem opV_put {d : Nat} {v : AV} (op : Op) (h : ∀ x ∈ op.operands, x ≠ .tmp d) : opV C.P (s.put (some d) v) op = opV C.P s op := by
 cases op with
 | move x => simp only [opV]; rw [A3 (h x (by simp [Op.operands]))]
 | assign x => simp only [opV]; rw [A3 (h x (by simp [Op.operands]))]
 | pick c x y => simp only [opV]; rw [A3 (h c (by simp [Op.operands])), A3 (h x (by simp [Op.operands])), A3 (h y (by simp [Op.operands]))]
 | build t ps =>
  simp only [opV]
  rw [Wp ps.toList fun x hx => h x.2 (by simp only [Op.operands]; exact List.mem_toArray.2 (List.mem_map.2 ⟨x, hx, rfl⟩))]
 | load t x => simp only [opV, Bh9]; rw [A3 (h x (by simp [Op.operands]))]
 | nilCheck x => simp only [opV]; rw [A3 (h x (by simp [Op.operands]))]
 | binOp op t x y t' => simp only [opV]; rw [A3 (h x (by simp [Op.operands])), A3 (h y (by simp [Op.operands]))]
 | unOp op t x => simp only [opV]; rw [A3 (h x (by simp [Op.operands]))]
 | convert t1 t2 x => simp only [opV, Bir]; rw [A3 (h x (by simp [Op.operands]))]
 | makeInterface t x => simp only [opV]; rw [A3 (h x (by simp [Op.operands]))]
 | makeFunc f x y =>
  cases f with
  | func f =>
   simp only [opV]
   rw [Afb x.toList fun z hz => h z (by simp [Op.operands]; exact .inl (Array.mem_def.2 hz)), Afb y.toList fun z hz => h z (by simp [Op.operands]; exact .inr (Array.mem_def.2 hz))]
  | _ => rfl
 | fieldAddr S x f => simp only [opV]; rw [A3 (h x (by simp [Op.operands]))]
 | field S x f => simp only [opV]; rw [A3 (h x (by simp [Op.operands]))]
 | indexAddr T x y => simp only [opV, put_ownAt]; rw [A3 (h x (by simp [Op.operands])), A3 (h y (by simp [Op.operands]))]
 | index T x y => simp only [opV]; rw [A3 (h x (by simp [Op.operands])), A3 (h y (by simp [Op.operands]))]
 | extract x i => simp only [opV]; rw [A3 (h x (by simp [Op.operands]))]
 | slice T x lo hi mx =>
  cases mx with
  | some m => rfl
  | none =>
   have h1 : ∀ k, A4 (s.put (some d) v) k lo = A4 s k lo := fun k => A5b fun y hy => h y (by subst hy; simp [Op.operands])
   have h2 : ∀ k, A4 (s.put (some d) v) k hi = A4 s k hi := fun k => A5b fun y hy => h y (by subst hy; simp [Op.operands])
   simp only [opV, h1, h2]
   rw [A3 (h x (by simp [Op.operands]))]
 | call c =>
  obtain ⟨f, as, ts⟩ := c
  cases f with
  | builtin b =>
   have hg : as.toList.map (s.put (some d) v).get = as.toList.map s.get := A3z _ fun x hx => h x (by simp [Op.operands, Call.operands]; exact Array.mem_def.2 hx)
   cases b <;> first | rfl | skip
   ·simp only [opV, put_ownAt]
    have : (as[0]?.bind fun x => Ai ((s.put (some d) v).get x)) = (as[0]?.bind fun x => Ai (s.get x)) := by
     cases he : as[0]? with
     | none => rfl
     | some x =>
      simp only [Option.bind_some]
      rw [A3 (h x (by simp [Op.operands, Call.operands]; exact Array.mem_of_getElem? he))]
    rw [this]
   ·simp only [opV, hg]
   ·simp only [opV, hg]
  | _ => rfl
 | _ => rfl
theorem Bip {d : Nat} {v : AV} (op : Op) (h : ∀ x ∈ op.operands, x ≠ .tmp d) : opVD C (s.put (some d) v) op = opVD C s op := by
 unfold opVD
 split
 ·rename_i f as ts
  have hg : as.toList.map (s.put (some d) v).get = as.toList.map s.get := A3z _ fun x hx => h x (by simp [Op.operands, Call.operands]; exact .inr (Array.mem_def.2 hx))
  rw [A3 (h f (by simp [Op.operands, Call.operands]))]
  have : ∀ (args : List AV) (l : List Sig), Cg (s.put (some d) v) args l = Cg s args l := by
   intro args l
   induction l with
   | nil => rfl
   | cons g r ih =>
    simp only [Cg]
    have e : ({ s.put (some d) v with slots := args } : St) = { s with slots := args } := rfl
    rw [e, ih]
  split
  ·rw [hg, this]
  ·rfl
 ·exact opV_put op h
theorem A9x {v : AV} {b : Bool} (h : Cd v = some b) : v = lf (pvB b) := by
 unfold Cd at h
 split at h
 ·cases h; rfl
 ·cases h
theorem Biz {g : Nat} {b : Bool} (h : Cd (s.get (.tmp g)) = some b) : s.put (some g) (lf (pvB b)) = s := by
 have h1 := A9x h
 simp only [St.get, List.getD] at h1
 cases he : s.slots[g]? with
 | none => rw [he] at h1; simp [lf] at h1
 | some x =>
  rw [he] at h1
  simp at h1
  subst h1
  obtain ⟨sl, bx, ow⟩ := s
  simp only [St.put]
  congr 1
  apply List.ext_getElem?
  intro i
  rw [List.getElem?_set]
  split
  ·rename_i e
   subst e
   split
   ·exact he.symm
   ·rename_i hl
    rw [List.getElem?_eq_none (by omega)]
  ·rfl
def Vv (C : Cfg) (o : Oper) (s : St) : Option AV := if ldOk C s o.dst o.op then (opVD C s o.op).val else none
def Vg (C : Cfg) (all : Array Oper) (o : Oper) (s : St) : Option AV :=
 match o.guard with
 | none => Vv C o s
 | some (j, want) => match (all[j]?).bind (·.dst) with
  | some g => match Cd (s.get (.tmp g)) with
   | some c => if c == want then Vv C o s else some (.tup [])
   | none => if Ky (s.get (.tmp g)) then some (.tup []) else none
  | none => none
theorem O8 {o : Oper} (h : isNo C o = true) : kk C o = .no := by
 unfold isNo at h
 split at h
 ·assumption
 ·cases h
theorem Ge {all : Array Oper} (hk : kk C o = .no) (hv : isV o.op = true) (hc : A6 o.op = true → o.dst ≠ none) : (Am (opD C) all s o).val = (Vg C all o s).map fun v => s.put o.dst v := by
 have hD : ∀ s : St, (opD C s o.dst o.op).val = (Vv C o s).map fun v => s.put o.dst v := by
  intro s
  have hk' : kkd C o.dst o.op = .no := hk
  unfold opD Vv
  rw [hk']
  simp only [opDn]
  rw [if_pos hv, if_neg]
  ·split
   ·rw [Oc.val_bind]
    cases (opVD C s o.op).val <;> rfl
   ·rfl
  ·intro e
   simp only [Bool.and_eq_true, Option.isNone_iff_eq_none] at e
   exact hc e.1 e.2
 unfold Am Vg
 cases hg : o.guard with
 | none => exact hD s
 | some jw =>
  obtain ⟨j, want⟩ := jw
  simp only []
  cases hj : (all[j]?).bind (·.dst) with
  | none => rfl
  | some g =>
   simp only []
   cases hb : Cd (s.get (.tmp g)) with
   | none => cases Ky (s.get (.tmp g)) <;> rfl
   | some c =>
    have hs : s.put (some g) (lf (pvB c)) = s := Biz hb
    cases want <;> cases c <;> simp only [Oc.val, if_true, if_false, cond_true, cond_false, Bool.false_eq_true, beq_self_eq_true, Option.map_some]
    ·rw [hs]; exact hD s
    ·rw [hs]; rfl
    ·rw [hs]; rfl
    ·rw [hs]; exact hD s
theorem Bh3 {d : Nat} {v : AV} {dst : Option Nat} (op : Op) (h : ∀ x ∈ op.operands, x ≠ .tmp d) : ldOk C (s.put (some d) v) dst op = ldOk C s dst op := by
 cases op with
 | load t a => unfold ldOk; cases dst <;> simp only []; rw [A3 (h a (by simp [Op.operands]))]
 | nilCheck a => unfold ldOk; cases dst <;> simp only []; rw [A3 (h a (by simp [Op.operands]))]
 | fieldAddr S a f => unfold ldOk; cases dst <;> simp only []; rw [A3 (h a (by simp [Op.operands]))]
 | _ => rfl
theorem Aq9 {all : Array Oper} {d : Nat} {v : AV} (h : d ∉ o.looksAt all) : Vg C all o (s.put (some d) v) = Vg C all o s := by
 have h1 : ∀ x ∈ o.op.operands, x ≠ .tmp d := by
  intro x hx e
  subst e
  exact h (List.mem_append_left _ (List.mem_filterMap.2 ⟨.tmp d, by simpa using hx, rfl⟩))
 have h2 : Vv C o (s.put (some d) v) = Vv C o s := by
  unfold Vv
  rw [Bip _ h1, Bh3 _ h1]
 unfold Vg
 split
 ·rw [h2]
 ·rename_i j want hg
  split
  ·rename_i g hj
   have hne : d ≠ g := by
    rintro rfl
    exact h (List.mem_append_right _ (by simp [hg, hj]))
   rw [A3 (x := .tmp g) (fun e => hne (by injection e with e; exact e.symm))]
   split
   ·rw [h2]
   ·rfl
  ·rfl
theorem F8 {x y : Option Nat} {u v : AV} (h : ∀ d, x = some d → y ≠ some d) : (s.put x u).put y v = (s.put y v).put x u := by
 cases x with
 | none => rfl
 | some d =>
  cases y with
  | none => rfl
  | some e =>
   have hne : d ≠ e := fun he => h d rfl (by rw [he])
   simp only [St.put]
   rw [List.set_comm _ _ hne]
theorem Bjq {all : Array Oper} {x y : Oper} (kx : kk C x = .no) (ky : kk C y = .no) (hx : isV x.op = true) (hy : isV y.op = true) (hcx : A6 x.op = true → x.dst ≠ none) (hcy : A6 y.op = true → y.dst ≠ none) (hap : x.apart all y = true) {s1 s2 : St}
  (h1 : (Am (opD C) all s x).val = some s1) (h2 : (Am (opD C) all s1 y).val = some s2) : ∃ s3, (Am (opD C) all s y).val = some s3 ∧ (Am (opD C) all s3 x).val = some s2 := by
 obtain ⟨a1, a2, a3⟩ := Oper.apart_spec hap
 rw [Ge kx hx hcx] at h1
 rw [Ge ky hy hcy] at h2
 obtain ⟨u, hu, rfl⟩ := Option.map_eq_some_iff.1 h1
 obtain ⟨v, hv, rfl⟩ := Option.map_eq_some_iff.1 h2
 have e1 : Vg C all y (s.put x.dst u) = Vg C all y s := by
  cases hd : x.dst with
  | none => rfl
  | some d => exact Aq9 (a1 d hd)
 rw [e1] at hv
 have e2 : Vg C all x (s.put y.dst v) = Vg C all x s := by
  cases hd : y.dst with
  | none => rfl
  | some d => exact Aq9 (a3 d hd)
 refine ⟨s.put y.dst v, by rw [Ge ky hy hcy, hv]; rfl, ?_⟩
 rw [Ge kx hx hcx, e2, hu, Option.map_some, F8 a2]
theorem Q5 {d : Nat} {args : List AV} : ∀ (sgs : List Sig), (Cg s args sgs).val = some v → (Dt s d args sgs).val = some (s.put (some d) v)
 | [], h => by cases h
 | g :: r, h => by
  simp only [Cg] at h
  simp only [Dt]
  split at h
  ·rename_i hpan
   rw [if_pos hpan]
   exact Q5 r h
  rename_i hpan
  rw [if_neg hpan]
  split at h
  ·rename_i c hc
   split at h
   ·rename_i ps hps
    simp only [Oc.val] at h ⊢
    obtain ⟨q, hq, h2⟩ := Option.bind_eq_some_iff.1 h
    rw [Oc.val_ofOption] at h2
    rw [hq]
    simp only [Option.bind_some, Oc.val_ofOption]
    unfold backV at h2
    split at h2
    ·rename_i hcond
     simp only [Bool.and_eq_true, List.isEmpty_iff] at hcond
     obtain ⟨⟨⟨⟨c1, c2⟩, c3⟩, c4⟩, c5⟩ := hcond
     obtain ⟨hnB, hnO, hdis, hdisB, as, bs, os, hA, hB, hO, hs⟩ := Ii hc
     obtain ⟨hBl, hBk, hBg⟩ := Mb hB
     obtain ⟨hOl, hOk, hOg⟩ := Ew hO
     have m1 : c.mB = [] := by rw [c1] at hBk; simpa using hBk.symm
     have m2 : c.mO = [] := by rw [c2] at hOk; simpa using hOk.symm
     unfold back
     simp only [m1, m2, c3, c4, List.map_nil, List.length_nil, Nat.sub_self, List.replicate_zero, List.append_nil, Cf]
     have hfl : (c.bx.isEmpty = true ∧ c.br.isEmpty = true) ∨ Bj (enc g.kout (max 0 0) q) = true := by
      simp only [Bool.or_eq_true, Bool.and_eq_true] at c5
      rcases c5 with c5 | c5
      ·exact .inl ⟨c5.2, c5.1⟩
      ·rw [c3, c4] at c5; exact .inr c5
     rw [if_neg, if_pos]
     ·unfold Cl
      simp only [chkB, chkO, chkT, Bz, Bool.and_self, if_true, B7, Bv]
      rw [c3, c4] at h2
      simp only [List.length_nil] at h2
      rw [h2]
      rfl
     ·rcases hfl with ⟨f1, f2⟩ | f1
      ·rw [f2]; rfl
      ·rw [f1]; simp
     ·rcases hfl with ⟨f1, f2⟩ | f1
      ·rw [f1]; simp
      ·rw [f1]; simp
    ·cases h2
   ·exact Q5 r h
  ·exact Q5 r h
theorem fok_Dn (hE : Bp C) : FOK C (opDn C) := by
 intro F s s' G a w o h hv
 unfold opDn at hv
 split at hv
 ·rename_i hV
  split at hv
  ·cases hv
  ·rename_i hnc
   split at hv
   rotate_left
   ·cases hv
   cases hcall : A6 o.op with
   | false =>
    have e : opVD C s o.op = opV C.P s o.op := by
     unfold opVD
     split
     ·rename_i f as ts ho
      rw [ho] at hcall
      cases hcall
     ·rfl
    rw [e] at hv
    exact Mp h hv
   | true =>
    rw [hcall] at hnc
    cases hd : o.dst with
    | none => rw [hd] at hnc; exact absurd rfl hnc
    | some d =>
     unfold A6 at hcall
     split at hcall
     ·rename_i f as ts ho
      rw [ho] at hv
      rw [hd] at hv
      simp only [opVD] at hv
      split at hv
      ·rename_i g first caps hl
       rw [Oc.val_bind] at hv
       obtain ⟨v, h1, h2⟩ := Option.bind_eq_some_iff.1 hv
       cases h2
       exact Acn h (fun sg hs => hE g sg (List.mem_filter.1 hs).1) ho hd hl (Q5 _ h1)
      ·cases hv
     ·cases hcall
 ·exact Hk hE h hv
theorem Art {c : Co} {o : St} {d nb no : Nat} {W : (List Nat × List Nat) × (List Nat × List Nat)} (h : Qy s c o d nb no W = some s') :
  back s c o d nb no = some s' ∧ (c.br.isEmpty || Bj o) = true ∧ okK s.slots.length d (c.mB.map some ++ List.replicate (nb - c.mB.length) none) W.1.1 W.2.1 = true ∧ okK s.slots.length d (c.mO ++ List.replicate (no - c.mO.length) none) W.1.2 W.2.2 = true := by
 unfold Qy at h
 split at h
 ·rename_i hc
  simp only [Bool.and_eq_true] at hc
  exact ⟨h, hc.1, hc.2.1, hc.2.2⟩
 ·cases h
theorem Q2 {d : Nat} {args : List AV} {W : (List Nat × List Nat) × (List Nat × List Nat)} : ∀ (sgs : List Sig), (Cm s d args W sgs).val = some s' → (Dt s d args sgs).val = some s'
 | [], h => by cases h
 | g :: r, h => by
  simp only [Cm] at h
  simp only [Dt]
  split at h
  ·rename_i hpan
   rw [if_pos hpan]
   exact Q2 r h
  rename_i hpan
  rw [if_neg hpan]
  split at h
  ·rename_i c hc
   split at h
   ·rename_i ps hps
    simp only [Oc.val] at h ⊢
    obtain ⟨q, hq, h2⟩ := Option.bind_eq_some_iff.1 h
    rw [Oc.val_ofOption] at h2
    rw [hq]
    simp only [Option.bind_some, Oc.val_ofOption]
    exact (Art h2).1
   ·exact Q2 r h
  ·exact Q2 r h
theorem fok_D (hE : Bp C) : FOK C (opD C) := by
 intro F s s' G a w o h hv
 unfold opD at hv
 split at hv
 ·exact fok_Dn hE _ _ _ _ _ _ o h hv
 ·cases hd : o.dst with
  | none => rw [hd] at hv; unfold opK2 at hv; split at hv <;> first | (cases hv; done) | (rename_i h2; cases h2)
  | some d =>
   rw [hd] at hv
   unfold opK2 at hv
   split at hv
   ·rename_i f as ts d' ho hd'
    cases hd'
    split at hv
    ·rename_i g first caps W hl hW
     exact Acn h (fun sg hs => hE g sg hs) ho hd hl (Q2 _ hv)
    ·cases hv
   ·cases hv
 ·rename_i hk
  have hdn : o.dst = none := by
   unfold kkd at hk
   split at hk <;> first | rfl | assumption | (cases hk; done) | (split at hk <;> cases hk)
  unfold opK3 at hv
  split at hv
  ·rename_i t n x ho
   split at hv
   ·split at hv
    ·rw [← ho, ← hdn] at hv
     exact Hk hE h hv
    ·cases hv
   ·cases hv
  ·cases hv
 ·unfold opK4 at hv
  split at hv
  ·rename_i t d ho hd
   split at hv
   ·cases hv
   ·rename_i hbl
    split at hv
    ·rename_i ls hz
     refine Ave (bl := C.bl) h ho hd hz ?_
     obtain ⟨h1, h2⟩ := Gl hv
     unfold Gk
     rw [Oc.val_bind, hv]
     simp only [Option.bind_some, Oc.val]
     unfold K4
     rw [if_neg hbl]
    ·cases hv
  ·cases hv
 ·exact Hk hE h hv
 ·exact Hk hE h hv
 ·split at hv
  ·rename_i t len ps d ho hd
   exact Avg h ho hd hv
  ·cases hv
end
def fD (D : Nat → Bool) (q : Nat → Option PL) : L → L
 | .own l => if D l then (match q l with | some p => .pv p | none => .dead) else .own l
 | .ept l i o z => if D l then .dead else .ept l i o z
 | .rro i m l => if D l then .dead else .rro i m l
 | .rrp l => if D l then .dead else .rrp l
 | l => l
structure GM (s t : St) (D : Nat → Bool) (q : Nat → Option PL) : Prop where
 slots : t.slots = s.slots.map (AV.map (fD D q))
 boxes : t.boxes = s.boxes.map (Option.map (List.map (fD D q)))
 owns : ∀ l, D l = false → Aa t l = Aa s l
def Nat1 (g : St → St) : Prop := ∀ s, ∃ D q, GM s (g s) D q ∧ ∀ d v, g (s.put (some d) v) = (g s).put (some d) (v.map (fD D q))
theorem A4r {f : L → L} (h : ∀ l, f l = l) (v : AV) : v.map f = v := by
 have : f = id := funext h
 subst this
 have hc : ∀ c : CV, c.map id = c := by intro c; cases c <;> simp [CV.map]
 cases v with
 | dead => rfl
 | cv c => simp [AV.map, hc]
 | tup cs => simp only [AV.map]; congr 1; exact (List.map_congr_left fun c _ => hc c).trans (List.map_id _)
theorem Acs (q : Nat → Option PL) (l : L) : fD (fun _ => false) q l = l := by cases l <;> rfl
theorem Aoe : Nat1 id := fun s => ⟨fun _ => false, fun _ => none, ⟨by
  rw [show AV.map (fD (fun _ => false) fun _ => none) = id from funext fun v => A4r (Acs _) v, List.map_id]; rfl, by
  have : (fD (fun _ => false) fun _ => none) = id := funext (Acs _)
  rw [this, List.map_id_fun, Option.map_id_fun, List.map_id_fun]; rfl, fun l _ => rfl⟩, fun d v => by rw [A4r (Acs _)]; rfl⟩
theorem Pn {s : St} {n l : Nat} {o : Option Own} (h : l ≠ n) : Aa (Al s n o) l = Aa s l := by
 simp only [Aa, Al, List.getElem?_set_ne (Ne.symm h)]
theorem An6 (n : Nat) : Dm n = fD (fun l => l == n) (fun _ => none) := by
 funext l
 cases l <;> simp [Dm, fD]
theorem A4s {f : L → L} {s : St} {d : Nat} {v : AV} : (s.put (some d) v).map f = (s.map f).put (some d) (v.map f) := by
 simp only [St.map, St.put, List.map_set]
theorem Bih (n : Nat) : Nat1 (fun s => D7 s n) := fun s => ⟨fun l => l == n, fun _ => none, ⟨by rw [← An6]; rfl, by rw [← An6]; rfl, fun l hl => by
  unfold D7
  rw [Pn (by simpa using hl)]; rfl⟩, fun d v => by
  rw [← An6]
  show Al ((s.put (some d) v).map (Dm n)) n none = _
  rw [A4s]; rfl⟩
theorem Aij (n : Nat) (p : PL) : frzL n p = fD (fun l => l == n) (fun _ => some p) := by
 funext l
 cases l <;> simp [frzL, fD]
theorem nat_frz (n : Nat) : Nat1 (fun s => frz s n) := fun s => by
 cases hx : Aa s n with
 | none =>
  have e : ∀ d v, frz (s.put (some d) v) n = s.put (some d) v := fun d v => by unfold frz; rw [show Aa (s.put (some d) v) n = none from hx]
  have e0 : frz s n = s := by unfold frz; rw [hx]
  obtain ⟨D, q, h1, h2⟩ := Aoe s
  refine ⟨D, q, by simp only [e0]; exact h1, fun d v => ?_⟩
  simp only [e0, e]
  exact h2 d v
 | some x =>
  have e0 := Fw hx
  refine ⟨fun l => l == n, fun _ => some ⟨.slice x.t, x.xs⟩, ⟨by simp only [e0]; rw [← Aij]; rfl, by simp only [e0]; rw [← Aij]; rfl, fun l hl => by
   simp only [e0]
   rw [Pn (by simpa using hl)]; rfl⟩, fun d v => ?_⟩
  simp only [e0]
  rw [Fw (s := s.put (some d) v) hx, ← Aij, A4s]; rfl
theorem fD_comp (D1 D2 : Nat → Bool) (q1 q2 : Nat → Option PL) (l : L) : fD D2 q2 (fD D1 q1 l) = fD (fun l => D1 l || D2 l) (fun l => if D1 l then q1 l else q2 l) l := by
 cases l with
 | own l =>
  cases h1 : D1 l with
  | true => cases hq : q1 l <;> simp [fD, h1, hq]
  | false => simp [fD, h1]
 | ept l i o z =>
  cases h1 : D1 l <;> simp [fD, h1]
 | rro i m l =>
  cases h1 : D1 l <;> simp [fD, h1]
 | rrp l =>
  cases h1 : D1 l <;> simp [fD, h1]
 | _ => rfl
theorem AV.map_map (f g : L → L) (v : AV) : (v.map f).map g = v.map fun l => g (f l) := by
 have hc : ∀ c : CV, (c.map f).map g = c.map fun l => g (f l) := by intro c; cases c <;> simp [CV.map]
 cases v with
 | dead => rfl
 | cv c => simp [AV.map, hc]
 | tup cs => simp [AV.map, hc]
theorem Big {g1 g2 : St → St} (h1 : Nat1 g1) (h2 : Nat1 g2) : Nat1 (fun s => g2 (g1 s)) := fun s => by
 obtain ⟨D1, q1, a1, b1⟩ := h1 s
 obtain ⟨D2, q2, a2, b2⟩ := h2 (g1 s)
 have hf : (fun l => fD D2 q2 (fD D1 q1 l)) = fD (fun l => D1 l || D2 l) (fun l => if D1 l then q1 l else q2 l) := funext (fD_comp D1 D2 q1 q2)
 refine ⟨fun l => D1 l || D2 l, fun l => if D1 l then q1 l else q2 l, ⟨?_, ?_, fun l hl => ?_⟩, fun d v => ?_⟩
 ·rw [← hf, a2.slots, a1.slots, List.map_map]
  exact List.map_congr_left fun v _ => AV.map_map _ _ v
 ·rw [← hf, a2.boxes, a1.boxes, List.map_map]
  refine List.map_congr_left fun v _ => ?_
  cases v <;> simp
 ·simp only [Bool.or_eq_false_iff] at hl
  rw [a2.owns l hl.2, a1.owns l hl.1]
 ·show g2 (g1 (s.put (some d) v)) = _
  rw [← hf, b1, b2, AV.map_map]
theorem A4x : ∀ ms : List Nat, Nat1 (fun s => Bb s ms)
 | [] => Aoe
 | n :: r => Big (nat_frz n) (A4x r)
section
variable {C : Cfg} {s t : St} {D : Nat → Bool} {q : Nat → Option PL} {v : AV} {o : Oper}
theorem Ass (v : Value) : fD D q (A0 v) = A0 v := by unfold A0; split <;> (try split) <;> rfl
theorem gm_get (h : GM s t D q) (x : Operand) : t.get x = (s.get x).map (fD D q) := by
 cases x with
 | tmp i =>
  simp only [St.get, h.slots, List.getD_eq_getElem?_getD, List.getElem?_map]
  cases s.slots[i]? <;> rfl
 | const v =>
  simp only [St.get, Md]
  split
  ·split
   ·simp [AV.map, CV.map, Ass]
   ·rfl
  ·rfl
  ·simp [lf, AV.map, CV.map, Ass]
 | global g => rfl
 | func f => rfl
theorem Bhq (h : GM s t D q) (b : Nat) : Ae t b = (Ae s b).map (List.map (fD D q)) := by
 simp only [Ae, h.boxes, List.getElem?_map]
 cases s.boxes[b]? with
 | none => rfl
 | some x => cases x <;> rfl
theorem pvs_map (ps : List PL) : (pvs ps).map (fD D q) = pvs ps := by simp [pvs, fD]
def Fc (P : Program) (s : St) (e : Nat) (a b : L) : Option ((St → St) × Own) :=
 match Bi P e with
 | none => none
 | some t => match a with
  | .own l => match Aa s l with
   | some w => if w.e = e then
     (match asTy (.slice t) ⟨.slice w.t, w.xs⟩, Do s t b with
     | some xs, some ys => bif Cb P e (List.length xs) ys.length then some (fun s => D7 s l, ⟨e, t, List.append xs ys⟩) else none
     | _, _ => none)
    else none
   | none => none
  | .cst .sl => match Do s t b with
   | some ys => bif Cb P e 0 ys.length then some (id, ⟨e, t, ys⟩) else none
   | none => none
  | _ => none
def D9 (P : Program) (s : St) (op : Op) : Option ((St → St) × Own) :=
 match op with
 | .buildSlice t len ps => match A1 P t with
  | some e => match Bi P e, Bl s ps.toList, Bo P e with
   | some te, some q, some z => match datum s te z with
    | some x => match Ep s te q (List.replicate len x) with
     | some xs => if len * te.size ≤ 16777216 then some (fun s => Bb s (q.flatMap fun x => A7 x.2), ⟨e, te, xs⟩) else none
     | none => none
    | none => none
   | _, _, _ => none
  | none => none
 | .call { callee := .builtin .append, args := as, argTypes := ts } => match as.toList, ts.toList with
  | [a, b], [t, u] => if t = u then
    (match Ai (s.get a), Ai (s.get b), A1 P t with
    | some a, some b, some e => Fc P s e a b
    | _, _, _ => none)
   else if F2 P u then
    (match Ai (s.get a), Ai (s.get b), A1 P t with
    | some a, some (.pv ⟨.str, y⟩), some e => if Gg P e then Fc P s e a (pvL (.int .u8) y) else none
    | _, _, _ => none)
   else none
  | _, _ => none
 | _ => none
theorem A5p {P : Program} {d e : Nat} {a b : L} : (Fj P s d e a b).val = (Fc P s e a b).bind fun x => (Br (x.1 s) d x.2).val := by
 unfold Fj Fc
 cases h1 : Bi P e with
 | none => rfl
 | some t =>
  cases a with
  | own l =>
   simp only []
   cases h2 : Aa s l with
   | none => rfl
   | some w =>
    simp only []
    by_cases h3 : w.e = e
    ·rw [if_pos h3, if_pos h3]
     cases h4 : asTy (.slice t) ⟨.slice w.t, w.xs⟩ with
     | none => rfl
     | some xs =>
      cases h5 : Do s t b with
      | none => rfl
      | some ys =>
       simp only [Oc.val]
       cases Cb P e _ _ <;> rfl
    ·rw [if_neg h3, if_neg h3]; rfl
  | cst k =>
   cases k with
   | sl =>
    simp only []
    cases h5 : Do s t b with
    | none => rfl
    | some ys =>
     simp only [Oc.val]
     cases Cb P e _ _ <;> rfl
   | _ => rfl
  | _ => rfl
theorem A35 {op : Op} (h : O7 op = true) : (∃ t len ps, op = .buildSlice t len ps) ∨ ∃ as ts, op = .call { callee := .builtin .append, args := as, argTypes := ts } := by
 unfold O7 at h
 split at h
 ·exact .inl ⟨_, _, _, rfl⟩
 ·exact .inr ⟨_, _, rfl⟩
 ·cases h
theorem A5s {d : Nat} {op : Op} (h : O7 op = true) : (opE C s (some d) op).val = (D9 C.P s op).bind fun x => (Br (x.1 s) d x.2).val := by
 rcases A35 h with ⟨t, len, ps, rfl⟩ | ⟨as, ts, rfl⟩
 ·simp only [opE, D9]
  cases h1 : A1 C.P t with
  | none => rfl
  | some e =>
   simp only []
   cases h2 : Bi C.P e with
   | none => rfl
   | some te =>
    cases h3 : Bl s ps.toList with
    | none => rfl
    | some q =>
     cases h4 : Bo C.P e with
     | none => rfl
     | some z =>
      simp only []
      cases h5 : datum s te z with
      | none => rfl
      | some x =>
       simp only []
       cases h6 : Ep s te q (List.replicate len x) with
       | none => rfl
       | some xs =>
        simp only []
        by_cases h7 : len * te.size ≤ 16777216
        ·rw [if_pos h7, if_pos h7]; rfl
        ·rw [if_neg h7, if_neg h7]; rfl
 ·simp only [opE, D9]
  match as.toList, ts.toList with
  | [], _ => rfl
  | [a], _ => rfl
  | a :: b :: c :: r, _ => rfl
  | [a, b], [] => rfl
  | [a, b], [t] => rfl
  | [a, b], t :: u :: v :: r => rfl
  | [a, b], [t, u] =>
   simp only []
   by_cases h1 : t = u
   ·rw [if_pos h1, if_pos h1]
    cases h2 : Ai (s.get a) with
    | none => rfl
    | some la =>
     cases h3 : Ai (s.get b) with
     | none => rfl
     | some lb =>
      cases h4 : A1 C.P t with
      | none => rfl
      | some e => exact A5p
   ·rw [if_neg h1, if_neg h1]
    by_cases h5 : F2 C.P u = true
    ·rw [if_pos h5, if_pos h5]
     cases h2 : Ai (s.get a) with
     | none => rfl
     | some la =>
      cases h3 : Ai (s.get b) with
      | none => rfl
      | some lb =>
       cases h4 : A1 C.P t with
       | none => cases lb with
        | pv p => obtain ⟨pt, px⟩ := p; cases pt <;> rfl
        | _ => rfl
       | some e => cases lb with
        | pv p =>
         obtain ⟨pt, px⟩ := p
         cases pt with
         | str =>
          simp only []
          by_cases h6 : Gg C.P e = true
          ·rw [if_pos h6, if_pos h6]; exact A5p
          ·rw [if_neg h6, if_neg h6]; rfl
         | _ => rfl
        | _ => rfl
    ·rw [if_neg h5, if_neg h5]; rfl
theorem Biv {P : Program} {e : Nat} {a b : L} {x : (St → St) × Own} (h : Fc P s e a b = some x) : Nat1 x.1 := by
 unfold Fc at h
 repeat' split at h
 all_goals first
  | cases h
  | skip
 ·cases hb : Cb P e _ _ <;> rw [hb] at h <;> cases h
  exact Bih _
 ·cases hb : Cb P e _ _ <;> rw [hb] at h <;> cases h
  exact Aoe
theorem A5q {P : Program} {op : Op} {x : (St → St) × Own} (h : D9 P s op = some x) : Nat1 x.1 := by
 unfold D9 at h
 repeat' split at h
 all_goals first
  | (cases h; done)
  | exact Biv h
  | (cases h; exact A4x _)
  | skip
theorem Biu {e : Nat} {t : Ty} {l : L} : plOf (s.put (some e) v) t l = plOf s t l := by cases l <;> rfl
theorem A5t {e : Nat} : ∀ (ts : List Ty) (ls : List L), Fd (s.put (some e) v) ts ls = Fd s ts ls
 | [], [] => rfl
 | [], _ :: _ => rfl
 | _ :: _, [] => rfl
 | t :: ts, l :: ls => by simp only [Fd, Biu, A5t ts ls]
theorem Acj {e : Nat} {t : Ty} {ls : List L} : datum (s.put (some e) v) t ls = datum s t ls := by simp only [datum, A5t]
theorem A5k {e : Nat} {t : Ty} : ∀ (ps : List (Nat × List L)) (xs : List t.den), Ep (s.put (some e) v) t ps xs = Ep s t ps xs
 | [], _ => rfl
 | (i, ls) :: r, xs => by
  simp only [Ep, Acj]
  split
  ·congr 1; funext x; exact A5k r _
  ·rfl
theorem Biw {P : Program} {d e : Nat} {a b : L} : Fc P (s.put (some d) v) e a b = Fc P s e a b := by
 have h : ∀ (t : Ty) (b : L), Do (s.put (some d) v) t b = Do s t b := fun t b => by cases b <;> rfl
 unfold Fc
 simp only [h]
 rfl
theorem A5r {P : Program} {d : Nat} {op : Op} (hop : O7 op = true) (h : ∀ x ∈ op.operands, x ≠ .tmp d) : D9 P (s.put (some d) v) op = D9 P s op := by
 rcases A35 hop with ⟨t, len, ps, rfl⟩ | ⟨as, ts, rfl⟩
 ·simp only [D9, Acj, A5k]
  rw [Wp ps.toList fun x hx => h x.2 (by simp only [Op.operands]; exact List.mem_toArray.2 (List.mem_map.2 ⟨x, hx, rfl⟩))]
 ·simp only [D9]
  cases has : as.toList with
  | nil => rfl
  | cons a r =>
   cases r with
   | nil => rfl
   | cons b r2 =>
    cases r2 with
    | cons c r3 => rfl
    | nil =>
     have hmem : ∀ z ∈ as.toList, z ≠ .tmp d := fun z hz => h z (by simp [Op.operands, Call.operands]; exact Array.mem_def.2 hz)
     rw [has] at hmem
     have ha : a ≠ .tmp d := hmem a (by simp)
     have hb : b ≠ .tmp d := hmem b (by simp)
     cases ts.toList with
     | nil => rfl
     | cons t r4 =>
      cases r4 with
      | nil => rfl
      | cons u r5 =>
       cases r5 with
       | cons u2 r6 => rfl
       | nil => simp only [A3 ha, A3 hb, Biw]
end
structure Clo (p : L → Bool) : Prop where
 dead : p .dead = true
 pv : ∀ x, p (.pv x) = true
 cst : ∀ k, p (.cst k) = true
 rpt : ∀ l, p (.rpt l) = true
 ifc : ∀ t l g, p (.ifc t l g) = true
 err : ∀ b, p (.err b) = true
 ptr : ∀ b o o', p (.ptr b o) = true → p (.ptr b o') = true
 ept : ∀ l i o z i' o' z', p (.ept l i o z) = true → p (.ept l i' o' z') = true
 own : ∀ l i o z, p (.own l) = true → p (.ept l i o z) = true
 erp : ∀ z t ps, p (.erp z t ps) = true
 orp : ∀ z ps, p (.orp z ps) = true
 sb : ∀ b o n, p (.ptr b o) = true → p (.sb b n) = true
 sbp : ∀ b o n, p (.sb b n) = true → p (.ptr b o) = true
 ifp : ∀ t b o o', p (.ptr b o) = true → p (.ifp t b o') = true
 rro : ∀ i n l, p (.rro i n l) = true → p (.rrp l) = true
 rrp : ∀ l, p (.rrp l) = true → p (.own l) = true
 fn : ∀ f a c, (∀ x ∈ a, p (.ptr x.1 x.2) = true) → (∀ x ∈ c, p (.ptr x.1 x.2) = true) → p (.fn f a c) = true
theorem Gr (n : Nat) : Clo (L.noB n) := ⟨rfl, fun _ => rfl, fun _ => rfl, fun _ => rfl, fun _ _ _ => rfl, fun _ => rfl, fun _ _ _ h => h, fun _ _ _ _ _ _ _ _ => rfl, fun _ _ _ _ _ => rfl, fun _ _ _ => rfl, fun _ _ => rfl, fun _ _ _ h => h, fun _ _ _ h => h, fun _ _ _ _ h => h, fun _ _ _ _ => rfl, fun _ _ => rfl, fun f a c h1 h2 => by
 simp only [L.noB, Bool.and_eq_true, List.all_eq_true]
 exact ⟨h1, h2⟩⟩
theorem Gs (n : Nat) : Clo (L.noO n) := ⟨rfl, fun _ => rfl, fun _ => rfl, fun _ => rfl, fun _ _ _ => rfl, fun _ => rfl, fun _ _ _ _ => rfl, fun _ _ _ _ _ _ _ h => h, fun _ _ _ _ h => h, fun _ _ _ => rfl, fun _ _ => rfl, fun _ _ _ _ => rfl, fun _ _ _ _ => rfl, fun _ _ _ _ _ => rfl, fun _ _ _ h => h, fun _ h => h, fun _ _ _ _ _ => rfl⟩
section
variable {C : Cfg} {s s' t : St} {v : AV} {o : Oper} {p : L → Bool}
theorem Ra (hp : Clo p) (v : Value) : p (A0 v) = true := by
 unfold A0
 split <;> (try split) <;> first | exact hp.pv _ | exact hp.cst _ | exact hp.dead
theorem Eg (hp : Clo p) (h : s.all p = true) (x : Operand) : (s.get x).all p = true :=
 Y1 (Ra hp) (fun f => hp.fn f [] [] (by simp) (by simp)) h x
theorem Eh (hp : Clo p) (h : s.all p = true) {x : Operand} {l : L} (hl : Ai (s.get x) = some l) : p l = true := by
 have := Eg hp h x
 rw [A4k hl] at this
 simpa [lf, AV.all, CV.leaves] using this
theorem Asn (hp : Clo p) (h : s.all p = true) {x : Operand} {ls : List L} (hl : Cj (s.get x) = some ls) : ∀ l ∈ ls, p l = true :=
 An9 (Eg hp h x) hl
theorem Bm {l : L} (h : p l = true) : (lf l).all p = true := by simpa [lf, AV.all, CV.leaves] using h
theorem Arf {ls : List L} (h : ∀ l ∈ ls, p l = true) : AV.all p (.cv (.agg ls)) = true := by simpa [AV.all, CV.leaves, List.all_eq_true] using h
theorem Arj {agg : Bool} {ls : List L} (hm : mkAV agg ls = some v) (h : ∀ l ∈ ls, p l = true) : v.all p = true := by
 unfold mkAV at hm
 split at hm
 ·cases hm; exact Arf h
 ·split at hm
  ·cases hm; exact Bm (h _ (by simp))
  ·cases hm
theorem A9j (hp : Clo p) (h : s.all p = true) {n : Nat} {l : L} (hl0 : p l = true) {ls : List L} (hl : Bd s n l = some ls) : ∀ l' ∈ ls, p l' = true := by
 intro l' hl'
 cases l with
 | ptr b k =>
  simp only [Bd] at hl
  obtain ⟨q0, h5, h6⟩ := Option.bind_eq_some_iff.1 hl
  split at h6
  ·cases h6; exact Fi h h5 l' (List.mem_of_mem_drop (List.mem_of_mem_take hl'))
  ·cases h6
 | rpt ps =>
  simp only [Bd] at hl
  split at hl
  ·cases hl; simp only [pvs, List.mem_map] at hl'; obtain ⟨x, _, rfl⟩ := hl'; exact hp.pv _
  ·cases hl
 | ept l i k z =>
  simp only [Bd] at hl
  obtain ⟨q0, h5, h6⟩ := Option.bind_eq_some_iff.1 hl
  split at h6
  ·cases h6; simp only [pvs, List.mem_map] at hl'; obtain ⟨x, _, rfl⟩ := hl'; exact hp.pv _
  ·cases h6
 | rrp l =>
  simp only [Bd] at hl
  split at hl
  ·cases hl; rw [List.mem_singleton.1 hl']; exact hp.rrp _ hl0
  ·cases hl
 | _ => cases hl
theorem Arg (fs : Nat → Option (Nat × Nat)) : ∀ (q : List (Nat × List L)) (ls ls' : List L), Dw fs ls q = some ls' → (∀ l ∈ ls, p l = true) → (∀ x ∈ q, ∀ l ∈ x.2, p l = true) → ∀ l ∈ ls', p l = true
 | [], ls, ls', h, h1, h2 => by cases h; exact h1
 | (i, new) :: r, ls, ls', h, h1, h2 => by
  simp only [Dw] at h
  obtain ⟨x, h3, h4⟩ := Option.bind_eq_some_iff.1 h
  split at h4
  ·refine Arg fs r _ ls' h4 (fun l hl => ?_) fun x hx => h2 x (by simp [hx])
   simp only [splice, List.mem_append] at hl
   rcases hl with (hl | hl) | hl
   ·exact h1 l (List.mem_of_mem_take hl)
   ·exact h2 (i, new) (by simp) l hl
   ·exact h1 l (List.mem_of_mem_drop hl)
  ·cases h4
theorem Y4 (hp : Clo p) (h : s.all p = true) : ∀ (ps : List (Nat × Operand)) (q : List (Nat × List L)), Bl s ps = some q → ∀ x ∈ q, ∀ l ∈ x.2, p l = true
 | [], q, hq => by cases hq; simp
 | (i, x) :: r, q, hq => by
  simp only [Bl] at hq
  obtain ⟨ls, h1, h2⟩ := Option.bind_eq_some_iff.1 hq
  obtain ⟨q', h3, rfl⟩ := Option.map_eq_some_iff.1 h2
  intro y hy
  rcases List.mem_cons.1 hy with rfl | hy
  ·exact Asn hp h h1
  ·exact Y4 hp h r q' h3 y hy
theorem Y5 (hp : Clo p) (h : s.all p = true) : ∀ (xs : List Operand) (ps : List (Nat × Nat)), Cz s xs = some ps → ∀ x ∈ ps, p (.ptr x.1 x.2) = true
 | [], ps, hq => by cases hq; simp
 | x :: r, ps, hq => by
  simp only [Cz] at hq
  split at hq
  ·rename_i b o' hl
   obtain ⟨q', h3, rfl⟩ := Option.map_eq_some_iff.1 hq
   intro y hy
   rcases List.mem_cons.1 hy with rfl | hy
   ·exact Eh hp h hl
   ·exact Y5 hp h r q' h3 y hy
  ·cases hq
theorem Eo {α : Type} {x : Option α} {v : α} (h : (Oc.ofOption x).val = some v) : x = some v := by rw [Oc.val_ofOption] at h; exact h
theorem Fa {α : Type} {c : Bool} {n : Oc α} {v : α} (h : (Oc.guard c n).val = some v) : n.val = some v := by
 simp only [Oc.val] at h
 cases c
 ·cases h
 ·exact h
theorem opV_all (hp : Clo p) (h : s.all p = true) {op : Op} {P : Program} (hv : (opV P s op).val = some v) : v.all p = true := by
 have hpv : ∀ x, (lf (.pv x)).all p = true := fun x => Bm (hp.pv x)
 cases op with
 | move x => cases hv; exact Eg hp h x
 | assign x => cases hv; exact Eg hp h x
 | pick c a b =>
  simp only [opV] at hv
  split at hv
  ·rename_i c _
   simp only [Oc.val] at hv
   cases c <;> cases hv <;> exact Eg hp h _
  ·cases hv
 | build t ps =>
  simp only [opV] at hv
  split at hv
  ·rename_i z q f hz hq hf
   obtain ⟨ls, h1, rfl⟩ := Option.map_eq_some_iff.1 (Eo hv)
   refine Arf (Arg f q z ls h1 ?_ (Y4 hp h _ _ hq))
   obtain ⟨i, u, _, _, rfl, _⟩ := Ec hz
   intro l hl
   obtain ⟨u, _, rfl⟩ := List.mem_map.1 hl
   exact Ra hp u
  ·cases hv
 | load t a =>
  simp only [opV] at hv
  split at hv
  ·rename_i hlf _
   split at hv
   ·obtain ⟨ls, h1, h2⟩ := Option.bind_eq_some_iff.1 (Eo hv)
    exact Arj h2 (A9j hp h (Eh hp h hlf) h1)
   ·cases hv
  ·cases hv
 | nilCheck x =>
  simp only [opV] at hv
  split at hv <;> first | (cases hv; done) | (rename_i hl; cases hv; exact Bm (Eh hp h hl)) | (have := Fa hv; cases this; exact Bm (hp.rpt _))
 | binOp op ty x y ty2 =>
  simp only [opV] at hv
  split at hv
  ·split at hv
   ·cases hv; exact hpv _
   ·cases hv; exact hpv _
   ·rw [Oc.val_bind] at hv
    obtain ⟨r, h1, h2⟩ := Option.bind_eq_some_iff.1 hv
    cases h2
    unfold Qz at h1
    split at h1
    ·split at h1
     ·split at h1
      ·have := Fa h1; cases this; exact hpv _
      ·cases h1
     ·cases h1
    ·split at h1 <;> first | (cases h1; done) | (cases h1; exact hpv _)
  ·split at hv
   ·obtain ⟨r, _, rfl⟩ := Option.map_eq_some_iff.1 (Eo hv); exact hpv _
   ·obtain ⟨r, _, rfl⟩ := Option.map_eq_some_iff.1 (Eo hv); exact hpv _
   ·cases hv
 | unOp op ty x =>
  simp only [opV] at hv
  split at hv
  ·obtain ⟨r, _, rfl⟩ := Option.map_eq_some_iff.1 (Eo hv); exact hpv _
  ·cases hv
 | convert a b x =>
  simp only [opV] at hv
  repeat' split at hv
  all_goals first | (cases hv; done) | (cases hv; exact hpv _)
 | makeInterface t x =>
  simp only [opV] at hv
  split at hv
  ·cases hv
  ·split at hv
   ·rename_i hl
    cases hv
    have h1 := Eg hp h x
    rw [hl] at h1
    exact Bm (hp.ifp _ _ _ _ (by simpa [AV.all, CV.leaves] using h1))
   ·obtain ⟨r, _, rfl⟩ := Option.map_eq_some_iff.1 (Eo hv); exact Bm (hp.ifc _ _ _)
   ·obtain ⟨r, _, rfl⟩ := Option.map_eq_some_iff.1 (Eo hv); exact Bm (hp.ifc _ _ _)
   ·cases hv
 | makeFunc f x y =>
  cases f with
  | func f =>
   simp only [opV] at hv
   split at hv
   ·rename_i a c h1 h2
    cases hv
    exact Bm (hp.fn _ _ _ (Y5 hp h _ _ h1) (Y5 hp h _ _ h2))
   ·cases hv
  | _ => cases hv
 | fieldAddr S x f =>
  simp only [opV] at hv
  split at hv
  ·rename_i hl; cases hv; exact Bm (hp.ptr _ _ _ (Eh hp h hl))
  ·cases hv; exact Bm (hp.rpt _)
  ·rename_i hl; cases hv; exact Bm (hp.ept _ _ _ _ _ _ _ (Eh hp h hl))
  ·cases hv
 | field S x f =>
  simp only [opV] at hv
  split at hv
  ·rename_i k t ls _ hg
   split at hv
   ·split at hv
    ·refine Arj (Eo hv) fun l hl => ?_
     have := Eg hp h x
     rw [hg] at this
     simp only [AV.all, CV.leaves, List.all_eq_true] at this
     exact this l (List.mem_of_mem_drop (List.mem_of_mem_take hl))
    ·cases hv
   ·cases hv
  ·cases hv
 | indexAddr T x y =>
  simp only [opV] at hv
  split at hv
  ·rename_i hl _
   split at hv
   ·split at hv
    ·have := Fa hv; cases this; exact Bm (hp.own _ _ _ _ (Eh hp h hl))
    ·cases hv
   ·cases hv
  ·split at hv
   ·have := Fa hv; cases this; exact Bm (hp.rpt _)
   ·cases hv
  ·rename_i hl _
   split at hv
   ·have := Fa hv; cases this; exact Bm (hp.rro _ _ _ (Eh hp h hl))
   ·cases hv
  ·rename_i hl _
   split at hv
   ·have := Fa hv; cases this; exact Bm (hp.sbp _ _ _ (Eh hp h hl))
   ·cases hv
  ·rename_i hl _
   split at hv
   ·have := Fa hv; cases this; exact Bm (hp.ptr _ _ _ (Eh hp h hl))
   ·cases hv
  ·cases hv
 | index T x y =>
  simp only [opV] at hv
  split at hv
  ·have := Fa hv; cases this; exact hpv _
  ·cases hv
 | extract x i =>
  simp only [opV] at hv
  split at hv
  ·rename_i cs hg
   split at hv
   ·rename_i c hc
    cases hv
    have := Eg hp h x
    rw [hg] at this
    simp only [AV.all, List.all_eq_true] at this
    have h2 := this c (List.mem_of_getElem? hc)
    simpa [AV.all, List.all_eq_true] using h2
   ·cases hv
  ·cases hv
 | slice T x lo hi mx =>
  cases mx with
  | some m => cases hv
  | none =>
   simp only [opV] at hv
   repeat' split at hv
   all_goals first | (cases hv; done) | (have := Fa hv; cases this; exact hpv _)
 | call c =>
  obtain ⟨f, as, ts⟩ := c
  cases f with
  | builtin b =>
   cases b <;> first | (cases hv; done) | skip
   ·simp only [opV] at hv
    repeat' split at hv
    all_goals first | (cases hv; done) | (cases hv; exact hpv _)
   ·simp only [opV] at hv
    split at hv
    ·obtain ⟨r, _, rfl⟩ := Option.map_eq_some_iff.1 (Eo hv); exact hpv _
    ·cases hv
   ·simp only [opV] at hv
    split at hv
    ·obtain ⟨r, _, rfl⟩ := Option.map_eq_some_iff.1 (Eo hv); exact hpv _
    ·cases hv
  | _ => cases hv
 | _ => cases hv
theorem Ari {f : L → L} (hf : ∀ l, p l = true → p (f l) = true) {v : AV} (h : v.all p = true) : (v.map f).all p = true := by
 have hc : ∀ c : CV, c.leaves.all p = true → (c.map f).leaves.all p = true := by
  intro c h
  cases c with
  | lf l => simp [CV.leaves, CV.map] at h ⊢; exact hf l h
  | agg ls => simp [CV.leaves, CV.map] at h ⊢; exact fun l hl => hf l (h l hl)
 cases v with
 | dead => rfl
 | cv c => exact hc c h
 | tup cs =>
  simp only [AV.all, AV.map, List.all_eq_true, List.mem_map] at h ⊢
  rintro c ⟨c0, hc0, rfl⟩
  have := hc c0 (by simpa [List.all_eq_true] using h c0 hc0)
  simpa [List.all_eq_true] using this
theorem Y3 {f : L → L} (hf : ∀ l, p (f l) = true) (v : AV) : (v.map f).all p = true := by
 have hc : ∀ c : CV, (c.map f).leaves.all p = true := by
  intro c
  cases c with
  | lf l => simpa [CV.leaves, CV.map] using hf l
  | agg ls => simp [CV.leaves, CV.map]; exact fun l _ => hf l
 cases v with
 | dead => rfl
 | cv c => exact hc c
 | tup cs =>
  simp only [AV.all, AV.map, List.all_eq_true, List.mem_map]
  rintro c ⟨c0, hc0, rfl⟩
  have := hc c0
  simpa [List.all_eq_true] using this
theorem Arl {as : List AV} (h : ∀ a ∈ as, a.all p = true) (hv : Gb as = some v) : v.all p = true := by
 unfold Gb at hv
 split at hv
 ·cases hv; exact h _ (by simp)
 ·obtain ⟨cs, h1, rfl⟩ := Option.map_eq_some_iff.1 hv
  simp only [AV.all, List.all_eq_true]
  clear hv
  rename_i l hne
  clear hne
  induction as generalizing cs with
  | nil => cases h1; simp
  | cons a as ih =>
   simp only [List.foldr_cons] at h1
   split at h1
   ·rename_i c
    obtain ⟨q, h2, rfl⟩ := Option.map_eq_some_iff.1 h1
    intro x hx
    rcases List.mem_cons.1 hx with rfl | hx
    ·have := h (.cv x) (by simp); simpa [AV.all, List.all_eq_true] using this
    ·exact ih (fun b hb => h b (by simp [hb])) q h2 x hx
   ·cases h1
theorem Ark (hp : Clo p) {o : St} {rB rO : List Nat} (hB : ∀ b ∈ rB, ∀ k, p (.ptr b k) = true) (hb2 : ∀ b ∈ rB, ∀ t z, p (.bld b t z) = true) (hO : ∀ l ∈ rO, p (.own l) = true) (l : L) : p (renL o rB rO l) = true := by
 have hps : ∀ (a a' : List (Nat × Nat)), Hr rB a = some a' → ∀ x ∈ a', p (.ptr x.1 x.2) = true := by
  intro a
  induction a with
  | nil => intro a' h; cases h; simp
  | cons y r ih =>
   intro a' h
   simp only [Hr] at h
   obtain ⟨b, h1, h2⟩ := Option.bind_eq_some_iff.1 h
   obtain ⟨q, h3, rfl⟩ := Option.map_eq_some_iff.1 h2
   intro x hx
   rcases List.mem_cons.1 hx with rfl | hx
   ·exact hB b (List.mem_of_getElem? h1) _
   ·exact ih q h3 x hx
 cases l with
 | ptr b k =>
  simp only [renL]
  split
  ·rename_i h1; exact hB _ (List.mem_of_getElem? h1) _
  ·exact hp.dead
 | own l =>
  simp only [renL]
  split
  ·rename_i h1; exact hO _ (List.mem_of_getElem? h1)
  ·exact hp.dead
 | ept l i k z =>
  simp only [renL]
  split
  ·rename_i h1; exact hp.own _ _ _ _ (hO _ (List.mem_of_getElem? h1))
  ·exact hp.dead
 | fn f a c =>
  simp only [renL]
  split
  ·rename_i h1 h2; exact hp.fn _ _ _ (hps _ _ h1) (hps _ _ h2)
  ·exact hp.dead
 | bld b t z =>
  simp only [renL]
  split
  ·rename_i h1; exact hb2 _ (List.mem_of_getElem? h1) _ _
  ·exact hp.dead
 | sb b n =>
  simp only [renL]
  split
  ·rename_i h1; exact hp.sb _ 0 _ (hB _ (List.mem_of_getElem? h1) 0)
  ·exact hp.dead
 | ifp t b k =>
  simp only [renL]
  split
  ·rename_i h1; exact hp.ifp _ _ 0 _ (hB _ (List.mem_of_getElem? h1) 0)
  ·exact hp.dead
 | erp z t ps => exact hp.erp _ _ _
 | orp z ps => exact hp.orp _ _
 | rro i n l => exact hp.dead
 | rrp l => exact hp.dead
 | dead => exact hp.dead
 | pv x => exact hp.pv x
 | cst k => exact hp.cst k
 | rpt l => exact hp.rpt l
 | ifc t l g => exact hp.ifc _ _ _
 | err b => exact hp.err b
theorem Q4 (hp : Clo p) {args : List AV} : ∀ (sgs : List Sig), (Cg s args sgs).val = some v → v.all p = true
 | [], h => by cases h
 | g :: r, h => by
  simp only [Cg] at h
  split at h
  ·exact Q4 hp r h
  split at h
  ·split at h
   ·simp only [Oc.val] at h
    obtain ⟨q, hq, h2⟩ := Option.bind_eq_some_iff.1 h
    rw [Oc.val_ofOption] at h2
    unfold backV at h2
    split at h2
    ·refine Arl (fun a ha => ?_) h2
     obtain ⟨a0, _, rfl⟩ := List.mem_map.1 ha
     exact Y3 (fun l => Ark hp (by simp) (by simp) (by simp) l) a0
    ·cases h2
   ·exact Q4 hp r h
  ·exact Q4 hp r h
theorem Ara (hp : Clo p) (h : s.all p = true) (hv : Vv C o s = some v) : v.all p = true := by
 unfold Vv at hv
 split at hv
 ·unfold opVD at hv
  split at hv
  ·split at hv
   ·exact Q4 hp _ hv
   ·cases hv
  ·exact opV_all hp h hv
 ·cases hv
theorem Gj (hp : Clo p) (h : s.all p = true) {ops : Array Oper} (hv : Vg C ops o s = some v) : v.all p = true := by
 unfold Vg at hv
 repeat' split at hv
 all_goals first | (cases hv; done) | exact Ara hp h hv | (cases hv; rfl)
theorem Dc {d : Option Nat} (h : s.all p = true) (hv : v.all p = true) : (s.put d v).all p = true := by
 cases d with
 | none => exact h
 | some e =>
  simp only [St.all, St.put, Bool.and_eq_true, List.all_eq_true] at h ⊢
  refine ⟨fun x hx => ?_, h.2⟩
  rcases List.mem_or_eq_of_mem_set hx with h1 | h1
  ·exact h.1 x h1
  ·rw [h1]; exact hv
theorem Qp {b : Nat} {ls : List L} (h : s.all p = true) (hl : ∀ l ∈ ls, p l = true) : (At s b ls).all p = true := by
 simp only [St.all, At, Bool.and_eq_true, List.all_eq_true] at h ⊢
 refine ⟨h.1, fun x hx => ?_⟩
 rcases List.mem_or_eq_of_mem_set hx with h1 | h1
 ·exact h.2 x h1
 ·subst h1
  exact List.all_eq_true.2 hl
theorem Y6 {l : Nat} {x : Option Own} (h : s.all p = true) : (Al s l x).all p = true := h
theorem Aag (hp : Clo p) {D : Nat → Bool} {q : Nat → Option PL} {l : L} (h : p l = true) : p (fD D q l) = true := by
 cases l with
 | own m =>
  simp only [fD]
  split
  ·split
   ·exact hp.pv _
   ·exact hp.dead
  ·exact h
 | ept m i o z =>
  simp only [fD]
  split
  ·exact hp.dead
  ·exact h
 | rro i n0 m =>
  simp only [fD]
  split
  ·exact hp.dead
  ·exact h
 | rrp m =>
  simp only [fD]
  split
  ·exact hp.dead
  ·exact h
 | _ => exact h
theorem A30 (hp : Clo p) {D : Nat → Bool} {q : Nat → Option PL} (g : GM s t D q) (h : s.all p = true) : t.all p = true := by
 simp only [St.all, Bool.and_eq_true, List.all_eq_true] at h ⊢
 constructor
 ·rw [g.slots]
  intro v hv
  obtain ⟨v0, h0, rfl⟩ := List.mem_map.1 hv
  exact Ari (fun l hl => Aag hp hl) (h.1 v0 h0)
 ·rw [g.boxes]
  intro b hb
  obtain ⟨b0, h0, rfl⟩ := List.mem_map.1 hb
  have := h.2 b0 h0
  cases b0 with
  | none => rfl
  | some ls =>
   simp only [Option.map_some, List.all_map, List.all_eq_true, Function.comp] at this ⊢
   exact fun l hl => Aag hp (this l hl)
theorem Arm {o : St} {f : L → L} (hf : ∀ l, p (f l) = true) : ∀ (rB : List Nat) (i0 : Nat) {s : St}, s.all p = true → (Bv s o f i0 rB).all p = true
 | [], i0, s, h => h
 | b :: r, i0, s, h => by
  simp only [Bv]
  refine Arm hf r _ ?_
  simp only [St.all, Bool.and_eq_true, List.all_eq_true] at h ⊢
  refine ⟨h.1, fun x hx => ?_⟩
  rcases List.mem_or_eq_of_mem_set hx with h1 | h1
  ·exact h.2 x h1
  ·subst h1
   cases Ae o i0 with
   | none => rfl
   | some ls =>
    simp only [Option.map_some, List.all_eq_true, List.mem_map]
    rintro l ⟨l0, _, rfl⟩
    exact hf l0
theorem Arn {o : St} : ∀ (rO : List Nat) (i0 : Nat) {s : St}, s.all p = true → (B7 s o i0 rO).all p = true
 | [], i0, s, h => h
 | b :: r, i0, s, h => by
  simp only [B7]
  exact Arn r _ (Y6 h)
theorem Lf {a b : List Nat} (h : subN a b = true) {x : Nat} (hx : x ∈ a) : x ∈ b := by
 simpa using List.all_eq_true.1 h x hx
theorem A9p {c : Co} {o : St} {d nb no : Nat} (h : back s c o d nb no = some s') (hb : (c.br.isEmpty || Bj o) = true) :
  Cl s o d (c.mB.map some ++ List.replicate (nb - c.mB.length) none) (c.mO ++ List.replicate (no - c.mO.length) none)
   (Cf (N0 + d) s.slots.length (c.mB.map some ++ List.replicate (nb - c.mB.length) none) 0) (Cf (N0 + d) s.slots.length (c.mO ++ List.replicate (no - c.mO.length) none) 0) = some s' := by
 unfold back at h
 simp only [hb, if_true] at h
 split at h
 ·cases h
 ·exact h
theorem Aru {o : St} {d : Nat} {oB oO : List (Option Nat)} {rB rO : List Nat} (h : Cl s o d oB oO rB rO = some s') :
  (chkB s oB rB && chkO s oO rO && chkT s o 0 oO && Bz rB && Bz rO) = true ∧ ∃ v, Gb (o.slots.map (AV.map (renL o rB rO))) = some v ∧ s' = (B7 (Bv s o (renL o rB rO) 0 rB) o 0 rO).put (some d) v := by
 unfold Cl at h
 split at h
 ·rename_i hc
  obtain ⟨v, h1, h2⟩ := Option.map_eq_some_iff.1 h
  exact ⟨hc, v, h1, h2.symm⟩
 ·cases h
theorem Ls {d : Nat} {args : List AV} {W : (List Nat × List Nat) × (List Nat × List Nat)} : ∀ (sgs : List Sig), (Cm s d args W sgs).val = some s' →
  ∃ (o : St) (oB oO : List (Option Nat)), okK s.slots.length d oB W.1.1 W.2.1 = true ∧ okK s.slots.length d oO W.1.2 W.2.2 = true ∧
   Cl s o d oB oO (Cf (N0 + d) s.slots.length oB 0) (Cf (N0 + d) s.slots.length oO 0) = some s'
 | [], h => by cases h
 | g :: r, h => by
  simp only [Cm] at h
  split at h
  ·exact Ls r h
  split at h
  ·split at h
   ·simp only [Oc.val] at h
    obtain ⟨q, hq, h2⟩ := Option.bind_eq_some_iff.1 h
    rw [Oc.val_ofOption] at h2
    obtain ⟨h3, h4, h5, h6⟩ := Art h2
    exact ⟨_, _, _, h5, h6, A9p h3 h4⟩
   ·exact Ls r h
  ·exact Ls r h
theorem A90 (hp : Clo p) {d : Nat} {args : List AV} {W : (List Nat × List Nat) × (List Nat × List Nat)} {sgs : List Sig} (h : (Cm s d args W sgs).val = some s') (hs : s.all p = true)
  (hB : ∀ b ∈ W.1.1 ++ W.2.1, ∀ k, p (.ptr b k) = true) (hb2 : ∀ b ∈ W.1.1 ++ W.2.1, ∀ t z, p (.bld b t z) = true) (hO : ∀ l ∈ W.1.2 ++ W.2.2, p (.own l) = true) : s'.all p = true := by
 obtain ⟨o, oB, oO, h1, h2, h3⟩ := Ls sgs h
 obtain ⟨_, v, h4, rfl⟩ := Aru h3
 unfold okK at h1 h2
 rw [Bool.and_eq_true] at h1 h2
 have hr : ∀ l, p (renL o (Cf (N0 + d) s.slots.length oB 0) (Cf (N0 + d) s.slots.length oO 0) l) = true :=
  Ark hp (fun b hb => hB b (Lf h1.1 hb)) (fun b hb => hb2 b (Lf h1.1 hb)) (fun l hl => hO l (Lf h2.1 hl))
 exact Dc (Arn _ _ (Arm hr _ _ hs)) (Arl (fun a ha => by
  obtain ⟨a0, _, rfl⟩ := List.mem_map.1 ha
  exact Y3 hr a0) h4)
end
section
variable {C : Cfg} {s s' t : St} {v : AV} {o x y : Oper} {p : L → Bool} {ops : Array Oper}
theorem A5l : ∀ (ps : List (Nat × Operand)), (∀ x ∈ ps, t.get x.2 = s.get x.2) → Bl t ps = Bl s ps
 | [], _ => rfl
 | (i, x) :: r, h => by
  simp only [Bl]
  rw [h (i, x) (by simp), A5l r fun y hy => h y (by simp [hy])]
theorem Ae9 : ∀ (xs : List Operand), (∀ x ∈ xs, t.get x = s.get x) → Cz t xs = Cz s xs
 | [], _ => rfl
 | x :: r, h => by
  simp only [Cz]
  rw [h x (by simp), Ae9 r fun y hy => h y (by simp [hy])]
theorem A5a {k : Int} {x : Option Operand} (h : ∀ y, x = some y → t.get y = s.get y) : A4 t k x = A4 s k x := by
 cases x with
 | none => rfl
 | some y => simp only [A4]; rw [h y rfl]
theorem A45 {P : Program} (op : Op) (hnl : ∀ T a, op ≠ .load T a) (h : ∀ x ∈ op.operands, t.get x = s.get x) (ho : isR op = true ∨ ∀ l, Aa t l = Aa s l) : opV P t op = opV P s op := by
 have hown : isR op = false → ∀ l, Aa t l = Aa s l := fun e => by
  rcases ho with ho | ho
  ·rw [e] at ho; cases ho
  ·exact ho
 cases op with
 | load T a => exact absurd rfl (hnl T a)
 | move x => simp only [opV]; rw [h x (by simp [Op.operands])]
 | assign x => simp only [opV]; rw [h x (by simp [Op.operands])]
 | pick c x y => simp only [opV]; rw [h c (by simp [Op.operands]), h x (by simp [Op.operands]), h y (by simp [Op.operands])]
 | build t ps =>
  simp only [opV]
  rw [A5l ps.toList fun x hx => h x.2 (by simp only [Op.operands]; exact List.mem_toArray.2 (List.mem_map.2 ⟨x, hx, rfl⟩))]
 | nilCheck x => simp only [opV]; rw [h x (by simp [Op.operands])]
 | binOp op t x y t' => simp only [opV]; rw [h x (by simp [Op.operands]), h y (by simp [Op.operands])]
 | unOp op t x => simp only [opV]; rw [h x (by simp [Op.operands])]
 | convert t1 t2 x =>
  have hb : ∀ l, Hm t l = Hm s l := fun l => by unfold Hm; rw [hown rfl]
  simp only [opV, hb]; rw [h x (by simp [Op.operands])]
 | makeInterface t x => simp only [opV]; rw [h x (by simp [Op.operands])]
 | makeFunc f x y =>
  cases f with
  | func f =>
   simp only [opV]
   rw [Ae9 x.toList fun z hz => h z (by simp [Op.operands]; exact .inl (Array.mem_def.2 hz)), Ae9 y.toList fun z hz => h z (by simp [Op.operands]; exact .inr (Array.mem_def.2 hz))]
  | _ => rfl
 | fieldAddr S x f => simp only [opV]; rw [h x (by simp [Op.operands])]
 | field S x f => simp only [opV]; rw [h x (by simp [Op.operands])]
 | indexAddr T x y => simp only [opV, hown rfl]; rw [h x (by simp [Op.operands]), h y (by simp [Op.operands])]
 | index T x y => simp only [opV]; rw [h x (by simp [Op.operands]), h y (by simp [Op.operands])]
 | extract x i => simp only [opV]; rw [h x (by simp [Op.operands])]
 | slice T x lo hi mx =>
  cases mx with
  | some m => rfl
  | none =>
   have h1 : ∀ k, A4 t k lo = A4 s k lo := fun k => A5a fun y hy => h y (by subst hy; simp [Op.operands])
   have h2 : ∀ k, A4 t k hi = A4 s k hi := fun k => A5a fun y hy => h y (by subst hy; simp [Op.operands])
   simp only [opV, h1, h2]
   rw [h x (by simp [Op.operands])]
 | call c =>
  obtain ⟨f, as, ts⟩ := c
  cases f with
  | builtin b =>
   have hg : as.toList.map t.get = as.toList.map s.get := List.map_congr_left fun x hx => h x (by simp [Op.operands, Call.operands]; exact Array.mem_def.2 hx)
   cases b <;> first | rfl | skip
   ·simp only [opV, hown rfl]
    have : (as[0]?.bind fun x => Ai (t.get x)) = (as[0]?.bind fun x => Ai (s.get x)) := by
     cases he : as[0]? with
     | none => rfl
     | some x =>
      simp only [Option.bind_some]
      rw [h x (by simp [Op.operands, Call.operands]; exact Array.mem_of_getElem? he)]
    rw [this]
   ·simp only [opV, hg]
   ·simp only [opV, hg]
  | _ => rfl
 | _ => rfl
theorem A4j {dst : Option Nat} (op : Op) (h : ∀ x ∈ op.operands, t.get x = s.get x) : ldOk C t dst op = ldOk C s dst op := by
 cases op with
 | load T a => unfold ldOk; cases dst <;> simp only []; rw [h a (by simp [Op.operands])]
 | nilCheck a => unfold ldOk; cases dst <;> simp only []; rw [h a (by simp [Op.operands])]
 | fieldAddr S a f => unfold ldOk; cases dst <;> simp only []; rw [h a (by simp [Op.operands])]
 | _ => rfl
theorem Wi {op : Op} (h : A6 op = false) : opVD C s op = opV C.P s op := by
 unfold opVD
 split
 ·cases h
 ·rfl
theorem A9g {bs : List Nat} (hc : A6 y.op = false) (h : ∀ z ∈ y.op.operands, t.get z = s.get z) (ho : isR y.op = true ∨ (∃ T a, y.op = .load T a) ∨ ∀ l, Aa t l = Aa s l) (hr : Eb C y bs = true)
  (hb : ∀ b, b ∉ bs → Ae t b = Ae s b) : Vv C y t = Vv C y s := by
 unfold Vv
 rw [A4j _ h, Wi hc, Wi hc]
 by_cases hl : ∃ T a, y.op = .load T a
 ·obtain ⟨T, a, hop⟩ := hl
  cases hk : ldOk C s y.dst y.op with
  | false => rfl
  | true =>
   simp only [if_true]
   rw [hop] at hk h ⊢
   have hga := h a (by simp [Op.operands])
   unfold Eb at hr
   rw [hop] at hr
   cases hd : y.dst with
   | none => rw [hd] at hr; cases hr
   | some d =>
    rw [hd] at hr hk
    simp only [ldOk] at hr hk
    cases hlk : Bk C.ld d with
    | none => rw [hlk] at hr; cases hr
    | some r =>
     rw [hlk] at hr hk
     simp only [opV, hga]
     cases hlf : Ai (s.get a) with
     | none => rfl
     | some l =>
      rw [hlf] at hk
      simp only [] at hk
      have : ∀ n, Bd t n l = Bd s n l := by
       intro n
       cases l with
       | ptr b k =>
        simp only [ldL, beq_iff_eq] at hk
        subst hk
        simp only [Bd]
        rw [hb b (by simpa using hr)]
       | rpt ps => rfl
       | _ => cases hk
      cases Ay C.P T with
      | none => rfl
      | some n => simp only [this]
 ·have ho' : isR y.op = true ∨ ∀ l, Aa t l = Aa s l := by
   rcases ho with ho | ho | ho
   ·exact .inl ho
   ·exact absurd ho hl
   ·exact .inr ho
  rw [A45 y.op (fun T a e => hl ⟨T, a, e⟩) h ho']
theorem Qm {bs : List Nat} (hc : A6 y.op = false) (h : ∀ z : Operand, (∀ e, z = .tmp e → e ∈ y.looksAt ops) → t.get z = s.get z) (ho : isR y.op = true ∨ (∃ T a, y.op = .load T a) ∨ ∀ l, Aa t l = Aa s l) (hr : Eb C y bs = true)
  (hb : ∀ b, b ∉ bs → Ae t b = Ae s b) : Vg C ops y t = Vg C ops y s := by
 have h1 : Vv C y t = Vv C y s := A9g hc (fun z hz => h z fun e he => by
  subst he
  exact List.mem_append_left _ (List.mem_filterMap.2 ⟨.tmp e, by simpa using hz, rfl⟩)) ho hr hb
 unfold Vg
 split
 ·exact h1
 ·rename_i j want hg
  split
  ·rename_i g hj
   rw [h (.tmp g) (fun e he => by cases he; exact List.mem_append_right _ (by simp [hg, hj]))]
   split
   ·rw [h1]
   ·rfl
  ·rfl
theorem Vv_newB {n : Nat} (hc : A6 y.op = false) (hf : s.all (L.noB n) = true) (h : ∀ z ∈ y.op.operands, t.get z = s.get z) (ho : ∀ l, Aa t l = Aa s l) (hb : ∀ b, b ≠ n → Ae t b = Ae s b) : Vv C y t = Vv C y s := by
 unfold Vv
 rw [A4j _ h, Wi hc, Wi hc]
 by_cases hl : ∃ T a, y.op = .load T a
 ·obtain ⟨T, a, hop⟩ := hl
  rw [hop] at h ⊢
  have hga := h a (by simp [Op.operands])
  simp only [opV, hga]
  cases hlf : Ai (s.get a) with
  | none => rfl
  | some l =>
   have hln := Eh (Gr n) hf hlf
   have : ∀ m, Bd t m l = Bd s m l := by
    intro m
    cases l with
    | ptr b k => simp only [Bd]; rw [hb b (by simpa [L.noB] using hln)]
    | ept l i k z => simp only [Bd]; rw [ho]
    | _ => rfl
   cases Ay C.P T with
   | none => rfl
   | some m => simp only [this]
 ·rw [A45 y.op (fun T a e => hl ⟨T, a, e⟩) h (.inr ho)]
theorem Vg_newB {n : Nat} (hc : A6 y.op = false) (hf : s.all (L.noB n) = true) (h : ∀ z : Operand, (∀ e, z = .tmp e → e ∈ y.looksAt ops) → t.get z = s.get z) (ho : ∀ l, Aa t l = Aa s l) (hb : ∀ b, b ≠ n → Ae t b = Ae s b) : Vg C ops y t = Vg C ops y s := by
 have h1 : Vv C y t = Vv C y s := Vv_newB hc hf (fun z hz => h z fun e he => by
  subst he
  exact List.mem_append_left _ (List.mem_filterMap.2 ⟨.tmp e, by simpa using hz, rfl⟩)) ho hb
 unfold Vg
 split
 ·exact h1
 ·rename_i j want hg
  split
  ·rename_i g hj
   rw [h (.tmp g) (fun e he => by cases he; exact List.mem_append_right _ (by simp [hg, hj]))]
   split
   ·rw [h1]
   ·rfl
  ·rfl
theorem A37 {o : Oper} (h : isW o = true) : isV o.op = true ∧ (A6 o.op = true → o.dst ≠ none) := by
 simp only [isW, Bool.and_eq_true, Bool.or_eq_true, Bool.not_eq_true', Option.isSome_iff_ne_none] at h
 refine ⟨h.1, fun hc => ?_⟩
 rcases h.2 with h2 | h2
 ·rw [hc] at h2; cases h2
 ·exact h2
theorem A84 {φ : AV → AV} (ky : kk C y = .no) (hv : isV y.op = true) (hcy : A6 y.op = true → y.dst ≠ none) (H1 : ∀ v, Vg C ops y s = some v → (Am (opD C) ops (s.put y.dst v) x).val = ((Am (opD C) ops s x).val).map fun z => z.put y.dst (φ v))
  (H2 : ∀ s1, (Am (opD C) ops s x).val = some s1 → Vg C ops y s1 = (Vg C ops y s).map φ) {s1 s2 : St}
  (h1 : (Am (opD C) ops s y).val = some s1) (h2 : (Am (opD C) ops s1 x).val = some s2) : ∃ s3, (Am (opD C) ops s x).val = some s3 ∧ (Am (opD C) ops s3 y).val = some s2 := by
 rw [Ge ky hv hcy] at h1
 obtain ⟨v, hv1, rfl⟩ := Option.map_eq_some_iff.1 h1
 rw [H1 v hv1] at h2
 obtain ⟨s3, h3, rfl⟩ := Option.map_eq_some_iff.1 h2
 refine ⟨s3, h3, ?_⟩
 rw [Ge ky hv hcy, H2 s3 h3, hv1]
 rfl
theorem A85 {φ : AV → AV} (ky : kk C y = .no) (hv : isV y.op = true) (hcy : A6 y.op = true → y.dst ≠ none) (H1 : ∀ v, Vg C ops y s = some v → (Am (opD C) ops (s.put y.dst v) x).val = ((Am (opD C) ops s x).val).map fun z => z.put y.dst (φ v))
  (H2 : ∀ s1, (Am (opD C) ops s x).val = some s1 → Vg C ops y s1 = (Vg C ops y s).map φ) {s1 s2 : St}
  (h1 : (Am (opD C) ops s x).val = some s1) (h2 : (Am (opD C) ops s1 y).val = some s2) : ∃ s3, (Am (opD C) ops s y).val = some s3 ∧ (Am (opD C) ops s3 x).val = some s2 := by
 rw [Ge ky hv hcy, H2 s1 h1] at h2
 obtain ⟨u, hu, rfl⟩ := Option.map_eq_some_iff.1 h2
 obtain ⟨v, hv1, rfl⟩ := Option.map_eq_some_iff.1 hu
 refine ⟨s.put y.dst v, by rw [Ge ky hv hcy, hv1]; rfl, ?_⟩
 rw [H1 v hv1, h1]
 rfl
def FrO (C : Cfg) (o : Oper) (s : St) : Prop := (∀ n ∈ mkB C o, s.all (L.noB n) = true) ∧ ∀ n ∈ mkO C o, s.all (L.noO n) = true
theorem T3 {e n : Nat} (h : s.all (L.noB n) = true) (hv : v.all (L.noB n) = true) : Bq (s.put (some e) v) n = Bq s n := by
 unfold Bq
 rw [h, Dc h hv]
 rfl
theorem Aif {e n : Nat} (h : s.all (L.noO n) = true) (hv : v.all (L.noO n) = true) : Ch (s.put (some e) v) n = Ch s n := by
 unfold Ch
 rw [h, Dc h hv]
 rfl
theorem Zx {e : Nat} : ∀ (oB : List (Option Nat)) (rB : List Nat), (∀ n ∈ C7 oB rB, s.all (L.noB n) = true ∧ v.all (L.noB n) = true) → chkB (s.put (some e) v) oB rB = chkB s oB rB
 | [], [], _ => rfl
 | [], _ :: _, _ => rfl
 | some b :: r, [], _ => rfl
 | none :: r, [], _ => rfl
 | some b :: r, x :: q, h => by simp only [chkB]; rw [Zx r q fun n hn => h n hn]
 | none :: r, x :: q, h => by
  simp only [chkB]
  rw [Zx r q fun n hn => h n (by simp [C7, hn]), T3 (h x (by simp [C7])).1 (h x (by simp [C7])).2]
theorem Zz {e : Nat} : ∀ (oB : List (Option Nat)) (rB : List Nat), (∀ n ∈ C7 oB rB, s.all (L.noO n) = true ∧ v.all (L.noO n) = true) → chkO (s.put (some e) v) oB rB = chkO s oB rB
 | [], [], _ => rfl
 | [], _ :: _, _ => rfl
 | some b :: r, [], _ => rfl
 | none :: r, [], _ => rfl
 | some b :: r, x :: q, h => by simp only [chkO]; rw [Zz r q fun n hn => h n hn]
 | none :: r, x :: q, h => by
  simp only [chkO]
  rw [Zz r q fun n hn => h n (by simp [C7, hn]), Aif (h x (by simp [C7])).1 (h x (by simp [C7])).2]
theorem Z1 {o : St} {e : Nat} : ∀ (oO : List (Option Nat)) (i : Nat), chkT (s.put (some e) v) o i oO = chkT s o i oO
 | [], _ => rfl
 | some l :: r, i => by simp only [chkT]; rw [Z1 r]; rfl
 | none :: r, i => by simp only [chkT]; rw [Z1 r]
theorem A6h {o : St} {f : L → L} {e : Nat} : ∀ (rB : List Nat) (i : Nat) (s : St), Bv (s.put (some e) v) o f i rB = (Bv s o f i rB).put (some e) v
 | [], i, s => rfl
 | b :: r, i, s => by
  simp only [Bv]
  exact A6h r (i + 1) { s with boxes := s.boxes.set b ((Ae o i).map (List.map f)) }
theorem A6j {o : St} {e : Nat} : ∀ (rO : List Nat) (i : Nat) (s : St), B7 (s.put (some e) v) o i rO = (B7 s o i rO).put (some e) v
 | [], i, s => rfl
 | b :: r, i, s => by
  simp only [B7]
  exact A6j r (i + 1) (Al s b (Aa o i))
theorem A9n {o : St} {d e : Nat} {oB oO : List (Option Nat)} {rB rO : List Nat} (hne : e ≠ d) (hB : ∀ n ∈ C7 oB rB, s.all (L.noB n) = true ∧ v.all (L.noB n) = true) (hO : ∀ n ∈ C7 oO rO, s.all (L.noO n) = true ∧ v.all (L.noO n) = true) :
  Cl (s.put (some e) v) o d oB oO rB rO = (Cl s o d oB oO rB rO).map fun z => z.put (some e) v := by
 unfold Cl
 rw [Zx oB rB hB, Zz oO rO hO, Z1]
 split
 ·cases Gb (o.slots.map (AV.map (renL o rB rO))) with
  | none => rfl
  | some w =>
   simp only [Option.map_some]
   rw [A6h, A6j, F8 (x := some e) (y := some d) fun k h1 h2 => hne (by cases h1; cases h2; rfl)]
 ·rfl
theorem Q3 {d e : Nat} {args : List AV} {W : (List Nat × List Nat) × (List Nat × List Nat)} (hne : e ≠ d) (hB : ∀ n ∈ W.2.1, s.all (L.noB n) = true ∧ v.all (L.noB n) = true) (hO : ∀ n ∈ W.2.2, s.all (L.noO n) = true ∧ v.all (L.noO n) = true) :
  ∀ (sgs : List Sig), (Cm (s.put (some e) v) d args W sgs).val = ((Cm s d args W sgs).val).map fun z => z.put (some e) v
 | [] => rfl
 | g :: r => by
  have hs : ({ s.put (some e) v with slots := args } : St) = { s with slots := args } := rfl
  have hlen : (s.put (some e) v).slots.length = s.slots.length := by simp [St.put]
  simp only [Cm, hs]
  split
  ·exact Q3 hne hB hO r
  ·cases co g.kin { s with slots := args } (max g.kin.boxes.length g.kin.owns.length) with
   | none => exact Q3 hne hB hO r
   | some c =>
    simp only []
    cases dec g.kin c.s with
    | none => exact Q3 hne hB hO r
    | some ps =>
     simp only [Oc.val]
     cases g.f.run (List PL) ps some with
     | none => rfl
     | some q =>
      simp only [Option.bind_some, Oc.val_ofOption]
      unfold Qy
      rw [hlen]
      split
      ·rename_i hc
       simp only [Bool.and_eq_true] at hc
       unfold back
       simp only [hc.1, if_true]
       split
       ·rfl
       ·have k1 := hc.2.1
        have k2 := hc.2.2
        unfold okK at k1 k2
        rw [Bool.and_eq_true] at k1 k2
        rw [hlen]
        exact A9n hne (fun n hn => hB n (Lf k1.2 hn)) (fun n hn => hO n (Lf k2.2 hn))
      ·rfl
theorem A6f {o : St} {f : L → L} {b : Nat} : ∀ (rB : List Nat) (i : Nat) (s : St), b ∉ rB → Ae (Bv s o f i rB) b = Ae s b
 | [], i, s, h => rfl
 | c :: r, i, s, h => by
  simp only [Bv]
  rw [A6f r _ _ (by simp at h; exact h.2)]
  simp only [Ae]
  rw [List.getElem?_set_ne (by simp at h; exact fun e => h.1 e.symm)]
theorem O4 {d : Nat} {w : AV} (h : t.slots = s.slots.set d w) {z : Operand} (hz : z ≠ .tmp d) : t.get z = s.get z := by
 cases z with
 | tmp e =>
  have hne : d ≠ e := fun h => hz (by rw [h])
  simp only [St.get, h, List.getD, List.getElem?_set_ne hne]
 | _ => rfl
theorem A91 {d : Nat} {args : List AV} {W : (List Nat × List Nat) × (List Nat × List Nat)} {sgs : List Sig} (h : (Cm s d args W sgs).val = some s') :
  (∃ w, s'.slots = s.slots.set d w) ∧ ∀ b, b ∉ W.1.1 ++ W.2.1 → Ae s' b = Ae s b := by
 obtain ⟨o, oB, oO, h1, h2, h3⟩ := Ls sgs h
 obtain ⟨_, w, h4, rfl⟩ := Aru h3
 unfold okK at h1
 rw [Bool.and_eq_true] at h1
 refine ⟨⟨w, ?_⟩, fun b hb => ?_⟩
 ·show ((B7 (Bv s o _ 0 _) o 0 _).slots).set d w = _
  rw [Po.2, Wx.2]
 ·show Ae (B7 (Bv s o _ 0 _) o 0 _) b = _
  have e : ∀ u : St, Ae (B7 u o 0 (Cf (N0 + d) s.slots.length oO 0)) b = Ae u b := fun u => by
   simp only [Ae]; rw [Po.1]
  rw [e, A6f _ _ _ fun hm => hb (Lf h1.1 hm)]
theorem A4d (h : kk C x = .call) : ∃ f as ts d W, x.op = .call { callee := .value f, args := as, argTypes := ts } ∧ x.dst = some d ∧ Bk C.ef d = some W := by
 unfold kk kkd at h
 split at h
 ·rename_i f as ts d ho hd
  split at h
  ·rename_i hs
   obtain ⟨W, hW⟩ := Option.isSome_iff_exists.1 hs
   exact ⟨f, as, ts, d, W, ho, hd, hW⟩
  ·cases h
 ·split at h <;> cases h
 all_goals first | (cases h; done) | (split at h <;> cases h)
theorem A4f (h : kk C x = .store) : ∃ T n z b, x.op = .store T (.tmp n) z ∧ x.dst = none ∧ Bk C.sr n = some b := by
 unfold kk kkd at h
 split at h
 ·split at h <;> cases h
 ·rename_i T n z ho hd
  split at h
  ·rename_i hs
   obtain ⟨b, hb⟩ := Option.isSome_iff_exists.1 hs
   exact ⟨T, n, z, b, ho, hd, hb⟩
  ·cases h
 all_goals first | (cases h; done) | (split at h <;> cases h)
theorem O9 (h : kk C x = .alloc) : ∃ T d, x.op = .alloc T ∧ x.dst = some d := by
 unfold kk kkd at h
 split at h
 ·split at h <;> cases h
 ·split at h <;> cases h
 ·rename_i T d ho hd; exact ⟨T, d, ho, hd⟩
 all_goals first | (cases h; done) | (split at h <;> cases h)
theorem A4e (h : kk C x = .row) : O7 x.op = true ∧ ∃ d, x.dst = some d := by
 unfold kk kkd at h
 split at h
 ·split at h <;> cases h
 ·split at h <;> cases h
 ·cases h
 ·rename_i ho hd
  split at h
  ·cases h
  ·rw [ho]; exact ⟨rfl, _, hd⟩
 ·cases h
 ·rename_i ho hd; rw [ho]; exact ⟨rfl, _, hd⟩
 ·cases h
theorem A4c (h : kk C x = .boxr) : ∃ t len ps d, x.op = .buildSlice t len ps ∧ x.dst = some d := by
 unfold kk kkd at h
 split at h
 ·split at h <;> cases h
 ·split at h <;> cases h
 ·cases h
 ·rename_i t len ps d ho hd
  exact ⟨t, len, ps, d, ho, hd⟩
 ·cases h
 ·cases h
 ·cases h
theorem Wf {t len d : Nat} {ps : Array (Nat × Operand)} (h : kk C x = .boxr) (ho : x.op = .buildSlice t len ps) (hd : x.dst = some d) : opD C s x.dst x.op = Fl C s t len ps.toList d := by
 have h' : kkd C x.dst x.op = .boxr := h
 unfold opD; rw [h', ho, hd]
theorem Arx {t len d : Nat} {ps : List (Nat × Operand)} (h : (Fl C s t len ps d).val = some s') : ∃ e q i u ls, Bl s ps = some q ∧ Bo C.P e = some [A0 u] ∧ Dw (fun i => some (i * 1, 1)) (List.replicate len (A0 u)) q = some ls ∧
  Bq s (N0 + d) = true ∧ s' = (At s (N0 + d) ls).put (some d) (lf (.sb (N0 + d) i)) := by
 unfold Fl at h
 split at h
 ·rename_i e he
  split at h
  ·rename_i q z hq hz
   split at h
   ·rename_i ls hls
    split at h
    ·rename_i hc
     simp only [Bool.and_eq_true] at hc
     simp only [Oc.val] at h
     cases h
     obtain ⟨i, u, _, _, ez, _⟩ := Ec hz
     have : z ∈ u.cells.toList.map A0 := by rw [← ez]; simp
     obtain ⟨c, _, rfl⟩ := List.mem_map.1 this
     exact ⟨e, q, len, c, ls, hq, hz, hls, hc.1, rfl⟩
    ·cases h
   ·cases h
  ·cases h
 ·cases h
theorem Wb (h : kk C x = .mks) : ∃ t a b d, x.op = .makeSlice t a b ∧ x.dst = some d := by
 unfold kk kkd at h
 split at h
 ·split at h <;> cases h
 ·split at h <;> cases h
 ·cases h
 ·split at h <;> cases h
 ·rename_i t a b d ho hd; exact ⟨t, a, b, d, ho, hd⟩
 all_goals first | (cases h; done) | (split at h <;> cases h)
theorem Pd (h : kk C x = .mks) : opD C s x.dst x.op = opE C s x.dst x.op := by
 have h' : kkd C x.dst x.op = .mks := h
 unfold opD; rw [h']
def mksO (P : Program) (s : St) (t : Nat) (l c : Operand) : Option Own :=
 match A1 P t, int1 (s.get l), int1 (s.get c) with
 | some e, some n, some m => match Bi P e, Bo P e with
  | some te, some z => match datum s te z with
   | some x => if (decide (0 ≤ n) && decide (n = m) && decide ((B8 P e : Int) * n ≤ 140737488355328) && decide (n ≤ 9223372036854775807)) = true then some ⟨e, te, List.replicate n.toNat x⟩ else none
   | none => none
  | _, _ => none
 | _, _, _ => none
theorem Pc {t d : Nat} {l c : Operand} : (opE C s (some d) (.makeSlice t l c)).val = (mksO C.P s t l c).bind fun o => (Br s d o).val := by
 simp only [opE, mksO]
 cases A1 C.P t with
 | none => rfl
 | some e =>
  cases int1 (s.get l) with
  | none => rfl
  | some n =>
   cases int1 (s.get c) with
   | none => rfl
   | some m =>
    simp only []
    cases Bi C.P e with
    | none => rfl
    | some te =>
     cases Bo C.P e with
     | none => rfl
     | some z =>
      simp only []
      cases datum s te z with
      | none => rfl
      | some x =>
       simp only [Oc.val]
       cases (decide (0 ≤ n) && decide (n = m) && decide ((B8 C.P e : Int) * n ≤ 140737488355328) && decide (n ≤ 9223372036854775807)) <;> rfl
theorem Bif {P : Program} {t e : Nat} {v : AV} {l c : Operand} (hl : (s.put (some e) v).get l = s.get l) (hc : (s.put (some e) v).get c = s.get c) : mksO P (s.put (some e) v) t l c = mksO P s t l c := by
 simp only [mksO, hl, hc, Acj]
theorem Bg (hg : x.guard = none) : Am (opD C) ops s x = opD C s x.dst x.op := by
 unfold Am
 rw [hg]
theorem Wg (h : kk C x = .call) : opD C s x.dst x.op = opK2 C s x.dst x.op := by
 have h' : kkd C x.dst x.op = .call := h
 unfold opD; rw [h']
theorem Wh (h : kk C x = .store) : opD C s x.dst x.op = opK3 C s x.op := by
 have h' : kkd C x.dst x.op = .store := h
 unfold opD; rw [h']
theorem D8 (h : kk C x = .alloc) : opD C s x.dst x.op = opK4 C s x.dst x.op := by
 have h' : kkd C x.dst x.op = .alloc := h
 unfold opD; rw [h']
theorem A42 (h : kk C x = .row) : opD C s x.dst x.op = opE C s x.dst x.op := by
 have h' : kkd C x.dst x.op = .row := h
 unfold opD; rw [h']
theorem Pb {d : Nat} (h : d ∉ o.looksAt ops) : ∀ x ∈ o.op.operands, x ≠ .tmp d := by
 intro x hx e
 subst e
 exact h (List.mem_append_left _ (List.mem_filterMap.2 ⟨.tmp d, by simpa using hx, rfl⟩))
theorem An2 (h : ∀ d, y.dst = some d → d ∉ x.looksAt ops) : ∀ z ∈ x.op.operands, (s.put y.dst v).get z = s.get z := by
 intro z hz
 cases hd : y.dst with
 | none => rfl
 | some d => exact A3 (Pb (h d hd) z hz)
theorem Ws {v : AV} (o : Option St) : o.map (fun z => z.put none v) = o := by cases o <;> rfl
theorem h_call (hk : kk C x = .call) (hg : x.guard = none) (hfr : FrO C x s) (hc : A6 y.op = false) (hy : (isR y.op || (match y.op with | .load _ _ => true | _ => false)) = true) (hr : Eb C y (tB C x) = true)
  (a1 : ∀ d, y.dst = some d → d ∉ x.looksAt ops) (a2 : ∀ d, x.dst = some d → y.dst ≠ some d) (a3 : ∀ d, x.dst = some d → d ∉ y.looksAt ops) :
  (∀ v, Vg C ops y s = some v → (Am (opD C) ops (s.put y.dst v) x).val = ((Am (opD C) ops s x).val).map fun z => z.put y.dst (id v)) ∧
  (∀ s1, (Am (opD C) ops s x).val = some s1 → Vg C ops y s1 = (Vg C ops y s).map id) := by
 obtain ⟨f, as, ts, d, W, ho, hd, hW⟩ := A4d hk
 have hmB : mkB C x = W.2.1 := by unfold mkB; rw [hk, hd]; simp only [hW]
 have hmO : mkO C x = W.2.2 := by unfold mkO; rw [hk, hd]; simp only [hW]
 have htB : tB C x = W.1.1 ++ W.2.1 := by unfold tB; rw [hk, hd]; simp only [hW]
 unfold FrO at hfr
 rw [hmB, hmO] at hfr
 constructor
 ·intro v hv
  rw [Bg hg, Bg hg, Wg hk, Wg hk, ho, hd]
  have hgs := An2 (x := x) (y := y) (s := s) (v := v) a1
  rw [ho] at hgs
  have e1 := hgs f (by simp [Op.operands, Call.operands])
  have e2 : as.toList.map (s.put y.dst v).get = as.toList.map s.get := List.map_congr_left fun z hz => hgs z (by simp [Op.operands, Call.operands]; exact .inr (Array.mem_def.2 hz))
  simp only [opK2, e1, e2, hW]
  cases Ai (s.get f) with
  | none => rfl
  | some l =>
   cases l <;> first | rfl | skip
   simp only []
   cases hyd : y.dst with
   | none => exact (Ws _).symm
   | some e =>
    exact Q3 (fun h => a2 d hd (by rw [hyd, h])) (fun n hn => ⟨hfr.1 n hn, Gj (Gr n) (hfr.1 n hn) hv⟩) (fun n hn => ⟨hfr.2 n hn, Gj (Gs n) (hfr.2 n hn) hv⟩) _
 ·intro s1 h1
  rw [Bg hg, Wg hk, ho, hd] at h1
  simp only [opK2, hW] at h1
  rw [Option.map_id]
  split at h1
  ·rename_i hWe
   cases hWe
   obtain ⟨⟨w, h2⟩, h3⟩ := A91 h1
   refine Qm hc (fun z hz => O4 h2 fun e => a3 d hd (hz d e)) ?_ hr (fun b hb => h3 b (by rw [← htB]; exact hb))
   rcases Bool.or_eq_true _ _ ▸ hy with hy | hy
   ·exact .inl hy
   ·refine .inr (.inl ?_)
    split at hy
    ·rename_i T a e; exact ⟨T, a, e⟩
    ·cases hy
  ·cases h1
theorem Bio {T n : Nat} {z : Operand} {e : Option Nat} (hn : ∀ q ∈ (Op.store T (.tmp n) z).operands, (s.put e v).get q = s.get q) :
  (opK3 C (s.put e v) (.store T (.tmp n) z)).val = ((opK3 C s (.store T (.tmp n) z)).val).map fun u => u.put e v := by
 have g1 := hn (.tmp n) (by simp [Op.operands])
 have g2 := hn z (by simp [Op.operands])
 have hbox : ∀ b, Ae (s.put e v) b = Ae s b := fun b => by cases e <;> rfl
 simp only [opK3, g1]
 cases Bk C.sr n with
 | none => rfl
 | some b =>
  cases hl : Ai (s.get (.tmp n)) with
  | none => rfl
  | some l =>
   cases l <;> first | rfl | skip
   rename_i b' o'
   simp only []
   by_cases hb : b' = b
   ·rw [if_pos hb, if_pos hb]
    simp only [opE, g1, g2, hl]
    cases Cj (s.get z) with
    | none => rfl
    | some new =>
     cases Ay C.P T with
     | none => rfl
     | some m =>
      simp only [hbox]
      cases Ae s b' with
      | none => rfl
      | some ls =>
       simp only []
       split
       ·cases e <;> rfl
       ·rfl
   ·rw [if_neg hb, if_neg hb]; rfl
theorem A43 {T n b : Nat} {z : Operand} (hb : Bk C.sr n = some b) (h : (opK3 C s (.store T (.tmp n) z)).val = some s') :
  ∃ ls new, Cj (s.get z) = some new ∧ Ae s b = some ls ∧ ∃ k, s' = At s b (splice ls k new) := by
 simp only [opK3, hb] at h
 cases hl : Ai (s.get (.tmp n)) with
 | none => rw [hl] at h; cases h
 | some l =>
  rw [hl] at h
  cases l <;> first | (cases h; done) | skip
  rename_i b' o'
  simp only [] at h
  split at h
  ·rename_i he
   subst he
   simp only [opE, hl] at h
   cases hn : Cj (s.get z) with
   | none => rw [hn] at h; cases h
   | some new =>
    rw [hn] at h
    cases hz : Ay C.P T with
    | none => rw [hz] at h; cases h
    | some m =>
     rw [hz] at h
     simp only [] at h
     cases hx : Ae s b' with
     | none => rw [hx] at h; cases h
     | some ls =>
      rw [hx] at h
      simp only [] at h
      split at h
      ·cases h; exact ⟨ls, new, rfl, rfl, o', rfl⟩
      ·cases h
  ·cases h
theorem h_store (hk : kk C x = .store) (hg : x.guard = none) (hc : A6 y.op = false) (hr : Eb C y (match x.op with | .store _ (.tmp n) _ => (match Bk C.sr n with | some b => [b] | none => []) | _ => []) = true)
  (a1 : ∀ d, y.dst = some d → d ∉ x.looksAt ops) :
  (∀ v, Vg C ops y s = some v → (Am (opD C) ops (s.put y.dst v) x).val = ((Am (opD C) ops s x).val).map fun z => z.put y.dst (id v)) ∧
  (∀ s1, (Am (opD C) ops s x).val = some s1 → Vg C ops y s1 = (Vg C ops y s).map id) := by
 obtain ⟨T, n, z, b, ho, hd, hb⟩ := A4f hk
 constructor
 ·intro v hv
  rw [Bg hg, Bg hg, Wh hk, Wh hk, ho]
  have hgs := An2 (x := x) (y := y) (s := s) (v := v) a1
  rw [ho] at hgs
  exact Bio hgs
 ·intro s1 h1
  rw [Bg hg, Wh hk, ho] at h1
  obtain ⟨ls, new, _, _, k, rfl⟩ := A43 hb h1
  rw [Option.map_id]
  rw [ho] at hr
  simp only [hb] at hr
  refine Qm (bs := [b]) hc (fun z _ => by cases z <;> rfl) (.inr (.inr fun l => rfl)) hr fun c hcb => ?_
  simp only [Ae, At]
  rw [List.getElem?_set_ne (by simp at hcb; exact fun e => hcb e.symm)]
theorem Ard {d : Nat} {ls : List L} (h : Bq s (N0 + d) = true) : (Fg s d ls).val = some ((At s (N0 + d) ls).put (some d) (lf (.ptr (N0 + d) 0))) := by
 unfold Fg; rw [if_pos h]; rfl
theorem h_alloc (hk : kk C x = .alloc) (hg : x.guard = none) (hfr : FrO C x s) (hc : A6 y.op = false)
  (a1 : ∀ d, y.dst = some d → d ∉ x.looksAt ops) (a2 : ∀ d, x.dst = some d → y.dst ≠ some d) (a3 : ∀ d, x.dst = some d → d ∉ y.looksAt ops) :
  (∀ v, Vg C ops y s = some v → (Am (opD C) ops (s.put y.dst v) x).val = ((Am (opD C) ops s x).val).map fun z => z.put y.dst (id v)) ∧
  (∀ s1, (Am (opD C) ops s x).val = some s1 → Vg C ops y s1 = (Vg C ops y s).map id) := by
 obtain ⟨T, d, ho, hd⟩ := O9 hk
 have hmB : mkB C x = [N0 + d] := by unfold mkB; rw [hk, hd]
 have htB : tB C x = [N0 + d] := by unfold tB; rw [hk, hd]
 have hf : s.all (L.noB (N0 + d)) = true := hfr.1 _ (by rw [hmB]; simp)
 constructor
 ·intro v hv
  rw [Bg hg, Bg hg, D8 hk, D8 hk, ho, hd]
  have hvn := Gj (Gr (N0 + d)) hf hv
  simp only [opK4]
  split
  ·rfl
  ·cases Bo C.P T with
   | none => rfl
   | some ls =>
    simp only []
    cases hyd : y.dst with
    | none => exact (Ws _).symm
    | some e =>
     have hne : e ≠ d := fun h => a2 d hd (by rw [hyd, h])
     unfold Fg
     rw [T3 hf hvn]
     split
     ·simp only [Oc.val, Option.map_some]
      congr 1
      show ((At s (N0 + d) ls).put (some e) v).put (some d) _ = _
      exact F8 fun k h1 h2 => hne (by cases h1; cases h2; rfl)
     ·rfl
 ·intro s1 h1
  rw [Bg hg, D8 hk, ho, hd] at h1
  simp only [opK4] at h1
  rw [Option.map_id]
  split at h1
  ·cases h1
  ·split at h1
   ·obtain ⟨_, rfl⟩ := Gl h1
    refine Vg_newB (n := N0 + d) hc hf (fun z hz => O4 (d := d) rfl fun e => a3 d hd (hz d e)) (fun l => rfl) fun c hcb => ?_
    simp only [Ae, At, St.put]
    rw [List.getElem?_set_ne (fun e => hcb e.symm)]
   ·cases h1
theorem h_boxr (hk : kk C x = .boxr) (hg : x.guard = none) (hfr : FrO C x s) (hc : A6 y.op = false) (hr : Eb C y (tB C x) = true)
  (a1 : ∀ d, y.dst = some d → d ∉ x.looksAt ops) (a2 : ∀ d, x.dst = some d → y.dst ≠ some d) (a3 : ∀ d, x.dst = some d → d ∉ y.looksAt ops) :
  (∀ v, Vg C ops y s = some v → (Am (opD C) ops (s.put y.dst v) x).val = ((Am (opD C) ops s x).val).map fun z => z.put y.dst (id v)) ∧
  (∀ s1, (Am (opD C) ops s x).val = some s1 → Vg C ops y s1 = (Vg C ops y s).map id) := by
 obtain ⟨T, len, ps, d, ho, hd⟩ := A4c hk
 have hmB : mkB C x = [N0 + d] := by unfold mkB; rw [hk, hd]
 have htB : tB C x = [N0 + d] := by unfold tB; rw [hk, hd]
 have hf : s.all (L.noB (N0 + d)) = true := hfr.1 _ (by rw [hmB]; simp)
 constructor
 ·intro v hv
  rw [Bg hg, Bg hg, Wf hk ho hd, Wf hk ho hd]
  have hvn := Gj (Gr (N0 + d)) hf hv
  have hgs : Bl (s.put y.dst v) ps.toList = Bl s ps.toList := by
   cases hyd : y.dst with
   | none => rfl
   | some e => exact Wp ps.toList fun z hz => Pb (a1 e hyd) z.2 (by rw [ho]; simp only [Op.operands]; exact List.mem_toArray.2 (List.mem_map.2 ⟨z, hz, rfl⟩))
  unfold Fl
  rw [hgs]
  cases A1 C.P T with
  | none => rfl
  | some e0 =>
   simp only []
   cases Bl s ps.toList with
   | none => rfl
   | some q =>
    cases hz : Bo C.P e0 with
    | none => rfl
    | some zl =>
     match zl with
     | [] => rfl
     | _ :: _ :: _ => rfl
     | [z] =>
      simp only []
      cases Dw (fun i => some (i * 1, 1)) (List.replicate len z) q with
      | none => rfl
      | some ls =>
       simp only []
       cases hyd : y.dst with
       | none => exact (Ws _).symm
       | some e =>
        have hne : e ≠ d := fun h => a2 d hd (by rw [hyd, h])
        rw [T3 hf hvn]
        split
        ·simp only [Oc.val, Option.map_some]
         congr 1
         show ((At s (N0 + d) ls).put (some e) v).put (some d) _ = _
         exact F8 fun k h1 h2 => hne (by cases h1; cases h2; rfl)
        ·rfl
 ·intro s1 h1
  rw [Bg hg, Wf hk ho hd] at h1
  rw [Option.map_id]
  obtain ⟨_, _, _, _, ls, _, _, _, _, rfl⟩ := Arx h1
  refine Qm (bs := [N0 + d]) hc (fun z hz => O4 (d := d) rfl fun e => a3 d hd (hz d e)) (.inr (.inr fun l => rfl)) (by rw [← htB]; exact hr) fun c hcb => ?_
  simp only [Ae, At, St.put]
  rw [List.getElem?_set_ne (by simp at hcb; exact fun e => hcb e.symm)]
theorem An8 {f : L → L} {v : AV} : Ai (v.map f) = (Ai v).map f := by
 cases v with
 | dead => rfl
 | tup cs => rfl
 | cv c => cases c <;> rfl
theorem fD_pt {D : Nat → Bool} {q : Nat → Option PL} {l : L} : ptL (fD D q l) = ptL l ∧ ∀ r, ldL r (fD D q l) = ldL r l := by
 cases l with
 | own m => simp only [fD]; split; (split <;> exact ⟨rfl, fun _ => rfl⟩); exact ⟨rfl, fun _ => rfl⟩
 | rro i n0 m => simp only [fD]; split <;> exact ⟨rfl, fun _ => rfl⟩
 | rrp m => simp only [fD]; split <;> exact ⟨rfl, fun _ => rfl⟩
 | ept m i o z => simp only [fD]; split <;> exact ⟨rfl, fun _ => rfl⟩
 | _ => exact ⟨rfl, fun _ => rfl⟩
theorem Bie {agg : Bool} {ls : List L} {f : L → L} : mkAV agg (ls.map f) = (mkAV agg ls).map (AV.map f) := by
 unfold mkAV
 cases agg with
 | true => rfl
 | false =>
  match ls with
  | [] => rfl
  | [l] => rfl
  | l :: m :: r => rfl
theorem load_gm {D : Nat → Bool} {q : Nat → Option PL} (g : ∀ b, Ae t b = (Ae s b).map (List.map (fD D q))) {n : Nat} {l : L} (hl : ptL l = true) : Bd t n l = (Bd s n l).map (List.map (fD D q)) := by
 cases l with
 | ptr b k =>
  simp only [Bd, g]
  cases Ae s b with
  | none => rfl
  | some ls =>
   simp only [Option.map_some, Option.bind_some, List.length_map]
   split
   ·simp
   ·rfl
 | rpt ps =>
  simp only [Bd]
  split
  ·simp only [Option.map_some]; rw [pvs_map]
  ·rfl
 | _ => cases hl
theorem Vv_gm {D : Nat → Bool} {q : Nat → Option PL} (hpt : isPt C y = true) (h : ∀ z ∈ y.op.operands, t.get z = (s.get z).map (fD D q)) (g : ∀ b, Ae t b = (Ae s b).map (List.map (fD D q))) : Vv C y t = (Vv C y s).map (AV.map (fD D q)) := by
 unfold isPt at hpt
 unfold Vv
 split at hpt
 ·rename_i z d ho hd
  rw [ho] at h ⊢
  rw [hd]
  have hz := h z (by simp [Op.operands])
  simp only [ldOk, opVD, opV, hz, if_true]
  rfl
 ·rename_i z d ho hd
  rw [ho] at h ⊢
  rw [hd]
  have hz := h z (by simp [Op.operands])
  simp only [ldOk, opVD, opV, hz, if_true]
  rfl
 ·rename_i T z d ho hd
  rw [ho] at h ⊢
  rw [hd]
  have hz := h z (by simp [Op.operands])
  obtain ⟨r, hr⟩ := Option.isSome_iff_exists.1 hpt
  simp only [ldOk, opVD, opV, hz, hr, An8]
  cases Ai (s.get z) with
  | none => rfl
  | some l =>
   simp only [Option.map_some, fD_pt.2]
   by_cases hL : ldL r l = true
   rotate_left
   ·rw [if_neg hL, if_neg hL]; rfl
   ·rw [if_pos hL, if_pos hL]
    have hp : ptL l = true := by cases l <;> first | rfl | cases hL
    have hfl : fD D q l = l := by cases l <;> first | rfl | cases hL
    simp only [hfl]
    cases Ay C.P T with
    | none => rfl
    | some n =>
     simp only []
     split
     ·simp only [Oc.val_ofOption, load_gm g hp]
      cases Bd s n l with
      | none => rfl
      | some ls => simp only [Option.map_some, Option.bind_some, Bie]
     ·rfl
 ·rename_i z d ho hd
  rw [ho] at h ⊢
  rw [hd]
  have hz := h z (by simp [Op.operands])
  obtain ⟨r, hr⟩ := Option.isSome_iff_exists.1 hpt
  simp only [ldOk, opVD, opV, hz, hr, An8]
  cases Ai (s.get z) with
  | none => rfl
  | some l =>
   cases l <;> first | rfl | skip
   all_goals simp only [Option.map_some, fD]; all_goals (repeat' split) <;> first | rfl | skip
   all_goals simp_all [ptL]
 ·rename_i S z f d ho hd
  rw [ho] at h ⊢
  rw [hd]
  have hz := h z (by simp [Op.operands])
  obtain ⟨r, hr⟩ := Option.isSome_iff_exists.1 hpt
  simp only [ldOk, opVD, opV, hz, hr, An8]
  cases Ai (s.get z) with
  | none => rfl
  | some l =>
   simp only [Option.map_some, fD_pt.1]
   by_cases hL : ptL l = true
   rotate_left
   ·rw [if_neg hL, if_neg hL]; rfl
   ·rw [if_pos hL, if_pos hL]
    cases l <;> first | (cases hL; done) | skip
    ·cases G7 C.P S f with
     | none => rfl
     | some k => rfl
    ·cases G7 C.P S f with
     | none => rfl
     | some k => rfl
 ·cases hpt
theorem Bjj {n e : Nat} {w : Option Own} : Al (s.put (some e) v) n w = (Al s n w).put (some e) v := rfl
theorem h_row (hk : kk C x = .row) (hg : x.guard = none) (hyg : y.guard = none) (hfr : FrO C x s) (hpt : isPt C y = true)
  (a1 : ∀ d, y.dst = some d → d ∉ x.looksAt ops) (a2 : ∀ d, x.dst = some d → y.dst ≠ some d) (a3 : ∀ d, x.dst = some d → d ∉ y.looksAt ops) : ∃ φ : AV → AV,
  (∀ v, Vg C ops y s = some v → (Am (opD C) ops (s.put y.dst v) x).val = ((Am (opD C) ops s x).val).map fun z => z.put y.dst (φ v)) ∧
  (∀ s1, (Am (opD C) ops s x).val = some s1 → Vg C ops y s1 = (Vg C ops y s).map φ) := by
 obtain ⟨hE, d, hd⟩ := A4e hk
 have hmO : mkO C x = [N0 + d] := by unfold mkO; rw [hk, hd]
 have hf : s.all (L.noO (N0 + d)) = true := hfr.2 _ (by rw [hmO]; simp)
 have hstep : ∀ u : St, (Am (opD C) ops u x).val = (D9 C.P u x.op).bind fun z => (Br (z.1 u) d z.2).val := fun u => by
  rw [Bg hg, A42 hk, hd]
  exact A5s hE
 obtain ⟨e, hyd⟩ : ∃ e, y.dst = some e := by
  unfold isPt at hpt
  split at hpt <;> first | (cases hpt; done) | (rename_i hh; exact ⟨_, hh⟩)
 have hne : e ≠ d := fun h => a2 d hd (by rw [hyd, h])
 have hVg : ∀ u : St, Vg C ops y u = Vv C y u := fun u => by unfold Vg; rw [hyg]
 cases hpl : D9 C.P s x.op with
 | none =>
  refine ⟨id, fun v hv => ?_, fun s1 h1 => ?_⟩
  ·rw [hstep, hstep, hyd, A5r hE (Pb (a1 e hyd)), hpl]; rfl
  ·rw [hstep, hpl] at h1; cases h1
 | some gw =>
  obtain ⟨g, w⟩ := gw
  obtain ⟨D, q, gm, gp⟩ := A5q hpl s
  dsimp only at gm gp
  have hgf := A30 (Gs (N0 + d)) gm hf
  refine ⟨AV.map (fD D q), fun v hv => ?_, fun s1 h1 => ?_⟩
  ·rw [hstep, hstep, hyd, A5r hE (Pb (a1 e hyd)), hpl]
   simp only [Option.bind_some]
   rw [gp e v]
   have hvn : (v.map (fD D q)).all (L.noO (N0 + d)) = true := Ari (fun l hl => Aag (Gs _) hl) (Gj (Gs (N0 + d)) hf hv)
   unfold Br
   rw [Aif hgf hvn]
   split
   ·simp only [Oc.val, Option.map_some]
    congr 1
    rw [Bjj]
    exact F8 fun k h1 h2 => hne (by cases h1; cases h2; rfl)
   ·rfl
  ·rw [hstep, hpl] at h1
   simp only [Option.bind_some] at h1
   obtain ⟨_, rfl⟩ := Dq h1
   rw [hVg, hVg]
   refine Vv_gm hpt (fun z hz => ?_) fun b => ?_
   ·rw [A3 (Pb (a3 d hd) z hz)]
    exact gm_get (t := g s) gm z
   ·exact Bhq (t := g s) gm b
theorem comm_al {x y : Oper} (hy : kk C y = .alloc) (hx : kk C x = .alloc) (gy : y.guard = none) (gx : x.guard = none) (fx : FrO C x s) (a2 : ∀ d, x.dst = some d → y.dst ≠ some d) {s1 s2 : St}
  (h1 : (Am (opD C) ops s y).val = some s1) (h2 : (Am (opD C) ops s1 x).val = some s2) : ∃ s3, (Am (opD C) ops s x).val = some s3 ∧ (Am (opD C) ops s3 y).val = some s2 := by
 obtain ⟨T, d, ho, hd⟩ := O9 hy
 obtain ⟨U, e, ho2, he⟩ := O9 hx
 have hne : d ≠ e := fun h => a2 e he (by rw [hd, h])
 have hmB : mkB C x = [N0 + e] := by unfold mkB; rw [hx, he]
 have hf : s.all (L.noB (N0 + e)) = true := fx.1 _ (by rw [hmB]; simp)
 rw [Bg gy, D8 hy, ho, hd] at h1
 rw [Bg gx, D8 hx, ho2, he] at h2
 simp only [opK4] at h1 h2
 split at h1
 ·cases h1
 rename_i hb1
 split at h2
 ·cases h2
 rename_i hb2
 split at h1
 rotate_left
 ·cases h1
 rename_i ls hz
 split at h2
 rotate_left
 ·cases h2
 rename_i ls2 hz2
 obtain ⟨f1, rfl⟩ := Gl h1
 obtain ⟨f2, rfl⟩ := Gl h2
 have hn : N0 + d ≠ N0 + e := fun h => hne (Nat.add_left_cancel h)
 have fe : Bq s (N0 + e) = true := by
  unfold Bq at f2 ⊢
  rw [Bool.and_eq_true] at f2 ⊢
  refine ⟨?_, hf⟩
  have := f2.1
  simp only [At, St.put] at this
  rwa [List.getElem?_set_ne hn] at this
 refine ⟨(At s (N0 + e) ls2).put (some e) (lf (.ptr (N0 + e) 0)), ?_, ?_⟩
 ·rw [Bg gx, D8 hx, ho2, he]
  simp only [opK4]
  rw [if_neg hb2]
  simp only [hz2]
  exact Ard fe
 ·rw [Bg gy, D8 hy, ho, hd]
  simp only [opK4]
  rw [if_neg hb1]
  simp only [hz]
  have fd : Bq ((At s (N0 + e) ls2).put (some e) (lf (.ptr (N0 + e) 0))) (N0 + d) = true := by
   unfold Bq at f1 ⊢
   rw [Bool.and_eq_true] at f1 ⊢
   refine ⟨?_, Dc (Qp f1.2 fun l hl => ?_) (Bm (by simp [L.noB]; exact fun e => hne e.symm))⟩
   ·simp only [At, St.put]
    rw [List.getElem?_set_ne (Ne.symm hn)]
    exact f1.1
   ·obtain ⟨i, u, _, _, rfl, _⟩ := Ec hz2
    obtain ⟨u, _, rfl⟩ := List.mem_map.1 hl
    exact Me _ u
  rw [Ard fd]
  congr 1
  show (((At (At s (N0 + e) ls2) (N0 + d) ls).put (some e) _).put (some d) _) = (((At (At s (N0 + d) ls) (N0 + e) ls2).put (some d) _).put (some e) _)
  rw [F8 (x := some e) (y := some d) fun k h1 h2 => hne (by cases h1; cases h2; rfl)]
  congr 2
  simp only [At]
  congr 1
  exact List.set_comm _ _ (fun e => hn e.symm)
theorem Aoj (hp : Clo p) (hal : (isNo C x && !isV x.op) = false) (hs : s.all p = true) (hB : ∀ b ∈ tB C x, (∀ k, p (.ptr b k) = true) ∧ ∀ t z, p (.bld b t z) = true) (hO : ∀ l ∈ tO C x, p (.own l) = true)
  (h : (opD C s x.dst x.op).val = some s') : s'.all p = true := by
 cases hk : kk C x with
 | no =>
  have hk' : kkd C x.dst x.op = .no := hk
  have hno : isNo C x = true := by unfold isNo; rw [hk]
  rw [hno] at hal
  have hv : isV x.op = true := by simpa using hal
  unfold opD at h
  rw [hk'] at h
  simp only [opDn] at h
  rw [if_pos hv] at h
  split at h
  ·cases h
  ·split at h
   ·rename_i hl
    rw [Oc.val_bind] at h
    obtain ⟨v, h1, h2⟩ := Option.bind_eq_some_iff.1 h
    cases h2
    have : Vv C x s = some v := by unfold Vv; rw [if_pos hl]; exact h1
    exact Dc hs (Ara hp hs this)
   ·cases h
 | call =>
  obtain ⟨f, as, ts, d, W, ho, hd, hW⟩ := A4d hk
  have htB : tB C x = W.1.1 ++ W.2.1 := by unfold tB; rw [hk, hd]; simp only [hW]
  have htO : tO C x = W.1.2 ++ W.2.2 := by unfold tO; rw [hk, hd]; simp only [hW]
  rw [htB] at hB
  rw [htO] at hO
  rw [Wg hk, ho, hd] at h
  simp only [opK2, hW] at h
  split at h
  ·rename_i hWe
   cases hWe
   exact A90 hp h hs (fun b hb => (hB b hb).1) (fun b hb => (hB b hb).2) hO
  ·cases h
 | store =>
  obtain ⟨T, n, z, b, ho, hd, hb⟩ := A4f hk
  rw [Wh hk, ho] at h
  obtain ⟨ls, new, h1, h2, k, rfl⟩ := A43 hb h
  refine Qp hs fun l hl => ?_
  simp only [splice, List.mem_append] at hl
  rcases hl with (hl | hl) | hl
  ·exact Fi hs h2 l (List.mem_of_mem_take hl)
  ·exact Asn hp hs h1 l hl
  ·exact Fi hs h2 l (List.mem_of_mem_drop hl)
 | alloc =>
  obtain ⟨T, d, ho, hd⟩ := O9 hk
  have htB : tB C x = [N0 + d] := by unfold tB; rw [hk, hd]
  rw [D8 hk, ho, hd] at h
  simp only [opK4] at h
  split at h
  ·cases h
  ·split at h
   ·rename_i ls hz
    obtain ⟨_, rfl⟩ := Gl h
    refine Dc (Qp hs fun l hl => ?_) (Bm ((hB (N0 + d) (by rw [htB]; simp)).1 0))
    obtain ⟨i, u, _, _, rfl, _⟩ := Ec hz
    obtain ⟨u, _, rfl⟩ := List.mem_map.1 hl
    exact Ra hp u
   ·cases h
 | mks =>
  obtain ⟨t, a, b, d, ho, hd⟩ := Wb hk
  have htO : tO C x = [N0 + d] := by unfold tO; rw [hk, hd]
  rw [Pd hk, ho, hd, Pc] at h
  obtain ⟨o, p1, p2⟩ := Option.bind_eq_some_iff.1 h
  obtain ⟨_, rfl⟩ := Dq p2
  exact Dc (Y6 hs) (Bm (hO (N0 + d) (by rw [htO]; simp)))
 | row =>
  obtain ⟨hE, d, hd⟩ := A4e hk
  have htO : tO C x = [N0 + d] := by unfold tO; rw [hk, hd]
  rw [A42 hk, hd, A5s hE] at h
  obtain ⟨⟨g, w⟩, p1, p2⟩ := Option.bind_eq_some_iff.1 h
  obtain ⟨_, rfl⟩ := Dq p2
  obtain ⟨D, q, gm, _⟩ := A5q p1 s
  exact Dc (Y6 (A30 hp gm hs)) (Bm (hO (N0 + d) (by rw [htO]; simp)))
 | boxr =>
  obtain ⟨T, len, ps, d, ho, hd⟩ := A4c hk
  have htB : tB C x = [N0 + d] := by unfold tB; rw [hk, hd]
  rw [Wf hk ho hd] at h
  obtain ⟨_, q, _, u, ls, hq, _, hls, _, rfl⟩ := Arx h
  refine Dc (Qp hs fun l hl => ?_) (Bm (hp.sb _ 0 _ ((hB (N0 + d) (by rw [htB]; simp)).1 0)))
  rcases Adl _ _ _ _ hls l hl with h3 | ⟨z, hz, h3⟩
  ·rw [List.eq_of_mem_replicate h3]
   exact Ra hp u
  ·exact Y4 hp hs _ _ hq z hz l h3
theorem A47 (hp : Clo p) (hal : (isNo C x && !isV x.op) = false) (hs : s.all p = true) (hB : ∀ b ∈ tB C x, (∀ k, p (.ptr b k) = true) ∧ ∀ t z, p (.bld b t z) = true) (hO : ∀ l ∈ tO C x, p (.own l) = true)
  (h : (Am (opD C) ops s x).val = some s') : s'.all p = true := by
 unfold Am at h
 split at h
 ·exact Aoj hp hal hs hB hO h
 ·split at h
  ·rename_i g _
   split at h
   ·rename_i c _
    have ht : ∀ b, (s.put (some g) (lf (pvB b))).all p = true := fun b => Dc hs (Bm (hp.pv _))
    have hu : ∀ b, ((s.put (some g) (lf (pvB b))).put x.dst (.tup [])).all p = true := fun b => Dc (ht b) rfl
    split at h
    ·simp only [Oc.val] at h
     cases c
     ·cases h; exact hu _
     ·exact Aoj hp hal (ht _) hB hO h
    ·simp only [Oc.val] at h
     cases c
     ·exact Aoj hp hal (ht _) hB hO h
     ·cases h; exact hu _
   ·split at h
    ·cases h; exact Dc hs rfl
    ·cases h
  ·cases h
theorem Avd {a b : List Nat} (h : disj a b = true) {x : Nat} (hx : x ∈ a) : x ∉ b := by
 have := List.all_eq_true.1 h x hx
 simpa using this
theorem fr_step (ha : Dr C x y = true) (hf : FrO C y s) (h : (Am (opD C) ops s x).val = some s') : FrO C y s' := by
 unfold Dr at ha
 simp only [Bool.and_eq_true] at ha
 obtain ⟨h1, h2, h3⟩ := ha
 cases hal : (isNo C x && !isV x.op) with
 | true =>
  rw [hal] at h1
  simp only [Bool.not_true, Bool.false_or, Bool.and_eq_true, List.isEmpty_iff] at h1
  unfold FrO
  rw [h1.1, h1.2]
  exact ⟨by simp, by simp⟩
 | false =>
  refine ⟨fun n hn => A47 (Gr n) hal (hf.1 n hn) (fun b hb => ?_) (fun l hl => rfl) h, fun n hn => A47 (Gs n) hal (hf.2 n hn) (fun b hb => ⟨fun _ => rfl, fun _ _ => rfl⟩) (fun l hl => ?_) h⟩
  ·have : b ≠ n := fun e => Avd h2 hb (by rw [e]; exact hn)
   exact ⟨fun _ => by simpa [L.noB] using this, fun _ _ => by simpa [L.noB] using this⟩
  ·have : l ≠ n := fun e => Avd h3 hl (by rw [e]; exact hn)
   simpa [L.noO] using this
theorem Asp {bs os : List Nat} {br bx mB : List Nat} {mO : List (Option Nat)} (ho : ∀ l, l ∉ os → Aa t l = Aa s l) (hb : ∀ b, b ∉ bs → Ae t b = Ae s b) (k : SL) (l : L) (hl : ∀ n ∈ bs, l.noB n = true) (hm : ∀ n ∈ os, l.noO n = true) : coL t br bx mB mO k l = coL s br bx mB mO k l := by
 cases k with
 | pv ty => cases l with
  | own m => simp only [coL]; rw [ho m (fun e => by have := hm m e; simp [L.noO] at this)]
  | cst q => cases q <;> rfl
  | _ => rfl
 | rpt ts => cases l with
  | ptr b o => simp only [coL]; rw [hb b (fun e => by have := hl b e; simp [L.noB] at this)]
  | cst q => cases q <;> rfl
  | _ => rfl
 | erp ty ts => cases l with
  | ifp ty' b o => simp only [coL]; rw [hb b (fun e => by have := hl b e; simp [L.noB] at this)]
  | cst q => cases q <;> rfl
  | _ => rfl
 | _ => cases l <;> first | rfl | (rename_i q; cases q <;> rfl)
theorem Asq {bs os : List Nat} {br bx mB : List Nat} {mO : List (Option Nat)} (ho : ∀ l, l ∉ os → Aa t l = Aa s l) (hb : ∀ b, b ∉ bs → Ae t b = Ae s b) : ∀ (ks : List SL) (ls : List L), (∀ l ∈ ls, ∀ n ∈ bs, l.noB n = true) → (∀ l ∈ ls, ∀ n ∈ os, l.noO n = true) → coLs t br bx mB mO ks ls = coLs s br bx mB mO ks ls
 | [], [], _, _ => rfl
 | [], _ :: _, _, _ => rfl
 | _ :: _, [], _, _ => rfl
 | k :: r, l :: q, h, h2 => by
  simp only [coLs]
  rw [Asp ho hb k l (h l (by simp)) (h2 l (by simp)), Asq ho hb r q (fun x hx => h x (by simp [hx])) fun x hx => h2 x (by simp [hx])]
theorem Baw {bs os : List Nat} {br bx mB : List Nat} {mO : List (Option Nat)} (ho : ∀ l, l ∉ os → Aa t l = Aa s l) (hb : ∀ b, b ∉ bs → Ae t b = Ae s b) (k : SA) (a : AV) (ha : ∀ n ∈ bs, a.all (L.noB n) = true) (ha2 : ∀ n ∈ os, a.all (L.noO n) = true) : coA t br bx mB mO k a = coA s br bx mB mO k a := by
 cases k with
 | dead => rfl
 | lf k => cases a with
  | cv c => cases c with
   | lf l => simp only [coA]; rw [Asp ho hb k l (fun n hn => by simpa [AV.all, CV.leaves] using ha n hn) (fun n hn => by simpa [AV.all, CV.leaves] using ha2 n hn)]
   | agg ls => rfl
  | _ => rfl
 | agg ks => cases a with
  | cv c => cases c with
   | lf l => rfl
   | agg ls =>
    simp only [coA]
    rw [Asq ho hb ks ls (fun l hl n hn => by have := ha n hn; simp only [AV.all, CV.leaves, List.all_eq_true] at this; exact this l hl) (fun l hl n hn => by have := ha2 n hn; simp only [AV.all, CV.leaves, List.all_eq_true] at this; exact this l hl)]
  | _ => rfl
theorem Aso {bs os : List Nat} {br bx mB : List Nat} {mO : List (Option Nat)} (ho : ∀ l, l ∉ os → Aa t l = Aa s l) (hb : ∀ b, b ∉ bs → Ae t b = Ae s b) : ∀ (ks : List SA) (as : List AV), (∀ a ∈ as, ∀ n ∈ bs, a.all (L.noB n) = true) → (∀ a ∈ as, ∀ n ∈ os, a.all (L.noO n) = true) → coAs t br bx mB mO ks as = coAs s br bx mB mO ks as
 | [], [], _, _ => rfl
 | [], _ :: _, _, _ => rfl
 | _ :: _, [], _, _ => rfl
 | k :: r, a :: q, h, h2 => by
  simp only [coAs]
  rw [Baw ho hb k a (h a (by simp)) (h2 a (by simp)), Aso ho hb r q (fun x hx => h x (by simp [hx])) fun x hx => h2 x (by simp [hx])]
theorem Mc (ho : ∀ l, Aa t l = Aa s l) : ∀ (ks : List (Option (Nat × Ty))) (ms : List (Option Nat)), coOs t ks ms = coOs s ks ms
 | [], [] => rfl
 | [], _ :: _ => rfl
 | some x :: r, [] => rfl
 | none :: r, [] => rfl
 | some x :: r, some l :: q => by simp only [coOs]; rw [ho, Mc ho r q]
 | some x :: r, none :: q => by simp only [coOs]; rw [Mc ho r q]
 | none :: r, _ :: q => by simp only [coOs]; rw [Mc ho r q]
theorem Bax (ms : List (Option Nat)) : coOs t [] ms = coOs s [] ms := by cases ms <;> rfl
theorem Bay {m : Nat} {bs os : List Nat} {k : Sk} {args : List AV} (hk : k.boxes = []) (hO : ∀ ms, coOs t k.owns ms = coOs s k.owns ms) (ho : ∀ l, l ∉ os → Aa t l = Aa s l) (hb : ∀ b, b ∉ bs → Ae t b = Ae s b) (ha : ∀ a ∈ args, ∀ n ∈ bs, a.all (L.noB n) = true) (ha2 : ∀ a ∈ args, ∀ n ∈ os, a.all (L.noO n) = true) : co k { t with slots := args } m = co k { s with slots := args } m := by
 have ho' : ∀ l, l ∉ os → Aa { t with slots := args } l = Aa { s with slots := args } l := ho
 have hb' : ∀ b, b ∉ bs → Ae { t with slots := args } b = Ae { s with slots := args } b := hb
 have hO' : ∀ ks ms, (∀ ms, coOs t ks ms = coOs s ks ms) → coOs { t with slots := args } ks ms = coOs { s with slots := args } ks ms := fun ks ms h => by
  have e : ∀ (u : St) ks ms, coOs { u with slots := args } ks ms = coOs u ks ms := fun u ks ms => Mc (t := { u with slots := args }) (s := u) (fun l => rfl) ks ms
  rw [e, e, h]
 unfold co
 rw [hk]
 simp only [Qh, Aah, Aai, hk, List.length_nil, List.range_zero, List.map_nil]
 split
 ·rw [Aso ho' hb' _ _ ha ha2]
  congr 1
  funext a
  simp only [coBs, Option.bind_some]
  rw [hO' _ _ hO]
 ·rfl
theorem Ar1 {bs os : List Nat} {args : List AV} (ho : ∀ l, l ∉ os → Aa t l = Aa s l) (hb : ∀ b, b ∉ bs → Ae t b = Ae s b) (ha : ∀ a ∈ args, ∀ n ∈ bs, a.all (L.noB n) = true) (ha2 : ∀ a ∈ args, ∀ n ∈ os, a.all (L.noO n) = true) : ∀ (sgs : List Sig), (∀ g ∈ sgs, g.kin.boxes = [] ∧ ∀ ms, coOs t g.kin.owns ms = coOs s g.kin.owns ms) → Cg t args sgs = Cg s args sgs
 | [], _ => rfl
 | g :: r, h => by
  simp only [Cg]
  rw [Bay (h g (by simp)).1 (h g (by simp)).2 ho hb ha ha2, Ar1 ho hb ha ha2 r fun x hx => h x (by simp [hx])]
theorem A9e {y : Oper} {g : Nat} {as : Array Operand} {ts : Array Nat} (hop : y.op = .call { callee := .value (.func g), args := as, argTypes := ts }) (hgy : y.guard = none) {bs os : List Nat} (ho : ∀ l, l ∉ os → Aa t l = Aa s l) (hb : ∀ b, b ∉ bs → Ae t b = Ae s b)
  (hB : ∀ n ∈ bs, s.all (L.noB n) = true) (hO : ∀ n ∈ os, s.all (L.noO n) = true) (hget : ∀ z ∈ as.toList, t.get z = s.get z) (hsg : ∀ q ∈ (C.env g).filter Sig.plain, q.kin.boxes = [] ∧ ∀ ms, coOs t q.kin.owns ms = coOs s q.kin.owns ms) : Vg C ops y t = Vg C ops y s := by
 unfold Vg
 rw [hgy]
 simp only [Vv, hop]
 have e1 : ∀ (u : St), ldOk C u y.dst (.call { callee := .value (.func g), args := as, argTypes := ts }) = true := fun u => rfl
 rw [e1, e1, if_pos rfl, if_pos rfl]
 simp only [opVD]
 have e2 : ∀ (u : St), Ai (u.get (.func g)) = some (.fn g [] []) := fun u => rfl
 rw [e2, e2]
 simp only [List.map_nil, List.nil_append, List.append_nil]
 rw [List.map_congr_left hget]
 exact congrArg Oc.val (Ar1 ho hb (fun a ha n hn => by
  obtain ⟨z, _, rfl⟩ := List.mem_map.1 ha
  exact Eg (Gr n) (hB n hn) z) (fun a ha n hn => by
  obtain ⟨z, _, rfl⟩ := List.mem_map.1 ha
  exact Eg (Gs n) (hO n hn) z) _ hsg)
theorem A4w {y x : Oper} (hk : kk C x = .mks) (hg : x.guard = none) (hfr : FrO C x s) (a1 : ∀ d, y.dst = some d → d ∉ x.looksAt ops) (a2 : ∀ d, x.dst = some d → y.dst ≠ some d) :
  ∀ v, Vg C ops y s = some v → (Am (opD C) ops (s.put y.dst v) x).val = ((Am (opD C) ops s x).val).map fun z => z.put y.dst (id v) := by
 obtain ⟨T, l, c, d, hox, hd⟩ := Wb hk
 have hmO : mkO C x = [N0 + d] := by unfold mkO; rw [hk, hd]
 have hf : s.all (L.noO (N0 + d)) = true := hfr.2 _ (by rw [hmO]; simp)
 intro v hv
 have hgo := An2 (s := s) (v := v) a1
 rw [Bg hg, Bg hg, Pd hk, Pd hk, hox, hd, Pc, Pc]
 have hvn := Gj (Gs (N0 + d)) hf hv
 cases hyd : y.dst with
 | none => exact (Ws _).symm
 | some e =>
  rw [hyd] at hgo
  rw [Bif (hgo l (by rw [hox]; simp [Op.operands])) (hgo c (by rw [hox]; simp [Op.operands]))]
  cases mksO C.P s T l c with
  | none => rfl
  | some o =>
   have hne : e ≠ d := fun h => a2 d hd (by rw [hyd, h])
   simp only [Option.bind_some]
   unfold Br
   rw [Aif hf hvn]
   split
   ·simp only [Oc.val, Option.map_some]
    congr 1
    show ((Al s (N0 + d) (some o)).put (some e) v).put (some d) _ = _
    exact F8 fun k h1 h2 => hne (by cases h1; cases h2; rfl)
   ·rfl
theorem h_mks {y x : Oper} (hk : kk C x = .mks) (hg : x.guard = none) (hfr : FrO C x s) (hc : A6 y.op = false) (hy : (isR y.op || (match y.op with | .load _ _ => true | _ => false)) = true) (hr : Eb C y (tB C x) = true)
  (a1 : ∀ d, y.dst = some d → d ∉ x.looksAt ops) (a2 : ∀ d, x.dst = some d → y.dst ≠ some d) (a3 : ∀ d, x.dst = some d → d ∉ y.looksAt ops) :
  (∀ v, Vg C ops y s = some v → (Am (opD C) ops (s.put y.dst v) x).val = ((Am (opD C) ops s x).val).map fun z => z.put y.dst (id v)) ∧
  (∀ s1, (Am (opD C) ops s x).val = some s1 → Vg C ops y s1 = (Vg C ops y s).map id) := by
 obtain ⟨T, l, c, d, hox, hd⟩ := Wb hk
 refine ⟨A4w hk hg hfr a1 a2, fun s1 h1 => ?_⟩
 rw [Bg hg, Pd hk, hox, hd, Pc] at h1
 obtain ⟨o, _, h2⟩ := Option.bind_eq_some_iff.1 h1
 obtain ⟨_, rfl⟩ := Dq h2
 rw [Option.map_id]
 refine Qm (bs := tB C x) hc (fun z hz => O4 (d := d) rfl fun e => a3 d hd (hz d e)) ?_ hr fun b _ => rfl
 rw [Bool.or_eq_true] at hy
 rcases hy with hy | hy
 ·exact .inl hy
 ·refine .inr (.inl ?_)
  split at hy
  ·rename_i T a e; exact ⟨T, a, e⟩
  ·cases hy
theorem A31 {y x : Oper} (h : Q1 C y x = true) (hfr : FrO C x s) (a1 : ∀ d, y.dst = some d → d ∉ x.looksAt ops) (a2 : ∀ d, x.dst = some d → y.dst ≠ some d) (a3 : ∀ d, x.dst = some d → d ∉ y.looksAt ops) :
  kk C y = .no ∧ isV y.op = true ∧ (A6 y.op = true → y.dst ≠ none) ∧
  (∀ v, Vg C ops y s = some v → (Am (opD C) ops (s.put y.dst v) x).val = ((Am (opD C) ops s x).val).map fun z => z.put y.dst (id v)) ∧
  (∀ s1, (Am (opD C) ops s x).val = some s1 → Vg C ops y s1 = (Vg C ops y s).map id) := by
 have hgt : ∀ {g : Nat} {as : Array Operand} {ts : Array Nat} {d : Nat}, y.op = .call { callee := .value (.func g), args := as, argTypes := ts } → x.dst = some d → ∀ {t : St} {u : AV}, t.slots = s.slots.set d u → ∀ z ∈ as.toList, t.get z = s.get z := fun {g as ts d} hop hd {t u} ht z hz =>
  O4 (d := d) ht fun e2 => a3 d hd (by
   subst e2
   refine List.mem_append_left _ (List.mem_filterMap.2 ⟨.tmp d, ?_, rfl⟩)
   rw [hop]
   simp [Op.operands, Call.operands]; simpa using hz)
 unfold Q1 at h
 split at h
 ·rename_i g as ts e hk hop hyd
  simp only [Bool.and_eq_true, Option.isNone_iff_eq_none, List.all_eq_true, List.isEmpty_iff] at h
  obtain ⟨h1, hgy, hg, hsg⟩ := h
  refine ⟨O8 h1, by rw [hop]; rfl, fun _ => by rw [hyd]; simp, ?_⟩
  obtain ⟨T, d, hox, hd⟩ := O9 hk
  have hmB : mkB C x = [N0 + d] := by unfold mkB; rw [hk, hd]
  have hf : s.all (L.noB (N0 + d)) = true := hfr.1 _ (by rw [hmB]; simp)
  constructor
  ·intro v hv
   rw [Bg hg, Bg hg, D8 hk, D8 hk, hox, hd]
   have hvn := Gj (Gr (N0 + d)) hf hv
   simp only [opK4]
   split
   ·rfl
   ·cases Bo C.P T with
    | none => rfl
    | some ls =>
     simp only []
     rw [hyd]
     have hne : e ≠ d := fun h => a2 d hd (by rw [hyd, h])
     unfold Fg
     rw [T3 hf hvn]
     split
     ·simp only [Oc.val, Option.map_some]
      congr 1
      show ((At s (N0 + d) ls).put (some e) v).put (some d) _ = _
      exact F8 fun k h1 h2 => hne (by cases h1; cases h2; rfl)
     ·rfl
  ·intro s1 h1
   rw [Bg hg, D8 hk, hox, hd] at h1
   simp only [opK4] at h1
   rw [Option.map_id]
   split at h1
   ·cases h1
   ·split at h1
    ·rename_i ls _
     obtain ⟨_, rfl⟩ := Gl h1
     refine A9e (bs := [N0 + d]) (os := []) hop hgy (fun l _ => rfl) (fun b hb => ?_) (fun n hn => by rw [List.mem_singleton.1 hn]; exact hf) (fun n hn => by cases hn) (hgt hop hd rfl) fun q hq => ⟨hsg q hq, fun ms => Mc (t := (At s (N0 + d) ls).put (some d) (lf (.ptr (N0 + d) 0))) (s := s) (fun l => rfl) _ ms⟩
     simp only [Ae, At, St.put]
     rw [List.getElem?_set_ne (fun e => hb (by simp [e]))]
    ·cases h1
 ·rename_i g as ts e hk hop hyd
  simp only [Bool.and_eq_true, Option.isNone_iff_eq_none, List.all_eq_true, List.isEmpty_iff] at h
  obtain ⟨h1, hgy, hg, hsg⟩ := h
  refine ⟨O8 h1, by rw [hop]; rfl, fun _ => by rw [hyd]; simp, A4w hk hg hfr a1 a2, fun s1 h1 => ?_⟩
  obtain ⟨T, l, c, d, hox, hd⟩ := Wb hk
  have hmO : mkO C x = [N0 + d] := by unfold mkO; rw [hk, hd]
  have hf : s.all (L.noO (N0 + d)) = true := hfr.2 _ (by rw [hmO]; simp)
  rw [Bg hg, Pd hk, hox, hd, Pc] at h1
  obtain ⟨o, _, h2⟩ := Option.bind_eq_some_iff.1 h1
  obtain ⟨_, rfl⟩ := Dq h2
  rw [Option.map_id]
  refine A9e (bs := []) (os := [N0 + d]) hop hgy (fun l hl => ?_) (fun b _ => rfl) (fun n hn => by cases hn) (fun n hn => by rw [List.mem_singleton.1 hn]; exact hf) (hgt hop hd rfl) fun q hq => ⟨(hsg q hq).1, fun ms => by rw [(hsg q hq).2]; exact Bax ms⟩
  simp only [Aa, Al, St.put]
  rw [List.getElem?_set_ne (fun e => hl (by simp [e]))]
 ·cases h
theorem pair_sw (h : Ho C ops y x = true) (fy : FrO C y s) (fx : FrO C x s) {s1 s2 : St}
  (h1 : (Am (opD C) ops s y).val = some s1) (h2 : (Am (opD C) ops s1 x).val = some s2) : ∃ s3, (Am (opD C) ops s x).val = some s3 ∧ (Am (opD C) ops s3 y).val = some s2 := by
 unfold Ho at h
 rw [Bool.and_eq_true] at h
 obtain ⟨h0, hap⟩ := h
 obtain ⟨a1, a2, a3⟩ := Oper.apart_spec hap
 have hbes : ∀ {y x : Oper}, beside C y x = true → FrO C x s → (∀ d, y.dst = some d → d ∉ x.looksAt ops) → (∀ d, x.dst = some d → y.dst ≠ some d) → (∀ d, x.dst = some d → d ∉ y.looksAt ops) →
   kk C y = .no ∧ isV y.op = true ∧ A6 y.op = false ∧ ∃ φ : AV → AV, (∀ v, Vg C ops y s = some v → (Am (opD C) ops (s.put y.dst v) x).val = ((Am (opD C) ops s x).val).map fun z => z.put y.dst (φ v)) ∧
   (∀ s1, (Am (opD C) ops s x).val = some s1 → Vg C ops y s1 = (Vg C ops y s).map φ) := by
  intro y x hb fx b1 b2 b3
  unfold beside at hb
  simp only [Bool.and_eq_true, Bool.not_eq_true'] at hb
  obtain ⟨k1, k2, k3, k4⟩ := hb
  refine ⟨O8 k1, k2, k3, ?_⟩
  split at k4
  ·cases k4
  ·rename_i hk
   simp only [Bool.and_eq_true, Option.isNone_iff_eq_none] at k4
   exact ⟨id, h_call hk k4.1 fx k3 k4.2.1 k4.2.2 b1 b2 b3⟩
  ·rename_i hk
   simp only [Bool.and_eq_true, Option.isNone_iff_eq_none] at k4
   exact ⟨id, h_store hk k4.1 k3 k4.2 b1⟩
  ·rename_i hk
   exact ⟨id, h_alloc hk (by simpa using k4) fx k3 b1 b2 b3⟩
  ·rename_i hk
   simp only [Bool.and_eq_true, Option.isNone_iff_eq_none] at k4
   exact ⟨id, h_mks hk k4.1 fx k3 k4.2.1 k4.2.2 b1 b2 b3⟩
  ·rename_i hk
   simp only [Bool.and_eq_true, Option.isNone_iff_eq_none] at k4
   exact h_row hk k4.1 k4.2.1 fx k4.2.2 b1 b2 b3
  ·rename_i hk
   simp only [Bool.and_eq_true, Option.isNone_iff_eq_none] at k4
   exact ⟨id, h_boxr hk k4.1 fx k3 k4.2 b1 b2 b3⟩
 have a2' : ∀ d, x.dst = some d → y.dst ≠ some d := fun d hd he => a2 d he hd
 rw [Bool.or_eq_true, Bool.or_eq_true, Bool.or_eq_true, Bool.or_eq_true, Bool.or_eq_true] at h0
 rcases h0 with h0 | h0 | h0 | h0 | h0 | h0
 ·simp only [Bool.and_eq_true] at h0
  obtain ⟨⟨n1, w1⟩, n2, w2⟩ := h0
  obtain ⟨v1, c1⟩ := A37 w1
  obtain ⟨v2, c2⟩ := A37 w2
  exact Bjq (O8 n1) (O8 n2) v1 v2 c1 c2 hap h1 h2
 ·obtain ⟨k1, k2, k3, φ, H1, H2⟩ := hbes h0 fx a1 a2' a3
  exact A84 k1 k2 (fun e => by rw [k3] at e; cases e) H1 H2 h1 h2
 ·obtain ⟨k1, k2, k3, φ, H1, H2⟩ := hbes h0 fy a3 a2 a1
  exact A85 k1 k2 (fun e => by rw [k3] at e; cases e) H1 H2 h1 h2
 ·unfold twoAl at h0
  split at h0
  ·rename_i ky kx
   simp only [Bool.and_eq_true, Option.isNone_iff_eq_none] at h0
   exact comm_al ky kx h0.1 h0.2 fx a2' h1 h2
  ·cases h0
 ·obtain ⟨k1, k2, k3, H1, H2⟩ := A31 (ops := ops) h0 fx a1 a2' a3
  exact A84 k1 k2 k3 H1 H2 h1 h2
 ·obtain ⟨k1, k2, k3, H1, H2⟩ := A31 (ops := ops) h0 fy a3 a2 a1
  exact A85 k1 k2 k3 H1 H2 h1 h2
end
section
variable {C : Cfg} {F : Nat → Prop} {s s' : St} {G : Gm} {a : Act} {w w' : World}
def stp (C : Cfg) (ops : Array Oper) (j : Nat) (s : St) : Option St :=
 match ops[j]? with
 | some o => (Am (opD C) ops s o).val
 | none => some s
def fld (C : Cfg) (ops : Array Oper) : List Nat → St → Option St
 | [], s => some s
 | j :: r, s => (stp C ops j s).bind (fld C ops r)
theorem Axa (ops : Array Oper) : ∀ (l : List Oper) (i : Nat) (s : St), (∀ (j : Nat) (o : Oper), l[j]? = some o → ops[i + j]? = some o) →
  l.foldl (fun x o => x.bind fun s => (Am (opD C) ops s o).val) (some s) = fld C ops (List.range' i l.length) s
 | [], i, s, h => rfl
 | o :: l, i, s, h => by
  have h0 : ops[i]? = some o := by simpa using h 0 o rfl
  simp only [List.foldl_cons, Option.bind_some, List.length_cons, List.range'_succ, fld, stp, h0]
  cases h1 : (Am (opD C) ops s o).val with
  | none => exact Sp ops l
  | some s1 =>
   simp only [Option.bind_some]
   exact Axa ops l (i + 1) s1 fun j o' hj => by
    have := h (j + 1) o' (by simpa using hj)
    rwa [show i + (j + 1) = i + 1 + j by omega] at this
theorem Ae8 (ops : Array Oper) : ∀ (x y : List Nat) (s : St), fld C ops (x ++ y) s = (fld C ops x s).bind (fld C ops y)
 | [], y, s => rfl
 | j :: x, y, s => by
  simp only [List.cons_append, fld]
  cases h : stp C ops j s with
  | none => rfl
  | some s1 => simp only [Option.bind_some]; exact Ae8 ops x y s1
def FrA (C : Cfg) (ops : Array Oper) (j : Nat) (s : St) : Prop := ∀ o, ops[j]? = some o → FrO C o s
def Ap (C : Cfg) (ops : Array Oper) (j i : Nat) : Prop := ∀ y x, ops[j]? = some y → ops[i]? = some x → Dr C y x = true
theorem Aq1 {ops : Array Oper} {j i : Nat} {s s1 : St} (ha : Ap C ops j i) (hf : FrA C ops i s) (h : stp C ops j s = some s1) : FrA C ops i s1 := by
 intro o ho
 unfold stp at h
 split at h
 ·rename_i y hy
  exact fr_step (ha y o hy ho) (hf o ho) h
 ·cases h; exact hf o ho
def Sw (C : Cfg) (ops : Array Oper) (j i : Nat) : Prop := ∀ s s1 s2, FrA C ops j s → FrA C ops i s → stp C ops j s = some s1 → stp C ops i s1 = some s2 → ∃ s3, stp C ops i s = some s3 ∧ stp C ops j s3 = some s2
theorem Aw8 (ops : Array Oper) {i : Nat} : ∀ (x : List Nat) (s s' : St), (∀ j ∈ x, Sw C ops j i) → (∀ j ∈ x, FrA C ops j s) → FrA C ops i s → (x ++ [i]).Pairwise (Ap C ops) → fld C ops (x ++ [i]) s = some s' → fld C ops (i :: x) s = some s'
 | [], s, s', h, hx, hi, hp, hf => hf
 | j :: x, s, s', h, hx, hi, hp, hf => by
  simp only [List.cons_append, fld] at hf
  rw [List.cons_append, List.pairwise_cons] at hp
  obtain ⟨s1, h1, h2⟩ := Option.bind_eq_some_iff.1 hf
  have h3 := Aw8 ops x s1 s' (fun k hk => h k (by simp [hk])) (fun k hk => Aq1 (hp.1 k (by simp [hk])) (hx k (by simp [hk])) h1) (Aq1 (hp.1 i (by simp)) hi h1) hp.2 h2
  simp only [fld] at h3
  obtain ⟨s2, h4, h5⟩ := Option.bind_eq_some_iff.1 h3
  obtain ⟨s3, h6, h7⟩ := h j (by simp) s s1 s2 (hx j (by simp)) hi h1 h4
  simp only [fld, h6, h7, Option.bind_some]
  exact h5
def Deps (L : Nat → Prop) (o : Oper) : Prop := ∀ e ∈ o.after.toList, Region.binds .any e = true → L e.on
theorem A4u {x y : Nat} {l : List Nat} (h : y ∈ insN x l) : y = x ∨ y ∈ l := by
 unfold insN at h
 split at h
 ·exact .inr h
 ·simpa using h
theorem A4t {y : Nat} : ∀ {x l : List Nat}, y ∈ Qn x l → y ∈ x ∨ y ∈ l
 | [], l, h => .inr h
 | z :: x, l, h => by
  simp only [Qn] at h
  rcases A4t h with h | h
  ·exact .inl (by simp [h])
  ·rcases A4u h with h | h
   ·exact .inl (by simp [h])
   ·exact .inr h
theorem Aoc {L : Nat → Prop} {acc : List (List Nat)} (hacc : ∀ (i : Nat) (l : List Nat), L i → acc[i]? = some l → ∀ j ∈ l, L j) {j : Nat} :
  ∀ (es : List Edge), (∀ e ∈ es, Region.binds .any e = true → L e.on) → j ∈ Lm acc es → L j
 | [], h, hj => by cases hj
 | e :: r, h, hj => by
  simp only [Lm] at hj
  split at hj
  ·rename_i hb
   rcases A4u hj with hj | hj
   ·rw [hj]; exact h e (by simp) hb
   ·rcases A4t hj with hj | hj
    ·cases he : acc[e.on]? with
     | none => rw [List.getD_eq_getElem?_getD, he] at hj; cases hj
     | some l =>
      rw [List.getD_eq_getElem?_getD, he] at hj
      exact hacc e.on l (h e (by simp) hb) he j hj
    ·exact Aoc hacc r (fun e he => h e (by simp [he])) hj
  ·exact Aoc hacc r (fun e he => h e (by simp [he])) hj
theorem Arp {L : Nat → Prop} (all : Array Oper) (hcl : ∀ (i : Nat) (o : Oper), all[i]? = some o → L i → Deps L o) :
  ∀ (l : List Oper) (acc : List (List Nat)), (∀ (j : Nat) (o : Oper), l[j]? = some o → all[acc.length + j]? = some o) →
  (∀ (i : Nat) (o : Oper) (x : List Nat), all[i]? = some o → acc[i]? = some x → Deps L o → ∀ j ∈ x, L j) → (acc.length ≤ all.size) →
  ∀ (i : Nat) (o : Oper) (x : List Nat), all[i]? = some o → (ancs l acc)[i]? = some x → Deps L o → ∀ j ∈ x, L j
 | [], acc, hl, hacc, hle => hacc
 | o :: l, acc, hl, hacc, hle => by
  simp only [ancs]
  have h0 : all[acc.length]? = some o := by simpa using hl 0 o rfl
  have hlt := (Array.getElem?_eq_some_iff.1 h0).1
  refine Arp all hcl l _ (fun j o' hj => ?_) (fun i o' x hi hx hD j hj => ?_) ?_
  ·have := hl (j + 1) o' (by simpa using hj)
   rw [List.length_append, List.length_singleton]
   rwa [show acc.length + (j + 1) = acc.length + 1 + j by omega] at this
  ·rcases Nat.lt_or_ge i acc.length with hlt | hge
   ·rw [List.getElem?_append_left hlt] at hx
    exact hacc i o' x hi hx hD j hj
   ·rw [List.getElem?_append_right hge] at hx
    cases hk : i - acc.length with
    | zero =>
     rw [hk] at hx
     simp at hx
     subst hx
     have hie : i = acc.length := by omega
     rw [hie, h0] at hi
     cases hi
     refine Aoc (L := L) (fun i' l' hL hl' j' hj' => ?_) o.after.toList hD hj
     have hi' : i' < acc.length := (List.getElem?_eq_some_iff.1 hl').1
     cases ho' : all[i']? with
     | none => rw [Array.getElem?_eq_none_iff] at ho'; omega
     | some o2 => exact hacc i' o2 l' ho' hl' (hcl i' o2 ho' hL) j' hj'
    | succ n => rw [hk] at hx; simp at hx
  ·rw [List.length_append, List.length_singleton]; omega
theorem Avh : ∀ (l : List Oper) (i : Nat), Rv l i = true → ∀ (j : Nat) (o : Oper), l[j]? = some o → ∀ e ∈ o.after.toList, Region.binds .any e = true → e.on < i + j
 | [], i, h, j, o, hj => by simp at hj
 | o :: l, i, h, j, o', hj => by
  simp only [Rv, Bool.and_eq_true] at h
  cases j with
  | zero =>
   simp at hj
   subst hj
   intro e he hb
   have := List.all_eq_true.1 h.1 e he
   simpa [hb] using this
  | succ n =>
   intro e he hb
   have := Avh l (i + 1) h.2 n o' (by simpa using hj) e he hb
   omega
theorem A5i {ops : Array Oper} {x : Oper} {an : List Nat} : ∀ (l : List Oper) (j : Nat), Wn C ops x an l j = true → ∀ (k : Nat) (y : Oper), l[k]? = some y → Dr C y x = true ∧ ((j + k) ∈ an ∨ (Ho C ops y x = true ∧ Dr C x y = true))
 | [], j, h, k, y, hk => by simp at hk
 | z :: l, j, h, k, y, hk => by
  simp only [Wn, Bool.and_eq_true, Bool.or_eq_true] at h
  cases k with
  | zero =>
   simp at hk
   subst hk
   refine ⟨h.1.1, ?_⟩
   rcases h.1.2 with h1 | h1
   ·exact .inl (by simpa using h1)
   ·exact .inr h1
  | succ n =>
   have h1 := A5i l (j + 1) h.2 n y (by simpa using hk)
   rwa [show j + 1 + n = j + (n + 1) by omega] at h1
theorem A5j {ops : Array Oper} {an : List (List Nat)} : ∀ (l done : List Oper) (i : Nat), done.length = i → Wo C ops an done l i = true →
  ∀ (k : Nat) (x : Oper) (j : Nat) (y : Oper), l[k]? = some x → j < i + k → (done ++ l)[j]? = some y → Dr C y x = true ∧ (j ∈ an.getD (i + k) [] ∨ (Ho C ops y x = true ∧ Dr C x y = true))
 | [], done, i, hi, h, k, x, j, y, hk => by simp at hk
 | z :: l, done, i, hi, h, k, x, j, y, hk => by
  intro hj hy
  simp only [Wo, Bool.and_eq_true] at h
  cases k with
  | zero =>
   simp at hk
   subst hk
   rw [List.getElem?_append_left (by omega)] at hy
   have := A5i done 0 h.1 j y hy
   simpa using this
  | succ n =>
   have := A5j l (done ++ [z]) (i + 1) (by simp [hi]) h.2 n x j y (by simpa using hk) (by omega) (by simpa using hy)
   rwa [show i + (n + 1) = i + 1 + n by omega]
theorem Bjv {ops : Array Oper} {i j : Nat} {x y : Oper} (hy : ops[j]? = some y) (hx : ops[i]? = some x) (h : Ho C ops y x = true) : Sw C ops j i := by
 intro s s1 s2 f1 f2 h1 h2
 simp only [stp, hy, hx] at h1 h2 ⊢
 exact pair_sw h (f1 y hy) (f2 x hx) h1 h2
def unl (n : Nat) (listed : Array Bool) : List Nat := (List.range n).filter fun j => !listed.getD j true
theorem unl_set {n i : Nat} {listed : Array Bool} (hi : i ∈ unl n listed) : ∃ pre post, unl n listed = pre ++ i :: post ∧ (∀ j ∈ pre, j < i) ∧ unl n (listed.setIfInBounds i true) = pre ++ post := by
 obtain ⟨pre, post, h⟩ := List.append_of_mem hi
 have hp : (unl n listed).Pairwise (· < ·) := List.pairwise_lt_range.filter _
 rw [h, List.pairwise_append] at hp
 obtain ⟨h1, h2, h3⟩ := hp
 rw [List.pairwise_cons] at h2
 have hpre : ∀ j ∈ pre, j < i := fun j hj => h3 j hj i (by simp)
 refine ⟨pre, post, h, hpre, ?_⟩
 have e : unl n (listed.setIfInBounds i true) = (unl n listed).filter (fun j => decide (j ≠ i)) := by
  unfold unl
  rw [List.filter_filter]
  apply List.filter_congr
  intro j hj
  by_cases hji : j = i
  ·subst hji
   rw [Array.getD_eq_getD_getElem?, Array.getElem?_setIfInBounds]
   simp
   split <;> rfl
  ·rw [getD_set_ne true (Ne.symm hji)]
   simp [hji]
 rw [e, h, List.filter_append, List.filter_cons_of_neg (by simp), List.filter_eq_self.2, List.filter_eq_self.2]
 ·intro j hj; have := h2.1 j hj; simp; omega
 ·intro j hj; have := hpre j hj; simp; omega
theorem K3 {n i : Nat} {listed : Array Bool} : i ∈ unl n listed ↔ i < n ∧ listed.getD i true = false := by
 simp [unl]
theorem A3x {listed : Array Bool} {i : Nat} (hi : i < listed.size) (b : Bool) : listed.getD i b = listed.getD i true := by
 simp [Array.getD_eq_getD_getElem?, Array.getElem?_eq_getElem hi]
theorem any_ok (hE : Bp C) {ops : Array Oper} (hc : commutes C ops = true) {sf : St} (Q : Exit → Act → World → Prop) :
  ∀ (fuel : Nat) (listed : Array Bool) (s : St) (G : Gm) (a : Act) (w : World), listed.size = ops.size → (unl ops.size listed).length ≤ fuel →
  (∀ (i : Nat) (o : Oper), ops[i]? = some o → listed.getD i false = true → Deps (fun j => listed.getD j false = true) o) →
  (∀ j ∈ unl ops.size listed, FrA C ops j s) → Holds F s G a.tmps.toList w → fld C ops (unl ops.size listed) s = some sf →
  (∀ G' a' w', Holds F sf G' a'.tmps.toList w' → Step N0 N0 s G w sf G' w' → a'.defers = a.defers → Q .normal a' w') →
  wpAny C.P .any ops Q fuel listed a w := by
 intro fuel
 simp only [commutes, Bool.and_eq_true] at hc
 have hend : ∀ (listed : Array Bool) (s : St) (G : Gm) (a : Act) (w : World), listed.size = ops.size →
   Holds F s G a.tmps.toList w → fld C ops (unl ops.size listed) s = some sf →
   (∀ G' a' w', Holds F sf G' a'.tmps.toList w' → Step N0 N0 s G w sf G' w' → a'.defers = a.defers → Q .normal a' w') →
   Region.ready .any ops listed = [] → Q .normal a w := by
  intro listed s G a w hs hH hf hQ hr
  cases hu : unl ops.size listed with
  | nil =>
   rw [hu] at hf
   cases hf
   exact hQ G a w hH (Step.refl _ _ _ _ _) rfl
  | cons i r =>
   exfalso
   have hi : i ∈ unl ops.size listed := by rw [hu]; simp
   obtain ⟨hlt, hun⟩ := K3.1 hi
   have : i ∈ Region.ready .any ops listed := by
    refine mem_ready.2 ⟨hun, ops[i], Array.getElem?_eq_getElem hlt, fun e he hb => ?_⟩
    have h1 := Avh ops.toList 0 hc.1 i ops[i] (by simp [hlt]) e (by simpa using he) hb
    cases hL : listed.getD e.on false with
    | true => rfl
    | false =>
     exfalso
     have h2 : e.on ∈ unl ops.size listed := K3.2 ⟨by omega, by rw [← A3x (by omega) false]; exact hL⟩
     have hp : (unl ops.size listed).Pairwise (· < ·) := List.pairwise_lt_range.filter _
     rw [hu, List.pairwise_cons] at hp
     rw [hu] at h2
     rcases List.mem_cons.1 h2 with h3 | h3
     ·omega
     ·have := hp.1 _ h3; omega
   rw [hr] at this
   cases this
 induction fuel with
 | zero =>
  intro listed s G a w hs hle hcl hfr hH hf hQ
  have hr : Region.ready .any ops listed = [] := by
   apply List.eq_nil_iff_forall_not_mem.2
   intro i hi
   obtain ⟨h1, o, ho, _⟩ := mem_ready.1 hi
   have : i ∈ unl ops.size listed := K3.2 ⟨(Array.getElem?_eq_some_iff.1 ho).1, h1⟩
   rw [List.eq_nil_of_length_eq_zero (by omega : (unl ops.size listed).length = 0)] at this
   cases this
  exact ⟨hr, hend listed s G a w hs hH hf hQ hr⟩
 | succ fuel ih =>
  intro listed s G a w hs hle hcl hfr hH hf hQ
  refine ⟨hend listed s G a w hs hH hf hQ, fun i hi => ?_⟩
  obtain ⟨hun, o, ho, hdeps⟩ := mem_ready.1 hi
  have hlt := (Array.getElem?_eq_some_iff.1 ho).1
  have hmem : i ∈ unl ops.size listed := K3.2 ⟨hlt, hun⟩
  obtain ⟨pre, post, e1, hpre, e2⟩ := unl_set hmem
  have hD : Deps (fun j => listed.getD j false = true) o := fun e he hb => hdeps e (by simpa using he) hb
  have hspec : ∀ (j k : Nat), j < k → ∀ (y x : Oper), ops[j]? = some y → ops[k]? = some x → Dr C y x = true ∧ (j ∈ (ancs ops.toList []).getD k [] ∨ (Ho C ops y x = true ∧ Dr C x y = true)) := by
   intro j k hjk y x hy hx
   have h1 := A5j ops.toList [] 0 rfl hc.2 k x j y (by simpa using hx) (by omega) (by simpa using hy)
   rwa [Nat.zero_add] at h1
  have hnanc : ∀ j ∈ pre, j ∉ (ancs ops.toList []).getD i [] := by
   intro j hj h1
   have hj' : j ∈ unl ops.size listed := by rw [e1]; simp [hj]
   obtain ⟨hjl, hju⟩ := K3.1 hj'
   cases hx : (ancs ops.toList [])[i]? with
   | none => rw [List.getD_eq_getElem?_getD, hx] at h1; cases h1
   | some x =>
    rw [List.getD_eq_getElem?_getD, hx] at h1
    have h2 := Arp (L := fun j => listed.getD j false = true) ops hcl ops.toList [] (fun j o hj => by simpa using hj) (fun i o x _ h => by simp at h) (Nat.zero_le _) i o x ho hx hD j h1
    rw [A3x (by omega)] at h2
    rw [h2] at hju
    cases hju
  have hsw : ∀ j ∈ pre, Sw C ops j i := by
   intro j hj
   have hj' : j ∈ unl ops.size listed := by rw [e1]; simp [hj]
   obtain ⟨hjl, hju⟩ := K3.1 hj'
   have hoj : ops[j]? = some ops[j] := Array.getElem?_eq_getElem hjl
   rcases (hspec j i (hpre j hj) ops[j] o hoj ho).2 with h1 | h1
   ·exact absurd h1 (hnanc j hj)
   ·exact Bjv hoj ho h1.1
  have hpw : (unl ops.size listed).Pairwise (· < ·) := List.pairwise_lt_range.filter _
  have hap : ∀ j k, j < k → Ap C ops j k := fun j k hjk y x hy hx => (hspec j k hjk y x hy hx).1
  have hap2 : ∀ k ∈ pre ++ post, Ap C ops i k := by
   intro k hk
   rcases List.mem_append.1 hk with hk | hk
   ·intro y x hy hx
    rcases (hspec k i (hpre k hk) x y hx hy).2 with h1 | h1
    ·exact absurd h1 (hnanc k hk)
    ·exact h1.2
   ·rw [e1, List.pairwise_append, List.pairwise_cons] at hpw
    exact hap i k (hpw.2.1.1 k hk)
  rw [e1, show pre ++ i :: post = (pre ++ [i]) ++ post by simp, Ae8] at hf
  obtain ⟨s1, h1, h2⟩ := Option.bind_eq_some_iff.1 hf
  have h3 := Aw8 ops pre s s1 hsw (fun j hj => hfr j (by rw [e1]; simp [hj])) (hfr i (by rw [e1]; simp)) (by
   rw [e1, show pre ++ i :: post = (pre ++ [i]) ++ post by simp, List.pairwise_append] at hpw
   exact hpw.1.imp fun {j k} h => hap j k h) h1
  simp only [fld] at h3
  obtain ⟨s3, h4, h5⟩ := Option.bind_eq_some_iff.1 h3
  have h6 : fld C ops (unl ops.size (listed.setIfInBounds i true)) s3 = some sf := by
   rw [e2, Ae8, h5]; exact h2
  have hfr' : ∀ j ∈ unl ops.size (listed.setIfInBounds i true), FrA C ops j s3 := by
   intro j hj
   rw [e2] at hj
   exact Aq1 (hap2 j hj) (hfr j (by rw [e1]; rcases List.mem_append.1 hj with h | h <;> simp [h])) h4
  simp only [stp, ho] at h4
  have hlen : (unl ops.size (listed.setIfInBounds i true)).length ≤ fuel := by
   rw [e1] at hle
   rw [e2]
   simp at hle ⊢
   omega
  have hcl' : ∀ (k : Nat) (ok : Oper), ops[k]? = some ok → (listed.setIfInBounds i true).getD k false = true → Deps (fun j => (listed.setIfInBounds i true).getD j false = true) ok := by
   intro k ok hk hL e he hb
   by_cases hik : i = k
   ·subst hik
    rw [ho] at hk
    cases hk
    exact getD_set_true (hD e he hb)
   ·rw [getD_set_ne false hik] at hL
    exact getD_set_true (hcl k ok hk hL e he hb)
  have hstep := Aok (fok_D hE) hH h4 (wpAny C.P .any ops Q fuel (listed.setIfInBounds i true)) Q fun G1 a1 w1 k1 k2 k3 =>
   ih (listed.setIfInBounds i true) s3 G1 a1 w1 (by simpa using hs) hlen hcl' hfr' k1 h6 fun G2 a2 w2 m1 m2 m3 => hQ G2 a2 w2 m1 (k2.trans m2) (m3.trans k3)
  unfold wpOp
  simp only [ho]
  split
  ·rename_i hw; rw [if_pos hw] at hstep; exact .inl hstep
  ·rename_i hw; rw [if_neg hw] at hstep; exact hstep
theorem Bh1 {bs os : List Nat} {n : Nat} (h : n ∈ bs) (l : L) : (En bs os l).noB n = true := by
 unfold En
 split
 ·rename_i hc
  rw [Bool.and_eq_true] at hc
  exact List.all_eq_true.1 hc.1 n h
 ·rfl
theorem Bh2 {bs os : List Nat} {n : Nat} (h : n ∈ os) (l : L) : (En bs os l).noO n = true := by
 unfold En
 split
 ·rename_i hc
  rw [Bool.and_eq_true] at hc
  exact List.all_eq_true.1 hc.2 n h
 ·rfl
theorem A4a {p : L → Bool} {bs os : List Nat} (h : ∀ l, p (En bs os l) = true) (s : St) : (B6 s bs os).all p = true := by
 simp only [St.all, Bool.and_eq_true, List.all_eq_true, B6, List.mem_map]
 constructor
 ·rintro v ⟨v0, _, rfl⟩
  exact Y3 h v0
 ·rintro b ⟨b0, _, rfl⟩
  split
  ·rename_i ls hls
   split at hls
   ·cases hls
   ·obtain ⟨q, hq, rfl⟩ := Option.map_eq_some_iff.1 hls
    simp only [List.all_map, List.all_eq_true, Function.comp]
    exact fun l _ => h l
  ·rfl
theorem kill_ok (h : Holds F s G a.tmps.toList w) (bs os : List Nat) : Holds F (B6 s bs os) G a.tmps.toList w ∧ Step N0 N0 s G w (B6 s bs os) G w := by
 have h1 := A4b (bs := bs) (os := os) (si := ⟨[], [], []⟩) (Gi := G) (w' := w) h (Keeps.refl _ _) (by
  rintro j (⟨b, ls, hb, _⟩ | ⟨l, x, hx, _⟩)
  ·simp [Ae] at hb
  ·simp [Aa] at hx)
 refine ⟨h1.1, ⟨Keeps.refl _ _, fun k hk => ?_, fun _ _ => ⟨rfl, rfl⟩, fun l _ x hx => ?_, rfl⟩⟩
 ·rcases hk with ⟨b, ls, hb', rfl⟩ | ⟨l, x, hx, e⟩
  ·obtain ⟨q, h3, _⟩ := Hh hb'
   exact .inl (.inl ⟨b, q, h3, rfl⟩)
  ·exact .inl (.inr ⟨l, x, (E6 hx).1, e⟩)
 ·exact ⟨⟨x, (E6 hx).1⟩, rfl⟩
theorem Bau {ops : Array Oper} (h : Holds F s G a.tmps.toList w) : (∀ j, FrA C ops j (clean C ops s)) ∧ Holds F (clean C ops s) G a.tmps.toList w ∧ Step N0 N0 s G w (clean C ops s) G w := by
 unfold clean
 have hmem : ∀ j o, ops[j]? = some o → o ∈ ops.toList := fun j o ho => List.mem_of_getElem? (l := ops.toList) (i := j) (by simpa using ho)
 split
 ·rename_i h1 h2
  refine ⟨fun j o ho => ⟨fun n hn => ?_, fun n hn => ?_⟩, h, Step.refl _ _ _ _ _⟩
  ·have : n ∈ ops.toList.flatMap (mkB C) := List.mem_flatMap.2 ⟨o, hmem j o ho, hn⟩
   rw [h1] at this; cases this
  ·have : n ∈ ops.toList.flatMap (mkO C) := List.mem_flatMap.2 ⟨o, hmem j o ho, hn⟩
   rw [h2] at this; cases this
 ·refine ⟨fun j o ho => ⟨fun n hn => A4a (Bh1 (List.mem_flatMap.2 ⟨o, hmem j o ho, hn⟩)) s, fun n hn => A4a (Bh2 (List.mem_flatMap.2 ⟨o, hmem j o ho, hn⟩)) s⟩, ?_⟩
  exact kill_ok h _ _
theorem Mo (hm : C.P.follows .mixedOrders = true) (hE : Bp C) : Ed C := by
 intro ops hc F s s' G a w Q hH hf hQ id
 refine wp_region_any hm ?_
 have hg : Grew w { w with drawn := w.drawn + 1 } := ⟨rfl, rfl, rfl, Nat.le_refl _, fun _ _ _ => rfl⟩
 obtain ⟨hfr, hH', hst⟩ := Bau (C := C) (ops := ops) hH
 have hu : unl ops.size (Array.replicate ops.size false) = List.range ops.size := by
  unfold unl
  apply List.filter_eq_self.2
  intro j hj
  have := List.mem_range.1 hj
  simp [Array.getD_eq_getD_getElem?, this]
 refine any_ok hE hc (sf := s') Q ops.size _ (clean C ops s) G a _ (by simp) (by rw [hu]; simp) (fun i o ho hL => ?_) (fun j _ => hfr j) (hH'.grew hg) ?_ fun G' a' w' k1 k2 k3 => hQ G' a' w' k1 (hst.trans ((Step.grew hg).trans k2)) k3
 ·exfalso
  rw [Array.getD_eq_getD_getElem?, Array.getElem?_replicate] at hL
  split at hL <;> simp at hL
 ·rw [hu, List.range_eq_range']
  rw [Axa ops ops.toList 0 (clean C ops s) fun j o hj => by simpa using hj] at hf
  simpa using hf
end
section
variable {R : Type}
abbrev Jt (R : Type) := List (Nat × (St → Option R))
def K0 : Jt R → Nat → Option (St → Option R)
 | [], _ => none
 | x :: r, i => if x.1 = i then some x.2 else K0 r i
def E1 (J : Jt R) (c : Code) : Option (St → Option R) := (Dg c).bind (K0 J)
def seqJ (C : Cfg) (J : Jt R) (b : Code) (f : St → (XE → St → Option R) → Option R) (K : XE → St → Option R) : XE → St → Option R
 | .normal, s => norm C b s fun s => match E1 J b with | some g => g s | none => f s K
 | e, s => K e s
def evJ (C : Cfg) (J L : Jt R) : Code → St → (XE → St → Option R) → Option R
 | .skip, s, K => K .normal s
 | .region _ ops draw, s, K => if draw then (if commutes C ops then opsK (opD C) ops ops.toList (clean C ops s) (K .normal) else none) else opsP C ops ops.toList s K
 | .seq a b, s, K => evJ C J L a s (seqJ C J b (evJ C J L b) K)
 | .cond c x y, s, K => match Cd (s.get c) with
  | some b => bif b then evJ C J L x (refine s c true) K else evJ C J L y (refine s c false) K
  | none => none
 | .block id b, s, K => evJ C J L b s (blkK id K)
 | .loop b, s, K => norm C b s fun s => match E1 L b with | some g => g s | none => none
 | .exit id, s, K => K (.exit id) s
 | .ret, s, K => K .ret s
 | .label _, s, K => K .normal s
 | _, _, _ => none
def ctxJ (C : Cfg) (J L : Jt R) : Code → List Step1 → (XE → St → Option R) → (XE → St → Option R)
 | _, [], K => K
 | .seq a b, .l :: p, K => ctxJ C J L a p (seqJ C J b (evJ C J L b) K)
 | .seq _ b, .r :: p, K => ctxJ C J L b p K
 | .block id b, .b :: p, K => ctxJ C J L b p (blkK id K)
 | .loop b, .b :: p, K => ctxJ C J L b p (match E1 L b with | some g => F3 C b g K | none => fun _ _ => none)
 | .scope b, .b :: p, K => ctxJ C J L b p K
 | .cond _ x _, .t :: p, K => ctxJ C J L x p K
 | .cond _ _ y, .e :: p, K => ctxJ C J L y p K
 | _, _, K => K
def jt (C : Cfg) (k : Nat) : Code → List Step1 → List Nat → (XE → St → Option R) → List (Code × (St → Option R))
 | .seq a b, .l :: p, ks, K => (b, fun s => ev C k b s K) :: (jt C k a p ks (seqK C b (ev C k b) K) ++ jt C k b [] [] K)
 | .seq a b, .r :: p, ks, K => (b, fun s => ev C k b s K) :: (jt C k a [] [] (seqK C b (ev C k b) K) ++ jt C k b p ks K)
 | .seq a b, _, _, K => (b, fun s => ev C k b s K) :: (jt C k a [] [] (seqK C b (ev C k b) K) ++ jt C k b [] [] K)
 | .cond _ x y, .t :: p, ks, K => jt C k x p ks K ++ jt C k y [] [] K
 | .cond _ x y, .e :: p, ks, K => jt C k x [] [] K ++ jt C k y p ks K
 | .cond _ x y, _, _, K => jt C k x [] [] K ++ jt C k y [] [] K
 | .block id b, .b :: p, ks, K => jt C k b p ks (blkK id K)
 | .block id b, _, _, K => jt C k b [] [] (blkK id K)
 | .loop b, .b :: p, j :: ks, K => jt C k b p ks (F3 C b (Bf (Bh C b (ev C k b) K) j) K)
 | _, _, _, _ => []
def lt (C : Cfg) (k : Nat) : Code → List Step1 → List Nat → (XE → St → Option R) → List (Code × (St → Option R))
 | .seq a b, .l :: p, ks, K => lt C k a p ks (seqK C b (ev C k b) K) ++ lt C k b [] [] K
 | .seq a b, .r :: p, ks, K => lt C k a [] [] (seqK C b (ev C k b) K) ++ lt C k b p ks K
 | .seq a b, _, _, K => lt C k a [] [] (seqK C b (ev C k b) K) ++ lt C k b [] [] K
 | .cond _ x y, .t :: p, ks, K => lt C k x p ks K ++ lt C k y [] [] K
 | .cond _ x y, .e :: p, ks, K => lt C k x [] [] K ++ lt C k y p ks K
 | .cond _ x y, _, _, K => lt C k x [] [] K ++ lt C k y [] [] K
 | .block id b, .b :: p, ks, K => lt C k b p ks (blkK id K)
 | .block id b, _, _, K => lt C k b [] [] (blkK id K)
 | .loop b, .b :: p, j :: ks, K => (b, Bf (Bh C b (ev C k b) K) j) :: lt C k b p ks (F3 C b (Bf (Bh C b (ev C k b) K) j) K)
 | .loop b, _, _, K => [(b, Bf (Bh C b (ev C k b) K) k)]
 | _, _, _, _ => []
def OkJ (J : Jt R) (l : List (Code × (St → Option R))) : Prop := ∀ x ∈ l, ∀ g, E1 J x.1 = some g → g = x.2
def OkL (J : Jt R) (l : List (Code × (St → Option R))) : Prop := ∀ x ∈ l, E1 J x.1 = some x.2
theorem A6e {C : Cfg} {J : Jt R} {b : Code} {f g : St → (XE → St → Option R) → Option R} {K : XE → St → Option R} (h1 : ∀ s, f s K = g s K) (h2 : ∀ h, E1 J b = some h → h = fun s => g s K) : seqJ C J b f K = seqK C b g K := by
 funext e s
 cases e with
 | normal =>
  simp only [seqJ, seqK]
  congr 1
  funext s
  cases hb : E1 J b with
  | none => exact h1 s
  | some h => rw [h2 h hb]
 | _ => rfl
theorem G5 {C : Cfg} {J L : Jt R} {k : Nat} : ∀ (c : Code) (s : St) (K : XE → St → Option R), OkJ J (jt C k c [] [] K) → OkL L (lt C k c [] [] K) → evJ C J L c s K = ev C k c s K
 | .skip, s, K, _, _ => rfl
 | .region _ _ _, s, K, _, _ => rfl
 | .seq a b, s, K, hJ, hL => by
  simp only [evJ, ev]
  simp only [jt, lt] at hJ hL
  have e : seqJ C J b (evJ C J L b) K = seqK C b (ev C k b) K := A6e
   (fun s => G5 b s K (fun x hx => hJ x (by simp [hx])) (fun x hx => hL x (by simp [hx])))
   (fun h hh => hJ (b, fun s => ev C k b s K) (by simp) h hh)
  rw [e]
  exact G5 a s _ (fun x hx => hJ x (by simp [hx])) (fun x hx => hL x (by simp [hx]))
 | .cond c x y, s, K, hJ, hL => by
  simp only [evJ, ev]
  simp only [jt, lt] at hJ hL
  cases Cd (s.get c) with
  | none => rfl
  | some b =>
   simp only []
   rw [G5 (k := k) x _ K (fun z hz => hJ z (by simp [hz])) (fun z hz => hL z (by simp [hz])), G5 (k := k) y _ K (fun z hz => hJ z (by simp [hz])) (fun z hz => hL z (by simp [hz]))]
 | .block id b, s, K, hJ, hL => by
  simp only [evJ, ev]
  exact G5 b s _ (by simpa only [jt] using hJ) (by simpa only [lt] using hL)
 | .loop b, s, K, hJ, hL => by
  simp only [evJ, ev]
  have h := hL (b, Bf (Bh C b (ev C k b) K) k) (by simp [lt])
  rw [h]
 | .scope b, s, K, _, _ => rfl
 | .exit id, s, K, _, _ => rfl
 | .ret, s, K, _, _ => rfl
 | .goto l, s, K, _, _ => rfl
 | .label l, s, K, _, _ => rfl
 | .refuse y, s, K, _, _ => rfl
 | .rangeFunc f p x y, s, K, _, _ => rfl
def Et : Code → List Step1 → List Nat → Bool
 | _, [], _ => true
 | .seq a _, .l :: p, ks => Et a p ks
 | .seq _ b, .r :: p, ks => Et b p ks
 | .block _ b, .b :: p, ks => Et b p ks
 | .loop b, .b :: p, _ :: ks => Et b p ks
 | .cond _ x _, .t :: p, ks => Et x p ks
 | .cond _ _ y, .e :: p, ks => Et y p ks
 | _, _, _ => false
theorem Gz {C : Cfg} {J L : Jt R} {k : Nat} : ∀ (c : Code) (p : List Step1) (ks : List Nat) (K : XE → St → Option R), Et c p ks = true → OkJ J (jt C k c p ks K) → OkL L (lt C k c p ks K) →
  ctxJ C J L c p K = Be C k c p ks K ∧ OkJ J (jt C k (Ad c p) [] [] (Be C k c p ks K)) ∧ OkL L (lt C k (Ad c p) [] [] (Be C k c p ks K))
 | c, [], ks, K, hw, hJ, hL => by
  refine ⟨by unfold ctxJ Be; rfl, ?_, ?_⟩
  ·rw [show Ad c [] = c by unfold Ad; rfl, show Be C k c [] ks K = K by unfold Be; rfl]
   cases c <;> simpa only [jt] using hJ
  ·rw [show Ad c [] = c by unfold Ad; rfl, show Be C k c [] ks K = K by unfold Be; rfl]
   cases c <;> simpa only [lt] using hL
 | .seq a b, .l :: p, ks, K, hw, hJ, hL => by
  simp only [ctxJ, Be, Ad]
  simp only [jt, lt] at hJ hL
  have e : seqJ C J b (evJ C J L b) K = seqK C b (ev C k b) K := A6e
   (fun s => G5 b s K (fun x hx => hJ x (by simp [hx])) (fun x hx => hL x (by simp [hx])))
   (fun h hh => hJ (b, fun s => ev C k b s K) (by simp) h hh)
  rw [e]
  exact Gz a p ks _ hw (fun x hx => hJ x (by simp [hx])) (fun x hx => hL x (by simp [hx]))
 | .seq a b, .r :: p, ks, K, hw, hJ, hL => by
  simp only [ctxJ, Be, Ad]
  simp only [jt, lt] at hJ hL
  exact Gz b p ks _ hw (fun x hx => hJ x (by simp [hx])) (fun x hx => hL x (by simp [hx]))
 | .block id b, .b :: p, ks, K, hw, hJ, hL => by
  simp only [ctxJ, Be, Ad]
  simp only [jt, lt] at hJ hL
  exact Gz b p ks _ hw hJ hL
 | .loop b, .b :: p, j :: ks, K, hw, hJ, hL => by
  simp only [ctxJ, Be, Ad]
  simp only [jt, lt] at hJ hL
  have h := hL (b, Bf (Bh C b (ev C k b) K) j) (by simp)
  rw [h]
  exact Gz b p ks _ hw hJ (fun x hx => hL x (by simp [hx]))
 | .cond c x y, .t :: p, ks, K, hw, hJ, hL => by
  simp only [ctxJ, Be, Ad]
  simp only [jt, lt] at hJ hL
  exact Gz x p ks _ hw (fun x hx => hJ x (by simp [hx])) (fun x hx => hL x (by simp [hx]))
 | .cond c x y, .e :: p, ks, K, hw, hJ, hL => by
  simp only [ctxJ, Be, Ad]
  simp only [jt, lt] at hJ hL
  exact Gz y p ks _ hw (fun x hx => hJ x (by simp [hx])) (fun x hx => hL x (by simp [hx]))
def Rw (C : Cfg) (J L : Jt R) (c : Code) (p : List Step1) (K : XE → St → Option R) (s : St) : Option R := evJ C J L (Ad c p) s (ctxJ C J L c p K)
def keep (ids : List Nat) : List (Code × (St → Option R)) → Jt R
 | [] => []
 | x :: r => match Dg x.1 with
  | some i => if ids.contains i then (i, x.2) :: keep ids r else keep ids r
  | none => keep ids r
def D6 : Jt R → Bool
 | [] => true
 | x :: r => !(r.map Prod.fst).contains x.1 && D6 r
theorem Aoa : ∀ {l : Jt R} {x : Nat × (St → Option R)}, D6 l = true → x ∈ l → K0 l x.1 = some x.2
 | y :: l, x, hk, hx => by
  simp only [D6, Bool.and_eq_true, Bool.not_eq_true', List.contains_eq_mem, decide_eq_false_iff_not] at hk
  simp only [K0]
  rcases List.mem_cons.1 hx with rfl | hx
  ·rw [if_pos rfl]
  ·rw [if_neg]
   ·exact Aoa hk.2 hx
   ·intro e
    exact hk.1 (List.mem_map.2 ⟨x, hx, e.symm⟩)
theorem A4n : ∀ {l : Jt R} {i : Nat} {g : St → Option R}, K0 l i = some g → (i, g) ∈ l
 | x :: l, i, g, h => by
  simp only [K0] at h
  split at h
  ·rename_i e; cases h; subst e; exact List.mem_cons_self
  ·exact List.mem_cons_of_mem _ (A4n h)
theorem An5 {ids : List Nat} : ∀ {l : List (Code × (St → Option R))} {x : Code × (St → Option R)} {i : Nat}, x ∈ l → Dg x.1 = some i → i ∈ ids → (i, x.2) ∈ keep ids l
 | y :: l, x, i, hx, hi, hm => by
  simp only [keep]
  rcases List.mem_cons.1 hx with rfl | hx
  ·rw [hi]
   simp [hm]
  ·have := An5 hx hi hm
   split
   ·split
    ·exact List.mem_cons_of_mem _ this
    ·exact this
   ·exact this
theorem Wa {ids : List Nat} : ∀ {l : List (Code × (St → Option R))} {x : Nat × (St → Option R)}, x ∈ keep ids l → x.1 ∈ ids
 | y :: l, x, h => by
  simp only [keep] at h
  split at h
  ·split at h
   ·rename_i hm
    rcases List.mem_cons.1 h with rfl | h
    ·simpa using hm
    ·exact Wa h
   ·exact Wa h
  ·exact Wa h
theorem Bil {ids : List Nat} {l : List (Code × (St → Option R))} (hk : D6 (keep ids l) = true) : OkJ (keep ids l) l := by
 intro x hx g hg
 unfold E1 at hg
 obtain ⟨i, hi, h2⟩ := Option.bind_eq_some_iff.1 hg
 have hm := Wa (A4n h2)
 have := Aoa hk (An5 hx hi hm)
 rw [h2] at this
 cases this
 rfl
def Qo (ids : List Nat) (l : List (Code × (St → Option R))) : Bool := l.all fun x => match Dg x.1 with | some i => ids.contains i | none => false
theorem Bim {ids : List Nat} {l : List (Code × (St → Option R))} (hk : D6 (keep ids l) = true) (ha : Qo ids l = true) : OkL (keep ids l) l := by
 intro x hx
 have h := List.all_eq_true.1 ha x hx
 cases hi : Dg x.1 with
 | none => rw [hi] at h; cases h
 | some i =>
  rw [hi] at h
  unfold E1
  rw [hi]
  exact Aoa hk (An5 hx hi (by simpa using h))
theorem Bc3 {C : Cfg} {k : Nat} {c : Code} {p : List Step1} {ks : List Nat} {K : XE → St → Option R} (s : St) (js ls : List Nat) {J L : Jt R}
  (hw : Et c p ks = true) (hJ : keep js (jt C k c p ks K) = J) (hL : keep ls (lt C k c p ks K) = L) (h1 : D6 J = true) (h2 : D6 L = true) (h3 : Qo ls (lt C k c p ks K) = true) :
  evAt C k c p ks K s = Rw C J L c p K s := by
 subst hJ
 subst hL
 obtain ⟨e, a, b⟩ := Gz c p ks K hw (Bil h1) (Bim h2 h3)
 unfold evAt Rw
 rw [e, G5 _ _ _ a b]
end
def Dn : List (Nat × List Sig) → Nat → List Sig
 | [], _ => []
 | x :: r, i => if x.1 = i then x.2 else Dn r i
def AllS (P : Program) (g : Nat) : List Sig → Prop
 | [] => True
 | s :: r => Af P g s ∧ AllS P g r
def Hw (P : Program) : List (Nat × List Sig) → Prop
 | [] => True
 | x :: r => AllS P x.1 x.2 ∧ Hw P r
theorem Are {P : Program} {g : Nat} : ∀ {l : List Sig}, AllS P g l → ∀ s ∈ l, Af P g s
 | s :: r, h, x, hx => by
  rcases List.mem_cons.1 hx with rfl | hx
  ·exact h.1
  ·exact Are h.2 x hx
theorem Ll {P : Program} : ∀ {l : List (Nat × List Sig)}, Hw P l → ∀ g, ∀ s ∈ Dn l g, Af P g s
 | [], h, g, s, hs => by cases hs
 | (n, l) :: r, h, g, s, hs => by
  simp only [Dn] at hs
  split at hs
  ·rename_i e; subst e; exact Are h.1 s hs
  ·exact Ll h.2 g s hs
theorem fn_ok {C : Cfg} {l : List (Nat × List Sig)} (he : C.env = Dn l) (hl : Hw C.P l) (hm : C.P.follows .mixedOrders = true) (k : Nat) {g : Nat} {fn : Func} (hf : C.P.funcs[g]? = some fn) (hname : (fn.name == "runtime.NumGoroutine") = false)
  (hb : fn.body = some (Au fn)) (kin kout : Sk) (hnB : C.npB = kin.boxes.length) (hnO : C.npO = kin.owns.length) (hlB : C.npB ≤ N0) (hlO : C.npO ≤ N0) : Af C.P g ⟨kin, kout, Ck kin.tys kout.tys (Ac C k fn kin kout)⟩ := by
 have hE : Bp C := by
  intro g s hs
  rw [he] at hs
  exact Ll hl g s hs
 exact Bem hE (Mo hm hE) k hf hname hb kin kout hnB hnO hlB hlO
theorem fn2_ok {C : Cfg} {l : List (Nat × List Sig)} (he : C.env = Dn l) (hl : Hw C.P l) (hm : C.P.follows .mixedOrders = true) (k : Nat) {g : Nat} {fn : Func} (hf : C.P.funcs[g]? = some fn) (hname : (fn.name == "runtime.NumGoroutine") = false)
  (hb : fn.body = some (Au fn)) (kin kout k2 : Sk) (hnB : C.npB = kin.boxes.length) (hnO : C.npO = kin.owns.length) (hlB : C.npB ≤ N0) (hlO : C.npO ≤ N0) : Af C.P g ⟨kin, kout, F4 kin.tys kout.tys k2 (E2 C k fn kin kout k2)⟩ := by
 have hE : Bp C := by
  intro g s hs
  rw [he] at hs
  exact Ll hl g s hs
 exact Bel hE (Mo hm hE) k hf hname hb kin kout k2 hnB hnO hlB hlO
def rdA {α : Type} (d : α) (xs : List α) (i : Nat) : α := xs.getD i d
def appB (b m n : Nat) : Bool := decide ((m + n) * b ≤ 140737488355328) && decide (m + n ≤ maxLen)
section
variable {P : Program} {F : Nat → Prop} {s s' : St} {G : Gm} {w w' : World} {vals : List Value}
theorem K5 {s : St} {G : Gm} {k : Nat} (hb : s.boxes = []) (ho : s.owns = []) : ¬ Live s G k := by
 rintro (⟨b, ls, h, _⟩ | ⟨l, o, h, _⟩)
 ·simp [Ae, hb] at h
 ·simp [Aa, ho] at h
theorem Bhv {s : St} (hb : s.boxes = []) (ho : s.owns = []) (hF : ∀ k, F k → k < w.heap.size) (hg : ∀ x ∈ gTab ++ G.fx, ∃ et fr, w.heap[x.1]? = some (.cells x.2 et fr)) (hs : All2 (HA (HR F s G w)) s.slots vals) : Holds F s G vals w where
 slots := hs
 box := fun b ls h => by simp [Ae, hb] at h
 own := fun l o h => by simp [Aa, ho] at h
 bb := fun b b' ls ls' h => by simp [Ae, hb] at h
 bo := fun b ls l o h => by simp [Ae, hb] at h
 oo := fun l l' o o' k h => by simp [Aa, ho] at h
 nF := fun k h => absurd h (K5 hb ho)
 Flt := hF
 ty := fun b ls h => by simp [Ae, hb] at h
 gl := fun x hx => ⟨K5 hb ho, hg x hx⟩
theorem Aco {k : Sk} {ps : List PL} (h : k.boxes = []) : (enc k 0 ps).boxes = [] := by simp [enc, h, Iz]
theorem Acq {k : Sk} {ps : List PL} (h : k.owns = []) : (enc k 0 ps).owns = [] := by simp [enc, h, Ek]
theorem ha_bool {b : Bool} {v : Value} (h : HA (HR F s G w) (lf (.pv ⟨.bool, b⟩)) v) : v = .bool b := Ga (w := w) (G := G) (ok := okS F s G w) (os := s.owns) h
end
end Go.Proofs.YtgmpjapnhdilaaaGreatV
