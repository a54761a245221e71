import Derived.Test.YtghmhkpgdmgepaaV19
/-! The V engine, 20: behind a call. -/
set_option linter.unusedVariables false
set_option linter.unusedSimpArgs false
namespace Go.Proofs.YtghmhkpgdmgepaaV
open Go Go.RowKit

def AV.ls : AV → List L
  | .dead => []
  | .cv c => c.leaves
  | .tup cs => cs.flatMap CV.leaves
theorem HC.imp_ls {R S : L → Value → Prop} {c : CV} {v : Value} (f : ∀ l ∈ c.leaves, ∀ v, R l v → S l v) (h : HC R c v) : HC S c v := by
  cases c with
  | lf l => exact f l (by simp [CV.leaves]) _ h
  | agg ls => obtain ⟨cs, rfl, h⟩ := h; exact ⟨cs, rfl, h.imp_mem fun a b ha hr => f a ha b hr⟩
theorem HA.imp_ls {R S : L → Value → Prop} {a : AV} {v : Value} (f : ∀ l ∈ a.ls, ∀ v, R l v → S l v) (h : HA R a v) : HA S a v := by
  cases a with
  | dead => trivial
  | cv c => exact HC.imp_ls f h
  | tup cs =>
    obtain ⟨vs, rfl, h⟩ := h
    exact ⟨vs, rfl, h.imp_mem fun a b ha hr => HC.imp_ls (fun l hl => f l (List.mem_flatMap.2 ⟨a, ha, hl⟩)) hr⟩

def pos : List Nat → Nat → Option Nat
  | [], _ => none
  | x :: r, b => if x = b then some 0 else (pos r b).map (· + 1)
theorem pos_some : ∀ {r : List Nat} {b i : Nat}, pos r b = some i → r[i]? = some b
  | [], _, _, h => by cases h
  | x :: r, b, i, h => by
    unfold pos at h
    split at h
    · rename_i e; cases h; simp [e]
    · obtain ⟨j, hj, rfl⟩ := Option.map_eq_some_iff.1 h
      simpa using pos_some hj
theorem pos_none : ∀ {r : List Nat} {b : Nat}, pos r b = none → ∀ i : Nat, r[i]? ≠ some b
  | [], _, _, i, hi => by simp at hi
  | x :: r, b, h, i, hi => by
    unfold pos at h
    split at h
    · cases h
    · rename_i e
      have h2 : pos r b = none := by simpa using h
      cases i with
      | zero => simp at hi; exact e hi
      | succ i => exact pos_none h2 i (by simpa using hi)
theorem pos_of {r : List Nat} (hn : nodupB r = true) {b i : Nat} (h : r[i]? = some b) : pos r b = some i := by
  cases hp : pos r b with
  | none => exact absurd h (pos_none hp i)
  | some j => rw [nodupB_get hn (pos_some hp) h]

section
variable {P : Program} {F : Nat → Prop} {s s' : St} {G : Gm} {a : Act} {w w' : World} {v : AV} {vals : List Value}

theorem all_ls {p : L → Bool} (h : s.all p = true) : ∀ x ∈ s.slots, ∀ l ∈ x.ls, p l = true := by
  intro x hx l hl
  have h2 := all_slots h x hx
  cases x with
  | dead => cases hl
  | cv c => exact List.all_eq_true.1 h2 l hl
  | tup cs =>
    obtain ⟨c, hc, hl⟩ := List.mem_flatMap.1 hl
    exact List.all_eq_true.1 (List.all_eq_true.1 h2 c hc) l hl

theorem chkB_some : ∀ {oB : List (Option Nat)} {rB : List Nat}, chkB s oB rB = true → oB.length = rB.length ∧ ∀ (i x : Nat), rB[i]? = some x → oB[i]? = some (some x) ∨ (oB[i]? = some none ∧ freshB s x = true ∧ N0 ≤ x)
  | [], [], _ => ⟨rfl, fun i x h => by simp at h⟩
  | some b :: r, y :: q, h => by
    simp only [chkB, Bool.and_eq_true, beq_iff_eq] at h
    obtain ⟨rfl, h2⟩ := h
    obtain ⟨e, f⟩ := chkB_some h2
    refine ⟨by simp [e], fun i x hi => ?_⟩
    cases i with
    | zero => simp at hi; subst hi; exact .inl (by simp)
    | succ i => simpa using f i x (by simpa using hi)
  | none :: r, y :: q, h => by
    simp only [chkB, Bool.and_eq_true, decide_eq_true_eq] at h
    obtain ⟨⟨h1, h3⟩, h2⟩ := h
    obtain ⟨e, f⟩ := chkB_some h2
    refine ⟨by simp [e], fun i x hi => ?_⟩
    cases i with
    | zero => simp at hi; subst hi; exact .inr ⟨by simp, h1, h3⟩
    | succ i => simpa using f i x (by simpa using hi)
  | [], _ :: _, h => by cases h
  | some _ :: _, [], h => by cases h
  | none :: _, [], h => by cases h
theorem chkO_some : ∀ {oB : List (Option Nat)} {rB : List Nat}, chkO s oB rB = true → oB.length = rB.length ∧ ∀ (i x : Nat), rB[i]? = some x → oB[i]? = some (some x) ∨ (oB[i]? = some none ∧ freshO s x = true ∧ N0 ≤ x)
  | [], [], _ => ⟨rfl, fun i x h => by simp at h⟩
  | some b :: r, y :: q, h => by
    simp only [chkO, Bool.and_eq_true, beq_iff_eq] at h
    obtain ⟨rfl, h2⟩ := h
    obtain ⟨e, f⟩ := chkO_some h2
    refine ⟨by simp [e], fun i x hi => ?_⟩
    cases i with
    | zero => simp at hi; subst hi; exact .inl (by simp)
    | succ i => simpa using f i x (by simpa using hi)
  | none :: r, y :: q, h => by
    simp only [chkO, Bool.and_eq_true, decide_eq_true_eq] at h
    obtain ⟨⟨h1, h3⟩, h2⟩ := h
    obtain ⟨e, f⟩ := chkO_some h2
    refine ⟨by simp [e], fun i x hi => ?_⟩
    cases i with
    | zero => simp at hi; subst hi; exact .inr ⟨by simp, h1, h3⟩
    | succ i => simpa using f i x (by simpa using hi)
  | [], _ :: _, h => by cases h
  | some _ :: _, [], h => by cases h
  | none :: _, [], h => by cases h
theorem chkT_some {o : St} : ∀ {oO : List (Option Nat)} {i0 : Nat}, chkT s o i0 oO = true → ∀ (i l : Nat) (x : Own), oO[i]? = some (some l) → ownAt o (i0 + i) = some x → ∃ y, ownAt s l = some y ∧ y.t = x.t
  | [], _, _, i, l, x, h, _ => by simp at h
  | some m :: r, i0, hc, i, l, x, h, hx => by
    simp only [chkT, Bool.and_eq_true] at hc
    cases i with
    | zero =>
      simp at h
      subst h
      have h1 := hc.1
      rw [show ownAt o i0 = some x from hx] at h1
      simp only at h1
      split at h1
      · rename_i y hy; exact ⟨y, hy, by simpa using h1⟩
      · cases h1
    | succ i => exact chkT_some hc.2 i l x (by simpa using h) (by rw [Nat.add_assoc, Nat.add_comm 1 i]; exact hx)
  | none :: r, i0, hc, i, l, x, h, hx => by
    simp only [chkT] at hc
    cases i with
    | zero => simp at h
    | succ i => exact chkT_some hc i l x (by simpa using h) (by rw [Nat.add_assoc, Nat.add_comm 1 i]; exact hx)

theorem setBoxes_get {o : St} {f : L → L} : ∀ {rB : List Nat} {s : St} {i0 b : Nat} {ls : List L}, nodupB rB = true → boxAt (setBoxes s o f i0 rB) b = some ls →
    (∃ i q, rB[i]? = some b ∧ boxAt o (i0 + i) = some q ∧ ls = q.map f) ∨ ((∀ i : Nat, rB[i]? ≠ some b) ∧ boxAt s b = some ls)
  | [], s, i0, b, ls, _, h => .inr ⟨fun i hi => by simp at hi, h⟩
  | x :: r, s, i0, b, ls, hn, h => by
    simp only [nodupB, Bool.and_eq_true, Bool.not_eq_true', List.contains_eq_mem, decide_eq_false_iff_not] at hn
    rcases setBoxes_get (rB := r) hn.2 h with ⟨i, q, h1, h2, h3⟩ | ⟨h1, h2⟩
    · exact .inl ⟨i + 1, q, by simpa using h1, by rw [Nat.add_comm i 1, ← Nat.add_assoc]; exact h2, h3⟩
    · unfold boxAt at h2
      simp only [List.getElem?_set] at h2
      split at h2
      · rename_i e
        subst e
        split at h2
        · simp only [Option.bind_some, id] at h2
          obtain ⟨q, hq, rfl⟩ := Option.map_eq_some_iff.1 h2
          exact .inl ⟨0, q, by simp, hq, rfl⟩
        · simp at h2
      · rename_i e
        refine .inr ⟨fun i hi => ?_, h2⟩
        cases i with
        | zero => simp at hi; exact e hi
        | succ i => exact h1 i (by simpa using hi)
theorem setBoxes_owns {o : St} {f : L → L} : ∀ {rB : List Nat} {s : St} {i0 : Nat}, (setBoxes s o f i0 rB).owns = s.owns ∧ (setBoxes s o f i0 rB).slots = s.slots
  | [], _, _ => ⟨rfl, rfl⟩
  | x :: r, s, i0 => by
    rw [setBoxes]
    exact setBoxes_owns (rB := r)
theorem setOwns_boxes {o : St} : ∀ {rO : List Nat} {s : St} {i0 : Nat}, (setOwns s o i0 rO).boxes = s.boxes ∧ (setOwns s o i0 rO).slots = s.slots
  | [], _, _ => ⟨rfl, rfl⟩
  | x :: r, s, i0 => by
    rw [setOwns]
    exact setOwns_boxes (rO := r)
theorem setOwns_get {o : St} : ∀ {rO : List Nat} {s : St} {i0 l : Nat} {x : Own}, nodupB rO = true → ownAt (setOwns s o i0 rO) l = some x →
    (∃ i, rO[i]? = some l ∧ ownAt o (i0 + i) = some x) ∨ ((∀ i : Nat, rO[i]? ≠ some l) ∧ ownAt s l = some x)
  | [], s, i0, b, ls, _, h => .inr ⟨fun i hi => by simp at hi, h⟩
  | m :: r, s, i0, l, x, hn, h => by
    simp only [nodupB, Bool.and_eq_true, Bool.not_eq_true', List.contains_eq_mem, decide_eq_false_iff_not] at hn
    rcases setOwns_get (rO := r) hn.2 h with ⟨i, h1, h2⟩ | ⟨h1, h2⟩
    · exact .inl ⟨i + 1, by simpa using h1, by rw [Nat.add_comm i 1, ← Nat.add_assoc]; exact h2⟩
    · unfold ownAt setOwn at h2
      simp only [List.getElem?_set] at h2
      split at h2
      · rename_i e
        subst e
        split at h2
        · exact .inl ⟨0, by simp, h2⟩
        · simp at h2
      · rename_i e
        refine .inr ⟨fun i hi => ?_, h2⟩
        cases i with
        | zero => simp at hi; exact e hi
        | succ i => exact h1 i (by simpa using hi)

/-- Flat data lie in no row. -/
theorem flat_rep {ok ok' : Nat → Prop} : ∀ {t : Ty} {x : t.den} {cs : List Value}, flatTy t = true → Rep w ok t x cs → Rep w ok' t x cs
  | .int _, _, _, _, h => by unfold Rep at h ⊢; exact h
  | .bool, _, _, _, h => by unfold Rep at h ⊢; exact h
  | .str, _, _, _, h => by unfold Rep at h ⊢; exact h
  | .nil, _, _, _, h => by unfold Rep at h ⊢; exact h
  | .slice e, _, _, hf, _ => by cases hf
  | .cons a b, _, _, hf, h => by
    simp only [flatTy, Bool.and_eq_true] at hf
    unfold Rep at h ⊢
    obtain ⟨c0, c1, rfl, h2, h3⟩ := h
    exact ⟨c0, c1, rfl, flat_rep hf.1 h2, flat_rep hf.2 h3⟩
theorem flat_flat : ∀ {t : Ty} {x : t.den}, flatTy t = true → ∀ p ∈ flat t x, flatTy p.t = true
  | .int _, _, h, p, hp => by simp [flat] at hp; subst hp; rfl
  | .bool, _, h, p, hp => by simp [flat] at hp; subst hp; rfl
  | .str, _, h, p, hp => by simp [flat] at hp; subst hp; rfl
  | .nil, _, h, p, hp => by simp [flat] at hp
  | .slice _, _, h, p, hp => by cases h
  | .cons a b, _, h, p, hp => by
    simp only [flatTy, Bool.and_eq_true] at h
    simp only [flat, List.mem_append] at hp
    rcases hp with hp | hp
    · exact flat_flat h.1 p hp
    · exact flat_flat h.2 p hp
theorem flat_row {ok ok' : Nat → Prop} {t : Ty} {xs : List t.den} {cs : List Value} (hf : flatTy t = true) (h : RepRow w ok t xs cs) : RepRow w ok' t xs cs := by
  refine All2.imp_mem h fun p v hp hr => ?_
  obtain ⟨x, _, hx⟩ := List.mem_flatMap.1 hp
  exact flat_rep (flat_flat hf p hx) hr

def retV (vs : List Value) : Value := match vs with | [v] => v | l => .tuple l.toArray

theorem retAV_holds {R : L → Value → Prop} {as : List AV} {vs : List Value} (h : All2 (HA R) as vs) {v : AV} (hv : retAV as = some v) : HA R v (retV vs) := by
  have key : ∀ (as : List AV) (vs : List Value) (cs : List CV), All2 (HA R) as vs → (as.foldr (fun a r => match a with | .cv c => r.map fun q => c :: q | _ => none) (some [])) = some cs → All2 (HC R) cs vs := by
    intro as
    induction as with
    | nil => intro vs cs h1 h2; cases h2; cases h1; exact .nil
    | cons a as ih =>
      intro vs cs h1 h2
      simp only [List.foldr_cons] at h2
      cases h1 with
      | cons h3 h4 =>
        split at h2
        · obtain ⟨q, hq, rfl⟩ := Option.map_eq_some_iff.1 h2
          exact .cons h3 (ih _ _ h4 hq)
        · cases h2
  unfold retAV at hv
  split at hv
  · cases hv
    cases h with
    | cons h1 h2 => cases h2; exact h1
  · rename_i hne
    obtain ⟨cs, hcs, rfl⟩ := Option.map_eq_some_iff.1 hv
    have h3 := key as vs cs h hcs
    unfold retV
    split
    · rename_i u
      exfalso
      cases h with
      | cons h1 h2 => cases h2; exact hne _ rfl
    · exact ⟨_, rfl, by simpa using h3⟩

theorem renPs_some {G1 G2 : Gm} {rB : List Nat} (hG : ∀ (b b' : Nat), rB[b]? = some b' → G2.bx b' = G1.bx b) : ∀ {x y : List (Nat × Nat)}, renPs rB x = some y → x.map (ptrV G1) = y.map (ptrV G2)
  | [], y, h => by cases h; rfl
  | p :: r, y, h => by
    simp only [renPs] at h
    obtain ⟨b, hb, h2⟩ := Option.bind_eq_some_iff.1 h
    obtain ⟨q, hq, rfl⟩ := Option.map_eq_some_iff.1 h2
    simp [ptrV, hG _ _ hb, renPs_some hG hq]

/-- What is there beside what went in. -/
def OldLive (s : St) (G : Gm) (oB oO : List (Option Nat)) (j : Nat) : Prop :=
  (∃ b ls, boxAt s b = some ls ∧ (∀ i : Nat, oB[i]? ≠ some (some b)) ∧ G.bx b = j) ∨ (∃ l x, ownAt s l = some x ∧ (∀ i : Nat, oO[i]? ≠ some (some l)) ∧ (G.ow l).ownBlock = some j)

theorem own_len {e : TypeId} {e' : TypeId} {sz sz' n n' : Nat} {v : Value} {cs cs' : List Value} {w w' : World} (h : w.ownsRow 0 e sz v n cs) (h' : w'.ownsRow 0 e' sz' v n' cs') : n = n' := by
  rcases h.2 with ⟨e1, e2⟩ | ⟨g, c, cur, e1, _⟩ <;> rcases h'.2 with ⟨f1, f2⟩ | ⟨g', c', cur', f1, _⟩
  · omega
  · rw [e1] at f1; cases f1
  · rw [e1] at f1; cases f1
  · rw [e1] at f1; cases f1; rfl

theorem backWith_sound (h : Holds F s G a.tmps.toList w) {s0 : St} {G0 : Gm} {F1 : Nat → Prop} {o : St} {G1 : Gm} {rv : List Value} (h1 : Holds F1 o G1 rv w') {nb no : Nat} (hst : Step nb no s0 G0 w o G1 w')
    {oB oO : List (Option Nat)} {rB rO : List Nat} {d : Nat}
    (hA : ∀ (i b : Nat), oB[i]? = some (some b) → i < nb ∧ G0.bx i = G.bx b ∧ G0.et i = G.et b) (hB : ∀ (i l : Nat), oO[i]? = some (some l) → i < no ∧ ∀ x, ownAt s0 i = some x → G0.ow i = G.ow l)
    (hL0 : ∀ j, Live s0 G0 j → Live s G j) (hF : ∀ j, F j → F1 j) (hF2 : (∀ j, OldLive s G oB oO j → F1 j) ∨ flatSt o = true) (hold : ∀ j, OldLive s G oB oO j → ¬ Live s0 G0 j)
    (hb : backWith s o d oB oO rB rO = some s') : ∃ G2, Holds F s' G2 (a.put (some d) (retV rv)).tmps.toList w' ∧ Step N0 N0 s G w s' G2 w' := by
  unfold backWith at hb
  split at hb
  · rename_i hcond
    simp only [Bool.and_eq_true] at hcond
    obtain ⟨⟨⟨⟨hcB, hcO⟩, hcT⟩, hnB⟩, hnO⟩ := hcond
    obtain ⟨hlB, hgB⟩ := chkB_some hcB
    obtain ⟨hlO, hgO⟩ := chkO_some hcO
    have hgT := chkT_some (o := o) (i0 := 0) hcT
    simp only [Nat.zero_add] at hgT
    obtain ⟨rvA, hrv, rfl⟩ := Option.map_eq_some_iff.1 hb
    generalize hs3 : setOwns (setBoxes s o (renL o rB rO) 0 rB) o 0 rO = s3
    have hsl : s3.slots = s.slots := by rw [← hs3, setOwns_boxes.2, setBoxes_owns.2]
    have hbox : ∀ {b ls}, boxAt s3 b = some ls → (∃ i q, rB[i]? = some b ∧ boxAt o i = some q ∧ ls = q.map (renL o rB rO)) ∨ ((∀ i : Nat, rB[i]? ≠ some b) ∧ boxAt s b = some ls) := by
      intro b ls hb2
      rw [← hs3] at hb2
      have e : boxAt (setOwns (setBoxes s o (renL o rB rO) 0 rB) o 0 rO) b = boxAt (setBoxes s o (renL o rB rO) 0 rB) b := by unfold boxAt; rw [setOwns_boxes.1]
      rw [e] at hb2
      have := setBoxes_get hnB hb2
      simpa using this
    have hown : ∀ {l x}, ownAt s3 l = some x → (∃ i, rO[i]? = some l ∧ ownAt o i = some x) ∨ ((∀ i : Nat, rO[i]? ≠ some l) ∧ ownAt s l = some x) := by
      intro l x hx
      rw [← hs3] at hx
      have := setOwns_get hnO hx
      simp only [Nat.zero_add] at this
      rcases this with h2 | ⟨h2, h3⟩
      · exact .inl h2
      · refine .inr ⟨h2, ?_⟩
        unfold ownAt at h3 ⊢
        rw [setBoxes_owns.1] at h3
        exact h3
    let G2 : Gm := { bx := fun b => match pos rB b with | some i => G1.bx i | none => G.bx b, ow := fun l => match pos rO l with | some i => if (ownAt o i).isSome then G1.ow i else G.ow l | none => G.ow l, et := fun b => match pos rB b with | some i => G1.et i | none => G.et b }
    have g2b : ∀ (i b : Nat), rB[i]? = some b → G2.bx b = G1.bx i := fun i b hi => by simp only [G2, pos_of hnB hi]
    have g2b' : ∀ b, (∀ i : Nat, rB[i]? ≠ some b) → G2.bx b = G.bx b := fun b hi => by
      simp only [G2]
      split
      · rename_i i hp; exact absurd (pos_some hp) (hi i)
      · rfl
    have g2o : ∀ (i l : Nat) (x : Own), rO[i]? = some l → ownAt o i = some x → G2.ow l = G1.ow i := fun i l x hi hx => by simp only [G2, pos_of hnO hi, hx, Option.isSome_some, if_true]
    have g2o' : ∀ l, (∀ i : Nat, rO[i]? ≠ some l) → G2.ow l = G.ow l := fun l hi => by
      simp only [G2]
      split
      · rename_i i hp; exact absurd (pos_some hp) (hi i)
      · rfl
    -- what went in is where it was
    have g2bOld : ∀ b, (∀ i : Nat, rB[i]? = some b → oB[i]? = some none → False) → G2.bx b = G.bx b := by
      intro b hb2
      simp only [G2]
      split
      · rename_i i hp
        have hi := pos_some hp
        rcases hgB i b hi with h2 | ⟨h8, h3, _⟩
        · obtain ⟨h4, h5, _⟩ := hA i b h2
          rw [(hst.gb i h4).1, h5]
        · exact (hb2 i hi h8).elim
      · rfl
    have g2e : ∀ (i b : Nat), rB[i]? = some b → G2.et b = G1.et i := fun i b hi => by simp only [G2, pos_of hnB hi]
    have g2e' : ∀ b, (∀ i : Nat, rB[i]? ≠ some b) → G2.et b = G.et b := fun b hi => by
      simp only [G2]
      split
      · rename_i i hp; exact absurd (pos_some hp) (hi i)
      · rfl
    have g2eOld : ∀ b, (∀ i : Nat, rB[i]? = some b → oB[i]? = some none → False) → G2.et b = G.et b := by
      intro b hb2
      simp only [G2]
      split
      · rename_i i hp
        have hi := pos_some hp
        rcases hgB i b hi with h2 | ⟨h8, h3, _⟩
        · obtain ⟨h4, _, h5⟩ := hA i b h2
          rw [(hst.gb i h4).2, h5]
        · exact (hb2 i hi h8).elim
      · rfl
    have g2oOld : ∀ l, (∀ i : Nat, rO[i]? = some l → oO[i]? = some none → False) → G2.ow l = G.ow l := by
      intro l hl
      simp only [G2]
      split
      · rename_i i hp
        have hi := pos_some hp
        rcases hgO i l hi with h2 | ⟨h8, h3, _⟩
        · split
          · rename_i hsome
            obtain ⟨x, hx⟩ := Option.isSome_iff_exists.1 hsome
            obtain ⟨h4, h5⟩ := hB i l h2
            obtain ⟨⟨y, hy⟩, h6⟩ := hst.go i h4 x hx
            rw [h6, h5 y hy]
          · rfl
        · exact (hl i hi h8).elim
      · rfl
    have hsz := hst.keeps.size
    have npB : ∀ {b : Nat}, (∀ i : Nat, rB[i]? ≠ some b) → ∀ i : Nat, oB[i]? ≠ some (some b) := by
      intro b f1 i hi
      have hlt : i < rB.length := by rw [← hlB]; exact (List.getElem?_eq_some_iff.1 hi).1
      have hri : rB[i]? = some rB[i] := List.getElem?_eq_getElem hlt
      rcases hgB i _ hri with h2 | ⟨h2, _⟩
      · rw [hi] at h2; cases h2; exact f1 i hri
      · rw [hi] at h2; cases h2
    have npO : ∀ {l : Nat}, (∀ i : Nat, rO[i]? ≠ some l) → ∀ i : Nat, oO[i]? ≠ some (some l) := by
      intro b f1 i hi
      have hlt : i < rO.length := by rw [← hlO]; exact (List.getElem?_eq_some_iff.1 hi).1
      have hri : rO[i]? = some rO[i] := List.getElem?_eq_getElem hlt
      rcases hgO i _ hri with h2 | ⟨h2, _⟩
      · rw [hi] at h2; cases h2; exact f1 i hri
      · rw [hi] at h2; cases h2
    have hlive : ∀ j, Live s3 G2 j → OldLive s G oB oO j ∨ Live o G1 j := by
      rintro j (⟨b, ls, hb2, rfl⟩ | ⟨l, x, hx, hj⟩)
      · rcases hbox hb2 with ⟨i, q, f1, f2, f3⟩ | ⟨f1, f2⟩
        · exact .inr (.inl ⟨i, q, f2, (g2b i b f1).symm⟩)
        · exact .inl (.inl ⟨b, ls, f2, npB f1, (g2b' b f1).symm⟩)
      · rcases hown hx with ⟨i, f1, f2⟩ | ⟨f1, f2⟩
        · rw [g2o i l x f1 f2] at hj
          exact .inr (.inr ⟨i, x, f2, hj⟩)
        · rw [g2o' l f1] at hj
          exact .inl (.inr ⟨l, x, f2, npO f1, hj⟩)
    have holdL : ∀ j, OldLive s G oB oO j → Live s G j := by
      rintro j (⟨b, ls, hb2, _, rfl⟩ | ⟨l, x, hx, _, hj⟩)
      · exact .inl ⟨b, ls, hb2, rfl⟩
      · exact .inr ⟨l, x, hx, hj⟩
    have hfresh : ∀ j, Live o G1 j → Live s G j ∨ w.heap.size ≤ j := fun j hj => (hst.fresh j hj).imp (hL0 j) id
    have hblk : ∀ j, j < w.heap.size → ¬ Live s0 G0 j → w'.heap[j]? = w.heap[j]? := fun j hj hn => hst.keeps.block j hj hn
    have hapart : ∀ j, OldLive s G oB oO j → ¬ Live o G1 j := by
      intro j hj hL
      rcases hst.fresh j hL with h2 | h2
      · exact hold j hj h2
      · have := h.lt (holdL j hj); omega
    have hokOld : ∀ j, okS F s G w j → okS F s3 G2 w' j ∧ w'.heap[j]? = w.heap[j]? := by
      intro j hj
      refine ⟨⟨Nat.lt_of_lt_of_le hj.1 hsz, hj.2.1, fun hL => ?_⟩, hblk j hj.1 fun e => hj.2.2 (hL0 j e)⟩
      rcases hlive j hL with h2 | h2
      · exact hj.2.2 (holdL j h2)
      · rcases hfresh j h2 with h3 | h3
        · exact hj.2.2 h3
        · have := hj.1; omega
    have hlenO : ∀ (q : Nat) (x' : Own), (∀ i : Nat, rO[i]? = some q → oO[i]? = some none → False) → ownAt s3 q = some x' → ∃ x : Own, ownAt s q = some x ∧ x.xs.length ≤ x'.xs.length ∧ x.t.size = x'.t.size := by
      intro q x' hq hx'
      rcases hown hx' with ⟨i, f1, f2⟩ | ⟨f1, f2⟩
      · rcases hgO i q f1 with h2 | ⟨h8, h3, _⟩
        · obtain ⟨y, hy, hyt⟩ := hgT i q x' h2 f2
          obtain ⟨h4, h5⟩ := hB i q h2
          obtain ⟨⟨z, hz⟩, h6⟩ := hst.go i h4 x' f2
          obtain ⟨_, cs1, k1, _⟩ := h.own q y hy
          obtain ⟨_, cs2, k2, _⟩ := h1.own i x' f2
          rw [h6, h5 z hz] at k2
          exact ⟨y, hy, Nat.le_of_eq (own_len k1 k2), by rw [hyt]⟩
        · exact (hq i f1 h8).elim
      · exact ⟨x', f2, Nat.le_refl _, rfl⟩
    have hfB : ∀ (i b : Nat), rB[i]? = some b → oB[i]? = some none → freshB s b = true := by
      intro i b hi hn
      rcases hgB i b hi with h2 | ⟨_, h3, _⟩
      · rw [hn] at h2; cases h2
      · exact h3
    have hfO : ∀ (i b : Nat), rO[i]? = some b → oO[i]? = some none → freshO s b = true := by
      intro i b hi hn
      rcases hgO i b hi with h2 | ⟨_, h3, _⟩
      · rw [hn] at h2; cases h2
      · exact h3
    have hOldLeaf : ∀ l v, (∀ x, freshB s x = true → l.noB x = true) → (∀ x, freshO s x = true → l.noO x = true) → HR F s G w l v → HR F s3 G2 w' l v := by
      intro l v hnb hno hr
      refine HL.tr (G := G) hokOld (fun b hb2 => have hx : ∀ i : Nat, rB[i]? = some b → oB[i]? = some none → False := fun i hi hn => ?_; ⟨g2bOld b hx, g2eOld b hx⟩) (fun q hq => g2oOld q fun i hi hn => ?_) (fun q x' hq hx' => hlenO q x' (fun i hi hn => ?_) hx') hr
      · rw [hnb b (hfB i b hi hn)] at hb2; cases hb2
      · rw [hno q (hfO i q hi hn)] at hq; cases hq
      · rw [hno q (hfO i q hi hn)] at hq; cases hq
    -- leaves that came back
    have hpvNew : ∀ {p : PL} {v : Value}, (flatSt o = true → flatTy p.t = true) → RepL w' (okS F1 o G1 w') p v → RepL w' (okS F s3 G2 w') p v := by
      intro p v hfl hr
      rcases hF2 with hF3 | hF3
      · refine hr.mono fun j hj => ⟨⟨hj.1, fun e => hj.2.1 (hF j e), fun hL => ?_⟩, rfl⟩
        rcases hlive j hL with h2 | h2
        · exact hj.2.1 (hF3 j h2)
        · exact hj.2.2 h2
      · exact flat_rep (hfl hF3) hr
    have hNewLeaf : ∀ l v, (flatSt o = true → flatL l = true) → HR F1 o G1 w' l v → HR F s3 G2 w' (renL o rB rO l) v := by
      intro l v hfl hr
      cases l with
      | dead => exact hr
      | pv p => exact hpvNew (fun e => hfl e) hr
      | cst k => exact hr
      | ptr b k =>
        simp only [renL]
        split
        · rename_i b' hb2
          show v = _
          rw [g2b _ _ hb2]
          exact hr
        · exact hr.one
      | own l =>
        simp only [renL]
        split
        · rename_i x l' hx hl
          exact ⟨by rw [g2o _ _ _ hl hx]; exact hr.1, hr.2⟩
        · exact hr.one
      | ept l i k z =>
        simp only [renL]
        split
        · rename_i x l' hx hl
          obtain ⟨g, n, c, e, e2, e3⟩ := hr
          refine ⟨g, n, c, by rw [g2o _ _ _ hl hx]; exact e, e2, fun x' hx' => ?_⟩
          rcases hown (show ownAt s3 l' = some x' from hx') with ⟨i', f1, f2⟩ | ⟨f1, f2⟩
          · have := nodupB_get hnO f1 hl
            subst this
            exact e3 x' f2
          · exact absurd hl (f1 l)
        · exact hr.one
      | rpt ps =>
        rcases hF2 with hF3 | hF3
        · obtain ⟨ad, cs, e, hs1, ho1, hc1, hr1⟩ := hr
          have hmv : ∀ j, okS F1 o G1 w' j → okS F s3 G2 w' j ∧ w'.heap[j]? = w'.heap[j]? := fun j hj => ⟨⟨hj.1, fun e => hj.2.1 (hF j e), fun hL => by
            rcases hlive j hL with h2 | h2
            · exact hj.2.1 (hF3 j h2)
            · exact hj.2.2 h2⟩, rfl⟩
          exact ⟨ad, cs, e, hs1, (hmv _ ho1).1, hc1, hr1.imp fun _ _ h => h.mono hmv⟩
        · cases hfl hF3
      | fn f x y =>
        simp only [renL]
        split
        · rename_i x' y' hx hy
          show v = _
          rw [show v = _ from hr, renPs_some g2b hx, renPs_some g2b hy]
        · exact hr.one
      | ifc t ps g =>
        obtain ⟨cs, hr1, e⟩ := hr
        refine ⟨cs, hr1.imp_mem fun p u hp h => hpvNew (fun e => ?_) h, e⟩
        have := hfl e
        simp only [flatL] at this
        exact List.all_eq_true.1 this p hp
      | err b => exact hr
      | bld b t z =>
        simp only [renL]
        split
        · rename_i b' hb2
          refine ⟨?_, ?_⟩
          · rw [g2b _ _ hb2]; exact hr.1
          · rw [g2e _ _ hb2]; exact hr.2
        · exact hr.one
    have hflS : ∀ x ∈ o.slots, ∀ l ∈ x.ls, flatSt o = true → flatL l = true := by
      intro x hx l hl e
      simp only [flatSt, Bool.and_eq_true] at e
      exact all_ls e.1 x hx l hl
    have hflB : ∀ {b ls}, boxAt o b = some ls → ∀ l ∈ ls, flatSt o = true → flatL l = true := by
      intro b ls hb2 l hl e
      simp only [flatSt, Bool.and_eq_true] at e
      exact all_box e.1 hb2 l hl
    have hflO : ∀ {l x}, ownAt o l = some x → flatSt o = true → flatTy x.t = true := by
      intro l x hx e
      simp only [flatSt, Bool.and_eq_true] at e
      unfold ownAt at hx
      cases he : o.owns[l]? with
      | none => simp [he] at hx
      | some y =>
        simp [he] at hx
        subst hx
        have := List.all_eq_true.1 e.2 _ (List.mem_of_getElem? he)
        simpa using this
    have hnoB : ∀ x, freshB s x = true → s.all (L.noB x) = true := fun x hx => (freshB_some hx).2.2
    have hnoO : ∀ x, freshO s x = true → s.all (L.noO x) = true := fun x hx => (freshO_some hx).2.2
    have hH : Holds F s3 G2 a.tmps.toList w' := by
      refine ⟨?_, ?_, ?_, ?_, ?_, ?_, ?_, ?_, ?_⟩
      · rw [hsl]
        exact h.slots.imp_mem fun x u hx ha => HA.imp_ls (fun l hl v hr => hOldLeaf l v (fun y hy => all_ls (hnoB y hy) x hx l hl) (fun y hy => all_ls (hnoO y hy) x hx l hl) hr) ha
      · intro b ls hb2
        rcases hbox hb2 with ⟨i, q, f1, f2, rfl⟩ | ⟨f1, f2⟩
        · obtain ⟨cs, et, k1, k2⟩ := h1.box i q f2
          refine ⟨cs, et, by rw [g2b i b f1]; exact k1, All2.map_left (k2.imp_mem fun l u hl hr => hNewLeaf l u (hflB f2 l hl) hr)⟩
        · obtain ⟨cs, et, k1, k2⟩ := h.box b ls f2
          refine ⟨cs, et, ?_, k2.imp_mem fun l u hl hr => hOldLeaf l u (fun y hy => all_box (hnoB y hy) f2 l hl) (fun y hy => all_box (hnoO y hy) f2 l hl) hr⟩
          have hOL : OldLive s G oB oO (G.bx b) := .inl ⟨b, ls, f2, npB f1, rfl⟩
          rw [g2b' b f1, hblk _ (Array.getElem?_eq_some_iff.1 k1).1 (hold _ hOL)]
          exact k1
      · intro l x hx
        rcases hown hx with ⟨i, f1, f2⟩ | ⟨f1, f2⟩
        · obtain ⟨h0, cs, k1, k2⟩ := h1.own i x f2
          refine ⟨h0, cs, by rw [g2o i l x f1 f2]; exact k1, ?_⟩
          rcases hF2 with hF3 | hF3
          · exact All2.imp_mem k2 fun p u hp hr => by
              refine RepL.mono (fun j hj => ⟨⟨hj.1, fun e => hj.2.1 (hF j e), fun hL => ?_⟩, rfl⟩) hr
              rcases hlive j hL with h2 | h2
              · exact hj.2.1 (hF3 j h2)
              · exact hj.2.2 h2
          · exact flat_row (hflO f2 hF3) k2
        · obtain ⟨h0, cs, k1, k2⟩ := h.own l x f2
          refine ⟨h0, cs, ?_, k2.mono hokOld⟩
          rw [g2o' l f1]
          exact ownsRow_block k1 fun j hj => hblk j (k1.lt j hj).2 (hold j (.inr ⟨l, x, f2, npO f1, hj⟩))
      · intro b b' ls ls' hb2 hb2' e
        rcases hbox hb2 with ⟨i, q, f1, f2, f3⟩ | ⟨f1, f2⟩ <;> rcases hbox hb2' with ⟨i', q', g1, g2, g3⟩ | ⟨g1, g2⟩
        · rw [g2b i b f1, g2b i' b' g1] at e
          have := h1.bb i i' q q' f2 g2 e
          subst this
          rw [f1] at g1
          cases g1
          rfl
        · rw [g2b i b f1, g2b' b' g1] at e
          exact absurd (.inl ⟨i, q, f2, e⟩) (hapart (G.bx b') (.inl ⟨b', ls', g2, npB g1, rfl⟩))
        · rw [g2b' b f1, g2b i' b' g1] at e
          exact absurd (.inl ⟨i', q', g2, e.symm⟩) (hapart (G.bx b) (.inl ⟨b, ls, f2, npB f1, rfl⟩))
        · rw [g2b' b f1, g2b' b' g1] at e
          exact h.bb b b' ls ls' f2 g2 e
      · intro b ls l x hb2 hx e
        rcases hbox hb2 with ⟨i, q, f1, f2, f3⟩ | ⟨f1, f2⟩ <;> rcases hown hx with ⟨i', g1, g2⟩ | ⟨g1, g2⟩
        · rw [g2b i b f1, g2o i' l x g1 g2] at e
          exact h1.bo i q i' x f2 g2 e
        · rw [g2b i b f1, g2o' l g1] at e
          exact hapart (G1.bx i) (.inr ⟨l, x, g2, npO g1, e⟩) (.inl ⟨i, q, f2, rfl⟩)
        · rw [g2b' b f1, g2o i' l x g1 g2] at e
          exact hapart (G.bx b) (.inl ⟨b, ls, f2, npB f1, rfl⟩) (.inr ⟨i', x, g2, e⟩)
        · rw [g2b' b f1, g2o' l g1] at e
          exact h.bo b ls l x f2 g2 e
      · intro l l' x x' j hx hx' e e'
        have hOL : ∀ {l : Nat} {x : Own}, (∀ i : Nat, rO[i]? ≠ some l) → ownAt s l = some x → (G.ow l).ownBlock = some j → OldLive s G oB oO j := fun {l x} g1 g2 e => .inr ⟨l, x, g2, npO g1, e⟩
        rcases hown hx with ⟨i, f1, f2⟩ | ⟨f1, f2⟩ <;> rcases hown hx' with ⟨i', g1, g2⟩ | ⟨g1, g2⟩
        · rw [g2o i l x f1 f2] at e
          rw [g2o i' l' x' g1 g2] at e'
          have := h1.oo i i' x x' j f2 g2 e e'
          subst this
          rw [f1] at g1
          cases g1
          rfl
        · rw [g2o i l x f1 f2] at e
          rw [g2o' l' g1] at e'
          exact absurd (.inr ⟨i, x, f2, e⟩) (hapart j (hOL g1 g2 e'))
        · rw [g2o' l f1] at e
          rw [g2o i' l' x' g1 g2] at e'
          exact absurd (.inr ⟨i', x', g2, e'⟩) (hapart j (hOL f1 f2 e))
        · rw [g2o' l f1] at e
          rw [g2o' l' g1] at e'
          exact h.oo l l' x x' j f2 g2 e e'
      · intro j hj hF'
        rcases hlive j hj with h2 | h2
        · exact h.nF j (holdL j h2) hF'
        · exact h1.nF j h2 (hF j hF')
      · exact fun j hj => Nat.lt_of_lt_of_le (h.Flt j hj) hsz
      · intro b ls hb2
        rcases hbox hb2 with ⟨i, q, f1, f2, _⟩ | ⟨f1, f2⟩
        · rw [g2b i b f1, g2e i b f1]
          exact h1.ty i q f2
        · obtain ⟨cs, et, k1, k2⟩ := h.box b ls f2
          have hOL : OldLive s G oB oO (G.bx b) := .inl ⟨b, ls, f2, npB f1, rfl⟩
          rw [g2b' b f1, g2e' b f1]
          intro cs3 et3 fr3 hc3
          rw [hblk _ (Array.getElem?_eq_some_iff.1 k1).1 (hold _ hOL)] at hc3
          exact h.ty b ls f2 cs3 et3 fr3 hc3
    have hrvH : HA (HR F s3 G2 w') rvA (retV rv) := by
      refine retAV_holds (All2.map_left (h1.slots.imp_mem fun x u hx ha => ?_)) hrv
      have h7 := HA.imp_ls (S := fun l v => HR F s3 G2 w' (renL o rB rO l) v) (fun l hl v hr => hNewLeaf l v (hflS x hx l hl) hr) ha
      exact HA.map (R := fun l v => HR F s3 G2 w' (renL o rB rO l) v) (S := HR F s3 G2 w') (g := renL o rB rO) (fun _ _ h => h) h7
    refine ⟨G2, hH.put (some d) hrvH, Step.trans (s1 := s3) ⟨⟨hst.keeps.os, hst.keeps.tape, hst.keeps.output, hsz, fun j hj hn => hblk j hj fun e => hn (hL0 j e)⟩, fun j hj => ?_, fun b hb2 => have hx : ∀ i : Nat, rB[i]? = some b → oB[i]? = some none → False := fun i hi hn => ?_; ⟨g2bOld b hx, g2eOld b hx⟩, fun l hl x hx => ?_⟩ (Step.put _ _)⟩
    · rcases hlive j hj with h2 | h2
      · exact .inl (holdL j h2)
      · exact hfresh j h2
    · rcases hgB i b hi with h2 | ⟨_, _, h3⟩
      · rw [hn] at h2; cases h2
      · omega
    · have hne : ∀ i : Nat, rO[i]? = some l → oO[i]? = some none → False := by
        intro i hi hn
        rcases hgO i l hi with h2 | ⟨_, _, h3⟩
        · rw [hn] at h2; cases h2
        · omega
      obtain ⟨y, hy, _⟩ := hlenO l x hne hx
      exact ⟨⟨y, hy⟩, g2oOld l hne⟩
  · cases hb

end
end Go.Proofs.YtghmhkpgdmgepaaV
