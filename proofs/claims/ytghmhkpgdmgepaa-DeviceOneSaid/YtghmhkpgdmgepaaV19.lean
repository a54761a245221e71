import Derived.Test.YtghmhkpgdmgepaaV18
/-! The V engine, 19: a state told as another. -/
set_option linter.unusedVariables false
set_option linter.unusedSimpArgs false
namespace Go.Proofs.YtghmhkpgdmgepaaV
open Go Go.RowKit

section
variable {P : Program} {F : Nat → Prop} {s s' : St} {G : Gm} {a : Act} {w w' : World} {o : Oper} {v : AV} {vals : List Value}

/-- Where the new numbers are. -/
def coG (G : Gm) (mB : List Nat) (mO : List (Option Nat)) : Gm :=
  { bx := fun b => G.bx (mB.getD b 0), ow := fun l => match mO.getD l none with | some l' => G.ow l' | none => .slice none 0 0, et := fun b => G.et (mB.getD b 0) }
/-- What is not told on. -/
def KeptB (s : St) (G : Gm) (br bx : List Nat) (mB : List Nat) (mO : List (Option Nat)) (j : Nat) : Prop :=
  (∃ b ∈ mB ++ bx, ∃ ls, boxAt s b = some ls ∧ G.bx b = j) ∨ (∃ l ∈ somes mO ++ br, ∃ x, ownAt s l = some x ∧ (G.ow l).ownBlock = some j)
def FL (F : Nat → Prop) (s : St) (G : Gm) (br bx : List Nat) (mB : List Nat) (mO : List (Option Nat)) (j : Nat) : Prop := F j ∨ (Live s G j ∧ ¬ KeptB s G br bx mB mO j)

theorem mem_somes : ∀ {l : List (Option Nat)} {i x : Nat}, l[i]? = some (some x) → x ∈ somes l
  | [], i, x, h => by simp at h
  | none :: r, 0, x, h => by simp at h
  | some y :: r, 0, x, h => by simp at h; subst h; simp [somes]
  | none :: r, i + 1, x, h => by simp [somes]; exact mem_somes (i := i) (by simpa using h)
  | some y :: r, i + 1, x, h => by simp only [somes, List.mem_cons]; exact .inr (mem_somes (i := i) (by simpa using h))
theorem nodupB_get : ∀ {l : List Nat}, nodupB l = true → ∀ {i j x : Nat}, l[i]? = some x → l[j]? = some x → i = j
  | [], _, i, j, x, h, _ => by simp at h
  | y :: r, hn, i, j, x, h1, h2 => by
    simp only [nodupB, Bool.and_eq_true, Bool.not_eq_true', List.contains_eq_mem, decide_eq_false_iff_not] at hn
    cases i with
    | zero =>
      cases j with
      | zero => rfl
      | succ j => simp at h1 h2; subst h1; exact absurd (List.mem_of_getElem? h2) hn.1
    | succ i =>
      cases j with
      | zero => simp at h1 h2; subst h2; exact absurd (List.mem_of_getElem? h1) hn.1
      | succ j => rw [nodupB_get hn.2 (i := i) (j := j) (by simpa using h1) (by simpa using h2)]
theorem nodupO_get : ∀ {l : List (Option Nat)}, nodupB (somes l) = true → ∀ {i j x : Nat}, l[i]? = some (some x) → l[j]? = some (some x) → i = j
  | [], _, i, j, x, h, _ => by simp at h
  | none :: r, hn, i, j, x, h1, h2 => by
    cases i with
    | zero => simp at h1
    | succ i =>
      cases j with
      | zero => simp at h2
      | succ j => rw [nodupO_get (l := r) hn (i := i) (j := j) (by simpa using h1) (by simpa using h2)]
  | some y :: r, hn, i, j, x, h1, h2 => by
    simp only [somes, nodupB, Bool.and_eq_true, Bool.not_eq_true', List.contains_eq_mem, decide_eq_false_iff_not] at hn
    cases i with
    | zero =>
      cases j with
      | zero => rfl
      | succ j => simp at h1 h2; subst h1; exact absurd (mem_somes (i := j) h2) hn.1
    | succ i =>
      cases j with
      | zero => simp at h1 h2; subst h2; exact absurd (mem_somes (i := i) h1) hn.1
      | succ j => rw [nodupO_get hn.2 (i := i) (j := j) (by simpa using h1) (by simpa using h2)]

theorem bTo_some {mB : List Nat} {b b' : Nat} (h : bTo mB b b' = true) : mB[b]? = some b' := by
  unfold bTo at h
  split at h
  · rename_i x e; rw [e]; simp at h; rw [h]
  · cases h
theorem isTo_some {mO : List (Option Nat)} {l l' : Nat} (h : isTo mO l l' = true) : mO[l]? = some (some l') := by
  unfold isTo at h
  split at h
  · rename_i x e; rw [e]; simp at h; rw [h]
  · cases h
theorem isNil_some {mO : List (Option Nat)} {l : Nat} (h : isNil mO l = true) : mO[l]? = some none := by
  unfold isNil at h
  split at h
  · assumption
  · cases h
theorem ptrsTo_some (G : Gm) (mB : List Nat) (mO : List (Option Nat)) : ∀ (a b : List (Nat × Nat)), ptrsTo mB a b = true → b.map (ptrV G) = a.map (ptrV (coG G mB mO))
  | [], [], _ => rfl
  | x :: r, y :: q, h => by
    simp only [ptrsTo, Bool.and_eq_true] at h
    obtain ⟨⟨h1, h2⟩, h3⟩ := h
    simp only [List.map_cons, ptrsTo_some G mB mO r q h3, List.cons.injEq, and_true]
    split at h1
    · rename_i z hz
      simp at h1 h2
      simp [ptrV, coG, List.getD, hz, h1, h2]
    · cases h1
  | [], _ :: _, h => by cases h
  | _ :: _, [], h => by cases h

theorem coAs_len {br bx mB mO} : ∀ {ks : List SA} {as bs : List AV}, coAs s br bx mB mO ks as = some bs → as.length = bs.length
  | [], [], bs, h => by cases h; rfl
  | k :: r, l :: q, bs, h => by
    simp only [coAs] at h
    obtain ⟨x, _, h2⟩ := Option.bind_eq_some_iff.1 h
    obtain ⟨y, h3, h4⟩ := Option.bind_eq_some_iff.1 h2
    cases h4
    simp [coAs_len h3]
  | [], _ :: _, _, h => by cases h
  | _ :: _, [], _, h => by cases h

/-- The boxes, number by number. -/
theorem coBs_get {br bx mB mO} : ∀ {ks : List (List SL)} {bs : List Nat} {out : List (Option (List L))}, coBs s br bx mB mO ks bs = some out → out.length = bs.length ∧ ks.length = bs.length ∧ ∀ (i : Nat) (x : Option (List L)), out[i]? = some x →
    ∃ b ls ls' k, bs[i]? = some b ∧ ks[i]? = some k ∧ boxAt s b = some ls ∧ coLs s br bx mB mO k ls = some ls' ∧ x = some ls'
  | [], [], out, h => by cases h; exact ⟨rfl, rfl, fun i x hx => by simp at hx⟩
  | k :: r, b :: q, out, h => by
    simp only [coBs] at h
    obtain ⟨ls, h1, h2⟩ := Option.bind_eq_some_iff.1 h
    obtain ⟨ls', h3, h4⟩ := Option.bind_eq_some_iff.1 h2
    obtain ⟨c, h5, h6⟩ := Option.bind_eq_some_iff.1 h4
    cases h6
    obtain ⟨e1, e2, e3⟩ := coBs_get h5
    refine ⟨by simp [e1], by simp [e2], fun i x hx => ?_⟩
    cases i with
    | zero => simp at hx; exact ⟨b, ls, ls', k, by simp, by simp, h1, h3, hx.symm⟩
    | succ i =>
      obtain ⟨b', l1, l2, k', f1, f2, f3, f4, f5⟩ := e3 i x (by simpa using hx)
      exact ⟨b', l1, l2, k', by simpa using f1, by simpa using f2, f3, f4, f5⟩
  | [], _ :: _, _, h => by cases h
  | _ :: _, [], _, h => by cases h
theorem coOs_get : ∀ {ks : List (Option (Nat × Ty))} {ms : List (Option Nat)} {out : List (Option Own)}, coOs s ks ms = some out → out.length = ms.length ∧ ks.length = ms.length ∧ ∀ (i : Nat) (x : Own), out[i]? = some (some x) →
    (∃ k, ks[i]? = some (some k)) ∧ ((∃ l, ms[i]? = some (some l) ∧ ownAt s l = some x) ∨ (ms[i]? = some none ∧ x.xs = [] ∧ 0 < x.t.size))
  | [], [], out, h => by cases h; exact ⟨rfl, rfl, fun i x hx => by simp at hx⟩
  | some k :: r, some l :: q, out, h => by
    simp only [coOs] at h
    obtain ⟨y, h1, h2⟩ := Option.bind_eq_some_iff.1 h
    split at h2
    · obtain ⟨c, h5, h6⟩ := Option.bind_eq_some_iff.1 h2
      cases h6
      obtain ⟨e1, e2, e3⟩ := coOs_get h5
      refine ⟨by simp [e1], by simp [e2], fun i x hx => ?_⟩
      cases i with
      | zero => simp at hx; subst hx; exact ⟨⟨k, by simp⟩, .inl ⟨l, by simp, h1⟩⟩
      | succ i => simpa using e3 i x (by simpa using hx)
    · cases h2
  | some k :: r, none :: q, out, h => by
    simp only [coOs] at h
    split at h
    · rename_i hz
      obtain ⟨c, h5, h6⟩ := Option.bind_eq_some_iff.1 h
      cases h6
      obtain ⟨e1, e2, e3⟩ := coOs_get h5
      refine ⟨by simp [e1], by simp [e2], fun i x hx => ?_⟩
      cases i with
      | zero => simp at hx; subst hx; exact ⟨⟨k, by simp⟩, .inr ⟨by simp, rfl, hz⟩⟩
      | succ i => simpa using e3 i x (by simpa using hx)
    · cases h
  | none :: r, m :: q, out, h => by
    simp only [coOs] at h
    obtain ⟨c, h5, h6⟩ := Option.bind_eq_some_iff.1 h
    cases h6
    obtain ⟨e1, e2, e3⟩ := coOs_get h5
    refine ⟨by simp [e1], by simp [e2], fun i x hx => ?_⟩
    cases i with
    | zero => simp at hx
    | succ i => simpa using e3 i x (by simpa using hx)
  | [], _ :: _, _, h => by cases h
  | some _ :: _, [], _, h => by cases h
  | none :: _, [], _, h => by cases h

theorem get_app_none {α : Type} {l : List (Option α)} {n i : Nat} {x : α} (h : ((l ++ List.replicate n none)[i]?).bind id = some x) : l[i]? = some (some x) := by
  rw [List.getElem?_append] at h
  split at h
  · rename_i hi
    rw [List.getElem?_eq_getElem hi] at h ⊢
    simp at h
    rw [h]
  · rw [List.getElem?_replicate] at h
    split at h
    · simp at h
    · simp at h

theorem Holds.weakF {F F' : Nat → Prop} (h : Holds F' s G vals w) (hF : ∀ j, F j → F' j) : Holds F s G vals w := by
  have hok : ∀ k, okS F' s G w k → okS F s G w k ∧ w.heap[k]? = w.heap[k]? := fun k hk => ⟨⟨hk.1, fun e => hk.2.1 (hF k e), hk.2.2⟩, rfl⟩
  have htr : ∀ l v, HR F' s G w l v → HR F s G w l v := fun l v hr => HL.keep hok (fun l x hx => ⟨x, hx, Nat.le_refl _, rfl⟩) hr
  exact ⟨h.slots.imp fun _ _ ha => ha.imp htr, fun b ls hb => by
    obtain ⟨cs, et, h1, h2⟩ := h.box b ls hb
    exact ⟨cs, et, h1, h2.imp htr⟩, fun l x hx => by
    obtain ⟨h0, cs, h1, h2⟩ := h.own l x hx
    exact ⟨h0, cs, h1, h2.mono hok⟩, h.bb, h.bo, h.oo, fun k hk e => h.nF k hk (hF k e), fun k hk => h.Flt k (hF k hk), h.ty⟩

theorem pls_hold {R : L → Value → Prop} {ok : Nat → Prop} {w : World} (hR : ∀ p v, R (.pv p) v → RepL w ok p v) : ∀ {ls : List L} {ps : List PL} {cs : List Value}, plsAll ls = some ps → All2 R ls cs → All2 (RepL w ok) ps cs
  | [], ps, cs, h1, h2 => by cases h1; cases h2; exact .nil
  | .pv p :: ls, ps, cs, h1, h2 => by
    simp only [plsAll] at h1
    obtain ⟨q, hq, rfl⟩ := Option.map_eq_some_iff.1 h1
    cases h2 with
    | cons h3 h4 => exact .cons (hR _ _ h3) (pls_hold hR hq h4)
  | .dead :: _, _, _, h1, _ => by cases h1
  | .cst _ :: _, _, _, h1, _ => by cases h1
  | .ptr _ _ :: _, _, _, h1, _ => by cases h1
  | .own _ :: _, _, _, h1, _ => by cases h1
  | .ept _ _ _ _ :: _, _, _, h1, _ => by cases h1
  | .rpt _ :: _, _, _, h1, _ => by cases h1
  | .fn _ _ _ :: _, _, _, h1, _ => by cases h1
  | .ifc _ _ _ :: _, _, _, h1, _ => by cases h1
  | .err _ :: _, _, _, h1, _ => by cases h1

theorem co_parts {k : Sk} {n : Nat} {c : Co} (hc : co k s n = some c) : nodupB c.mB = true ∧ nodupB (somes c.mO) = true ∧ (∀ l ∈ c.br, l ∉ somes c.mO) ∧ (∀ b ∈ c.bx, b ∉ c.mB) ∧
    ∃ as bs os, coAs s c.br c.bx c.mB c.mO k.slots s.slots = some as ∧ coBs s c.br c.bx c.mB c.mO k.boxes c.mB = some bs ∧ coOs s k.owns c.mO = some os ∧ c.s = ⟨as, bs ++ List.replicate (n - bs.length) none, os ++ List.replicate (n - os.length) none⟩ := by
  unfold co coFrom at hc
  generalize walkB s k.boxes 0 ((zipLs k.slots s.slots).flatMap fun x => conB x.1 x.2) (zipLs k.slots s.slots) = W at hc
  obtain ⟨mb, zs⟩ := W
  simp only at hc
  generalize brOf zs = br at hc
  generalize bxOf zs = bx at hc
  generalize ((List.range k.boxes.length).map fun b => look b mb b) = mB at hc
  generalize ((List.range k.owns.length).map fun l => look (some l) (zs.flatMap fun x => conO x.1 x.2) l) = mO at hc
  unfold coWith at hc
  split at hc
  · rename_i hcond
    obtain ⟨as, h1, h2⟩ := Option.bind_eq_some_iff.1 hc
    obtain ⟨bs, h3, h4⟩ := Option.bind_eq_some_iff.1 h2
    obtain ⟨os, h5, h6⟩ := Option.bind_eq_some_iff.1 h4
    cases h6
    simp only [Bool.and_eq_true] at hcond
    obtain ⟨⟨⟨c1, c2⟩, c3⟩, c4⟩ := hcond
    refine ⟨c1, c2, fun l hl hm => ?_, fun l hl hm => ?_, as, bs, os, h1, h3, h5, rfl⟩
    · have := List.all_eq_true.1 c3 l hl
      simp at this
      exact this hm
    · have := List.all_eq_true.1 c4 l hl
      simp at this
      exact this hm
  · cases hc

theorem co_sound {k : Sk} {n : Nat} {c : Co} (h : Holds F s G vals w) (hc : co k s n = some c) : Holds (FL F s G c.br c.bx c.mB c.mO) c.s (coG G c.mB c.mO) vals w ∧ (∀ j, Live c.s (coG G c.mB c.mO) j → Live s G j) := by
  obtain ⟨hnB, hnO, hdis, hdisB, as, bs, os, hA, hB, hO, hs⟩ := co_parts hc
  generalize hbr : c.br = br at *
  generalize hbx : c.bx = bx at *
  generalize hmB : c.mB = mB at *
  generalize hmO : c.mO = mO at *
  obtain ⟨hBl, hBk, hBg⟩ := coBs_get hB
  obtain ⟨hOl, hOk, hOg⟩ := coOs_get hO
  have hbox : ∀ b ls, boxAt c.s b = some ls → ∃ b' q k', mB[b]? = some b' ∧ boxAt s b' = some q ∧ coLs s br bx mB mO k' q = some ls := by
    intro b ls hb
    rw [hs] at hb
    obtain ⟨b', q, ls', k', f1, f2, f3, f4, f5⟩ := hBg b _ (get_app_none hb)
    cases f5
    exact ⟨b', q, k', f1, f3, f4⟩
  have hown : ∀ l x, ownAt c.s l = some x → (∃ l', mO[l]? = some (some l') ∧ ownAt s l' = some x) ∨ (mO[l]? = some none ∧ x.xs = [] ∧ 0 < x.t.size) := by
    intro l x hx
    rw [hs] at hx
    exact (hOg l x (get_app_none hx)).2
  have hGb : ∀ {b b'}, mB[b]? = some b' → (coG G mB mO).bx b = G.bx b' := fun hb => by simp [coG, List.getD, hb]
  have hGo : ∀ {l l'}, mO[l]? = some (some l') → (coG G mB mO).ow l = G.ow l' := fun hl => by simp [coG, List.getD, hl]
  have hGn : ∀ {l}, mO[l]? = some none → (coG G mB mO).ow l = .slice none 0 0 := fun hl => by simp [coG, List.getD, hl]
  have hlive : ∀ j, Live c.s (coG G mB mO) j → Live s G j ∧ KeptB s G br bx mB mO j := by
    rintro j (⟨b, ls, hb, rfl⟩ | ⟨l, x, hx, hj⟩)
    · obtain ⟨b', q, k', f1, f2, f3⟩ := hbox b ls hb
      rw [hGb f1]
      exact ⟨.inl ⟨b', q, f2, rfl⟩, .inl ⟨b', List.mem_append_left _ (List.mem_of_getElem? f1), q, f2, rfl⟩⟩
    · rcases hown l x hx with ⟨l', f1, f2⟩ | ⟨f1, f2, f3⟩
      · rw [hGo f1] at hj
        exact ⟨.inr ⟨l', x, f2, hj⟩, .inr ⟨l', List.mem_append_left _ (mem_somes f1), x, f2, hj⟩⟩
      · rw [hGn f1] at hj
        simp [Value.ownBlock] at hj
  have hok : ∀ j, okS F s G w j → okS (FL F s G br bx mB mO) c.s (coG G mB mO) w j ∧ w.heap[j]? = w.heap[j]? := by
    intro j hj
    refine ⟨⟨hj.1, ?_, fun hL => hj.2.2 (hlive j hL).1⟩, rfl⟩
    rintro (h1 | h1)
    · exact hj.2.1 h1
    · exact hj.2.2 h1.1
  have hok2 : ∀ l x, l ∈ br → ownAt s l = some x → ∀ j, (okS F s G w j ∨ (G.ow l).ownBlock = some j) → okS (FL F s G br bx mB mO) c.s (coG G mB mO) w j ∧ w.heap[j]? = w.heap[j]? := by
    rintro l x hl hx j (hj | hj)
    · exact hok j hj
    · have hLj : Live s G j := .inr ⟨l, x, hx, hj⟩
      refine ⟨⟨h.lt hLj, ?_, ?_⟩, rfl⟩
      · rintro (h1 | h1)
        · exact h.nF j hLj h1
        · exact h1.2 (.inr ⟨l, List.mem_append_right _ hl, x, hx, hj⟩)
      · rintro (⟨b, ls, hb, rfl⟩ | ⟨l2, y, hy, hj2⟩)
        · obtain ⟨b', q, k', f1, f2, f3⟩ := hbox b ls hb
          rw [hGb f1] at hj
          exact h.bo b' q l x f2 hx hj
        · rcases hown l2 y hy with ⟨l', f1, f2⟩ | ⟨f1, f2, f3⟩
          · rw [hGo f1] at hj2
            have := h.oo l l' x y j hx f2 hj hj2
            subst this
            exact hdis l hl (mem_somes f1)
          · rw [hGn f1] at hj2
            simp [Value.ownBlock] at hj2
  have hL : ∀ sl l l' v, coL s br bx mB mO sl l = some l' → HR F s G w l v → HR (FL F s G br bx mB mO) c.s (coG G mB mO) w l' v := by
    intro sl l l' v hco hr
    unfold coL at hco
    split at hco
    · cases hco; exact hr.one
    · split at hco
      · cases hco
        exact RepL.mono hok hr
      · cases hco
    · rename_i t m
      split at hco
      · cases hco
      · rename_i hmem
        obtain ⟨x, hx, h2⟩ := Option.bind_eq_some_iff.1 hco
        split at h2
        · rename_i et
          cases h2
          have h5 := own_rep h hx
          rw [← show v = G.ow m from hr.1] at h5
          refine Rep.mono ?_ h5
          rw [show v = G.ow m from hr.1]
          exact hok2 m x (by simpa using hmem) hx
        · cases h2
    · split at hco
      · cases hco
        rw [show v = _ from hr]
        exact ⟨none, 0, rfl, Nat.le_refl _, Nat.zero_le _, fun hne => absurd rfl hne⟩
      · cases hco
    · split at hco
      · cases hco; exact hr
      · cases hco
    · rename_i b q b' q'
      split at hco
      · rename_i hcond
        cases hco
        simp only [Bool.and_eq_true, beq_iff_eq] at hcond
        obtain ⟨c1, rfl⟩ := hcond
        show v = _
        rw [hGb (bTo_some c1)]
        exact hr
      · cases hco
    · split at hco
      · rename_i hto
        cases hco
        exact ⟨by rw [hGo (isTo_some hto)]; exact hr.1, hr.2⟩
      · cases hco
    · split at hco
      · rename_i hni
        cases hco
        exact ⟨by rw [hGn (isNil_some hni)]; exact hr, by rw [show v = _ from hr]; rfl⟩
      · cases hco
    · rename_i l1 q1 z1 l2 i2 q2 z2
      split at hco
      · rename_i hcond
        cases hco
        simp only [Bool.and_eq_true, beq_iff_eq] at hcond
        obtain ⟨⟨c1, rfl⟩, rfl⟩ := hcond
        obtain ⟨g, n1, cc, e, e2, e3⟩ := hr
        refine ⟨g, n1, cc, by rw [hGo (isTo_some c1)]; exact e, e2, fun x hx => ?_⟩
        rcases hown l1 x hx with ⟨l', f1, f2⟩ | ⟨f1, f2, f3⟩
        · rw [isTo_some c1] at f1
          cases f1
          exact e3 x f2
        · rw [isTo_some c1] at f1
          cases f1
      · cases hco
    · split at hco
      · cases hco
        obtain ⟨ad, cs, e, hs1, ho1, hc1, hr1⟩ := hr
        exact ⟨ad, cs, e, hs1, (hok _ ho1).1, hc1, hr1.imp fun _ _ h => h.mono hok⟩
      · cases hco
    · rename_i ts b k
      split at hco
      · cases hco
      · rename_i hmem
        obtain ⟨ls, hls, h5⟩ := Option.bind_eq_some_iff.1 hco
        obtain ⟨ps, hps, h6⟩ := Option.bind_eq_some_iff.1 h5
        split at h6
        · cases h6
          obtain ⟨cs, et, k1, k2⟩ := h.box b ls hls
          have hmb : b ∈ bx := by simpa using hmem
          have hLj : Live s G (G.bx b) := .inl ⟨b, ls, hls, rfl⟩
          refine ⟨⟨G.bx b, k, none⟩, (cs.toList.drop k).take ts.length, hr, rfl, ⟨h.lt hLj, ?_, ?_⟩, (cells_block k1 k).take _, ?_⟩
          · rintro (h1 | h1)
            · exact h.nF _ hLj h1
            · exact h1.2 (.inl ⟨b, List.mem_append_right _ hmb, ls, hls, rfl⟩)
          · rintro (⟨b2, ls2, hb2, e⟩ | ⟨l2, y, hy, e⟩)
            · obtain ⟨b', q, k', f1, f2, f3⟩ := hbox b2 ls2 hb2
              rw [hGb f1] at e
              have := h.bb b' b q ls f2 hls e
              subst this
              exact hdisB b' hmb (List.mem_of_getElem? f1)
            · rcases hown l2 y hy with ⟨l', f1, f2⟩ | ⟨f1, f2, f3⟩
              · rw [hGo f1] at e
                exact h.bo b ls l' y hls f2 e
              · rw [hGn f1] at e
                simp [Value.ownBlock] at e
          · exact (pls_hold (R := HR F s G w) (ok := okS F s G w) (fun _ _ h => h) hps ((k2.drop k).take ts.length)).imp fun _ _ h => h.mono hok
        · cases h6
    · rename_i f x y f' x' y'
      split at hco
      · rename_i hcond
        cases hco
        simp only [Bool.and_eq_true, beq_iff_eq] at hcond
        obtain ⟨⟨rfl, c2⟩, c3⟩ := hcond
        show v = _
        rw [show v = _ from hr, ptrsTo_some G mB mO _ _ c2, ptrsTo_some G mB mO _ _ c3]
      · cases hco
    · split at hco
      · rename_i hcond
        cases hco
        simp only [Bool.and_eq_true, beq_iff_eq] at hcond
        obtain ⟨⟨rfl, rfl⟩, _⟩ := hcond
        obtain ⟨cs, hr1, e⟩ := hr
        exact ⟨cs, hr1.imp fun _ _ h => h.mono hok, e⟩
      · cases hco
    · cases hco; exact hr
    · cases hco; exact hr
    · cases hco
      obtain ⟨cs, hr1, e⟩ := hr
      exact ⟨_, _, e⟩
    · rename_i b t b' t' z
      split at hco
      · rename_i hcond
        cases hco
        simp only [Bool.and_eq_true, beq_iff_eq] at hcond
        obtain ⟨c1, rfl⟩ := hcond
        have hmb : mB[b]? = some b' := by
          unfold bTo at c1
          split at c1
          · rename_i y hy; rw [hy, beq_iff_eq.1 c1]
          · cases c1
        refine ⟨?_, ?_⟩
        · rw [hGb hmb]; exact hr.1
        · show G.et (mB.getD b 0) = t
          rw [List.getD_eq_getElem?_getD, hmb]
          exact hr.2
      · cases hco
    · cases hco
  have hLs : ∀ (ks : List SL) (ls ls' : List L) (vs : List Value), coLs s br bx mB mO ks ls = some ls' → All2 (HR F s G w) ls vs → All2 (HR (FL F s G br bx mB mO) c.s (coG G mB mO) w) ls' vs := by
    intro ks
    induction ks with
    | nil =>
      intro ls ls' vs hco hv
      cases ls with
      | nil => cases hco; exact (by cases hv; exact .nil)
      | cons l ls => cases hco
    | cons k ks ih =>
      intro ls ls' vs hco hv
      cases ls with
      | nil => cases hco
      | cons l ls =>
        simp only [coLs] at hco
        obtain ⟨x, h1, h2⟩ := Option.bind_eq_some_iff.1 hco
        obtain ⟨y, h3, h4⟩ := Option.bind_eq_some_iff.1 h2
        cases h4
        cases hv with
        | cons hv1 hv2 => exact .cons (hL _ _ _ _ h1 hv1) (ih _ _ _ h3 hv2)
  have hAs : ∀ (ks : List SA) (as as' : List AV) (vs : List Value), coAs s br bx mB mO ks as = some as' → All2 (HA (HR F s G w)) as vs → All2 (HA (HR (FL F s G br bx mB mO) c.s (coG G mB mO) w)) as' vs := by
    intro ks
    induction ks with
    | nil =>
      intro ls ls' vs hco hv
      cases ls with
      | nil => cases hco; exact (by cases hv; exact .nil)
      | cons l ls => cases hco
    | cons k ks ih =>
      intro ls ls' vs hco hv
      cases ls with
      | nil => cases hco
      | cons l ls =>
        simp only [coAs] at hco
        obtain ⟨x, h1, h2⟩ := Option.bind_eq_some_iff.1 hco
        obtain ⟨y, h3, h4⟩ := Option.bind_eq_some_iff.1 h2
        cases h4
        cases hv with
        | cons hv1 hv2 =>
          refine .cons ?_ (ih _ _ _ h3 hv2)
          unfold coA at h1
          split at h1
          · cases h1; trivial
          · obtain ⟨z, h5, rfl⟩ := Option.map_eq_some_iff.1 h1
            exact hL _ _ _ _ h5 hv1
          · obtain ⟨z, h5, rfl⟩ := Option.map_eq_some_iff.1 h1
            obtain ⟨cs, e, h6⟩ := hv1
            exact ⟨cs, e, hLs _ _ _ _ h5 h6⟩
          · cases h1
  refine ⟨⟨?_, ?_, ?_, ?_, ?_, ?_, ?_, ?_, ?_⟩, fun j hj => (hlive j hj).1⟩
  · have : c.s.slots = as := by rw [hs]
    rw [this]
    exact hAs _ _ _ _ hA h.slots
  · intro b ls hb
    obtain ⟨b', q, k', f1, f2, f3⟩ := hbox b ls hb
    obtain ⟨cs, et, h1, h2⟩ := h.box b' q f2
    exact ⟨cs, et, by rw [hGb f1]; exact h1, hLs _ _ _ _ f3 h2⟩
  · intro l x hx
    rcases hown l x hx with ⟨l', f1, f2⟩ | ⟨f1, f2, f3⟩
    · obtain ⟨h0, cs, h1, h2⟩ := h.own l' x f2
      exact ⟨h0, cs, by rw [hGo f1]; exact h1, h2.mono hok⟩
    · refine ⟨f3, [], ?_, ?_⟩
      · rw [hGn f1, f2]
        exact World.ownsRow_nil _ _ _ _
      · rw [f2]
        exact .nil
  · intro b b' ls ls' hb hb' e
    obtain ⟨b1, q1, k1, f1, f2, f3⟩ := hbox b ls hb
    obtain ⟨b2, q2, k2, g1, g2, g3⟩ := hbox b' ls' hb'
    rw [hGb f1, hGb g1] at e
    have := h.bb b1 b2 q1 q2 f2 g2 e
    subst this
    exact nodupB_get hnB f1 g1
  · intro b ls l x hb hx e
    obtain ⟨b1, q1, k1, f1, f2, f3⟩ := hbox b ls hb
    rw [hGb f1] at e
    rcases hown l x hx with ⟨l', g1, g2⟩ | ⟨g1, g2, g3⟩
    · rw [hGo g1] at e
      exact h.bo b1 q1 l' x f2 g2 e
    · rw [hGn g1] at e
      simp [Value.ownBlock] at e
  · intro l l' x x' j hx hx' e e'
    rcases hown l x hx with ⟨m, f1, f2⟩ | ⟨f1, f2, f3⟩
    · rcases hown l' x' hx' with ⟨m', g1, g2⟩ | ⟨g1, g2, g3⟩
      · rw [hGo f1] at e
        rw [hGo g1] at e'
        have := h.oo m m' x x' j f2 g2 e e'
        subst this
        exact nodupO_get hnO f1 g1
      · rw [hGn g1] at e'
        simp [Value.ownBlock] at e'
    · rw [hGn f1] at e
      simp [Value.ownBlock] at e
  · intro j hj hF
    obtain ⟨h1, h2⟩ := hlive j hj
    rcases hF with hF | hF
    · exact h.nF j h1 hF
    · exact hF.2 h2
  · rintro j (hF | hF)
    · exact h.Flt j hF
    · exact h.lt hF.1
  · intro b ls hb
    obtain ⟨b', q, k', f1, f2, f3⟩ := hbox b ls hb
    have e2 : (coG G mB mO).et b = G.et b' := by simp [coG, List.getD, f1]
    rw [hGb f1, e2]
    exact h.ty b' q f2

end
end Go.Proofs.YtghmhkpgdmgepaaV
