import Derived.Test.YtghmhkpgdmgepaaV20
/-! The V engine, 21: shapes read back; a call. -/
set_option linter.unusedVariables false
set_option linter.unusedSimpArgs false
namespace Go.Proofs.YtghmhkpgdmgepaaV
open Go Go.RowKit

theorem tysEq_len : ∀ {ts : List Ty} {ps : List PL}, tysEq ts ps = true → ps.length = ts.length
  | [], [], _ => rfl
  | t :: ts, p :: ps, h => by simp only [tysEq, Bool.and_eq_true] at h; simp [tysEq_len h.2]
  | [], _ :: _, h => by cases h
  | _ :: _, [], h => by cases h
theorem pairEq_some : ∀ {a b : List (Nat × Nat)}, pairEq a b = true → a = b
  | [], [], _ => rfl
  | x :: r, y :: q, h => by
    simp only [pairEq, Bool.and_eq_true, beq_iff_eq] at h
    obtain ⟨⟨h1, h2⟩, h3⟩ := h
    rw [pairEq_some h3]
    congr 1
    exact Prod.ext h1 h2
  | [], _ :: _, h => by cases h
  | _ :: _, [], h => by cases h

theorem decL_enc {k : SL} {l : L} {ps : List PL} (h : decL k l = some ps) : ps.length = k.tys.length ∧ ∀ r, encL k (ps ++ r) = l := by
  unfold decL at h
  split at h
  · cases h; exact ⟨rfl, fun r => rfl⟩
  · split at h
    · cases h; exact ⟨rfl, fun r => rfl⟩
    · cases h
  · split at h
    · rename_i e; cases h; exact ⟨rfl, fun r => by rw [NilK.of_eqb e]; rfl⟩
    · cases h
  · split at h
    · rename_i e
      cases h
      simp only [Bool.and_eq_true, beq_iff_eq] at e
      exact ⟨rfl, fun r => by rw [e.1, e.2]; rfl⟩
    · cases h
  · split at h
    · rename_i e
      cases h
      simp only [beq_iff_eq] at e
      exact ⟨rfl, fun r => by rw [e]; rfl⟩
    · cases h
  · split at h
    · rename_i e
      cases h
      simp only [Bool.and_eq_true, beq_iff_eq] at e
      obtain ⟨⟨rfl, rfl⟩, rfl⟩ := e
      exact ⟨rfl, fun r => rfl⟩
    · cases h
  · split at h
    · rename_i e
      cases h
      have := tysEq_len e
      exact ⟨this, fun r => by simp [encL, ← this]⟩
    · cases h
  · split at h
    · rename_i e
      cases h
      simp only [Bool.and_eq_true, beq_iff_eq] at e
      obtain ⟨⟨rfl, e2⟩, e3⟩ := e
      exact ⟨rfl, fun r => by rw [pairEq_some e2, pairEq_some e3]; rfl⟩
    · cases h
  · split at h
    · rename_i e
      cases h
      simp only [Bool.and_eq_true, beq_iff_eq] at e
      obtain ⟨⟨rfl, rfl⟩, e3⟩ := e
      have := tysEq_len e3
      exact ⟨this, fun r => by simp [encL, ← this]⟩
    · cases h
  · cases h; exact ⟨rfl, fun r => rfl⟩
  · split at h
    · rename_i e
      cases h
      simp only [Bool.and_eq_true, beq_iff_eq] at e
      exact ⟨rfl, fun r => by rw [e.1, e.2]; rfl⟩
    · cases h
  · cases h
theorem decLs_enc : ∀ {ks : List SL} {ls : List L} {ps : List PL}, decLs ks ls = some ps → ps.length = (tysLs ks).length ∧ ∀ r, encLs ks (ps ++ r) = ls
  | [], [], ps, h => by cases h; exact ⟨rfl, fun r => rfl⟩
  | k :: ks, l :: ls, ps, h => by
    simp only [decLs] at h
    obtain ⟨x, h1, h2⟩ := Option.bind_eq_some_iff.1 h
    obtain ⟨y, h3, h4⟩ := Option.bind_eq_some_iff.1 h2
    cases h4
    obtain ⟨e1, e2⟩ := decL_enc h1
    obtain ⟨f1, f2⟩ := decLs_enc h3
    refine ⟨by simp [tysLs, e1, f1], fun r => ?_⟩
    simp only [encLs, List.append_assoc, e2]
    rw [← e1, List.drop_left, f2]
  | [], _ :: _, _, h => by cases h
  | _ :: _, [], _, h => by cases h
theorem decA_enc {k : SA} {l : AV} {ps : List PL} (h : decA k l = some ps) : ps.length = (tysLs k.leaves).length ∧ ∀ r, encA k (ps ++ r) = l := by
  unfold decA at h
  split at h
  · cases h; exact ⟨rfl, fun r => rfl⟩
  · obtain ⟨e1, e2⟩ := decL_enc h
    exact ⟨by simp [SA.leaves, tysLs, e1], fun r => by simp [encA, e2]⟩
  · obtain ⟨e1, e2⟩ := decLs_enc h
    exact ⟨e1, fun r => by simp [encA, e2]⟩
  · cases h
theorem decAs_enc : ∀ {ks : List SA} {ls : List AV} {ps : List PL}, decAs ks ls = some ps → ps.length = (tysAs ks).length ∧ ∀ r, encAs ks (ps ++ r) = ls
  | [], [], ps, h => by cases h; exact ⟨rfl, fun r => rfl⟩
  | k :: ks, l :: ls, ps, h => by
    simp only [decAs] at h
    obtain ⟨x, h1, h2⟩ := Option.bind_eq_some_iff.1 h
    obtain ⟨y, h3, h4⟩ := Option.bind_eq_some_iff.1 h2
    cases h4
    obtain ⟨e1, e2⟩ := decA_enc h1
    obtain ⟨f1, f2⟩ := decAs_enc h3
    refine ⟨by simp [tysAs, e1, f1], fun r => ?_⟩
    simp only [encAs, List.append_assoc, e2]
    rw [← e1, List.drop_left, f2]
  | [], _ :: _, _, h => by cases h
  | _ :: _, [], _, h => by cases h
theorem noneAll {α : Type} {l : List (Option α)} (h : l.all Option.isNone = true) (i : Nat) : (l[i]?).bind id = none := by
  cases he : l[i]? with
  | none => rfl
  | some x =>
    have := List.all_eq_true.1 h x (List.mem_of_getElem? he)
    cases x with
    | none => rfl
    | some y => cases this
theorem decBs_enc : ∀ {ks : List (List SL)} {ls : List (Option (List L))} {ps : List PL}, decBs ks ls = some ps → ps.length = (tysBs ks).length ∧ ∀ (r : List PL) (n i : Nat), ((encBs ks (ps ++ r) ++ List.replicate n none)[i]?).bind id = (ls[i]?).bind id
  | [], ls, ps, h => by
    unfold decBs at h
    split at h
    · rename_i e
      cases h
      refine ⟨rfl, fun r n i => ?_⟩
      rw [noneAll (l := ls) e]
      exact noneAll (by simp [encBs]) i
    · cases h
  | k :: ks, [], ps, h => by cases h
  | k :: ks, none :: ls, ps, h => by cases h
  | k :: ks, some l :: ls, ps, h => by
    simp only [decBs] at h
    obtain ⟨x, h1, h2⟩ := Option.bind_eq_some_iff.1 h
    obtain ⟨y, h3, h4⟩ := Option.bind_eq_some_iff.1 h2
    cases h4
    obtain ⟨e1, e2⟩ := decLs_enc h1
    obtain ⟨f1, f2⟩ := decBs_enc h3
    refine ⟨by simp [tysBs, e1, f1], fun r n i => ?_⟩
    simp only [encBs, List.append_assoc, e2]
    rw [← e1, List.drop_left]
    cases i with
    | zero => simp
    | succ i => simpa using f2 r n i
theorem asTy_mk {t : Ty} {xs : t.den} : asTy t ⟨t, xs⟩ = some xs := by simp [asTy]
theorem decOs_enc : ∀ {ks : List (Option (Nat × Ty))} {ls : List (Option Own)} {ps : List PL}, decOs ks ls = some ps → ps.length = (tysOs ks).length ∧ ∀ (r : List PL) (n i : Nat), ((encOs ks (ps ++ r) ++ List.replicate n none)[i]?).bind id = (ls[i]?).bind id
  | [], ls, ps, h => by
    unfold decOs at h
    split at h
    · rename_i e
      cases h
      refine ⟨rfl, fun r n i => ?_⟩
      rw [noneAll (l := ls) e]
      exact noneAll (by simp [encOs]) i
    · cases h
  | some k :: ks, [], ps, h => by cases h
  | some k :: ks, none :: ls, ps, h => by cases h
  | some k :: ks, some l :: ls, ps, h => by
    simp only [decOs] at h
    split at h
    · rename_i e
      obtain ⟨y, h3, h4⟩ := Option.bind_eq_some_iff.1 h
      cases h4
      obtain ⟨f1, f2⟩ := decOs_enc h3
      simp only [Bool.and_eq_true, beq_iff_eq, decide_eq_true_eq] at e
      obtain ⟨e1, e2⟩ := e
      refine ⟨by simp [tysOs, f1], fun r n i => ?_⟩
      obtain ⟨le, lt, lx⟩ := l
      obtain ⟨k1, k2⟩ := k
      simp only at e1 e2
      subst e1
      subst e2
      have e9 : (asTy (.slice lt) ⟨.slice lt, lx⟩).map (fun xs => (⟨le, lt, xs⟩ : Own)) = some ⟨le, lt, lx⟩ := by
        have := asTy_mk (t := .slice lt) (xs := lx)
        exact congrArg (Option.map fun xs => (⟨le, lt, xs⟩ : Own)) this
      have e10 : encOs (some (le, lt) :: ks) ((⟨.slice lt, lx⟩ :: y) ++ r) = some ⟨le, lt, lx⟩ :: encOs ks (y ++ r) := by
        show (asTy (.slice lt) ⟨.slice lt, lx⟩).map (fun xs => (⟨le, lt, xs⟩ : Own)) :: _ = _
        rw [e9]
        rfl
      show (((encOs (some (le, lt) :: ks) ((⟨.slice lt, lx⟩ :: y) ++ r)) ++ List.replicate n none)[i]?).bind id = _
      rw [e10]
      cases i with
      | zero => simp
      | succ i => simpa using f2 r n i
    · cases h
  | none :: ks, [], ps, h => by cases h
  | none :: ks, some l :: ls, ps, h => by cases h
  | none :: ks, none :: ls, ps, h => by
    simp only [decOs] at h
    obtain ⟨f1, f2⟩ := decOs_enc h
    refine ⟨by simp [tysOs, f1], fun r n i => ?_⟩
    simp only [encOs, List.cons_append]
    cases i with
    | zero => simp
    | succ i => simpa using f2 r n i
theorem dec_enc {k : Sk} {s : St} {ps : List PL} (h : dec k s = some ps) (n : Nat) : (enc k n ps).slots = s.slots ∧ (∀ b, boxAt (enc k n ps) b = boxAt s b) ∧ (∀ l, ownAt (enc k n ps) l = ownAt s l) := by
  unfold dec at h
  obtain ⟨x, h1, h2⟩ := Option.bind_eq_some_iff.1 h
  obtain ⟨y, h3, h4⟩ := Option.bind_eq_some_iff.1 h2
  obtain ⟨z, h5, h6⟩ := Option.bind_eq_some_iff.1 h4
  cases h6
  obtain ⟨a1, a2⟩ := decAs_enc h1
  obtain ⟨b1, b2⟩ := decBs_enc h3
  obtain ⟨c1, c2⟩ := decOs_enc h5
  refine ⟨a2 _, fun b => ?_, fun l => ?_⟩
  · unfold boxAt enc
    simp only
    rw [← a1, List.drop_left]
    exact b2 _ _ _
  · unfold ownAt enc
    simp only
    rw [← a1, ← b1, ← List.length_append, ← List.append_assoc, List.drop_left]
    have := c2 [] (n - k.owns.length) l
    rw [List.append_nil] at this
    exact this

theorem ofPL_some : ∀ {ts : List Ty} {ps : List PL} {y : HLs ts}, ofPL ts ps = some y → toPL ts y = ps
  | [], [], y, h => rfl
  | [], _ :: _, y, h => by cases h
  | [t], [p], y, h => by
    have h' : asTy t p = some y := h
    rw [asTy_some h']
    rfl
  | [t], [], y, h => by cases h
  | [t], _ :: _ :: _, y, h => by cases h
  | t :: u :: r, [], y, h => by cases h
  | t :: u :: r, p :: ps, y, h => by
    have h' : ((asTy t p).bind fun x => (ofPL (u :: r) ps).bind fun z => some (x, z)) = some y := h
    obtain ⟨x, h1, h2⟩ := Option.bind_eq_some_iff.1 h'
    obtain ⟨z, h3, h4⟩ := Option.bind_eq_some_iff.1 h2
    cases h4
    rw [asTy_some h1]
    show _ :: toPL (u :: r) z = _
    rw [ofPL_some h3]
theorem ofPL_toPL : ∀ (ts : List Ty) (y : HLs ts), ofPL ts (toPL ts y) = some y
  | [], y => rfl
  | [t], y => by show asTy t ⟨t, y⟩ = some y; exact asTy_mk
  | t :: u :: r, y => by
    show ((asTy t ⟨t, y.1⟩).bind fun x => (ofPL (u :: r) (toPL (u :: r) y.2)).bind fun z => some (x, z)) = some y
    rw [asTy_mk, ofPL_toPL (u :: r) y.2]
    rfl

section
variable {P : Program} {F : Nat → Prop} {s s' : St} {G : Gm} {a : Act} {w w' : World} {v : AV} {vals : List Value}

theorem HL.ext {ok : Nat → Prop} {os os' : List (Option Own)} (ho : ∀ l : Nat, (os'[l]?).bind id = (os[l]?).bind id) {l : L} {v : Value} (h : HL G w ok os l v) : HL G w ok os' l v := by
  cases l with
  | ept l i o z =>
    obtain ⟨g, n, c, e, e2, e3⟩ := h
    exact ⟨g, n, c, e, e2, fun x hx => e3 x (by rw [← ho]; exact hx)⟩
  | _ => exact h

/-- A state by its slots, its boxes and its rows. -/
theorem Holds.ext (h : Holds F s G vals w) (h1 : s'.slots = s.slots) (h2 : ∀ b, boxAt s' b = boxAt s b) (h3 : ∀ l, ownAt s' l = ownAt s l) : Holds F s' G vals w := by
  have hl : Live s' G = Live s G := by funext k; simp [Live, h2, h3]
  have hok : okS F s' G w = okS F s G w := by funext k; simp [okS, hl]
  have htr : ∀ l v, HR F s G w l v → HR F s' G w l v := by
    intro l v hr
    unfold HR at hr ⊢
    rw [hok]
    exact HL.ext h3 hr
  refine ⟨by rw [h1]; exact h.slots.imp fun _ _ ha => ha.imp htr, fun b ls hb => ?_, fun l x hx => ?_, fun b b' ls ls' hb hb' => ?_, fun b ls l x hb hx => ?_, fun l l' x x' k hx hx' => ?_, by rw [hl]; exact h.nF, h.Flt, fun b ls hb => h.ty b ls (by rw [← h2]; exact hb)⟩
  · rw [h2] at hb
    obtain ⟨cs, et, k1, k2⟩ := h.box b ls hb
    exact ⟨cs, et, k1, k2.imp htr⟩
  · rw [h3] at hx
    obtain ⟨k0, cs, k1, k2⟩ := h.own l x hx
    exact ⟨k0, cs, k1, by rw [hok]; exact k2⟩
  · rw [h2] at hb hb'
    exact h.bb b b' ls ls' hb hb'
  · rw [h2] at hb
    rw [h3] at hx
    exact h.bo b ls l x hb hx
  · rw [h3] at hx hx'
    exact h.oo l l' x x' k hx hx'

/-- A contract: from a state of a shape to another. -/
def CallOK (P : Program) (g : Nat) (nb no : Nat) (si so : St) : Prop :=
  ∀ (F : Nat → Prop) (G : Gm) (vals : List Value) (w : World), Holds F si G vals w →
    Calls P g vals.toArray w fun e w' => ∃ G' rv, e = .returned (retV rv) ∧ Holds F so G' rv w' ∧ Step nb no si G w so G' w'
def szS (k : Sk) : Nat := max k.boxes.length k.owns.length
/-- What a panic was called with: data. -/
def PanV (t : Nat) (ps : List PL) (g : Bool) (v : Value) : Prop :=
  ∃ cs : List Value, All2 (fun p u => flat1 p.t = true ∧ ∀ (w : World) (ok : Nat → Prop), RepL w ok p u) ps cs ∧ v = .iface t (if g then .agg cs.toArray else cs.headD undef)
/-- A contract of what may panic. -/
def CallOKP (P : Program) (g : Nat) (nb no : Nat) (si : St) (pan : Nat × List Ty × Bool) (kout : Sk) (qs : List PL) : Prop :=
  ∀ (F : Nat → Prop) (G : Gm) (vals : List Value) (w : World), Holds F si G vals w →
    Calls P g vals.toArray w fun e w' =>
      (∃ q G' rv, qs = ⟨.bool, false⟩ :: q ∧ e = .returned (retV rv) ∧ Holds F (enc kout (szS kout) q) G' rv w' ∧ Step nb no si G w (enc kout (szS kout) q) G' w') ∨
      (∃ q v, qs = ⟨.bool, true⟩ :: q ∧ e = .panicked [{ v := v, recovered := false }] ∧ PanV pan.1 q pan.2.2 v ∧ Keeps (Live si G) w w')
def SigOK (P : Program) (g : Nat) (sg : Sig) : Prop :=
  (∃ fn, P.funcs[g]? = some fn ∧ (fn.name == "runtime.NumGoroutine") = false ∧ fn.body.isSome = true) ∧
    ∀ ps qs, sg.f.run (List PL) ps some = some qs → match sg.f.pan with
      | none => CallOK P g sg.kin.boxes.length sg.kin.owns.length (enc sg.kin (szS sg.kin) ps) (enc sg.kout (szS sg.kout) qs)
      | some p => CallOKP P g sg.kin.boxes.length sg.kin.owns.length (enc sg.kin (szS sg.kin) ps) p sg.kout qs

theorem frzAll_box' : ∀ (ms : List Nat) {s : St} {b : Nat} {ls : List L}, boxAt s b = some ls → ∃ q, boxAt (frzAll s ms) b = some q
  | [], _, _, ls, h => ⟨ls, h⟩
  | m :: ms, s, b, ls, h => by
    have : ∃ q, boxAt (frz s m) b = some q := by
      cases hx : ownAt s m with
      | none =>
        have : frz s m = s := by unfold frz; rw [hx]
        rw [this]
        exact ⟨ls, h⟩
      | some x =>
        rw [frz_eq hx]
        unfold boxAt at h
        cases he : s.boxes[b]? with
        | none => simp [he] at h
        | some y =>
          cases y with
          | none => simp [he] at h
          | some q => exact ⟨q.map (frzL m ⟨.slice x.t, x.xs⟩), by simp [boxAt, setOwn, St.map, he]⟩
    obtain ⟨q, hq⟩ := this
    exact frzAll_box' ms hq

theorem get_pad {m : List Nat} {n i b : Nat} (h : (m.map some ++ List.replicate n none)[i]? = some (some b)) : m[i]? = some b := by
  rw [List.getElem?_append] at h
  split at h
  · rw [List.getElem?_map] at h
    cases he : m[i]? with
    | none => simp [he] at h
    | some x => simp [he] at h; rw [h]
  · rw [List.getElem?_replicate] at h
    split at h <;> simp at h
theorem get_padO {m : List (Option Nat)} {n i b : Nat} (h : (m ++ List.replicate n none)[i]? = some (some b)) : m[i]? = some (some b) := by
  rw [List.getElem?_append] at h
  split at h
  · exact h
  · rw [List.getElem?_replicate] at h
    split at h <;> simp at h

/-- What a call's answer tells, put into the caller's state. -/
theorem call_back {d : Nat} {args : List AV} {avs : List Value} (h : Holds F s G a.tmps.toList w) (hargs : All2 (HA (HR F s G w)) args avs) {sg : Sig} {c : Co} (hc : co sg.kin { s with slots := args } (max sg.kin.boxes.length sg.kin.owns.length) = some c)
    {ps qs : List PL} (hps : dec sg.kin c.s = some ps) (hbk : back s c (enc sg.kout (max sg.kout.boxes.length sg.kout.owns.length) qs) d sg.kout.boxes.length sg.kout.owns.length = some s')
    {G1 : Gm} {rv : List Value} (hR : Holds (FL F { s with slots := args } G c.br c.bx c.mB c.mO) (enc sg.kout (szS sg.kout) qs) G1 rv w')
    (hst : Step sg.kin.boxes.length sg.kin.owns.length (enc sg.kin (szS sg.kin) ps) (coG G c.mB c.mO) w (enc sg.kout (szS sg.kout) qs) G1 w') :
    ∃ G', Holds F s' G' (a.put (some d) (retV rv)).tmps.toList w' ∧ Step N0 N0 s G w s' G' w' := by
  obtain ⟨hnB, hnO, hdis, hdisB, as, bs, os, hA, hB, hO, hs⟩ := co_parts hc
  obtain ⟨hBl, hBk, hBg⟩ := coBs_get hB
  obtain ⟨hOl, hOk, hOg⟩ := coOs_get hO
  obtain ⟨e1, e2, e3⟩ := dec_enc hps (szS sg.kin)
  -- what went in
  have hcbox : ∀ b ls, boxAt (enc sg.kin (szS sg.kin) ps) b = some ls → ∃ b', c.mB[b]? = some b' ∧ ∃ q, boxAt s b' = some q := by
    intro b ls hb
    rw [e2, hs] at hb
    obtain ⟨b', q, ls', k', f1, f2, f3, f4, f5⟩ := hBg b _ (get_app_none hb)
    exact ⟨b', f1, q, f3⟩
  have hcown : ∀ l x, ownAt (enc sg.kin (szS sg.kin) ps) l = some x → (∃ l', c.mO[l]? = some (some l') ∧ ownAt s l' = some x) ∨ c.mO[l]? = some none := by
    intro l x hx
    rw [e3, hs] at hx
    rcases (hOg l x (get_app_none hx)).2 with ⟨l', f1, f2⟩ | ⟨f1, _⟩
    · exact .inl ⟨l', f1, f2⟩
    · exact .inr f1
  have hGb : ∀ {b b' : Nat}, c.mB[b]? = some b' → (coG G c.mB c.mO).bx b = G.bx b' := fun hb => by simp [coG, List.getD, hb]
  have hGo : ∀ {l l' : Nat}, c.mO[l]? = some (some l') → (coG G c.mB c.mO).ow l = G.ow l' := fun hl => by simp [coG, List.getD, hl]
  have hGn : ∀ {l : Nat}, c.mO[l]? = some none → (coG G c.mB c.mO).ow l = .slice none 0 0 := fun hl => by simp [coG, List.getD, hl]
  have hlen1 : sg.kin.boxes.length = c.mB.length := hBk
  have hlen2 : sg.kin.owns.length = c.mO.length := hOk
  unfold back at hbk
  simp only at hbk
  split at hbk
  · cases hbk
  rename_i hbxc
  have hbx : c.bx = [] ∨ flatSt (enc sg.kout (szS sg.kout) qs) = true := by
    rcases hcb : c.bx with _ | ⟨x, r⟩
    · exact .inl rfl
    · rw [hcb] at hbxc
      simp only [List.isEmpty_cons, Bool.not_false, Bool.true_and, Bool.not_eq_true', Bool.not_eq_false] at hbxc
      exact .inr hbxc
  have key : ∀ s1, Holds F s1 G a.tmps.toList w → Step N0 N0 s G w s1 G w → (∀ b ls, boxAt s b = some ls → ∃ q, boxAt s1 b = some q) → (∀ b q, boxAt s1 b = some q → ∃ ls, boxAt s b = some ls) →
      (∀ l x, ownAt s l = some x → l ∉ c.br → ownAt s1 l = some x) → (∀ l x, ownAt s1 l = some x → ownAt s l = some x) → ((∀ l x, ownAt s1 l = some x → l ∉ c.br) ∨ flatSt (enc sg.kout (szS sg.kout) qs) = true) →
      ∀ {oB oO rB rO}, oB = c.mB.map some ++ List.replicate (sg.kout.boxes.length - c.mB.length) none → oO = c.mO ++ List.replicate (sg.kout.owns.length - c.mO.length) none →
      backWith s1 (enc sg.kout (szS sg.kout) qs) d oB oO rB rO = some s' → ∃ G' rv', retV rv = retV rv' ∧ Holds F s' G' (a.put (some d) (retV rv)).tmps.toList w' ∧ Step N0 N0 s G w s' G' w' := by
    intro s1 hs1 hst1 hbf hbb hof hob hbr oB oO rB rO hoB hoO hbw
    subst hoB
    subst hoO
    have holdK : ∀ j, OldLive s1 G (c.mB.map some ++ List.replicate (sg.kout.boxes.length - c.mB.length) none) (c.mO ++ List.replicate (sg.kout.owns.length - c.mO.length) none) j →
        Live s G j ∧ (∀ b ∈ c.mB, ∀ ls, boxAt s b = some ls → G.bx b ≠ j) ∧ (∀ l ∈ somes c.mO, ∀ x, ownAt s l = some x → (G.ow l).ownBlock ≠ some j) := by
      rintro j (⟨b, q, hb, hnb, rfl⟩ | ⟨l, x, hx, hnl, hj⟩)
      · obtain ⟨ls, hls⟩ := hbb b q hb
        refine ⟨.inl ⟨b, ls, hls, rfl⟩, fun b2 hb2 ls2 hls2 e => ?_, fun l hl x hx => h.bo b ls l x hls hx⟩
        have := h.bb b2 b ls2 ls hls2 hls e
        subst this
        obtain ⟨i, hi, hi2⟩ := List.getElem_of_mem hb2
        refine hnb i ?_
        rw [List.getElem?_append_left (by simpa using hi), List.getElem?_map, List.getElem?_eq_getElem hi, hi2]
        rfl
      · have hx' := hob l x hx
        refine ⟨.inr ⟨l, x, hx', hj⟩, fun b2 hb2 ls2 hls2 e => h.bo b2 ls2 l x hls2 hx' (by rw [e]; exact hj), fun l2 hl2 x2 hx2 e => ?_⟩
        have := h.oo l2 l x2 x j hx2 hx' e hj
        subst this
        have : ∀ {m : List (Option Nat)}, l2 ∈ somes m → ∃ i : Nat, m[i]? = some (some l2) := by
          intro m
          induction m with
          | nil => intro h; cases h
          | cons y r ih =>
            intro h
            cases y with
            | none => obtain ⟨i, hi⟩ := ih h; exact ⟨i + 1, by simpa using hi⟩
            | some z =>
              simp only [somes, List.mem_cons] at h
              rcases h with rfl | h
              · exact ⟨0, by simp⟩
              · obtain ⟨i, hi⟩ := ih h; exact ⟨i + 1, by simpa using hi⟩
        obtain ⟨i, hi⟩ := this hl2
        refine hnl i ?_
        rw [List.getElem?_append_left (List.getElem?_eq_some_iff.1 hi).1]
        exact hi
    obtain ⟨G2, k1, k2⟩ := backWith_sound (s0 := enc sg.kin (szS sg.kin) ps) (G0 := coG G c.mB c.mO) (F1 := FL F { s with slots := args } G c.br c.bx c.mB c.mO) hs1 hR hst
      (fun i b hi => ⟨by rw [hlen1]; exact (List.getElem?_eq_some_iff.1 (get_pad hi)).1, hGb (get_pad hi), by have hz := get_pad hi; simp [coG, List.getD, hz]⟩)
      (fun i l hi => ⟨by rw [hlen2]; exact (List.getElem?_eq_some_iff.1 (get_padO hi)).1, fun _ _ => hGo (get_padO hi)⟩)
      (by
        rintro j (⟨b, ls, hb, rfl⟩ | ⟨l, x, hx, hj⟩)
        · obtain ⟨b', f1, q, f2⟩ := hcbox b ls hb
          obtain ⟨q', hq'⟩ := hbf b' q f2
          exact .inl ⟨b', q', hq', (hGb f1).symm⟩
        · rcases hcown l x hx with ⟨l', f1, f2⟩ | f1
          · rw [hGo f1] at hj
            exact .inr ⟨l', x, hof l' x f2 (fun e => hdis l' e (mem_somes f1)), hj⟩
          · rw [hGn f1] at hj
            simp [Value.ownBlock] at hj)
      (fun j hj => .inl hj)
      (by
        refine hbx.elim (fun hbx => ?_) (fun hbx => .inr hbx)
        rcases hbr with hbr | hbr
        · refine .inl fun j hj => ?_
          obtain ⟨g1, g2, g3⟩ := holdK j hj
          refine .inr ⟨g1, ?_⟩
          rintro (⟨b, hb, ls, hls, e⟩ | ⟨l, hl, x, hx, e⟩)
          · rw [hbx, List.append_nil] at hb
            exact g2 b hb ls hls e
          · rcases List.mem_append.1 hl with hl | hl
            · exact g3 l hl x hx e
            · rcases hj with ⟨b, q, hb, hnb, rfl⟩ | ⟨l2, x2, hx2, hnl, hj2⟩
              · obtain ⟨ls, hls⟩ := hbb b q hb
                exact h.bo b ls l x hls hx e
              · have := h.oo l l2 x x2 j hx (hob l2 x2 hx2) e hj2
                subst this
                exact hbr l x2 hx2 hl
        · exact .inr hbr)
      (by
        rintro j hj (⟨b, ls, hb, rfl⟩ | ⟨l, x, hx, hj2⟩)
        · obtain ⟨b', f1, q, f2⟩ := hcbox b ls hb
          exact (holdK _ hj).2.1 b' (List.mem_of_getElem? f1) q f2 (hGb f1).symm
        · rcases hcown l x hx with ⟨l', f1, f2⟩ | f1
          · rw [hGo f1] at hj2
            exact (holdK _ hj).2.2 l' (mem_somes f1) x f2 hj2
          · rw [hGn f1] at hj2
            simp [Value.ownBlock] at hj2)
      hbw
    exact ⟨G2, rv, rfl, k1, hst1.trans k2⟩
  have fin : ∃ G' rv', retV rv = retV rv' ∧ Holds F s' G' (a.put (some d) (retV rv)).tmps.toList w' ∧ Step N0 N0 s G w s' G' w' := by
    by_cases hcond : (c.br.isEmpty || flatSt (enc sg.kout (szS sg.kout) qs)) = true
    · have hcond' : (c.br.isEmpty || flatSt (enc sg.kout (max sg.kout.boxes.length sg.kout.owns.length) qs)) = true := hcond
      rw [if_pos hcond'] at hbk
      refine key s h (Step.refl _ _ _ _ _) (fun b ls hb => ⟨ls, hb⟩) (fun b ls hb => ⟨ls, hb⟩) (fun l x hx _ => hx) (fun l x hx => hx) ?_ rfl rfl hbk
      simp only [Bool.or_eq_true] at hcond
      rcases hcond with hcond | hcond
      · exact .inl fun l x _ hl => by
          have : c.br = [] := by simpa using hcond
          rw [this] at hl
          cases hl
      · exact .inr hcond
    · have hcond' : ¬ (c.br.isEmpty || flatSt (enc sg.kout (max sg.kout.boxes.length sg.kout.owns.length) qs)) = true := hcond
      rw [if_neg hcond'] at hbk
      refine key (frzAll s c.br) (frzAll_holds _ h) (frzAll_step _ _ _ h) (fun b ls hb => frzAll_box' _ hb) (fun b q hb => frzAll_boxAt _ hb) (fun l x hx hn => by rw [frzAll_ownAt, if_neg hn]; exact hx) (fun l x hx => ?_) (.inl fun l x hx hl => ?_) rfl rfl hbk
      · rw [frzAll_ownAt] at hx
        split at hx
        · cases hx
        · exact hx
      · rw [frzAll_ownAt, if_pos hl] at hx
        cases hx
  obtain ⟨G', rv', _, k1, k2⟩ := fin
  exact ⟨G', k1, k2⟩

/-- What a call knows of what goes in. -/
theorem call_in {args : List AV} {avs : List Value} (h : Holds F s G vals w) (hargs : All2 (HA (HR F s G w)) args avs) {sg : Sig} {c : Co} (hc : co sg.kin { s with slots := args } (max sg.kin.boxes.length sg.kin.owns.length) = some c)
    {ps : List PL} (hps : dec sg.kin c.s = some ps) : Holds (FL F { s with slots := args } G c.br c.bx c.mB c.mO) (enc sg.kin (szS sg.kin) ps) (coG G c.mB c.mO) avs w := by
  have h0 : Holds F { s with slots := args } G avs w := ⟨hargs, h.box, h.own, h.bb, h.bo, h.oo, h.nF, h.Flt, h.ty⟩
  obtain ⟨hH, hLv⟩ := co_sound h0 hc
  obtain ⟨e1, e2, e3⟩ := dec_enc hps (szS sg.kin)
  exact hH.ext e1 e2 e3

/-- The next state behind a call. -/
theorem call_sound {C : Cfg} {g d : Nat} {args : List AV} {avs : List Value} (h : Holds F s G a.tmps.toList w) (hargs : All2 (HA (HR F s G w)) args avs) : ∀ (sgs : List Sig), (∀ sg ∈ sgs, SigOK C.P g sg) → (callOc s d args sgs).val = some s' →
    (∃ fn, C.P.funcs[g]? = some fn ∧ (fn.name == "runtime.NumGoroutine") = false ∧ fn.body.isSome = true) ∧
    Calls C.P g avs.toArray w fun e w' => ∃ G' rv, e = .returned (retV rv) ∧ Holds F s' G' (a.put (some d) (retV rv)).tmps.toList w' ∧ Step N0 N0 s G w s' G' w'
  | [], _, hv => by cases hv
  | sg :: sgs, hsg, hv => by
    simp only [callOc] at hv
    split at hv
    · exact call_sound h hargs sgs (fun sg hs => hsg sg (by simp [hs])) hv
    · rename_i hpan
      have hpan2 : sg.f.pan = none := by simpa using hpan
      split at hv
      · rename_i c hc
        split at hv
        · rename_i ps hps
          simp only [Oc.val] at hv
          obtain ⟨qs, hqs, hbk⟩ := Option.bind_eq_some_iff.1 hv
          rw [Oc.val_ofOption] at hbk
          obtain ⟨hfn, hok⟩ := hsg sg (by simp)
          refine ⟨hfn, ?_⟩
          have hok2 := hok ps qs hqs
          rw [hpan2] at hok2
          refine (hok2 _ _ _ _ (call_in h hargs hc hps)).mono ?_
          rintro e w' ⟨G1, rv, rfl, hR, hst⟩
          obtain ⟨G', k1, k2⟩ := call_back h hargs hc hps hbk hR hst
          exact ⟨G', rv, rfl, k1, k2⟩
        · exact call_sound h hargs sgs (fun sg hs => hsg sg (by simp [hs])) hv
      · exact call_sound h hargs sgs (fun sg hs => hsg sg (by simp [hs])) hv

theorem killIn_box {bs os : List Nat} {b : Nat} {ls : List L} (hb : boxAt (killIn s bs os) b = some ls) : ∃ q, boxAt s b = some q ∧ ls = q.map (killLf bs os) ∧ b ∉ bs := by
  unfold boxAt killIn at hb
  simp only [List.getElem?_map] at hb
  cases hr : (List.range s.boxes.length)[b]? with
  | none => rw [hr] at hb; cases hb
  | some x =>
    rw [hr] at hb
    have hx : x = b := by
      obtain ⟨_, e⟩ := List.getElem?_eq_some_iff.1 hr
      simpa using e.symm
    subst hx
    simp only [Option.map_some, Option.bind_some, id] at hb
    split at hb
    · cases hb
    · rename_i hn
      obtain ⟨q, hq, rfl⟩ := Option.map_eq_some_iff.1 hb
      exact ⟨q, hq, rfl, by simpa using hn⟩
theorem killIn_own {bs os : List Nat} {l : Nat} {x : Own} (hx : ownAt (killIn s bs os) l = some x) : ownAt s l = some x ∧ l ∉ os := by
  unfold ownAt killIn at hx
  simp only [List.getElem?_map] at hx
  cases hr : (List.range s.owns.length)[l]? with
  | none => rw [hr] at hx; cases hx
  | some y =>
    rw [hr] at hx
    have hy : y = l := by
      obtain ⟨_, e⟩ := List.getElem?_eq_some_iff.1 hr
      simpa using e.symm
    subst hy
    simp only [Option.map_some, Option.bind_some, id] at hx
    split at hx
    · cases hx
    · rename_i hn
      exact ⟨hx, by simpa using hn⟩
/-- Behind a call that panicked: what it was not handed is as it was. -/
theorem killIn_sound {bs os : List Nat} {si : St} {Gi : Gm} (h : Holds F s G vals w) (hk : Keeps (Live si Gi) w w') (hsub : ∀ j, Live si Gi j → Live s G j ∧ ((∃ b ∈ bs, ∃ ls, boxAt s b = some ls ∧ G.bx b = j) ∨ (∃ l ∈ os, ∃ x, ownAt s l = some x ∧ (G.ow l).ownBlock = some j))) :
    Holds F (killIn s bs os) G vals w' ∧ Step N0 N0 s G w (killIn s bs os) G w' := by
  have hlive : ∀ j, Live (killIn s bs os) G j → Live s G j ∧ ¬ Live si Gi j := by
    rintro j (⟨b, ls, hb, rfl⟩ | ⟨l, x, hx, hj⟩)
    · obtain ⟨q, hq, rfl, hn⟩ := killIn_box hb
      refine ⟨.inl ⟨b, q, hq, rfl⟩, fun hL => ?_⟩
      rcases (hsub _ hL).2 with ⟨b2, hb2, ls2, hls2, e⟩ | ⟨l2, hl2, x2, hx2, e⟩
      · exact hn (h.bb b2 b ls2 q hls2 hq e ▸ hb2)
      · exact h.bo b q l2 x2 hq hx2 e
    · obtain ⟨hx', hn⟩ := killIn_own hx
      refine ⟨.inr ⟨l, x, hx', hj⟩, fun hL => ?_⟩
      rcases (hsub _ hL).2 with ⟨b2, hb2, ls2, hls2, e⟩ | ⟨l2, hl2, x2, hx2, e⟩
      · exact h.bo b2 ls2 l x hls2 hx' (by rw [e]; exact hj)
      · exact hn (h.oo l2 l x2 x j hx2 hx' e hj ▸ hl2)
  have hok : ∀ j, okS F s G w j → okS F (killIn s bs os) G w' j ∧ w'.heap[j]? = w.heap[j]? := fun j hj =>
    ⟨⟨Nat.lt_of_lt_of_le hj.1 hk.size, hj.2.1, fun hL => hj.2.2 (hlive j hL).1⟩, hk.block j hj.1 fun hL => hj.2.2 (hsub j hL).1⟩
  have hleaf : ∀ l v, HR F s G w l v → HR F (killIn s bs os) G w' (killLf bs os l) v := by
    intro l v hr
    unfold killLf
    split
    · exact HL.keep hok (fun m x hx => ⟨x, (killIn_own (s := s) (bs := bs) (os := os) hx).1, Nat.le_refl _, rfl⟩) hr
    · exact hr.one
  have hlt : ∀ {j}, Live s G j → j < w.heap.size := fun hj => h.lt hj
  refine ⟨⟨?_, fun b ls hb => ?_, fun l x hx => ?_, fun b b' ls ls' hb hb' e => ?_, fun b ls l x hb hx => ?_, fun l l' x x' k hx hx' => ?_, fun k hL => h.nF k (hlive k hL).1, fun k hF => Nat.lt_of_lt_of_le (h.Flt k hF) hk.size, fun b ls hb cs et fr hc => ?_⟩,
    ⟨⟨hk.os, hk.tape, hk.output, hk.size, fun k hk2 hn => hk.block k hk2 fun hL => hn (hsub k hL).1⟩, fun k hL => .inl (hlive k hL).1, fun _ _ => ⟨rfl, rfl⟩, fun l _ x hx => ⟨⟨x, (killIn_own hx).1⟩, rfl⟩⟩⟩
  · show All2 _ (s.slots.map _) vals
    exact All2.map_left (h.slots.imp fun _ _ ha => ha.map hleaf)
  · have hL : Live (killIn s bs os) G (G.bx b) := .inl ⟨b, ls, hb, rfl⟩
    obtain ⟨q, hq, rfl, hn⟩ := killIn_box hb
    obtain ⟨cs, et, hc, hl⟩ := h.box b q hq
    refine ⟨cs, et, ?_, All2.map_left (hl.imp hleaf)⟩
    rw [hk.block _ (hlt (hlive _ hL).1) (hlive _ hL).2]
    exact hc
  · obtain ⟨hx', hn⟩ := killIn_own hx
    obtain ⟨h0, cs, hr, he⟩ := h.own l x hx'
    refine ⟨h0, cs, ownsRow_block hr fun k hk2 => ?_, he.mono hok⟩
    have hL : Live (killIn s bs os) G k := .inr ⟨l, x, hx, hk2⟩
    exact hk.block k (hlt (hlive k hL).1) (hlive k hL).2
  · obtain ⟨q, hq, _, _⟩ := killIn_box hb
    obtain ⟨q', hq', _, _⟩ := killIn_box hb'
    exact h.bb b b' q q' hq hq' e
  · obtain ⟨q, hq, _, _⟩ := killIn_box hb
    exact h.bo b q l x hq (killIn_own hx).1
  · exact h.oo l l' x x' k (killIn_own hx).1 (killIn_own hx').1
  · have hL : Live (killIn s bs os) G (G.bx b) := .inl ⟨b, ls, hb, rfl⟩
    obtain ⟨q, hq, _, _⟩ := killIn_box hb
    rw [hk.block _ (hlt (hlive _ hL).1) (hlive _ hL).2] at hc
    exact h.ty b q hq cs et fr hc

/-- The next state behind a call that may panic. -/
theorem callP_sound {C : Cfg} {g d : Nat} {args : List AV} {avs : List Value} {e : XE} (h : Holds F s G a.tmps.toList w) (hargs : All2 (HA (HR F s G w)) args avs) : ∀ (sgs : List Sig), (∀ sg ∈ sgs, SigOK C.P g sg) → (callPc s d args sgs).val = some (e, s') →
    (∃ fn, C.P.funcs[g]? = some fn ∧ (fn.name == "runtime.NumGoroutine") = false ∧ fn.body.isSome = true) ∧
    Calls C.P g avs.toArray w fun r w' => (e = .normal ∧ ∃ G' rv, r = .returned (retV rv) ∧ Holds F s' G' (a.put (some d) (retV rv)).tmps.toList w' ∧ Step N0 N0 s G w s' G' w') ∨
      (∃ t ps pg v, e = .pan t ps pg ∧ PanV t ps pg v ∧ r = .panicked [{ v := v, recovered := false }] ∧ Holds F s' G a.tmps.toList w' ∧ Step N0 N0 s G w s' G w')
  | [], _, hv => by cases hv
  | sg :: sgs, hsg, hv => by
    simp only [callPc] at hv
    split at hv
    · rename_i c hc
      split at hv
      · rename_i ps hps
        obtain ⟨hfn, hok⟩ := hsg sg (by simp)
        refine ⟨hfn, ?_⟩
        split at hv
        · rename_i hpan
          simp only [Oc.val] at hv
          obtain ⟨qs, hqs, hbk⟩ := Option.bind_eq_some_iff.1 hv
          rw [Oc.val_bind, Oc.val_ofOption] at hbk
          obtain ⟨s1, hbk, h1⟩ := Option.bind_eq_some_iff.1 hbk
          cases h1
          have hok2 := hok ps qs hqs
          rw [hpan] at hok2
          refine (hok2 _ _ _ _ (call_in h hargs hc hps)).mono ?_
          rintro r w' ⟨G1, rv, rfl, hR, hst⟩
          obtain ⟨G', k1, k2⟩ := call_back h hargs hc hps hbk hR hst
          exact .inl ⟨rfl, G', rv, rfl, k1, k2⟩
        · rename_i p hpan
          simp only [Oc.val] at hv
          obtain ⟨qs, hqs, hbk⟩ := Option.bind_eq_some_iff.1 hv
          have hok2 := hok ps qs hqs
          rw [hpan] at hok2
          refine (hok2 _ _ _ _ (call_in h hargs hc hps)).mono ?_
          rintro r w' (⟨q, G1, rv, rfl, rfl, hR, hst⟩ | ⟨q, v, rfl, rfl, hP, hk⟩)
          · simp only at hbk
            rw [Oc.val_bind, Oc.val_ofOption] at hbk
            obtain ⟨s1, hbk, h1⟩ := Option.bind_eq_some_iff.1 hbk
            cases h1
            obtain ⟨G', k1, k2⟩ := call_back h hargs hc hps hbk hR hst
            exact .inl ⟨rfl, G', rv, rfl, k1, k2⟩
          · simp only [Oc.val] at hbk
            cases hbk
            obtain ⟨hnB, hnO, hdis, hdisB, as, bs, os, hA, hB, hO, hs⟩ := co_parts hc
            obtain ⟨hBl, hBk, hBg⟩ := coBs_get hB
            obtain ⟨hOl, hOk, hOg⟩ := coOs_get hO
            obtain ⟨e1, e2, e3⟩ := dec_enc hps (szS sg.kin)
            obtain ⟨k1, k2⟩ := killIn_sound (bs := c.mB) (os := somes c.mO) h hk (fun j hj => by
              rcases hj with ⟨b, ls, hb, rfl⟩ | ⟨l, x, hx, hj⟩
              · rw [e2, hs] at hb
                obtain ⟨b', q, ls', k', f1, f2, f3, f4, f5⟩ := hBg b _ (get_app_none hb)
                have hG : (coG G c.mB c.mO).bx b = G.bx b' := by simp [coG, List.getD, f1]
                exact ⟨.inl ⟨b', q, f3, hG.symm⟩, .inl ⟨b', List.mem_of_getElem? f1, q, f3, hG.symm⟩⟩
              · rw [e3, hs] at hx
                rcases (hOg l x (get_app_none hx)).2 with ⟨l', f1, f2⟩ | ⟨f1, _⟩
                · have hG : (coG G c.mB c.mO).ow l = G.ow l' := by simp [coG, List.getD, f1]
                  rw [hG] at hj
                  exact ⟨.inr ⟨l', x, f2, hj⟩, .inr ⟨l', mem_somes f1, x, f2, hj⟩⟩
                · have hG : (coG G c.mB c.mO).ow l = .slice none 0 0 := by simp [coG, List.getD, f1]
                  rw [hG] at hj
                  simp [Value.ownBlock] at hj)
            exact .inr ⟨_, _, _, v, rfl, hP, rfl, k1, k2⟩
      · exact callP_sound h hargs sgs (fun sg hs => hsg sg (by simp [hs])) hv
    · exact callP_sound h hargs sgs (fun sg hs => hsg sg (by simp [hs])) hv

end
end Go.Proofs.YtghmhkpgdmgepaaV
