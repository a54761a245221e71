import Derived.Test.YtghmhkpgdmgepaaV12
import Derived.Maps.AppendAt
/-! The V engine, 13: boxes and rows that are made, given up, or written. -/
set_option linter.unusedVariables false
set_option linter.unusedSimpArgs false
namespace Go.Proofs.YtghmhkpgdmgepaaV
open Go Go.RowKit

/-- A leaf goes over: its places stay, its blocks stay. -/
theorem HL.tr {G G' : Gm} {w w' : World} {ok ok' : Nat → Prop} {os os' : List (Option Own)} {l : L} {v : Value} (h1 : ∀ k, ok k → ok' k ∧ w'.heap[k]? = w.heap[k]?)
    (hb : ∀ b, l.noB b = false → G'.bx b = G.bx b ∧ G'.et b = G.et b) (ho : ∀ q, l.noO q = false → G'.ow q = G.ow q)
    (h2 : ∀ (q : Nat) (x' : Own), l.noO q = false → (os'[q]?).bind id = some x' → ∃ x : Own, (os[q]?).bind id = some x ∧ x.xs.length ≤ x'.xs.length ∧ x.t.size = x'.t.size)
    (h : HL G w ok os l v) : HL G' w' ok' os' l v := by
  cases l with
  | dead => exact h
  | pv p => exact RepL.mono h1 h
  | cst k => exact h
  | ptr b o => rw [show v = _ from h]; show _ = _; rw [(hb b (by simp [L.noB])).1]
  | own l => exact ⟨by rw [ho l (by simp [L.noO])]; exact h.1, h.2⟩
  | ept l i o sz =>
    obtain ⟨g, n, c, e, e2, e3⟩ := h
    refine ⟨g, n, c, by rw [ho l (by simp [L.noO])]; exact e, e2, fun x' hx => ?_⟩
    obtain ⟨x, hx, hl, hs⟩ := h2 l x' (by simp [L.noO]) hx
    have := e3 x hx
    exact ⟨by omega, by omega⟩
  | rpt ps =>
    obtain ⟨a, cs, e, hs, ho, hc, hr⟩ := h
    exact ⟨a, cs, e, hs, (h1 _ ho).1, hc.move (h1 _ ho).2, hr.imp fun _ _ h => h.mono h1⟩
  | fn f a c =>
    have e : ∀ (q : List (Nat × Nat)), (∀ x ∈ q, (L.fn f a c).noB x.1 = false) → q.map (ptrV G) = q.map (ptrV G') := by
      intro q hq
      apply List.map_congr_left
      intro x hx
      simp only [ptrV]
      rw [(hb x.1 (hq x hx)).1]
    rw [show v = _ from h]
    show _ = _
    rw [e a (fun x hx => ?_), e c (fun x hx => ?_)]
    · simp only [L.noB, Bool.and_eq_false_iff]
      exact .inr (List.all_eq_false.2 ⟨x, hx, by simp⟩)
    · simp only [L.noB, Bool.and_eq_false_iff]
      exact .inl (List.all_eq_false.2 ⟨x, hx, by simp⟩)
  | ifc t ps g =>
    obtain ⟨cs, hr, e⟩ := h
    exact ⟨cs, hr.imp fun _ _ h => h.mono h1, e⟩
  | err b => exact h
  | bld b t z =>
    have hb2 := hb b (by simp [L.noB])
    refine ⟨by rw [hb2.1]; exact h.1, by rw [hb2.2]; exact h.2⟩

section
variable {P : Program} {F : Nat → Prop} {s s' : St} {G : Gm} {a : Act} {w : World} {o : Oper} {v : AV} {vals : List Value}

theorem all_slots {p : L → Bool} (h : s.all p = true) : ∀ x ∈ s.slots, x.all p = true := by
  simp only [St.all, Bool.and_eq_true, List.all_eq_true] at h
  exact h.1
theorem all_box {p : L → Bool} (h : s.all p = true) {b : Nat} {ls : List L} (hb : boxAt s b = some ls) : ∀ l ∈ ls, p l = true := by
  simp only [St.all, Bool.and_eq_true, List.all_eq_true] at h
  unfold boxAt at hb
  cases he : s.boxes[b]? with
  | none => simp [he] at hb
  | some x =>
    simp [he] at hb
    subst hb
    have := h.2 _ (List.mem_of_getElem? he)
    simpa using this
theorem all_get {p : L → Bool} (hc : ∀ v, p (constL v) = true) (hf : ∀ f, p (.fn f [] []) = true) (h : s.all p = true) (x : Operand) : (s.get x).all p = true := by
  cases x with
  | tmp t =>
    simp only [St.get]
    cases he : s.slots[t]? with
    | none => simp [List.getD, he, AV.all]
    | some v =>
      rw [show s.slots.getD t .dead = v from by simp [List.getD, he]]
      exact all_slots h v (List.mem_of_getElem? he)
  | const v =>
    simp only [St.get, constAV]
    split
    · split
      · simp [AV.all, CV.leaves, hc]
      · rfl
    · rfl
    · simp [lf, AV.all, CV.leaves, hc]
  | global g => rfl
  | func f => simp [St.get, lf, AV.all, CV.leaves, hf]
theorem constL_noB (n : Nat) (v : Value) : (constL v).noB n = true := by unfold constL; split <;> (try split) <;> rfl
theorem constL_noO (n : Nat) (v : Value) : (constL v).noO n = true := by unfold constL; split <;> (try split) <;> rfl
theorem leaves_all {p : L → Bool} {x : AV} (h : x.all p = true) {ls : List L} (hl : leavesOf x = some ls) : ∀ l ∈ ls, p l = true := by
  unfold leavesOf at hl
  split at hl
  · cases hl; simpa [AV.all] using h
  · cases hl

theorem boxAt_set {b : Nat} {ls : List L} (hb : b < s.boxes.length) (b' : Nat) : boxAt (setBox s b ls) b' = if b' = b then some ls else boxAt s b' := by
  unfold boxAt setBox
  simp only [List.getElem?_set]
  by_cases h : b = b'
  · subst h; simp [hb]
  · have : ¬ b' = b := fun e => h e.symm
    simp [h, this]
theorem ownAt_set {b : Nat} {x : Option Own} (hb : b < s.owns.length) (b' : Nat) : ownAt (setOwn s b x) b' = if b' = b then x else ownAt s b' := by
  unfold ownAt setOwn
  simp only [List.getElem?_set]
  by_cases h : b = b'
  · subst h; simp [hb]
  · have : ¬ b' = b := fun e => h e.symm
    simp [h, this]
theorem freshB_some {n : Nat} (h : freshB s n = true) : boxAt s n = none ∧ n < s.boxes.length ∧ s.all (L.noB n) = true := by
  simp only [freshB, Bool.and_eq_true] at h
  obtain ⟨h1, h2⟩ := h
  cases he : s.boxes[n]? with
  | none => rw [he] at h1; cases h1
  | some x =>
    rw [he] at h1
    cases x with
    | none => exact ⟨by simp [boxAt, he], (List.getElem?_eq_some_iff.1 he).1, h2⟩
    | some y => cases h1
theorem freshO_some {n : Nat} (h : freshO s n = true) : ownAt s n = none ∧ n < s.owns.length ∧ s.all (L.noO n) = true := by
  simp only [freshO, Bool.and_eq_true] at h
  obtain ⟨h1, h2⟩ := h
  cases he : s.owns[n]? with
  | none => rw [he] at h1; cases h1
  | some x =>
    rw [he] at h1
    cases x with
    | none => exact ⟨by simp [ownAt, he], (List.getElem?_eq_some_iff.1 he).1, h2⟩
    | some y => cases h1
@[simp] theorem setBox_ownAt (b : Nat) (ls : List L) (l : Nat) : ownAt (setBox s b ls) l = ownAt s l := rfl
@[simp] theorem setOwn_boxAt (b : Nat) (x : Option Own) (l : Nat) : boxAt (setOwn s b x) l = boxAt s l := rfl
@[simp] theorem setBox_owns (b : Nat) (ls : List L) : (setBox s b ls).owns = s.owns := rfl

def Gm.setB (G : Gm) (n k t : Nat) : Gm := { G with bx := fun b => if b = n then k else G.bx b, et := fun b => if b = n then t else G.et b }
def Gm.setO (G : Gm) (n : Nat) (v : Value) : Gm := { G with ow := fun b => if b = n then v else G.ow b }

/-- A new box. -/
theorem newBox (h : Holds F s G a.tmps.toList w) {n : Nat} (hf : freshB s n = true) (hN : N0 ≤ n) {ls : List L} (hls : ∀ l ∈ ls, l.noB n = true) {cs : Array Value} (et : Nat) (hc : All2 (HR F s G w) ls cs.toList) (d : Option Nat) :
    Holds F ((setBox s n ls).put d (lf (.ptr n 0))) (G.setB n w.heap.size et) (a.put d (.pointer (some ⟨w.heap.size, 0, none⟩))).tmps.toList (w.alloc (.cells cs et)) ∧
      Step N0 N0 s G w ((setBox s n ls).put d (lf (.ptr n 0))) (G.setB n w.heap.size et) (w.alloc (.cells cs et)) := by
  obtain ⟨hn, hlt, hall⟩ := freshB_some hf
  have hbx := fun b => boxAt_set (s := s) (ls := ls) hlt b
  have hG : ∀ b, b ≠ n → (G.setB n w.heap.size et).bx b = G.bx b := fun b hb => by simp [Gm.setB, hb]
  have hGn : (G.setB n w.heap.size et).bx n = w.heap.size := by simp [Gm.setB]
  have hGe : ∀ b, b ≠ n → (G.setB n w.heap.size et).et b = G.et b := fun b hb => by simp [Gm.setB, hb]
  have hlive : ∀ k, Live (setBox s n ls) (G.setB n w.heap.size et) k ↔ Live s G k ∨ k = w.heap.size := by
    intro k
    constructor
    · rintro (⟨b, q, hb, rfl⟩ | ⟨l, q, hq, hk⟩)
      · rw [hbx] at hb
        split at hb
        · rename_i e; subst e; exact .inr hGn
        · rename_i e; exact .inl (.inl ⟨b, q, hb, (hG b e).symm⟩)
      · exact .inl (.inr ⟨l, q, hq, hk⟩)
    · rintro ((⟨b, q, hb, rfl⟩ | ⟨l, q, hq, hk⟩) | rfl)
      · have e : b ≠ n := by rintro rfl; rw [hn] at hb; cases hb
        exact .inl ⟨b, q, by rw [hbx, if_neg e]; exact hb, hG b e⟩
      · exact .inr ⟨l, q, hq, hk⟩
      · exact .inl ⟨n, ls, by rw [hbx]; simp, hGn⟩
  have hgr := Grew.alloc w (.cells cs et)
  have hok : ∀ k, okS F s G w k → okS F (setBox s n ls) (G.setB n w.heap.size et) (w.alloc (.cells cs et)) k ∧ (w.alloc (.cells cs et)).heap[k]? = w.heap[k]? := by
    intro k hk
    refine ⟨⟨Nat.lt_of_lt_of_le hk.1 hgr.size, hk.2.1, fun hL => ?_⟩, hgr.block hk.1⟩
    rcases (hlive k).1 hL with h1 | h1
    · exact hk.2.2 h1
    · have := hk.1; omega
  have htr : ∀ l v, l.noB n = true → HR F s G w l v → HR F (setBox s n ls) (G.setB n w.heap.size et) (w.alloc (.cells cs et)) l v := by
    intro l v hl hr
    refine HL.tr hok (fun b hb => have e : b ≠ n := ?_; ⟨hG b e, by simp [Gm.setB, e]⟩) (fun _ _ => rfl) (fun q x' _ hx => ⟨x', hx, Nat.le_refl _, rfl⟩) hr
    rintro rfl
    rw [hl] at hb
    cases hb
  have hH : Holds F (setBox s n ls) (G.setB n w.heap.size et) a.tmps.toList (w.alloc (.cells cs et)) := by
    refine ⟨?_, ?_, ?_, ?_, ?_, h.oo, ?_, ?_, ?_⟩
    · exact h.slots.imp_mem fun x u hx ha => HA.imp_all htr (all_slots hall x hx) ha
    · intro b q hb
      rw [hbx] at hb
      split at hb
      · rename_i e
        subst e
        cases hb
        exact ⟨cs, et, by rw [hGn]; exact heap_alloc_new w _, hc.imp_mem fun l u hl hr => htr l u (hls l hl) hr⟩
      · rename_i e
        obtain ⟨cs', et', h1, h2⟩ := h.box b q hb
        refine ⟨cs', et', ?_, h2.imp_mem fun l u hl hr => htr l u (all_box hall hb l hl) hr⟩
        rw [hG b e, hgr.block (Array.getElem?_eq_some_iff.1 h1).1]
        exact h1
    · intro l q hq
      obtain ⟨h0, cs', h1, h2⟩ := h.own l q hq
      exact ⟨h0, cs', ownsRow_block h1 (fun k hk => hgr.block (h1.lt k hk).2), h2.mono hok⟩
    · intro b b' q q' hb hb' e
      rw [hbx] at hb hb'
      split at hb <;> split at hb'
      · rename_i e1 e2; rw [e1, e2]
      · rename_i e1 e2
        subst e1
        rw [hGn, hG b' e2] at e
        obtain ⟨_, _, h1, _⟩ := h.box b' q' hb'
        have := (Array.getElem?_eq_some_iff.1 h1).1
        omega
      · rename_i e1 e2
        subst e2
        rw [hGn, hG b e1] at e
        obtain ⟨_, _, h1, _⟩ := h.box b q hb
        have := (Array.getElem?_eq_some_iff.1 h1).1
        omega
      · rename_i e1 e2
        rw [hG b e1, hG b' e2] at e
        exact h.bb b b' q q' hb hb' e
    · intro b q l x hb hx e
      rw [hbx] at hb
      split at hb
      · rename_i e1
        subst e1
        rw [hGn] at e
        have := h.lt (.inr ⟨l, x, hx, e⟩)
        omega
      · rename_i e1
        rw [hG b e1] at e
        exact h.bo b q l x hb hx e
    · intro k hk hF
      rcases (hlive k).1 hk with h1 | rfl
      · exact h.nF k h1 hF
      · exact Nat.lt_irrefl _ (h.Flt _ hF)
    · exact fun k hk => Nat.lt_of_lt_of_le (h.Flt k hk) hgr.size
    · intro b q hb cs' et' fr' hc'
      rw [hbx] at hb
      split at hb
      · rename_i e
        subst e
        rw [hGn, heap_alloc_new w _] at hc'
        cases hc'
        simp [Gm.setB]
      · rename_i e
        obtain ⟨cs2, et2, h1, h2⟩ := h.box b q hb
        rw [hG b e, hgr.block (Array.getElem?_eq_some_iff.1 h1).1] at hc'
        have := h.ty b q hb cs' et' fr' hc'
        simpa [Gm.setB, e] using this
  refine ⟨hH.put d (v := lf (.ptr n 0)) (by show _ = _; rw [hGn]), Step.trans (s1 := setBox s n ls) ⟨⟨hgr.os, hgr.tape, hgr.output, hgr.size, fun k hk _ => hgr.block hk⟩, fun k hk => ?_, fun b hb => ⟨hG b (by omega), hGe b (by omega)⟩, fun l _ q hq => ⟨⟨q, hq⟩, rfl⟩⟩ (Step.put d _)⟩
  rcases (hlive k).1 hk with h1 | rfl
  · exact .inl h1
  · exact .inr (Nat.le_refl _)

/-- A row that is given up, or none. -/
def gone (s : St) : Option Nat → St
  | none => s
  | some l => killO s l
def goneL : Option Nat → L → L
  | none, l => l
  | some n, l => killL n l
theorem killL_one {R : L → Value → Prop} (h1 : ∀ l v, R l v → v.oneCell' = true) {n : Nat} {l : L} {v : Value} (h : R l v) (hd : ∀ v, v.oneCell' = true → R .dead v) : R (killL n l) v := by
  unfold killL
  split
  · split
    · exact hd v (h1 _ _ h)
    · exact h
  · split
    · exact hd v (h1 _ _ h)
    · exact h
  · exact h
theorem goneL_holds {R : L → Value → Prop} (h1 : ∀ l v, R l v → v.oneCell' = true) (hd : ∀ v, v.oneCell' = true → R .dead v) {c : Option Nat} {l : L} {v : Value} (h : R l v) : R (goneL c l) v := by
  cases c with
  | none => exact h
  | some n => exact killL_one h1 h hd
theorem gone_slots {R S : L → Value → Prop} {c : Option Nat} (f : ∀ l v, R l v → S (goneL c l) v) {as : List AV} {vs : List Value} (h : All2 (HA R) as vs) :
    All2 (HA S) (match c with | none => as | some n => as.map (AV.map (killL n))) vs := by
  cases c with
  | none => exact h.imp fun x u ha => HA.imp f ha
  | some n => exact All2.map_left (h.imp fun x u ha => HA.map f ha)
theorem gone_slotsEq (c : Option Nat) : (gone s c).slots = (match c with | none => s.slots | some n => s.slots.map (AV.map (killL n))) := by cases c <;> rfl
theorem gone_boxAt {c : Option Nat} {b : Nat} {ls : List L} (h : boxAt (gone s c) b = some ls) : ∃ q, boxAt s b = some q ∧ ls = q.map (goneL c) := by
  cases c with
  | none => exact ⟨ls, h, by simp [show goneL none = id from rfl]⟩
  | some n =>
    simp only [gone, killO, setOwn_boxAt] at h
    unfold boxAt St.map at h
    simp only [List.getElem?_map] at h
    unfold boxAt
    cases he : s.boxes[b]? with
    | none => simp [he] at h
    | some x =>
      cases x with
      | none => simp [he] at h
      | some q => simp [he] at h; exact ⟨q, rfl, h.symm⟩
theorem boxAt_gone {c : Option Nat} {b : Nat} {q : List L} (h : boxAt s b = some q) : boxAt (gone s c) b = some (q.map (goneL c)) := by
  cases c with
  | none => rw [show goneL none = id from rfl]; simpa [gone] using h
  | some n =>
    simp only [gone, killO, setOwn_boxAt]
    unfold boxAt at h ⊢
    unfold St.map
    simp only [List.getElem?_map]
    cases he : s.boxes[b]? with
    | none => simp [he] at h
    | some x =>
      cases x with
      | none => simp [he] at h
      | some y => simp [he] at h; subst h; rfl
theorem gone_ownAt (c : Option Nat) (l : Nat) : ownAt (gone s c) l = if c = some l then none else ownAt s l := by
  cases c with
  | none => simp [gone]
  | some n =>
    simp only [gone, killO]
    by_cases hlt : n < s.owns.length
    · rw [ownAt_set (s := s.map (killL n)) hlt]
      by_cases h : l = n
      · subst h; simp
      · have : ¬ n = l := fun e => h e.symm
        simp [h, this]
        rfl
    · have e1 : ownAt (setOwn (s.map (killL n)) n none) l = ownAt s l := by
        unfold ownAt setOwn
        simp only [St.map]
        rw [List.set_eq_of_length_le (by omega)]
      rw [e1]
      split
      · rename_i e
        cases e
        unfold ownAt
        rw [List.getElem?_eq_none (by omega)]
        rfl
      · rfl
theorem gone_len (c : Option Nat) : (gone s c).owns.length = s.owns.length := by cases c <;> simp [gone, killO, setOwn, St.map]

theorem Holds.bb' (h : Holds F s G vals w) (c : Option Nat) (n : Nat) (o : Own) : ∀ b b' ls ls', boxAt (setOwn (gone s c) n (some o)) b = some ls → boxAt (setOwn (gone s c) n (some o)) b' = some ls' → G.bx b = G.bx b' → b = b' := by
  intro b b' q q' hb hb' e
  obtain ⟨p, hp, _⟩ := gone_boxAt (c := c) hb
  obtain ⟨p', hp', _⟩ := gone_boxAt (c := c) hb'
  exact h.bb b b' p p' hp hp' e
/-- A new row; c: the row that it comes out of, if any. -/
theorem newOwn (h : Holds F s G a.tmps.toList w) {n : Nat} (c : Option Nat) (hf : freshO (gone s c) n = true) (hN : N0 ≤ n) {o : Own} {v' : Value} {w' : World} (h0 : 0 < o.t.size)
    (hk : Keeps (fun k => ∃ l x, c = some l ∧ ownAt s l = some x ∧ (G.ow l).ownBlock = some k) w w')
    (hat : ∀ k, v'.ownBlock = some k → (∃ l x, c = some l ∧ ownAt s l = some x ∧ (G.ow l).ownBlock = some k) ∨ w.heap.size ≤ k)
    {cs : List Value} (hr : w'.ownsRow 0 o.e o.t.size v' o.xs.length cs) (he : RepRow w (okS F s G w) o.t o.xs cs) (h1c : v'.oneCell' = true) (d : Option Nat) :
    Holds F ((setOwn (gone s c) n (some o)).put d (lf (.own n))) (G.setO n v') (a.put d v').tmps.toList w' ∧
      Step N0 N0 s G w ((setOwn (gone s c) n (some o)).put d (lf (.own n))) (G.setO n v') w' := by
  obtain ⟨hn, hlt, hall⟩ := freshO_some hf
  have hox := fun l => ownAt_set (s := gone s c) (x := some o) hlt l
  have hG : ∀ l, l ≠ n → (G.setO n v').ow l = G.ow l := fun l hl => by simp [Gm.setO, hl]
  have hGn : (G.setO n v').ow n = v' := by simp [Gm.setO]
  -- rows that were there
  have hold : ∀ l x, ownAt (setOwn (gone s c) n (some o)) l = some x → (l = n ∧ x = o) ∨ (l ≠ n ∧ c ≠ some l ∧ ownAt s l = some x) := by
    intro l x hx
    rw [hox] at hx
    split at hx
    · rename_i e; cases hx; exact .inl ⟨e, rfl⟩
    · rename_i e
      rw [gone_ownAt] at hx
      split at hx
      · cases hx
      · rename_i e2; exact .inr ⟨e, e2, hx⟩
  have hlive : ∀ k, Live (setOwn (gone s c) n (some o)) (G.setO n v') k → Live s G k ∨ w.heap.size ≤ k := by
    rintro k (⟨b, q, hb, rfl⟩ | ⟨l, x, hx, hkk⟩)
    · obtain ⟨q', hq', _⟩ := gone_boxAt (c := c) hb
      exact .inl (.inl ⟨b, q', hq', rfl⟩)
    · rcases hold l x hx with ⟨rfl, rfl⟩ | ⟨e1, _, e3⟩
      · rw [hGn] at hkk
        rcases hat k hkk with ⟨l', x', _, h2, h3⟩ | h2
        · exact .inl (.inr ⟨l', x', h2, h3⟩)
        · exact .inr h2
      · rw [hG l e1] at hkk
        exact .inl (.inr ⟨l, x, e3, hkk⟩)
  have hblk : ∀ k, k < w.heap.size → (∀ l x, c = some l → ownAt s l = some x → (G.ow l).ownBlock ≠ some k) → w'.heap[k]? = w.heap[k]? :=
    fun k hk1 hk2 => hk.block k hk1 (by rintro ⟨l, x, e1, e2, e3⟩; exact hk2 l x e1 e2 e3)
  have hok : ∀ k, okS F s G w k → okS F (setOwn (gone s c) n (some o)) (G.setO n v') w' k ∧ w'.heap[k]? = w.heap[k]? := by
    intro k hk1
    refine ⟨⟨Nat.lt_of_lt_of_le hk1.1 hk.size, hk1.2.1, fun hL => ?_⟩, hblk k hk1.1 fun l x e1 e2 e3 => hk1.2.2 (.inr ⟨l, x, e2, e3⟩)⟩
    rcases hlive k hL with h2 | h2
    · exact hk1.2.2 h2
    · have := hk1.1; omega
  have htr : ∀ l v, l.noO n = true → goneL c l = l → HR F s G w l v → HR F (setOwn (gone s c) n (some o)) (G.setO n v') w' l v := by
    intro l v hl hgl hr
    refine HL.tr (G := G) hok (fun _ _ => ⟨rfl, rfl⟩) (fun q hq => hG q ?_) (fun q x' hq hx => ?_) hr
    · rintro rfl
      rw [hl] at hq
      cases hq
    · rcases hold q x' hx with ⟨rfl, _⟩ | ⟨_, _, e3⟩
      · rw [hl] at hq; cases hq
      · exact ⟨x', e3, Nat.le_refl _, rfl⟩
  have hdead : ∀ v, v.oneCell' = true → HR F (setOwn (gone s c) n (some o)) (G.setO n v') w' .dead v := fun v hv => hv
  have htr2 : ∀ l v, (goneL c l).noO n = true → HR F s G w l v → HR F (setOwn (gone s c) n (some o)) (G.setO n v') w' (goneL c l) v := by
    intro l v hl hr
    have hcase : goneL c l = l ∨ goneL c l = .dead := by
      cases c with
      | none => exact .inl rfl
      | some m =>
        simp only [goneL, killL]
        split <;> (try split) <;> first | exact .inr rfl | exact .inl rfl
    rcases hcase with e | e
    · rw [e] at hl ⊢
      exact htr l v hl e hr
    · rw [e]
      exact hdead v hr.one
  have hH : Holds F (setOwn (gone s c) n (some o)) (G.setO n v') a.tmps.toList w' := by
    refine ⟨?_, ?_, ?_, h.bb' c n o, ?_, ?_, ?_, ?_, ?_⟩
    · have h5 : All2 (HA (HR F s G w)) s.slots a.tmps.toList := h.slots
      have hall2 := all_slots hall
      show All2 _ (gone s c).slots _
      rw [gone_slotsEq] at hall2 ⊢
      cases c with
      | none => exact h5.imp_mem fun x u hx ha => HA.imp_all (fun l v hl hr => htr2 l v hl hr) (hall2 x hx) ha
      | some m =>
        have h6 : All2 (fun x u => HA (HR F (setOwn (gone s (some m)) n (some o)) (G.setO n v') w') (AV.map (killL m) x) u) s.slots a.tmps.toList := by
          refine h5.imp_mem fun x u hx ha => ?_
          have h7 := hall2 (AV.map (killL m) x) (List.mem_map.2 ⟨x, hx, rfl⟩)
          exact HA.map_all (g := killL m) (p := L.noO n) (fun l v hl hr => htr2 l v hl hr) h7 ha
        exact h6.map_left
    · intro b q hb
      obtain ⟨q', hq', rfl⟩ := gone_boxAt (c := c) hb
      obtain ⟨cs', et', h1, h2⟩ := h.box b q' hq'
      refine ⟨cs', et', ?_, ?_⟩
      · show w'.heap[G.bx b]? = _
        rw [hblk _ (Array.getElem?_eq_some_iff.1 h1).1 (fun l x _ e2 => h.bo b q' l x hq' e2)]
        exact h1
      · have hall2 := all_box hall (boxAt_gone (c := c) hq')
        exact All2.map_left (h2.imp_mem fun l u hl hr => htr2 l u (hall2 _ (List.mem_map.2 ⟨l, hl, rfl⟩)) hr)
    · intro l x hx
      rcases hold l x hx with ⟨rfl, rfl⟩ | ⟨e1, e2, e3⟩
      · exact ⟨h0, cs, by rw [hGn]; exact hr, he.mono hok⟩
      · obtain ⟨g0, cs', g1, g2⟩ := h.own l x e3
        refine ⟨g0, cs', ?_, g2.mono hok⟩
        rw [hG l e1]
        refine ownsRow_block g1 fun k hkk => hblk k (g1.lt k hkk).2 fun l' x' c1 c2 c3 => ?_
        have := h.oo l l' x x' k e3 c2 hkk c3
        subst this
        exact e2 c1
    · intro b q l x hb hx e
      obtain ⟨q', hq', _⟩ := gone_boxAt (c := c) hb
      rcases hold l x hx with ⟨rfl, rfl⟩ | ⟨e1, e2, e3⟩
      · rw [hGn] at e
        rcases hat _ e with ⟨l', x', _, g2, g3⟩ | g2
        · exact h.bo b q' l' x' hq' g2 g3
        · have := h.lt (.inl ⟨b, q', hq', rfl⟩)
          have e8 : (G.setO l v').bx b = G.bx b := rfl
          rw [e8] at g2
          omega
      · rw [hG l e1] at e
        exact h.bo b q' l x hq' e3 e
    · intro l l' x x' k hx hx' e e'
      rcases hold l x hx with ⟨rfl, rfl⟩ | ⟨e1, e2, e3⟩ <;> rcases hold l' x' hx' with ⟨f1, rfl⟩ | ⟨f1, f2, f3⟩
      · exact f1.symm
      · rw [hGn] at e
        rw [hG l' f1] at e'
        rcases hat _ e with ⟨m, y, g1, g2, g3⟩ | g2
        · have := h.oo m l' y x' k g2 f3 g3 e'
          subst this
          exact absurd g1 f2
        · have := h.lt (.inr ⟨l', x', f3, e'⟩)
          omega
      · subst f1
        rw [hGn] at e'
        rw [hG l e1] at e
        rcases hat _ e' with ⟨m, y, g1, g2, g3⟩ | g2
        · have := h.oo m l y x k g2 e3 g3 e
          subst this
          exact absurd g1 e2
        · have := h.lt (.inr ⟨l, x, e3, e⟩)
          omega
      · rw [hG l e1] at e
        rw [hG l' f1] at e'
        exact h.oo l l' x x' k e3 f3 e e'
    · intro k hkk hF
      rcases hlive k hkk with g1 | g1
      · exact h.nF k g1 hF
      · have := h.Flt k hF; omega
    · exact fun k hkk => Nat.lt_of_lt_of_le (h.Flt k hkk) hk.size
    · intro b q hb cs' et' fr' hc'
      obtain ⟨q', hq', _⟩ := gone_boxAt (c := c) hb
      obtain ⟨cs2, et2, h1, h2⟩ := h.box b q' hq'
      have hc2 : w'.heap[G.bx b]? = some (.cells cs' et' fr') := hc'
      rw [hblk _ (Array.getElem?_eq_some_iff.1 h1).1 (fun l x _ e2 => h.bo b q' l x hq' e2)] at hc2
      exact h.ty b q' hq' cs' et' fr' hc2
  refine ⟨hH.put d (v := lf (.own n)) ⟨hGn.symm, h1c⟩, Step.trans (s1 := setOwn (gone s c) n (some o)) ⟨⟨hk.os, hk.tape, hk.output, hk.size, fun k hk1 hk2 => hblk k hk1 fun l x _ e2 e3 => hk2 (.inr ⟨l, x, e2, e3⟩)⟩, hlive, fun b hb => ⟨rfl, rfl⟩, fun l hl x hx => ?_⟩ (Step.put d _)⟩
  rcases hold l x hx with ⟨rfl, rfl⟩ | ⟨e1, e2, e3⟩
  · omega
  · exact ⟨⟨x, e3⟩, hG l e1⟩

end
end Go.Proofs.YtghmhkpgdmgepaaV
