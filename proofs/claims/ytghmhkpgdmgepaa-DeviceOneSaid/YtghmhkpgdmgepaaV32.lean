import Derived.Test.YtghmhkpgdmgepaaV24
/-! The V engine, 32 (ahead of 25): operations that make a row of the call's own, beside operations that only read. -/
set_option linter.unusedVariables false
set_option linter.unusedSimpArgs false
namespace Go.Proofs.YtghmhkpgdmgepaaV
open Go Go.RowKit

/-- What killing and freezing rows does to a leaf: the rows that it is done to, and what their holders hold then. -/
def fD (D : Nat → Bool) (q : Nat → Option PL) : L → L
  | .own l => if D l then (match q l with | some p => .pv p | none => .dead) else .own l
  | .ept l i o z => if D l then .dead else .ept l i o z
  | l => l

structure GM (s t : St) (D : Nat → Bool) (q : Nat → Option PL) : Prop where
  slots : t.slots = s.slots.map (AV.map (fD D q))
  boxes : t.boxes = s.boxes.map (Option.map (List.map (fD D q)))
  owns : ∀ l, D l = false → ownAt t l = ownAt s l

def Nat1 (g : St → St) : Prop := ∀ s, ∃ D q, GM s (g s) D q ∧ ∀ d v, g (s.put (some d) v) = (g s).put (some d) (v.map (fD D q))

theorem map_id_L {f : L → L} (h : ∀ l, f l = l) (v : AV) : v.map f = v := by
  have : f = id := funext h
  subst this
  have hc : ∀ c : CV, c.map id = c := by intro c; cases c <;> simp [CV.map]
  cases v with
  | dead => rfl
  | cv c => simp [AV.map, hc]
  | tup cs => simp only [AV.map]; congr 1; exact (List.map_congr_left fun c _ => hc c).trans (List.map_id _)
theorem fD_none (q : Nat → Option PL) (l : L) : fD (fun _ => false) q l = l := by cases l <;> rfl
theorem nat_id : Nat1 id := fun s => ⟨fun _ => false, fun _ => none, ⟨by
    rw [show AV.map (fD (fun _ => false) fun _ => none) = id from funext fun v => map_id_L (fD_none _) v, List.map_id]; rfl, by
    have : (fD (fun _ => false) fun _ => none) = id := funext (fD_none _)
    rw [this, List.map_id_fun, Option.map_id_fun, List.map_id_fun]; rfl, fun l _ => rfl⟩, fun d v => by rw [map_id_L (fD_none _)]; rfl⟩
theorem setOwn_ownAt_ne {s : St} {n l : Nat} {o : Option Own} (h : l ≠ n) : ownAt (setOwn s n o) l = ownAt s l := by
  simp only [ownAt, setOwn, List.getElem?_set_ne (Ne.symm h)]
theorem killL_fD (n : Nat) : killL n = fD (fun l => l == n) (fun _ => none) := by
  funext l
  cases l <;> simp [killL, fD]
theorem map_put {f : L → L} {s : St} {d : Nat} {v : AV} : (s.put (some d) v).map f = (s.map f).put (some d) (v.map f) := by
  simp only [St.map, St.put, List.map_set]
theorem nat_kill (n : Nat) : Nat1 (fun s => killO s n) := fun s => ⟨fun l => l == n, fun _ => none, ⟨by rw [← killL_fD]; rfl, by rw [← killL_fD]; rfl, fun l hl => by
    unfold killO
    rw [setOwn_ownAt_ne (by simpa using hl)]; rfl⟩, fun d v => by
    rw [← killL_fD]
    show setOwn ((s.put (some d) v).map (killL n)) n none = _
    rw [map_put]; rfl⟩
theorem frzL_fD (n : Nat) (p : PL) : frzL n p = fD (fun l => l == n) (fun _ => some p) := by
  funext l
  cases l <;> simp [frzL, fD]
theorem nat_frz (n : Nat) : Nat1 (fun s => frz s n) := fun s => by
  cases hx : ownAt s n with
  | none =>
    have e : ∀ d v, frz (s.put (some d) v) n = s.put (some d) v := fun d v => by unfold frz; rw [show ownAt (s.put (some d) v) n = none from hx]
    have e0 : frz s n = s := by unfold frz; rw [hx]
    obtain ⟨D, q, h1, h2⟩ := nat_id s
    refine ⟨D, q, by simp only [e0]; exact h1, fun d v => ?_⟩
    simp only [e0, e]
    exact h2 d v
  | some x =>
    have e0 := frz_eq hx
    refine ⟨fun l => l == n, fun _ => some ⟨.slice x.t, x.xs⟩, ⟨by simp only [e0]; rw [← frzL_fD]; rfl, by simp only [e0]; rw [← frzL_fD]; rfl, fun l hl => by
      simp only [e0]
      rw [setOwn_ownAt_ne (by simpa using hl)]; rfl⟩, fun d v => ?_⟩
    simp only [e0]
    rw [frz_eq (s := s.put (some d) v) hx, ← frzL_fD, map_put]; rfl
theorem fD_comp (D1 D2 : Nat → Bool) (q1 q2 : Nat → Option PL) (l : L) : fD D2 q2 (fD D1 q1 l) = fD (fun l => D1 l || D2 l) (fun l => if D1 l then q1 l else q2 l) l := by
  cases l with
  | own l =>
    cases h1 : D1 l with
    | true => cases hq : q1 l <;> simp [fD, h1, hq]
    | false => simp [fD, h1]
  | ept l i o z =>
    cases h1 : D1 l <;> simp [fD, h1]
  | _ => rfl
theorem AV.map_map (f g : L → L) (v : AV) : (v.map f).map g = v.map fun l => g (f l) := by
  have hc : ∀ c : CV, (c.map f).map g = c.map fun l => g (f l) := by intro c; cases c <;> simp [CV.map]
  cases v with
  | dead => rfl
  | cv c => simp [AV.map, hc]
  | tup cs => simp [AV.map, hc]
theorem nat_comp {g1 g2 : St → St} (h1 : Nat1 g1) (h2 : Nat1 g2) : Nat1 (fun s => g2 (g1 s)) := fun s => by
  obtain ⟨D1, q1, a1, b1⟩ := h1 s
  obtain ⟨D2, q2, a2, b2⟩ := h2 (g1 s)
  have hf : (fun l => fD D2 q2 (fD D1 q1 l)) = fD (fun l => D1 l || D2 l) (fun l => if D1 l then q1 l else q2 l) := funext (fD_comp D1 D2 q1 q2)
  refine ⟨fun l => D1 l || D2 l, fun l => if D1 l then q1 l else q2 l, ⟨?_, ?_, fun l hl => ?_⟩, fun d v => ?_⟩
  · rw [← hf, a2.slots, a1.slots, List.map_map]
    exact List.map_congr_left fun v _ => AV.map_map _ _ v
  · rw [← hf, a2.boxes, a1.boxes, List.map_map]
    refine List.map_congr_left fun v _ => ?_
    cases v <;> simp
  · simp only [Bool.or_eq_false_iff] at hl
    rw [a2.owns l hl.2, a1.owns l hl.1]
  · show g2 (g1 (s.put (some d) v)) = _
    rw [← hf, b1, b2, AV.map_map]
theorem nat_frzAll : ∀ ms : List Nat, Nat1 (fun s => frzAll s ms)
  | [] => nat_id
  | n :: r => nat_comp (nat_frz n) (nat_frzAll r)

section
variable {C : Cfg} {s t : St} {D : Nat → Bool} {q : Nat → Option PL} {v : AV} {o : Oper}

theorem constL_fD (v : Value) : fD D q (constL v) = constL v := by unfold constL; split <;> (try split) <;> rfl
theorem gm_get (h : GM s t D q) (x : Operand) : t.get x = (s.get x).map (fD D q) := by
  cases x with
  | tmp i =>
    simp only [St.get, h.slots, List.getD_eq_getElem?_getD, List.getElem?_map]
    cases s.slots[i]? <;> rfl
  | const v =>
    simp only [St.get, constAV]
    split
    · split
      · simp [AV.map, CV.map, constL_fD]
      · rfl
    · rfl
    · simp [lf, AV.map, CV.map, constL_fD]
  | global g => rfl
  | func f => rfl
theorem leaf1_map {f : L → L} {v : AV} {l : L} (h : leaf1 (v.map f) = some l) : ∃ l0, leaf1 v = some l0 ∧ f l0 = l := by
  cases v with
  | dead => cases h
  | tup cs => cases h
  | cv c => cases c with
    | lf l0 => cases h; exact ⟨l0, rfl, rfl⟩
    | agg ls => cases h
theorem gm_boxAt (h : GM s t D q) (b : Nat) : boxAt t b = (boxAt s b).map (List.map (fD D q)) := by
  simp only [boxAt, h.boxes, List.getElem?_map]
  cases s.boxes[b]? with
  | none => rfl
  | some x => cases x <;> rfl
theorem mkAV_map {agg : Bool} {ls : List L} {f : L → L} {v : AV} (h : mkAV agg (ls.map f) = some v) : ∃ v0, mkAV agg ls = some v0 ∧ v = v0.map f := by
  unfold mkAV at h ⊢
  cases agg with
  | true => simp only [if_true] at h ⊢; cases h; exact ⟨_, rfl, rfl⟩
  | false =>
    simp only [Bool.false_eq_true, if_false] at h ⊢
    match ls, h with
    | [l], h => cases h; exact ⟨_, rfl, rfl⟩
theorem pvs_map (ps : List PL) : (pvs ps).map (fD D q) = pvs ps := by simp [pvs, fD]

theorem gm_load (h : GM s t D q) {n : Nat} {l0 : L} {ls : List L} (hl : loadLs t n (fD D q l0) = some ls) : ∃ ls0, loadLs s n l0 = some ls0 ∧ ls = ls0.map (fD D q) := by
  cases l0 with
  | ptr b k =>
    simp only [fD, loadLs, gm_boxAt h] at hl ⊢
    cases hb : boxAt s b with
    | none => rw [hb] at hl; cases hl
    | some q0 =>
      rw [hb] at hl
      simp only [Option.map_some, Option.bind_some, List.length_map] at hl ⊢
      split at hl
      · rename_i hle
        cases hl
        rw [if_pos hle]
        exact ⟨_, rfl, by rw [List.map_take, List.map_drop]⟩
      · cases hl
  | rpt ps =>
    simp only [fD, loadLs] at hl ⊢
    split at hl
    · rename_i hle
      cases hl
      rw [if_pos hle]
      exact ⟨_, rfl, (pvs_map _).symm⟩
    · cases hl
  | ept l i k z =>
    simp only [fD] at hl
    cases hD : D l with
    | true => rw [hD] at hl; simp [loadLs] at hl
    | false =>
      rw [hD] at hl
      simp only [Bool.false_eq_true, if_false, loadLs, h.owns l hD] at hl ⊢
      cases ho : ownAt s l with
      | none => rw [ho] at hl; cases hl
      | some w =>
        rw [ho] at hl
        simp only [Option.bind_some] at hl ⊢
        split at hl
        · rename_i hle
          cases hl
          rw [if_pos hle]
          exact ⟨_, rfl, (pvs_map _).symm⟩
        · cases hl
  | own l =>
    simp only [fD] at hl
    split at hl
    · split at hl <;> cases hl
    · cases hl
  | _ => cases hl

theorem val_ofOpt {α : Type} {x : Option α} {v : α} (h : (Oc.ofOption x).val = some v) : x = some v := by rw [Oc.val_ofOption] at h; exact h

/-- Read behind, read ahead. -/
theorem gm_opV (h : GM s t D q) {op : Op} (hop : isLop op = true) (hv : (opV C.P t op).val = some v) : ∃ v0, (opV C.P s op).val = some v0 ∧ v = v0.map (fD D q) := by
  cases op with
  | move x => cases hv; exact ⟨_, rfl, gm_get h x⟩
  | assign x => cases hv; exact ⟨_, rfl, gm_get h x⟩
  | fieldAddr S x f =>
    simp only [opV, gm_get h] at hv ⊢
    split at hv
    · rename_i k _ b k2 h1 h2
      obtain ⟨l0, e1, e2⟩ := leaf1_map h2
      cases hv
      cases l0 <;> simp [fD] at e2
      · obtain ⟨rfl, rfl⟩ := e2; rw [h1, e1]; exact ⟨_, rfl, rfl⟩
      · split at e2
        · split at e2 <;> cases e2
        · cases e2
      · split at e2 <;> cases e2
    · rename_i k _ ps h1 h2
      obtain ⟨l0, e1, e2⟩ := leaf1_map h2
      cases hv
      cases l0 <;> simp [fD] at e2
      · split at e2
        · split at e2 <;> cases e2
        · cases e2
      · split at e2 <;> cases e2
      · subst e2; rw [h1, e1]; exact ⟨_, rfl, rfl⟩
    · rename_i k _ l i k2 z h1 h2
      obtain ⟨l0, e1, e2⟩ := leaf1_map h2
      cases hv
      cases l0 <;> simp [fD] at e2
      · split at e2
        · split at e2 <;> cases e2
        · cases e2
      · split at e2
        · cases e2
        · rename_i hD
          cases e2
          rw [h1, e1]
          exact ⟨_, rfl, by simp [lf, AV.map, CV.map, fD, hD]⟩
    · cases hv
  | load T x =>
    simp only [opV, gm_get h] at hv ⊢
    split at hv
    · rename_i l n h1 h2
      obtain ⟨l0, e1, e2⟩ := leaf1_map h1
      split at hv
      · rename_i hu
        have hv' := val_ofOpt hv
        obtain ⟨ls, h3, h4⟩ := Option.bind_eq_some_iff.1 hv'
        rw [← e2] at h3
        obtain ⟨ls0, h5, rfl⟩ := gm_load h h3
        obtain ⟨v0, h6, h7⟩ := mkAV_map h4
        rw [e1, h2]
        simp only [hu, if_true, Oc.val_ofOption, h5, Option.bind_some]
        exact ⟨v0, h6, h7⟩
      · cases hv
    · cases hv
  | _ => cases hop

/-- What is read mentions no row that the state does not mention. -/
theorem opV_noO {op : Op} (hop : isLop op = true) {n : Nat} (ha : t.all (L.noO n) = true) (hv : (opV C.P t op).val = some v) : v.all (L.noO n) = true := by
  have hg := all_get (constL_noO n) (fun _ => rfl) ha
  have hl1 : ∀ {x : Operand} {l : L}, leaf1 (t.get x) = some l → l.noO n = true := by
    intro x l h
    have := hg x
    unfold leaf1 at h
    split at h
    · rename_i l' e; cases h; rw [e] at this; simpa [AV.all, CV.leaves] using this
    · cases h
  have hmk : ∀ {agg : Bool} {ls : List L} {v : AV}, mkAV agg ls = some v → (∀ l ∈ ls, l.noO n = true) → v.all (L.noO n) = true := by
    intro agg ls v h hall
    unfold mkAV at h
    split at h
    · cases h; simpa [AV.all, CV.leaves, List.all_eq_true] using hall
    · split at h
      · cases h; simpa [lf, AV.all, CV.leaves] using hall
      · cases h
  cases op with
  | move x => cases hv; exact hg x
  | assign x => cases hv; exact hg x
  | fieldAddr S x f =>
    simp only [opV] at hv
    split at hv
    · cases hv; rfl
    · cases hv; rfl
    · rename_i h1 h2; cases hv; simpa [lf, AV.all, CV.leaves, L.noO] using hl1 h2
    · cases hv
  | load T x =>
    simp only [opV] at hv
    split at hv
    · rename_i l m h1 h2
      split at hv
      · have hv' := val_ofOpt hv
        obtain ⟨ls, h3, h4⟩ := Option.bind_eq_some_iff.1 hv'
        refine hmk h4 fun l' hl' => ?_
        cases l with
        | ptr b k =>
          simp only [loadLs] at h3
          obtain ⟨q0, h5, h6⟩ := Option.bind_eq_some_iff.1 h3
          split at h6
          · cases h6; exact all_box ha h5 l' (List.mem_of_mem_drop (List.mem_of_mem_take hl'))
          · cases h6
        | rpt ps =>
          simp only [loadLs] at h3
          split at h3
          · cases h3; simp only [pvs, List.mem_map] at hl'; obtain ⟨p, _, rfl⟩ := hl'; rfl
          · cases h3
        | ept l i k z =>
          simp only [loadLs] at h3
          obtain ⟨q0, h5, h6⟩ := Option.bind_eq_some_iff.1 h3
          split at h6
          · cases h6; simp only [pvs, List.mem_map] at hl'; obtain ⟨p, _, rfl⟩ := hl'; rfl
          · cases h6
        | _ => cases h3
      · cases hv
    · cases hv
  | _ => cases hop

theorem all_map {f : L → L} {n : Nat} (hf : ∀ l, l.noO n = true → (f l).noO n = true) {v : AV} (h : v.all (L.noO n) = true) : (v.map f).all (L.noO n) = true := by
  have hc : ∀ c : CV, c.leaves.all (L.noO n) = true → (c.map f).leaves.all (L.noO n) = true := by
    intro c h
    cases c with
    | lf l => simp [CV.leaves, CV.map] at h ⊢; exact hf l h
    | agg ls => simp [CV.leaves, CV.map] at h ⊢; exact fun l hl => hf l (h l hl)
  cases v with
  | dead => rfl
  | cv c => exact hc c h
  | tup cs =>
    simp only [AV.all, AV.map, List.all_eq_true, List.mem_map] at h ⊢
    rintro c ⟨c0, hc0, rfl⟩
    have := hc c0 (by simpa [List.all_eq_true] using h c0 hc0)
    simpa [List.all_eq_true] using this
theorem fD_noO {n : Nat} (l : L) (h : l.noO n = true) : (fD D q l).noO n = true := by
  cases l with
  | own m => simp only [fD]; split; (split <;> rfl); exact h
  | ept m i o z => simp only [fD]; split; rfl; exact h
  | _ => exact h
theorem gm_noO (h : GM s t D q) {n : Nat} (ha : s.all (L.noO n) = true) : t.all (L.noO n) = true := by
  simp only [St.all, Bool.and_eq_true, List.all_eq_true] at ha ⊢
  constructor
  · rw [h.slots]
    intro v hv
    obtain ⟨v0, h0, rfl⟩ := List.mem_map.1 hv
    exact all_map (fun l => fD_noO l) (ha.1 v0 h0)
  · rw [h.boxes]
    intro b hb
    obtain ⟨b0, h0, rfl⟩ := List.mem_map.1 hb
    have := ha.2 b0 h0
    cases b0 with
    | none => rfl
    | some ls =>
      simp only [Option.map_some, List.all_map, List.all_eq_true, Function.comp] at this ⊢
      exact fun l hl => fD_noO l (this l hl)
theorem kill_noO (n : Nat) : (killO s n).all (L.noO n) = true := by
  have hk : ∀ l : L, (killL n l).noO n = true := by
    intro l
    cases l with
    | own m => simp only [killL]; split; rfl; (rename_i h; simpa [L.noO] using h)
    | ept m i o z => simp only [killL]; split; rfl; (rename_i h; simpa [L.noO] using h)
    | _ => rfl
  simp only [St.all, Bool.and_eq_true, List.all_eq_true, killO, setOwn, St.map, List.mem_map]
  constructor
  · rintro v ⟨v0, _, rfl⟩
    have hc : ∀ c : CV, (c.map (killL n)).leaves.all (L.noO n) = true := by
      intro c
      cases c <;> simp [CV.leaves, CV.map, hk]
    cases v0 with
    | dead => rfl
    | cv c => exact hc c
    | tup cs => simp only [AV.all, AV.map, List.all_eq_true, List.mem_map]; rintro c ⟨c0, _, rfl⟩; have := hc c0; simpa [List.all_eq_true] using this
  · rintro b ⟨b0, _, rfl⟩
    cases b0 with
    | none => rfl
    | some ls => simp [hk]
theorem fresh_put {e n : Nat} (ha : s.all (L.noO n) = true) (h : freshO (s.put (some e) v) n = true) : freshO s n = true := by
  unfold freshO at h ⊢
  rw [Bool.and_eq_true] at h ⊢
  exact ⟨h.1, ha⟩
theorem all_put {e n : Nat} (ha : s.all (L.noO n) = true) (hv : v.all (L.noO n) = true) : (s.put (some e) v).all (L.noO n) = true := by
  simp only [St.all, St.put, Bool.and_eq_true, List.all_eq_true] at ha ⊢
  refine ⟨fun x hx => ?_, ha.2⟩
  rcases List.mem_or_eq_of_mem_set hx with h | h
  · exact ha.1 x h
  · rw [h]; exact hv
theorem put_fresh {e n : Nat} (hv : v.all (L.noO n) = true) (h : freshO s n = true) : freshO (s.put (some e) v) n = true := by
  unfold freshO at h ⊢
  rw [Bool.and_eq_true] at h ⊢
  exact ⟨h.1, all_put h.2 hv⟩

/-- What an operation that makes a row does: rows that go, and the new one. -/
def planApp (P : Program) (s : St) (e : Nat) (a b : L) : Option ((St → St) × Own) :=
  match elemTy P e with
  | none => none
  | some t => match a with
    | .own l => match ownAt s l with
      | some w => if w.e = e then
          (match asTy (.slice t) ⟨.slice w.t, w.xs⟩, srcOf s t b with
          | some xs, some ys => bif appMax P e (List.length xs) ys.length then some (fun s => killO s l, ⟨e, t, List.append xs ys⟩) else none
          | _, _ => none)
        else none
      | none => none
    | .cst .sl => match srcOf s t b with
      | some ys => bif appMax P e 0 ys.length then some (id, ⟨e, t, ys⟩) else none
      | none => none
    | _ => none
def planE (P : Program) (s : St) (op : Op) : Option ((St → St) × Own) :=
  match op with
  | .buildSlice t len ps => match elemOfSl P t with
    | some e => match elemTy P e, partsOf s ps.toList, zeroLs P e with
      | some te, some q, some z => match datum s te z with
        | some x => match partElems s te q (List.replicate len x) with
          | some xs => if len * te.size ≤ 16777216 then some (fun s => frzAll s (q.flatMap fun x => ownsOf x.2), ⟨e, te, xs⟩) else none
          | none => none
        | none => none
      | _, _, _ => none
    | none => none
  | .call { callee := .builtin .append, args := as, argTypes := ts } => match as.toList, ts.toList with
    | [a, b], [t, u] => if t = u then
        (match leaf1 (s.get a), leaf1 (s.get b), elemOfSl P t with
        | some a, some b, some e => planApp P s e a b
        | _, _, _ => none)
      else if isStrT P u then
        (match leaf1 (s.get a), leaf1 (s.get b), elemOfSl P t with
        | some a, some (.pv ⟨.str, y⟩), some e => if u8Row P e then planApp P s e a (pvL (.int .u8) y) else none
        | _, _, _ => none)
      else none
    | _, _ => none
  | _ => none
theorem planApp_val {P : Program} {d e : Nat} {a b : L} : (appendOc P s d e a b).val = (planApp P s e a b).bind fun x => (addOwn (x.1 s) d x.2).val := by
  unfold appendOc planApp
  cases h1 : elemTy P e with
  | none => rfl
  | some t =>
    cases a with
    | own l =>
      simp only []
      cases h2 : ownAt s l with
      | none => rfl
      | some w =>
        simp only []
        by_cases h3 : w.e = e
        · rw [if_pos h3, if_pos h3]
          cases h4 : asTy (.slice t) ⟨.slice w.t, w.xs⟩ with
          | none => rfl
          | some xs =>
            cases h5 : srcOf s t b with
            | none => rfl
            | some ys =>
              simp only [Oc.val]
              cases appMax P e _ _ <;> rfl
        · rw [if_neg h3, if_neg h3]; rfl
    | cst k =>
      cases k with
      | sl =>
        simp only []
        cases h5 : srcOf s t b with
        | none => rfl
        | some ys =>
          simp only [Oc.val]
          cases appMax P e _ _ <;> rfl
      | _ => rfl
    | _ => rfl
theorem isEop_cases {op : Op} (h : isEop op = true) : (∃ t len ps, op = .buildSlice t len ps) ∨ ∃ as ts, op = .call { callee := .builtin .append, args := as, argTypes := ts } := by
  unfold isEop at h
  split at h
  · exact .inl ⟨_, _, _, rfl⟩
  · exact .inr ⟨_, _, rfl⟩
  · cases h
theorem planE_val {d : Nat} {op : Op} (h : isEop op = true) : (opE C s (some d) op).val = (planE C.P s op).bind fun x => (addOwn (x.1 s) d x.2).val := by
  rcases isEop_cases h with ⟨t, len, ps, rfl⟩ | ⟨as, ts, rfl⟩
  · simp only [opE, planE]
    cases h1 : elemOfSl C.P t with
    | none => rfl
    | some e =>
      simp only []
      cases h2 : elemTy C.P e with
      | none => rfl
      | some te =>
        cases h3 : partsOf s ps.toList with
        | none => rfl
        | some q =>
          cases h4 : zeroLs C.P e with
          | none => rfl
          | some z =>
            simp only []
            cases h5 : datum s te z with
            | none => rfl
            | some x =>
              simp only []
              cases h6 : partElems s te q (List.replicate len x) with
              | none => rfl
              | some xs =>
                simp only []
                by_cases h7 : len * te.size ≤ 16777216
                · rw [if_pos h7, if_pos h7]; rfl
                · rw [if_neg h7, if_neg h7]; rfl
  · simp only [opE, planE]
    match as.toList, ts.toList with
    | [], _ => rfl
    | [a], _ => rfl
    | a :: b :: c :: r, _ => rfl
    | [a, b], [] => rfl
    | [a, b], [t] => rfl
    | [a, b], t :: u :: v :: r => rfl
    | [a, b], [t, u] =>
      simp only []
      by_cases h1 : t = u
      · rw [if_pos h1, if_pos h1]
        cases h2 : leaf1 (s.get a) with
        | none => rfl
        | some la =>
          cases h3 : leaf1 (s.get b) with
          | none => rfl
          | some lb =>
            cases h4 : elemOfSl C.P t with
            | none => rfl
            | some e => exact planApp_val
      · rw [if_neg h1, if_neg h1]
        by_cases h5 : isStrT C.P u = true
        · rw [if_pos h5, if_pos h5]
          cases h2 : leaf1 (s.get a) with
          | none => rfl
          | some la =>
            cases h3 : leaf1 (s.get b) with
            | none => rfl
            | some lb =>
              cases h4 : elemOfSl C.P t with
              | none => cases lb with
                | pv p => obtain ⟨pt, px⟩ := p; cases pt <;> rfl
                | _ => rfl
              | some e => cases lb with
                | pv p =>
                  obtain ⟨pt, px⟩ := p
                  cases pt with
                  | str =>
                    simp only []
                    by_cases h6 : u8Row C.P e = true
                    · rw [if_pos h6, if_pos h6]; exact planApp_val
                    · rw [if_neg h6, if_neg h6]; rfl
                  | _ => rfl
                | _ => rfl
        · rw [if_neg h5, if_neg h5]; rfl
theorem planApp_nat {P : Program} {e : Nat} {a b : L} {x : (St → St) × Own} (h : planApp P s e a b = some x) : Nat1 x.1 := by
  unfold planApp at h
  repeat' split at h
  all_goals first
    | cases h
    | skip
  · cases hb : appMax P e _ _ <;> rw [hb] at h <;> cases h
    exact nat_kill _
  · cases hb : appMax P e _ _ <;> rw [hb] at h <;> cases h
    exact nat_id
theorem planE_nat {P : Program} {op : Op} {x : (St → St) × Own} (h : planE P s op = some x) : Nat1 x.1 := by
  unfold planE at h
  repeat' split at h
  all_goals first
    | (cases h; done)
    | exact planApp_nat h
    | (cases h; exact nat_frzAll _)
    | skip

theorem plOf_put {e : Nat} {t : Ty} {l : L} : plOf (s.put (some e) v) t l = plOf s t l := by cases l <;> rfl
theorem plsOf_put {e : Nat} : ∀ (ts : List Ty) (ls : List L), plsOf (s.put (some e) v) ts ls = plsOf s ts ls
  | [], [] => rfl
  | [], _ :: _ => rfl
  | _ :: _, [] => rfl
  | t :: ts, l :: ls => by simp only [plsOf, plOf_put, plsOf_put ts ls]
theorem datum_put {e : Nat} {t : Ty} {ls : List L} : datum (s.put (some e) v) t ls = datum s t ls := by simp only [datum, plsOf_put]
theorem partElems_put {e : Nat} {t : Ty} : ∀ (ps : List (Nat × List L)) (xs : List t.den), partElems (s.put (some e) v) t ps xs = partElems s t ps xs
  | [], _ => rfl
  | (i, ls) :: r, xs => by
    simp only [partElems, datum_put]
    split
    · congr 1; funext x; exact partElems_put r _
    · rfl
theorem planApp_put {P : Program} {d e : Nat} {a b : L} : planApp P (s.put (some d) v) e a b = planApp P s e a b := by
  have h : ∀ (t : Ty) (b : L), srcOf (s.put (some d) v) t b = srcOf s t b := fun t b => by cases b <;> rfl
  unfold planApp
  simp only [h]
  rfl
theorem planE_put {P : Program} {d : Nat} {op : Op} (hop : isEop op = true) (h : ∀ x ∈ op.operands, x ≠ .tmp d) : planE P (s.put (some d) v) op = planE P s op := by
  rcases isEop_cases hop with ⟨t, len, ps, rfl⟩ | ⟨as, ts, rfl⟩
  · simp only [planE, datum_put, partElems_put]
    rw [partsOf_put ps.toList fun x hx => h x.2 (by simp only [Op.operands]; exact List.mem_toArray.2 (List.mem_map.2 ⟨x, hx, rfl⟩))]
  · simp only [planE]
    cases has : as.toList with
    | nil => rfl
    | cons a r =>
      cases r with
      | nil => rfl
      | cons b r2 =>
        cases r2 with
        | cons c r3 => rfl
        | nil =>
          have hmem : ∀ z ∈ as.toList, z ≠ .tmp d := fun z hz => h z (by simp [Op.operands, Call.operands]; exact Array.mem_def.2 hz)
          rw [has] at hmem
          have ha : a ≠ .tmp d := hmem a (by simp)
          have hb : b ≠ .tmp d := hmem b (by simp)
          cases ts.toList with
          | nil => rfl
          | cons t r4 =>
            cases r4 with
            | nil => rfl
            | cons u r5 =>
              cases r5 with
              | cons u2 r6 => rfl
              | nil => simp only [get_put ha, get_put hb, planApp_put]

theorem setOwn_opV {n : Nat} {w : Option Own} (ha : t.all (L.noO n) = true) {op : Op} (hop : isLop op = true) : opV C.P (setOwn t n w) op = opV C.P t op := by
  have hg := all_get (constL_noO n) (fun _ => rfl) ha
  cases op with
  | move x => cases x <;> rfl
  | assign x => cases x <;> rfl
  | fieldAddr S x f => cases x <;> rfl
  | load T x =>
    have e : (setOwn t n w).get x = t.get x := by cases x <;> rfl
    simp only [opV, e]
    cases hl : leaf1 (t.get x) with
    | none => rfl
    | some l =>
      have hno : l.noO n = true := by
        have := hg x
        unfold leaf1 at hl
        split at hl
        · rename_i l' e; cases hl; rw [e] at this; simpa [AV.all, CV.leaves] using this
        · cases hl
      have : ∀ m, loadLs (setOwn t n w) m l = loadLs t m l := by
        intro m
        cases l with
        | ept l i k z => simp only [loadLs]; rw [setOwn_ownAt_ne (by simpa [L.noO] using hno)]
        | _ => rfl
      cases sizeT C.P T with
      | none => rfl
      | some m => simp only [this]
  | _ => cases hop

theorem isK_some {f : Op → Bool} {o : Oper} (h : isK f o = true) : o.guard = none ∧ f o.op = true ∧ ∃ d, o.dst = some d := by
  simp only [isK, Bool.and_eq_true, Option.isNone_iff_eq_none] at h
  exact ⟨h.1, h.2.2, Option.isSome_iff_exists.1 h.2.1⟩
theorem lop_V {op : Op} (h : isLop op = true) : isV op = true ∧ isCall op = false ∧ opVD C s op = opV C.P s op := by
  cases op <;> first | (cases h; done) | exact ⟨rfl, rfl, rfl⟩
theorem mop_L {op : Op} (h : isMop op = true) : isLop op = true := by cases op <;> first | (cases h; done) | rfl
theorem eop_V {op : Op} (h : isEop op = true) : isV op = false := by
  rcases isEop_cases h with ⟨t, len, ps, rfl⟩ | ⟨as, ts, rfl⟩ <;> rfl
/-- The step of an operation that only reads. -/
theorem L_step {ops : Array Oper} (h : isK isLop o = true) {d : Nat} (hd : o.dst = some d) : (operOc (opD C) ops s o).val = ((opV C.P s o.op).val).map fun v => s.put (some d) v := by
  obtain ⟨h1, h2, _⟩ := isK_some h
  obtain ⟨e1, e2, e3⟩ := lop_V (C := C) (s := s) h2
  unfold operOc opD
  rw [h1]
  simp only [e1, if_true, e2, Bool.false_and, Bool.false_eq_true, if_false, e3, Oc.val_bind, hd]
  cases (opV C.P s o.op).val <;> rfl
theorem E_step {ops : Array Oper} (h : isK isEop o = true) {d : Nat} (hd : o.dst = some d) : (operOc (opD C) ops s o).val = (planE C.P (killO s (N0 + d)) o.op).bind fun x => (addOwn (x.1 (killO s (N0 + d))) d x.2).val := by
  obtain ⟨h1, h2, _⟩ := isK_some h
  unfold operOc opD
  rw [h1]
  simp only [eop_V h2, Bool.false_eq_true, if_false, h2, if_true, hd]
  exact planE_val h2
theorem look_op {ops : Array Oper} {d : Nat} (h : d ∉ o.looksAt ops) : ∀ x ∈ o.op.operands, x ≠ .tmp d := by
  intro x hx e
  subst e
  exact h (List.mem_append_left _ (List.mem_filterMap.2 ⟨.tmp d, by simpa using hx, rfl⟩))
theorem addOwn_val {d : Nat} {x : Own} (h : freshO s (N0 + d) = true) : (addOwn s d x).val = some ((setOwn s (N0 + d) (some x)).put (some d) (lf (.own (N0 + d)))) := by
  unfold addOwn; rw [if_pos h]; rfl

/-- A row is made, then something is read: the other way round. -/
theorem comm_EL {ops : Array Oper} {x y : Oper} (hy : isK isEop y = true) (hx : isK isLop x = true) (hap : y.apart ops x = true) {s1 s2 : St}
    (h1 : (operOc (opD C) ops s y).val = some s1) (h2 : (operOc (opD C) ops s1 x).val = some s2) : ∃ s3, (operOc (opD C) ops s x).val = some s3 ∧ (operOc (opD C) ops s3 y).val = some s2 := by
  obtain ⟨a1, a2, a3⟩ := Oper.apart_spec hap
  obtain ⟨_, y2, d, hd⟩ := isK_some hy
  obtain ⟨_, x2, e, he⟩ := isK_some hx
  have hne : d ≠ e := fun h => a2 d hd (by rw [he, h])
  rw [E_step hy hd] at h1
  obtain ⟨⟨g, w⟩, p1, p2⟩ := Option.bind_eq_some_iff.1 h1
  obtain ⟨f1, rfl⟩ := addOwn_some p2
  rw [L_step hx he] at h2
  obtain ⟨u, q1, rfl⟩ := Option.map_eq_some_iff.1 h2
  rw [opV_put _ (look_op (a1 d hd))] at q1
  obtain ⟨D, q, gm, gp⟩ := nat_comp (nat_kill (N0 + d)) (planE_nat p1) s
  simp only [] at gm gp
  have hno := gm_noO (planE_nat p1 (killO s (N0 + d))).choose_spec.choose_spec.1 (kill_noO (s := s) (N0 + d))
  rw [setOwn_opV hno x2] at q1
  obtain ⟨v0, r1, r2⟩ := gm_opV gm x2 q1
  have hvn := opV_noO x2 hno q1
  refine ⟨s.put (some e) v0, by rw [L_step hx he, r1]; rfl, ?_⟩
  have gk : killO (s.put (some e) v0) (N0 + d) = (killO s (N0 + d)).put (some e) (v0.map (killL (N0 + d))) := by
    show setOwn ((s.put (some e) v0).map (killL (N0 + d))) (N0 + d) none = _
    rw [map_put]; rfl
  rw [E_step hy hd]
  have hpl : planE C.P (killO (s.put (some e) v0) (N0 + d)) y.op = some (g, w) := by
    rw [gk, planE_put y2 (look_op (a3 e he))]
    exact p1
  rw [hpl]
  show (addOwn (g (killO (s.put (some e) v0) (N0 + d))) d w).val = _
  rw [gp e v0, ← r2, addOwn_val (put_fresh hvn f1)]
  congr 1
  have : (setOwn ((g (killO s (N0 + d))).put (some e) u) (N0 + d) (some w)) = (setOwn (g (killO s (N0 + d))) (N0 + d) (some w)).put (some e) u := rfl
  rw [this]
  exact put_comm fun d' h hh => hne (by cases h; cases hh; rfl)

/-- Something is moved, then a row is made: the other way round. -/
theorem comm_ME {ops : Array Oper} {x y : Oper} (hy : isK isMop y = true) (hx : isK isEop x = true) (hap : y.apart ops x = true) {s1 s2 : St}
    (h1 : (operOc (opD C) ops s y).val = some s1) (h2 : (operOc (opD C) ops s1 x).val = some s2) : ∃ s3, (operOc (opD C) ops s x).val = some s3 ∧ (operOc (opD C) ops s3 y).val = some s2 := by
  obtain ⟨a1, a2, a3⟩ := Oper.apart_spec hap
  obtain ⟨y1, y2, e, he⟩ := isK_some hy
  obtain ⟨_, x2, d, hd⟩ := isK_some hx
  have hyL : isK isLop y = true := by simp [isK, y1, he, mop_L y2]
  have hne : e ≠ d := fun h => a2 e he (by rw [hd, h])
  rw [L_step hyL he] at h1
  obtain ⟨v0, r1, rfl⟩ := Option.map_eq_some_iff.1 h1
  rw [E_step hx hd] at h2
  have gk : killO (s.put (some e) v0) (N0 + d) = (killO s (N0 + d)).put (some e) (v0.map (killL (N0 + d))) := by
    show setOwn ((s.put (some e) v0).map (killL (N0 + d))) (N0 + d) none = _
    rw [map_put]; rfl
  rw [gk, planE_put x2 (look_op (a1 e he)), ← gk] at h2
  obtain ⟨⟨g, w⟩, p1, p2⟩ := Option.bind_eq_some_iff.1 h2
  obtain ⟨f1, rfl⟩ := addOwn_some p2
  obtain ⟨D, q, gm, gp⟩ := nat_comp (nat_kill (N0 + d)) (planE_nat p1) s
  simp only [] at gm gp
  have hno := gm_noO (planE_nat p1 (killO s (N0 + d))).choose_spec.choose_spec.1 (kill_noO (s := s) (N0 + d))
  dsimp only at f1 ⊢
  rw [gp e v0] at f1 ⊢
  have f0 := fresh_put hno f1
  refine ⟨(setOwn (g (killO s (N0 + d))) (N0 + d) (some w)).put (some d) (lf (.own (N0 + d))), by rw [E_step hx hd, p1]; exact addOwn_val f0, ?_⟩
  rw [L_step hyL he, opV_put _ (look_op (a3 d hd)), setOwn_opV hno (mop_L y2)]
  have hm : (opV C.P (g (killO s (N0 + d))) y.op).val = some (v0.map (fD D q)) := by
    cases hop : y.op <;> rw [hop] at y2 r1 <;> first | (cases y2; done) | (cases r1; simp only [opV, Oc.val, gm_get gm])
  rw [hm]
  show some _ = some _
  congr 1
  have : (setOwn ((g (killO s (N0 + d))).put (some e) (v0.map (fD D q))) (N0 + d) (some w)) = (setOwn (g (killO s (N0 + d))) (N0 + d) (some w)).put (some e) (v0.map (fD D q)) := rfl
  rw [this]
  exact (put_comm fun d' h hh => hne (by cases h; cases hh; rfl)).symm
end
end Go.Proofs.YtghmhkpgdmgepaaV
