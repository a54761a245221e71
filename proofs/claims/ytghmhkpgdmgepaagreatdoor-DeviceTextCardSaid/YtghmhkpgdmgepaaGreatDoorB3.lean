import Derived.Test.YtghmhkpgdmgepaaGreatDoorB2
import Derived.OpenShut
/-! Joined, names shortened: V32, V33, V34, V25, V26, V27, V28, V29, V30, V35, VL. -/
set_option linter.unusedVariables false
set_option linter.unusedSimpArgs false
namespace Go.Proofs.YtghmhkpgdmgepaaGreatDoorV
open Go Go.RowKit
def fD (D : Nat → Bool) (q : Nat → Option PL) : L → L
 | .own l => if D l then (match q l with | some p => .pv p | none => .dead) else .own l
 | .ept l i o z => if D l then .dead else .ept l i o z
 | l => l
structure GM (s t : St) (D : Nat → Bool) (q : Nat → Option PL) : Prop where
 slots : t.slots = s.slots.map (AV.map (fD D q))
 boxes : t.boxes = s.boxes.map (Option.map (List.map (fD D q)))
 owns : ∀ l, D l = false → Ab t l = Ab s l
def Nat1 (g : St → St) : Prop := ∀ s, ∃ D q, GM s (g s) D q ∧ ∀ d v, g (s.put (some d) v) = (g s).put (some d) (v.map (fD D q))
theorem Asw {f : L → L} (h : ∀ l, f l = l) (v : AV) : v.map f = v := by
 have : f = id := funext h
 subst this
 have hc : ∀ c : CV, c.map id = c := by intro c; cases c <;> simp [CV.map]
 cases v with
 | dead => rfl
 | cv c => simp [AV.map, hc]
 | tup cs => simp only [AV.map]; congr 1; exact (List.map_congr_left fun c _ => hc c).trans (List.map_id _)
theorem Xp (q : Nat → Option PL) (l : L) : fD (fun _ => false) q l = l := by cases l <;> rfl
theorem Afa : Nat1 id := fun s => ⟨fun _ => false, fun _ => none, ⟨by
  rw [show AV.map (fD (fun _ => false) fun _ => none) = id from funext fun v => Asw (Xp _) v, List.map_id]; rfl, by
  have : (fD (fun _ => false) fun _ => none) = id := funext (Xp _)
  rw [this, List.map_id_fun, Option.map_id_fun, List.map_id_fun]; rfl, fun l _ => rfl⟩, fun d v => by rw [Asw (Xp _)]; rfl⟩
theorem Aup {s : St} {n l : Nat} {o : Option Own} (h : l ≠ n) : Ab (As s n o) l = Ab s l := by
 simp only [Ab, As, List.getElem?_set_ne (Ne.symm h)]
theorem Aey (n : Nat) : Eb n = fD (fun l => l == n) (fun _ => none) := by
 funext l
 cases l <;> simp [Eb, fD]
theorem Asx {f : L → L} {s : St} {d : Nat} {v : AV} : (s.put (some d) v).map f = (s.map f).put (some d) (v.map f) := by
 simp only [St.map, St.put, List.map_set]
theorem Ba0 (n : Nat) : Nat1 (fun s => Fi s n) := fun s => ⟨fun l => l == n, fun _ => none, ⟨by rw [← Aey]; rfl, by rw [← Aey]; rfl, fun l hl => by
  unfold Fi
  rw [Aup (by simpa using hl)]; rfl⟩, fun d v => by
  rw [← Aey]
  show As ((s.put (some d) v).map (Eb n)) n none = _
  rw [Asx]; rfl⟩
theorem Aeo (n : Nat) (p : PL) : frzL n p = fD (fun l => l == n) (fun _ => some p) := by
 funext l
 cases l <;> simp [frzL, fD]
theorem nat_frz (n : Nat) : Nat1 (fun s => frz s n) := fun s => by
 cases hx : Ab s n with
 | none =>
  have e : ∀ d v, frz (s.put (some d) v) n = s.put (some d) v := fun d v => by unfold frz; rw [show Ab (s.put (some d) v) n = none from hx]
  have e0 : frz s n = s := by unfold frz; rw [hx]
  obtain ⟨D, q, h1, h2⟩ := Afa s
  refine ⟨D, q, by simp only [e0]; exact h1, fun d v => ?_⟩
  simp only [e0, e]
  exact h2 d v
 | some x =>
  have e0 := Jl hx
  refine ⟨fun l => l == n, fun _ => some ⟨.slice x.t, x.xs⟩, ⟨by simp only [e0]; rw [← Aeo]; rfl, by simp only [e0]; rw [← Aeo]; rfl, fun l hl => by
   simp only [e0]
   rw [Aup (by simpa using hl)]; rfl⟩, fun d v => ?_⟩
  simp only [e0]
  rw [Jl (s := s.put (some d) v) hx, ← Aeo, Asx]; rfl
theorem fD_comp (D1 D2 : Nat → Bool) (q1 q2 : Nat → Option PL) (l : L) : fD D2 q2 (fD D1 q1 l) = fD (fun l => D1 l || D2 l) (fun l => if D1 l then q1 l else q2 l) l := by
 cases l with
 | own l =>
  cases h1 : D1 l with
  | true => cases hq : q1 l <;> simp [fD, h1, hq]
  | false => simp [fD, h1]
 | ept l i o z =>
  cases h1 : D1 l <;> simp [fD, h1]
 | _ => rfl
theorem AV.map_map (f g : L → L) (v : AV) : (v.map f).map g = v.map fun l => g (f l) := by
 have hc : ∀ c : CV, (c.map f).map g = c.map fun l => g (f l) := by intro c; cases c <;> simp [CV.map]
 cases v with
 | dead => rfl
 | cv c => simp [AV.map, hc]
 | tup cs => simp [AV.map, hc]
theorem Baz {g1 g2 : St → St} (h1 : Nat1 g1) (h2 : Nat1 g2) : Nat1 (fun s => g2 (g1 s)) := fun s => by
 obtain ⟨D1, q1, a1, b1⟩ := h1 s
 obtain ⟨D2, q2, a2, b2⟩ := h2 (g1 s)
 have hf : (fun l => fD D2 q2 (fD D1 q1 l)) = fD (fun l => D1 l || D2 l) (fun l => if D1 l then q1 l else q2 l) := funext (fD_comp D1 D2 q1 q2)
 refine ⟨fun l => D1 l || D2 l, fun l => if D1 l then q1 l else q2 l, ⟨?_, ?_, fun l hl => ?_⟩, fun d v => ?_⟩
 ·rw [← hf, a2.slots, a1.slots, List.map_map]
  exact List.map_congr_left fun v _ => AV.map_map _ _ v
 ·rw [← hf, a2.boxes, a1.boxes, List.map_map]
  refine List.map_congr_left fun v _ => ?_
  cases v <;> simp
 ·simp only [Bool.or_eq_false_iff] at hl
  rw [a2.owns l hl.2, a1.owns l hl.1]
 ·show g2 (g1 (s.put (some d) v)) = _
  rw [← hf, b1, b2, AV.map_map]
theorem As1 : ∀ ms : List Nat, Nat1 (fun s => A8 s ms)
 | [] => Afa
 | n :: r => Baz (nat_frz n) (As1 r)
section
variable {C : Cfg} {s t : St} {D : Nat → Bool} {q : Nat → Option PL} {v : AV} {o : Oper}
theorem Ah8 (v : Value) : fD D q (A1 v) = A1 v := by unfold A1; split <;> (try split) <;> rfl
theorem gm_get (h : GM s t D q) (x : Operand) : t.get x = (s.get x).map (fD D q) := by
 cases x with
 | tmp i =>
  simp only [St.get, h.slots, List.getD_eq_getElem?_getD, List.getElem?_map]
  cases s.slots[i]? <;> rfl
 | const v =>
  simp only [St.get, M4]
  split
  ·split
   ·simp [AV.map, CV.map, Ah8]
   ·rfl
  ·rfl
  ·simp [lf, AV.map, CV.map, Ah8]
 | global g => rfl
 | func f => rfl
theorem Bag (h : GM s t D q) (b : Nat) : Aa t b = (Aa s b).map (List.map (fD D q)) := by
 simp only [Aa, h.boxes, List.getElem?_map]
 cases s.boxes[b]? with
 | none => rfl
 | some x => cases x <;> rfl
theorem pvs_map (ps : List PL) : (pvs ps).map (fD D q) = pvs ps := by simp [pvs, fD]
def Hj (P : Program) (s : St) (e : Nat) (a b : L) : Option ((St → St) × Own) :=
 match B5 P e with
 | none => none
 | some t => match a with
  | .own l => match Ab s l with
   | some w => if w.e = e then
     (match asTy (.slice t) ⟨.slice w.t, w.xs⟩, Fv s t b with
     | some xs, some ys => bif Cm P e (List.length xs) ys.length then some (fun s => Fi s l, ⟨e, t, List.append xs ys⟩) else none
     | _, _ => none)
    else none
   | none => none
  | .cst .sl => match Fv s t b with
   | some ys => bif Cm P e 0 ys.length then some (id, ⟨e, t, ys⟩) else none
   | none => none
  | _ => none
def Fl (P : Program) (s : St) (op : Op) : Option ((St → St) × Own) :=
 match op with
 | .buildSlice t len ps => match A5 P t with
  | some e => match B5 P e, Bj s ps.toList, Cu P e with
   | some te, some q, some z => match datum s te z with
    | some x => match Gl s te q (List.replicate len x) with
     | some xs => if len * te.size ≤ 16777216 then some (fun s => A8 s (q.flatMap fun x => A9 x.2), ⟨e, te, xs⟩) else none
     | none => none
    | none => none
   | _, _, _ => none
  | none => none
 | .call { callee := .builtin .append, args := as, argTypes := ts } => match as.toList, ts.toList with
  | [a, b], [t, u] => if t = u then
    (match Af (s.get a), Af (s.get b), A5 P t with
    | some a, some b, some e => Hj P s e a b
    | _, _, _ => none)
   else if If P u then
    (match Af (s.get a), Af (s.get b), A5 P t with
    | some a, some (.pv ⟨.str, y⟩), some e => if Iu P e then Hj P s e a (pvL (.int .u8) y) else none
    | _, _, _ => none)
   else none
  | _, _ => none
 | _ => none
theorem Att {P : Program} {d e : Nat} {a b : L} : (Hv P s d e a b).val = (Hj P s e a b).bind fun x => (B4 (x.1 s) d x.2).val := by
 unfold Hv Hj
 cases h1 : B5 P e with
 | none => rfl
 | some t =>
  cases a with
  | own l =>
   simp only []
   cases h2 : Ab s l with
   | none => rfl
   | some w =>
    simp only []
    by_cases h3 : w.e = e
    ·rw [if_pos h3, if_pos h3]
     cases h4 : asTy (.slice t) ⟨.slice w.t, w.xs⟩ with
     | none => rfl
     | some xs =>
      cases h5 : Fv s t b with
      | none => rfl
      | some ys =>
       simp only [Oc.val]
       cases Cm P e _ _ <;> rfl
    ·rw [if_neg h3, if_neg h3]; rfl
  | cst k =>
   cases k with
   | sl =>
    simp only []
    cases h5 : Fv s t b with
    | none => rfl
    | some ys =>
     simp only [Oc.val]
     cases Cm P e _ _ <;> rfl
   | _ => rfl
  | _ => rfl
theorem Asb {op : Op} (h : Pk op = true) : (∃ t len ps, op = .buildSlice t len ps) ∨ ∃ as ts, op = .call { callee := .builtin .append, args := as, argTypes := ts } := by
 unfold Pk at h
 split at h
 ·exact .inl ⟨_, _, _, rfl⟩
 ·exact .inr ⟨_, _, rfl⟩
 ·cases h
theorem Atw {d : Nat} {op : Op} (h : Pk op = true) : (opE C s (some d) op).val = (Fl C.P s op).bind fun x => (B4 (x.1 s) d x.2).val := by
 rcases Asb h with ⟨t, len, ps, rfl⟩ | ⟨as, ts, rfl⟩
 ·simp only [opE, Fl]
  cases h1 : A5 C.P t with
  | none => rfl
  | some e =>
   simp only []
   cases h2 : B5 C.P e with
   | none => rfl
   | some te =>
    cases h3 : Bj s ps.toList with
    | none => rfl
    | some q =>
     cases h4 : Cu C.P e with
     | none => rfl
     | some z =>
      simp only []
      cases h5 : datum s te z with
      | none => rfl
      | some x =>
       simp only []
       cases h6 : Gl s te q (List.replicate len x) with
       | none => rfl
       | some xs =>
        simp only []
        by_cases h7 : len * te.size ≤ 16777216
        ·rw [if_pos h7, if_pos h7]; rfl
        ·rw [if_neg h7, if_neg h7]; rfl
 ·simp only [opE, Fl]
  match as.toList, ts.toList with
  | [], _ => rfl
  | [a], _ => rfl
  | a :: b :: c :: r, _ => rfl
  | [a, b], [] => rfl
  | [a, b], [t] => rfl
  | [a, b], t :: u :: v :: r => rfl
  | [a, b], [t, u] =>
   simp only []
   by_cases h1 : t = u
   ·rw [if_pos h1, if_pos h1]
    cases h2 : Af (s.get a) with
    | none => rfl
    | some la =>
     cases h3 : Af (s.get b) with
     | none => rfl
     | some lb =>
      cases h4 : A5 C.P t with
      | none => rfl
      | some e => exact Att
   ·rw [if_neg h1, if_neg h1]
    by_cases h5 : If C.P u = true
    ·rw [if_pos h5, if_pos h5]
     cases h2 : Af (s.get a) with
     | none => rfl
     | some la =>
      cases h3 : Af (s.get b) with
      | none => rfl
      | some lb =>
       cases h4 : A5 C.P t with
       | none => cases lb with
        | pv p => obtain ⟨pt, px⟩ := p; cases pt <;> rfl
        | _ => rfl
       | some e => cases lb with
        | pv p =>
         obtain ⟨pt, px⟩ := p
         cases pt with
         | str =>
          simp only []
          by_cases h6 : Iu C.P e = true
          ·rw [if_pos h6, if_pos h6]; exact Att
          ·rw [if_neg h6, if_neg h6]; rfl
         | _ => rfl
        | _ => rfl
    ·rw [if_neg h5, if_neg h5]; rfl
theorem Bbk {P : Program} {e : Nat} {a b : L} {x : (St → St) × Own} (h : Hj P s e a b = some x) : Nat1 x.1 := by
 unfold Hj at h
 repeat' split at h
 all_goals first
  | cases h
  | skip
 ·cases hb : Cm P e _ _ <;> rw [hb] at h <;> cases h
  exact Ba0 _
 ·cases hb : Cm P e _ _ <;> rw [hb] at h <;> cases h
  exact Afa
theorem Atu {P : Program} {op : Op} {x : (St → St) × Own} (h : Fl P s op = some x) : Nat1 x.1 := by
 unfold Fl at h
 repeat' split at h
 all_goals first
  | (cases h; done)
  | exact Bbk h
  | (cases h; exact As1 _)
  | skip
theorem Bbj {e : Nat} {t : Ty} {l : L} : plOf (s.put (some e) v) t l = plOf s t l := by cases l <;> rfl
theorem Aty {e : Nat} : ∀ (ts : List Ty) (ls : List L), Hk (s.put (some e) v) ts ls = Hk s ts ls
 | [], [] => rfl
 | [], _ :: _ => rfl
 | _ :: _, [] => rfl
 | t :: ts, l :: ls => by simp only [Hk, Bbj, Aty ts ls]
theorem Aii {e : Nat} {t : Ty} {ls : List L} : datum (s.put (some e) v) t ls = datum s t ls := by simp only [datum, Aty]
theorem Atm {e : Nat} {t : Ty} : ∀ (ps : List (Nat × List L)) (xs : List t.den), Gl (s.put (some e) v) t ps xs = Gl s t ps xs
 | [], _ => rfl
 | (i, ls) :: r, xs => by
  simp only [Gl, Aii]
  split
  ·congr 1; funext x; exact Atm r _
  ·rfl
theorem Bbl {P : Program} {d e : Nat} {a b : L} : Hj P (s.put (some d) v) e a b = Hj P s e a b := by
 have h : ∀ (t : Ty) (b : L), Fv (s.put (some d) v) t b = Fv s t b := fun t b => by cases b <;> rfl
 unfold Hj
 simp only [h]
 rfl
theorem Atv {P : Program} {d : Nat} {op : Op} (hop : Pk op = true) (h : ∀ x ∈ op.operands, x ≠ .tmp d) : Fl P (s.put (some d) v) op = Fl P s op := by
 rcases Asb hop with ⟨t, len, ps, rfl⟩ | ⟨as, ts, rfl⟩
 ·simp only [Fl, Aii, Atm]
  rw [Vh ps.toList fun x hx => h x.2 (by simp only [Op.operands]; exact List.mem_toArray.2 (List.mem_map.2 ⟨x, hx, rfl⟩))]
 ·simp only [Fl]
  cases has : as.toList with
  | nil => rfl
  | cons a r =>
   cases r with
   | nil => rfl
   | cons b r2 =>
    cases r2 with
    | cons c r3 => rfl
    | nil =>
     have hmem : ∀ z ∈ as.toList, z ≠ .tmp d := fun z hz => h z (by simp [Op.operands, Call.operands]; exact Array.mem_def.2 hz)
     rw [has] at hmem
     have ha : a ≠ .tmp d := hmem a (by simp)
     have hb : b ≠ .tmp d := hmem b (by simp)
     cases ts.toList with
     | nil => rfl
     | cons t r4 =>
      cases r4 with
      | nil => rfl
      | cons u r5 =>
       cases r5 with
       | cons u2 r6 => rfl
       | nil => simp only [Ay ha, Ay hb, Bbl]
end
structure Clo (p : L → Bool) : Prop where
 dead : p .dead = true
 pv : ∀ x, p (.pv x) = true
 cst : ∀ k, p (.cst k) = true
 rpt : ∀ l, p (.rpt l) = true
 ifc : ∀ t l g, p (.ifc t l g) = true
 err : ∀ b, p (.err b) = true
 ptr : ∀ b o o', p (.ptr b o) = true → p (.ptr b o') = true
 ept : ∀ l i o z i' o' z', p (.ept l i o z) = true → p (.ept l i' o' z') = true
 own : ∀ l i o z, p (.own l) = true → p (.ept l i o z) = true
 erp : ∀ z t ps, p (.erp z t ps) = true
 orp : ∀ z ps, p (.orp z ps) = true
 sb : ∀ b o n, p (.ptr b o) = true → p (.sb b n) = true
 sbp : ∀ b o n, p (.sb b n) = true → p (.ptr b o) = true
 ifp : ∀ t b o o', p (.ptr b o) = true → p (.ifp t b o') = true
 fn : ∀ f a c, (∀ x ∈ a, p (.ptr x.1 x.2) = true) → (∀ x ∈ c, p (.ptr x.1 x.2) = true) → p (.fn f a c) = true
theorem Rb (n : Nat) : Clo (L.noB n) := ⟨rfl, fun _ => rfl, fun _ => rfl, fun _ => rfl, fun _ _ _ => rfl, fun _ => rfl, fun _ _ _ h => h, fun _ _ _ _ _ _ _ _ => rfl, fun _ _ _ _ _ => rfl, fun _ _ _ => rfl, fun _ _ => rfl, fun _ _ _ h => h, fun _ _ _ h => h, fun _ _ _ _ h => h, fun f a c h1 h2 => by
 simp only [L.noB, Bool.and_eq_true, List.all_eq_true]
 exact ⟨h1, h2⟩⟩
theorem M2 (n : Nat) : Clo (L.noO n) := ⟨rfl, fun _ => rfl, fun _ => rfl, fun _ => rfl, fun _ _ _ => rfl, fun _ => rfl, fun _ _ _ _ => rfl, fun _ _ _ _ _ _ _ h => h, fun _ _ _ _ h => h, fun _ _ _ => rfl, fun _ _ => rfl, fun _ _ _ _ => rfl, fun _ _ _ _ => rfl, fun _ _ _ _ _ => rfl, fun _ _ _ _ _ => rfl⟩
section
variable {C : Cfg} {s s' t : St} {v : AV} {o : Oper} {p : L → Bool}
theorem Ra (hp : Clo p) (v : Value) : p (A1 v) = true := by
 unfold A1
 split <;> (try split) <;> first | exact hp.pv _ | exact hp.cst _ | exact hp.dead
theorem Hx (hp : Clo p) (h : s.all p = true) (x : Operand) : (s.get x).all p = true :=
 V7 (Ra hp) (fun f => hp.fn f [] [] (by simp) (by simp)) h x
theorem I6 (hp : Clo p) (h : s.all p = true) {x : Operand} {l : L} (hl : Af (s.get x) = some l) : p l = true := by
 have := Hx hp h x
 rw [Aso hl] at this
 simpa [lf, AV.all, CV.leaves] using this
theorem Ah5 (hp : Clo p) (h : s.all p = true) {x : Operand} {ls : List L} (hl : Dg (s.get x) = some ls) : ∀ l ∈ ls, p l = true :=
 Ae0 (Hx hp h x) hl
theorem Br {l : L} (h : p l = true) : (lf l).all p = true := by simpa [lf, AV.all, CV.leaves] using h
theorem Ag4 {ls : List L} (h : ∀ l ∈ ls, p l = true) : AV.all p (.cv (.agg ls)) = true := by simpa [AV.all, CV.leaves, List.all_eq_true] using h
theorem Ag7 {agg : Bool} {ls : List L} (hm : mkAV agg ls = some v) (h : ∀ l ∈ ls, p l = true) : v.all p = true := by
 unfold mkAV at hm
 split at hm
 ·cases hm; exact Ag4 h
 ·split at hm
  ·cases hm; exact Br (h _ (by simp))
  ·cases hm
theorem Ayd (hp : Clo p) (h : s.all p = true) {n : Nat} {l : L} {ls : List L} (hl : Bv s n l = some ls) : ∀ l' ∈ ls, p l' = true := by
 intro l' hl'
 cases l with
 | ptr b k =>
  simp only [Bv] at hl
  obtain ⟨q0, h5, h6⟩ := Option.bind_eq_some_iff.1 hl
  split at h6
  ·cases h6; exact Hu h h5 l' (List.mem_of_mem_drop (List.mem_of_mem_take hl'))
  ·cases h6
 | rpt ps =>
  simp only [Bv] at hl
  split at hl
  ·cases hl; simp only [pvs, List.mem_map] at hl'; obtain ⟨x, _, rfl⟩ := hl'; exact hp.pv _
  ·cases hl
 | ept l i k z =>
  simp only [Bv] at hl
  obtain ⟨q0, h5, h6⟩ := Option.bind_eq_some_iff.1 hl
  split at h6
  ·cases h6; simp only [pvs, List.mem_map] at hl'; obtain ⟨x, _, rfl⟩ := hl'; exact hp.pv _
  ·cases h6
 | _ => cases hl
theorem Ag5 (fs : Nat → Option (Nat × Nat)) : ∀ (q : List (Nat × List L)) (ls ls' : List L), Ew fs ls q = some ls' → (∀ l ∈ ls, p l = true) → (∀ x ∈ q, ∀ l ∈ x.2, p l = true) → ∀ l ∈ ls', p l = true
 | [], ls, ls', h, h1, h2 => by cases h; exact h1
 | (i, new) :: r, ls, ls', h, h1, h2 => by
  simp only [Ew] at h
  obtain ⟨x, h3, h4⟩ := Option.bind_eq_some_iff.1 h
  split at h4
  ·refine Ag5 fs r _ ls' h4 (fun l hl => ?_) fun x hx => h2 x (by simp [hx])
   simp only [splice, List.mem_append] at hl
   rcases hl with (hl | hl) | hl
   ·exact h1 l (List.mem_of_mem_take hl)
   ·exact h2 (i, new) (by simp) l hl
   ·exact h1 l (List.mem_of_mem_drop hl)
  ·cases h4
theorem Wa (hp : Clo p) (h : s.all p = true) : ∀ (ps : List (Nat × Operand)) (q : List (Nat × List L)), Bj s ps = some q → ∀ x ∈ q, ∀ l ∈ x.2, p l = true
 | [], q, hq => by cases hq; simp
 | (i, x) :: r, q, hq => by
  simp only [Bj] at hq
  obtain ⟨ls, h1, h2⟩ := Option.bind_eq_some_iff.1 hq
  obtain ⟨q', h3, rfl⟩ := Option.map_eq_some_iff.1 h2
  intro y hy
  rcases List.mem_cons.1 hy with rfl | hy
  ·exact Ah5 hp h h1
  ·exact Wa hp h r q' h3 y hy
theorem Wb (hp : Clo p) (h : s.all p = true) : ∀ (xs : List Operand) (ps : List (Nat × Nat)), C6 s xs = some ps → ∀ x ∈ ps, p (.ptr x.1 x.2) = true
 | [], ps, hq => by cases hq; simp
 | x :: r, ps, hq => by
  simp only [C6] at hq
  split at hq
  ·rename_i b o' hl
   obtain ⟨q', h3, rfl⟩ := Option.map_eq_some_iff.1 hq
   intro y hy
   rcases List.mem_cons.1 hy with rfl | hy
   ·exact I6 hp h hl
   ·exact Wb hp h r q' h3 y hy
  ·cases hq
theorem Gk {α : Type} {x : Option α} {v : α} (h : (Oc.ofOption x).val = some v) : x = some v := by rw [Oc.val_ofOption] at h; exact h
theorem Im {α : Type} {c : Bool} {n : Oc α} {v : α} (h : (Oc.guard c n).val = some v) : n.val = some v := by
 simp only [Oc.val] at h
 cases c
 ·cases h
 ·exact h
theorem opV_all (hp : Clo p) (h : s.all p = true) {op : Op} {P : Program} (hv : (opV P s op).val = some v) : v.all p = true := by
 have hpv : ∀ x, (lf (.pv x)).all p = true := fun x => Br (hp.pv x)
 cases op with
 | move x => cases hv; exact Hx hp h x
 | assign x => cases hv; exact Hx hp h x
 | pick c a b =>
  simp only [opV] at hv
  split at hv
  ·rename_i c _
   simp only [Oc.val] at hv
   cases c <;> cases hv <;> exact Hx hp h _
  ·cases hv
 | build t ps =>
  simp only [opV] at hv
  split at hv
  ·rename_i z q f hz hq hf
   obtain ⟨ls, h1, rfl⟩ := Option.map_eq_some_iff.1 (Gk hv)
   refine Ag4 (Ag5 f q z ls h1 ?_ (Wa hp h _ _ hq))
   obtain ⟨i, u, _, _, rfl, _⟩ := Hq hz
   intro l hl
   obtain ⟨u, _, rfl⟩ := List.mem_map.1 hl
   exact Ra hp u
  ·cases hv
 | load t a =>
  simp only [opV] at hv
  split at hv
  ·split at hv
   ·obtain ⟨ls, h1, h2⟩ := Option.bind_eq_some_iff.1 (Gk hv)
    exact Ag7 h2 (Ayd hp h h1)
   ·cases hv
  ·cases hv
 | nilCheck x =>
  simp only [opV] at hv
  split at hv <;> first | (cases hv; done) | (rename_i hl; cases hv; exact Br (I6 hp h hl)) | (have := Im hv; cases this; exact Br (hp.rpt _))
 | binOp op ty x y ty2 =>
  simp only [opV] at hv
  split at hv
  ·split at hv
   ·cases hv; exact hpv _
   ·cases hv; exact hpv _
   ·rw [Oc.val_bind] at hv
    obtain ⟨r, h1, h2⟩ := Option.bind_eq_some_iff.1 hv
    cases h2
    unfold Qm at h1
    split at h1
    ·split at h1
     ·split at h1
      ·have := Im h1; cases this; exact hpv _
      ·cases h1
     ·cases h1
    ·split at h1 <;> first | (cases h1; done) | (cases h1; exact hpv _)
  ·split at hv
   ·obtain ⟨r, _, rfl⟩ := Option.map_eq_some_iff.1 (Gk hv); exact hpv _
   ·obtain ⟨r, _, rfl⟩ := Option.map_eq_some_iff.1 (Gk hv); exact hpv _
   ·cases hv
 | unOp op ty x =>
  simp only [opV] at hv
  split at hv
  ·obtain ⟨r, _, rfl⟩ := Option.map_eq_some_iff.1 (Gk hv); exact hpv _
  ·cases hv
 | convert a b x =>
  simp only [opV] at hv
  repeat' split at hv
  all_goals first | (cases hv; done) | (cases hv; exact hpv _)
 | makeInterface t x =>
  simp only [opV] at hv
  split at hv
  ·cases hv
  ·split at hv
   ·rename_i hl
    cases hv
    have h1 := Hx hp h x
    rw [hl] at h1
    exact Br (hp.ifp _ _ _ _ (by simpa [AV.all, CV.leaves] using h1))
   ·obtain ⟨r, _, rfl⟩ := Option.map_eq_some_iff.1 (Gk hv); exact Br (hp.ifc _ _ _)
   ·obtain ⟨r, _, rfl⟩ := Option.map_eq_some_iff.1 (Gk hv); exact Br (hp.ifc _ _ _)
   ·cases hv
 | makeFunc f x y =>
  cases f with
  | func f =>
   simp only [opV] at hv
   split at hv
   ·rename_i a c h1 h2
    cases hv
    exact Br (hp.fn _ _ _ (Wb hp h _ _ h1) (Wb hp h _ _ h2))
   ·cases hv
  | _ => cases hv
 | fieldAddr S x f =>
  simp only [opV] at hv
  split at hv
  ·rename_i hl; cases hv; exact Br (hp.ptr _ _ _ (I6 hp h hl))
  ·cases hv; exact Br (hp.rpt _)
  ·rename_i hl; cases hv; exact Br (hp.ept _ _ _ _ _ _ _ (I6 hp h hl))
  ·cases hv
 | field S x f =>
  simp only [opV] at hv
  split at hv
  ·rename_i k t ls _ hg
   split at hv
   ·split at hv
    ·refine Ag7 (Gk hv) fun l hl => ?_
     have := Hx hp h x
     rw [hg] at this
     simp only [AV.all, CV.leaves, List.all_eq_true] at this
     exact this l (List.mem_of_mem_drop (List.mem_of_mem_take hl))
    ·cases hv
   ·cases hv
  ·cases hv
 | indexAddr T x y =>
  simp only [opV] at hv
  split at hv
  ·rename_i hl _
   split at hv
   ·split at hv
    ·have := Im hv; cases this; exact Br (hp.own _ _ _ _ (I6 hp h hl))
    ·cases hv
   ·cases hv
  ·split at hv
   ·have := Im hv; cases this; exact Br (hp.rpt _)
   ·cases hv
  ·rename_i hl _
   split at hv
   ·have := Im hv; cases this; exact Br (hp.sbp _ _ _ (I6 hp h hl))
   ·cases hv
  ·rename_i hl _
   split at hv
   ·have := Im hv; cases this; exact Br (hp.ptr _ _ _ (I6 hp h hl))
   ·cases hv
  ·cases hv
 | index T x y =>
  simp only [opV] at hv
  split at hv
  ·have := Im hv; cases this; exact hpv _
  ·cases hv
 | extract x i =>
  simp only [opV] at hv
  split at hv
  ·rename_i cs hg
   split at hv
   ·rename_i c hc
    cases hv
    have := Hx hp h x
    rw [hg] at this
    simp only [AV.all, List.all_eq_true] at this
    have h2 := this c (List.mem_of_getElem? hc)
    simpa [AV.all, List.all_eq_true] using h2
   ·cases hv
  ·cases hv
 | slice T x lo hi mx =>
  cases mx with
  | some m => cases hv
  | none =>
   simp only [opV] at hv
   repeat' split at hv
   all_goals first | (cases hv; done) | (have := Im hv; cases this; exact hpv _)
 | call c =>
  obtain ⟨f, as, ts⟩ := c
  cases f with
  | builtin b =>
   cases b <;> first | (cases hv; done) | skip
   ·simp only [opV] at hv
    repeat' split at hv
    all_goals first | (cases hv; done) | (cases hv; exact hpv _)
   ·simp only [opV] at hv
    split at hv
    ·obtain ⟨r, _, rfl⟩ := Option.map_eq_some_iff.1 (Gk hv); exact hpv _
    ·cases hv
   ·simp only [opV] at hv
    split at hv
    ·obtain ⟨r, _, rfl⟩ := Option.map_eq_some_iff.1 (Gk hv); exact hpv _
    ·cases hv
  | _ => cases hv
 | _ => cases hv
theorem Ag6 {f : L → L} (hf : ∀ l, p l = true → p (f l) = true) {v : AV} (h : v.all p = true) : (v.map f).all p = true := by
 have hc : ∀ c : CV, c.leaves.all p = true → (c.map f).leaves.all p = true := by
  intro c h
  cases c with
  | lf l => simp [CV.leaves, CV.map] at h ⊢; exact hf l h
  | agg ls => simp [CV.leaves, CV.map] at h ⊢; exact fun l hl => hf l (h l hl)
 cases v with
 | dead => rfl
 | cv c => exact hc c h
 | tup cs =>
  simp only [AV.all, AV.map, List.all_eq_true, List.mem_map] at h ⊢
  rintro c ⟨c0, hc0, rfl⟩
  have := hc c0 (by simpa [List.all_eq_true] using h c0 hc0)
  simpa [List.all_eq_true] using this
theorem V9 {f : L → L} (hf : ∀ l, p (f l) = true) (v : AV) : (v.map f).all p = true := by
 have hc : ∀ c : CV, (c.map f).leaves.all p = true := by
  intro c
  cases c with
  | lf l => simpa [CV.leaves, CV.map] using hf l
  | agg ls => simp [CV.leaves, CV.map]; exact fun l _ => hf l
 cases v with
 | dead => rfl
 | cv c => exact hc c
 | tup cs =>
  simp only [AV.all, AV.map, List.all_eq_true, List.mem_map]
  rintro c ⟨c0, hc0, rfl⟩
  have := hc c0
  simpa [List.all_eq_true] using this
theorem Ag9 {as : List AV} (h : ∀ a ∈ as, a.all p = true) (hv : Iq as = some v) : v.all p = true := by
 unfold Iq at hv
 split at hv
 ·cases hv; exact h _ (by simp)
 ·obtain ⟨cs, h1, rfl⟩ := Option.map_eq_some_iff.1 hv
  simp only [AV.all, List.all_eq_true]
  clear hv
  rename_i l hne
  clear hne
  induction as generalizing cs with
  | nil => cases h1; simp
  | cons a as ih =>
   simp only [List.foldr_cons] at h1
   split at h1
   ·rename_i c
    obtain ⟨q, h2, rfl⟩ := Option.map_eq_some_iff.1 h1
    intro x hx
    rcases List.mem_cons.1 hx with rfl | hx
    ·have := h (.cv x) (by simp); simpa [AV.all, List.all_eq_true] using this
    ·exact ih (fun b hb => h b (by simp [hb])) q h2 x hx
   ·cases h1
theorem Ag8 (hp : Clo p) {o : St} {rB rO : List Nat} (hB : ∀ b ∈ rB, ∀ k, p (.ptr b k) = true) (hb2 : ∀ b ∈ rB, ∀ t z, p (.bld b t z) = true) (hO : ∀ l ∈ rO, p (.own l) = true) (l : L) : p (renL o rB rO l) = true := by
 have hps : ∀ (a a' : List (Nat × Nat)), Jv rB a = some a' → ∀ x ∈ a', p (.ptr x.1 x.2) = true := by
  intro a
  induction a with
  | nil => intro a' h; cases h; simp
  | cons y r ih =>
   intro a' h
   simp only [Jv] at h
   obtain ⟨b, h1, h2⟩ := Option.bind_eq_some_iff.1 h
   obtain ⟨q, h3, rfl⟩ := Option.map_eq_some_iff.1 h2
   intro x hx
   rcases List.mem_cons.1 hx with rfl | hx
   ·exact hB b (List.mem_of_getElem? h1) _
   ·exact ih q h3 x hx
 cases l with
 | ptr b k =>
  simp only [renL]
  split
  ·rename_i h1; exact hB _ (List.mem_of_getElem? h1) _
  ·exact hp.dead
 | own l =>
  simp only [renL]
  split
  ·rename_i h1; exact hO _ (List.mem_of_getElem? h1)
  ·exact hp.dead
 | ept l i k z =>
  simp only [renL]
  split
  ·rename_i h1; exact hp.own _ _ _ _ (hO _ (List.mem_of_getElem? h1))
  ·exact hp.dead
 | fn f a c =>
  simp only [renL]
  split
  ·rename_i h1 h2; exact hp.fn _ _ _ (hps _ _ h1) (hps _ _ h2)
  ·exact hp.dead
 | bld b t z =>
  simp only [renL]
  split
  ·rename_i h1; exact hb2 _ (List.mem_of_getElem? h1) _ _
  ·exact hp.dead
 | sb b n =>
  simp only [renL]
  split
  ·rename_i h1; exact hp.sb _ 0 _ (hB _ (List.mem_of_getElem? h1) 0)
  ·exact hp.dead
 | ifp t b k =>
  simp only [renL]
  split
  ·rename_i h1; exact hp.ifp _ _ 0 _ (hB _ (List.mem_of_getElem? h1) 0)
  ·exact hp.dead
 | erp z t ps => exact hp.erp _ _ _
 | orp z ps => exact hp.orp _ _
 | dead => exact hp.dead
 | pv x => exact hp.pv x
 | cst k => exact hp.cst k
 | rpt l => exact hp.rpt l
 | ifc t l g => exact hp.ifc _ _ _
 | err b => exact hp.err b
theorem Qq (hp : Clo p) {args : List AV} : ∀ (sgs : List Sig), (Em s args sgs).val = some v → v.all p = true
 | [], h => by cases h
 | g :: r, h => by
  simp only [Em] at h
  split at h
  ·exact Qq hp r h
  split at h
  ·split at h
   ·simp only [Oc.val] at h
    obtain ⟨q, hq, h2⟩ := Option.bind_eq_some_iff.1 h
    rw [Oc.val_ofOption] at h2
    unfold backV at h2
    split at h2
    ·refine Ag9 (fun a ha => ?_) h2
     obtain ⟨a0, _, rfl⟩ := List.mem_map.1 ha
     exact V9 (fun l => Ag8 hp (by simp) (by simp) (by simp) l) a0
    ·cases h2
   ·exact Qq hp r h
  ·exact Qq hp r h
theorem Ag0 (hp : Clo p) (h : s.all p = true) (hv : Vv C o s = some v) : v.all p = true := by
 unfold Vv at hv
 split at hv
 ·unfold opVD at hv
  split at hv
  ·split at hv
   ·exact Qq hp _ hv
   ·cases hv
  ·exact opV_all hp h hv
 ·cases hv
theorem L5 (hp : Clo p) (h : s.all p = true) {ops : Array Oper} (hv : Vg C ops o s = some v) : v.all p = true := by
 unfold Vg at hv
 repeat' split at hv
 all_goals first | (cases hv; done) | exact Ag0 hp h hv | (cases hv; rfl)
theorem Ei {d : Option Nat} (h : s.all p = true) (hv : v.all p = true) : (s.put d v).all p = true := by
 cases d with
 | none => exact h
 | some e =>
  simp only [St.all, St.put, Bool.and_eq_true, List.all_eq_true] at h ⊢
  refine ⟨fun x hx => ?_, h.2⟩
  rcases List.mem_or_eq_of_mem_set hx with h1 | h1
  ·exact h.1 x h1
  ·rw [h1]; exact hv
theorem Qf {b : Nat} {ls : List L} (h : s.all p = true) (hl : ∀ l ∈ ls, p l = true) : (Aq s b ls).all p = true := by
 simp only [St.all, Aq, Bool.and_eq_true, List.all_eq_true] at h ⊢
 refine ⟨h.1, fun x hx => ?_⟩
 rcases List.mem_or_eq_of_mem_set hx with h1 | h1
 ·exact h.2 x h1
 ·subst h1
  exact List.all_eq_true.2 hl
theorem Ahb {l : Nat} {x : Option Own} (h : s.all p = true) : (As s l x).all p = true := h
theorem W3 (hp : Clo p) {D : Nat → Bool} {q : Nat → Option PL} {l : L} (h : p l = true) : p (fD D q l) = true := by
 cases l with
 | own m =>
  simp only [fD]
  split
  ·split
   ·exact hp.pv _
   ·exact hp.dead
  ·exact h
 | ept m i o z =>
  simp only [fD]
  split
  ·exact hp.dead
  ·exact h
 | _ => exact h
theorem Ar2 (hp : Clo p) {D : Nat → Bool} {q : Nat → Option PL} (g : GM s t D q) (h : s.all p = true) : t.all p = true := by
 simp only [St.all, Bool.and_eq_true, List.all_eq_true] at h ⊢
 constructor
 ·rw [g.slots]
  intro v hv
  obtain ⟨v0, h0, rfl⟩ := List.mem_map.1 hv
  exact Ag6 (fun l hl => W3 hp hl) (h.1 v0 h0)
 ·rw [g.boxes]
  intro b hb
  obtain ⟨b0, h0, rfl⟩ := List.mem_map.1 hb
  have := h.2 b0 h0
  cases b0 with
  | none => rfl
  | some ls =>
   simp only [Option.map_some, List.all_map, List.all_eq_true, Function.comp] at this ⊢
   exact fun l hl => W3 hp (this l hl)
theorem Aha {o : St} {f : L → L} (hf : ∀ l, p (f l) = true) : ∀ (rB : List Nat) (i0 : Nat) {s : St}, s.all p = true → (Bw s o f i0 rB).all p = true
 | [], i0, s, h => h
 | b :: r, i0, s, h => by
  simp only [Bw]
  refine Aha hf r _ ?_
  simp only [St.all, Bool.and_eq_true, List.all_eq_true] at h ⊢
  refine ⟨h.1, fun x hx => ?_⟩
  rcases List.mem_or_eq_of_mem_set hx with h1 | h1
  ·exact h.2 x h1
  ·subst h1
   cases Aa o i0 with
   | none => rfl
   | some ls =>
    simp only [Option.map_some, List.all_eq_true, List.mem_map]
    rintro l ⟨l0, _, rfl⟩
    exact hf l0
theorem Ahc {o : St} : ∀ (rO : List Nat) (i0 : Nat) {s : St}, s.all p = true → (Ca s o i0 rO).all p = true
 | [], i0, s, h => h
 | b :: r, i0, s, h => by
  simp only [Ca]
  exact Ahc r _ (Ahb h)
theorem Lx {a b : List Nat} (h : subN a b = true) {x : Nat} (hx : x ∈ a) : x ∈ b := by
 simpa using List.all_eq_true.1 h x hx
theorem Ayj {c : Co} {o : St} {d nb no : Nat} (h : back s c o d nb no = some s') (hb : (c.br.isEmpty || Bg o) = true) :
  Dm s o d (c.mB.map some ++ List.replicate (nb - c.mB.length) none) (c.mO ++ List.replicate (no - c.mO.length) none)
   (Dc (N0 + d) s.slots.length (c.mB.map some ++ List.replicate (nb - c.mB.length) none) 0) (Dc (N0 + d) s.slots.length (c.mO ++ List.replicate (no - c.mO.length) none) 0) = some s' := by
 unfold back at h
 simp only [hb, if_true] at h
 split at h
 ·cases h
 ·exact h
theorem Ahj {o : St} {d : Nat} {oB oO : List (Option Nat)} {rB rO : List Nat} (h : Dm s o d oB oO rB rO = some s') :
  (chkB s oB rB && chkO s oO rO && chkT s o 0 oO && B3 rB && B3 rO) = true ∧ ∃ v, Iq (o.slots.map (AV.map (renL o rB rO))) = some v ∧ s' = (Ca (Bw s o (renL o rB rO) 0 rB) o 0 rO).put (some d) v := by
 unfold Dm at h
 split at h
 ·rename_i hc
  obtain ⟨v, h1, h2⟩ := Option.map_eq_some_iff.1 h
  exact ⟨hc, v, h1, h2.symm⟩
 ·cases h
theorem Md {d : Nat} {args : List AV} {W : (List Nat × List Nat) × (List Nat × List Nat)} : ∀ (sgs : List Sig), (Dn s d args W sgs).val = some s' →
  ∃ (o : St) (oB oO : List (Option Nat)), okK s.slots.length d oB W.1.1 W.2.1 = true ∧ okK s.slots.length d oO W.1.2 W.2.2 = true ∧
   Dm s o d oB oO (Dc (N0 + d) s.slots.length oB 0) (Dc (N0 + d) s.slots.length oO 0) = some s'
 | [], h => by cases h
 | g :: r, h => by
  simp only [Dn] at h
  split at h
  ·exact Md r h
  split at h
  ·split at h
   ·simp only [Oc.val] at h
    obtain ⟨q, hq, h2⟩ := Option.bind_eq_some_iff.1 h
    rw [Oc.val_ofOption] at h2
    obtain ⟨h3, h4, h5, h6⟩ := Ahi h2
    exact ⟨_, _, _, h5, h6, Ayj h3 h4⟩
   ·exact Md r h
  ·exact Md r h
theorem Ay0 (hp : Clo p) {d : Nat} {args : List AV} {W : (List Nat × List Nat) × (List Nat × List Nat)} {sgs : List Sig} (h : (Dn s d args W sgs).val = some s') (hs : s.all p = true)
  (hB : ∀ b ∈ W.1.1 ++ W.2.1, ∀ k, p (.ptr b k) = true) (hb2 : ∀ b ∈ W.1.1 ++ W.2.1, ∀ t z, p (.bld b t z) = true) (hO : ∀ l ∈ W.1.2 ++ W.2.2, p (.own l) = true) : s'.all p = true := by
 obtain ⟨o, oB, oO, h1, h2, h3⟩ := Md sgs h
 obtain ⟨_, v, h4, rfl⟩ := Ahj h3
 unfold okK at h1 h2
 rw [Bool.and_eq_true] at h1 h2
 have hr : ∀ l, p (renL o (Dc (N0 + d) s.slots.length oB 0) (Dc (N0 + d) s.slots.length oO 0) l) = true :=
  Ag8 hp (fun b hb => hB b (Lx h1.1 hb)) (fun b hb => hb2 b (Lx h1.1 hb)) (fun l hl => hO l (Lx h2.1 hl))
 exact Ei (Ahc _ _ (Aha hr _ _ hs)) (Ag9 (fun a ha => by
  obtain ⟨a0, _, rfl⟩ := List.mem_map.1 ha
  exact V9 hr a0) h4)
end
section
variable {C : Cfg} {s s' t : St} {v : AV} {o x y : Oper} {p : L → Bool} {ops : Array Oper}
theorem Atn : ∀ (ps : List (Nat × Operand)), (∀ x ∈ ps, t.get x.2 = s.get x.2) → Bj t ps = Bj s ps
 | [], _ => rfl
 | (i, x) :: r, h => by
  simp only [Bj]
  rw [h (i, x) (by simp), Atn r fun y hy => h y (by simp [hy])]
theorem Aby : ∀ (xs : List Operand), (∀ x ∈ xs, t.get x = s.get x) → C6 t xs = C6 s xs
 | [], _ => rfl
 | x :: r, h => by
  simp only [C6]
  rw [h x (by simp), Aby r fun y hy => h y (by simp [hy])]
theorem Ate {k : Int} {x : Option Operand} (h : ∀ y, x = some y → t.get y = s.get y) : A3 t k x = A3 s k x := by
 cases x with
 | none => rfl
 | some y => simp only [A3]; rw [h y rfl]
theorem Bba {P : Program} (op : Op) (hnl : ∀ T a, op ≠ .load T a) (h : ∀ x ∈ op.operands, t.get x = s.get x) (ho : isR op = true ∨ ∀ l, Ab t l = Ab s l) : opV P t op = opV P s op := by
 have hown : isR op = false → ∀ l, Ab t l = Ab s l := fun e => by
  rcases ho with ho | ho
  ·rw [e] at ho; cases ho
  ·exact ho
 cases op with
 | load T a => exact absurd rfl (hnl T a)
 | move x => simp only [opV]; rw [h x (by simp [Op.operands])]
 | assign x => simp only [opV]; rw [h x (by simp [Op.operands])]
 | pick c x y => simp only [opV]; rw [h c (by simp [Op.operands]), h x (by simp [Op.operands]), h y (by simp [Op.operands])]
 | build t ps =>
  simp only [opV]
  rw [Atn ps.toList fun x hx => h x.2 (by simp only [Op.operands]; exact List.mem_toArray.2 (List.mem_map.2 ⟨x, hx, rfl⟩))]
 | nilCheck x => simp only [opV]; rw [h x (by simp [Op.operands])]
 | binOp op t x y t' => simp only [opV]; rw [h x (by simp [Op.operands]), h y (by simp [Op.operands])]
 | unOp op t x => simp only [opV]; rw [h x (by simp [Op.operands])]
 | convert t1 t2 x =>
  have hb : ∀ l, Jo t l = Jo s l := fun l => by unfold Jo; rw [hown rfl]
  simp only [opV, hb]; rw [h x (by simp [Op.operands])]
 | makeInterface t x => simp only [opV]; rw [h x (by simp [Op.operands])]
 | makeFunc f x y =>
  cases f with
  | func f =>
   simp only [opV]
   rw [Aby x.toList fun z hz => h z (by simp [Op.operands]; exact .inl (Array.mem_def.2 hz)), Aby y.toList fun z hz => h z (by simp [Op.operands]; exact .inr (Array.mem_def.2 hz))]
  | _ => rfl
 | fieldAddr S x f => simp only [opV]; rw [h x (by simp [Op.operands])]
 | field S x f => simp only [opV]; rw [h x (by simp [Op.operands])]
 | indexAddr T x y => simp only [opV, hown rfl]; rw [h x (by simp [Op.operands]), h y (by simp [Op.operands])]
 | index T x y => simp only [opV]; rw [h x (by simp [Op.operands]), h y (by simp [Op.operands])]
 | extract x i => simp only [opV]; rw [h x (by simp [Op.operands])]
 | slice T x lo hi mx =>
  cases mx with
  | some m => rfl
  | none =>
   have h1 : ∀ k, A3 t k lo = A3 s k lo := fun k => Ate fun y hy => h y (by subst hy; simp [Op.operands])
   have h2 : ∀ k, A3 t k hi = A3 s k hi := fun k => Ate fun y hy => h y (by subst hy; simp [Op.operands])
   simp only [opV, h1, h2]
   rw [h x (by simp [Op.operands])]
 | call c =>
  obtain ⟨f, as, ts⟩ := c
  cases f with
  | builtin b =>
   have hg : as.toList.map t.get = as.toList.map s.get := List.map_congr_left fun x hx => h x (by simp [Op.operands, Call.operands]; exact Array.mem_def.2 hx)
   cases b <;> first | rfl | skip
   ·simp only [opV, hown rfl]
    have : (as[0]?.bind fun x => Af (t.get x)) = (as[0]?.bind fun x => Af (s.get x)) := by
     cases he : as[0]? with
     | none => rfl
     | some x =>
      simp only [Option.bind_some]
      rw [h x (by simp [Op.operands, Call.operands]; exact Array.mem_of_getElem? he)]
    rw [this]
   ·simp only [opV, hg]
   ·simp only [opV, hg]
  | _ => rfl
 | _ => rfl
theorem Bas {dst : Option Nat} (op : Op) (h : ∀ x ∈ op.operands, t.get x = s.get x) : ldOk C t dst op = ldOk C s dst op := by
 cases op with
 | load T a => unfold ldOk; cases dst <;> simp only []; rw [h a (by simp [Op.operands])]
 | nilCheck a => unfold ldOk; cases dst <;> simp only []; rw [h a (by simp [Op.operands])]
 | fieldAddr S a f => unfold ldOk; cases dst <;> simp only []; rw [h a (by simp [Op.operands])]
 | _ => rfl
theorem As8 {op : Op} (h : A6 op = false) : opVD C s op = opV C.P s op := by
 unfold opVD
 split
 ·cases h
 ·rfl
theorem Aya {bs : List Nat} (hc : A6 y.op = false) (h : ∀ z ∈ y.op.operands, t.get z = s.get z) (ho : isR y.op = true ∨ (∃ T a, y.op = .load T a) ∨ ∀ l, Ab t l = Ab s l) (hr : Fo C y bs = true)
  (hb : ∀ b, b ∉ bs → Aa t b = Aa s b) : Vv C y t = Vv C y s := by
 unfold Vv
 rw [Bas _ h, As8 hc, As8 hc]
 by_cases hl : ∃ T a, y.op = .load T a
 ·obtain ⟨T, a, hop⟩ := hl
  cases hk : ldOk C s y.dst y.op with
  | false => rfl
  | true =>
   simp only [if_true]
   rw [hop] at hk h ⊢
   have hga := h a (by simp [Op.operands])
   unfold Fo at hr
   rw [hop] at hr
   cases hd : y.dst with
   | none => rw [hd] at hr; cases hr
   | some d =>
    rw [hd] at hr hk
    simp only [ldOk] at hr hk
    cases hlk : Bi C.ld d with
    | none => rw [hlk] at hr; cases hr
    | some r =>
     rw [hlk] at hr hk
     simp only [opV, hga]
     cases hlf : Af (s.get a) with
     | none => rfl
     | some l =>
      rw [hlf] at hk
      simp only [] at hk
      have : ∀ n, Bv t n l = Bv s n l := by
       intro n
       cases l with
       | ptr b k =>
        simp only [ldL, beq_iff_eq] at hk
        subst hk
        simp only [Bv]
        rw [hb b (by simpa using hr)]
       | rpt ps => rfl
       | _ => cases hk
      cases A0 C.P T with
      | none => rfl
      | some n => simp only [this]
 ·have ho' : isR y.op = true ∨ ∀ l, Ab t l = Ab s l := by
   rcases ho with ho | ho | ho
   ·exact .inl ho
   ·exact absurd ho hl
   ·exact .inr ho
  rw [Bba y.op (fun T a e => hl ⟨T, a, e⟩) h ho']
theorem Qc {bs : List Nat} (hc : A6 y.op = false) (h : ∀ z : Operand, (∀ e, z = .tmp e → e ∈ y.looksAt ops) → t.get z = s.get z) (ho : isR y.op = true ∨ (∃ T a, y.op = .load T a) ∨ ∀ l, Ab t l = Ab s l) (hr : Fo C y bs = true)
  (hb : ∀ b, b ∉ bs → Aa t b = Aa s b) : Vg C ops y t = Vg C ops y s := by
 have h1 : Vv C y t = Vv C y s := Aya hc (fun z hz => h z fun e he => by
  subst he
  exact List.mem_append_left _ (List.mem_filterMap.2 ⟨.tmp e, by simpa using hz, rfl⟩)) ho hr hb
 unfold Vg
 split
 ·exact h1
 ·rename_i j want hg
  split
  ·rename_i g hj
   rw [h (.tmp g) (fun e he => by cases he; exact List.mem_append_right _ (by simp [hg, hj]))]
   split
   ·rw [h1]
   ·rfl
  ·rfl
theorem Asd {o : Oper} (h : isW o = true) : isV o.op = true ∧ (A6 o.op = true → o.dst ≠ none) := by
 simp only [isW, Bool.and_eq_true, Bool.or_eq_true, Bool.not_eq_true', Option.isSome_iff_ne_none] at h
 refine ⟨h.1, fun hc => ?_⟩
 rcases h.2 with h2 | h2
 ·rw [hc] at h2; cases h2
 ·exact h2
theorem sw_gen1 {φ : AV → AV} (ky : kk C y = .no) (hv : isV y.op = true) (hc : A6 y.op = false) (H1 : ∀ v, Vg C ops y s = some v → (Ai (opD C) ops (s.put y.dst v) x).val = ((Ai (opD C) ops s x).val).map fun z => z.put y.dst (φ v))
  (H2 : ∀ s1, (Ai (opD C) ops s x).val = some s1 → Vg C ops y s1 = (Vg C ops y s).map φ) {s1 s2 : St}
  (h1 : (Ai (opD C) ops s y).val = some s1) (h2 : (Ai (opD C) ops s1 x).val = some s2) : ∃ s3, (Ai (opD C) ops s x).val = some s3 ∧ (Ai (opD C) ops s3 y).val = some s2 := by
 have hcy : A6 y.op = true → y.dst ≠ none := fun e => by rw [hc] at e; cases e
 rw [Is ky hv hcy] at h1
 obtain ⟨v, hv1, rfl⟩ := Option.map_eq_some_iff.1 h1
 rw [H1 v hv1] at h2
 obtain ⟨s3, h3, rfl⟩ := Option.map_eq_some_iff.1 h2
 refine ⟨s3, h3, ?_⟩
 rw [Is ky hv hcy, H2 s3 h3, hv1]
 rfl
theorem sw_gen2 {φ : AV → AV} (ky : kk C y = .no) (hv : isV y.op = true) (hc : A6 y.op = false) (H1 : ∀ v, Vg C ops y s = some v → (Ai (opD C) ops (s.put y.dst v) x).val = ((Ai (opD C) ops s x).val).map fun z => z.put y.dst (φ v))
  (H2 : ∀ s1, (Ai (opD C) ops s x).val = some s1 → Vg C ops y s1 = (Vg C ops y s).map φ) {s1 s2 : St}
  (h1 : (Ai (opD C) ops s x).val = some s1) (h2 : (Ai (opD C) ops s1 y).val = some s2) : ∃ s3, (Ai (opD C) ops s y).val = some s3 ∧ (Ai (opD C) ops s3 x).val = some s2 := by
 have hcy : A6 y.op = true → y.dst ≠ none := fun e => by rw [hc] at e; cases e
 rw [Is ky hv hcy, H2 s1 h1] at h2
 obtain ⟨u, hu, rfl⟩ := Option.map_eq_some_iff.1 h2
 obtain ⟨v, hv1, rfl⟩ := Option.map_eq_some_iff.1 hu
 refine ⟨s.put y.dst v, by rw [Is ky hv hcy, hv1]; rfl, ?_⟩
 rw [H1 v hv1, h1]
 rfl
def FrO (C : Cfg) (o : Oper) (s : St) : Prop := (∀ n ∈ mkB C o, s.all (L.noB n) = true) ∧ ∀ n ∈ mkO C o, s.all (L.noO n) = true
theorem Ael {e n : Nat} (h : s.all (L.noB n) = true) (hv : v.all (L.noB n) = true) : Bp (s.put (some e) v) n = Bp s n := by
 unfold Bp
 rw [h, Ei h hv]
 rfl
theorem Aq6 {e n : Nat} (h : s.all (L.noO n) = true) (hv : v.all (L.noO n) = true) : De (s.put (some e) v) n = De s n := by
 unfold De
 rw [h, Ei h hv]
 rfl
theorem Wp {e : Nat} : ∀ (oB : List (Option Nat)) (rB : List Nat), (∀ n ∈ Dt oB rB, s.all (L.noB n) = true ∧ v.all (L.noB n) = true) → chkB (s.put (some e) v) oB rB = chkB s oB rB
 | [], [], _ => rfl
 | [], _ :: _, _ => rfl
 | some b :: r, [], _ => rfl
 | none :: r, [], _ => rfl
 | some b :: r, x :: q, h => by simp only [chkB]; rw [Wp r q fun n hn => h n hn]
 | none :: r, x :: q, h => by
  simp only [chkB]
  rw [Wp r q fun n hn => h n (by simp [Dt, hn]), Ael (h x (by simp [Dt])).1 (h x (by simp [Dt])).2]
theorem Wr {e : Nat} : ∀ (oB : List (Option Nat)) (rB : List Nat), (∀ n ∈ Dt oB rB, s.all (L.noO n) = true ∧ v.all (L.noO n) = true) → chkO (s.put (some e) v) oB rB = chkO s oB rB
 | [], [], _ => rfl
 | [], _ :: _, _ => rfl
 | some b :: r, [], _ => rfl
 | none :: r, [], _ => rfl
 | some b :: r, x :: q, h => by simp only [chkO]; rw [Wr r q fun n hn => h n hn]
 | none :: r, x :: q, h => by
  simp only [chkO]
  rw [Wr r q fun n hn => h n (by simp [Dt, hn]), Aq6 (h x (by simp [Dt])).1 (h x (by simp [Dt])).2]
theorem Wt {o : St} {e : Nat} : ∀ (oO : List (Option Nat)) (i : Nat), chkT (s.put (some e) v) o i oO = chkT s o i oO
 | [], _ => rfl
 | some l :: r, i => by simp only [chkT]; rw [Wt r]; rfl
 | none :: r, i => by simp only [chkT]; rw [Wt r]
theorem Auo {o : St} {f : L → L} {e : Nat} : ∀ (rB : List Nat) (i : Nat) (s : St), Bw (s.put (some e) v) o f i rB = (Bw s o f i rB).put (some e) v
 | [], i, s => rfl
 | b :: r, i, s => by
  simp only [Bw]
  exact Auo r (i + 1) { s with boxes := s.boxes.set b ((Aa o i).map (List.map f)) }
theorem Aur {o : St} {e : Nat} : ∀ (rO : List Nat) (i : Nat) (s : St), Ca (s.put (some e) v) o i rO = (Ca s o i rO).put (some e) v
 | [], i, s => rfl
 | b :: r, i, s => by
  simp only [Ca]
  exact Aur r (i + 1) (As s b (Ab o i))
theorem Ayh {o : St} {d e : Nat} {oB oO : List (Option Nat)} {rB rO : List Nat} (hne : e ≠ d) (hB : ∀ n ∈ Dt oB rB, s.all (L.noB n) = true ∧ v.all (L.noB n) = true) (hO : ∀ n ∈ Dt oO rO, s.all (L.noO n) = true ∧ v.all (L.noO n) = true) :
  Dm (s.put (some e) v) o d oB oO rB rO = (Dm s o d oB oO rB rO).map fun z => z.put (some e) v := by
 unfold Dm
 rw [Wp oB rB hB, Wr oO rO hO, Wt]
 split
 ·cases Iq (o.slots.map (AV.map (renL o rB rO))) with
  | none => rfl
  | some w =>
   simp only [Option.map_some]
   rw [Auo, Aur, Ln (x := some e) (y := some d) fun k h1 h2 => hne (by cases h1; cases h2; rfl)]
 ·rfl
theorem Qp {d e : Nat} {args : List AV} {W : (List Nat × List Nat) × (List Nat × List Nat)} (hne : e ≠ d) (hB : ∀ n ∈ W.2.1, s.all (L.noB n) = true ∧ v.all (L.noB n) = true) (hO : ∀ n ∈ W.2.2, s.all (L.noO n) = true ∧ v.all (L.noO n) = true) :
  ∀ (sgs : List Sig), (Dn (s.put (some e) v) d args W sgs).val = ((Dn s d args W sgs).val).map fun z => z.put (some e) v
 | [] => rfl
 | g :: r => by
  have hs : ({ s.put (some e) v with slots := args } : St) = { s with slots := args } := rfl
  have hlen : (s.put (some e) v).slots.length = s.slots.length := by simp [St.put]
  simp only [Dn, hs]
  split
  ·exact Qp hne hB hO r
  ·cases co g.kin { s with slots := args } (max g.kin.boxes.length g.kin.owns.length) with
   | none => exact Qp hne hB hO r
   | some c =>
    simp only []
    cases dec g.kin c.s with
    | none => exact Qp hne hB hO r
    | some ps =>
     simp only [Oc.val]
     cases g.f.run (List PL) ps some with
     | none => rfl
     | some q =>
      simp only [Option.bind_some, Oc.val_ofOption]
      unfold Ql
      rw [hlen]
      split
      ·rename_i hc
       simp only [Bool.and_eq_true] at hc
       unfold back
       simp only [hc.1, if_true]
       split
       ·rfl
       ·have k1 := hc.2.1
        have k2 := hc.2.2
        unfold okK at k1 k2
        rw [Bool.and_eq_true] at k1 k2
        rw [hlen]
        exact Ayh hne (fun n hn => hB n (Lx k1.2 hn)) (fun n hn => hO n (Lx k2.2 hn))
      ·rfl
theorem Aum {o : St} {f : L → L} {b : Nat} : ∀ (rB : List Nat) (i : Nat) (s : St), b ∉ rB → Aa (Bw s o f i rB) b = Aa s b
 | [], i, s, h => rfl
 | c :: r, i, s, h => by
  simp only [Bw]
  rw [Aum r _ _ (by simp at h; exact h.2)]
  simp only [Aa]
  rw [List.getElem?_set_ne (by simp at h; exact fun e => h.1 e.symm)]
theorem Aer {d : Nat} {w : AV} (h : t.slots = s.slots.set d w) {z : Operand} (hz : z ≠ .tmp d) : t.get z = s.get z := by
 cases z with
 | tmp e =>
  have hne : d ≠ e := fun h => hz (by rw [h])
  simp only [St.get, h, List.getD, List.getElem?_set_ne hne]
 | _ => rfl
theorem Ay1 {d : Nat} {args : List AV} {W : (List Nat × List Nat) × (List Nat × List Nat)} {sgs : List Sig} (h : (Dn s d args W sgs).val = some s') :
  (∃ w, s'.slots = s.slots.set d w) ∧ ∀ b, b ∉ W.1.1 ++ W.2.1 → Aa s' b = Aa s b := by
 obtain ⟨o, oB, oO, h1, h2, h3⟩ := Md sgs h
 obtain ⟨_, w, h4, rfl⟩ := Ahj h3
 unfold okK at h1
 rw [Bool.and_eq_true] at h1
 refine ⟨⟨w, ?_⟩, fun b hb => ?_⟩
 ·show ((Ca (Bw s o _ 0 _) o 0 _).slots).set d w = _
  rw [Px.2, Vs.2]
 ·show Aa (Ca (Bw s o _ 0 _) o 0 _) b = _
  have e : ∀ u : St, Aa (Ca u o 0 (Dc (N0 + d) s.slots.length oO 0)) b = Aa u b := fun u => by
   simp only [Aa]; rw [Px.1]
  rw [e, Aum _ _ _ fun hm => hb (Lx h1.1 hm)]
theorem Asj (h : kk C x = .call) : ∃ f as ts d W, x.op = .call { callee := .value f, args := as, argTypes := ts } ∧ x.dst = some d ∧ Bi C.ef d = some W := by
 unfold kk kkd at h
 split at h
 ·rename_i f as ts d ho hd
  split at h
  ·rename_i hs
   obtain ⟨W, hW⟩ := Option.isSome_iff_exists.1 hs
   exact ⟨f, as, ts, d, W, ho, hd, hW⟩
  ·cases h
 ·split at h <;> cases h
 all_goals first | (cases h; done) | (split at h <;> cases h)
theorem Asl (h : kk C x = .store) : ∃ T n z b, x.op = .store T (.tmp n) z ∧ x.dst = none ∧ Bi C.sr n = some b := by
 unfold kk kkd at h
 split at h
 ·split at h <;> cases h
 ·rename_i T n z ho hd
  split at h
  ·rename_i hs
   obtain ⟨b, hb⟩ := Option.isSome_iff_exists.1 hs
   exact ⟨T, n, z, b, ho, hd, hb⟩
  ·cases h
 all_goals first | (cases h; done) | (split at h <;> cases h)
theorem U0 (h : kk C x = .alloc) : ∃ T d, x.op = .alloc T ∧ x.dst = some d := by
 unfold kk kkd at h
 split at h
 ·split at h <;> cases h
 ·split at h <;> cases h
 ·rename_i T d ho hd; exact ⟨T, d, ho, hd⟩
 all_goals first | (cases h; done) | (split at h <;> cases h)
theorem Ask (h : kk C x = .row) : Pk x.op = true ∧ ∃ d, x.dst = some d := by
 unfold kk kkd at h
 split at h
 ·split at h <;> cases h
 ·split at h <;> cases h
 ·cases h
 ·rename_i ho hd
  split at h
  ·cases h
  ·rw [ho]; exact ⟨rfl, _, hd⟩
 ·rename_i ho hd; rw [ho]; exact ⟨rfl, _, hd⟩
 ·cases h
theorem Asi (h : kk C x = .boxr) : ∃ t len ps d, x.op = .buildSlice t len ps ∧ x.dst = some d := by
 unfold kk kkd at h
 split at h
 ·split at h <;> cases h
 ·split at h <;> cases h
 ·cases h
 ·rename_i t len ps d ho hd
  exact ⟨t, len, ps, d, ho, hd⟩
 ·cases h
 ·cases h
theorem U6 {t len d : Nat} {ps : Array (Nat × Operand)} (h : kk C x = .boxr) (ho : x.op = .buildSlice t len ps) (hd : x.dst = some d) : opD C s x.dst x.op = Hw C s t len ps.toList d := by
 have h' : kkd C x.dst x.op = .boxr := h
 unfold opD; rw [h', ho, hd]
theorem Ahq {t len d : Nat} {ps : List (Nat × Operand)} (h : (Hw C s t len ps d).val = some s') : ∃ e q i u ls, Bj s ps = some q ∧ Cu C.P e = some [A1 u] ∧ Ew (fun i => some (i * 1, 1)) (List.replicate len (A1 u)) q = some ls ∧
  Bp s (N0 + d) = true ∧ s' = (Aq s (N0 + d) ls).put (some d) (lf (.sb (N0 + d) i)) := by
 unfold Hw at h
 split at h
 ·rename_i e he
  split at h
  ·rename_i q z hq hz
   split at h
   ·rename_i ls hls
    split at h
    ·rename_i hc
     simp only [Bool.and_eq_true] at hc
     simp only [Oc.val] at h
     cases h
     obtain ⟨i, u, _, _, ez, _⟩ := Hq hz
     have : z ∈ u.cells.toList.map A1 := by rw [← ez]; simp
     obtain ⟨c, _, rfl⟩ := List.mem_map.1 this
     exact ⟨e, q, len, c, ls, hq, hz, hls, hc.1, rfl⟩
    ·cases h
   ·cases h
  ·cases h
 ·cases h
theorem Cj (hg : x.guard = none) : Ai (opD C) ops s x = opD C s x.dst x.op := by
 unfold Ai
 rw [hg]
theorem U7 (h : kk C x = .call) : opD C s x.dst x.op = opK2 C s x.dst x.op := by
 have h' : kkd C x.dst x.op = .call := h
 unfold opD; rw [h']
theorem U8 (h : kk C x = .store) : opD C s x.dst x.op = opK3 C s x.op := by
 have h' : kkd C x.dst x.op = .store := h
 unfold opD; rw [h']
theorem In (h : kk C x = .alloc) : opD C s x.dst x.op = opK4 C s x.dst x.op := by
 have h' : kkd C x.dst x.op = .alloc := h
 unfold opD; rw [h']
theorem As5 (h : kk C x = .row) : opD C s x.dst x.op = opE C s x.dst x.op := by
 have h' : kkd C x.dst x.op = .row := h
 unfold opD; rw [h']
theorem Pn {d : Nat} (h : d ∉ o.looksAt ops) : ∀ x ∈ o.op.operands, x ≠ .tmp d := by
 intro x hx e
 subst e
 exact h (List.mem_append_left _ (List.mem_filterMap.2 ⟨.tmp d, by simpa using hx, rfl⟩))
theorem Ar0 (h : ∀ d, y.dst = some d → d ∉ x.looksAt ops) : ∀ z ∈ x.op.operands, (s.put y.dst v).get z = s.get z := by
 intro z hz
 cases hd : y.dst with
 | none => rfl
 | some d => exact Ay (Pn (h d hd) z hz)
theorem Afp {v : AV} (o : Option St) : o.map (fun z => z.put none v) = o := by cases o <;> rfl
theorem h_call (hk : kk C x = .call) (hg : x.guard = none) (hfr : FrO C x s) (hc : A6 y.op = false) (hy : (isR y.op || (match y.op with | .load _ _ => true | _ => false)) = true) (hr : Fo C y (tB C x) = true)
  (a1 : ∀ d, y.dst = some d → d ∉ x.looksAt ops) (a2 : ∀ d, x.dst = some d → y.dst ≠ some d) (a3 : ∀ d, x.dst = some d → d ∉ y.looksAt ops) :
  (∀ v, Vg C ops y s = some v → (Ai (opD C) ops (s.put y.dst v) x).val = ((Ai (opD C) ops s x).val).map fun z => z.put y.dst (id v)) ∧
  (∀ s1, (Ai (opD C) ops s x).val = some s1 → Vg C ops y s1 = (Vg C ops y s).map id) := by
 obtain ⟨f, as, ts, d, W, ho, hd, hW⟩ := Asj hk
 have hmB : mkB C x = W.2.1 := by unfold mkB; rw [hk, hd]; simp only [hW]
 have hmO : mkO C x = W.2.2 := by unfold mkO; rw [hk, hd]; simp only [hW]
 have htB : tB C x = W.1.1 ++ W.2.1 := by unfold tB; rw [hk, hd]; simp only [hW]
 unfold FrO at hfr
 rw [hmB, hmO] at hfr
 constructor
 ·intro v hv
  rw [Cj hg, Cj hg, U7 hk, U7 hk, ho, hd]
  have hgs := Ar0 (x := x) (y := y) (s := s) (v := v) a1
  rw [ho] at hgs
  have e1 := hgs f (by simp [Op.operands, Call.operands])
  have e2 : as.toList.map (s.put y.dst v).get = as.toList.map s.get := List.map_congr_left fun z hz => hgs z (by simp [Op.operands, Call.operands]; exact .inr (Array.mem_def.2 hz))
  simp only [opK2, e1, e2, hW]
  cases Af (s.get f) with
  | none => rfl
  | some l =>
   cases l <;> first | rfl | skip
   simp only []
   cases hyd : y.dst with
   | none => exact (Afp _).symm
   | some e =>
    exact Qp (fun h => a2 d hd (by rw [hyd, h])) (fun n hn => ⟨hfr.1 n hn, L5 (Rb n) (hfr.1 n hn) hv⟩) (fun n hn => ⟨hfr.2 n hn, L5 (M2 n) (hfr.2 n hn) hv⟩) _
 ·intro s1 h1
  rw [Cj hg, U7 hk, ho, hd] at h1
  simp only [opK2, hW] at h1
  rw [Option.map_id]
  split at h1
  ·rename_i hWe
   cases hWe
   obtain ⟨⟨w, h2⟩, h3⟩ := Ay1 h1
   refine Qc hc (fun z hz => Aer h2 fun e => a3 d hd (hz d e)) ?_ hr (fun b hb => h3 b (by rw [← htB]; exact hb))
   rcases Bool.or_eq_true _ _ ▸ hy with hy | hy
   ·exact .inl hy
   ·refine .inr (.inl ?_)
    split at hy
    ·rename_i T a e; exact ⟨T, a, e⟩
    ·cases hy
  ·cases h1
theorem Ba8 {T n : Nat} {z : Operand} {e : Option Nat} (hn : ∀ q ∈ (Op.store T (.tmp n) z).operands, (s.put e v).get q = s.get q) :
  (opK3 C (s.put e v) (.store T (.tmp n) z)).val = ((opK3 C s (.store T (.tmp n) z)).val).map fun u => u.put e v := by
 have g1 := hn (.tmp n) (by simp [Op.operands])
 have g2 := hn z (by simp [Op.operands])
 have hbox : ∀ b, Aa (s.put e v) b = Aa s b := fun b => by cases e <;> rfl
 simp only [opK3, g1]
 cases Bi C.sr n with
 | none => rfl
 | some b =>
  cases hl : Af (s.get (.tmp n)) with
  | none => rfl
  | some l =>
   cases l <;> first | rfl | skip
   rename_i b' o'
   simp only []
   by_cases hb : b' = b
   ·rw [if_pos hb, if_pos hb]
    simp only [opE, g1, g2, hl]
    cases Dg (s.get z) with
    | none => rfl
    | some new =>
     cases A0 C.P T with
     | none => rfl
     | some m =>
      simp only [hbox]
      cases Aa s b' with
      | none => rfl
      | some ls =>
       simp only []
       split
       ·cases e <;> rfl
       ·rfl
   ·rw [if_neg hb, if_neg hb]; rfl
theorem As6 {T n b : Nat} {z : Operand} (hb : Bi C.sr n = some b) (h : (opK3 C s (.store T (.tmp n) z)).val = some s') :
  ∃ ls new, Dg (s.get z) = some new ∧ Aa s b = some ls ∧ ∃ k, s' = Aq s b (splice ls k new) := by
 simp only [opK3, hb] at h
 cases hl : Af (s.get (.tmp n)) with
 | none => rw [hl] at h; cases h
 | some l =>
  rw [hl] at h
  cases l <;> first | (cases h; done) | skip
  rename_i b' o'
  simp only [] at h
  split at h
  ·rename_i he
   subst he
   simp only [opE, hl] at h
   cases hn : Dg (s.get z) with
   | none => rw [hn] at h; cases h
   | some new =>
    rw [hn] at h
    cases hz : A0 C.P T with
    | none => rw [hz] at h; cases h
    | some m =>
     rw [hz] at h
     simp only [] at h
     cases hx : Aa s b' with
     | none => rw [hx] at h; cases h
     | some ls =>
      rw [hx] at h
      simp only [] at h
      split at h
      ·cases h; exact ⟨ls, new, rfl, rfl, o', rfl⟩
      ·cases h
  ·cases h
theorem h_store (hk : kk C x = .store) (hg : x.guard = none) (hc : A6 y.op = false) (hr : Fo C y (match x.op with | .store _ (.tmp n) _ => (match Bi C.sr n with | some b => [b] | none => []) | _ => []) = true)
  (a1 : ∀ d, y.dst = some d → d ∉ x.looksAt ops) :
  (∀ v, Vg C ops y s = some v → (Ai (opD C) ops (s.put y.dst v) x).val = ((Ai (opD C) ops s x).val).map fun z => z.put y.dst (id v)) ∧
  (∀ s1, (Ai (opD C) ops s x).val = some s1 → Vg C ops y s1 = (Vg C ops y s).map id) := by
 obtain ⟨T, n, z, b, ho, hd, hb⟩ := Asl hk
 constructor
 ·intro v hv
  rw [Cj hg, Cj hg, U8 hk, U8 hk, ho]
  have hgs := Ar0 (x := x) (y := y) (s := s) (v := v) a1
  rw [ho] at hgs
  exact Ba8 hgs
 ·intro s1 h1
  rw [Cj hg, U8 hk, ho] at h1
  obtain ⟨ls, new, _, _, k, rfl⟩ := As6 hb h1
  rw [Option.map_id]
  rw [ho] at hr
  simp only [hb] at hr
  refine Qc (bs := [b]) hc (fun z _ => by cases z <;> rfl) (.inr (.inr fun l => rfl)) hr fun c hcb => ?_
  simp only [Aa, Aq]
  rw [List.getElem?_set_ne (by simp at hcb; exact fun e => hcb e.symm)]
theorem Ag2 {d : Nat} {ls : List L} (h : Bp s (N0 + d) = true) : (Iy s d ls).val = some ((Aq s (N0 + d) ls).put (some d) (lf (.ptr (N0 + d) 0))) := by
 unfold Iy; rw [if_pos h]; rfl
theorem h_alloc (hk : kk C x = .alloc) (hg : x.guard = none) (hfr : FrO C x s) (hc : A6 y.op = false) (hr : Fo C y (tB C x) = true)
  (a1 : ∀ d, y.dst = some d → d ∉ x.looksAt ops) (a2 : ∀ d, x.dst = some d → y.dst ≠ some d) (a3 : ∀ d, x.dst = some d → d ∉ y.looksAt ops) :
  (∀ v, Vg C ops y s = some v → (Ai (opD C) ops (s.put y.dst v) x).val = ((Ai (opD C) ops s x).val).map fun z => z.put y.dst (id v)) ∧
  (∀ s1, (Ai (opD C) ops s x).val = some s1 → Vg C ops y s1 = (Vg C ops y s).map id) := by
 obtain ⟨T, d, ho, hd⟩ := U0 hk
 have hmB : mkB C x = [N0 + d] := by unfold mkB; rw [hk, hd]
 have htB : tB C x = [N0 + d] := by unfold tB; rw [hk, hd]
 have hf : s.all (L.noB (N0 + d)) = true := hfr.1 _ (by rw [hmB]; simp)
 constructor
 ·intro v hv
  rw [Cj hg, Cj hg, In hk, In hk, ho, hd]
  have hvn := L5 (Rb (N0 + d)) hf hv
  simp only [opK4]
  split
  ·rfl
  ·cases Cu C.P T with
   | none => rfl
   | some ls =>
    simp only []
    cases hyd : y.dst with
    | none => exact (Afp _).symm
    | some e =>
     have hne : e ≠ d := fun h => a2 d hd (by rw [hyd, h])
     unfold Iy
     rw [Ael hf hvn]
     split
     ·simp only [Oc.val, Option.map_some]
      congr 1
      show ((Aq s (N0 + d) ls).put (some e) v).put (some d) _ = _
      exact Ln fun k h1 h2 => hne (by cases h1; cases h2; rfl)
     ·rfl
 ·intro s1 h1
  rw [Cj hg, In hk, ho, hd] at h1
  simp only [opK4] at h1
  rw [Option.map_id]
  split at h1
  ·cases h1
  ·split at h1
   ·obtain ⟨_, rfl⟩ := J7 h1
    refine Qc (bs := [N0 + d]) hc (fun z hz => Aer (d := d) rfl fun e => a3 d hd (hz d e)) (.inr (.inr fun l => rfl)) (by rw [← htB]; exact hr) fun c hcb => ?_
    simp only [Aa, Aq, St.put]
    rw [List.getElem?_set_ne (by simp at hcb; exact fun e => hcb e.symm)]
   ·cases h1
theorem h_boxr (hk : kk C x = .boxr) (hg : x.guard = none) (hfr : FrO C x s) (hc : A6 y.op = false) (hr : Fo C y (tB C x) = true)
  (a1 : ∀ d, y.dst = some d → d ∉ x.looksAt ops) (a2 : ∀ d, x.dst = some d → y.dst ≠ some d) (a3 : ∀ d, x.dst = some d → d ∉ y.looksAt ops) :
  (∀ v, Vg C ops y s = some v → (Ai (opD C) ops (s.put y.dst v) x).val = ((Ai (opD C) ops s x).val).map fun z => z.put y.dst (id v)) ∧
  (∀ s1, (Ai (opD C) ops s x).val = some s1 → Vg C ops y s1 = (Vg C ops y s).map id) := by
 obtain ⟨T, len, ps, d, ho, hd⟩ := Asi hk
 have hmB : mkB C x = [N0 + d] := by unfold mkB; rw [hk, hd]
 have htB : tB C x = [N0 + d] := by unfold tB; rw [hk, hd]
 have hf : s.all (L.noB (N0 + d)) = true := hfr.1 _ (by rw [hmB]; simp)
 constructor
 ·intro v hv
  rw [Cj hg, Cj hg, U6 hk ho hd, U6 hk ho hd]
  have hvn := L5 (Rb (N0 + d)) hf hv
  have hgs : Bj (s.put y.dst v) ps.toList = Bj s ps.toList := by
   cases hyd : y.dst with
   | none => rfl
   | some e => exact Vh ps.toList fun z hz => Pn (a1 e hyd) z.2 (by rw [ho]; simp only [Op.operands]; exact List.mem_toArray.2 (List.mem_map.2 ⟨z, hz, rfl⟩))
  unfold Hw
  rw [hgs]
  cases A5 C.P T with
  | none => rfl
  | some e0 =>
   simp only []
   cases Bj s ps.toList with
   | none => rfl
   | some q =>
    cases hz : Cu C.P e0 with
    | none => rfl
    | some zl =>
     match zl with
     | [] => rfl
     | _ :: _ :: _ => rfl
     | [z] =>
      simp only []
      cases Ew (fun i => some (i * 1, 1)) (List.replicate len z) q with
      | none => rfl
      | some ls =>
       simp only []
       cases hyd : y.dst with
       | none => exact (Afp _).symm
       | some e =>
        have hne : e ≠ d := fun h => a2 d hd (by rw [hyd, h])
        rw [Ael hf hvn]
        split
        ·simp only [Oc.val, Option.map_some]
         congr 1
         show ((Aq s (N0 + d) ls).put (some e) v).put (some d) _ = _
         exact Ln fun k h1 h2 => hne (by cases h1; cases h2; rfl)
        ·rfl
 ·intro s1 h1
  rw [Cj hg, U6 hk ho hd] at h1
  rw [Option.map_id]
  obtain ⟨_, _, _, _, ls, _, _, _, _, rfl⟩ := Ahq h1
  refine Qc (bs := [N0 + d]) hc (fun z hz => Aer (d := d) rfl fun e => a3 d hd (hz d e)) (.inr (.inr fun l => rfl)) (by rw [← htB]; exact hr) fun c hcb => ?_
  simp only [Aa, Aq, St.put]
  rw [List.getElem?_set_ne (by simp at hcb; exact fun e => hcb e.symm)]
theorem Aez {f : L → L} {v : AV} : Af (v.map f) = (Af v).map f := by
 cases v with
 | dead => rfl
 | tup cs => rfl
 | cv c => cases c <;> rfl
theorem fD_pt {D : Nat → Bool} {q : Nat → Option PL} {l : L} : ptL (fD D q l) = ptL l ∧ ∀ r, ldL r (fD D q l) = ldL r l := by
 cases l with
 | own m => simp only [fD]; split; (split <;> exact ⟨rfl, fun _ => rfl⟩); exact ⟨rfl, fun _ => rfl⟩
 | ept m i o z => simp only [fD]; split <;> exact ⟨rfl, fun _ => rfl⟩
 | _ => exact ⟨rfl, fun _ => rfl⟩
theorem Bax {agg : Bool} {ls : List L} {f : L → L} : mkAV agg (ls.map f) = (mkAV agg ls).map (AV.map f) := by
 unfold mkAV
 cases agg with
 | true => rfl
 | false =>
  match ls with
  | [] => rfl
  | [l] => rfl
  | l :: m :: r => rfl
theorem load_gm {D : Nat → Bool} {q : Nat → Option PL} (g : ∀ b, Aa t b = (Aa s b).map (List.map (fD D q))) {n : Nat} {l : L} (hl : ptL l = true) : Bv t n l = (Bv s n l).map (List.map (fD D q)) := by
 cases l with
 | ptr b k =>
  simp only [Bv, g]
  cases Aa s b with
  | none => rfl
  | some ls =>
   simp only [Option.map_some, Option.bind_some, List.length_map]
   split
   ·simp
   ·rfl
 | rpt ps =>
  simp only [Bv]
  split
  ·simp only [Option.map_some]; rw [pvs_map]
  ·rfl
 | _ => cases hl
theorem Vv_gm {D : Nat → Bool} {q : Nat → Option PL} (hpt : isPt C y = true) (h : ∀ z ∈ y.op.operands, t.get z = (s.get z).map (fD D q)) (g : ∀ b, Aa t b = (Aa s b).map (List.map (fD D q))) : Vv C y t = (Vv C y s).map (AV.map (fD D q)) := by
 unfold isPt at hpt
 unfold Vv
 split at hpt
 ·rename_i z d ho hd
  rw [ho] at h ⊢
  rw [hd]
  have hz := h z (by simp [Op.operands])
  simp only [ldOk, opVD, opV, hz, if_true]
  rfl
 ·rename_i z d ho hd
  rw [ho] at h ⊢
  rw [hd]
  have hz := h z (by simp [Op.operands])
  simp only [ldOk, opVD, opV, hz, if_true]
  rfl
 ·rename_i T z d ho hd
  rw [ho] at h ⊢
  rw [hd]
  have hz := h z (by simp [Op.operands])
  obtain ⟨r, hr⟩ := Option.isSome_iff_exists.1 hpt
  simp only [ldOk, opVD, opV, hz, hr, Aez]
  cases Af (s.get z) with
  | none => rfl
  | some l =>
   simp only [Option.map_some, fD_pt.2]
   by_cases hL : ldL r l = true
   rotate_left
   ·rw [if_neg hL, if_neg hL]; rfl
   ·rw [if_pos hL, if_pos hL]
    have hp : ptL l = true := by cases l <;> first | rfl | cases hL
    have hfl : fD D q l = l := by cases l <;> first | rfl | cases hL
    simp only [hfl]
    cases A0 C.P T with
    | none => rfl
    | some n =>
     simp only []
     split
     ·simp only [Oc.val_ofOption, load_gm g hp]
      cases Bv s n l with
      | none => rfl
      | some ls => simp only [Option.map_some, Option.bind_some, Bax]
     ·rfl
 ·rename_i z d ho hd
  rw [ho] at h ⊢
  rw [hd]
  have hz := h z (by simp [Op.operands])
  obtain ⟨r, hr⟩ := Option.isSome_iff_exists.1 hpt
  simp only [ldOk, opVD, opV, hz, hr, Aez]
  cases Af (s.get z) with
  | none => rfl
  | some l =>
   cases l <;> first | rfl | skip
   all_goals simp only [Option.map_some, fD]; all_goals (repeat' split) <;> first | rfl | skip
   all_goals simp_all [ptL]
 ·rename_i S z f d ho hd
  rw [ho] at h ⊢
  rw [hd]
  have hz := h z (by simp [Op.operands])
  obtain ⟨r, hr⟩ := Option.isSome_iff_exists.1 hpt
  simp only [ldOk, opVD, opV, hz, hr, Aez]
  cases Af (s.get z) with
  | none => rfl
  | some l =>
   simp only [Option.map_some, fD_pt.1]
   by_cases hL : ptL l = true
   rotate_left
   ·rw [if_neg hL, if_neg hL]; rfl
   ·rw [if_pos hL, if_pos hL]
    cases l <;> first | (cases hL; done) | skip
    ·cases Jd C.P S f with
     | none => rfl
     | some k => rfl
    ·cases Jd C.P S f with
     | none => rfl
     | some k => rfl
 ·cases hpt
theorem Bcs {n e : Nat} {w : Option Own} : As (s.put (some e) v) n w = (As s n w).put (some e) v := rfl
theorem h_row (hk : kk C x = .row) (hg : x.guard = none) (hyg : y.guard = none) (hfr : FrO C x s) (hpt : isPt C y = true)
  (a1 : ∀ d, y.dst = some d → d ∉ x.looksAt ops) (a2 : ∀ d, x.dst = some d → y.dst ≠ some d) (a3 : ∀ d, x.dst = some d → d ∉ y.looksAt ops) : ∃ φ : AV → AV,
  (∀ v, Vg C ops y s = some v → (Ai (opD C) ops (s.put y.dst v) x).val = ((Ai (opD C) ops s x).val).map fun z => z.put y.dst (φ v)) ∧
  (∀ s1, (Ai (opD C) ops s x).val = some s1 → Vg C ops y s1 = (Vg C ops y s).map φ) := by
 obtain ⟨hE, d, hd⟩ := Ask hk
 have hmO : mkO C x = [N0 + d] := by unfold mkO; rw [hk, hd]
 have hf : s.all (L.noO (N0 + d)) = true := hfr.2 _ (by rw [hmO]; simp)
 have hstep : ∀ u : St, (Ai (opD C) ops u x).val = (Fl C.P u x.op).bind fun z => (B4 (z.1 u) d z.2).val := fun u => by
  rw [Cj hg, As5 hk, hd]
  exact Atw hE
 obtain ⟨e, hyd⟩ : ∃ e, y.dst = some e := by
  unfold isPt at hpt
  split at hpt <;> first | (cases hpt; done) | (rename_i hh; exact ⟨_, hh⟩)
 have hne : e ≠ d := fun h => a2 d hd (by rw [hyd, h])
 have hVg : ∀ u : St, Vg C ops y u = Vv C y u := fun u => by unfold Vg; rw [hyg]
 cases hpl : Fl C.P s x.op with
 | none =>
  refine ⟨id, fun v hv => ?_, fun s1 h1 => ?_⟩
  ·rw [hstep, hstep, hyd, Atv hE (Pn (a1 e hyd)), hpl]; rfl
  ·rw [hstep, hpl] at h1; cases h1
 | some gw =>
  obtain ⟨g, w⟩ := gw
  obtain ⟨D, q, gm, gp⟩ := Atu hpl s
  dsimp only at gm gp
  have hgf := Ar2 (M2 (N0 + d)) gm hf
  refine ⟨AV.map (fD D q), fun v hv => ?_, fun s1 h1 => ?_⟩
  ·rw [hstep, hstep, hyd, Atv hE (Pn (a1 e hyd)), hpl]
   simp only [Option.bind_some]
   rw [gp e v]
   have hvn : (v.map (fD D q)).all (L.noO (N0 + d)) = true := Ag6 (fun l hl => W3 (M2 _) hl) (L5 (M2 (N0 + d)) hf hv)
   unfold B4
   rw [Aq6 hgf hvn]
   split
   ·simp only [Oc.val, Option.map_some]
    congr 1
    rw [Bcs]
    exact Ln fun k h1 h2 => hne (by cases h1; cases h2; rfl)
   ·rfl
  ·rw [hstep, hpl] at h1
   simp only [Option.bind_some] at h1
   obtain ⟨_, rfl⟩ := Ht h1
   rw [hVg, hVg]
   refine Vv_gm hpt (fun z hz => ?_) fun b => ?_
   ·rw [Ay (Pn (a3 d hd) z hz)]
    exact gm_get (t := g s) gm z
   ·exact Bag (t := g s) gm b
theorem comm_al {x y : Oper} (hy : kk C y = .alloc) (hx : kk C x = .alloc) (gy : y.guard = none) (gx : x.guard = none) (fx : FrO C x s) (a2 : ∀ d, x.dst = some d → y.dst ≠ some d) {s1 s2 : St}
  (h1 : (Ai (opD C) ops s y).val = some s1) (h2 : (Ai (opD C) ops s1 x).val = some s2) : ∃ s3, (Ai (opD C) ops s x).val = some s3 ∧ (Ai (opD C) ops s3 y).val = some s2 := by
 obtain ⟨T, d, ho, hd⟩ := U0 hy
 obtain ⟨U, e, ho2, he⟩ := U0 hx
 have hne : d ≠ e := fun h => a2 e he (by rw [hd, h])
 have hmB : mkB C x = [N0 + e] := by unfold mkB; rw [hx, he]
 have hf : s.all (L.noB (N0 + e)) = true := fx.1 _ (by rw [hmB]; simp)
 rw [Cj gy, In hy, ho, hd] at h1
 rw [Cj gx, In hx, ho2, he] at h2
 simp only [opK4] at h1 h2
 split at h1
 ·cases h1
 rename_i hb1
 split at h2
 ·cases h2
 rename_i hb2
 split at h1
 rotate_left
 ·cases h1
 rename_i ls hz
 split at h2
 rotate_left
 ·cases h2
 rename_i ls2 hz2
 obtain ⟨f1, rfl⟩ := J7 h1
 obtain ⟨f2, rfl⟩ := J7 h2
 have hn : N0 + d ≠ N0 + e := fun h => hne (Nat.add_left_cancel h)
 have fe : Bp s (N0 + e) = true := by
  unfold Bp at f2 ⊢
  rw [Bool.and_eq_true] at f2 ⊢
  refine ⟨?_, hf⟩
  have := f2.1
  simp only [Aq, St.put] at this
  rwa [List.getElem?_set_ne hn] at this
 refine ⟨(Aq s (N0 + e) ls2).put (some e) (lf (.ptr (N0 + e) 0)), ?_, ?_⟩
 ·rw [Cj gx, In hx, ho2, he]
  simp only [opK4]
  rw [if_neg hb2]
  simp only [hz2]
  exact Ag2 fe
 ·rw [Cj gy, In hy, ho, hd]
  simp only [opK4]
  rw [if_neg hb1]
  simp only [hz]
  have fd : Bp ((Aq s (N0 + e) ls2).put (some e) (lf (.ptr (N0 + e) 0))) (N0 + d) = true := by
   unfold Bp at f1 ⊢
   rw [Bool.and_eq_true] at f1 ⊢
   refine ⟨?_, Ei (Qf f1.2 fun l hl => ?_) (Br (by simp [L.noB]; exact fun e => hne e.symm))⟩
   ·simp only [Aq, St.put]
    rw [List.getElem?_set_ne (Ne.symm hn)]
    exact f1.1
   ·obtain ⟨i, u, _, _, rfl, _⟩ := Hq hz2
    obtain ⟨u, _, rfl⟩ := List.mem_map.1 hl
    exact M5 _ u
  rw [Ag2 fd]
  congr 1
  show (((Aq (Aq s (N0 + e) ls2) (N0 + d) ls).put (some e) _).put (some d) _) = (((Aq (Aq s (N0 + d) ls) (N0 + e) ls2).put (some d) _).put (some e) _)
  rw [Ln (x := some e) (y := some d) fun k h1 h2 => hne (by cases h1; cases h2; rfl)]
  congr 2
  simp only [Aq]
  congr 1
  exact List.set_comm _ _ (fun e => hn e.symm)
theorem Afg (hp : Clo p) (hal : (isNo C x && !isV x.op) = false) (hs : s.all p = true) (hB : ∀ b ∈ tB C x, (∀ k, p (.ptr b k) = true) ∧ ∀ t z, p (.bld b t z) = true) (hO : ∀ l ∈ tO C x, p (.own l) = true)
  (h : (opD C s x.dst x.op).val = some s') : s'.all p = true := by
 cases hk : kk C x with
 | no =>
  have hk' : kkd C x.dst x.op = .no := hk
  have hno : isNo C x = true := by unfold isNo; rw [hk]
  rw [hno] at hal
  have hv : isV x.op = true := by simpa using hal
  unfold opD at h
  rw [hk'] at h
  simp only [opDn] at h
  rw [if_pos hv] at h
  split at h
  ·cases h
  ·split at h
   ·rename_i hl
    rw [Oc.val_bind] at h
    obtain ⟨v, h1, h2⟩ := Option.bind_eq_some_iff.1 h
    cases h2
    have : Vv C x s = some v := by unfold Vv; rw [if_pos hl]; exact h1
    exact Ei hs (Ag0 hp hs this)
   ·cases h
 | call =>
  obtain ⟨f, as, ts, d, W, ho, hd, hW⟩ := Asj hk
  have htB : tB C x = W.1.1 ++ W.2.1 := by unfold tB; rw [hk, hd]; simp only [hW]
  have htO : tO C x = W.1.2 ++ W.2.2 := by unfold tO; rw [hk, hd]; simp only [hW]
  rw [htB] at hB
  rw [htO] at hO
  rw [U7 hk, ho, hd] at h
  simp only [opK2, hW] at h
  split at h
  ·rename_i hWe
   cases hWe
   exact Ay0 hp h hs (fun b hb => (hB b hb).1) (fun b hb => (hB b hb).2) hO
  ·cases h
 | store =>
  obtain ⟨T, n, z, b, ho, hd, hb⟩ := Asl hk
  rw [U8 hk, ho] at h
  obtain ⟨ls, new, h1, h2, k, rfl⟩ := As6 hb h
  refine Qf hs fun l hl => ?_
  simp only [splice, List.mem_append] at hl
  rcases hl with (hl | hl) | hl
  ·exact Hu hs h2 l (List.mem_of_mem_take hl)
  ·exact Ah5 hp hs h1 l hl
  ·exact Hu hs h2 l (List.mem_of_mem_drop hl)
 | alloc =>
  obtain ⟨T, d, ho, hd⟩ := U0 hk
  have htB : tB C x = [N0 + d] := by unfold tB; rw [hk, hd]
  rw [In hk, ho, hd] at h
  simp only [opK4] at h
  split at h
  ·cases h
  ·split at h
   ·rename_i ls hz
    obtain ⟨_, rfl⟩ := J7 h
    refine Ei (Qf hs fun l hl => ?_) (Br ((hB (N0 + d) (by rw [htB]; simp)).1 0))
    obtain ⟨i, u, _, _, rfl, _⟩ := Hq hz
    obtain ⟨u, _, rfl⟩ := List.mem_map.1 hl
    exact Ra hp u
   ·cases h
 | row =>
  obtain ⟨hE, d, hd⟩ := Ask hk
  have htO : tO C x = [N0 + d] := by unfold tO; rw [hk, hd]
  rw [As5 hk, hd, Atw hE] at h
  obtain ⟨⟨g, w⟩, p1, p2⟩ := Option.bind_eq_some_iff.1 h
  obtain ⟨_, rfl⟩ := Ht p2
  obtain ⟨D, q, gm, _⟩ := Atu p1 s
  exact Ei (Ahb (Ar2 hp gm hs)) (Br (hO (N0 + d) (by rw [htO]; simp)))
 | boxr =>
  obtain ⟨T, len, ps, d, ho, hd⟩ := Asi hk
  have htB : tB C x = [N0 + d] := by unfold tB; rw [hk, hd]
  rw [U6 hk ho hd] at h
  obtain ⟨_, q, _, u, ls, hq, _, hls, _, rfl⟩ := Ahq h
  refine Ei (Qf hs fun l hl => ?_) (Br (hp.sb _ 0 _ ((hB (N0 + d) (by rw [htB]; simp)).1 0)))
  rcases Z3 _ _ _ _ hls l hl with h3 | ⟨z, hz, h3⟩
  ·rw [List.eq_of_mem_replicate h3]
   exact Ra hp u
  ·exact Wa hp hs _ _ hq z hz l h3
theorem Ata (hp : Clo p) (hal : (isNo C x && !isV x.op) = false) (hs : s.all p = true) (hB : ∀ b ∈ tB C x, (∀ k, p (.ptr b k) = true) ∧ ∀ t z, p (.bld b t z) = true) (hO : ∀ l ∈ tO C x, p (.own l) = true)
  (h : (Ai (opD C) ops s x).val = some s') : s'.all p = true := by
 unfold Ai at h
 split at h
 ·exact Afg hp hal hs hB hO h
 ·split at h
  ·rename_i g _
   split at h
   ·rename_i c _
    have ht : ∀ b, (s.put (some g) (lf (pvB b))).all p = true := fun b => Ei hs (Br (hp.pv _))
    have hu : ∀ b, ((s.put (some g) (lf (pvB b))).put x.dst (.tup [])).all p = true := fun b => Ei (ht b) rfl
    split at h
    ·simp only [Oc.val] at h
     cases c
     ·cases h; exact hu _
     ·exact Afg hp hal (ht _) hB hO h
    ·simp only [Oc.val] at h
     cases c
     ·exact Afg hp hal (ht _) hB hO h
     ·cases h; exact hu _
   ·split at h
    ·cases h; exact Ei hs rfl
    ·cases h
  ·cases h
theorem Aio {a b : List Nat} (h : disj a b = true) {x : Nat} (hx : x ∈ a) : x ∉ b := by
 have := List.all_eq_true.1 h x hx
 simpa using this
theorem fr_step (ha : Ej C x y = true) (hf : FrO C y s) (h : (Ai (opD C) ops s x).val = some s') : FrO C y s' := by
 unfold Ej at ha
 simp only [Bool.and_eq_true] at ha
 obtain ⟨h1, h2, h3⟩ := ha
 cases hal : (isNo C x && !isV x.op) with
 | true =>
  rw [hal] at h1
  simp only [Bool.not_true, Bool.false_or, Bool.and_eq_true, List.isEmpty_iff] at h1
  unfold FrO
  rw [h1.1, h1.2]
  exact ⟨by simp, by simp⟩
 | false =>
  refine ⟨fun n hn => Ata (Rb n) hal (hf.1 n hn) (fun b hb => ?_) (fun l hl => rfl) h, fun n hn => Ata (M2 n) hal (hf.2 n hn) (fun b hb => ⟨fun _ => rfl, fun _ _ => rfl⟩) (fun l hl => ?_) h⟩
  ·have : b ≠ n := fun e => Aio h2 hb (by rw [e]; exact hn)
   exact ⟨fun _ => by simpa [L.noB] using this, fun _ _ => by simpa [L.noB] using this⟩
  ·have : l ≠ n := fun e => Aio h3 hl (by rw [e]; exact hn)
   simpa [L.noO] using this
theorem pair_sw (h : Jp C ops y x = true) (fy : FrO C y s) (fx : FrO C x s) {s1 s2 : St}
  (h1 : (Ai (opD C) ops s y).val = some s1) (h2 : (Ai (opD C) ops s1 x).val = some s2) : ∃ s3, (Ai (opD C) ops s x).val = some s3 ∧ (Ai (opD C) ops s3 y).val = some s2 := by
 unfold Jp at h
 rw [Bool.and_eq_true] at h
 obtain ⟨h0, hap⟩ := h
 obtain ⟨a1, a2, a3⟩ := Oper.apart_spec hap
 have hbes : ∀ {y x : Oper}, beside C y x = true → FrO C x s → (∀ d, y.dst = some d → d ∉ x.looksAt ops) → (∀ d, x.dst = some d → y.dst ≠ some d) → (∀ d, x.dst = some d → d ∉ y.looksAt ops) →
   kk C y = .no ∧ isV y.op = true ∧ A6 y.op = false ∧ ∃ φ : AV → AV, (∀ v, Vg C ops y s = some v → (Ai (opD C) ops (s.put y.dst v) x).val = ((Ai (opD C) ops s x).val).map fun z => z.put y.dst (φ v)) ∧
   (∀ s1, (Ai (opD C) ops s x).val = some s1 → Vg C ops y s1 = (Vg C ops y s).map φ) := by
  intro y x hb fx b1 b2 b3
  unfold beside at hb
  simp only [Bool.and_eq_true, Bool.not_eq_true'] at hb
  obtain ⟨k1, k2, k3, k4⟩ := hb
  refine ⟨Aev k1, k2, k3, ?_⟩
  split at k4
  ·cases k4
  ·rename_i hk
   simp only [Bool.and_eq_true, Option.isNone_iff_eq_none] at k4
   exact ⟨id, h_call hk k4.1 fx k3 k4.2.1 k4.2.2 b1 b2 b3⟩
  ·rename_i hk
   simp only [Bool.and_eq_true, Option.isNone_iff_eq_none] at k4
   exact ⟨id, h_store hk k4.1 k3 k4.2 b1⟩
  ·rename_i hk
   simp only [Bool.and_eq_true, Option.isNone_iff_eq_none] at k4
   exact ⟨id, h_alloc hk k4.1 fx k3 k4.2 b1 b2 b3⟩
  ·rename_i hk
   simp only [Bool.and_eq_true, Option.isNone_iff_eq_none] at k4
   exact h_row hk k4.1 k4.2.1 fx k4.2.2 b1 b2 b3
  ·rename_i hk
   simp only [Bool.and_eq_true, Option.isNone_iff_eq_none] at k4
   exact ⟨id, h_boxr hk k4.1 fx k3 k4.2 b1 b2 b3⟩
 have a2' : ∀ d, x.dst = some d → y.dst ≠ some d := fun d hd he => a2 d he hd
 rw [Bool.or_eq_true, Bool.or_eq_true, Bool.or_eq_true] at h0
 rcases h0 with h0 | h0 | h0 | h0
 ·simp only [Bool.and_eq_true] at h0
  obtain ⟨⟨n1, w1⟩, n2, w2⟩ := h0
  obtain ⟨v1, c1⟩ := Asd w1
  obtain ⟨v2, c2⟩ := Asd w2
  exact Bc5 (Aev n1) (Aev n2) v1 v2 c1 c2 hap h1 h2
 ·obtain ⟨k1, k2, k3, φ, H1, H2⟩ := hbes h0 fx a1 a2' a3
  exact sw_gen1 k1 k2 k3 H1 H2 h1 h2
 ·obtain ⟨k1, k2, k3, φ, H1, H2⟩ := hbes h0 fy a3 a2 a1
  exact sw_gen2 k1 k2 k3 H1 H2 h1 h2
 ·unfold twoAl at h0
  split at h0
  ·rename_i ky kx
   simp only [Bool.and_eq_true, Option.isNone_iff_eq_none] at h0
   exact comm_al ky kx h0.1 h0.2 fx a2' h1 h2
  ·cases h0
end
section
variable {C : Cfg} {F : Nat → Prop} {s s' : St} {G : Gm} {a : Act} {w w' : World}
def stp (C : Cfg) (ops : Array Oper) (j : Nat) (s : St) : Option St :=
 match ops[j]? with
 | some o => (Ai (opD C) ops s o).val
 | none => some s
def fld (C : Cfg) (ops : Array Oper) : List Nat → St → Option St
 | [], s => some s
 | j :: r, s => (stp C ops j s).bind (fld C ops r)
theorem Am0 (ops : Array Oper) : ∀ (l : List Oper) (i : Nat) (s : St), (∀ (j : Nat) (o : Oper), l[j]? = some o → ops[i + j]? = some o) →
  l.foldl (fun x o => x.bind fun s => (Ai (opD C) ops s o).val) (some s) = fld C ops (List.range' i l.length) s
 | [], i, s, h => rfl
 | o :: l, i, s, h => by
  have h0 : ops[i]? = some o := by simpa using h 0 o rfl
  simp only [List.foldl_cons, Option.bind_some, List.length_cons, List.range'_succ, fld, stp, h0]
  cases h1 : (Ai (opD C) ops s o).val with
  | none => exact Am1 ops l
  | some s1 =>
   simp only [Option.bind_some]
   exact Am0 ops l (i + 1) s1 fun j o' hj => by
    have := h (j + 1) o' (by simpa using hj)
    rwa [show i + (j + 1) = i + 1 + j by omega] at this
theorem Aa1 (ops : Array Oper) : ∀ (x y : List Nat) (s : St), fld C ops (x ++ y) s = (fld C ops x s).bind (fld C ops y)
 | [], y, s => rfl
 | j :: x, y, s => by
  simp only [List.cons_append, fld]
  cases h : stp C ops j s with
  | none => rfl
  | some s1 => simp only [Option.bind_some]; exact Aa1 ops x y s1
def FrA (C : Cfg) (ops : Array Oper) (j : Nat) (s : St) : Prop := ∀ o, ops[j]? = some o → FrO C o s
def Ap (C : Cfg) (ops : Array Oper) (j i : Nat) : Prop := ∀ y x, ops[j]? = some y → ops[i]? = some x → Ej C y x = true
theorem Agk {ops : Array Oper} {j i : Nat} {s s1 : St} (ha : Ap C ops j i) (hf : FrA C ops i s) (h : stp C ops j s = some s1) : FrA C ops i s1 := by
 intro o ho
 unfold stp at h
 split at h
 ·rename_i y hy
  exact fr_step (ha y o hy ho) (hf o ho) h
 ·cases h; exact hf o ho
def Sw (C : Cfg) (ops : Array Oper) (j i : Nat) : Prop := ∀ s s1 s2, FrA C ops j s → FrA C ops i s → stp C ops j s = some s1 → stp C ops i s1 = some s2 → ∃ s3, stp C ops i s = some s3 ∧ stp C ops j s3 = some s2
theorem Alw (ops : Array Oper) {i : Nat} : ∀ (x : List Nat) (s s' : St), (∀ j ∈ x, Sw C ops j i) → (∀ j ∈ x, FrA C ops j s) → FrA C ops i s → (x ++ [i]).Pairwise (Ap C ops) → fld C ops (x ++ [i]) s = some s' → fld C ops (i :: x) s = some s'
 | [], s, s', h, hx, hi, hp, hf => hf
 | j :: x, s, s', h, hx, hi, hp, hf => by
  simp only [List.cons_append, fld] at hf
  rw [List.cons_append, List.pairwise_cons] at hp
  obtain ⟨s1, h1, h2⟩ := Option.bind_eq_some_iff.1 hf
  have h3 := Alw ops x s1 s' (fun k hk => h k (by simp [hk])) (fun k hk => Agk (hp.1 k (by simp [hk])) (hx k (by simp [hk])) h1) (Agk (hp.1 i (by simp)) hi h1) hp.2 h2
  simp only [fld] at h3
  obtain ⟨s2, h4, h5⟩ := Option.bind_eq_some_iff.1 h3
  obtain ⟨s3, h6, h7⟩ := h j (by simp) s s1 s2 (hx j (by simp)) hi h1 h4
  simp only [fld, h6, h7, Option.bind_some]
  exact h5
def Deps (L : Nat → Prop) (o : Oper) : Prop := ∀ e ∈ o.after.toList, Region.binds .any e = true → L e.on
theorem Asz {x y : Nat} {l : List Nat} (h : y ∈ insN x l) : y = x ∨ y ∈ l := by
 unfold insN at h
 split at h
 ·exact .inr h
 ·simpa using h
theorem Asy {y : Nat} : ∀ {x l : List Nat}, y ∈ Qd x l → y ∈ x ∨ y ∈ l
 | [], l, h => .inr h
 | z :: x, l, h => by
  simp only [Qd] at h
  rcases Asy h with h | h
  ·exact .inl (by simp [h])
  ·rcases Asz h with h | h
   ·exact .inl (by simp [h])
   ·exact .inr h
theorem Ae3 {L : Nat → Prop} {acc : List (List Nat)} (hacc : ∀ (i : Nat) (l : List Nat), L i → acc[i]? = some l → ∀ j ∈ l, L j) {j : Nat} :
  ∀ (es : List Edge), (∀ e ∈ es, Region.binds .any e = true → L e.on) → j ∈ L9 acc es → L j
 | [], h, hj => by cases hj
 | e :: r, h, hj => by
  simp only [L9] at hj
  split at hj
  ·rename_i hb
   rcases Asz hj with hj | hj
   ·rw [hj]; exact h e (by simp) hb
   ·rcases Asy hj with hj | hj
    ·cases he : acc[e.on]? with
     | none => rw [List.getD_eq_getElem?_getD, he] at hj; cases hj
     | some l =>
      rw [List.getD_eq_getElem?_getD, he] at hj
      exact hacc e.on l (h e (by simp) hb) he j hj
    ·exact Ae3 hacc r (fun e he => h e (by simp [he])) hj
  ·exact Ae3 hacc r (fun e he => h e (by simp [he])) hj
theorem Ahe {L : Nat → Prop} (all : Array Oper) (hcl : ∀ (i : Nat) (o : Oper), all[i]? = some o → L i → Deps L o) :
  ∀ (l : List Oper) (acc : List (List Nat)), (∀ (j : Nat) (o : Oper), l[j]? = some o → all[acc.length + j]? = some o) →
  (∀ (i : Nat) (o : Oper) (x : List Nat), all[i]? = some o → acc[i]? = some x → Deps L o → ∀ j ∈ x, L j) → (acc.length ≤ all.size) →
  ∀ (i : Nat) (o : Oper) (x : List Nat), all[i]? = some o → (ancs l acc)[i]? = some x → Deps L o → ∀ j ∈ x, L j
 | [], acc, hl, hacc, hle => hacc
 | o :: l, acc, hl, hacc, hle => by
  simp only [ancs]
  have h0 : all[acc.length]? = some o := by simpa using hl 0 o rfl
  have hlt := (Array.getElem?_eq_some_iff.1 h0).1
  refine Ahe all hcl l _ (fun j o' hj => ?_) (fun i o' x hi hx hD j hj => ?_) ?_
  ·have := hl (j + 1) o' (by simpa using hj)
   rw [List.length_append, List.length_singleton]
   rwa [show acc.length + (j + 1) = acc.length + 1 + j by omega] at this
  ·rcases Nat.lt_or_ge i acc.length with hlt | hge
   ·rw [List.getElem?_append_left hlt] at hx
    exact hacc i o' x hi hx hD j hj
   ·rw [List.getElem?_append_right hge] at hx
    cases hk : i - acc.length with
    | zero =>
     rw [hk] at hx
     simp at hx
     subst hx
     have hie : i = acc.length := by omega
     rw [hie, h0] at hi
     cases hi
     refine Ae3 (L := L) (fun i' l' hL hl' j' hj' => ?_) o.after.toList hD hj
     have hi' : i' < acc.length := (List.getElem?_eq_some_iff.1 hl').1
     cases ho' : all[i']? with
     | none => rw [Array.getElem?_eq_none_iff] at ho'; omega
     | some o2 => exact hacc i' o2 l' ho' hl' (hcl i' o2 ho' hL) j' hj'
    | succ n => rw [hk] at hx; simp at hx
  ·rw [List.length_append, List.length_singleton]; omega
theorem Ais : ∀ (l : List Oper) (i : Nat), Sb l i = true → ∀ (j : Nat) (o : Oper), l[j]? = some o → ∀ e ∈ o.after.toList, Region.binds .any e = true → e.on < i + j
 | [], i, h, j, o, hj => by simp at hj
 | o :: l, i, h, j, o', hj => by
  simp only [Sb, Bool.and_eq_true] at h
  cases j with
  | zero =>
   simp at hj
   subst hj
   intro e he hb
   have := List.all_eq_true.1 h.1 e he
   simpa [hb] using this
  | succ n =>
   intro e he hb
   have := Ais l (i + 1) h.2 n o' (by simpa using hj) e he hb
   omega
theorem Atj {ops : Array Oper} {x : Oper} {an : List Nat} : ∀ (l : List Oper) (j : Nat), Ve C ops x an l j = true → ∀ (k : Nat) (y : Oper), l[k]? = some y → Ej C y x = true ∧ ((j + k) ∈ an ∨ (Jp C ops y x = true ∧ Ej C x y = true))
 | [], j, h, k, y, hk => by simp at hk
 | z :: l, j, h, k, y, hk => by
  simp only [Ve, Bool.and_eq_true, Bool.or_eq_true] at h
  cases k with
  | zero =>
   simp at hk
   subst hk
   refine ⟨h.1.1, ?_⟩
   rcases h.1.2 with h1 | h1
   ·exact .inl (by simpa using h1)
   ·exact .inr h1
  | succ n =>
   have h1 := Atj l (j + 1) h.2 n y (by simpa using hk)
   rwa [show j + 1 + n = j + (n + 1) by omega] at h1
theorem Atk {ops : Array Oper} {an : List (List Nat)} : ∀ (l done : List Oper) (i : Nat), done.length = i → Vf C ops an done l i = true →
  ∀ (k : Nat) (x : Oper) (j : Nat) (y : Oper), l[k]? = some x → j < i + k → (done ++ l)[j]? = some y → Ej C y x = true ∧ (j ∈ an.getD (i + k) [] ∨ (Jp C ops y x = true ∧ Ej C x y = true))
 | [], done, i, hi, h, k, x, j, y, hk => by simp at hk
 | z :: l, done, i, hi, h, k, x, j, y, hk => by
  intro hj hy
  simp only [Vf, Bool.and_eq_true] at h
  cases k with
  | zero =>
   simp at hk
   subst hk
   rw [List.getElem?_append_left (by omega)] at hy
   have := Atj done 0 h.1 j y hy
   simpa using this
  | succ n =>
   have := Atk l (done ++ [z]) (i + 1) (by simp [hi]) h.2 n x j y (by simpa using hk) (by omega) (by simpa using hy)
   rwa [show i + (n + 1) = i + 1 + n by omega]
theorem Bc9 {ops : Array Oper} {i j : Nat} {x y : Oper} (hy : ops[j]? = some y) (hx : ops[i]? = some x) (h : Jp C ops y x = true) : Sw C ops j i := by
 intro s s1 s2 f1 f2 h1 h2
 simp only [stp, hy, hx] at h1 h2 ⊢
 exact pair_sw h (f1 y hy) (f2 x hx) h1 h2
def unl (n : Nat) (listed : Array Bool) : List Nat := (List.range n).filter fun j => !listed.getD j true
theorem unl_set {n i : Nat} {listed : Array Bool} (hi : i ∈ unl n listed) : ∃ pre post, unl n listed = pre ++ i :: post ∧ (∀ j ∈ pre, j < i) ∧ unl n (listed.setIfInBounds i true) = pre ++ post := by
 obtain ⟨pre, post, h⟩ := List.append_of_mem hi
 have hp : (unl n listed).Pairwise (· < ·) := List.pairwise_lt_range.filter _
 rw [h, List.pairwise_append] at hp
 obtain ⟨h1, h2, h3⟩ := hp
 rw [List.pairwise_cons] at h2
 have hpre : ∀ j ∈ pre, j < i := fun j hj => h3 j hj i (by simp)
 refine ⟨pre, post, h, hpre, ?_⟩
 have e : unl n (listed.setIfInBounds i true) = (unl n listed).filter (fun j => decide (j ≠ i)) := by
  unfold unl
  rw [List.filter_filter]
  apply List.filter_congr
  intro j hj
  by_cases hji : j = i
  ·subst hji
   rw [Array.getD_eq_getD_getElem?, Array.getElem?_setIfInBounds]
   simp
   split <;> rfl
  ·rw [getD_set_ne true (Ne.symm hji)]
   simp [hji]
 rw [e, h, List.filter_append, List.filter_cons_of_neg (by simp), List.filter_eq_self.2, List.filter_eq_self.2]
 ·intro j hj; have := h2.1 j hj; simp; omega
 ·intro j hj; have := hpre j hj; simp; omega
theorem Lg {n i : Nat} {listed : Array Bool} : i ∈ unl n listed ↔ i < n ∧ listed.getD i true = false := by
 simp [unl]
theorem Ary {listed : Array Bool} {i : Nat} (hi : i < listed.size) (b : Bool) : listed.getD i b = listed.getD i true := by
 simp [Array.getD_eq_getD_getElem?, Array.getElem?_eq_getElem hi]
theorem any_ok (hE : Ba C) {ops : Array Oper} (hc : commutes C ops = true) {sf : St} (Q : Exit → Act → World → Prop) :
  ∀ (fuel : Nat) (listed : Array Bool) (s : St) (G : Gm) (a : Act) (w : World), listed.size = ops.size → (unl ops.size listed).length ≤ fuel →
  (∀ (i : Nat) (o : Oper), ops[i]? = some o → listed.getD i false = true → Deps (fun j => listed.getD j false = true) o) →
  (∀ j ∈ unl ops.size listed, FrA C ops j s) → Holds F s G a.tmps.toList w → fld C ops (unl ops.size listed) s = some sf →
  (∀ G' a' w', Holds F sf G' a'.tmps.toList w' → Step N0 N0 s G w sf G' w' → a'.defers = a.defers → Q .normal a' w') →
  wpAny C.P .any ops Q fuel listed a w := by
 intro fuel
 simp only [commutes, Bool.and_eq_true] at hc
 have hend : ∀ (listed : Array Bool) (s : St) (G : Gm) (a : Act) (w : World), listed.size = ops.size →
   Holds F s G a.tmps.toList w → fld C ops (unl ops.size listed) s = some sf →
   (∀ G' a' w', Holds F sf G' a'.tmps.toList w' → Step N0 N0 s G w sf G' w' → a'.defers = a.defers → Q .normal a' w') →
   Region.ready .any ops listed = [] → Q .normal a w := by
  intro listed s G a w hs hH hf hQ hr
  cases hu : unl ops.size listed with
  | nil =>
   rw [hu] at hf
   cases hf
   exact hQ G a w hH (Step.refl _ _ _ _ _) rfl
  | cons i r =>
   exfalso
   have hi : i ∈ unl ops.size listed := by rw [hu]; simp
   obtain ⟨hlt, hun⟩ := Lg.1 hi
   have : i ∈ Region.ready .any ops listed := by
    refine mem_ready.2 ⟨hun, ops[i], Array.getElem?_eq_getElem hlt, fun e he hb => ?_⟩
    have h1 := Ais ops.toList 0 hc.1 i ops[i] (by simp [hlt]) e (by simpa using he) hb
    cases hL : listed.getD e.on false with
    | true => rfl
    | false =>
     exfalso
     have h2 : e.on ∈ unl ops.size listed := Lg.2 ⟨by omega, by rw [← Ary (by omega) false]; exact hL⟩
     have hp : (unl ops.size listed).Pairwise (· < ·) := List.pairwise_lt_range.filter _
     rw [hu, List.pairwise_cons] at hp
     rw [hu] at h2
     rcases List.mem_cons.1 h2 with h3 | h3
     ·omega
     ·have := hp.1 _ h3; omega
   rw [hr] at this
   cases this
 induction fuel with
 | zero =>
  intro listed s G a w hs hle hcl hfr hH hf hQ
  have hr : Region.ready .any ops listed = [] := by
   apply List.eq_nil_iff_forall_not_mem.2
   intro i hi
   obtain ⟨h1, o, ho, _⟩ := mem_ready.1 hi
   have : i ∈ unl ops.size listed := Lg.2 ⟨(Array.getElem?_eq_some_iff.1 ho).1, h1⟩
   rw [List.eq_nil_of_length_eq_zero (by omega : (unl ops.size listed).length = 0)] at this
   cases this
  exact ⟨hr, hend listed s G a w hs hH hf hQ hr⟩
 | succ fuel ih =>
  intro listed s G a w hs hle hcl hfr hH hf hQ
  refine ⟨hend listed s G a w hs hH hf hQ, fun i hi => ?_⟩
  obtain ⟨hun, o, ho, hdeps⟩ := mem_ready.1 hi
  have hlt := (Array.getElem?_eq_some_iff.1 ho).1
  have hmem : i ∈ unl ops.size listed := Lg.2 ⟨hlt, hun⟩
  obtain ⟨pre, post, e1, hpre, e2⟩ := unl_set hmem
  have hD : Deps (fun j => listed.getD j false = true) o := fun e he hb => hdeps e (by simpa using he) hb
  have hspec : ∀ (j k : Nat), j < k → ∀ (y x : Oper), ops[j]? = some y → ops[k]? = some x → Ej C y x = true ∧ (j ∈ (ancs ops.toList []).getD k [] ∨ (Jp C ops y x = true ∧ Ej C x y = true)) := by
   intro j k hjk y x hy hx
   have h1 := Atk ops.toList [] 0 rfl hc.2 k x j y (by simpa using hx) (by omega) (by simpa using hy)
   rwa [Nat.zero_add] at h1
  have hnanc : ∀ j ∈ pre, j ∉ (ancs ops.toList []).getD i [] := by
   intro j hj h1
   have hj' : j ∈ unl ops.size listed := by rw [e1]; simp [hj]
   obtain ⟨hjl, hju⟩ := Lg.1 hj'
   cases hx : (ancs ops.toList [])[i]? with
   | none => rw [List.getD_eq_getElem?_getD, hx] at h1; cases h1
   | some x =>
    rw [List.getD_eq_getElem?_getD, hx] at h1
    have h2 := Ahe (L := fun j => listed.getD j false = true) ops hcl ops.toList [] (fun j o hj => by simpa using hj) (fun i o x _ h => by simp at h) (Nat.zero_le _) i o x ho hx hD j h1
    rw [Ary (by omega)] at h2
    rw [h2] at hju
    cases hju
  have hsw : ∀ j ∈ pre, Sw C ops j i := by
   intro j hj
   have hj' : j ∈ unl ops.size listed := by rw [e1]; simp [hj]
   obtain ⟨hjl, hju⟩ := Lg.1 hj'
   have hoj : ops[j]? = some ops[j] := Array.getElem?_eq_getElem hjl
   rcases (hspec j i (hpre j hj) ops[j] o hoj ho).2 with h1 | h1
   ·exact absurd h1 (hnanc j hj)
   ·exact Bc9 hoj ho h1.1
  have hpw : (unl ops.size listed).Pairwise (· < ·) := List.pairwise_lt_range.filter _
  have hap : ∀ j k, j < k → Ap C ops j k := fun j k hjk y x hy hx => (hspec j k hjk y x hy hx).1
  have hap2 : ∀ k ∈ pre ++ post, Ap C ops i k := by
   intro k hk
   rcases List.mem_append.1 hk with hk | hk
   ·intro y x hy hx
    rcases (hspec k i (hpre k hk) x y hx hy).2 with h1 | h1
    ·exact absurd h1 (hnanc k hk)
    ·exact h1.2
   ·rw [e1, List.pairwise_append, List.pairwise_cons] at hpw
    exact hap i k (hpw.2.1.1 k hk)
  rw [e1, show pre ++ i :: post = (pre ++ [i]) ++ post by simp, Aa1] at hf
  obtain ⟨s1, h1, h2⟩ := Option.bind_eq_some_iff.1 hf
  have h3 := Alw ops pre s s1 hsw (fun j hj => hfr j (by rw [e1]; simp [hj])) (hfr i (by rw [e1]; simp)) (by
   rw [e1, show pre ++ i :: post = (pre ++ [i]) ++ post by simp, List.pairwise_append] at hpw
   exact hpw.1.imp fun {j k} h => hap j k h) h1
  simp only [fld] at h3
  obtain ⟨s3, h4, h5⟩ := Option.bind_eq_some_iff.1 h3
  have h6 : fld C ops (unl ops.size (listed.setIfInBounds i true)) s3 = some sf := by
   rw [e2, Aa1, h5]; exact h2
  have hfr' : ∀ j ∈ unl ops.size (listed.setIfInBounds i true), FrA C ops j s3 := by
   intro j hj
   rw [e2] at hj
   exact Agk (hap2 j hj) (hfr j (by rw [e1]; rcases List.mem_append.1 hj with h | h <;> simp [h])) h4
  simp only [stp, ho] at h4
  have hlen : (unl ops.size (listed.setIfInBounds i true)).length ≤ fuel := by
   rw [e1] at hle
   rw [e2]
   simp at hle ⊢
   omega
  have hcl' : ∀ (k : Nat) (ok : Oper), ops[k]? = some ok → (listed.setIfInBounds i true).getD k false = true → Deps (fun j => (listed.setIfInBounds i true).getD j false = true) ok := by
   intro k ok hk hL e he hb
   by_cases hik : i = k
   ·subst hik
    rw [ho] at hk
    cases hk
    exact getD_set_true (hD e he hb)
   ·rw [getD_set_ne false hik] at hL
    exact getD_set_true (hcl k ok hk hL e he hb)
  have hstep := Atb (fok_D hE) hH h4 (wpAny C.P .any ops Q fuel (listed.setIfInBounds i true)) Q fun G1 a1 w1 k1 k2 k3 =>
   ih (listed.setIfInBounds i true) s3 G1 a1 w1 (by simpa using hs) hlen hcl' hfr' k1 h6 fun G2 a2 w2 m1 m2 m3 => hQ G2 a2 w2 m1 (k2.trans m2) (m3.trans k3)
  unfold wpOp
  simp only [ho]
  split
  ·rename_i hw; rw [if_pos hw] at hstep; exact .inl hstep
  ·rename_i hw; rw [if_neg hw] at hstep; exact hstep
theorem Bao {bs os : List Nat} {n : Nat} (h : n ∈ bs) (l : L) : (Gh bs os l).noB n = true := by
 unfold Gh
 split
 ·rename_i hc
  rw [Bool.and_eq_true] at hc
  exact List.all_eq_true.1 hc.1 n h
 ·rfl
theorem Bap {bs os : List Nat} {n : Nat} (h : n ∈ os) (l : L) : (Gh bs os l).noO n = true := by
 unfold Gh
 split
 ·rename_i hc
  rw [Bool.and_eq_true] at hc
  exact List.all_eq_true.1 hc.2 n h
 ·rfl
theorem Asf {p : L → Bool} {bs os : List Nat} (h : ∀ l, p (Gh bs os l) = true) (s : St) : (B1 s bs os).all p = true := by
 simp only [St.all, Bool.and_eq_true, List.all_eq_true, B1, List.mem_map]
 constructor
 ·rintro v ⟨v0, _, rfl⟩
  exact V9 h v0
 ·rintro b ⟨b0, _, rfl⟩
  split
  ·rename_i ls hls
   split at hls
   ·cases hls
   ·obtain ⟨q, hq, rfl⟩ := Option.map_eq_some_iff.1 hls
    simp only [List.all_map, List.all_eq_true, Function.comp]
    exact fun l _ => h l
  ·rfl
theorem kill_ok (h : Holds F s G a.tmps.toList w) (bs os : List Nat) : Holds F (B1 s bs os) G a.tmps.toList w ∧ Step N0 N0 s G w (B1 s bs os) G w := by
 have h1 := Aex (bs := bs) (os := os) (si := ⟨[], [], []⟩) (Gi := G) (w' := w) h (Keeps.refl _ _) (by
  rintro j (⟨b, ls, hb, _⟩ | ⟨l, x, hx, _⟩)
  ·simp [Aa] at hb
  ·simp [Ab] at hx)
 refine ⟨h1.1, ⟨Keeps.refl _ _, fun k hk => ?_, fun _ _ => ⟨rfl, rfl⟩, fun l _ x hx => ?_⟩⟩
 ·rcases hk with ⟨b, ls, hb', rfl⟩ | ⟨l, x, hx, e⟩
  ·obtain ⟨q, h3, _⟩ := Ih hb'
   exact .inl (.inl ⟨b, q, h3, rfl⟩)
  ·exact .inl (.inr ⟨l, x, (Gg hx).1, e⟩)
 ·exact ⟨⟨x, (Gg hx).1⟩, rfl⟩
theorem Az4 {ops : Array Oper} (h : Holds F s G a.tmps.toList w) : (∀ j, FrA C ops j (clean C ops s)) ∧ Holds F (clean C ops s) G a.tmps.toList w ∧ Step N0 N0 s G w (clean C ops s) G w := by
 unfold clean
 have hmem : ∀ j o, ops[j]? = some o → o ∈ ops.toList := fun j o ho => List.mem_of_getElem? (l := ops.toList) (i := j) (by simpa using ho)
 split
 ·rename_i h1 h2
  refine ⟨fun j o ho => ⟨fun n hn => ?_, fun n hn => ?_⟩, h, Step.refl _ _ _ _ _⟩
  ·have : n ∈ ops.toList.flatMap (mkB C) := List.mem_flatMap.2 ⟨o, hmem j o ho, hn⟩
   rw [h1] at this; cases this
  ·have : n ∈ ops.toList.flatMap (mkO C) := List.mem_flatMap.2 ⟨o, hmem j o ho, hn⟩
   rw [h2] at this; cases this
 ·refine ⟨fun j o ho => ⟨fun n hn => Asf (Bao (List.mem_flatMap.2 ⟨o, hmem j o ho, hn⟩)) s, fun n hn => Asf (Bap (List.mem_flatMap.2 ⟨o, hmem j o ho, hn⟩)) s⟩, ?_⟩
  exact kill_ok h _ _
theorem No (hm : C.P.follows .mixedOrders = true) (hE : Ba C) : Fy C := by
 intro ops hc F s s' G a w Q hH hf hQ id
 refine wp_region_any hm ?_
 have hg : Grew w { w with drawn := w.drawn + 1 } := ⟨rfl, rfl, rfl, Nat.le_refl _, fun _ _ _ => rfl⟩
 obtain ⟨hfr, hH', hst⟩ := Az4 (C := C) (ops := ops) hH
 have hu : unl ops.size (Array.replicate ops.size false) = List.range ops.size := by
  unfold unl
  apply List.filter_eq_self.2
  intro j hj
  have := List.mem_range.1 hj
  simp [Array.getD_eq_getD_getElem?, this]
 refine any_ok hE hc (sf := s') Q ops.size _ (clean C ops s) G a _ (by simp) (by rw [hu]; simp) (fun i o ho hL => ?_) (fun j _ => hfr j) (hH'.grew hg) ?_ fun G' a' w' k1 k2 k3 => hQ G' a' w' k1 (hst.trans ((Step.grew hg).trans k2)) k3
 ·exfalso
  rw [Array.getD_eq_getD_getElem?, Array.getElem?_replicate] at hL
  split at hL <;> simp at hL
 ·rw [hu, List.range_eq_range']
  rw [Am0 ops ops.toList 0 (clean C ops s) fun j o hj => by simpa using hj] at hf
  simpa using hf
end
section
variable {R : Type}
abbrev Jt (R : Type) := List (Nat × (St → Option R))
def Le : Jt R → Nat → Option (St → Option R)
 | [], _ => none
 | x :: r, i => if x.1 = i then some x.2 else Le r i
def G9 (J : Jt R) (c : Code) : Option (St → Option R) := (D8 c).bind (Le J)
def seqJ (C : Cfg) (J : Jt R) (b : Code) (f : St → (XE → St → Option R) → Option R) (K : XE → St → Option R) : XE → St → Option R
 | .normal, s => norm C b s fun s => match G9 J b with | some g => g s | none => f s K
 | e, s => K e s
def evJ (C : Cfg) (J L : Jt R) : Code → St → (XE → St → Option R) → Option R
 | .skip, s, K => K .normal s
 | .region _ ops draw, s, K => if draw then (if commutes C ops then opsK (opD C) ops ops.toList (clean C ops s) (K .normal) else none) else opsP C ops ops.toList s K
 | .seq a b, s, K => evJ C J L a s (seqJ C J b (evJ C J L b) K)
 | .cond c x y, s, K => match Cx (s.get c) with
  | some b => bif b then evJ C J L x (refine s c true) K else evJ C J L y (refine s c false) K
  | none => none
 | .block id b, s, K => evJ C J L b s (blkK id K)
 | .loop b, s, K => norm C b s fun s => match G9 L b with | some g => g s | none => none
 | .exit id, s, K => K (.exit id) s
 | .ret, s, K => K .ret s
 | .label _, s, K => K .normal s
 | _, _, _ => none
def ctxJ (C : Cfg) (J L : Jt R) : Code → List Step1 → (XE → St → Option R) → (XE → St → Option R)
 | _, [], K => K
 | .seq a b, .l :: p, K => ctxJ C J L a p (seqJ C J b (evJ C J L b) K)
 | .seq _ b, .r :: p, K => ctxJ C J L b p K
 | .block id b, .b :: p, K => ctxJ C J L b p (blkK id K)
 | .loop b, .b :: p, K => ctxJ C J L b p (match G9 L b with | some g => Lf C b g K | none => fun _ _ => none)
 | .scope b, .b :: p, K => ctxJ C J L b p K
 | .cond _ x _, .t :: p, K => ctxJ C J L x p K
 | .cond _ _ y, .e :: p, K => ctxJ C J L y p K
 | _, _, K => K
def jt (C : Cfg) (k : Nat) : Code → List Step1 → List Nat → (XE → St → Option R) → List (Code × (St → Option R))
 | .seq a b, .l :: p, ks, K => (b, fun s => ev C k b s K) :: (jt C k a p ks (seqK C b (ev C k b) K) ++ jt C k b [] [] K)
 | .seq a b, .r :: p, ks, K => (b, fun s => ev C k b s K) :: (jt C k a [] [] (seqK C b (ev C k b) K) ++ jt C k b p ks K)
 | .seq a b, _, _, K => (b, fun s => ev C k b s K) :: (jt C k a [] [] (seqK C b (ev C k b) K) ++ jt C k b [] [] K)
 | .cond _ x y, .t :: p, ks, K => jt C k x p ks K ++ jt C k y [] [] K
 | .cond _ x y, .e :: p, ks, K => jt C k x [] [] K ++ jt C k y p ks K
 | .cond _ x y, _, _, K => jt C k x [] [] K ++ jt C k y [] [] K
 | .block id b, .b :: p, ks, K => jt C k b p ks (blkK id K)
 | .block id b, _, _, K => jt C k b [] [] (blkK id K)
 | .loop b, .b :: p, j :: ks, K => jt C k b p ks (Lf C b (Ea (Ek C b (ev C k b) K) j) K)
 | _, _, _, _ => []
def lt (C : Cfg) (k : Nat) : Code → List Step1 → List Nat → (XE → St → Option R) → List (Code × (St → Option R))
 | .seq a b, .l :: p, ks, K => lt C k a p ks (seqK C b (ev C k b) K) ++ lt C k b [] [] K
 | .seq a b, .r :: p, ks, K => lt C k a [] [] (seqK C b (ev C k b) K) ++ lt C k b p ks K
 | .seq a b, _, _, K => lt C k a [] [] (seqK C b (ev C k b) K) ++ lt C k b [] [] K
 | .cond _ x y, .t :: p, ks, K => lt C k x p ks K ++ lt C k y [] [] K
 | .cond _ x y, .e :: p, ks, K => lt C k x [] [] K ++ lt C k y p ks K
 | .cond _ x y, _, _, K => lt C k x [] [] K ++ lt C k y [] [] K
 | .block id b, .b :: p, ks, K => lt C k b p ks (blkK id K)
 | .block id b, _, _, K => lt C k b [] [] (blkK id K)
 | .loop b, .b :: p, j :: ks, K => (b, Ea (Ek C b (ev C k b) K) j) :: lt C k b p ks (Lf C b (Ea (Ek C b (ev C k b) K) j) K)
 | .loop b, _, _, K => [(b, Ea (Ek C b (ev C k b) K) k)]
 | _, _, _, _ => []
def OkJ (J : Jt R) (l : List (Code × (St → Option R))) : Prop := ∀ x ∈ l, ∀ g, G9 J x.1 = some g → g = x.2
def OkL (J : Jt R) (l : List (Code × (St → Option R))) : Prop := ∀ x ∈ l, G9 J x.1 = some x.2
theorem Aul {C : Cfg} {J : Jt R} {b : Code} {f g : St → (XE → St → Option R) → Option R} {K : XE → St → Option R} (h1 : ∀ s, f s K = g s K) (h2 : ∀ h, G9 J b = some h → h = fun s => g s K) : seqJ C J b f K = seqK C b g K := by
 funext e s
 cases e with
 | normal =>
  simp only [seqJ, seqK]
  congr 1
  funext s
  cases hb : G9 J b with
  | none => exact h1 s
  | some h => rw [h2 h hb]
 | _ => rfl
theorem Jc {C : Cfg} {J L : Jt R} {k : Nat} : ∀ (c : Code) (s : St) (K : XE → St → Option R), OkJ J (jt C k c [] [] K) → OkL L (lt C k c [] [] K) → evJ C J L c s K = ev C k c s K
 | .skip, s, K, _, _ => rfl
 | .region _ _ _, s, K, _, _ => rfl
 | .seq a b, s, K, hJ, hL => by
  simp only [evJ, ev]
  simp only [jt, lt] at hJ hL
  have e : seqJ C J b (evJ C J L b) K = seqK C b (ev C k b) K := Aul
   (fun s => Jc b s K (fun x hx => hJ x (by simp [hx])) (fun x hx => hL x (by simp [hx])))
   (fun h hh => hJ (b, fun s => ev C k b s K) (by simp) h hh)
  rw [e]
  exact Jc a s _ (fun x hx => hJ x (by simp [hx])) (fun x hx => hL x (by simp [hx]))
 | .cond c x y, s, K, hJ, hL => by
  simp only [evJ, ev]
  simp only [jt, lt] at hJ hL
  cases Cx (s.get c) with
  | none => rfl
  | some b =>
   simp only []
   rw [Jc (k := k) x _ K (fun z hz => hJ z (by simp [hz])) (fun z hz => hL z (by simp [hz])), Jc (k := k) y _ K (fun z hz => hJ z (by simp [hz])) (fun z hz => hL z (by simp [hz]))]
 | .block id b, s, K, hJ, hL => by
  simp only [evJ, ev]
  exact Jc b s _ (by simpa only [jt] using hJ) (by simpa only [lt] using hL)
 | .loop b, s, K, hJ, hL => by
  simp only [evJ, ev]
  have h := hL (b, Ea (Ek C b (ev C k b) K) k) (by simp [lt])
  rw [h]
 | .scope b, s, K, _, _ => rfl
 | .exit id, s, K, _, _ => rfl
 | .ret, s, K, _, _ => rfl
 | .goto l, s, K, _, _ => rfl
 | .label l, s, K, _, _ => rfl
 | .refuse y, s, K, _, _ => rfl
 | .rangeFunc f p x y, s, K, _, _ => rfl
def Gw : Code → List Step1 → List Nat → Bool
 | _, [], _ => true
 | .seq a _, .l :: p, ks => Gw a p ks
 | .seq _ b, .r :: p, ks => Gw b p ks
 | .block _ b, .b :: p, ks => Gw b p ks
 | .loop b, .b :: p, _ :: ks => Gw b p ks
 | .cond _ x _, .t :: p, ks => Gw x p ks
 | .cond _ _ y, .e :: p, ks => Gw y p ks
 | _, _, _ => false
theorem Ja {C : Cfg} {J L : Jt R} {k : Nat} : ∀ (c : Code) (p : List Step1) (ks : List Nat) (K : XE → St → Option R), Gw c p ks = true → OkJ J (jt C k c p ks K) → OkL L (lt C k c p ks K) →
  ctxJ C J L c p K = Bf C k c p ks K ∧ OkJ J (jt C k (Bm c p) [] [] (Bf C k c p ks K)) ∧ OkL L (lt C k (Bm c p) [] [] (Bf C k c p ks K))
 | c, [], ks, K, hw, hJ, hL => by
  refine ⟨by unfold ctxJ Bf; rfl, ?_, ?_⟩
  ·rw [show Bm c [] = c by unfold Bm; rfl, show Bf C k c [] ks K = K by unfold Bf; rfl]
   cases c <;> simpa only [jt] using hJ
  ·rw [show Bm c [] = c by unfold Bm; rfl, show Bf C k c [] ks K = K by unfold Bf; rfl]
   cases c <;> simpa only [lt] using hL
 | .seq a b, .l :: p, ks, K, hw, hJ, hL => by
  simp only [ctxJ, Bf, Bm]
  simp only [jt, lt] at hJ hL
  have e : seqJ C J b (evJ C J L b) K = seqK C b (ev C k b) K := Aul
   (fun s => Jc b s K (fun x hx => hJ x (by simp [hx])) (fun x hx => hL x (by simp [hx])))
   (fun h hh => hJ (b, fun s => ev C k b s K) (by simp) h hh)
  rw [e]
  exact Ja a p ks _ hw (fun x hx => hJ x (by simp [hx])) (fun x hx => hL x (by simp [hx]))
 | .seq a b, .r :: p, ks, K, hw, hJ, hL => by
  simp only [ctxJ, Bf, Bm]
  simp only [jt, lt] at hJ hL
  exact Ja b p ks _ hw (fun x hx => hJ x (by simp [hx])) (fun x hx => hL x (by simp [hx]))
 | .block id b, .b :: p, ks, K, hw, hJ, hL => by
  simp only [ctxJ, Bf, Bm]
  simp only [jt, lt] at hJ hL
  exact Ja b p ks _ hw hJ hL
 | .loop b, .b :: p, j :: ks, K, hw, hJ, hL => by
  simp only [ctxJ, Bf, Bm]
  simp only [jt, lt] at hJ hL
  have h := hL (b, Ea (Ek C b (ev C k b) K) j) (by simp)
  rw [h]
  exact Ja b p ks _ hw hJ (fun x hx => hL x (by simp [hx]))
 | .cond c x y, .t :: p, ks, K, hw, hJ, hL => by
  simp only [ctxJ, Bf, Bm]
  simp only [jt, lt] at hJ hL
  exact Ja x p ks _ hw (fun x hx => hJ x (by simp [hx])) (fun x hx => hL x (by simp [hx]))
 | .cond c x y, .e :: p, ks, K, hw, hJ, hL => by
  simp only [ctxJ, Bf, Bm]
  simp only [jt, lt] at hJ hL
  exact Ja y p ks _ hw (fun x hx => hJ x (by simp [hx])) (fun x hx => hL x (by simp [hx]))
def Sd (C : Cfg) (J L : Jt R) (c : Code) (p : List Step1) (K : XE → St → Option R) (s : St) : Option R := evJ C J L (Bm c p) s (ctxJ C J L c p K)
def keep (ids : List Nat) : List (Code × (St → Option R)) → Jt R
 | [] => []
 | x :: r => match D8 x.1 with
  | some i => if ids.contains i then (i, x.2) :: keep ids r else keep ids r
  | none => keep ids r
def Fh : Jt R → Bool
 | [] => true
 | x :: r => !(r.map Prod.fst).contains x.1 && Fh r
theorem Ae1 : ∀ {l : Jt R} {x : Nat × (St → Option R)}, Fh l = true → x ∈ l → Le l x.1 = some x.2
 | y :: l, x, hk, hx => by
  simp only [Fh, Bool.and_eq_true, Bool.not_eq_true', List.contains_eq_mem, decide_eq_false_iff_not] at hk
  simp only [Le]
  rcases List.mem_cons.1 hx with rfl | hx
  ·rw [if_pos rfl]
  ·rw [if_neg]
   ·exact Ae1 hk.2 hx
   ·intro e
    exact hk.1 (List.mem_map.2 ⟨x, hx, e.symm⟩)
theorem Asr : ∀ {l : Jt R} {i : Nat} {g : St → Option R}, Le l i = some g → (i, g) ∈ l
 | x :: l, i, g, h => by
  simp only [Le] at h
  split at h
  ·rename_i e; cases h; subst e; exact List.mem_cons_self
  ·exact List.mem_cons_of_mem _ (Asr h)
theorem Aew {ids : List Nat} : ∀ {l : List (Code × (St → Option R))} {x : Code × (St → Option R)} {i : Nat}, x ∈ l → D8 x.1 = some i → i ∈ ids → (i, x.2) ∈ keep ids l
 | y :: l, x, i, hx, hi, hm => by
  simp only [keep]
  rcases List.mem_cons.1 hx with rfl | hx
  ·rw [hi]
   simp [hm]
  ·have := Aew hx hi hm
   split
   ·split
    ·exact List.mem_cons_of_mem _ this
    ·exact this
   ·exact this
theorem Uz {ids : List Nat} : ∀ {l : List (Code × (St → Option R))} {x : Nat × (St → Option R)}, x ∈ keep ids l → x.1 ∈ ids
 | y :: l, x, h => by
  simp only [keep] at h
  split at h
  ·split at h
   ·rename_i hm
    rcases List.mem_cons.1 h with rfl | h
    ·simpa using hm
    ·exact Uz h
   ·exact Uz h
  ·exact Uz h
theorem Ba5 {ids : List Nat} {l : List (Code × (St → Option R))} (hk : Fh (keep ids l) = true) : OkJ (keep ids l) l := by
 intro x hx g hg
 unfold G9 at hg
 obtain ⟨i, hi, h2⟩ := Option.bind_eq_some_iff.1 hg
 have hm := Uz (Asr h2)
 have := Ae1 hk (Aew hx hi hm)
 rw [h2] at this
 cases this
 rfl
def Qe (ids : List Nat) (l : List (Code × (St → Option R))) : Bool := l.all fun x => match D8 x.1 with | some i => ids.contains i | none => false
theorem Ba6 {ids : List Nat} {l : List (Code × (St → Option R))} (hk : Fh (keep ids l) = true) (ha : Qe ids l = true) : OkL (keep ids l) l := by
 intro x hx
 have h := List.all_eq_true.1 ha x hx
 cases hi : D8 x.1 with
 | none => rw [hi] at h; cases h
 | some i =>
  rw [hi] at h
  unfold G9
  rw [hi]
  exact Ae1 hk (Aew hx hi (by simpa using h))
theorem A2e {C : Cfg} {k : Nat} {c : Code} {p : List Step1} {ks : List Nat} {K : XE → St → Option R} (s : St) (js ls : List Nat) {J L : Jt R}
  (hw : Gw c p ks = true) (hJ : keep js (jt C k c p ks K) = J) (hL : keep ls (lt C k c p ks K) = L) (h1 : Fh J = true) (h2 : Fh L = true) (h3 : Qe ls (lt C k c p ks K) = true) :
  evAt C k c p ks K s = Sd C J L c p K s := by
 subst hJ
 subst hL
 obtain ⟨e, a, b⟩ := Ja c p ks K hw (Ba5 h1) (Ba6 h2 h3)
 unfold evAt Sd
 rw [e, Jc _ _ _ a b]
end
def Ed : List (Nat × List Sig) → Nat → List Sig
 | [], _ => []
 | x :: r, i => if x.1 = i then x.2 else Ed r i
def AllS (P : Program) (g : Nat) : List Sig → Prop
 | [] => True
 | s :: r => Ac P g s ∧ AllS P g r
def Hr (P : Program) : List (Nat × List Sig) → Prop
 | [] => True
 | x :: r => AllS P x.1 x.2 ∧ Hr P r
theorem Ag3 {P : Program} {g : Nat} : ∀ {l : List Sig}, AllS P g l → ∀ s ∈ l, Ac P g s
 | s :: r, h, x, hx => by
  rcases List.mem_cons.1 hx with rfl | hx
  ·exact h.1
  ·exact Ag3 h.2 x hx
theorem L7 {P : Program} : ∀ {l : List (Nat × List Sig)}, Hr P l → ∀ g, ∀ s ∈ Ed l g, Ac P g s
 | [], h, g, s, hs => by cases hs
 | (n, l) :: r, h, g, s, hs => by
  simp only [Ed] at hs
  split at hs
  ·rename_i e; subst e; exact Ag3 h.1 s hs
  ·exact L7 h.2 g s hs
theorem fn_ok {C : Cfg} {l : List (Nat × List Sig)} (he : C.env = Ed l) (hl : Hr C.P l) (hm : C.P.follows .mixedOrders = true) (k : Nat) {g : Nat} {fn : Func} (hf : C.P.funcs[g]? = some fn) (hname : (fn.name == "runtime.NumGoroutine") = false)
  (hb : fn.body = some (Bs fn)) (kin kout : Sk) (hnB : C.npB = kin.boxes.length) (hnO : C.npO = kin.owns.length) (hlB : C.npB ≤ N0) (hlO : C.npO ≤ N0) : Ac C.P g ⟨kin, kout, B2 kin.tys kout.tys (Ah C k fn kin kout)⟩ := by
 have hE : Ba C := by
  intro g s hs
  rw [he] at hs
  exact L7 hl g s hs
 exact A6m hE (No hm hE) k hf hname hb kin kout hnB hnO hlB hlO
theorem fnP_ok {C : Cfg} {l : List (Nat × List Sig)} (he : C.env = Ed l) (hl : Hr C.P l) (hm : C.P.follows .mixedOrders = true) (k : Nat) {g : Nat} {fn : Func} (hf : C.P.funcs[g]? = some fn) (hname : (fn.name == "runtime.NumGoroutine") = false)
  (hb : fn.body = some (Bs fn)) (kin kout : Sk) (pt : Nat) (tp : List Ty) (pg : Bool) (hnB : C.npB = kin.boxes.length) (hnO : C.npO = kin.owns.length) (hlB : C.npB ≤ N0) (hlO : C.npO ≤ N0) : Ac C.P g ⟨kin, kout, Am kin.tys kout.tys pt tp pg (Al C k fn kin kout pt tp pg)⟩ := by
 have hE : Ba C := by
  intro g s hs
  rw [he] at hs
  exact L7 hl g s hs
 exact A6l hE (No hm hE) k hf hname hb kin kout pt tp pg hnB hnO hlB hlO
def rdA {α : Type} (d : α) (xs : List α) (i : Nat) : α := xs.getD i d
def appB (b m n : Nat) : Bool := decide ((m + n) * b ≤ 140737488355328) && decide (m + n ≤ maxLen)
section
variable {P : Program} {F : Nat → Prop} {s s' : St} {G : Gm} {w w' : World} {vals : List Value}
theorem Aeu {w w' : World} (h : Below w.heap.size w w') : Grew w w' :=
 ⟨h.os, h.tape, h.output, h.size, fun k hk _ => h.block k hk⟩
theorem Pp {s : St} {G : Gm} {k : Nat} (hb : s.boxes = []) (ho : s.owns = []) : ¬ Live s G k := by
 rintro (⟨b, ls, h, _⟩ | ⟨l, o, h, _⟩)
 ·simp [Aa, hb] at h
 ·simp [Ab, ho] at h
theorem Ar6 {s : St} (hb : s.boxes = []) (ho : s.owns = []) (hF : ∀ k, F k → k < w.heap.size) (hg : ∀ x ∈ gTab, ∃ et fr, w.heap[x.1]? = some (.cells x.2 et fr)) (hs : All2 (HA (HR F s G w)) s.slots vals) : Holds F s G vals w where
 slots := hs
 box := fun b ls h => by simp [Aa, hb] at h
 own := fun l o h => by simp [Ab, ho] at h
 bb := fun b b' ls ls' h => by simp [Aa, hb] at h
 bo := fun b ls l o h => by simp [Aa, hb] at h
 oo := fun l l' o o' k h => by simp [Ab, ho] at h
 nF := fun k h => absurd h (Pp hb ho)
 Flt := hF
 ty := fun b ls h => by simp [Aa, hb] at h
 gl := fun x hx => ⟨Pp hb ho, hg x hx⟩
theorem Nr {k : Sk} {ps : List PL} (h : k.boxes = []) : (enc k 0 ps).boxes = [] := by simp [enc, h, Kq]
theorem Ns {k : Sk} {ps : List PL} (h : k.owns = []) : (enc k 0 ps).owns = [] := by simp [enc, h, F6]
theorem Ph {k : IntKind} {n : Int} {v : Value} (h : HA (HR F s G w) (lf (.pv ⟨.int k, n⟩)) v) : v = .int k n ∧ (Lit.int k n).wf = true := Dj (w := w) (G := G) (ok := okS F s G w) (os := s.owns) h
theorem ha_bool {b : Bool} {v : Value} (h : HA (HR F s G w) (lf (.pv ⟨.bool, b⟩)) v) : v = .bool b := Ip (w := w) (G := G) (ok := okS F s G w) (os := s.owns) h
theorem Ar3 {q : List Int} {v : Value} (h : HA (HR F s G w) (lf (.pv ⟨.str, q⟩)) v) : ∃ y : ByteArray, v = .string y ∧ bs y = q ∧ y.size ≤ maxLen := Fn (w := w) (G := G) (ok := okS F s G w) (os := s.owns) h
theorem Baj {k : IntKind} {n : Int} (h : (Lit.int k n).wf = true) : HA (HR F s G w) (lf (.pv ⟨.int k, n⟩)) (.int k n) := by
 show [Value.int k n] = [Value.int k n] ∧ (Lit.int k n).wf = true
 exact ⟨rfl, h⟩
theorem Ar4 {y : ByteArray} (h : y.size ≤ maxLen) : HA (HR F s G w) (lf (.pv ⟨.str, bs y⟩)) (.string y) := by
 show ∃ z : ByteArray, [Value.string y] = [Value.string z] ∧ bs z = bs y ∧ z.size ≤ maxLen
 exact ⟨y, rfl, rfl, h⟩
theorem Bal : HA (HR F s G w) (lf (.err true)) .nilIface := rfl
theorem Agf {kin kout : Sk} {g : Nat} (h1 : kin.boxes = []) (h2 : kin.owns = []) (h3 : kout.boxes = []) (h4 : kout.owns = []) (f : HLs kin.tys → Option (HLs kout.tys))
  (hfn : ∃ fn, P.funcs[g]? = some fn ∧ (fn.name == "runtime.NumGoroutine") = false ∧ fn.body.isSome = true)
  (h : ∀ x y, f x = some y → ∀ (F : Nat → Prop) (G : Gm) (vals : List Value) (w : World), Holds F (enc kin 0 (toPL kin.tys x)) G vals w →
   Calls P g vals.toArray w fun e w' => ∃ rv, e = .returned (retV rv) ∧ Grew w w' ∧ All2 (HA (HR F (enc kout 0 (toPL kout.tys y)) G w')) (Bc kout.slots (toPL kout.tys y)) rv) :
  Ac P g ⟨kin, kout, B2 kin.tys kout.tys f⟩ := by
 refine ⟨hfn, fun ps qs hrun F G vals w hH => ?_⟩
 have z1 : szS kin = 0 := by simp [szS, h1, h2]
 have z2 : szS kout = 0 := by simp [szS, h3, h4]
 simp only [B2] at hrun
 split at hrun
 ·rename_i x hx
  obtain ⟨y, hy, hq⟩ := Option.bind_eq_some_iff.1 hrun
  cases hq
  have hps := Hh hx
  subst hps
  simp only [z1, z2] at hH ⊢
  refine (h x y hy F G vals w hH).mono fun e w' he => ?_
  obtain ⟨rv, e1, e2, e3⟩ := he
  refine ⟨G, rv, e1, Ar6 (Nr h3) (Ns h4) (fun k hk => Nat.lt_of_lt_of_le (hH.Flt k hk) e2.size) (fun x hx => ((hH.grew e2).gl x hx).2) e3, ⟨e2.os, e2.tape, e2.output, e2.size, fun k hk _ => e2.block hk⟩, fun k hk => absurd hk (Pp (Nr h3) (Ns h4)), fun b hb => ?_, fun l hl => ?_⟩
  ·exact ⟨rfl, rfl⟩
  ·exact absurd hl (by rw [h2]; exact Nat.not_lt_zero _)
 ·cases hrun
end
section
variable {P : Program} {F : Nat → Prop} {s s' : St} {G : Gm} {W w w' : World} {vals : List Value}
theorem cell_at {a : Addr} {v : Value} (h : W.cell? a = some v) : a.spot = none ∧ a.block < W.heap.size := by
 unfold World.cell? at h
 split at h
 ·rename_i hb
  refine ⟨?_, (Array.getElem?_eq_some_iff.1 hb).1⟩
  split at h
  ·cases h
  ·rename_i hz; simpa using hz
 ·cases h
def Mb : Sk := ⟨[.lf (.pv .bool)], [], []⟩
theorem Bce {g : Nat} {kin : Sk} {f : HLs kin.tys → Option Bool} (h : Ac P g ⟨kin, Mb, B2 kin.tys Mb.tys f⟩) (h1 : kin.boxes = []) (h2 : kin.owns = []) {x : HLs kin.tys} (hx : f x = some true) (hg : ∀ x ∈ gTab, ∃ et fr, W.heap[x.1]? = some (.cells x.2 et fr))
  (hv : ∀ (G : Gm) (s : St), s.boxes = [] → s.owns = [] → All2 (HA (HR (fun _ => False) s G W)) (Bc kin.slots (toPL kin.tys x)) vals) :
  Calls P g vals.toArray W fun e W' => e = .returned (.bool true) ∧ Below W.heap.size W W' := by
 have z1 : szS kin = 0 := by simp [szS, h1, h2]
 have hrun : (B2 kin.tys Mb.tys f).run (List PL) (toPL kin.tys x) some = some [⟨.bool, true⟩] := by
  simp only [B2]
  rw [As4]
  simp only [hx]
  rfl
 have hH : Holds (fun _ => False) (enc kin 0 (toPL kin.tys x)) ⟨fun _ => 0, fun _ => .slice none 0 0, fun _ => 0⟩ vals W :=
  Ar6 (Nr h1) (Ns h2) (fun k hk => hk.elim) hg (hv _ _ (Nr h1) (Ns h2))
 have hc := h.2 _ _ hrun (fun _ => False) ⟨fun _ => 0, fun _ => .slice none 0 0, fun _ => 0⟩ vals W (by simp only [z1]; exact hH)
 refine hc.mono fun e W' he => ?_
 obtain ⟨G', rv, e1, e2, e3⟩ := he
 refine ⟨?_, e3.keeps.os, e3.keeps.tape, e3.keeps.output, e3.keeps.size, fun k hk => e3.keeps.block k hk ?_⟩
 ·have hs := e2.slots
  have hs2 : All2 (HA (HR (fun _ => False) (enc Mb (szS Mb) [⟨.bool, true⟩]) G' W')) [lf (.pv ⟨.bool, true⟩)] rv := hs
  cases hs2 with
  | cons a b =>
   cases b
   have := ha_bool a
   subst this
   exact e1
 ·simp only [z1]
  exact Pp (Nr h1) (Ns h2)
end
section
def lieF (P : Program) (c : Nat → Ty → Bool) : List Field → Nat → Ty → Nat → Bool
 | [], o, .nil, n => o == n
 | f :: r, o, .cons a b, n => f.offset == o && (P.cellsOf f.type == a.size && (c f.type a && lieF P c r (o + a.size) b n))
 | _, _, _, _ => false
def lieE (P : Program) (c : Nat → Ty → Bool) (e : Nat) : Nat → Ty → Bool
 | 0, .nil => true
 | n + 1, .cons a b => P.cellsOf e == a.size && (c e a && lieE P c e n b)
 | _, _ => false
def lieT (P : Program) : Nat → Nat → Ty → Bool
 | 0, _, _ => false
 | n + 1, t, ty => match P.underlying t, ty with
  | some (.int k), .int k' => decide (k = k')
  | some .bool, .bool => true
  | some .string, .str => true
  | some (.slice e), .slice a => P.cellsOf e == a.size && (decide (0 < a.size) && lieT P n e a)
  | some (.struct fs), ty => lieF P (lieT P n) fs.toList 0 ty (P.cellsOf t)
  | some (.array m e), ty => P.cellsOf t == m * P.cellsOf e && lieE P (lieT P n) e m ty
  | _, _ => false
variable {H : Type} {enc : TypeId × Value → H} {P : Program} {W : World} {base : Nat} {spare : Nat → Bool} {held : Bool}
theorem Azv {base : Nat} {a : Addr} {n : Nat} {cs : List Value} (h : W.cells? base a n = some cs) : Cells W a cs := by
 obtain ⟨_, h1, h2⟩ := World.cells?_some h
 intro j v hv
 have hj : j < cs.length := (List.getElem?_eq_some_iff.1 hv).1
 rw [h2 j (by omega), hv]
theorem Atp {α β : Type} {R : α → β → Prop} : ∀ (l : List β), (∀ b ∈ l, ∃ a, R a b) → ∃ xs : List α, xs.length = l.length ∧ ∀ (i : Nat) (x : α) (b : β), xs[i]? = some x → l[i]? = some b → R x b
 | [], _ => ⟨[], rfl, fun i x b h => by simp at h⟩
 | b :: l, h => by
  obtain ⟨a, ha⟩ := h b (by simp)
  obtain ⟨xs, h1, h2⟩ := Atp l fun c hc => h c (by simp [hc])
  refine ⟨a :: xs, by simp [h1], fun i x c hx hc => ?_⟩
  cases i with
  | zero => simp at hx hc; subst hx; subst hc; exact ha
  | succ i => simp at hx hc; exact h2 i x c hx hc
theorem Bb4 {ok : Nat → Prop} (hok : ∀ b, b < W.heap.size → ok b) : ∀ (n : Nat) (t : Nat) (ty : Ty), lieT P n t ty = true → ∀ (fuel : Nat) (cs : List Value) (x : DataW H × List MemPlace),
  DataW.trod enc P W base spare held fuel t cs = some x → ∃ z : ty.den, Rep W ok ty z cs := by
 intro n
 induction n with
 | zero => intro t ty h; cases h
 | succ n ih =>
  intro t ty hc fuel cs x h
  unfold lieT at hc
  split at hc
  ·rename_i k k' hu
   simp only [decide_eq_true_eq] at hc
   subst hc
   obtain ⟨m, rfl, _, hw⟩ := DataW.trod_int hu h
   refine ⟨m, ?_⟩
   show [Value.int k m] = [Value.int k m] ∧ _
   exact ⟨rfl, hw⟩
  ·rename_i hu
   obtain ⟨b, rfl, _⟩ := DataW.trod_bool hu h
   refine ⟨b, ?_⟩
   show [Value.bool b] = [Value.bool b]
   rfl
  ·rename_i hu
   have h3 := DataW.trod_string hu h
   obtain ⟨s, rfl, _, hs⟩ := h3
   refine ⟨bs s, ?_⟩
   show ∃ y : ByteArray, [Value.string s] = [Value.string y] ∧ bs y = bs s ∧ y.size ≤ maxLen
   exact ⟨s, rfl, rfl, hs⟩
  ·rename_i e a hu
   simp only [Bool.and_eq_true, beq_iff_eq, decide_eq_true_eq] at hc
   obtain ⟨hsz, hpos, hch⟩ := hc
   rcases DataW.trod_slice hu h with ⟨rfl, _⟩ | ⟨A, len, cap, elems, rest, m, _, rfl, _, hb, hl, hm, hlen, hel, _, _⟩
   ·refine ⟨([] : List a.den), ?_⟩
    show Dl (α := a.den) W ok (fun x es => Rep W ok a x es) a.size [] _
    exact ⟨none, 0, rfl, Nat.le_refl _, Nat.zero_le _, fun e => absurd rfl e⟩
   ·have each : ∀ i ∈ List.range len, ∃ z : a.den, ∃ es, Rep W ok a z es ∧ Cells W (A.add (i * a.size)) es := by
     intro i hi
     rw [List.mem_range] at hi
     have h1 := hel i hi
     rw [List.getElem?_eq_getElem (by omega), Option.bind_eq_some_iff] at h1
     obtain ⟨es, h2, h3⟩ := h1
     obtain ⟨z, hz⟩ := ih e a hch _ _ _ h3
     rw [hsz] at h2
     exact ⟨z, es, hz, Azv h2⟩
    obtain ⟨xs, hx1, hx2⟩ := Atp (R := fun (z : a.den) (i : Nat) => ∃ es, Rep W ok a z es ∧ Cells W (A.add (i * a.size)) es) (List.range len) each
    rw [List.length_range] at hx1
    refine ⟨xs, ?_⟩
    show Dl (α := a.den) W ok (fun x es => Rep W ok a x es) a.size xs _
    refine ⟨some A, cap, by rw [← hx1], by omega, hm, fun hne => ?_⟩
    have h0 : 0 < len := by
     rcases Nat.eq_zero_or_pos len with e | e
     ·rw [e] at hx1; exact absurd (List.length_eq_zero_iff.1 hx1) hne
     ·exact e
    have hc0 := hx2 0 _ 0 (List.getElem?_eq_getElem (by omega)) (by simp [List.getElem?_range, h0])
    obtain ⟨es, hr, hcl⟩ := hc0
    have hlen0 := hr.len
    have hcell := hcl 0 es[0] (by simp)
    have hA : A.add (0 * a.size) = A := by simp [Addr.add]
    rw [hA] at hcell
    have hA0 : A.add 0 = A := by simp [Addr.add]
    rw [hA0] at hcell
    obtain ⟨c1, c2⟩ := cell_at hcell
    refine ⟨A, rfl, c1, hok _ c2, fun i z hz => ?_⟩
    have hi : i < len := by
     have := (List.getElem?_eq_some_iff.1 hz).1
     omega
    exact hx2 i z i hz (by simp [List.getElem?_range, hi])
  ·rename_i fs hu
   obtain ⟨xs, m, rfl, _, hcl, hxl, hfs⟩ := DataW.trod_struct hu h
   rw [← hcl] at hc
   have key : ∀ (l : List Field) (o : Nat) (ty : Ty), (∀ f ∈ l, ∃ y, DataW.trod enc P W base spare held m f.type ((cs.drop f.offset).take (P.cellsOf f.type)) = some y) →
     lieF P (lieT P n) l o ty cs.length = true → o ≤ cs.length → ∃ z : ty.den, Rep W ok ty z (cs.drop o) := by
    intro l
    induction l with
    | nil =>
     intro o ty _ hk ho
     cases ty with
     | nil =>
      simp only [lieF, beq_iff_eq] at hk
      refine ⟨(), ?_⟩
      show cs.drop o = []
      exact List.drop_eq_nil_of_le (by omega)
     | _ => simp [lieF] at hk
    | cons f l ihl =>
     intro o ty hf hk ho
     cases ty with
     | cons a b =>
      simp only [lieF, Bool.and_eq_true, beq_iff_eq] at hk
      obtain ⟨k1, k2, k3, k4⟩ := hk
      obtain ⟨y, hy⟩ := hf f (by simp)
      obtain ⟨z, hz⟩ := ih _ _ k3 _ _ _ hy
      rw [k1, k2] at hz
      have hzl := hz.len
      rw [List.length_take, List.length_drop] at hzl
      obtain ⟨z2, hz2⟩ := ihl (o + a.size) b (fun g hg => hf g (by simp [hg])) k4 (by
       by_cases h0 : a.size = 0
       ·omega
       ·omega)
      refine ⟨(z, z2), ?_⟩
      show ∃ c0 c1, cs.drop o = c0 ++ c1 ∧ Rep W ok a z c0 ∧ Rep W ok b z2 c1
      refine ⟨_, _, ?_, hz, hz2⟩
      rw [← List.drop_drop, List.take_append_drop]
     | _ => simp [lieF] at hk
   have := key fs.toList 0 _ (fun f hf => by
    obtain ⟨i, hi⟩ := List.getElem?_of_mem hf
    rw [Array.getElem?_toList] at hi
    have h2 := hfs i f hi
    have hlt : i < xs.length := by
     rw [hxl]
     exact (Array.getElem?_eq_some_iff.1 hi).1
    rw [List.getElem?_eq_getElem hlt] at h2
    exact ⟨_, h2⟩) hc (Nat.zero_le _)
   rwa [List.drop_zero] at this
  ·rename_i q e hu
   simp only [Bool.and_eq_true, beq_iff_eq] at hc
   obtain ⟨xs, m, rfl, _, hcl, hxl, hfs⟩ := DataW.trod_array hu h
   have key : ∀ (j : Nat) (o : Nat) (ty : Ty), o + j = q → lieE P (lieT P n) e j ty = true → ∃ z : ty.den, Rep W ok ty z (cs.drop (o * P.cellsOf e)) := by
    intro j
    induction j with
    | zero =>
     intro o ty hq hk
     cases ty with
     | nil =>
      refine ⟨(), ?_⟩
      show cs.drop (o * P.cellsOf e) = []
      refine List.drop_eq_nil_of_le ?_
      rw [hcl, hc.1, ← hq]
      exact Nat.le_refl _
     | _ => simp [lieE] at hk
    | succ j ihj =>
     intro o ty hq hk
     cases ty with
     | cons a b =>
      simp only [lieE, Bool.and_eq_true, beq_iff_eq] at hk
      obtain ⟨k2, k3, k4⟩ := hk
      have h2 := hfs o (by omega)
      rw [List.getElem?_eq_getElem (by omega)] at h2
      obtain ⟨z, hz⟩ := ih _ _ k3 _ _ _ h2
      obtain ⟨z2, hz2⟩ := ihj (o + 1) b (by omega) k4
      refine ⟨(z, z2), ?_⟩
      show ∃ c0 c1, cs.drop (o * P.cellsOf e) = c0 ++ c1 ∧ Rep W ok a z c0 ∧ Rep W ok b z2 c1
      refine ⟨_, _, ?_, hz, hz2⟩
      rw [Nat.add_mul, Nat.one_mul, ← List.drop_drop, List.take_append_drop]
     | _ => simp [lieE] at hk
   have := key q 0 _ (by omega) hc.2
   rwa [Nat.zero_mul, List.drop_zero] at this
  ·cases hc
theorem ha_agg_mk {F : Nat → Prop} {s : St} {G : Gm} {t : Ty} {z : t.den} {cs : Array Value} (h : Rep W (okS F s G W) t z cs.toList) : HA (HR F s G W) (.cv (.agg ((flat t z).map .pv))) (.agg cs) := by
 have h2 := Lr h
 refine ⟨cs, rfl, ?_⟩
 exact All2.map_left h2
theorem okW_agg {r : Reach} {b : Nat} {t : Nat} {v : Value} (ht : (match P.underlying t with | some (.struct _) => true | some (.array _ _) => true | _ => false) = true) (h : Value.okWide P W r b t v) : ∃ cs : Array Value, v = .agg cs := by
 unfold Value.okWide at h
 split at ht
 ·rename_i hu
  rw [hu] at h
  obtain ⟨cs, rfl, _⟩ := h
  exact ⟨cs, rfl⟩
 ·rename_i hu
  rw [hu] at h
  obtain ⟨cs, rfl, _⟩ := h
  exact ⟨cs, rfl⟩
 ·cases ht
theorem Bak {F : Nat → Prop} {s : St} {G : Gm} {p : PL} {v : Value} (h : Rep W (okS F s G W) p.t p.x [v]) : HA (HR F s G W) (lf (.pv p)) v := h
end
section
variable {α R : Type}
def cat (x y : List Int) (K : List Int → Option R) : Option R := bif decide (List.length x + List.length y ≤ maxLen) then K (x ++ y) else none
def idx (d : α) (l : List α) (i : Int) (K : α → Option R) : Option R := bif inB i (List.length l) then K (rdA d l (Int.toNat i)) else none
def idxI (l : List Int) (i : Int) (K : Int → Option R) : Option R := bif inB i (List.length l) then K (rdI l (Int.toNat i)) else none
def cut (l : List α) (lo hi : Int) (K : List α → Option R) : Option R := bif cutB lo hi (List.length l) then K (cutL l lo hi) else none
def app (b : Nat) (x y : List α) (K : List α → Option R) : Option R := bif appB b (List.length x) (List.length y) then K (x ++ y) else none
end
def Jq (id : Nat) : Code → Option (List Step1)
 | .seq a b => if D8 b = some id then some [.r] else match Jq id a with
  | some p => some (.l :: p)
  | none => (Jq id b).map fun p => .r :: p
 | .cond _ x y => match Jq id x with
  | some p => some (.t :: p)
  | none => (Jq id y).map fun p => .e :: p
 | .block _ b => (Jq id b).map fun p => .b :: p
 | .loop b => (Jq id b).map fun p => .b :: p
 | _ => none
def Jr (id : Nat) : Code → Option (List Step1)
 | .seq a b => match Jr id a with
  | some p => some (.l :: p)
  | none => (Jr id b).map fun p => .r :: p
 | .cond _ x y => match Jr id x with
  | some p => some (.t :: p)
  | none => (Jr id y).map fun p => .e :: p
 | .block _ b => (Jr id b).map fun p => .b :: p
 | .loop b => if D8 (.loop b) = some id then some [] else (Jr id b).map fun p => .b :: p
 | _ => none
def stOf (k : Sk) (n : Nat) (x : HLs k.tys) : St := enc k n (toPL k.tys x)
def st0 (C : Cfg) (f : Func) (k : Sk) (x : HLs k.tys) : St := { enc k C.n (toPL _ x) with slots := Bc k.slots (toPL _ x) ++ List.replicate (f.ntmps - k.slots.length) .dead }
section
variable {R : Type}
def Kr (C : Cfg) (k : Nat) (B : Code) (K : XE → St → Option R) (id : Nat) (ks : List Nat) (s : St) : Option R := evAt C k B ((Jq id B).getD []) ks K s
def Ks (C : Cfg) (k : Nat) (B : Code) (K : XE → St → Option R) (id : Nat) (ks : List Nat) (j : Nat) (s : St) : Option R := loopAt C k B ((Jr id B).getD []) ks j K s
abbrev JF (R : Type) := Nat → List Nat → St → Option R
abbrev LF (R : Type) := Nat → List Nat → Nat → St → Option R
def jl (J : JF R) (js : List (Nat × List Nat)) : Jt R := js.map fun x => (x.1, fun s => J x.1 x.2 s)
def ll (L : LF R) (ls : List (Nat × List Nat × Nat)) : Jt R := ls.map fun x => (x.1, fun s => L x.1 x.2.1 x.2.2 s)
theorem cut_gen {C : Cfg} {k : Nat} {B : Code} {K : XE → St → Option R} {p : List Step1} {ks : List Nat} {s : St} (js : List (Nat × List Nat)) (ls : List (Nat × List Nat × Nat)) (t : JF R → LF R → Option R) {r : Option R}
  (h0 : r = evAt C k B p ks K s) (hw : Gw B p ks = true) (hJ : keep (js.map fun x => x.1) (jt C k B p ks K) = jl (Kr C k B K) js) (hL : keep (ls.map fun x => x.1) (lt C k B p ks K) = ll (Ks C k B K) ls)
  (h1 : Fh (jl (Kr C k B K) js) = true) (h2 : Fh (ll (Ks C k B K) ls) = true) (h3 : Qe (ls.map fun x => x.1) (lt C k B p ks K) = true)
  (h4 : ∀ (J : JF R) (L : LF R), Sd C (jl J js) (ll L ls) B p K s = t J L) : r = t (Kr C k B K) (Ks C k B K) :=
 h0.trans ((A2e s _ _ hw hJ hL h1 h2 h3).trans (h4 _ _))
structure FnX (R : Type) where
 C : Cfg
 k : Nat
 B : Code
 K : XE → St → Option R
def FnX.J (D : FnX R) : JF R := Kr D.C D.k D.B D.K
def FnX.L (D : FnX R) : LF R := Ks D.C D.k D.B D.K
def mkX (C : Cfg) (k : Nat) (f : Func) (o : Sk) : FnX (HLs o.tys) := ⟨C, k, Bs f, retK C f.results o⟩
def mkXP (C : Cfg) (k : Nat) (f : Func) (o : Sk) (pt : Nat) (tp : List Ty) (pg : Bool) : FnX (HLs o.tys ⊕ HLs tp) := ⟨C, k, Bs f, retKP C f.results o pt tp pg⟩
theorem cutX (D : FnX R) (p : List Step1) (ks : List Nat) (s : St) (js : List (Nat × List Nat)) (ls : List (Nat × List Nat × Nat)) (t : JF R → LF R → Option R) {r : Option R}
  (h0 : r = evAt D.C D.k D.B p ks D.K s) (hw : Gw D.B p ks = true) (hJ : keep (js.map fun x => x.1) (jt D.C D.k D.B p ks D.K) = jl (Kr D.C D.k D.B D.K) js) (hL : keep (ls.map fun x => x.1) (lt D.C D.k D.B p ks D.K) = ll (Ks D.C D.k D.B D.K) ls)
  (h1 : Fh (jl (Kr D.C D.k D.B D.K) js) = true) (h2 : Fh (ll (Ks D.C D.k D.B D.K) ls) = true) (h3 : Qe (ls.map fun x => x.1) (lt D.C D.k D.B p ks D.K) = true)
  (h4 : ∀ (J : JF R) (L : LF R), Sd D.C (jl J js) (ll L ls) D.B p D.K s = t J L) : r = t D.J D.L :=
 cut_gen js ls t h0 hw hJ hL h1 h2 h3 h4
end
abbrev EnvL := List (Nat × List Sig)
def Ag (i o : Sk) (f : HLs i.tys → Option (HLs o.tys)) : Sig := ⟨i, o, B2 i.tys o.tys f⟩
def okB (C : Cfg) (fn : Func) (kin : Sk) : Bool := !(fn.name == "runtime.NumGoroutine") && (fn.body.isSome && (decide (C.npB = kin.boxes.length) && (decide (C.npO = kin.owns.length) && (decide (C.npB ≤ N0) && decide (C.npO ≤ N0)))))
noncomputable def hid {α : Type} (x : α) : α := Classical.choose (⟨x, rfl⟩ : ∃ y, y = x)
theorem Uu {α : Type} (x : α) : hid x = x := Classical.choose_spec (⟨x, rfl⟩ : ∃ y, y = x)
theorem Ae {α β : Type} (f : α → β) (x : α) : hid f x = f x := by rw [Uu]
theorem Aj (C : Cfg) {l : EnvL} {kin kout : Sk} (k : Nat) (he : C.env = Ed l) (hl : Hr C.P l) (hm : C.P.follows .mixedOrders = true) {g : Nat} {fn : Func} (hf : C.P.funcs[g]? = some fn) (hb : okB C fn kin = true) :
  Ac C.P g (Ag kin kout (hid (Ah C k fn kin kout))) := by
 rw [Uu]
 unfold okB at hb
 simp only [Bool.and_eq_true, Bool.not_eq_true', decide_eq_true_eq] at hb
 obtain ⟨h1, h2, h3, h4, h5, h6⟩ := hb
 obtain ⟨c, hc⟩ := Option.isSome_iff_exists.1 h2
 exact fn_ok he hl hm k hf h1 (by unfold Bs; rw [hc]) kin kout h3 h4 h5 h6
theorem An (C : Cfg) {l : EnvL} {kin kout : Sk} (k : Nat) (pt : Nat) (tp : List Ty) (pg : Bool) (he : C.env = Ed l) (hl : Hr C.P l) (hm : C.P.follows .mixedOrders = true) {g : Nat} {fn : Func} (hf : C.P.funcs[g]? = some fn) (hb : okB C fn kin = true) :
  Ac C.P g ⟨kin, kout, Am kin.tys kout.tys pt tp pg (hid (Al C k fn kin kout pt tp pg))⟩ := by
 rw [Uu]
 unfold okB at hb
 simp only [Bool.and_eq_true, Bool.not_eq_true', decide_eq_true_eq] at hb
 obtain ⟨h1, h2, h3, h4, h5, h6⟩ := hb
 obtain ⟨c, hc⟩ := Option.isSome_iff_exists.1 h2
 exact fnP_ok he hl hm k hf h1 (by unfold Bs; rw [hc]) kin kout pt tp pg h3 h4 h5 h6
theorem w64 {n : Int} (h : -9223372036854775808 ≤ n ∧ n ≤ 9223372036854775807) : IntKind.wrap .i64 n = n := by
 rw [IntKind.wrap_i64]
 omega
theorem wu8 {n : Int} (h : 0 ≤ n ∧ n ≤ 255) : IntKind.wrap .u8 n = n := by
 have : IntKind.wrap .u8 n = n % 256 := rfl
 rw [this]
 omega
section
variable {α : Type} {x y : α} {z : Option α}
theorem cd {p : Prop} [Decidable p] : (bif decide p then x else y) = if p then x else y := by
 by_cases h : p <;> simp [h]
theorem cbeq {β : Type} [BEq β] [LawfulBEq β] [DecidableEq β] {a b : β} : (bif a == b then x else y) = if a = b then x else y := by
 by_cases h : a = b
 ·simp [h]
 ·have : (a == b) = false := by simpa using h
  rw [this, if_neg h]; rfl
theorem Uy {p q : Prop} [Decidable p] [Decidable q] : (if p then (if q then x else y) else y) = if p ∧ q then x else y := by
 by_cases h : p <;> by_cases h2 : q <;> simp [h, h2]
theorem cbne {β : Type} [BEq β] [LawfulBEq β] [DecidableEq β] {a b : β} : (bif a != b then x else y) = if a = b then y else x := by
 by_cases h : a = b
 ·simp [h]
 ·have : (a != b) = true := by simpa using h
  rw [this, if_neg h]; rfl
theorem cand {a b : Bool} : (bif a && b then x else y) = bif a then (bif b then x else y) else y := by cases a <;> rfl
theorem cinB {i : Int} {n : Nat} : (bif inB i n then x else y) = if 0 ≤ i ∧ i < n then x else y := by
 unfold inB; rw [cand, cd, cd, Uy]
theorem Kc {i j : Int} {n : Nat} : (bif cutB i j n then x else y) = if 0 ≤ i ∧ i ≤ j ∧ j ≤ n then x else y := by
 unfold cutB; rw [cand, cand, cd, cd, cd, Uy, Uy]; simp only [and_assoc]
theorem cappB {b m n : Nat} : (bif appB b m n then x else y) = if (m + n) * b ≤ 140737488355328 ∧ m + n ≤ 9223372036854775807 then x else y := by
 unfold appB; rw [cand, cd, cd, Uy]; rfl
end
theorem iteS {α : Type} {c : Prop} [Decidable c] {x y z : α} (h1 : c → x = z) (h2 : ¬c → y = z) : (if c then x else y) = z := by
 by_cases h : c
 ·rw [if_pos h]; exact h1 h
 ·rw [if_neg h]; exact h2 h
theorem iteR {α : Type} {c : Prop} [Decidable c] {x y z : α} (h1 : c → z = x) (h2 : ¬c → z = y) : z = (if c then x else y) := by
 by_cases h : c
 ·rw [if_pos h]; exact h1 h
 ·rw [if_neg h]; exact h2 h
theorem Vk (l : List Int) (i : Nat) : rdI l (Int.toNat (i : Int)) = l.getD i 0 := by
 simp [rdI]
theorem rdA_nat {α : Type} (d : α) (l : List α) (i : Nat) : rdA d l (Int.toNat (i : Int)) = l.getD i d := by
 simp [rdA]
theorem Nk {α : Type} (l : List α) (i j : Nat) : cutL l (i : Int) (j : Int) = (l.take j).drop i := by
 simp [cutL]
theorem Gv (i : Nat) : ((i : Int) + 1) = ((i + 1 : Nat) : Int) := by simp
theorem Hz {l : List Int} {i : Nat} (h : i < l.length) : l.drop i = l.getD i 0 :: l.drop (i + 1) := by
 rw [List.drop_eq_getElem_cons h]
 simp [List.getD_eq_getElem?_getD, List.getElem?_eq_getElem h]
end Go.Proofs.YtghmhkpgdmgepaaGreatDoorV
