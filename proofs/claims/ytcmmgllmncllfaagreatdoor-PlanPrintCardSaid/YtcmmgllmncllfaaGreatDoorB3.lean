import Derived.Test.YtcmmgllmncllfaaGreatDoorB2
import Derived.OpenShut
/-! Joined, names shortened: V32, V33, V34, V25, V26, V27, V28, V29, V30, V35, VL. -/
set_option linter.unusedVariables false
set_option linter.unusedSimpArgs false
namespace Go.Proofs.YtcmmgllmncllfaaGreatDoorV
open Go Go.RowKit
def fD (D : Nat → Bool) (q : Nat → Option PL) : L → L
 | .own l => if D l then (match q l with | some p => .pv p | none => .dead) else .own l
 | .ept l i o z => if D l then .dead else .ept l i o z
 | l => l
structure GM (s t : St) (D : Nat → Bool) (q : Nat → Option PL) : Prop where
 slots : t.slots = s.slots.map (AV.map (fD D q))
 boxes : t.boxes = s.boxes.map (Option.map (List.map (fD D q)))
 owns : ∀ l, D l = false → Ab t l = Ab s l
def Nat1 (g : St → St) : Prop := ∀ s, ∃ D q, GM s (g s) D q ∧ ∀ d v, g (s.put (some d) v) = (g s).put (some d) (v.map (fD D q))
theorem Arb {f : L → L} (h : ∀ l, f l = l) (v : AV) : v.map f = v := by
 have : f = id := funext h
 subst this
 have hc : ∀ c : CV, c.map id = c := by intro c; cases c <;> simp [CV.map]
 cases v with
 | dead => rfl
 | cv c => simp [AV.map, hc]
 | tup cs => simp only [AV.map]; congr 1; exact (List.map_congr_left fun c _ => hc c).trans (List.map_id _)
theorem Wa (q : Nat → Option PL) (l : L) : fD (fun _ => false) q l = l := by cases l <;> rfl
theorem Ac5 : Nat1 id := fun s => ⟨fun _ => false, fun _ => none, ⟨by
  rw [show AV.map (fD (fun _ => false) fun _ => none) = id from funext fun v => Arb (Wa _) v, List.map_id]; rfl, by
  have : (fD (fun _ => false) fun _ => none) = id := funext (Wa _)
  rw [this, List.map_id_fun, Option.map_id_fun, List.map_id_fun]; rfl, fun l _ => rfl⟩, fun d v => by rw [Arb (Wa _)]; rfl⟩
theorem Atd {s : St} {n l : Nat} {o : Option Own} (h : l ≠ n) : Ab (Ar s n o) l = Ab s l := by
 simp only [Ab, Ar, List.getElem?_set_ne (Ne.symm h)]
theorem Acv (n : Nat) : Ec n = fD (fun l => l == n) (fun _ => none) := by
 funext l
 cases l <;> simp [Ec, fD]
theorem Arc {f : L → L} {s : St} {d : Nat} {v : AV} : (s.put (some d) v).map f = (s.map f).put (some d) (v.map f) := by
 simp only [St.map, St.put, List.map_set]
theorem A8f (n : Nat) : Nat1 (fun s => Fi s n) := fun s => ⟨fun l => l == n, fun _ => none, ⟨by rw [← Acv]; rfl, by rw [← Acv]; rfl, fun l hl => by
  unfold Fi
  rw [Atd (by simpa using hl)]; rfl⟩, fun d v => by
  rw [← Acv]
  show Ar ((s.put (some d) v).map (Ec n)) n none = _
  rw [Arc]; rfl⟩
theorem Ab9 (n : Nat) (p : PL) : frzL n p = fD (fun l => l == n) (fun _ => some p) := by
 funext l
 cases l <;> simp [frzL, fD]
theorem nat_frz (n : Nat) : Nat1 (fun s => frz s n) := fun s => by
 cases hx : Ab s n with
 | none =>
  have e : ∀ d v, frz (s.put (some d) v) n = s.put (some d) v := fun d v => by unfold frz; rw [show Ab (s.put (some d) v) n = none from hx]
  have e0 : frz s n = s := by unfold frz; rw [hx]
  obtain ⟨D, q, h1, h2⟩ := Ac5 s
  refine ⟨D, q, by simp only [e0]; exact h1, fun d v => ?_⟩
  simp only [e0, e]
  exact h2 d v
 | some x =>
  have e0 := I5 hx
  refine ⟨fun l => l == n, fun _ => some ⟨.slice x.t, x.xs⟩, ⟨by simp only [e0]; rw [← Ab9]; rfl, by simp only [e0]; rw [← Ab9]; rfl, fun l hl => by
   simp only [e0]
   rw [Atd (by simpa using hl)]; rfl⟩, fun d v => ?_⟩
  simp only [e0]
  rw [I5 (s := s.put (some d) v) hx, ← Ab9, Arc]; rfl
theorem fD_comp (D1 D2 : Nat → Bool) (q1 q2 : Nat → Option PL) (l : L) : fD D2 q2 (fD D1 q1 l) = fD (fun l => D1 l || D2 l) (fun l => if D1 l then q1 l else q2 l) l := by
 cases l with
 | own l =>
  cases h1 : D1 l with
  | true => cases hq : q1 l <;> simp [fD, h1, hq]
  | false => simp [fD, h1]
 | ept l i o z =>
  cases h1 : D1 l <;> simp [fD, h1]
 | _ => rfl
theorem AV.map_map (f g : L → L) (v : AV) : (v.map f).map g = v.map fun l => g (f l) := by
 have hc : ∀ c : CV, (c.map f).map g = c.map fun l => g (f l) := by intro c; cases c <;> simp [CV.map]
 cases v with
 | dead => rfl
 | cv c => simp [AV.map, hc]
 | tup cs => simp [AV.map, hc]
theorem A8e {g1 g2 : St → St} (h1 : Nat1 g1) (h2 : Nat1 g2) : Nat1 (fun s => g2 (g1 s)) := fun s => by
 obtain ⟨D1, q1, a1, b1⟩ := h1 s
 obtain ⟨D2, q2, a2, b2⟩ := h2 (g1 s)
 have hf : (fun l => fD D2 q2 (fD D1 q1 l)) = fD (fun l => D1 l || D2 l) (fun l => if D1 l then q1 l else q2 l) := funext (fD_comp D1 D2 q1 q2)
 refine ⟨fun l => D1 l || D2 l, fun l => if D1 l then q1 l else q2 l, ⟨?_, ?_, fun l hl => ?_⟩, fun d v => ?_⟩
 ·rw [← hf, a2.slots, a1.slots, List.map_map]
  exact List.map_congr_left fun v _ => AV.map_map _ _ v
 ·rw [← hf, a2.boxes, a1.boxes, List.map_map]
  refine List.map_congr_left fun v _ => ?_
  cases v <;> simp
 ·simp only [Bool.or_eq_false_iff] at hl
  rw [a2.owns l hl.2, a1.owns l hl.1]
 ·show g2 (g1 (s.put (some d) v)) = _
  rw [← hf, b1, b2, AV.map_map]
theorem Arh : ∀ ms : List Nat, Nat1 (fun s => Bb s ms)
 | [] => Ac5
 | n :: r => A8e (nat_frz n) (Arh r)
section
variable {C : Cfg} {s t : St} {D : Nat → Bool} {q : Nat → Option PL} {v : AV} {o : Oper}
theorem Afw (v : Value) : fD D q (A2 v) = A2 v := by unfold A2; split <;> (try split) <;> rfl
theorem gm_get (h : GM s t D q) (x : Operand) : t.get x = (s.get x).map (fD D q) := by
 cases x with
 | tmp i =>
  simp only [St.get, h.slots, List.getD_eq_getElem?_getD, List.getElem?_map]
  cases s.slots[i]? <;> rfl
 | const v =>
  simp only [St.get, Ma]
  split
  ·split
   ·simp [AV.map, CV.map, Afw]
   ·rfl
  ·rfl
  ·simp [lf, AV.map, CV.map, Afw]
 | global g => rfl
 | func f => rfl
theorem A7o (h : GM s t D q) (b : Nat) : Aa t b = (Aa s b).map (List.map (fD D q)) := by
 simp only [Aa, h.boxes, List.getElem?_map]
 cases s.boxes[b]? with
 | none => rfl
 | some x => cases x <;> rfl
theorem pvs_map (ps : List PL) : (pvs ps).map (fD D q) = pvs ps := by simp [pvs, fD]
def Gw (P : Program) (s : St) (e : Nat) (a b : L) : Option ((St → St) × Own) :=
 match Cj P e with
 | none => none
 | some t => match a with
  | .own l => match Ab s l with
   | some w => if w.e = e then
     (match asTy (.slice t) ⟨.slice w.t, w.xs⟩, Fr s t b with
     | some xs, some ys => bif C5 P e (List.length xs) ys.length then some (fun s => Fi s l, ⟨e, t, List.append xs ys⟩) else none
     | _, _ => none)
    else none
   | none => none
  | .cst .sl => match Fr s t b with
   | some ys => bif C5 P e 0 ys.length then some (id, ⟨e, t, ys⟩) else none
   | none => none
  | _ => none
def Fl (P : Program) (s : St) (op : Op) : Option ((St → St) × Own) :=
 match op with
 | .buildSlice t len ps => match A7 P t with
  | some e => match Cj P e, Br s ps.toList, C9 P e with
   | some te, some q, some z => match datum s te z with
    | some x => match F7 s te q (List.replicate len x) with
     | some xs => if len * te.size ≤ 16777216 then some (fun s => Bb s (q.flatMap fun x => Bg x.2), ⟨e, te, xs⟩) else none
     | none => none
    | none => none
   | _, _, _ => none
  | none => none
 | .call { callee := .builtin .append, args := as, argTypes := ts } => match as.toList, ts.toList with
  | [a, b], [t, u] => if t = u then
    (match Ai (s.get a), Ai (s.get b), A7 P t with
    | some a, some b, some e => Gw P s e a b
    | _, _, _ => none)
   else if Hs P u then
    (match Ai (s.get a), Ai (s.get b), A7 P t with
    | some a, some (.pv ⟨.str, y⟩), some e => if Ih P e then Gw P s e a (pvL (.int .u8) y) else none
    | _, _, _ => none)
   else none
  | _, _ => none
 | _ => none
theorem Ar9 {P : Program} {d e : Nat} {a b : L} : (Hg P s d e a b).val = (Gw P s e a b).bind fun x => (Ch (x.1 s) d x.2).val := by
 unfold Hg Gw
 cases h1 : Cj P e with
 | none => rfl
 | some t =>
  cases a with
  | own l =>
   simp only []
   cases h2 : Ab s l with
   | none => rfl
   | some w =>
    simp only []
    by_cases h3 : w.e = e
    ·rw [if_pos h3, if_pos h3]
     cases h4 : asTy (.slice t) ⟨.slice w.t, w.xs⟩ with
     | none => rfl
     | some xs =>
      cases h5 : Fr s t b with
      | none => rfl
      | some ys =>
       simp only [Oc.val]
       cases C5 P e _ _ <;> rfl
    ·rw [if_neg h3, if_neg h3]; rfl
  | cst k =>
   cases k with
   | sl =>
    simp only []
    cases h5 : Fr s t b with
    | none => rfl
    | some ys =>
     simp only [Oc.val]
     cases C5 P e _ _ <;> rfl
   | _ => rfl
  | _ => rfl
theorem Aqp {op : Op} (h : N7 op = true) : (∃ t len ps, op = .buildSlice t len ps) ∨ ∃ as ts, op = .call { callee := .builtin .append, args := as, argTypes := ts } := by
 unfold N7 at h
 split at h
 ·exact .inl ⟨_, _, _, rfl⟩
 ·exact .inr ⟨_, _, rfl⟩
 ·cases h
theorem Asc {d : Nat} {op : Op} (h : N7 op = true) : (opE C s (some d) op).val = (Fl C.P s op).bind fun x => (Ch (x.1 s) d x.2).val := by
 rcases Aqp h with ⟨t, len, ps, rfl⟩ | ⟨as, ts, rfl⟩
 ·simp only [opE, Fl]
  cases h1 : A7 C.P t with
  | none => rfl
  | some e =>
   simp only []
   cases h2 : Cj C.P e with
   | none => rfl
   | some te =>
    cases h3 : Br s ps.toList with
    | none => rfl
    | some q =>
     cases h4 : C9 C.P e with
     | none => rfl
     | some z =>
      simp only []
      cases h5 : datum s te z with
      | none => rfl
      | some x =>
       simp only []
       cases h6 : F7 s te q (List.replicate len x) with
       | none => rfl
       | some xs =>
        simp only []
        by_cases h7 : len * te.size ≤ 16777216
        ·rw [if_pos h7, if_pos h7]; rfl
        ·rw [if_neg h7, if_neg h7]; rfl
 ·simp only [opE, Fl]
  match as.toList, ts.toList with
  | [], _ => rfl
  | [a], _ => rfl
  | a :: b :: c :: r, _ => rfl
  | [a, b], [] => rfl
  | [a, b], [t] => rfl
  | [a, b], t :: u :: v :: r => rfl
  | [a, b], [t, u] =>
   simp only []
   by_cases h1 : t = u
   ·rw [if_pos h1, if_pos h1]
    cases h2 : Ai (s.get a) with
    | none => rfl
    | some la =>
     cases h3 : Ai (s.get b) with
     | none => rfl
     | some lb =>
      cases h4 : A7 C.P t with
      | none => rfl
      | some e => exact Ar9
   ·rw [if_neg h1, if_neg h1]
    by_cases h5 : Hs C.P u = true
    ·rw [if_pos h5, if_pos h5]
     cases h2 : Ai (s.get a) with
     | none => rfl
     | some la =>
      cases h3 : Ai (s.get b) with
      | none => rfl
      | some lb =>
       cases h4 : A7 C.P t with
       | none => cases lb with
        | pv p => obtain ⟨pt, px⟩ := p; cases pt <;> rfl
        | _ => rfl
       | some e => cases lb with
        | pv p =>
         obtain ⟨pt, px⟩ := p
         cases pt with
         | str =>
          simp only []
          by_cases h6 : Ih C.P e = true
          ·rw [if_pos h6, if_pos h6]; exact Ar9
          ·rw [if_neg h6, if_neg h6]; rfl
         | _ => rfl
        | _ => rfl
    ·rw [if_neg h5, if_neg h5]; rfl
theorem A80 {P : Program} {e : Nat} {a b : L} {x : (St → St) × Own} (h : Gw P s e a b = some x) : Nat1 x.1 := by
 unfold Gw at h
 repeat' split at h
 all_goals first
  | cases h
  | skip
 ·cases hb : C5 P e _ _ <;> rw [hb] at h <;> cases h
  exact A8f _
 ·cases hb : C5 P e _ _ <;> rw [hb] at h <;> cases h
  exact Ac5
theorem Asa {P : Program} {op : Op} {x : (St → St) × Own} (h : Fl P s op = some x) : Nat1 x.1 := by
 unfold Fl at h
 repeat' split at h
 all_goals first
  | (cases h; done)
  | exact A80 h
  | (cases h; exact Arh _)
  | skip
theorem A8z {e : Nat} {t : Ty} {l : L} : plOf (s.put (some e) v) t l = plOf s t l := by cases l <;> rfl
theorem Ase {e : Nat} : ∀ (ts : List Ty) (ls : List L), Gx (s.put (some e) v) ts ls = Gx s ts ls
 | [], [] => rfl
 | [], _ :: _ => rfl
 | _ :: _, [] => rfl
 | t :: ts, l :: ls => by simp only [Gx, A8z, Ase ts ls]
theorem Af9 {e : Nat} {t : Ty} {ls : List L} : datum (s.put (some e) v) t ls = datum s t ls := by simp only [datum, Ase]
theorem Ar2 {e : Nat} {t : Ty} : ∀ (ps : List (Nat × List L)) (xs : List t.den), F7 (s.put (some e) v) t ps xs = F7 s t ps xs
 | [], _ => rfl
 | (i, ls) :: r, xs => by
  simp only [F7, Af9]
  split
  ·congr 1; funext x; exact Ar2 r _
  ·rfl
theorem A81 {P : Program} {d e : Nat} {a b : L} : Gw P (s.put (some d) v) e a b = Gw P s e a b := by
 have h : ∀ (t : Ty) (b : L), Fr (s.put (some d) v) t b = Fr s t b := fun t b => by cases b <;> rfl
 unfold Gw
 simp only [h]
 rfl
theorem Asb {P : Program} {d : Nat} {op : Op} (hop : N7 op = true) (h : ∀ x ∈ op.operands, x ≠ .tmp d) : Fl P (s.put (some d) v) op = Fl P s op := by
 rcases Aqp hop with ⟨t, len, ps, rfl⟩ | ⟨as, ts, rfl⟩
 ·simp only [Fl, Af9, Ar2]
  rw [T0 ps.toList fun x hx => h x.2 (by simp only [Op.operands]; exact List.mem_toArray.2 (List.mem_map.2 ⟨x, hx, rfl⟩))]
 ·simp only [Fl]
  cases has : as.toList with
  | nil => rfl
  | cons a r =>
   cases r with
   | nil => rfl
   | cons b r2 =>
    cases r2 with
    | cons c r3 => rfl
    | nil =>
     have hmem : ∀ z ∈ as.toList, z ≠ .tmp d := fun z hz => h z (by simp [Op.operands, Call.operands]; exact Array.mem_def.2 hz)
     rw [has] at hmem
     have ha : a ≠ .tmp d := hmem a (by simp)
     have hb : b ≠ .tmp d := hmem b (by simp)
     cases ts.toList with
     | nil => rfl
     | cons t r4 =>
      cases r4 with
      | nil => rfl
      | cons u r5 =>
       cases r5 with
       | cons u2 r6 => rfl
       | nil => simp only [A0 ha, A0 hb, A81]
end
structure Clo (p : L → Bool) : Prop where
 dead : p .dead = true
 pv : ∀ x, p (.pv x) = true
 cst : ∀ k, p (.cst k) = true
 rpt : ∀ l, p (.rpt l) = true
 ifc : ∀ t l g, p (.ifc t l g) = true
 err : ∀ b, p (.err b) = true
 ptr : ∀ b o o', p (.ptr b o) = true → p (.ptr b o') = true
 ept : ∀ l i o z i' o' z', p (.ept l i o z) = true → p (.ept l i' o' z') = true
 own : ∀ l i o z, p (.own l) = true → p (.ept l i o z) = true
 erp : ∀ z t ps, p (.erp z t ps) = true
 orp : ∀ z ps, p (.orp z ps) = true
 sb : ∀ b o n, p (.ptr b o) = true → p (.sb b n) = true
 sbp : ∀ b o n, p (.sb b n) = true → p (.ptr b o) = true
 ifp : ∀ t b o o', p (.ptr b o) = true → p (.ifp t b o') = true
 fn : ∀ f a c, (∀ x ∈ a, p (.ptr x.1 x.2) = true) → (∀ x ∈ c, p (.ptr x.1 x.2) = true) → p (.fn f a c) = true
theorem P1 (n : Nat) : Clo (L.noB n) := ⟨rfl, fun _ => rfl, fun _ => rfl, fun _ => rfl, fun _ _ _ => rfl, fun _ => rfl, fun _ _ _ h => h, fun _ _ _ _ _ _ _ _ => rfl, fun _ _ _ _ _ => rfl, fun _ _ _ => rfl, fun _ _ => rfl, fun _ _ _ h => h, fun _ _ _ h => h, fun _ _ _ _ h => h, fun f a c h1 h2 => by
 simp only [L.noB, Bool.and_eq_true, List.all_eq_true]
 exact ⟨h1, h2⟩⟩
theorem L8 (n : Nat) : Clo (L.noO n) := ⟨rfl, fun _ => rfl, fun _ => rfl, fun _ => rfl, fun _ _ _ => rfl, fun _ => rfl, fun _ _ _ _ => rfl, fun _ _ _ _ _ _ _ h => h, fun _ _ _ _ h => h, fun _ _ _ => rfl, fun _ _ => rfl, fun _ _ _ _ => rfl, fun _ _ _ _ => rfl, fun _ _ _ _ _ => rfl, fun _ _ _ _ _ => rfl⟩
section
variable {C : Cfg} {s s' t : St} {v : AV} {o : Oper} {p : L → Bool}
theorem Pz (hp : Clo p) (v : Value) : p (A2 v) = true := by
 unfold A2
 split <;> (try split) <;> first | exact hp.pv _ | exact hp.cst _ | exact hp.dead
theorem Hj (hp : Clo p) (h : s.all p = true) (x : Operand) : (s.get x).all p = true :=
 Us (Pz hp) (fun f => hp.fn f [] [] (by simp) (by simp)) h x
theorem In (hp : Clo p) (h : s.all p = true) {x : Operand} {l : L} (hl : Ai (s.get x) = some l) : p l = true := by
 have := Hj hp h x
 rw [Aq2 hl] at this
 simpa [lf, AV.all, CV.leaves] using this
theorem Aft (hp : Clo p) (h : s.all p = true) {x : Operand} {ls : List L} (hl : Dl (s.get x) = some ls) : ∀ l ∈ ls, p l = true :=
 Acx (Hj hp h x) hl
theorem Bz {l : L} (h : p l = true) : (lf l).all p = true := by simpa [lf, AV.all, CV.leaves] using h
theorem Aew {ls : List L} (h : ∀ l ∈ ls, p l = true) : AV.all p (.cv (.agg ls)) = true := by simpa [AV.all, CV.leaves, List.all_eq_true] using h
theorem Ae0 {agg : Bool} {ls : List L} (hm : mkAV agg ls = some v) (h : ∀ l ∈ ls, p l = true) : v.all p = true := by
 unfold mkAV at hm
 split at hm
 ·cases hm; exact Aew h
 ·split at hm
  ·cases hm; exact Bz (h _ (by simp))
  ·cases hm
theorem Awp (hp : Clo p) (h : s.all p = true) {n : Nat} {l : L} {ls : List L} (hl : B1 s n l = some ls) : ∀ l' ∈ ls, p l' = true := by
 intro l' hl'
 cases l with
 | ptr b k =>
  simp only [B1] at hl
  obtain ⟨q0, h5, h6⟩ := Option.bind_eq_some_iff.1 hl
  split at h6
  ·cases h6; exact He h h5 l' (List.mem_of_mem_drop (List.mem_of_mem_take hl'))
  ·cases h6
 | rpt ps =>
  simp only [B1] at hl
  split at hl
  ·cases hl; simp only [pvs, List.mem_map] at hl'; obtain ⟨x, _, rfl⟩ := hl'; exact hp.pv _
  ·cases hl
 | ept l i k z =>
  simp only [B1] at hl
  obtain ⟨q0, h5, h6⟩ := Option.bind_eq_some_iff.1 hl
  split at h6
  ·cases h6; simp only [pvs, List.mem_map] at hl'; obtain ⟨x, _, rfl⟩ := hl'; exact hp.pv _
  ·cases h6
 | _ => cases hl
theorem Aex (fs : Nat → Option (Nat × Nat)) : ∀ (q : List (Nat × List L)) (ls ls' : List L), Et fs ls q = some ls' → (∀ l ∈ ls, p l = true) → (∀ x ∈ q, ∀ l ∈ x.2, p l = true) → ∀ l ∈ ls', p l = true
 | [], ls, ls', h, h1, h2 => by cases h; exact h1
 | (i, new) :: r, ls, ls', h, h1, h2 => by
  simp only [Et] at h
  obtain ⟨x, h3, h4⟩ := Option.bind_eq_some_iff.1 h
  split at h4
  ·refine Aex fs r _ ls' h4 (fun l hl => ?_) fun x hx => h2 x (by simp [hx])
   simp only [splice, List.mem_append] at hl
   rcases hl with (hl | hl) | hl
   ·exact h1 l (List.mem_of_mem_take hl)
   ·exact h2 (i, new) (by simp) l hl
   ·exact h1 l (List.mem_of_mem_drop hl)
  ·cases h4
theorem Uv (hp : Clo p) (h : s.all p = true) : ∀ (ps : List (Nat × Operand)) (q : List (Nat × List L)), Br s ps = some q → ∀ x ∈ q, ∀ l ∈ x.2, p l = true
 | [], q, hq => by cases hq; simp
 | (i, x) :: r, q, hq => by
  simp only [Br] at hq
  obtain ⟨ls, h1, h2⟩ := Option.bind_eq_some_iff.1 hq
  obtain ⟨q', h3, rfl⟩ := Option.map_eq_some_iff.1 h2
  intro y hy
  rcases List.mem_cons.1 hy with rfl | hy
  ·exact Aft hp h h1
  ·exact Uv hp h r q' h3 y hy
theorem Uw (hp : Clo p) (h : s.all p = true) : ∀ (xs : List Operand) (ps : List (Nat × Nat)), Df s xs = some ps → ∀ x ∈ ps, p (.ptr x.1 x.2) = true
 | [], ps, hq => by cases hq; simp
 | x :: r, ps, hq => by
  simp only [Df] at hq
  split at hq
  ·rename_i b o' hl
   obtain ⟨q', h3, rfl⟩ := Option.map_eq_some_iff.1 hq
   intro y hy
   rcases List.mem_cons.1 hy with rfl | hy
   ·exact In hp h hl
   ·exact Uw hp h r q' h3 y hy
  ·cases hq
theorem F6 {α : Type} {x : Option α} {v : α} (h : (Oc.ofOption x).val = some v) : x = some v := by rw [Oc.val_ofOption] at h; exact h
theorem Hw {α : Type} {c : Bool} {n : Oc α} {v : α} (h : (Oc.guard c n).val = some v) : n.val = some v := by
 simp only [Oc.val] at h
 cases c
 ·cases h
 ·exact h
theorem opV_all (hp : Clo p) (h : s.all p = true) {op : Op} {P : Program} (hv : (opV P s op).val = some v) : v.all p = true := by
 have hpv : ∀ x, (lf (.pv x)).all p = true := fun x => Bz (hp.pv x)
 cases op with
 | move x => cases hv; exact Hj hp h x
 | assign x => cases hv; exact Hj hp h x
 | pick c a b =>
  simp only [opV] at hv
  split at hv
  ·rename_i c _
   simp only [Oc.val] at hv
   cases c <;> cases hv <;> exact Hj hp h _
  ·cases hv
 | build t ps =>
  simp only [opV] at hv
  split at hv
  ·rename_i z q f hz hq hf
   obtain ⟨ls, h1, rfl⟩ := Option.map_eq_some_iff.1 (F6 hv)
   refine Aew (Aex f q z ls h1 ?_ (Uv hp h _ _ hq))
   obtain ⟨i, u, _, _, rfl, _⟩ := G9 hz
   intro l hl
   obtain ⟨u, _, rfl⟩ := List.mem_map.1 hl
   exact Pz hp u
  ·cases hv
 | load t a =>
  simp only [opV] at hv
  split at hv
  ·split at hv
   ·obtain ⟨ls, h1, h2⟩ := Option.bind_eq_some_iff.1 (F6 hv)
    exact Ae0 h2 (Awp hp h h1)
   ·cases hv
  ·cases hv
 | nilCheck x =>
  simp only [opV] at hv
  split at hv <;> first | (cases hv; done) | (rename_i hl; cases hv; exact Bz (In hp h hl)) | (have := Hw hv; cases this; exact Bz (hp.rpt _))
 | binOp op ty x y ty2 =>
  simp only [opV] at hv
  split at hv
  ·split at hv
   ·cases hv; exact hpv _
   ·cases hv; exact hpv _
   ·rw [Oc.val_bind] at hv
    obtain ⟨r, h1, h2⟩ := Option.bind_eq_some_iff.1 hv
    cases h2
    unfold Pj at h1
    split at h1
    ·split at h1
     ·split at h1
      ·have := Hw h1; cases this; exact hpv _
      ·cases h1
     ·cases h1
    ·split at h1 <;> first | (cases h1; done) | (cases h1; exact hpv _)
  ·split at hv
   ·obtain ⟨r, _, rfl⟩ := Option.map_eq_some_iff.1 (F6 hv); exact hpv _
   ·obtain ⟨r, _, rfl⟩ := Option.map_eq_some_iff.1 (F6 hv); exact hpv _
   ·cases hv
 | unOp op ty x =>
  simp only [opV] at hv
  split at hv
  ·obtain ⟨r, _, rfl⟩ := Option.map_eq_some_iff.1 (F6 hv); exact hpv _
  ·cases hv
 | convert a b x =>
  simp only [opV] at hv
  repeat' split at hv
  all_goals first | (cases hv; done) | (cases hv; exact hpv _)
 | makeInterface t x =>
  simp only [opV] at hv
  split at hv
  ·cases hv
  ·split at hv
   ·rename_i hl
    cases hv
    have h1 := Hj hp h x
    rw [hl] at h1
    exact Bz (hp.ifp _ _ _ _ (by simpa [AV.all, CV.leaves] using h1))
   ·obtain ⟨r, _, rfl⟩ := Option.map_eq_some_iff.1 (F6 hv); exact Bz (hp.ifc _ _ _)
   ·obtain ⟨r, _, rfl⟩ := Option.map_eq_some_iff.1 (F6 hv); exact Bz (hp.ifc _ _ _)
   ·cases hv
 | makeFunc f x y =>
  cases f with
  | func f =>
   simp only [opV] at hv
   split at hv
   ·rename_i a c h1 h2
    cases hv
    exact Bz (hp.fn _ _ _ (Uw hp h _ _ h1) (Uw hp h _ _ h2))
   ·cases hv
  | _ => cases hv
 | fieldAddr S x f =>
  simp only [opV] at hv
  split at hv
  ·rename_i hl; cases hv; exact Bz (hp.ptr _ _ _ (In hp h hl))
  ·cases hv; exact Bz (hp.rpt _)
  ·rename_i hl; cases hv; exact Bz (hp.ept _ _ _ _ _ _ _ (In hp h hl))
  ·cases hv
 | field S x f =>
  simp only [opV] at hv
  split at hv
  ·rename_i k t ls _ hg
   split at hv
   ·split at hv
    ·refine Ae0 (F6 hv) fun l hl => ?_
     have := Hj hp h x
     rw [hg] at this
     simp only [AV.all, CV.leaves, List.all_eq_true] at this
     exact this l (List.mem_of_mem_drop (List.mem_of_mem_take hl))
    ·cases hv
   ·cases hv
  ·cases hv
 | indexAddr T x y =>
  simp only [opV] at hv
  split at hv
  ·rename_i hl _
   split at hv
   ·split at hv
    ·have := Hw hv; cases this; exact Bz (hp.own _ _ _ _ (In hp h hl))
    ·cases hv
   ·cases hv
  ·split at hv
   ·have := Hw hv; cases this; exact Bz (hp.rpt _)
   ·cases hv
  ·rename_i hl _
   split at hv
   ·have := Hw hv; cases this; exact Bz (hp.sbp _ _ _ (In hp h hl))
   ·cases hv
  ·rename_i hl _
   split at hv
   ·have := Hw hv; cases this; exact Bz (hp.ptr _ _ _ (In hp h hl))
   ·cases hv
  ·cases hv
 | index T x y =>
  simp only [opV] at hv
  split at hv
  ·have := Hw hv; cases this; exact hpv _
  ·cases hv
 | extract x i =>
  simp only [opV] at hv
  split at hv
  ·rename_i cs hg
   split at hv
   ·rename_i c hc
    cases hv
    have := Hj hp h x
    rw [hg] at this
    simp only [AV.all, List.all_eq_true] at this
    have h2 := this c (List.mem_of_getElem? hc)
    simpa [AV.all, List.all_eq_true] using h2
   ·cases hv
  ·cases hv
 | slice T x lo hi mx =>
  cases mx with
  | some m => cases hv
  | none =>
   simp only [opV] at hv
   repeat' split at hv
   all_goals first | (cases hv; done) | (have := Hw hv; cases this; exact hpv _)
 | call c =>
  obtain ⟨f, as, ts⟩ := c
  cases f with
  | builtin b =>
   cases b <;> first | (cases hv; done) | skip
   ·simp only [opV] at hv
    repeat' split at hv
    all_goals first | (cases hv; done) | (cases hv; exact hpv _)
   ·simp only [opV] at hv
    split at hv
    ·obtain ⟨r, _, rfl⟩ := Option.map_eq_some_iff.1 (F6 hv); exact hpv _
    ·cases hv
   ·simp only [opV] at hv
    split at hv
    ·obtain ⟨r, _, rfl⟩ := Option.map_eq_some_iff.1 (F6 hv); exact hpv _
    ·cases hv
  | _ => cases hv
 | _ => cases hv
theorem Aez {f : L → L} (hf : ∀ l, p l = true → p (f l) = true) {v : AV} (h : v.all p = true) : (v.map f).all p = true := by
 have hc : ∀ c : CV, c.leaves.all p = true → (c.map f).leaves.all p = true := by
  intro c h
  cases c with
  | lf l => simp [CV.leaves, CV.map] at h ⊢; exact hf l h
  | agg ls => simp [CV.leaves, CV.map] at h ⊢; exact fun l hl => hf l (h l hl)
 cases v with
 | dead => rfl
 | cv c => exact hc c h
 | tup cs =>
  simp only [AV.all, AV.map, List.all_eq_true, List.mem_map] at h ⊢
  rintro c ⟨c0, hc0, rfl⟩
  have := hc c0 (by simpa [List.all_eq_true] using h c0 hc0)
  simpa [List.all_eq_true] using this
theorem Uu {f : L → L} (hf : ∀ l, p (f l) = true) (v : AV) : (v.map f).all p = true := by
 have hc : ∀ c : CV, (c.map f).leaves.all p = true := by
  intro c
  cases c with
  | lf l => simpa [CV.leaves, CV.map] using hf l
  | agg ls => simp [CV.leaves, CV.map]; exact fun l _ => hf l
 cases v with
 | dead => rfl
 | cv c => exact hc c
 | tup cs =>
  simp only [AV.all, AV.map, List.all_eq_true, List.mem_map]
  rintro c ⟨c0, hc0, rfl⟩
  have := hc c0
  simpa [List.all_eq_true] using this
theorem Ae2 {as : List AV} (h : ∀ a ∈ as, a.all p = true) (hv : Ie as = some v) : v.all p = true := by
 unfold Ie at hv
 split at hv
 ·cases hv; exact h _ (by simp)
 ·obtain ⟨cs, h1, rfl⟩ := Option.map_eq_some_iff.1 hv
  simp only [AV.all, List.all_eq_true]
  clear hv
  rename_i l hne
  clear hne
  induction as generalizing cs with
  | nil => cases h1; simp
  | cons a as ih =>
   simp only [List.foldr_cons] at h1
   split at h1
   ·rename_i c
    obtain ⟨q, h2, rfl⟩ := Option.map_eq_some_iff.1 h1
    intro x hx
    rcases List.mem_cons.1 hx with rfl | hx
    ·have := h (.cv x) (by simp); simpa [AV.all, List.all_eq_true] using this
    ·exact ih (fun b hb => h b (by simp [hb])) q h2 x hx
   ·cases h1
theorem Ae1 (hp : Clo p) {o : St} {rB rO : List Nat} (hB : ∀ b ∈ rB, ∀ k, p (.ptr b k) = true) (hb2 : ∀ b ∈ rB, ∀ t z, p (.bld b t z) = true) (hO : ∀ l ∈ rO, p (.own l) = true) (l : L) : p (renL o rB rO l) = true := by
 have hps : ∀ (a a' : List (Nat × Nat)), Jd rB a = some a' → ∀ x ∈ a', p (.ptr x.1 x.2) = true := by
  intro a
  induction a with
  | nil => intro a' h; cases h; simp
  | cons y r ih =>
   intro a' h
   simp only [Jd] at h
   obtain ⟨b, h1, h2⟩ := Option.bind_eq_some_iff.1 h
   obtain ⟨q, h3, rfl⟩ := Option.map_eq_some_iff.1 h2
   intro x hx
   rcases List.mem_cons.1 hx with rfl | hx
   ·exact hB b (List.mem_of_getElem? h1) _
   ·exact ih q h3 x hx
 cases l with
 | ptr b k =>
  simp only [renL]
  split
  ·rename_i h1; exact hB _ (List.mem_of_getElem? h1) _
  ·exact hp.dead
 | own l =>
  simp only [renL]
  split
  ·rename_i h1; exact hO _ (List.mem_of_getElem? h1)
  ·exact hp.dead
 | ept l i k z =>
  simp only [renL]
  split
  ·rename_i h1; exact hp.own _ _ _ _ (hO _ (List.mem_of_getElem? h1))
  ·exact hp.dead
 | fn f a c =>
  simp only [renL]
  split
  ·rename_i h1 h2; exact hp.fn _ _ _ (hps _ _ h1) (hps _ _ h2)
  ·exact hp.dead
 | bld b t z =>
  simp only [renL]
  split
  ·rename_i h1; exact hb2 _ (List.mem_of_getElem? h1) _ _
  ·exact hp.dead
 | sb b n =>
  simp only [renL]
  split
  ·rename_i h1; exact hp.sb _ 0 _ (hB _ (List.mem_of_getElem? h1) 0)
  ·exact hp.dead
 | ifp t b k =>
  simp only [renL]
  split
  ·rename_i h1; exact hp.ifp _ _ 0 _ (hB _ (List.mem_of_getElem? h1) 0)
  ·exact hp.dead
 | erp z t ps => exact hp.erp _ _ _
 | orp z ps => exact hp.orp _ _
 | dead => exact hp.dead
 | pv x => exact hp.pv x
 | cst k => exact hp.cst k
 | rpt l => exact hp.rpt l
 | ifc t l g => exact hp.ifc _ _ _
 | err b => exact hp.err b
theorem Pn (hp : Clo p) {args : List AV} : ∀ (sgs : List Sig), (Eo s args sgs).val = some v → v.all p = true
 | [], h => by cases h
 | g :: r, h => by
  simp only [Eo] at h
  split at h
  ·exact Pn hp r h
  split at h
  ·split at h
   ·simp only [Oc.val] at h
    obtain ⟨q, hq, h2⟩ := Option.bind_eq_some_iff.1 h
    rw [Oc.val_ofOption] at h2
    unfold backV at h2
    split at h2
    ·refine Ae2 (fun a ha => ?_) h2
     obtain ⟨a0, _, rfl⟩ := List.mem_map.1 ha
     exact Uu (fun l => Ae1 hp (by simp) (by simp) (by simp) l) a0
    ·cases h2
   ·exact Pn hp r h
  ·exact Pn hp r h
theorem Aes (hp : Clo p) (h : s.all p = true) (hv : Vv C o s = some v) : v.all p = true := by
 unfold Vv at hv
 split at hv
 ·unfold opVD at hv
  split at hv
  ·split at hv
   ·exact Pn hp _ hv
   ·cases hv
  ·exact opV_all hp h hv
 ·cases hv
theorem Li (hp : Clo p) (h : s.all p = true) {ops : Array Oper} (hv : Vg C ops o s = some v) : v.all p = true := by
 unfold Vg at hv
 repeat' split at hv
 all_goals first | (cases hv; done) | exact Aes hp h hv | (cases hv; rfl)
theorem Ej {d : Option Nat} (h : s.all p = true) (hv : v.all p = true) : (s.put d v).all p = true := by
 cases d with
 | none => exact h
 | some e =>
  simp only [St.all, St.put, Bool.and_eq_true, List.all_eq_true] at h ⊢
  refine ⟨fun x hx => ?_, h.2⟩
  rcases List.mem_or_eq_of_mem_set hx with h1 | h1
  ·exact h.1 x h1
  ·rw [h1]; exact hv
theorem O9 {b : Nat} {ls : List L} (h : s.all p = true) (hl : ∀ l ∈ ls, p l = true) : (Aq s b ls).all p = true := by
 simp only [St.all, Aq, Bool.and_eq_true, List.all_eq_true] at h ⊢
 refine ⟨h.1, fun x hx => ?_⟩
 rcases List.mem_or_eq_of_mem_set hx with h1 | h1
 ·exact h.2 x h1
 ·subst h1
  exact List.all_eq_true.2 hl
theorem Ae4 {l : Nat} {x : Option Own} (h : s.all p = true) : (Ar s l x).all p = true := h
theorem Vj (hp : Clo p) {D : Nat → Bool} {q : Nat → Option PL} {l : L} (h : p l = true) : p (fD D q l) = true := by
 cases l with
 | own m =>
  simp only [fD]
  split
  ·split
   ·exact hp.pv _
   ·exact hp.dead
  ·exact h
 | ept m i o z =>
  simp only [fD]
  split
  ·exact hp.dead
  ·exact h
 | _ => exact h
theorem Aqi (hp : Clo p) {D : Nat → Bool} {q : Nat → Option PL} (g : GM s t D q) (h : s.all p = true) : t.all p = true := by
 simp only [St.all, Bool.and_eq_true, List.all_eq_true] at h ⊢
 constructor
 ·rw [g.slots]
  intro v hv
  obtain ⟨v0, h0, rfl⟩ := List.mem_map.1 hv
  exact Aez (fun l hl => Vj hp hl) (h.1 v0 h0)
 ·rw [g.boxes]
  intro b hb
  obtain ⟨b0, h0, rfl⟩ := List.mem_map.1 hb
  have := h.2 b0 h0
  cases b0 with
  | none => rfl
  | some ls =>
   simp only [Option.map_some, List.all_map, List.all_eq_true, Function.comp] at this ⊢
   exact fun l hl => Vj hp (this l hl)
theorem Ae3 {o : St} {f : L → L} (hf : ∀ l, p (f l) = true) : ∀ (rB : List Nat) (i0 : Nat) {s : St}, s.all p = true → (B2 s o f i0 rB).all p = true
 | [], i0, s, h => h
 | b :: r, i0, s, h => by
  simp only [B2]
  refine Ae3 hf r _ ?_
  simp only [St.all, Bool.and_eq_true, List.all_eq_true] at h ⊢
  refine ⟨h.1, fun x hx => ?_⟩
  rcases List.mem_or_eq_of_mem_set hx with h1 | h1
  ·exact h.2 x h1
  ·subst h1
   cases Aa o i0 with
   | none => rfl
   | some ls =>
    simp only [Option.map_some, List.all_eq_true, List.mem_map]
    rintro l ⟨l0, _, rfl⟩
    exact hf l0
theorem Ae5 {o : St} : ∀ (rO : List Nat) (i0 : Nat) {s : St}, s.all p = true → (Cm s o i0 rO).all p = true
 | [], i0, s, h => h
 | b :: r, i0, s, h => by
  simp only [Cm]
  exact Ae5 r _ (Ae4 h)
theorem Lb {a b : List Nat} (h : subN a b = true) {x : Nat} (hx : x ∈ a) : x ∈ b := by
 simpa using List.all_eq_true.1 h x hx
theorem Awv {c : Co} {o : St} {d nb no : Nat} (h : back s c o d nb no = some s') (hb : (c.br.isEmpty || Bo o) = true) :
  Ds s o d (c.mB.map some ++ List.replicate (nb - c.mB.length) none) (c.mO ++ List.replicate (no - c.mO.length) none)
   (Di (N0 + d) s.slots.length (c.mB.map some ++ List.replicate (nb - c.mB.length) none) 0) (Di (N0 + d) s.slots.length (c.mO ++ List.replicate (no - c.mO.length) none) 0) = some s' := by
 unfold back at h
 simp only [hb, if_true] at h
 split at h
 ·cases h
 ·exact h
theorem Afc {o : St} {d : Nat} {oB oO : List (Option Nat)} {rB rO : List Nat} (h : Ds s o d oB oO rB rO = some s') :
  (chkB s oB rB && chkO s oO rO && chkT s o 0 oO && Ca rB && Ca rO) = true ∧ ∃ v, Ie (o.slots.map (AV.map (renL o rB rO))) = some v ∧ s' = (Cm (B2 s o (renL o rB rO) 0 rB) o 0 rO).put (some d) v := by
 unfold Ds at h
 split at h
 ·rename_i hc
  obtain ⟨v, h1, h2⟩ := Option.map_eq_some_iff.1 h
  exact ⟨hc, v, h1, h2.symm⟩
 ·cases h
theorem Lq {d : Nat} {args : List AV} {W : (List Nat × List Nat) × (List Nat × List Nat)} : ∀ (sgs : List Sig), (Dt s d args W sgs).val = some s' →
  ∃ (o : St) (oB oO : List (Option Nat)), okK s.slots.length d oB W.1.1 W.2.1 = true ∧ okK s.slots.length d oO W.1.2 W.2.2 = true ∧
   Ds s o d oB oO (Di (N0 + d) s.slots.length oB 0) (Di (N0 + d) s.slots.length oO 0) = some s'
 | [], h => by cases h
 | g :: r, h => by
  simp only [Dt] at h
  split at h
  ·exact Lq r h
  split at h
  ·split at h
   ·simp only [Oc.val] at h
    obtain ⟨q, hq, h2⟩ := Option.bind_eq_some_iff.1 h
    rw [Oc.val_ofOption] at h2
    obtain ⟨h3, h4, h5, h6⟩ := Afb h2
    exact ⟨_, _, _, h5, h6, Awv h3 h4⟩
   ·exact Lq r h
  ·exact Lq r h
theorem Axd (hp : Clo p) {d : Nat} {args : List AV} {W : (List Nat × List Nat) × (List Nat × List Nat)} {sgs : List Sig} (h : (Dt s d args W sgs).val = some s') (hs : s.all p = true)
  (hB : ∀ b ∈ W.1.1 ++ W.2.1, ∀ k, p (.ptr b k) = true) (hb2 : ∀ b ∈ W.1.1 ++ W.2.1, ∀ t z, p (.bld b t z) = true) (hO : ∀ l ∈ W.1.2 ++ W.2.2, p (.own l) = true) : s'.all p = true := by
 obtain ⟨o, oB, oO, h1, h2, h3⟩ := Lq sgs h
 obtain ⟨_, v, h4, rfl⟩ := Afc h3
 unfold okK at h1 h2
 rw [Bool.and_eq_true] at h1 h2
 have hr : ∀ l, p (renL o (Di (N0 + d) s.slots.length oB 0) (Di (N0 + d) s.slots.length oO 0) l) = true :=
  Ae1 hp (fun b hb => hB b (Lb h1.1 hb)) (fun b hb => hb2 b (Lb h1.1 hb)) (fun l hl => hO l (Lb h2.1 hl))
 exact Ej (Ae5 _ _ (Ae3 hr _ _ hs)) (Ae2 (fun a ha => by
  obtain ⟨a0, _, rfl⟩ := List.mem_map.1 ha
  exact Uu hr a0) h4)
end
section
variable {C : Cfg} {s s' t : St} {v : AV} {o x y : Oper} {p : L → Bool} {ops : Array Oper}
theorem Ar3 : ∀ (ps : List (Nat × Operand)), (∀ x ∈ ps, t.get x.2 = s.get x.2) → Br t ps = Br s ps
 | [], _ => rfl
 | (i, x) :: r, h => by
  simp only [Br]
  rw [h (i, x) (by simp), Ar3 r fun y hy => h y (by simp [hy])]
theorem X8 : ∀ (xs : List Operand), (∀ x ∈ xs, t.get x = s.get x) → Df t xs = Df s xs
 | [], _ => rfl
 | x :: r, h => by
  simp only [Df]
  rw [h x (by simp), X8 r fun y hy => h y (by simp [hy])]
theorem Art {k : Int} {x : Option Operand} (h : ∀ y, x = some y → t.get y = s.get y) : A4 t k x = A4 s k x := by
 cases x with
 | none => rfl
 | some y => simp only [A4]; rw [h y rfl]
theorem A8q {P : Program} (op : Op) (hnl : ∀ T a, op ≠ .load T a) (h : ∀ x ∈ op.operands, t.get x = s.get x) (ho : isR op = true ∨ ∀ l, Ab t l = Ab s l) : opV P t op = opV P s op := by
 have hown : isR op = false → ∀ l, Ab t l = Ab s l := fun e => by
  rcases ho with ho | ho
  ·rw [e] at ho; cases ho
  ·exact ho
 cases op with
 | load T a => exact absurd rfl (hnl T a)
 | move x => simp only [opV]; rw [h x (by simp [Op.operands])]
 | assign x => simp only [opV]; rw [h x (by simp [Op.operands])]
 | pick c x y => simp only [opV]; rw [h c (by simp [Op.operands]), h x (by simp [Op.operands]), h y (by simp [Op.operands])]
 | build t ps =>
  simp only [opV]
  rw [Ar3 ps.toList fun x hx => h x.2 (by simp only [Op.operands]; exact List.mem_toArray.2 (List.mem_map.2 ⟨x, hx, rfl⟩))]
 | nilCheck x => simp only [opV]; rw [h x (by simp [Op.operands])]
 | binOp op t x y t' => simp only [opV]; rw [h x (by simp [Op.operands]), h y (by simp [Op.operands])]
 | unOp op t x => simp only [opV]; rw [h x (by simp [Op.operands])]
 | convert t1 t2 x =>
  have hb : ∀ l, I9 t l = I9 s l := fun l => by unfold I9; rw [hown rfl]
  simp only [opV, hb]; rw [h x (by simp [Op.operands])]
 | makeInterface t x => simp only [opV]; rw [h x (by simp [Op.operands])]
 | makeFunc f x y =>
  cases f with
  | func f =>
   simp only [opV]
   rw [X8 x.toList fun z hz => h z (by simp [Op.operands]; exact .inl (Array.mem_def.2 hz)), X8 y.toList fun z hz => h z (by simp [Op.operands]; exact .inr (Array.mem_def.2 hz))]
  | _ => rfl
 | fieldAddr S x f => simp only [opV]; rw [h x (by simp [Op.operands])]
 | field S x f => simp only [opV]; rw [h x (by simp [Op.operands])]
 | indexAddr T x y => simp only [opV, hown rfl]; rw [h x (by simp [Op.operands]), h y (by simp [Op.operands])]
 | index T x y => simp only [opV]; rw [h x (by simp [Op.operands]), h y (by simp [Op.operands])]
 | extract x i => simp only [opV]; rw [h x (by simp [Op.operands])]
 | slice T x lo hi mx =>
  cases mx with
  | some m => rfl
  | none =>
   have h1 : ∀ k, A4 t k lo = A4 s k lo := fun k => Art fun y hy => h y (by subst hy; simp [Op.operands])
   have h2 : ∀ k, A4 t k hi = A4 s k hi := fun k => Art fun y hy => h y (by subst hy; simp [Op.operands])
   simp only [opV, h1, h2]
   rw [h x (by simp [Op.operands])]
 | call c =>
  obtain ⟨f, as, ts⟩ := c
  cases f with
  | builtin b =>
   have hg : as.toList.map t.get = as.toList.map s.get := List.map_congr_left fun x hx => h x (by simp [Op.operands, Call.operands]; exact Array.mem_def.2 hx)
   cases b <;> first | rfl | skip
   ·simp only [opV, hown rfl]
    have : (as[0]?.bind fun x => Ai (t.get x)) = (as[0]?.bind fun x => Ai (s.get x)) := by
     cases he : as[0]? with
     | none => rfl
     | some x =>
      simp only [Option.bind_some]
      rw [h x (by simp [Op.operands, Call.operands]; exact Array.mem_of_getElem? he)]
    rw [this]
   ·simp only [opV, hg]
   ·simp only [opV, hg]
  | _ => rfl
 | _ => rfl
theorem A70 {dst : Option Nat} (op : Op) (h : ∀ x ∈ op.operands, t.get x = s.get x) : ldOk C t dst op = ldOk C s dst op := by
 cases op with
 | load T a => unfold ldOk; cases dst <;> simp only []; rw [h a (by simp [Op.operands])]
 | nilCheck a => unfold ldOk; cases dst <;> simp only []; rw [h a (by simp [Op.operands])]
 | fieldAddr S a f => unfold ldOk; cases dst <;> simp only []; rw [h a (by simp [Op.operands])]
 | _ => rfl
theorem Arn {op : Op} (h : A8 op = false) : opVD C s op = opV C.P s op := by
 unfold opVD
 split
 ·cases h
 ·rfl
theorem Awm {bs : List Nat} (hc : A8 y.op = false) (h : ∀ z ∈ y.op.operands, t.get z = s.get z) (ho : isR y.op = true ∨ (∃ T a, y.op = .load T a) ∨ ∀ l, Ab t l = Ab s l) (hr : Fn C y bs = true)
  (hb : ∀ b, b ∉ bs → Aa t b = Aa s b) : Vv C y t = Vv C y s := by
 unfold Vv
 rw [A70 _ h, Arn hc, Arn hc]
 by_cases hl : ∃ T a, y.op = .load T a
 ·obtain ⟨T, a, hop⟩ := hl
  cases hk : ldOk C s y.dst y.op with
  | false => rfl
  | true =>
   simp only [if_true]
   rw [hop] at hk h ⊢
   have hga := h a (by simp [Op.operands])
   unfold Fn at hr
   rw [hop] at hr
   cases hd : y.dst with
   | none => rw [hd] at hr; cases hr
   | some d =>
    rw [hd] at hr hk
    simp only [ldOk] at hr hk
    cases hlk : Bq C.ld d with
    | none => rw [hlk] at hr; cases hr
    | some r =>
     rw [hlk] at hr hk
     simp only [opV, hga]
     cases hlf : Ai (s.get a) with
     | none => rfl
     | some l =>
      rw [hlf] at hk
      simp only [] at hk
      have : ∀ n, B1 t n l = B1 s n l := by
       intro n
       cases l with
       | ptr b k =>
        simp only [ldL, beq_iff_eq] at hk
        subst hk
        simp only [B1]
        rw [hb b (by simpa using hr)]
       | rpt ps => rfl
       | _ => cases hk
      cases A1 C.P T with
      | none => rfl
      | some n => simp only [this]
 ·have ho' : isR y.op = true ∨ ∀ l, Ab t l = Ab s l := by
   rcases ho with ho | ho | ho
   ·exact .inl ho
   ·exact absurd ho hl
   ·exact .inr ho
  rw [A8q y.op (fun T a e => hl ⟨T, a, e⟩) h ho']
theorem O5 {bs : List Nat} (hc : A8 y.op = false) (h : ∀ z : Operand, (∀ e, z = .tmp e → e ∈ y.looksAt ops) → t.get z = s.get z) (ho : isR y.op = true ∨ (∃ T a, y.op = .load T a) ∨ ∀ l, Ab t l = Ab s l) (hr : Fn C y bs = true)
  (hb : ∀ b, b ∉ bs → Aa t b = Aa s b) : Vg C ops y t = Vg C ops y s := by
 have h1 : Vv C y t = Vv C y s := Awm hc (fun z hz => h z fun e he => by
  subst he
  exact List.mem_append_left _ (List.mem_filterMap.2 ⟨.tmp e, by simpa using hz, rfl⟩)) ho hr hb
 unfold Vg
 split
 ·exact h1
 ·rename_i j want hg
  split
  ·rename_i g hj
   rw [h (.tmp g) (fun e he => by cases he; exact List.mem_append_right _ (by simp [hg, hj]))]
   split
   ·rw [h1]
   ·rfl
  ·rfl
theorem Aqr {o : Oper} (h : isW o = true) : isV o.op = true ∧ (A8 o.op = true → o.dst ≠ none) := by
 simp only [isW, Bool.and_eq_true, Bool.or_eq_true, Bool.not_eq_true', Option.isSome_iff_ne_none] at h
 refine ⟨h.1, fun hc => ?_⟩
 rcases h.2 with h2 | h2
 ·rw [hc] at h2; cases h2
 ·exact h2
theorem sw_gen1 {φ : AV → AV} (ky : kk C y = .no) (hv : isV y.op = true) (hc : A8 y.op = false) (H1 : ∀ v, Vg C ops y s = some v → (Aj (opD C) ops (s.put y.dst v) x).val = ((Aj (opD C) ops s x).val).map fun z => z.put y.dst (φ v))
  (H2 : ∀ s1, (Aj (opD C) ops s x).val = some s1 → Vg C ops y s1 = (Vg C ops y s).map φ) {s1 s2 : St}
  (h1 : (Aj (opD C) ops s y).val = some s1) (h2 : (Aj (opD C) ops s1 x).val = some s2) : ∃ s3, (Aj (opD C) ops s x).val = some s3 ∧ (Aj (opD C) ops s3 y).val = some s2 := by
 have hcy : A8 y.op = true → y.dst ≠ none := fun e => by rw [hc] at e; cases e
 rw [If ky hv hcy] at h1
 obtain ⟨v, hv1, rfl⟩ := Option.map_eq_some_iff.1 h1
 rw [H1 v hv1] at h2
 obtain ⟨s3, h3, rfl⟩ := Option.map_eq_some_iff.1 h2
 refine ⟨s3, h3, ?_⟩
 rw [If ky hv hcy, H2 s3 h3, hv1]
 rfl
theorem sw_gen2 {φ : AV → AV} (ky : kk C y = .no) (hv : isV y.op = true) (hc : A8 y.op = false) (H1 : ∀ v, Vg C ops y s = some v → (Aj (opD C) ops (s.put y.dst v) x).val = ((Aj (opD C) ops s x).val).map fun z => z.put y.dst (φ v))
  (H2 : ∀ s1, (Aj (opD C) ops s x).val = some s1 → Vg C ops y s1 = (Vg C ops y s).map φ) {s1 s2 : St}
  (h1 : (Aj (opD C) ops s x).val = some s1) (h2 : (Aj (opD C) ops s1 y).val = some s2) : ∃ s3, (Aj (opD C) ops s y).val = some s3 ∧ (Aj (opD C) ops s3 x).val = some s2 := by
 have hcy : A8 y.op = true → y.dst ≠ none := fun e => by rw [hc] at e; cases e
 rw [If ky hv hcy, H2 s1 h1] at h2
 obtain ⟨u, hu, rfl⟩ := Option.map_eq_some_iff.1 h2
 obtain ⟨v, hv1, rfl⟩ := Option.map_eq_some_iff.1 hu
 refine ⟨s.put y.dst v, by rw [If ky hv hcy, hv1]; rfl, ?_⟩
 rw [H1 v hv1, h1]
 rfl
def FrO (C : Cfg) (o : Oper) (s : St) : Prop := (∀ n ∈ mkB C o, s.all (L.noB n) = true) ∧ ∀ n ∈ mkO C o, s.all (L.noO n) = true
theorem Ab6 {e n : Nat} (h : s.all (L.noB n) = true) (hv : v.all (L.noB n) = true) : Bw (s.put (some e) v) n = Bw s n := by
 unfold Bw
 rw [h, Ej h hv]
 rfl
theorem Ao8 {e n : Nat} (h : s.all (L.noO n) = true) (hv : v.all (L.noO n) = true) : Dk (s.put (some e) v) n = Dk s n := by
 unfold Dk
 rw [h, Ej h hv]
 rfl
theorem U4 {e : Nat} : ∀ (oB : List (Option Nat)) (rB : List Nat), (∀ n ∈ Dx oB rB, s.all (L.noB n) = true ∧ v.all (L.noB n) = true) → chkB (s.put (some e) v) oB rB = chkB s oB rB
 | [], [], _ => rfl
 | [], _ :: _, _ => rfl
 | some b :: r, [], _ => rfl
 | none :: r, [], _ => rfl
 | some b :: r, x :: q, h => by simp only [chkB]; rw [U4 r q fun n hn => h n hn]
 | none :: r, x :: q, h => by
  simp only [chkB]
  rw [U4 r q fun n hn => h n (by simp [Dx, hn]), Ab6 (h x (by simp [Dx])).1 (h x (by simp [Dx])).2]
theorem U6 {e : Nat} : ∀ (oB : List (Option Nat)) (rB : List Nat), (∀ n ∈ Dx oB rB, s.all (L.noO n) = true ∧ v.all (L.noO n) = true) → chkO (s.put (some e) v) oB rB = chkO s oB rB
 | [], [], _ => rfl
 | [], _ :: _, _ => rfl
 | some b :: r, [], _ => rfl
 | none :: r, [], _ => rfl
 | some b :: r, x :: q, h => by simp only [chkO]; rw [U6 r q fun n hn => h n hn]
 | none :: r, x :: q, h => by
  simp only [chkO]
  rw [U6 r q fun n hn => h n (by simp [Dx, hn]), Ao8 (h x (by simp [Dx])).1 (h x (by simp [Dx])).2]
theorem U8 {o : St} {e : Nat} : ∀ (oO : List (Option Nat)) (i : Nat), chkT (s.put (some e) v) o i oO = chkT s o i oO
 | [], _ => rfl
 | some l :: r, i => by simp only [chkT]; rw [U8 r]; rfl
 | none :: r, i => by simp only [chkT]; rw [U8 r]
theorem Atc {o : St} {f : L → L} {e : Nat} : ∀ (rB : List Nat) (i : Nat) (s : St), B2 (s.put (some e) v) o f i rB = (B2 s o f i rB).put (some e) v
 | [], i, s => rfl
 | b :: r, i, s => by
  simp only [B2]
  exact Atc r (i + 1) { s with boxes := s.boxes.set b ((Aa o i).map (List.map f)) }
theorem Atf {o : St} {e : Nat} : ∀ (rO : List Nat) (i : Nat) (s : St), Cm (s.put (some e) v) o i rO = (Cm s o i rO).put (some e) v
 | [], i, s => rfl
 | b :: r, i, s => by
  simp only [Cm]
  exact Atf r (i + 1) (Ar s b (Ab o i))
theorem Awt {o : St} {d e : Nat} {oB oO : List (Option Nat)} {rB rO : List Nat} (hne : e ≠ d) (hB : ∀ n ∈ Dx oB rB, s.all (L.noB n) = true ∧ v.all (L.noB n) = true) (hO : ∀ n ∈ Dx oO rO, s.all (L.noO n) = true ∧ v.all (L.noO n) = true) :
  Ds (s.put (some e) v) o d oB oO rB rO = (Ds s o d oB oO rB rO).map fun z => z.put (some e) v := by
 unfold Ds
 rw [U4 oB rB hB, U6 oO rO hO, U8]
 split
 ·cases Ie (o.slots.map (AV.map (renL o rB rO))) with
  | none => rfl
  | some w =>
   simp only [Option.map_some]
   rw [Atc, Atf, K4 (x := some e) (y := some d) fun k h1 h2 => hne (by cases h1; cases h2; rfl)]
 ·rfl
theorem Pm {d e : Nat} {args : List AV} {W : (List Nat × List Nat) × (List Nat × List Nat)} (hne : e ≠ d) (hB : ∀ n ∈ W.2.1, s.all (L.noB n) = true ∧ v.all (L.noB n) = true) (hO : ∀ n ∈ W.2.2, s.all (L.noO n) = true ∧ v.all (L.noO n) = true) :
  ∀ (sgs : List Sig), (Dt (s.put (some e) v) d args W sgs).val = ((Dt s d args W sgs).val).map fun z => z.put (some e) v
 | [] => rfl
 | g :: r => by
  have hs : ({ s.put (some e) v with slots := args } : St) = { s with slots := args } := rfl
  have hlen : (s.put (some e) v).slots.length = s.slots.length := by simp [St.put]
  simp only [Dt, hs]
  split
  ·exact Pm hne hB hO r
  ·cases co g.kin { s with slots := args } (max g.kin.boxes.length g.kin.owns.length) with
   | none => exact Pm hne hB hO r
   | some c =>
    simp only []
    cases dec g.kin c.s with
    | none => exact Pm hne hB hO r
    | some ps =>
     simp only [Oc.val]
     cases g.f.run (List PL) ps some with
     | none => rfl
     | some q =>
      simp only [Option.bind_some, Oc.val_ofOption]
      unfold Ph
      rw [hlen]
      split
      ·rename_i hc
       simp only [Bool.and_eq_true] at hc
       unfold back
       simp only [hc.1, if_true]
       split
       ·rfl
       ·have k1 := hc.2.1
        have k2 := hc.2.2
        unfold okK at k1 k2
        rw [Bool.and_eq_true] at k1 k2
        rw [hlen]
        exact Awt hne (fun n hn => hB n (Lb k1.2 hn)) (fun n hn => hO n (Lb k2.2 hn))
      ·rfl
theorem Ata {o : St} {f : L → L} {b : Nat} : ∀ (rB : List Nat) (i : Nat) (s : St), b ∉ rB → Aa (B2 s o f i rB) b = Aa s b
 | [], i, s, h => rfl
 | c :: r, i, s, h => by
  simp only [B2]
  rw [Ata r _ _ (by simp at h; exact h.2)]
  simp only [Aa]
  rw [List.getElem?_set_ne (by simp at h; exact fun e => h.1 e.symm)]
theorem Acl {d : Nat} {w : AV} (h : t.slots = s.slots.set d w) {z : Operand} (hz : z ≠ .tmp d) : t.get z = s.get z := by
 cases z with
 | tmp e =>
  have hne : d ≠ e := fun h => hz (by rw [h])
  simp only [St.get, h, List.getD, List.getElem?_set_ne hne]
 | _ => rfl
theorem Axe {d : Nat} {args : List AV} {W : (List Nat × List Nat) × (List Nat × List Nat)} {sgs : List Sig} (h : (Dt s d args W sgs).val = some s') :
  (∃ w, s'.slots = s.slots.set d w) ∧ ∀ b, b ∉ W.1.1 ++ W.2.1 → Aa s' b = Aa s b := by
 obtain ⟨o, oB, oO, h1, h2, h3⟩ := Lq sgs h
 obtain ⟨_, w, h4, rfl⟩ := Afc h3
 unfold okK at h1
 rw [Bool.and_eq_true] at h1
 refine ⟨⟨w, ?_⟩, fun b hb => ?_⟩
 ·show ((Cm (B2 s o _ 0 _) o 0 _).slots).set d w = _
  rw [Om.2, Ud.2]
 ·show Aa (Cm (B2 s o _ 0 _) o 0 _) b = _
  have e : ∀ u : St, Aa (Cm u o 0 (Di (N0 + d) s.slots.length oO 0)) b = Aa u b := fun u => by
   simp only [Aa]; rw [Om.1]
  rw [e, Ata _ _ _ fun hm => hb (Lb h1.1 hm)]
theorem Aqx (h : kk C x = .call) : ∃ f as ts d W, x.op = .call { callee := .value f, args := as, argTypes := ts } ∧ x.dst = some d ∧ Bq C.ef d = some W := by
 unfold kk kkd at h
 split at h
 ·rename_i f as ts d ho hd
  split at h
  ·rename_i hs
   obtain ⟨W, hW⟩ := Option.isSome_iff_exists.1 hs
   exact ⟨f, as, ts, d, W, ho, hd, hW⟩
  ·cases h
 ·split at h <;> cases h
 all_goals first | (cases h; done) | (split at h <;> cases h)
theorem Aqz (h : kk C x = .store) : ∃ T n z b, x.op = .store T (.tmp n) z ∧ x.dst = none ∧ Bq C.sr n = some b := by
 unfold kk kkd at h
 split at h
 ·split at h <;> cases h
 ·rename_i T n z ho hd
  split at h
  ·rename_i hs
   obtain ⟨b, hb⟩ := Option.isSome_iff_exists.1 hs
   exact ⟨T, n, z, b, ho, hd, hb⟩
  ·cases h
 all_goals first | (cases h; done) | (split at h <;> cases h)
theorem Tf (h : kk C x = .alloc) : ∃ T d, x.op = .alloc T ∧ x.dst = some d := by
 unfold kk kkd at h
 split at h
 ·split at h <;> cases h
 ·split at h <;> cases h
 ·rename_i T d ho hd; exact ⟨T, d, ho, hd⟩
 all_goals first | (cases h; done) | (split at h <;> cases h)
theorem Aqy (h : kk C x = .row) : N7 x.op = true ∧ ∃ d, x.dst = some d := by
 unfold kk kkd at h
 split at h
 ·split at h <;> cases h
 ·split at h <;> cases h
 ·cases h
 ·rename_i ho hd
  split at h
  ·cases h
  ·rw [ho]; exact ⟨rfl, _, hd⟩
 ·rename_i ho hd; rw [ho]; exact ⟨rfl, _, hd⟩
 ·cases h
theorem Aqw (h : kk C x = .boxr) : ∃ t len ps d, x.op = .buildSlice t len ps ∧ x.dst = some d := by
 unfold kk kkd at h
 split at h
 ·split at h <;> cases h
 ·split at h <;> cases h
 ·cases h
 ·rename_i t len ps d ho hd
  exact ⟨t, len, ps, d, ho, hd⟩
 ·cases h
 ·cases h
theorem To {t len d : Nat} {ps : Array (Nat × Operand)} (h : kk C x = .boxr) (ho : x.op = .buildSlice t len ps) (hd : x.dst = some d) : opD C s x.dst x.op = Hh C s t len ps.toList d := by
 have h' : kkd C x.dst x.op = .boxr := h
 unfold opD; rw [h', ho, hd]
theorem Afg {t len d : Nat} {ps : List (Nat × Operand)} (h : (Hh C s t len ps d).val = some s') : ∃ e q i u ls, Br s ps = some q ∧ C9 C.P e = some [A2 u] ∧ Et (fun i => some (i * 1, 1)) (List.replicate len (A2 u)) q = some ls ∧
  Bw s (N0 + d) = true ∧ s' = (Aq s (N0 + d) ls).put (some d) (lf (.sb (N0 + d) i)) := by
 unfold Hh at h
 split at h
 ·rename_i e he
  split at h
  ·rename_i q z hq hz
   split at h
   ·rename_i ls hls
    split at h
    ·rename_i hc
     simp only [Bool.and_eq_true] at hc
     simp only [Oc.val] at h
     cases h
     obtain ⟨i, u, _, _, ez, _⟩ := G9 hz
     have : z ∈ u.cells.toList.map A2 := by rw [← ez]; simp
     obtain ⟨c, _, rfl⟩ := List.mem_map.1 this
     exact ⟨e, q, len, c, ls, hq, hz, hls, hc.1, rfl⟩
    ·cases h
   ·cases h
  ·cases h
 ·cases h
theorem C4 (hg : x.guard = none) : Aj (opD C) ops s x = opD C s x.dst x.op := by
 unfold Aj
 rw [hg]
theorem Tq (h : kk C x = .call) : opD C s x.dst x.op = opK2 C s x.dst x.op := by
 have h' : kkd C x.dst x.op = .call := h
 unfold opD; rw [h']
theorem Tr (h : kk C x = .store) : opD C s x.dst x.op = opK3 C s x.op := by
 have h' : kkd C x.dst x.op = .store := h
 unfold opD; rw [h']
theorem Hx (h : kk C x = .alloc) : opD C s x.dst x.op = opK4 C s x.dst x.op := by
 have h' : kkd C x.dst x.op = .alloc := h
 unfold opD; rw [h']
theorem Ark (h : kk C x = .row) : opD C s x.dst x.op = opE C s x.dst x.op := by
 have h' : kkd C x.dst x.op = .row := h
 unfold opD; rw [h']
theorem Ob {d : Nat} (h : d ∉ o.looksAt ops) : ∀ x ∈ o.op.operands, x ≠ .tmp d := by
 intro x hx e
 subst e
 exact h (List.mem_append_left _ (List.mem_filterMap.2 ⟨.tmp d, by simpa using hx, rfl⟩))
theorem Aqg (h : ∀ d, y.dst = some d → d ∉ x.looksAt ops) : ∀ z ∈ x.op.operands, (s.put y.dst v).get z = s.get z := by
 intro z hz
 cases hd : y.dst with
 | none => rfl
 | some d => exact A0 (Ob (h d hd) z hz)
theorem Adi {v : AV} (o : Option St) : o.map (fun z => z.put none v) = o := by cases o <;> rfl
theorem h_call (hk : kk C x = .call) (hg : x.guard = none) (hfr : FrO C x s) (hc : A8 y.op = false) (hy : (isR y.op || (match y.op with | .load _ _ => true | _ => false)) = true) (hr : Fn C y (tB C x) = true)
  (a1 : ∀ d, y.dst = some d → d ∉ x.looksAt ops) (a2 : ∀ d, x.dst = some d → y.dst ≠ some d) (a3 : ∀ d, x.dst = some d → d ∉ y.looksAt ops) :
  (∀ v, Vg C ops y s = some v → (Aj (opD C) ops (s.put y.dst v) x).val = ((Aj (opD C) ops s x).val).map fun z => z.put y.dst (id v)) ∧
  (∀ s1, (Aj (opD C) ops s x).val = some s1 → Vg C ops y s1 = (Vg C ops y s).map id) := by
 obtain ⟨f, as, ts, d, W, ho, hd, hW⟩ := Aqx hk
 have hmB : mkB C x = W.2.1 := by unfold mkB; rw [hk, hd]; simp only [hW]
 have hmO : mkO C x = W.2.2 := by unfold mkO; rw [hk, hd]; simp only [hW]
 have htB : tB C x = W.1.1 ++ W.2.1 := by unfold tB; rw [hk, hd]; simp only [hW]
 unfold FrO at hfr
 rw [hmB, hmO] at hfr
 constructor
 ·intro v hv
  rw [C4 hg, C4 hg, Tq hk, Tq hk, ho, hd]
  have hgs := Aqg (x := x) (y := y) (s := s) (v := v) a1
  rw [ho] at hgs
  have e1 := hgs f (by simp [Op.operands, Call.operands])
  have e2 : as.toList.map (s.put y.dst v).get = as.toList.map s.get := List.map_congr_left fun z hz => hgs z (by simp [Op.operands, Call.operands]; exact .inr (Array.mem_def.2 hz))
  simp only [opK2, e1, e2, hW]
  cases Ai (s.get f) with
  | none => rfl
  | some l =>
   cases l <;> first | rfl | skip
   simp only []
   cases hyd : y.dst with
   | none => exact (Adi _).symm
   | some e =>
    exact Pm (fun h => a2 d hd (by rw [hyd, h])) (fun n hn => ⟨hfr.1 n hn, Li (P1 n) (hfr.1 n hn) hv⟩) (fun n hn => ⟨hfr.2 n hn, Li (L8 n) (hfr.2 n hn) hv⟩) _
 ·intro s1 h1
  rw [C4 hg, Tq hk, ho, hd] at h1
  simp only [opK2, hW] at h1
  rw [Option.map_id]
  split at h1
  ·rename_i hWe
   cases hWe
   obtain ⟨⟨w, h2⟩, h3⟩ := Axe h1
   refine O5 hc (fun z hz => Acl h2 fun e => a3 d hd (hz d e)) ?_ hr (fun b hb => h3 b (by rw [← htB]; exact hb))
   rcases Bool.or_eq_true _ _ ▸ hy with hy | hy
   ·exact .inl hy
   ·refine .inr (.inl ?_)
    split at hy
    ·rename_i T a e; exact ⟨T, a, e⟩
    ·cases hy
  ·cases h1
theorem A8o {T n : Nat} {z : Operand} {e : Option Nat} (hn : ∀ q ∈ (Op.store T (.tmp n) z).operands, (s.put e v).get q = s.get q) :
  (opK3 C (s.put e v) (.store T (.tmp n) z)).val = ((opK3 C s (.store T (.tmp n) z)).val).map fun u => u.put e v := by
 have g1 := hn (.tmp n) (by simp [Op.operands])
 have g2 := hn z (by simp [Op.operands])
 have hbox : ∀ b, Aa (s.put e v) b = Aa s b := fun b => by cases e <;> rfl
 simp only [opK3, g1]
 cases Bq C.sr n with
 | none => rfl
 | some b =>
  cases hl : Ai (s.get (.tmp n)) with
  | none => rfl
  | some l =>
   cases l <;> first | rfl | skip
   rename_i b' o'
   simp only []
   by_cases hb : b' = b
   ·rw [if_pos hb, if_pos hb]
    simp only [opE, g1, g2, hl]
    cases Dl (s.get z) with
    | none => rfl
    | some new =>
     cases A1 C.P T with
     | none => rfl
     | some m =>
      simp only [hbox]
      cases Aa s b' with
      | none => rfl
      | some ls =>
       simp only []
       split
       ·cases e <;> rfl
       ·rfl
   ·rw [if_neg hb, if_neg hb]; rfl
theorem Arl {T n b : Nat} {z : Operand} (hb : Bq C.sr n = some b) (h : (opK3 C s (.store T (.tmp n) z)).val = some s') :
  ∃ ls new, Dl (s.get z) = some new ∧ Aa s b = some ls ∧ ∃ k, s' = Aq s b (splice ls k new) := by
 simp only [opK3, hb] at h
 cases hl : Ai (s.get (.tmp n)) with
 | none => rw [hl] at h; cases h
 | some l =>
  rw [hl] at h
  cases l <;> first | (cases h; done) | skip
  rename_i b' o'
  simp only [] at h
  split at h
  ·rename_i he
   subst he
   simp only [opE, hl] at h
   cases hn : Dl (s.get z) with
   | none => rw [hn] at h; cases h
   | some new =>
    rw [hn] at h
    cases hz : A1 C.P T with
    | none => rw [hz] at h; cases h
    | some m =>
     rw [hz] at h
     simp only [] at h
     cases hx : Aa s b' with
     | none => rw [hx] at h; cases h
     | some ls =>
      rw [hx] at h
      simp only [] at h
      split at h
      ·cases h; exact ⟨ls, new, rfl, rfl, o', rfl⟩
      ·cases h
  ·cases h
theorem h_store (hk : kk C x = .store) (hg : x.guard = none) (hc : A8 y.op = false) (hr : Fn C y (match x.op with | .store _ (.tmp n) _ => (match Bq C.sr n with | some b => [b] | none => []) | _ => []) = true)
  (a1 : ∀ d, y.dst = some d → d ∉ x.looksAt ops) :
  (∀ v, Vg C ops y s = some v → (Aj (opD C) ops (s.put y.dst v) x).val = ((Aj (opD C) ops s x).val).map fun z => z.put y.dst (id v)) ∧
  (∀ s1, (Aj (opD C) ops s x).val = some s1 → Vg C ops y s1 = (Vg C ops y s).map id) := by
 obtain ⟨T, n, z, b, ho, hd, hb⟩ := Aqz hk
 constructor
 ·intro v hv
  rw [C4 hg, C4 hg, Tr hk, Tr hk, ho]
  have hgs := Aqg (x := x) (y := y) (s := s) (v := v) a1
  rw [ho] at hgs
  exact A8o hgs
 ·intro s1 h1
  rw [C4 hg, Tr hk, ho] at h1
  obtain ⟨ls, new, _, _, k, rfl⟩ := Arl hb h1
  rw [Option.map_id]
  rw [ho] at hr
  simp only [hb] at hr
  refine O5 (bs := [b]) hc (fun z _ => by cases z <;> rfl) (.inr (.inr fun l => rfl)) hr fun c hcb => ?_
  simp only [Aa, Aq]
  rw [List.getElem?_set_ne (by simp at hcb; exact fun e => hcb e.symm)]
theorem Aeu {d : Nat} {ls : List L} (h : Bw s (N0 + d) = true) : (Ij s d ls).val = some ((Aq s (N0 + d) ls).put (some d) (lf (.ptr (N0 + d) 0))) := by
 unfold Ij; rw [if_pos h]; rfl
theorem h_alloc (hk : kk C x = .alloc) (hg : x.guard = none) (hfr : FrO C x s) (hc : A8 y.op = false) (hr : Fn C y (tB C x) = true)
  (a1 : ∀ d, y.dst = some d → d ∉ x.looksAt ops) (a2 : ∀ d, x.dst = some d → y.dst ≠ some d) (a3 : ∀ d, x.dst = some d → d ∉ y.looksAt ops) :
  (∀ v, Vg C ops y s = some v → (Aj (opD C) ops (s.put y.dst v) x).val = ((Aj (opD C) ops s x).val).map fun z => z.put y.dst (id v)) ∧
  (∀ s1, (Aj (opD C) ops s x).val = some s1 → Vg C ops y s1 = (Vg C ops y s).map id) := by
 obtain ⟨T, d, ho, hd⟩ := Tf hk
 have hmB : mkB C x = [N0 + d] := by unfold mkB; rw [hk, hd]
 have htB : tB C x = [N0 + d] := by unfold tB; rw [hk, hd]
 have hf : s.all (L.noB (N0 + d)) = true := hfr.1 _ (by rw [hmB]; simp)
 constructor
 ·intro v hv
  rw [C4 hg, C4 hg, Hx hk, Hx hk, ho, hd]
  have hvn := Li (P1 (N0 + d)) hf hv
  simp only [opK4]
  split
  ·rfl
  ·cases C9 C.P T with
   | none => rfl
   | some ls =>
    simp only []
    cases hyd : y.dst with
    | none => exact (Adi _).symm
    | some e =>
     have hne : e ≠ d := fun h => a2 d hd (by rw [hyd, h])
     unfold Ij
     rw [Ab6 hf hvn]
     split
     ·simp only [Oc.val, Option.map_some]
      congr 1
      show ((Aq s (N0 + d) ls).put (some e) v).put (some d) _ = _
      exact K4 fun k h1 h2 => hne (by cases h1; cases h2; rfl)
     ·rfl
 ·intro s1 h1
  rw [C4 hg, Hx hk, ho, hd] at h1
  simp only [opK4] at h1
  rw [Option.map_id]
  split at h1
  ·cases h1
  ·split at h1
   ·obtain ⟨_, rfl⟩ := Jo h1
    refine O5 (bs := [N0 + d]) hc (fun z hz => Acl (d := d) rfl fun e => a3 d hd (hz d e)) (.inr (.inr fun l => rfl)) (by rw [← htB]; exact hr) fun c hcb => ?_
    simp only [Aa, Aq, St.put]
    rw [List.getElem?_set_ne (by simp at hcb; exact fun e => hcb e.symm)]
   ·cases h1
theorem h_boxr (hk : kk C x = .boxr) (hg : x.guard = none) (hfr : FrO C x s) (hc : A8 y.op = false) (hr : Fn C y (tB C x) = true)
  (a1 : ∀ d, y.dst = some d → d ∉ x.looksAt ops) (a2 : ∀ d, x.dst = some d → y.dst ≠ some d) (a3 : ∀ d, x.dst = some d → d ∉ y.looksAt ops) :
  (∀ v, Vg C ops y s = some v → (Aj (opD C) ops (s.put y.dst v) x).val = ((Aj (opD C) ops s x).val).map fun z => z.put y.dst (id v)) ∧
  (∀ s1, (Aj (opD C) ops s x).val = some s1 → Vg C ops y s1 = (Vg C ops y s).map id) := by
 obtain ⟨T, len, ps, d, ho, hd⟩ := Aqw hk
 have hmB : mkB C x = [N0 + d] := by unfold mkB; rw [hk, hd]
 have htB : tB C x = [N0 + d] := by unfold tB; rw [hk, hd]
 have hf : s.all (L.noB (N0 + d)) = true := hfr.1 _ (by rw [hmB]; simp)
 constructor
 ·intro v hv
  rw [C4 hg, C4 hg, To hk ho hd, To hk ho hd]
  have hvn := Li (P1 (N0 + d)) hf hv
  have hgs : Br (s.put y.dst v) ps.toList = Br s ps.toList := by
   cases hyd : y.dst with
   | none => rfl
   | some e => exact T0 ps.toList fun z hz => Ob (a1 e hyd) z.2 (by rw [ho]; simp only [Op.operands]; exact List.mem_toArray.2 (List.mem_map.2 ⟨z, hz, rfl⟩))
  unfold Hh
  rw [hgs]
  cases A7 C.P T with
  | none => rfl
  | some e0 =>
   simp only []
   cases Br s ps.toList with
   | none => rfl
   | some q =>
    cases hz : C9 C.P e0 with
    | none => rfl
    | some zl =>
     match zl with
     | [] => rfl
     | _ :: _ :: _ => rfl
     | [z] =>
      simp only []
      cases Et (fun i => some (i * 1, 1)) (List.replicate len z) q with
      | none => rfl
      | some ls =>
       simp only []
       cases hyd : y.dst with
       | none => exact (Adi _).symm
       | some e =>
        have hne : e ≠ d := fun h => a2 d hd (by rw [hyd, h])
        rw [Ab6 hf hvn]
        split
        ·simp only [Oc.val, Option.map_some]
         congr 1
         show ((Aq s (N0 + d) ls).put (some e) v).put (some d) _ = _
         exact K4 fun k h1 h2 => hne (by cases h1; cases h2; rfl)
        ·rfl
 ·intro s1 h1
  rw [C4 hg, To hk ho hd] at h1
  rw [Option.map_id]
  obtain ⟨_, _, _, _, ls, _, _, _, _, rfl⟩ := Afg h1
  refine O5 (bs := [N0 + d]) hc (fun z hz => Acl (d := d) rfl fun e => a3 d hd (hz d e)) (.inr (.inr fun l => rfl)) (by rw [← htB]; exact hr) fun c hcb => ?_
  simp only [Aa, Aq, St.put]
  rw [List.getElem?_set_ne (by simp at hcb; exact fun e => hcb e.symm)]
theorem Acw {f : L → L} {v : AV} : Ai (v.map f) = (Ai v).map f := by
 cases v with
 | dead => rfl
 | tup cs => rfl
 | cv c => cases c <;> rfl
theorem fD_pt {D : Nat → Bool} {q : Nat → Option PL} {l : L} : ptL (fD D q l) = ptL l ∧ ∀ r, ldL r (fD D q l) = ldL r l := by
 cases l with
 | own m => simp only [fD]; split; (split <;> exact ⟨rfl, fun _ => rfl⟩); exact ⟨rfl, fun _ => rfl⟩
 | ept m i o z => simp only [fD]; split <;> exact ⟨rfl, fun _ => rfl⟩
 | _ => exact ⟨rfl, fun _ => rfl⟩
theorem A8d {agg : Bool} {ls : List L} {f : L → L} : mkAV agg (ls.map f) = (mkAV agg ls).map (AV.map f) := by
 unfold mkAV
 cases agg with
 | true => rfl
 | false =>
  match ls with
  | [] => rfl
  | [l] => rfl
  | l :: m :: r => rfl
theorem load_gm {D : Nat → Bool} {q : Nat → Option PL} (g : ∀ b, Aa t b = (Aa s b).map (List.map (fD D q))) {n : Nat} {l : L} (hl : ptL l = true) : B1 t n l = (B1 s n l).map (List.map (fD D q)) := by
 cases l with
 | ptr b k =>
  simp only [B1, g]
  cases Aa s b with
  | none => rfl
  | some ls =>
   simp only [Option.map_some, Option.bind_some, List.length_map]
   split
   ·simp
   ·rfl
 | rpt ps =>
  simp only [B1]
  split
  ·simp only [Option.map_some]; rw [pvs_map]
  ·rfl
 | _ => cases hl
theorem Vv_gm {D : Nat → Bool} {q : Nat → Option PL} (hpt : isPt C y = true) (h : ∀ z ∈ y.op.operands, t.get z = (s.get z).map (fD D q)) (g : ∀ b, Aa t b = (Aa s b).map (List.map (fD D q))) : Vv C y t = (Vv C y s).map (AV.map (fD D q)) := by
 unfold isPt at hpt
 unfold Vv
 split at hpt
 ·rename_i z d ho hd
  rw [ho] at h ⊢
  rw [hd]
  have hz := h z (by simp [Op.operands])
  simp only [ldOk, opVD, opV, hz, if_true]
  rfl
 ·rename_i z d ho hd
  rw [ho] at h ⊢
  rw [hd]
  have hz := h z (by simp [Op.operands])
  simp only [ldOk, opVD, opV, hz, if_true]
  rfl
 ·rename_i T z d ho hd
  rw [ho] at h ⊢
  rw [hd]
  have hz := h z (by simp [Op.operands])
  obtain ⟨r, hr⟩ := Option.isSome_iff_exists.1 hpt
  simp only [ldOk, opVD, opV, hz, hr, Acw]
  cases Ai (s.get z) with
  | none => rfl
  | some l =>
   simp only [Option.map_some, fD_pt.2]
   by_cases hL : ldL r l = true
   rotate_left
   ·rw [if_neg hL, if_neg hL]; rfl
   ·rw [if_pos hL, if_pos hL]
    have hp : ptL l = true := by cases l <;> first | rfl | cases hL
    have hfl : fD D q l = l := by cases l <;> first | rfl | cases hL
    simp only [hfl]
    cases A1 C.P T with
    | none => rfl
    | some n =>
     simp only []
     split
     ·simp only [Oc.val_ofOption, load_gm g hp]
      cases B1 s n l with
      | none => rfl
      | some ls => simp only [Option.map_some, Option.bind_some, A8d]
     ·rfl
 ·rename_i z d ho hd
  rw [ho] at h ⊢
  rw [hd]
  have hz := h z (by simp [Op.operands])
  obtain ⟨r, hr⟩ := Option.isSome_iff_exists.1 hpt
  simp only [ldOk, opVD, opV, hz, hr, Acw]
  cases Ai (s.get z) with
  | none => rfl
  | some l =>
   cases l <;> first | rfl | skip
   all_goals simp only [Option.map_some, fD]; all_goals (repeat' split) <;> first | rfl | skip
   all_goals simp_all [ptL]
 ·rename_i S z f d ho hd
  rw [ho] at h ⊢
  rw [hd]
  have hz := h z (by simp [Op.operands])
  obtain ⟨r, hr⟩ := Option.isSome_iff_exists.1 hpt
  simp only [ldOk, opVD, opV, hz, hr, Acw]
  cases Ai (s.get z) with
  | none => rfl
  | some l =>
   simp only [Option.map_some, fD_pt.1]
   by_cases hL : ptL l = true
   rotate_left
   ·rw [if_neg hL, if_neg hL]; rfl
   ·rw [if_pos hL, if_pos hL]
    cases l <;> first | (cases hL; done) | skip
    ·cases Iw C.P S f with
     | none => rfl
     | some k => rfl
    ·cases Iw C.P S f with
     | none => rfl
     | some k => rfl
 ·cases hpt
theorem Bad {n e : Nat} {w : Option Own} : Ar (s.put (some e) v) n w = (Ar s n w).put (some e) v := rfl
theorem h_row (hk : kk C x = .row) (hg : x.guard = none) (hyg : y.guard = none) (hfr : FrO C x s) (hpt : isPt C y = true)
  (a1 : ∀ d, y.dst = some d → d ∉ x.looksAt ops) (a2 : ∀ d, x.dst = some d → y.dst ≠ some d) (a3 : ∀ d, x.dst = some d → d ∉ y.looksAt ops) : ∃ φ : AV → AV,
  (∀ v, Vg C ops y s = some v → (Aj (opD C) ops (s.put y.dst v) x).val = ((Aj (opD C) ops s x).val).map fun z => z.put y.dst (φ v)) ∧
  (∀ s1, (Aj (opD C) ops s x).val = some s1 → Vg C ops y s1 = (Vg C ops y s).map φ) := by
 obtain ⟨hE, d, hd⟩ := Aqy hk
 have hmO : mkO C x = [N0 + d] := by unfold mkO; rw [hk, hd]
 have hf : s.all (L.noO (N0 + d)) = true := hfr.2 _ (by rw [hmO]; simp)
 have hstep : ∀ u : St, (Aj (opD C) ops u x).val = (Fl C.P u x.op).bind fun z => (Ch (z.1 u) d z.2).val := fun u => by
  rw [C4 hg, Ark hk, hd]
  exact Asc hE
 obtain ⟨e, hyd⟩ : ∃ e, y.dst = some e := by
  unfold isPt at hpt
  split at hpt <;> first | (cases hpt; done) | (rename_i hh; exact ⟨_, hh⟩)
 have hne : e ≠ d := fun h => a2 d hd (by rw [hyd, h])
 have hVg : ∀ u : St, Vg C ops y u = Vv C y u := fun u => by unfold Vg; rw [hyg]
 cases hpl : Fl C.P s x.op with
 | none =>
  refine ⟨id, fun v hv => ?_, fun s1 h1 => ?_⟩
  ·rw [hstep, hstep, hyd, Asb hE (Ob (a1 e hyd)), hpl]; rfl
  ·rw [hstep, hpl] at h1; cases h1
 | some gw =>
  obtain ⟨g, w⟩ := gw
  obtain ⟨D, q, gm, gp⟩ := Asa hpl s
  dsimp only at gm gp
  have hgf := Aqi (L8 (N0 + d)) gm hf
  refine ⟨AV.map (fD D q), fun v hv => ?_, fun s1 h1 => ?_⟩
  ·rw [hstep, hstep, hyd, Asb hE (Ob (a1 e hyd)), hpl]
   simp only [Option.bind_some]
   rw [gp e v]
   have hvn : (v.map (fD D q)).all (L.noO (N0 + d)) = true := Aez (fun l hl => Vj (L8 _) hl) (Li (L8 (N0 + d)) hf hv)
   unfold Ch
   rw [Ao8 hgf hvn]
   split
   ·simp only [Oc.val, Option.map_some]
    congr 1
    rw [Bad]
    exact K4 fun k h1 h2 => hne (by cases h1; cases h2; rfl)
   ·rfl
  ·rw [hstep, hpl] at h1
   simp only [Option.bind_some] at h1
   obtain ⟨_, rfl⟩ := Hd h1
   rw [hVg, hVg]
   refine Vv_gm hpt (fun z hz => ?_) fun b => ?_
   ·rw [A0 (Ob (a3 d hd) z hz)]
    exact gm_get (t := g s) gm z
   ·exact A7o (t := g s) gm b
theorem comm_al {x y : Oper} (hy : kk C y = .alloc) (hx : kk C x = .alloc) (gy : y.guard = none) (gx : x.guard = none) (fx : FrO C x s) (a2 : ∀ d, x.dst = some d → y.dst ≠ some d) {s1 s2 : St}
  (h1 : (Aj (opD C) ops s y).val = some s1) (h2 : (Aj (opD C) ops s1 x).val = some s2) : ∃ s3, (Aj (opD C) ops s x).val = some s3 ∧ (Aj (opD C) ops s3 y).val = some s2 := by
 obtain ⟨T, d, ho, hd⟩ := Tf hy
 obtain ⟨U, e, ho2, he⟩ := Tf hx
 have hne : d ≠ e := fun h => a2 e he (by rw [hd, h])
 have hmB : mkB C x = [N0 + e] := by unfold mkB; rw [hx, he]
 have hf : s.all (L.noB (N0 + e)) = true := fx.1 _ (by rw [hmB]; simp)
 rw [C4 gy, Hx hy, ho, hd] at h1
 rw [C4 gx, Hx hx, ho2, he] at h2
 simp only [opK4] at h1 h2
 split at h1
 ·cases h1
 rename_i hb1
 split at h2
 ·cases h2
 rename_i hb2
 split at h1
 rotate_left
 ·cases h1
 rename_i ls hz
 split at h2
 rotate_left
 ·cases h2
 rename_i ls2 hz2
 obtain ⟨f1, rfl⟩ := Jo h1
 obtain ⟨f2, rfl⟩ := Jo h2
 have hn : N0 + d ≠ N0 + e := fun h => hne (Nat.add_left_cancel h)
 have fe : Bw s (N0 + e) = true := by
  unfold Bw at f2 ⊢
  rw [Bool.and_eq_true] at f2 ⊢
  refine ⟨?_, hf⟩
  have := f2.1
  simp only [Aq, St.put] at this
  rwa [List.getElem?_set_ne hn] at this
 refine ⟨(Aq s (N0 + e) ls2).put (some e) (lf (.ptr (N0 + e) 0)), ?_, ?_⟩
 ·rw [C4 gx, Hx hx, ho2, he]
  simp only [opK4]
  rw [if_neg hb2]
  simp only [hz2]
  exact Aeu fe
 ·rw [C4 gy, Hx hy, ho, hd]
  simp only [opK4]
  rw [if_neg hb1]
  simp only [hz]
  have fd : Bw ((Aq s (N0 + e) ls2).put (some e) (lf (.ptr (N0 + e) 0))) (N0 + d) = true := by
   unfold Bw at f1 ⊢
   rw [Bool.and_eq_true] at f1 ⊢
   refine ⟨?_, Ej (O9 f1.2 fun l hl => ?_) (Bz (by simp [L.noB]; exact fun e => hne e.symm))⟩
   ·simp only [Aq, St.put]
    rw [List.getElem?_set_ne (Ne.symm hn)]
    exact f1.1
   ·obtain ⟨i, u, _, _, rfl, _⟩ := G9 hz2
    obtain ⟨u, _, rfl⟩ := List.mem_map.1 hl
    exact Mb _ u
  rw [Aeu fd]
  congr 1
  show (((Aq (Aq s (N0 + e) ls2) (N0 + d) ls).put (some e) _).put (some d) _) = (((Aq (Aq s (N0 + d) ls) (N0 + e) ls2).put (some d) _).put (some e) _)
  rw [K4 (x := some e) (y := some d) fun k h1 h2 => hne (by cases h1; cases h2; rfl)]
  congr 2
  simp only [Aq]
  congr 1
  exact List.set_comm _ _ (fun e => hn e.symm)
theorem Adb (hp : Clo p) (hal : (isNo C x && !isV x.op) = false) (hs : s.all p = true) (hB : ∀ b ∈ tB C x, (∀ k, p (.ptr b k) = true) ∧ ∀ t z, p (.bld b t z) = true) (hO : ∀ l ∈ tO C x, p (.own l) = true)
  (h : (opD C s x.dst x.op).val = some s') : s'.all p = true := by
 cases hk : kk C x with
 | no =>
  have hk' : kkd C x.dst x.op = .no := hk
  have hno : isNo C x = true := by unfold isNo; rw [hk]
  rw [hno] at hal
  have hv : isV x.op = true := by simpa using hal
  unfold opD at h
  rw [hk'] at h
  simp only [opDn] at h
  rw [if_pos hv] at h
  split at h
  ·cases h
  ·split at h
   ·rename_i hl
    rw [Oc.val_bind] at h
    obtain ⟨v, h1, h2⟩ := Option.bind_eq_some_iff.1 h
    cases h2
    have : Vv C x s = some v := by unfold Vv; rw [if_pos hl]; exact h1
    exact Ej hs (Aes hp hs this)
   ·cases h
 | call =>
  obtain ⟨f, as, ts, d, W, ho, hd, hW⟩ := Aqx hk
  have htB : tB C x = W.1.1 ++ W.2.1 := by unfold tB; rw [hk, hd]; simp only [hW]
  have htO : tO C x = W.1.2 ++ W.2.2 := by unfold tO; rw [hk, hd]; simp only [hW]
  rw [htB] at hB
  rw [htO] at hO
  rw [Tq hk, ho, hd] at h
  simp only [opK2, hW] at h
  split at h
  ·rename_i hWe
   cases hWe
   exact Axd hp h hs (fun b hb => (hB b hb).1) (fun b hb => (hB b hb).2) hO
  ·cases h
 | store =>
  obtain ⟨T, n, z, b, ho, hd, hb⟩ := Aqz hk
  rw [Tr hk, ho] at h
  obtain ⟨ls, new, h1, h2, k, rfl⟩ := Arl hb h
  refine O9 hs fun l hl => ?_
  simp only [splice, List.mem_append] at hl
  rcases hl with (hl | hl) | hl
  ·exact He hs h2 l (List.mem_of_mem_take hl)
  ·exact Aft hp hs h1 l hl
  ·exact He hs h2 l (List.mem_of_mem_drop hl)
 | alloc =>
  obtain ⟨T, d, ho, hd⟩ := Tf hk
  have htB : tB C x = [N0 + d] := by unfold tB; rw [hk, hd]
  rw [Hx hk, ho, hd] at h
  simp only [opK4] at h
  split at h
  ·cases h
  ·split at h
   ·rename_i ls hz
    obtain ⟨_, rfl⟩ := Jo h
    refine Ej (O9 hs fun l hl => ?_) (Bz ((hB (N0 + d) (by rw [htB]; simp)).1 0))
    obtain ⟨i, u, _, _, rfl, _⟩ := G9 hz
    obtain ⟨u, _, rfl⟩ := List.mem_map.1 hl
    exact Pz hp u
   ·cases h
 | row =>
  obtain ⟨hE, d, hd⟩ := Aqy hk
  have htO : tO C x = [N0 + d] := by unfold tO; rw [hk, hd]
  rw [Ark hk, hd, Asc hE] at h
  obtain ⟨⟨g, w⟩, p1, p2⟩ := Option.bind_eq_some_iff.1 h
  obtain ⟨_, rfl⟩ := Hd p2
  obtain ⟨D, q, gm, _⟩ := Asa p1 s
  exact Ej (Ae4 (Aqi hp gm hs)) (Bz (hO (N0 + d) (by rw [htO]; simp)))
 | boxr =>
  obtain ⟨T, len, ps, d, ho, hd⟩ := Aqw hk
  have htB : tB C x = [N0 + d] := by unfold tB; rw [hk, hd]
  rw [To hk ho hd] at h
  obtain ⟨_, q, _, u, ls, hq, _, hls, _, rfl⟩ := Afg h
  refine Ej (O9 hs fun l hl => ?_) (Bz (hp.sb _ 0 _ ((hB (N0 + d) (by rw [htB]; simp)).1 0)))
  rcases Wb _ _ _ _ hls l hl with h3 | ⟨z, hz, h3⟩
  ·rw [List.eq_of_mem_replicate h3]
   exact Pz hp u
  ·exact Uv hp hs _ _ hq z hz l h3
theorem Arp (hp : Clo p) (hal : (isNo C x && !isV x.op) = false) (hs : s.all p = true) (hB : ∀ b ∈ tB C x, (∀ k, p (.ptr b k) = true) ∧ ∀ t z, p (.bld b t z) = true) (hO : ∀ l ∈ tO C x, p (.own l) = true)
  (h : (Aj (opD C) ops s x).val = some s') : s'.all p = true := by
 unfold Aj at h
 split at h
 ·exact Adb hp hal hs hB hO h
 ·split at h
  ·rename_i g _
   split at h
   ·rename_i c _
    have ht : ∀ b, (s.put (some g) (lf (pvB b))).all p = true := fun b => Ej hs (Bz (hp.pv _))
    have hu : ∀ b, ((s.put (some g) (lf (pvB b))).put x.dst (.tup [])).all p = true := fun b => Ej (ht b) rfl
    split at h
    ·simp only [Oc.val] at h
     cases c
     ·cases h; exact hu _
     ·exact Adb hp hal (ht _) hB hO h
    ·simp only [Oc.val] at h
     cases c
     ·exact Adb hp hal (ht _) hB hO h
     ·cases h; exact hu _
   ·split at h
    ·cases h; exact Ej hs rfl
    ·cases h
  ·cases h
theorem Age {a b : List Nat} (h : disj a b = true) {x : Nat} (hx : x ∈ a) : x ∉ b := by
 have := List.all_eq_true.1 h x hx
 simpa using this
theorem fr_step (ha : Ek C x y = true) (hf : FrO C y s) (h : (Aj (opD C) ops s x).val = some s') : FrO C y s' := by
 unfold Ek at ha
 simp only [Bool.and_eq_true] at ha
 obtain ⟨h1, h2, h3⟩ := ha
 cases hal : (isNo C x && !isV x.op) with
 | true =>
  rw [hal] at h1
  simp only [Bool.not_true, Bool.false_or, Bool.and_eq_true, List.isEmpty_iff] at h1
  unfold FrO
  rw [h1.1, h1.2]
  exact ⟨by simp, by simp⟩
 | false =>
  refine ⟨fun n hn => Arp (P1 n) hal (hf.1 n hn) (fun b hb => ?_) (fun l hl => rfl) h, fun n hn => Arp (L8 n) hal (hf.2 n hn) (fun b hb => ⟨fun _ => rfl, fun _ _ => rfl⟩) (fun l hl => ?_) h⟩
  ·have : b ≠ n := fun e => Age h2 hb (by rw [e]; exact hn)
   exact ⟨fun _ => by simpa [L.noB] using this, fun _ _ => by simpa [L.noB] using this⟩
  ·have : l ≠ n := fun e => Age h3 hl (by rw [e]; exact hn)
   simpa [L.noO] using this
theorem pair_sw (h : Ja C ops y x = true) (fy : FrO C y s) (fx : FrO C x s) {s1 s2 : St}
  (h1 : (Aj (opD C) ops s y).val = some s1) (h2 : (Aj (opD C) ops s1 x).val = some s2) : ∃ s3, (Aj (opD C) ops s x).val = some s3 ∧ (Aj (opD C) ops s3 y).val = some s2 := by
 unfold Ja at h
 rw [Bool.and_eq_true] at h
 obtain ⟨h0, hap⟩ := h
 obtain ⟨a1, a2, a3⟩ := Oper.apart_spec hap
 have hbes : ∀ {y x : Oper}, beside C y x = true → FrO C x s → (∀ d, y.dst = some d → d ∉ x.looksAt ops) → (∀ d, x.dst = some d → y.dst ≠ some d) → (∀ d, x.dst = some d → d ∉ y.looksAt ops) →
   kk C y = .no ∧ isV y.op = true ∧ A8 y.op = false ∧ ∃ φ : AV → AV, (∀ v, Vg C ops y s = some v → (Aj (opD C) ops (s.put y.dst v) x).val = ((Aj (opD C) ops s x).val).map fun z => z.put y.dst (φ v)) ∧
   (∀ s1, (Aj (opD C) ops s x).val = some s1 → Vg C ops y s1 = (Vg C ops y s).map φ) := by
  intro y x hb fx b1 b2 b3
  unfold beside at hb
  simp only [Bool.and_eq_true, Bool.not_eq_true'] at hb
  obtain ⟨k1, k2, k3, k4⟩ := hb
  refine ⟨Acr k1, k2, k3, ?_⟩
  split at k4
  ·cases k4
  ·rename_i hk
   simp only [Bool.and_eq_true, Option.isNone_iff_eq_none] at k4
   exact ⟨id, h_call hk k4.1 fx k3 k4.2.1 k4.2.2 b1 b2 b3⟩
  ·rename_i hk
   simp only [Bool.and_eq_true, Option.isNone_iff_eq_none] at k4
   exact ⟨id, h_store hk k4.1 k3 k4.2 b1⟩
  ·rename_i hk
   simp only [Bool.and_eq_true, Option.isNone_iff_eq_none] at k4
   exact ⟨id, h_alloc hk k4.1 fx k3 k4.2 b1 b2 b3⟩
  ·rename_i hk
   simp only [Bool.and_eq_true, Option.isNone_iff_eq_none] at k4
   exact h_row hk k4.1 k4.2.1 fx k4.2.2 b1 b2 b3
  ·rename_i hk
   simp only [Bool.and_eq_true, Option.isNone_iff_eq_none] at k4
   exact ⟨id, h_boxr hk k4.1 fx k3 k4.2 b1 b2 b3⟩
 have a2' : ∀ d, x.dst = some d → y.dst ≠ some d := fun d hd he => a2 d he hd
 rw [Bool.or_eq_true, Bool.or_eq_true, Bool.or_eq_true] at h0
 rcases h0 with h0 | h0 | h0 | h0
 ·simp only [Bool.and_eq_true] at h0
  obtain ⟨⟨n1, w1⟩, n2, w2⟩ := h0
  obtain ⟨v1, c1⟩ := Aqr w1
  obtain ⟨v2, c2⟩ := Aqr w2
  exact Baq (Acr n1) (Acr n2) v1 v2 c1 c2 hap h1 h2
 ·obtain ⟨k1, k2, k3, φ, H1, H2⟩ := hbes h0 fx a1 a2' a3
  exact sw_gen1 k1 k2 k3 H1 H2 h1 h2
 ·obtain ⟨k1, k2, k3, φ, H1, H2⟩ := hbes h0 fy a3 a2 a1
  exact sw_gen2 k1 k2 k3 H1 H2 h1 h2
 ·unfold twoAl at h0
  split at h0
  ·rename_i ky kx
   simp only [Bool.and_eq_true, Option.isNone_iff_eq_none] at h0
   exact comm_al ky kx h0.1 h0.2 fx a2' h1 h2
  ·cases h0
end
section
variable {C : Cfg} {F : Nat → Prop} {s s' : St} {G : Gm} {a : Act} {w w' : World}
def stp (C : Cfg) (ops : Array Oper) (j : Nat) (s : St) : Option St :=
 match ops[j]? with
 | some o => (Aj (opD C) ops s o).val
 | none => some s
def fld (C : Cfg) (ops : Array Oper) : List Nat → St → Option St
 | [], s => some s
 | j :: r, s => (stp C ops j s).bind (fld C ops r)
theorem Aix (ops : Array Oper) : ∀ (l : List Oper) (i : Nat) (s : St), (∀ (j : Nat) (o : Oper), l[j]? = some o → ops[i + j]? = some o) →
  l.foldl (fun x o => x.bind fun s => (Aj (opD C) ops s o).val) (some s) = fld C ops (List.range' i l.length) s
 | [], i, s, h => rfl
 | o :: l, i, s, h => by
  have h0 : ops[i]? = some o := by simpa using h 0 o rfl
  simp only [List.foldl_cons, Option.bind_some, List.length_cons, List.range'_succ, fld, stp, h0]
  cases h1 : (Aj (opD C) ops s o).val with
  | none => exact Aiy ops l
  | some s1 =>
   simp only [Option.bind_some]
   exact Aix ops l (i + 1) s1 fun j o' hj => by
    have := h (j + 1) o' (by simpa using hj)
    rwa [show i + (j + 1) = i + 1 + j by omega] at this
theorem Xb (ops : Array Oper) : ∀ (x y : List Nat) (s : St), fld C ops (x ++ y) s = (fld C ops x s).bind (fld C ops y)
 | [], y, s => rfl
 | j :: x, y, s => by
  simp only [List.cons_append, fld]
  cases h : stp C ops j s with
  | none => rfl
  | some s1 => simp only [Option.bind_some]; exact Xb ops x y s1
def FrA (C : Cfg) (ops : Array Oper) (j : Nat) (s : St) : Prop := ∀ o, ops[j]? = some o → FrO C o s
def Ap (C : Cfg) (ops : Array Oper) (j i : Nat) : Prop := ∀ y x, ops[j]? = some y → ops[i]? = some x → Ek C y x = true
theorem Aej {ops : Array Oper} {j i : Nat} {s s1 : St} (ha : Ap C ops j i) (hf : FrA C ops i s) (h : stp C ops j s = some s1) : FrA C ops i s1 := by
 intro o ho
 unfold stp at h
 split at h
 ·rename_i y hy
  exact fr_step (ha y o hy ho) (hf o ho) h
 ·cases h; exact hf o ho
def Sw (C : Cfg) (ops : Array Oper) (j i : Nat) : Prop := ∀ s s1 s2, FrA C ops j s → FrA C ops i s → stp C ops j s = some s1 → stp C ops i s1 = some s2 → ∃ s3, stp C ops i s = some s3 ∧ stp C ops j s3 = some s2
theorem Aht (ops : Array Oper) {i : Nat} : ∀ (x : List Nat) (s s' : St), (∀ j ∈ x, Sw C ops j i) → (∀ j ∈ x, FrA C ops j s) → FrA C ops i s → (x ++ [i]).Pairwise (Ap C ops) → fld C ops (x ++ [i]) s = some s' → fld C ops (i :: x) s = some s'
 | [], s, s', h, hx, hi, hp, hf => hf
 | j :: x, s, s', h, hx, hi, hp, hf => by
  simp only [List.cons_append, fld] at hf
  rw [List.cons_append, List.pairwise_cons] at hp
  obtain ⟨s1, h1, h2⟩ := Option.bind_eq_some_iff.1 hf
  have h3 := Aht ops x s1 s' (fun k hk => h k (by simp [hk])) (fun k hk => Aej (hp.1 k (by simp [hk])) (hx k (by simp [hk])) h1) (Aej (hp.1 i (by simp)) hi h1) hp.2 h2
  simp only [fld] at h3
  obtain ⟨s2, h4, h5⟩ := Option.bind_eq_some_iff.1 h3
  obtain ⟨s3, h6, h7⟩ := h j (by simp) s s1 s2 (hx j (by simp)) hi h1 h4
  simp only [fld, h6, h7, Option.bind_some]
  exact h5
def Deps (L : Nat → Prop) (o : Oper) : Prop := ∀ e ∈ o.after.toList, Region.binds .any e = true → L e.on
theorem Are {x y : Nat} {l : List Nat} (h : y ∈ insN x l) : y = x ∨ y ∈ l := by
 unfold insN at h
 split at h
 ·exact .inr h
 ·simpa using h
theorem Ard {y : Nat} : ∀ {x l : List Nat}, y ∈ O6 x l → y ∈ x ∨ y ∈ l
 | [], l, h => .inr h
 | z :: x, l, h => by
  simp only [O6] at h
  rcases Ard h with h | h
  ·exact .inl (by simp [h])
  ·rcases Are h with h | h
   ·exact .inl (by simp [h])
   ·exact .inr h
theorem Ac1 {L : Nat → Prop} {acc : List (List Nat)} (hacc : ∀ (i : Nat) (l : List Nat), L i → acc[i]? = some l → ∀ j ∈ l, L j) {j : Nat} :
  ∀ (es : List Edge), (∀ e ∈ es, Region.binds .any e = true → L e.on) → j ∈ Ll acc es → L j
 | [], h, hj => by cases hj
 | e :: r, h, hj => by
  simp only [Ll] at hj
  split at hj
  ·rename_i hb
   rcases Are hj with hj | hj
   ·rw [hj]; exact h e (by simp) hb
   ·rcases Ard hj with hj | hj
    ·cases he : acc[e.on]? with
     | none => rw [List.getD_eq_getElem?_getD, he] at hj; cases hj
     | some l =>
      rw [List.getD_eq_getElem?_getD, he] at hj
      exact hacc e.on l (h e (by simp) hb) he j hj
    ·exact Ac1 hacc r (fun e he => h e (by simp [he])) hj
  ·exact Ac1 hacc r (fun e he => h e (by simp [he])) hj
theorem Ae7 {L : Nat → Prop} (all : Array Oper) (hcl : ∀ (i : Nat) (o : Oper), all[i]? = some o → L i → Deps L o) :
  ∀ (l : List Oper) (acc : List (List Nat)), (∀ (j : Nat) (o : Oper), l[j]? = some o → all[acc.length + j]? = some o) →
  (∀ (i : Nat) (o : Oper) (x : List Nat), all[i]? = some o → acc[i]? = some x → Deps L o → ∀ j ∈ x, L j) → (acc.length ≤ all.size) →
  ∀ (i : Nat) (o : Oper) (x : List Nat), all[i]? = some o → (ancs l acc)[i]? = some x → Deps L o → ∀ j ∈ x, L j
 | [], acc, hl, hacc, hle => hacc
 | o :: l, acc, hl, hacc, hle => by
  simp only [ancs]
  have h0 : all[acc.length]? = some o := by simpa using hl 0 o rfl
  have hlt := (Array.getElem?_eq_some_iff.1 h0).1
  refine Ae7 all hcl l _ (fun j o' hj => ?_) (fun i o' x hi hx hD j hj => ?_) ?_
  ·have := hl (j + 1) o' (by simpa using hj)
   rw [List.length_append, List.length_singleton]
   rwa [show acc.length + (j + 1) = acc.length + 1 + j by omega] at this
  ·rcases Nat.lt_or_ge i acc.length with hlt | hge
   ·rw [List.getElem?_append_left hlt] at hx
    exact hacc i o' x hi hx hD j hj
   ·rw [List.getElem?_append_right hge] at hx
    cases hk : i - acc.length with
    | zero =>
     rw [hk] at hx
     simp at hx
     subst hx
     have hie : i = acc.length := by omega
     rw [hie, h0] at hi
     cases hi
     refine Ac1 (L := L) (fun i' l' hL hl' j' hj' => ?_) o.after.toList hD hj
     have hi' : i' < acc.length := (List.getElem?_eq_some_iff.1 hl').1
     cases ho' : all[i']? with
     | none => rw [Array.getElem?_eq_none_iff] at ho'; omega
     | some o2 => exact hacc i' o2 l' ho' hl' (hcl i' o2 ho' hL) j' hj'
    | succ n => rw [hk] at hx; simp at hx
  ·rw [List.length_append, List.length_singleton]; omega
theorem Agj : ∀ (l : List Oper) (i : Nat), Rb l i = true → ∀ (j : Nat) (o : Oper), l[j]? = some o → ∀ e ∈ o.after.toList, Region.binds .any e = true → e.on < i + j
 | [], i, h, j, o, hj => by simp at hj
 | o :: l, i, h, j, o', hj => by
  simp only [Rb, Bool.and_eq_true] at h
  cases j with
  | zero =>
   simp at hj
   subst hj
   intro e he hb
   have := List.all_eq_true.1 h.1 e he
   simpa [hb] using this
  | succ n =>
   intro e he hb
   have := Agj l (i + 1) h.2 n o' (by simpa using hj) e he hb
   omega
theorem Ary {ops : Array Oper} {x : Oper} {an : List Nat} : ∀ (l : List Oper) (j : Nat), Tx C ops x an l j = true → ∀ (k : Nat) (y : Oper), l[k]? = some y → Ek C y x = true ∧ ((j + k) ∈ an ∨ (Ja C ops y x = true ∧ Ek C x y = true))
 | [], j, h, k, y, hk => by simp at hk
 | z :: l, j, h, k, y, hk => by
  simp only [Tx, Bool.and_eq_true, Bool.or_eq_true] at h
  cases k with
  | zero =>
   simp at hk
   subst hk
   refine ⟨h.1.1, ?_⟩
   rcases h.1.2 with h1 | h1
   ·exact .inl (by simpa using h1)
   ·exact .inr h1
  | succ n =>
   have h1 := Ary l (j + 1) h.2 n y (by simpa using hk)
   rwa [show j + 1 + n = j + (n + 1) by omega] at h1
theorem Arz {ops : Array Oper} {an : List (List Nat)} : ∀ (l done : List Oper) (i : Nat), done.length = i → Tz C ops an done l i = true →
  ∀ (k : Nat) (x : Oper) (j : Nat) (y : Oper), l[k]? = some x → j < i + k → (done ++ l)[j]? = some y → Ek C y x = true ∧ (j ∈ an.getD (i + k) [] ∨ (Ja C ops y x = true ∧ Ek C x y = true))
 | [], done, i, hi, h, k, x, j, y, hk => by simp at hk
 | z :: l, done, i, hi, h, k, x, j, y, hk => by
  intro hj hy
  simp only [Tz, Bool.and_eq_true] at h
  cases k with
  | zero =>
   simp at hk
   subst hk
   rw [List.getElem?_append_left (by omega)] at hy
   have := Ary done 0 h.1 j y hy
   simpa using this
  | succ n =>
   have := Arz l (done ++ [z]) (i + 1) (by simp [hi]) h.2 n x j y (by simpa using hk) (by omega) (by simpa using hy)
   rwa [show i + (n + 1) = i + 1 + n by omega]
theorem Bau {ops : Array Oper} {i j : Nat} {x y : Oper} (hy : ops[j]? = some y) (hx : ops[i]? = some x) (h : Ja C ops y x = true) : Sw C ops j i := by
 intro s s1 s2 f1 f2 h1 h2
 simp only [stp, hy, hx] at h1 h2 ⊢
 exact pair_sw h (f1 y hy) (f2 x hx) h1 h2
def unl (n : Nat) (listed : Array Bool) : List Nat := (List.range n).filter fun j => !listed.getD j true
theorem unl_set {n i : Nat} {listed : Array Bool} (hi : i ∈ unl n listed) : ∃ pre post, unl n listed = pre ++ i :: post ∧ (∀ j ∈ pre, j < i) ∧ unl n (listed.setIfInBounds i true) = pre ++ post := by
 obtain ⟨pre, post, h⟩ := List.append_of_mem hi
 have hp : (unl n listed).Pairwise (· < ·) := List.pairwise_lt_range.filter _
 rw [h, List.pairwise_append] at hp
 obtain ⟨h1, h2, h3⟩ := hp
 rw [List.pairwise_cons] at h2
 have hpre : ∀ j ∈ pre, j < i := fun j hj => h3 j hj i (by simp)
 refine ⟨pre, post, h, hpre, ?_⟩
 have e : unl n (listed.setIfInBounds i true) = (unl n listed).filter (fun j => decide (j ≠ i)) := by
  unfold unl
  rw [List.filter_filter]
  apply List.filter_congr
  intro j hj
  by_cases hji : j = i
  ·subst hji
   rw [Array.getD_eq_getD_getElem?, Array.getElem?_setIfInBounds]
   simp
   split <;> rfl
  ·rw [getD_set_ne true (Ne.symm hji)]
   simp [hji]
 rw [e, h, List.filter_append, List.filter_cons_of_neg (by simp), List.filter_eq_self.2, List.filter_eq_self.2]
 ·intro j hj; have := h2.1 j hj; simp; omega
 ·intro j hj; have := hpre j hj; simp; omega
theorem Kv {n i : Nat} {listed : Array Bool} : i ∈ unl n listed ↔ i < n ∧ listed.getD i true = false := by
 simp [unl]
theorem Aqe {listed : Array Bool} {i : Nat} (hi : i < listed.size) (b : Bool) : listed.getD i b = listed.getD i true := by
 simp [Array.getD_eq_getD_getElem?, Array.getElem?_eq_getElem hi]
theorem any_ok (hE : Bl C) {ops : Array Oper} (hc : commutes C ops = true) {sf : St} (Q : Exit → Act → World → Prop) :
  ∀ (fuel : Nat) (listed : Array Bool) (s : St) (G : Gm) (a : Act) (w : World), listed.size = ops.size → (unl ops.size listed).length ≤ fuel →
  (∀ (i : Nat) (o : Oper), ops[i]? = some o → listed.getD i false = true → Deps (fun j => listed.getD j false = true) o) →
  (∀ j ∈ unl ops.size listed, FrA C ops j s) → Holds F s G a.tmps.toList w → fld C ops (unl ops.size listed) s = some sf →
  (∀ G' a' w', Holds F sf G' a'.tmps.toList w' → Step N0 N0 s G w sf G' w' → a'.defers = a.defers → Q .normal a' w') →
  wpAny C.P .any ops Q fuel listed a w := by
 intro fuel
 simp only [commutes, Bool.and_eq_true] at hc
 have hend : ∀ (listed : Array Bool) (s : St) (G : Gm) (a : Act) (w : World), listed.size = ops.size →
   Holds F s G a.tmps.toList w → fld C ops (unl ops.size listed) s = some sf →
   (∀ G' a' w', Holds F sf G' a'.tmps.toList w' → Step N0 N0 s G w sf G' w' → a'.defers = a.defers → Q .normal a' w') →
   Region.ready .any ops listed = [] → Q .normal a w := by
  intro listed s G a w hs hH hf hQ hr
  cases hu : unl ops.size listed with
  | nil =>
   rw [hu] at hf
   cases hf
   exact hQ G a w hH (Step.refl _ _ _ _ _) rfl
  | cons i r =>
   exfalso
   have hi : i ∈ unl ops.size listed := by rw [hu]; simp
   obtain ⟨hlt, hun⟩ := Kv.1 hi
   have : i ∈ Region.ready .any ops listed := by
    refine mem_ready.2 ⟨hun, ops[i], Array.getElem?_eq_getElem hlt, fun e he hb => ?_⟩
    have h1 := Agj ops.toList 0 hc.1 i ops[i] (by simp [hlt]) e (by simpa using he) hb
    cases hL : listed.getD e.on false with
    | true => rfl
    | false =>
     exfalso
     have h2 : e.on ∈ unl ops.size listed := Kv.2 ⟨by omega, by rw [← Aqe (by omega) false]; exact hL⟩
     have hp : (unl ops.size listed).Pairwise (· < ·) := List.pairwise_lt_range.filter _
     rw [hu, List.pairwise_cons] at hp
     rw [hu] at h2
     rcases List.mem_cons.1 h2 with h3 | h3
     ·omega
     ·have := hp.1 _ h3; omega
   rw [hr] at this
   cases this
 induction fuel with
 | zero =>
  intro listed s G a w hs hle hcl hfr hH hf hQ
  have hr : Region.ready .any ops listed = [] := by
   apply List.eq_nil_iff_forall_not_mem.2
   intro i hi
   obtain ⟨h1, o, ho, _⟩ := mem_ready.1 hi
   have : i ∈ unl ops.size listed := Kv.2 ⟨(Array.getElem?_eq_some_iff.1 ho).1, h1⟩
   rw [List.eq_nil_of_length_eq_zero (by omega : (unl ops.size listed).length = 0)] at this
   cases this
  exact ⟨hr, hend listed s G a w hs hH hf hQ hr⟩
 | succ fuel ih =>
  intro listed s G a w hs hle hcl hfr hH hf hQ
  refine ⟨hend listed s G a w hs hH hf hQ, fun i hi => ?_⟩
  obtain ⟨hun, o, ho, hdeps⟩ := mem_ready.1 hi
  have hlt := (Array.getElem?_eq_some_iff.1 ho).1
  have hmem : i ∈ unl ops.size listed := Kv.2 ⟨hlt, hun⟩
  obtain ⟨pre, post, e1, hpre, e2⟩ := unl_set hmem
  have hD : Deps (fun j => listed.getD j false = true) o := fun e he hb => hdeps e (by simpa using he) hb
  have hspec : ∀ (j k : Nat), j < k → ∀ (y x : Oper), ops[j]? = some y → ops[k]? = some x → Ek C y x = true ∧ (j ∈ (ancs ops.toList []).getD k [] ∨ (Ja C ops y x = true ∧ Ek C x y = true)) := by
   intro j k hjk y x hy hx
   have h1 := Arz ops.toList [] 0 rfl hc.2 k x j y (by simpa using hx) (by omega) (by simpa using hy)
   rwa [Nat.zero_add] at h1
  have hnanc : ∀ j ∈ pre, j ∉ (ancs ops.toList []).getD i [] := by
   intro j hj h1
   have hj' : j ∈ unl ops.size listed := by rw [e1]; simp [hj]
   obtain ⟨hjl, hju⟩ := Kv.1 hj'
   cases hx : (ancs ops.toList [])[i]? with
   | none => rw [List.getD_eq_getElem?_getD, hx] at h1; cases h1
   | some x =>
    rw [List.getD_eq_getElem?_getD, hx] at h1
    have h2 := Ae7 (L := fun j => listed.getD j false = true) ops hcl ops.toList [] (fun j o hj => by simpa using hj) (fun i o x _ h => by simp at h) (Nat.zero_le _) i o x ho hx hD j h1
    rw [Aqe (by omega)] at h2
    rw [h2] at hju
    cases hju
  have hsw : ∀ j ∈ pre, Sw C ops j i := by
   intro j hj
   have hj' : j ∈ unl ops.size listed := by rw [e1]; simp [hj]
   obtain ⟨hjl, hju⟩ := Kv.1 hj'
   have hoj : ops[j]? = some ops[j] := Array.getElem?_eq_getElem hjl
   rcases (hspec j i (hpre j hj) ops[j] o hoj ho).2 with h1 | h1
   ·exact absurd h1 (hnanc j hj)
   ·exact Bau hoj ho h1.1
  have hpw : (unl ops.size listed).Pairwise (· < ·) := List.pairwise_lt_range.filter _
  have hap : ∀ j k, j < k → Ap C ops j k := fun j k hjk y x hy hx => (hspec j k hjk y x hy hx).1
  have hap2 : ∀ k ∈ pre ++ post, Ap C ops i k := by
   intro k hk
   rcases List.mem_append.1 hk with hk | hk
   ·intro y x hy hx
    rcases (hspec k i (hpre k hk) x y hx hy).2 with h1 | h1
    ·exact absurd h1 (hnanc k hk)
    ·exact h1.2
   ·rw [e1, List.pairwise_append, List.pairwise_cons] at hpw
    exact hap i k (hpw.2.1.1 k hk)
  rw [e1, show pre ++ i :: post = (pre ++ [i]) ++ post by simp, Xb] at hf
  obtain ⟨s1, h1, h2⟩ := Option.bind_eq_some_iff.1 hf
  have h3 := Aht ops pre s s1 hsw (fun j hj => hfr j (by rw [e1]; simp [hj])) (hfr i (by rw [e1]; simp)) (by
   rw [e1, show pre ++ i :: post = (pre ++ [i]) ++ post by simp, List.pairwise_append] at hpw
   exact hpw.1.imp fun {j k} h => hap j k h) h1
  simp only [fld] at h3
  obtain ⟨s3, h4, h5⟩ := Option.bind_eq_some_iff.1 h3
  have h6 : fld C ops (unl ops.size (listed.setIfInBounds i true)) s3 = some sf := by
   rw [e2, Xb, h5]; exact h2
  have hfr' : ∀ j ∈ unl ops.size (listed.setIfInBounds i true), FrA C ops j s3 := by
   intro j hj
   rw [e2] at hj
   exact Aej (hap2 j hj) (hfr j (by rw [e1]; rcases List.mem_append.1 hj with h | h <;> simp [h])) h4
  simp only [stp, ho] at h4
  have hlen : (unl ops.size (listed.setIfInBounds i true)).length ≤ fuel := by
   rw [e1] at hle
   rw [e2]
   simp at hle ⊢
   omega
  have hcl' : ∀ (k : Nat) (ok : Oper), ops[k]? = some ok → (listed.setIfInBounds i true).getD k false = true → Deps (fun j => (listed.setIfInBounds i true).getD j false = true) ok := by
   intro k ok hk hL e he hb
   by_cases hik : i = k
   ·subst hik
    rw [ho] at hk
    cases hk
    exact getD_set_true (hD e he hb)
   ·rw [getD_set_ne false hik] at hL
    exact getD_set_true (hcl k ok hk hL e he hb)
  have hstep := Arq (fok_D hE) hH h4 (wpAny C.P .any ops Q fuel (listed.setIfInBounds i true)) Q fun G1 a1 w1 k1 k2 k3 =>
   ih (listed.setIfInBounds i true) s3 G1 a1 w1 (by simpa using hs) hlen hcl' hfr' k1 h6 fun G2 a2 w2 m1 m2 m3 => hQ G2 a2 w2 m1 (k2.trans m2) (m3.trans k3)
  unfold wpOp
  simp only [ho]
  split
  ·rename_i hw; rw [if_pos hw] at hstep; exact .inl hstep
  ·rename_i hw; rw [if_neg hw] at hstep; exact hstep
theorem A7w {bs os : List Nat} {n : Nat} (h : n ∈ bs) (l : L) : (F4 bs os l).noB n = true := by
 unfold F4
 split
 ·rename_i hc
  rw [Bool.and_eq_true] at hc
  exact List.all_eq_true.1 hc.1 n h
 ·rfl
theorem A7x {bs os : List Nat} {n : Nat} (h : n ∈ os) (l : L) : (F4 bs os l).noO n = true := by
 unfold F4
 split
 ·rename_i hc
  rw [Bool.and_eq_true] at hc
  exact List.all_eq_true.1 hc.2 n h
 ·rfl
theorem Aqt {p : L → Bool} {bs os : List Nat} (h : ∀ l, p (F4 bs os l) = true) (s : St) : (B8 s bs os).all p = true := by
 simp only [St.all, Bool.and_eq_true, List.all_eq_true, B8, List.mem_map]
 constructor
 ·rintro v ⟨v0, _, rfl⟩
  exact Uu h v0
 ·rintro b ⟨b0, _, rfl⟩
  split
  ·rename_i ls hls
   split at hls
   ·cases hls
   ·obtain ⟨q, hq, rfl⟩ := Option.map_eq_some_iff.1 hls
    simp only [List.all_map, List.all_eq_true, Function.comp]
    exact fun l _ => h l
  ·rfl
theorem kill_ok (h : Holds F s G a.tmps.toList w) (bs os : List Nat) : Holds F (B8 s bs os) G a.tmps.toList w ∧ Step N0 N0 s G w (B8 s bs os) G w := by
 have h1 := Acu (bs := bs) (os := os) (si := ⟨[], [], []⟩) (Gi := G) (w' := w) h (Keeps.refl _ _) (by
  rintro j (⟨b, ls, hb, _⟩ | ⟨l, x, hx, _⟩)
  ·simp [Aa] at hb
  ·simp [Ab] at hx)
 refine ⟨h1.1, ⟨Keeps.refl _ _, fun k hk => ?_, fun _ _ => ⟨rfl, rfl⟩, fun l _ x hx => ?_⟩⟩
 ·rcases hk with ⟨b, ls, hb', rfl⟩ | ⟨l, x, hx, e⟩
  ·obtain ⟨q, h3, _⟩ := Hu hb'
   exact .inl (.inl ⟨b, q, h3, rfl⟩)
  ·exact .inl (.inr ⟨l, x, (F3 hx).1, e⟩)
 ·exact ⟨⟨x, (F3 hx).1⟩, rfl⟩
theorem Axv {ops : Array Oper} (h : Holds F s G a.tmps.toList w) : (∀ j, FrA C ops j (clean C ops s)) ∧ Holds F (clean C ops s) G a.tmps.toList w ∧ Step N0 N0 s G w (clean C ops s) G w := by
 unfold clean
 have hmem : ∀ j o, ops[j]? = some o → o ∈ ops.toList := fun j o ho => List.mem_of_getElem? (l := ops.toList) (i := j) (by simpa using ho)
 split
 ·rename_i h1 h2
  refine ⟨fun j o ho => ⟨fun n hn => ?_, fun n hn => ?_⟩, h, Step.refl _ _ _ _ _⟩
  ·have : n ∈ ops.toList.flatMap (mkB C) := List.mem_flatMap.2 ⟨o, hmem j o ho, hn⟩
   rw [h1] at this; cases this
  ·have : n ∈ ops.toList.flatMap (mkO C) := List.mem_flatMap.2 ⟨o, hmem j o ho, hn⟩
   rw [h2] at this; cases this
 ·refine ⟨fun j o ho => ⟨fun n hn => Aqt (A7w (List.mem_flatMap.2 ⟨o, hmem j o ho, hn⟩)) s, fun n hn => Aqt (A7x (List.mem_flatMap.2 ⟨o, hmem j o ho, hn⟩)) s⟩, ?_⟩
  exact kill_ok h _ _
theorem Ms (hm : C.P.follows .mixedOrders = true) (hE : Bl C) : Gf C := by
 intro ops hc F s s' G a w Q hH hf hQ id
 refine wp_region_any hm ?_
 have hg : Grew w { w with drawn := w.drawn + 1 } := ⟨rfl, rfl, rfl, Nat.le_refl _, fun _ _ _ => rfl⟩
 obtain ⟨hfr, hH', hst⟩ := Axv (C := C) (ops := ops) hH
 have hu : unl ops.size (Array.replicate ops.size false) = List.range ops.size := by
  unfold unl
  apply List.filter_eq_self.2
  intro j hj
  have := List.mem_range.1 hj
  simp [Array.getD_eq_getD_getElem?, this]
 refine any_ok hE hc (sf := s') Q ops.size _ (clean C ops s) G a _ (by simp) (by rw [hu]; simp) (fun i o ho hL => ?_) (fun j _ => hfr j) (hH'.grew hg) ?_ fun G' a' w' k1 k2 k3 => hQ G' a' w' k1 (hst.trans ((Step.grew hg).trans k2)) k3
 ·exfalso
  rw [Array.getD_eq_getD_getElem?, Array.getElem?_replicate] at hL
  split at hL <;> simp at hL
 ·rw [hu, List.range_eq_range']
  rw [Aix ops ops.toList 0 (clean C ops s) fun j o hj => by simpa using hj] at hf
  simpa using hf
end
section
variable {R : Type}
abbrev Jt (R : Type) := List (Nat × (St → Option R))
def Kt : Jt R → Nat → Option (St → Option R)
 | [], _ => none
 | x :: r, i => if x.1 = i then some x.2 else Kt r i
def Gl (J : Jt R) (c : Code) : Option (St → Option R) := (D8 c).bind (Kt J)
def seqJ (C : Cfg) (J : Jt R) (b : Code) (f : St → (XE → St → Option R) → Option R) (K : XE → St → Option R) : XE → St → Option R
 | .normal, s => norm C b s fun s => match Gl J b with | some g => g s | none => f s K
 | e, s => K e s
def evJ (C : Cfg) (J L : Jt R) : Code → St → (XE → St → Option R) → Option R
 | .skip, s, K => K .normal s
 | .region _ ops draw, s, K => if draw then (if commutes C ops then opsK (opD C) ops ops.toList (clean C ops s) (K .normal) else none) else opsP C ops ops.toList s K
 | .seq a b, s, K => evJ C J L a s (seqJ C J b (evJ C J L b) K)
 | .cond c x y, s, K => match Db (s.get c) with
  | some b => bif b then evJ C J L x (refine s c true) K else evJ C J L y (refine s c false) K
  | none => none
 | .block id b, s, K => evJ C J L b s (blkK id K)
 | .loop b, s, K => norm C b s fun s => match Gl L b with | some g => g s | none => none
 | .exit id, s, K => K (.exit id) s
 | .ret, s, K => K .ret s
 | .label _, s, K => K .normal s
 | _, _, _ => none
def ctxJ (C : Cfg) (J L : Jt R) : Code → List Step1 → (XE → St → Option R) → (XE → St → Option R)
 | _, [], K => K
 | .seq a b, .l :: p, K => ctxJ C J L a p (seqJ C J b (evJ C J L b) K)
 | .seq _ b, .r :: p, K => ctxJ C J L b p K
 | .block id b, .b :: p, K => ctxJ C J L b p (blkK id K)
 | .loop b, .b :: p, K => ctxJ C J L b p (match Gl L b with | some g => Ku C b g K | none => fun _ _ => none)
 | .scope b, .b :: p, K => ctxJ C J L b p K
 | .cond _ x _, .t :: p, K => ctxJ C J L x p K
 | .cond _ _ y, .e :: p, K => ctxJ C J L y p K
 | _, _, K => K
def jt (C : Cfg) (k : Nat) : Code → List Step1 → List Nat → (XE → St → Option R) → List (Code × (St → Option R))
 | .seq a b, .l :: p, ks, K => (b, fun s => ev C k b s K) :: (jt C k a p ks (seqK C b (ev C k b) K) ++ jt C k b [] [] K)
 | .seq a b, .r :: p, ks, K => (b, fun s => ev C k b s K) :: (jt C k a [] [] (seqK C b (ev C k b) K) ++ jt C k b p ks K)
 | .seq a b, _, _, K => (b, fun s => ev C k b s K) :: (jt C k a [] [] (seqK C b (ev C k b) K) ++ jt C k b [] [] K)
 | .cond _ x y, .t :: p, ks, K => jt C k x p ks K ++ jt C k y [] [] K
 | .cond _ x y, .e :: p, ks, K => jt C k x [] [] K ++ jt C k y p ks K
 | .cond _ x y, _, _, K => jt C k x [] [] K ++ jt C k y [] [] K
 | .block id b, .b :: p, ks, K => jt C k b p ks (blkK id K)
 | .block id b, _, _, K => jt C k b [] [] (blkK id K)
 | .loop b, .b :: p, j :: ks, K => jt C k b p ks (Ku C b (Eb (El C b (ev C k b) K) j) K)
 | _, _, _, _ => []
def lt (C : Cfg) (k : Nat) : Code → List Step1 → List Nat → (XE → St → Option R) → List (Code × (St → Option R))
 | .seq a b, .l :: p, ks, K => lt C k a p ks (seqK C b (ev C k b) K) ++ lt C k b [] [] K
 | .seq a b, .r :: p, ks, K => lt C k a [] [] (seqK C b (ev C k b) K) ++ lt C k b p ks K
 | .seq a b, _, _, K => lt C k a [] [] (seqK C b (ev C k b) K) ++ lt C k b [] [] K
 | .cond _ x y, .t :: p, ks, K => lt C k x p ks K ++ lt C k y [] [] K
 | .cond _ x y, .e :: p, ks, K => lt C k x [] [] K ++ lt C k y p ks K
 | .cond _ x y, _, _, K => lt C k x [] [] K ++ lt C k y [] [] K
 | .block id b, .b :: p, ks, K => lt C k b p ks (blkK id K)
 | .block id b, _, _, K => lt C k b [] [] (blkK id K)
 | .loop b, .b :: p, j :: ks, K => (b, Eb (El C b (ev C k b) K) j) :: lt C k b p ks (Ku C b (Eb (El C b (ev C k b) K) j) K)
 | .loop b, _, _, K => [(b, Eb (El C b (ev C k b) K) k)]
 | _, _, _, _ => []
def OkJ (J : Jt R) (l : List (Code × (St → Option R))) : Prop := ∀ x ∈ l, ∀ g, Gl J x.1 = some g → g = x.2
def OkL (J : Jt R) (l : List (Code × (St → Option R))) : Prop := ∀ x ∈ l, Gl J x.1 = some x.2
theorem As9 {C : Cfg} {J : Jt R} {b : Code} {f g : St → (XE → St → Option R) → Option R} {K : XE → St → Option R} (h1 : ∀ s, f s K = g s K) (h2 : ∀ h, Gl J b = some h → h = fun s => g s K) : seqJ C J b f K = seqK C b g K := by
 funext e s
 cases e with
 | normal =>
  simp only [seqJ, seqK]
  congr 1
  funext s
  cases hb : Gl J b with
  | none => exact h1 s
  | some h => rw [h2 h hb]
 | _ => rfl
theorem Iv {C : Cfg} {J L : Jt R} {k : Nat} : ∀ (c : Code) (s : St) (K : XE → St → Option R), OkJ J (jt C k c [] [] K) → OkL L (lt C k c [] [] K) → evJ C J L c s K = ev C k c s K
 | .skip, s, K, _, _ => rfl
 | .region _ _ _, s, K, _, _ => rfl
 | .seq a b, s, K, hJ, hL => by
  simp only [evJ, ev]
  simp only [jt, lt] at hJ hL
  have e : seqJ C J b (evJ C J L b) K = seqK C b (ev C k b) K := As9
   (fun s => Iv b s K (fun x hx => hJ x (by simp [hx])) (fun x hx => hL x (by simp [hx])))
   (fun h hh => hJ (b, fun s => ev C k b s K) (by simp) h hh)
  rw [e]
  exact Iv a s _ (fun x hx => hJ x (by simp [hx])) (fun x hx => hL x (by simp [hx]))
 | .cond c x y, s, K, hJ, hL => by
  simp only [evJ, ev]
  simp only [jt, lt] at hJ hL
  cases Db (s.get c) with
  | none => rfl
  | some b =>
   simp only []
   rw [Iv (k := k) x _ K (fun z hz => hJ z (by simp [hz])) (fun z hz => hL z (by simp [hz])), Iv (k := k) y _ K (fun z hz => hJ z (by simp [hz])) (fun z hz => hL z (by simp [hz]))]
 | .block id b, s, K, hJ, hL => by
  simp only [evJ, ev]
  exact Iv b s _ (by simpa only [jt] using hJ) (by simpa only [lt] using hL)
 | .loop b, s, K, hJ, hL => by
  simp only [evJ, ev]
  have h := hL (b, Eb (El C b (ev C k b) K) k) (by simp [lt])
  rw [h]
 | .scope b, s, K, _, _ => rfl
 | .exit id, s, K, _, _ => rfl
 | .ret, s, K, _, _ => rfl
 | .goto l, s, K, _, _ => rfl
 | .label l, s, K, _, _ => rfl
 | .refuse y, s, K, _, _ => rfl
 | .rangeFunc f p x y, s, K, _, _ => rfl
def Gc : Code → List Step1 → List Nat → Bool
 | _, [], _ => true
 | .seq a _, .l :: p, ks => Gc a p ks
 | .seq _ b, .r :: p, ks => Gc b p ks
 | .block _ b, .b :: p, ks => Gc b p ks
 | .loop b, .b :: p, _ :: ks => Gc b p ks
 | .cond _ x _, .t :: p, ks => Gc x p ks
 | .cond _ _ y, .e :: p, ks => Gc y p ks
 | _, _, _ => false
theorem Ir {C : Cfg} {J L : Jt R} {k : Nat} : ∀ (c : Code) (p : List Step1) (ks : List Nat) (K : XE → St → Option R), Gc c p ks = true → OkJ J (jt C k c p ks K) → OkL L (lt C k c p ks K) →
  ctxJ C J L c p K = Bn C k c p ks K ∧ OkJ J (jt C k (Bt c p) [] [] (Bn C k c p ks K)) ∧ OkL L (lt C k (Bt c p) [] [] (Bn C k c p ks K))
 | c, [], ks, K, hw, hJ, hL => by
  refine ⟨by unfold ctxJ Bn; rfl, ?_, ?_⟩
  ·rw [show Bt c [] = c by unfold Bt; rfl, show Bn C k c [] ks K = K by unfold Bn; rfl]
   cases c <;> simpa only [jt] using hJ
  ·rw [show Bt c [] = c by unfold Bt; rfl, show Bn C k c [] ks K = K by unfold Bn; rfl]
   cases c <;> simpa only [lt] using hL
 | .seq a b, .l :: p, ks, K, hw, hJ, hL => by
  simp only [ctxJ, Bn, Bt]
  simp only [jt, lt] at hJ hL
  have e : seqJ C J b (evJ C J L b) K = seqK C b (ev C k b) K := As9
   (fun s => Iv b s K (fun x hx => hJ x (by simp [hx])) (fun x hx => hL x (by simp [hx])))
   (fun h hh => hJ (b, fun s => ev C k b s K) (by simp) h hh)
  rw [e]
  exact Ir a p ks _ hw (fun x hx => hJ x (by simp [hx])) (fun x hx => hL x (by simp [hx]))
 | .seq a b, .r :: p, ks, K, hw, hJ, hL => by
  simp only [ctxJ, Bn, Bt]
  simp only [jt, lt] at hJ hL
  exact Ir b p ks _ hw (fun x hx => hJ x (by simp [hx])) (fun x hx => hL x (by simp [hx]))
 | .block id b, .b :: p, ks, K, hw, hJ, hL => by
  simp only [ctxJ, Bn, Bt]
  simp only [jt, lt] at hJ hL
  exact Ir b p ks _ hw hJ hL
 | .loop b, .b :: p, j :: ks, K, hw, hJ, hL => by
  simp only [ctxJ, Bn, Bt]
  simp only [jt, lt] at hJ hL
  have h := hL (b, Eb (El C b (ev C k b) K) j) (by simp)
  rw [h]
  exact Ir b p ks _ hw hJ (fun x hx => hL x (by simp [hx]))
 | .cond c x y, .t :: p, ks, K, hw, hJ, hL => by
  simp only [ctxJ, Bn, Bt]
  simp only [jt, lt] at hJ hL
  exact Ir x p ks _ hw (fun x hx => hJ x (by simp [hx])) (fun x hx => hL x (by simp [hx]))
 | .cond c x y, .e :: p, ks, K, hw, hJ, hL => by
  simp only [ctxJ, Bn, Bt]
  simp only [jt, lt] at hJ hL
  exact Ir y p ks _ hw (fun x hx => hJ x (by simp [hx])) (fun x hx => hL x (by simp [hx]))
def Re (C : Cfg) (J L : Jt R) (c : Code) (p : List Step1) (K : XE → St → Option R) (s : St) : Option R := evJ C J L (Bt c p) s (ctxJ C J L c p K)
def keep (ids : List Nat) : List (Code × (St → Option R)) → Jt R
 | [] => []
 | x :: r => match D8 x.1 with
  | some i => if ids.contains i then (i, x.2) :: keep ids r else keep ids r
  | none => keep ids r
def Fh : Jt R → Bool
 | [] => true
 | x :: r => !(r.map Prod.fst).contains x.1 && Fh r
theorem Acz : ∀ {l : Jt R} {x : Nat × (St → Option R)}, Fh l = true → x ∈ l → Kt l x.1 = some x.2
 | y :: l, x, hk, hx => by
  simp only [Fh, Bool.and_eq_true, Bool.not_eq_true', List.contains_eq_mem, decide_eq_false_iff_not] at hk
  simp only [Kt]
  rcases List.mem_cons.1 hx with rfl | hx
  ·rw [if_pos rfl]
  ·rw [if_neg]
   ·exact Acz hk.2 hx
   ·intro e
    exact hk.1 (List.mem_map.2 ⟨x, hx, e.symm⟩)
theorem Aq6 : ∀ {l : Jt R} {i : Nat} {g : St → Option R}, Kt l i = some g → (i, g) ∈ l
 | x :: l, i, g, h => by
  simp only [Kt] at h
  split at h
  ·rename_i e; cases h; subst e; exact List.mem_cons_self
  ·exact List.mem_cons_of_mem _ (Aq6 h)
theorem Acs {ids : List Nat} : ∀ {l : List (Code × (St → Option R))} {x : Code × (St → Option R)} {i : Nat}, x ∈ l → D8 x.1 = some i → i ∈ ids → (i, x.2) ∈ keep ids l
 | y :: l, x, i, hx, hi, hm => by
  simp only [keep]
  rcases List.mem_cons.1 hx with rfl | hx
  ·rw [hi]
   simp [hm]
  ·have := Acs hx hi hm
   split
   ·split
    ·exact List.mem_cons_of_mem _ this
    ·exact this
   ·exact this
theorem Te {ids : List Nat} : ∀ {l : List (Code × (St → Option R))} {x : Nat × (St → Option R)}, x ∈ keep ids l → x.1 ∈ ids
 | y :: l, x, h => by
  simp only [keep] at h
  split at h
  ·split at h
   ·rename_i hm
    rcases List.mem_cons.1 h with rfl | h
    ·simpa using hm
    ·exact Te h
   ·exact Te h
  ·exact Te h
theorem A8k {ids : List Nat} {l : List (Code × (St → Option R))} (hk : Fh (keep ids l) = true) : OkJ (keep ids l) l := by
 intro x hx g hg
 unfold Gl at hg
 obtain ⟨i, hi, h2⟩ := Option.bind_eq_some_iff.1 hg
 have hm := Te (Aq6 h2)
 have := Acz hk (Acs hx hi hm)
 rw [h2] at this
 cases this
 rfl
def O7 (ids : List Nat) (l : List (Code × (St → Option R))) : Bool := l.all fun x => match D8 x.1 with | some i => ids.contains i | none => false
theorem A8l {ids : List Nat} {l : List (Code × (St → Option R))} (hk : Fh (keep ids l) = true) (ha : O7 ids l = true) : OkL (keep ids l) l := by
 intro x hx
 have h := List.all_eq_true.1 ha x hx
 cases hi : D8 x.1 with
 | none => rw [hi] at h; cases h
 | some i =>
  rw [hi] at h
  unfold Gl
  rw [hi]
  exact Acz hk (Acs hx hi (by simpa using h))
theorem A0k {C : Cfg} {k : Nat} {c : Code} {p : List Step1} {ks : List Nat} {K : XE → St → Option R} (s : St) (js ls : List Nat) {J L : Jt R}
  (hw : Gc c p ks = true) (hJ : keep js (jt C k c p ks K) = J) (hL : keep ls (lt C k c p ks K) = L) (h1 : Fh J = true) (h2 : Fh L = true) (h3 : O7 ls (lt C k c p ks K) = true) :
  evAt C k c p ks K s = Re C J L c p K s := by
 subst hJ
 subst hL
 obtain ⟨e, a, b⟩ := Ir c p ks K hw (A8k h1) (A8l h2 h3)
 unfold evAt Re
 rw [e, Iv _ _ _ a b]
end
def Ee : List (Nat × List Sig) → Nat → List Sig
 | [], _ => []
 | x :: r, i => if x.1 = i then x.2 else Ee r i
def AllS (P : Program) (g : Nat) : List Sig → Prop
 | [] => True
 | s :: r => Ac P g s ∧ AllS P g r
def Ha (P : Program) : List (Nat × List Sig) → Prop
 | [] => True
 | x :: r => AllS P x.1 x.2 ∧ Ha P r
theorem Aev {P : Program} {g : Nat} : ∀ {l : List Sig}, AllS P g l → ∀ s ∈ l, Ac P g s
 | s :: r, h, x, hx => by
  rcases List.mem_cons.1 hx with rfl | hx
  ·exact h.1
  ·exact Aev h.2 x hx
theorem Lk {P : Program} : ∀ {l : List (Nat × List Sig)}, Ha P l → ∀ g, ∀ s ∈ Ee l g, Ac P g s
 | [], h, g, s, hs => by cases hs
 | (n, l) :: r, h, g, s, hs => by
  simp only [Ee] at hs
  split at hs
  ·rename_i e; subst e; exact Aev h.1 s hs
  ·exact Lk h.2 g s hs
theorem fn_ok {C : Cfg} {l : List (Nat × List Sig)} (he : C.env = Ee l) (hl : Ha C.P l) (hm : C.P.follows .mixedOrders = true) (k : Nat) {g : Nat} {fn : Func} (hf : C.P.funcs[g]? = some fn) (hname : (fn.name == "runtime.NumGoroutine") = false)
  (hb : fn.body = some (Ci fn)) (kin kout : Sk) (hnB : C.npB = kin.boxes.length) (hnO : C.npO = kin.owns.length) (hlB : C.npB ≤ N0) (hlO : C.npO ≤ N0) : Ac C.P g ⟨kin, kout, B9 kin.tys kout.tys (Ag C k fn kin kout)⟩ := by
 have hE : Bl C := by
  intro g s hs
  rw [he] at hs
  exact Lk hl g s hs
 exact A2q hE (Ms hm hE) k hf hname hb kin kout hnB hnO hlB hlO
theorem fnP_ok {C : Cfg} {l : List (Nat × List Sig)} (he : C.env = Ee l) (hl : Ha C.P l) (hm : C.P.follows .mixedOrders = true) (k : Nat) {g : Nat} {fn : Func} (hf : C.P.funcs[g]? = some fn) (hname : (fn.name == "runtime.NumGoroutine") = false)
  (hb : fn.body = some (Ci fn)) (kin kout : Sk) (pt : Nat) (tp : List Ty) (pg : Bool) (hnB : C.npB = kin.boxes.length) (hnO : C.npO = kin.owns.length) (hlB : C.npB ≤ N0) (hlO : C.npO ≤ N0) : Ac C.P g ⟨kin, kout, Bd kin.tys kout.tys pt tp pg (Ba C k fn kin kout pt tp pg)⟩ := by
 have hE : Bl C := by
  intro g s hs
  rw [he] at hs
  exact Lk hl g s hs
 exact A2p hE (Ms hm hE) k hf hname hb kin kout pt tp pg hnB hnO hlB hlO
def rdA {α : Type} (d : α) (xs : List α) (i : Nat) : α := xs.getD i d
def appB (b m n : Nat) : Bool := decide ((m + n) * b ≤ 140737488355328) && decide (m + n ≤ maxLen)
section
variable {P : Program} {F : Nat → Prop} {s s' : St} {G : Gm} {w w' : World} {vals : List Value}
theorem Aco {w w' : World} (h : Below w.heap.size w w') : Grew w w' :=
 ⟨h.os, h.tape, h.output, h.size, fun k hk _ => h.block k hk⟩
theorem Oe {s : St} {G : Gm} {k : Nat} (hb : s.boxes = []) (ho : s.owns = []) : ¬ Live s G k := by
 rintro (⟨b, ls, h, _⟩ | ⟨l, o, h, _⟩)
 ·simp [Aa, hb] at h
 ·simp [Ab, ho] at h
theorem Aql {s : St} (hb : s.boxes = []) (ho : s.owns = []) (hF : ∀ k, F k → k < w.heap.size) (hg : ∀ x ∈ gTab, ∃ et fr, w.heap[x.1]? = some (.cells x.2 et fr)) (hs : All2 (HA (HR F s G w)) s.slots vals) : Holds F s G vals w where
 slots := hs
 box := fun b ls h => by simp [Aa, hb] at h
 own := fun l o h => by simp [Ab, ho] at h
 bb := fun b b' ls ls' h => by simp [Aa, hb] at h
 bo := fun b ls l o h => by simp [Aa, hb] at h
 oo := fun l l' o o' k h => by simp [Ab, ho] at h
 nF := fun k h => absurd h (Oe hb ho)
 Flt := hF
 ty := fun b ls h => by simp [Aa, hb] at h
 gl := fun x hx => ⟨Oe hb ho, hg x hx⟩
theorem Mu {k : Sk} {ps : List PL} (h : k.boxes = []) : (enc k 0 ps).boxes = [] := by simp [enc, h, J2]
theorem Mv {k : Sk} {ps : List PL} (h : k.owns = []) : (enc k 0 ps).owns = [] := by simp [enc, h, Fv]
theorem N5 {k : IntKind} {n : Int} {v : Value} (h : HA (HR F s G w) (lf (.pv ⟨.int k, n⟩)) v) : v = .int k n ∧ (Lit.int k n).wf = true := Do (w := w) (G := G) (ok := okS F s G w) (os := s.owns) h
theorem ha_bool {b : Bool} {v : Value} (h : HA (HR F s G w) (lf (.pv ⟨.bool, b⟩)) v) : v = .bool b := Hz (w := w) (G := G) (ok := okS F s G w) (os := s.owns) h
theorem Aqj {q : List Int} {v : Value} (h : HA (HR F s G w) (lf (.pv ⟨.str, q⟩)) v) : ∃ y : ByteArray, v = .string y ∧ bs y = q ∧ y.size ≤ maxLen := Fm (w := w) (G := G) (ok := okS F s G w) (os := s.owns) h
theorem A7s {k : IntKind} {n : Int} (h : (Lit.int k n).wf = true) : HA (HR F s G w) (lf (.pv ⟨.int k, n⟩)) (.int k n) := by
 show [Value.int k n] = [Value.int k n] ∧ (Lit.int k n).wf = true
 exact ⟨rfl, h⟩
theorem Aqk {y : ByteArray} (h : y.size ≤ maxLen) : HA (HR F s G w) (lf (.pv ⟨.str, bs y⟩)) (.string y) := by
 show ∃ z : ByteArray, [Value.string y] = [Value.string z] ∧ bs z = bs y ∧ z.size ≤ maxLen
 exact ⟨y, rfl, rfl, h⟩
theorem A7t : HA (HR F s G w) (lf (.err true)) .nilIface := rfl
theorem Aeh {kin kout : Sk} {g : Nat} (h1 : kin.boxes = []) (h2 : kin.owns = []) (h3 : kout.boxes = []) (h4 : kout.owns = []) (f : HLs kin.tys → Option (HLs kout.tys))
  (hfn : ∃ fn, P.funcs[g]? = some fn ∧ (fn.name == "runtime.NumGoroutine") = false ∧ fn.body.isSome = true)
  (h : ∀ x y, f x = some y → ∀ (F : Nat → Prop) (G : Gm) (vals : List Value) (w : World), Holds F (enc kin 0 (toPL kin.tys x)) G vals w →
   Calls P g vals.toArray w fun e w' => ∃ rv, e = .returned (retV rv) ∧ Grew w w' ∧ All2 (HA (HR F (enc kout 0 (toPL kout.tys y)) G w')) (Bj kout.slots (toPL kout.tys y)) rv) :
  Ac P g ⟨kin, kout, B9 kin.tys kout.tys f⟩ := by
 refine ⟨hfn, fun ps qs hrun F G vals w hH => ?_⟩
 have z1 : szS kin = 0 := by simp [szS, h1, h2]
 have z2 : szS kout = 0 := by simp [szS, h3, h4]
 simp only [B9] at hrun
 split at hrun
 ·rename_i x hx
  obtain ⟨y, hy, hq⟩ := Option.bind_eq_some_iff.1 hrun
  cases hq
  have hps := Gu hx
  subst hps
  simp only [z1, z2] at hH ⊢
  refine (h x y hy F G vals w hH).mono fun e w' he => ?_
  obtain ⟨rv, e1, e2, e3⟩ := he
  refine ⟨G, rv, e1, Aql (Mu h3) (Mv h4) (fun k hk => Nat.lt_of_lt_of_le (hH.Flt k hk) e2.size) (fun x hx => ((hH.grew e2).gl x hx).2) e3, ⟨e2.os, e2.tape, e2.output, e2.size, fun k hk _ => e2.block hk⟩, fun k hk => absurd hk (Oe (Mu h3) (Mv h4)), fun b hb => ?_, fun l hl => ?_⟩
  ·exact ⟨rfl, rfl⟩
  ·exact absurd hl (by rw [h2]; exact Nat.not_lt_zero _)
 ·cases hrun
end
section
variable {P : Program} {F : Nat → Prop} {s s' : St} {G : Gm} {W w w' : World} {vals : List Value}
theorem cell_at {a : Addr} {v : Value} (h : W.cell? a = some v) : a.spot = none ∧ a.block < W.heap.size := by
 unfold World.cell? at h
 split at h
 ·rename_i hb
  refine ⟨?_, (Array.getElem?_eq_some_iff.1 hb).1⟩
  split at h
  ·cases h
  ·rename_i hz; simpa using hz
 ·cases h
def Lo : Sk := ⟨[.lf (.pv .bool)], [], []⟩
theorem A9r {g : Nat} {kin : Sk} {f : HLs kin.tys → Option Bool} (h : Ac P g ⟨kin, Lo, B9 kin.tys Lo.tys f⟩) (h1 : kin.boxes = []) (h2 : kin.owns = []) {x : HLs kin.tys} (hx : f x = some true) (hg : ∀ x ∈ gTab, ∃ et fr, W.heap[x.1]? = some (.cells x.2 et fr))
  (hv : ∀ (G : Gm) (s : St), s.boxes = [] → s.owns = [] → All2 (HA (HR (fun _ => False) s G W)) (Bj kin.slots (toPL kin.tys x)) vals) :
  Calls P g vals.toArray W fun e W' => e = .returned (.bool true) ∧ Below W.heap.size W W' := by
 have z1 : szS kin = 0 := by simp [szS, h1, h2]
 have hrun : (B9 kin.tys Lo.tys f).run (List PL) (toPL kin.tys x) some = some [⟨.bool, true⟩] := by
  simp only [B9]
  rw [Arj]
  simp only [hx]
  rfl
 have hH : Holds (fun _ => False) (enc kin 0 (toPL kin.tys x)) ⟨fun _ => 0, fun _ => .slice none 0 0, fun _ => 0⟩ vals W :=
  Aql (Mu h1) (Mv h2) (fun k hk => hk.elim) hg (hv _ _ (Mu h1) (Mv h2))
 have hc := h.2 _ _ hrun (fun _ => False) ⟨fun _ => 0, fun _ => .slice none 0 0, fun _ => 0⟩ vals W (by simp only [z1]; exact hH)
 refine hc.mono fun e W' he => ?_
 obtain ⟨G', rv, e1, e2, e3⟩ := he
 refine ⟨?_, e3.keeps.os, e3.keeps.tape, e3.keeps.output, e3.keeps.size, fun k hk => e3.keeps.block k hk ?_⟩
 ·have hs := e2.slots
  have hs2 : All2 (HA (HR (fun _ => False) (enc Lo (szS Lo) [⟨.bool, true⟩]) G' W')) [lf (.pv ⟨.bool, true⟩)] rv := hs
  cases hs2 with
  | cons a b =>
   cases b
   have := ha_bool a
   subst this
   exact e1
 ·simp only [z1]
  exact Oe (Mu h1) (Mv h2)
end
section
def lieF (P : Program) (c : Nat → Ty → Bool) : List Field → Nat → Ty → Nat → Bool
 | [], o, .nil, n => o == n
 | f :: r, o, .cons a b, n => f.offset == o && (P.cellsOf f.type == a.size && (c f.type a && lieF P c r (o + a.size) b n))
 | _, _, _, _ => false
def lieE (P : Program) (c : Nat → Ty → Bool) (e : Nat) : Nat → Ty → Bool
 | 0, .nil => true
 | n + 1, .cons a b => P.cellsOf e == a.size && (c e a && lieE P c e n b)
 | _, _ => false
def lieT (P : Program) : Nat → Nat → Ty → Bool
 | 0, _, _ => false
 | n + 1, t, ty => match P.underlying t, ty with
  | some (.int k), .int k' => decide (k = k')
  | some .bool, .bool => true
  | some .string, .str => true
  | some (.slice e), .slice a => P.cellsOf e == a.size && (decide (0 < a.size) && lieT P n e a)
  | some (.struct fs), ty => lieF P (lieT P n) fs.toList 0 ty (P.cellsOf t)
  | some (.array m e), ty => P.cellsOf t == m * P.cellsOf e && lieE P (lieT P n) e m ty
  | _, _ => false
variable {H : Type} {enc : TypeId × Value → H} {P : Program} {W : World} {base : Nat} {spare : Nat → Bool} {held : Bool}
theorem Axm {base : Nat} {a : Addr} {n : Nat} {cs : List Value} (h : W.cells? base a n = some cs) : Cells W a cs := by
 obtain ⟨_, h1, h2⟩ := World.cells?_some h
 intro j v hv
 have hj : j < cs.length := (List.getElem?_eq_some_iff.1 hv).1
 rw [h2 j (by omega), hv]
theorem Ar5 {α β : Type} {R : α → β → Prop} : ∀ (l : List β), (∀ b ∈ l, ∃ a, R a b) → ∃ xs : List α, xs.length = l.length ∧ ∀ (i : Nat) (x : α) (b : β), xs[i]? = some x → l[i]? = some b → R x b
 | [], _ => ⟨[], rfl, fun i x b h => by simp at h⟩
 | b :: l, h => by
  obtain ⟨a, ha⟩ := h b (by simp)
  obtain ⟨xs, h1, h2⟩ := Ar5 l fun c hc => h c (by simp [hc])
  refine ⟨a :: xs, by simp [h1], fun i x c hx hc => ?_⟩
  cases i with
  | zero => simp at hx hc; subst hx; subst hc; exact ha
  | succ i => simp at hx hc; exact h2 i x c hx hc
theorem A9h {ok : Nat → Prop} (hok : ∀ b, b < W.heap.size → ok b) : ∀ (n : Nat) (t : Nat) (ty : Ty), lieT P n t ty = true → ∀ (fuel : Nat) (cs : List Value) (x : DataW H × List MemPlace),
  DataW.trod enc P W base spare held fuel t cs = some x → ∃ z : ty.den, Rep W ok ty z cs := by
 intro n
 induction n with
 | zero => intro t ty h; cases h
 | succ n ih =>
  intro t ty hc fuel cs x h
  unfold lieT at hc
  split at hc
  ·rename_i k k' hu
   simp only [decide_eq_true_eq] at hc
   subst hc
   obtain ⟨m, rfl, _, hw⟩ := DataW.trod_int hu h
   refine ⟨m, ?_⟩
   show [Value.int k m] = [Value.int k m] ∧ _
   exact ⟨rfl, hw⟩
  ·rename_i hu
   obtain ⟨b, rfl, _⟩ := DataW.trod_bool hu h
   refine ⟨b, ?_⟩
   show [Value.bool b] = [Value.bool b]
   rfl
  ·rename_i hu
   have h3 := DataW.trod_string hu h
   obtain ⟨s, rfl, _, hs⟩ := h3
   refine ⟨bs s, ?_⟩
   show ∃ y : ByteArray, [Value.string s] = [Value.string y] ∧ bs y = bs s ∧ y.size ≤ maxLen
   exact ⟨s, rfl, rfl, hs⟩
  ·rename_i e a hu
   simp only [Bool.and_eq_true, beq_iff_eq, decide_eq_true_eq] at hc
   obtain ⟨hsz, hpos, hch⟩ := hc
   rcases DataW.trod_slice hu h with ⟨rfl, _⟩ | ⟨A, len, cap, elems, rest, m, _, rfl, _, hb, hl, hm, hlen, hel, _, _⟩
   ·refine ⟨([] : List a.den), ?_⟩
    show Dr (α := a.den) W ok (fun x es => Rep W ok a x es) a.size [] _
    exact ⟨none, 0, rfl, Nat.le_refl _, Nat.zero_le _, fun e => absurd rfl e⟩
   ·have each : ∀ i ∈ List.range len, ∃ z : a.den, ∃ es, Rep W ok a z es ∧ Cells W (A.add (i * a.size)) es := by
     intro i hi
     rw [List.mem_range] at hi
     have h1 := hel i hi
     rw [List.getElem?_eq_getElem (by omega), Option.bind_eq_some_iff] at h1
     obtain ⟨es, h2, h3⟩ := h1
     obtain ⟨z, hz⟩ := ih e a hch _ _ _ h3
     rw [hsz] at h2
     exact ⟨z, es, hz, Axm h2⟩
    obtain ⟨xs, hx1, hx2⟩ := Ar5 (R := fun (z : a.den) (i : Nat) => ∃ es, Rep W ok a z es ∧ Cells W (A.add (i * a.size)) es) (List.range len) each
    rw [List.length_range] at hx1
    refine ⟨xs, ?_⟩
    show Dr (α := a.den) W ok (fun x es => Rep W ok a x es) a.size xs _
    refine ⟨some A, cap, by rw [← hx1], by omega, hm, fun hne => ?_⟩
    have h0 : 0 < len := by
     rcases Nat.eq_zero_or_pos len with e | e
     ·rw [e] at hx1; exact absurd (List.length_eq_zero_iff.1 hx1) hne
     ·exact e
    have hc0 := hx2 0 _ 0 (List.getElem?_eq_getElem (by omega)) (by simp [List.getElem?_range, h0])
    obtain ⟨es, hr, hcl⟩ := hc0
    have hlen0 := hr.len
    have hcell := hcl 0 es[0] (by simp)
    have hA : A.add (0 * a.size) = A := by simp [Addr.add]
    rw [hA] at hcell
    have hA0 : A.add 0 = A := by simp [Addr.add]
    rw [hA0] at hcell
    obtain ⟨c1, c2⟩ := cell_at hcell
    refine ⟨A, rfl, c1, hok _ c2, fun i z hz => ?_⟩
    have hi : i < len := by
     have := (List.getElem?_eq_some_iff.1 hz).1
     omega
    exact hx2 i z i hz (by simp [List.getElem?_range, hi])
  ·rename_i fs hu
   obtain ⟨xs, m, rfl, _, hcl, hxl, hfs⟩ := DataW.trod_struct hu h
   rw [← hcl] at hc
   have key : ∀ (l : List Field) (o : Nat) (ty : Ty), (∀ f ∈ l, ∃ y, DataW.trod enc P W base spare held m f.type ((cs.drop f.offset).take (P.cellsOf f.type)) = some y) →
     lieF P (lieT P n) l o ty cs.length = true → o ≤ cs.length → ∃ z : ty.den, Rep W ok ty z (cs.drop o) := by
    intro l
    induction l with
    | nil =>
     intro o ty _ hk ho
     cases ty with
     | nil =>
      simp only [lieF, beq_iff_eq] at hk
      refine ⟨(), ?_⟩
      show cs.drop o = []
      exact List.drop_eq_nil_of_le (by omega)
     | _ => simp [lieF] at hk
    | cons f l ihl =>
     intro o ty hf hk ho
     cases ty with
     | cons a b =>
      simp only [lieF, Bool.and_eq_true, beq_iff_eq] at hk
      obtain ⟨k1, k2, k3, k4⟩ := hk
      obtain ⟨y, hy⟩ := hf f (by simp)
      obtain ⟨z, hz⟩ := ih _ _ k3 _ _ _ hy
      rw [k1, k2] at hz
      have hzl := hz.len
      rw [List.length_take, List.length_drop] at hzl
      obtain ⟨z2, hz2⟩ := ihl (o + a.size) b (fun g hg => hf g (by simp [hg])) k4 (by
       by_cases h0 : a.size = 0
       ·omega
       ·omega)
      refine ⟨(z, z2), ?_⟩
      show ∃ c0 c1, cs.drop o = c0 ++ c1 ∧ Rep W ok a z c0 ∧ Rep W ok b z2 c1
      refine ⟨_, _, ?_, hz, hz2⟩
      rw [← List.drop_drop, List.take_append_drop]
     | _ => simp [lieF] at hk
   have := key fs.toList 0 _ (fun f hf => by
    obtain ⟨i, hi⟩ := List.getElem?_of_mem hf
    rw [Array.getElem?_toList] at hi
    have h2 := hfs i f hi
    have hlt : i < xs.length := by
     rw [hxl]
     exact (Array.getElem?_eq_some_iff.1 hi).1
    rw [List.getElem?_eq_getElem hlt] at h2
    exact ⟨_, h2⟩) hc (Nat.zero_le _)
   rwa [List.drop_zero] at this
  ·rename_i q e hu
   simp only [Bool.and_eq_true, beq_iff_eq] at hc
   obtain ⟨xs, m, rfl, _, hcl, hxl, hfs⟩ := DataW.trod_array hu h
   have key : ∀ (j : Nat) (o : Nat) (ty : Ty), o + j = q → lieE P (lieT P n) e j ty = true → ∃ z : ty.den, Rep W ok ty z (cs.drop (o * P.cellsOf e)) := by
    intro j
    induction j with
    | zero =>
     intro o ty hq hk
     cases ty with
     | nil =>
      refine ⟨(), ?_⟩
      show cs.drop (o * P.cellsOf e) = []
      refine List.drop_eq_nil_of_le ?_
      rw [hcl, hc.1, ← hq]
      exact Nat.le_refl _
     | _ => simp [lieE] at hk
    | succ j ihj =>
     intro o ty hq hk
     cases ty with
     | cons a b =>
      simp only [lieE, Bool.and_eq_true, beq_iff_eq] at hk
      obtain ⟨k2, k3, k4⟩ := hk
      have h2 := hfs o (by omega)
      rw [List.getElem?_eq_getElem (by omega)] at h2
      obtain ⟨z, hz⟩ := ih _ _ k3 _ _ _ h2
      obtain ⟨z2, hz2⟩ := ihj (o + 1) b (by omega) k4
      refine ⟨(z, z2), ?_⟩
      show ∃ c0 c1, cs.drop (o * P.cellsOf e) = c0 ++ c1 ∧ Rep W ok a z c0 ∧ Rep W ok b z2 c1
      refine ⟨_, _, ?_, hz, hz2⟩
      rw [Nat.add_mul, Nat.one_mul, ← List.drop_drop, List.take_append_drop]
     | _ => simp [lieE] at hk
   have := key q 0 _ (by omega) hc.2
   rwa [Nat.zero_mul, List.drop_zero] at this
  ·cases hc
theorem A7r {F : Nat → Prop} {s : St} {G : Gm} {t : Ty} {z : t.den} {cs : Array Value} (h : Rep W (okS F s G W) t z cs.toList) : HA (HR F s G W) (.cv (.agg ((flat t z).map .pv))) (.agg cs) := by
 have h2 := K6 h
 refine ⟨cs, rfl, ?_⟩
 exact All2.map_left h2
theorem okW_agg {r : Reach} {b : Nat} {t : Nat} {v : Value} (ht : (match P.underlying t with | some (.struct _) => true | some (.array _ _) => true | _ => false) = true) (h : Value.okWide P W r b t v) : ∃ cs : Array Value, v = .agg cs := by
 unfold Value.okWide at h
 split at ht
 ·rename_i hu
  rw [hu] at h
  obtain ⟨cs, rfl, _⟩ := h
  exact ⟨cs, rfl⟩
 ·rename_i hu
  rw [hu] at h
  obtain ⟨cs, rfl, _⟩ := h
  exact ⟨cs, rfl⟩
 ·cases ht
theorem ha_leaf_mk {F : Nat → Prop} {s : St} {G : Gm} {p : PL} {v : Value} (h : Rep W (okS F s G W) p.t p.x [v]) : HA (HR F s G W) (lf (.pv p)) v := h
end
section
variable {α R : Type}
def cat (x y : List Int) (K : List Int → Option R) : Option R := bif decide (List.length x + List.length y ≤ maxLen) then K (x ++ y) else none
def idx (d : α) (l : List α) (i : Int) (K : α → Option R) : Option R := bif inB i (List.length l) then K (rdA d l (Int.toNat i)) else none
def idxI (l : List Int) (i : Int) (K : Int → Option R) : Option R := bif inB i (List.length l) then K (rdI l (Int.toNat i)) else none
def cut (l : List α) (lo hi : Int) (K : List α → Option R) : Option R := bif cutB lo hi (List.length l) then K (cutL l lo hi) else none
def app (b : Nat) (x y : List α) (K : List α → Option R) : Option R := bif appB b (List.length x) (List.length y) then K (x ++ y) else none
end
def Jb (id : Nat) : Code → Option (List Step1)
 | .seq a b => if D8 b = some id then some [.r] else match Jb id a with
  | some p => some (.l :: p)
  | none => (Jb id b).map fun p => .r :: p
 | .cond _ x y => match Jb id x with
  | some p => some (.t :: p)
  | none => (Jb id y).map fun p => .e :: p
 | .block _ b => (Jb id b).map fun p => .b :: p
 | .loop b => (Jb id b).map fun p => .b :: p
 | _ => none
def Jc (id : Nat) : Code → Option (List Step1)
 | .seq a b => match Jc id a with
  | some p => some (.l :: p)
  | none => (Jc id b).map fun p => .r :: p
 | .cond _ x y => match Jc id x with
  | some p => some (.t :: p)
  | none => (Jc id y).map fun p => .e :: p
 | .block _ b => (Jc id b).map fun p => .b :: p
 | .loop b => if D8 (.loop b) = some id then some [] else (Jc id b).map fun p => .b :: p
 | _ => none
def stOf (k : Sk) (n : Nat) (x : HLs k.tys) : St := enc k n (toPL k.tys x)
def st0 (C : Cfg) (f : Func) (k : Sk) (x : HLs k.tys) : St := { enc k C.n (toPL _ x) with slots := Bj k.slots (toPL _ x) ++ List.replicate (f.ntmps - k.slots.length) .dead }
section
variable {R : Type}
def J3 (C : Cfg) (k : Nat) (B : Code) (K : XE → St → Option R) (id : Nat) (ks : List Nat) (s : St) : Option R := evAt C k B ((Jb id B).getD []) ks K s
def J4 (C : Cfg) (k : Nat) (B : Code) (K : XE → St → Option R) (id : Nat) (ks : List Nat) (j : Nat) (s : St) : Option R := loopAt C k B ((Jc id B).getD []) ks j K s
abbrev JF (R : Type) := Nat → List Nat → St → Option R
abbrev LF (R : Type) := Nat → List Nat → Nat → St → Option R
def jl (J : JF R) (js : List (Nat × List Nat)) : Jt R := js.map fun x => (x.1, fun s => J x.1 x.2 s)
def ll (L : LF R) (ls : List (Nat × List Nat × Nat)) : Jt R := ls.map fun x => (x.1, fun s => L x.1 x.2.1 x.2.2 s)
theorem cut_gen {C : Cfg} {k : Nat} {B : Code} {K : XE → St → Option R} {p : List Step1} {ks : List Nat} {s : St} (js : List (Nat × List Nat)) (ls : List (Nat × List Nat × Nat)) (t : JF R → LF R → Option R) {r : Option R}
  (h0 : r = evAt C k B p ks K s) (hw : Gc B p ks = true) (hJ : keep (js.map fun x => x.1) (jt C k B p ks K) = jl (J3 C k B K) js) (hL : keep (ls.map fun x => x.1) (lt C k B p ks K) = ll (J4 C k B K) ls)
  (h1 : Fh (jl (J3 C k B K) js) = true) (h2 : Fh (ll (J4 C k B K) ls) = true) (h3 : O7 (ls.map fun x => x.1) (lt C k B p ks K) = true)
  (h4 : ∀ (J : JF R) (L : LF R), Re C (jl J js) (ll L ls) B p K s = t J L) : r = t (J3 C k B K) (J4 C k B K) :=
 h0.trans ((A0k s _ _ hw hJ hL h1 h2 h3).trans (h4 _ _))
structure FnX (R : Type) where
 C : Cfg
 k : Nat
 B : Code
 K : XE → St → Option R
def FnX.J (D : FnX R) : JF R := J3 D.C D.k D.B D.K
def FnX.L (D : FnX R) : LF R := J4 D.C D.k D.B D.K
def mkX (C : Cfg) (k : Nat) (f : Func) (o : Sk) : FnX (HLs o.tys) := ⟨C, k, Ci f, retK C f.results o⟩
def mkXP (C : Cfg) (k : Nat) (f : Func) (o : Sk) (pt : Nat) (tp : List Ty) (pg : Bool) : FnX (HLs o.tys ⊕ HLs tp) := ⟨C, k, Ci f, retKP C f.results o pt tp pg⟩
theorem cutX (D : FnX R) (p : List Step1) (ks : List Nat) (s : St) (js : List (Nat × List Nat)) (ls : List (Nat × List Nat × Nat)) (t : JF R → LF R → Option R) {r : Option R}
  (h0 : r = evAt D.C D.k D.B p ks D.K s) (hw : Gc D.B p ks = true) (hJ : keep (js.map fun x => x.1) (jt D.C D.k D.B p ks D.K) = jl (J3 D.C D.k D.B D.K) js) (hL : keep (ls.map fun x => x.1) (lt D.C D.k D.B p ks D.K) = ll (J4 D.C D.k D.B D.K) ls)
  (h1 : Fh (jl (J3 D.C D.k D.B D.K) js) = true) (h2 : Fh (ll (J4 D.C D.k D.B D.K) ls) = true) (h3 : O7 (ls.map fun x => x.1) (lt D.C D.k D.B p ks D.K) = true)
  (h4 : ∀ (J : JF R) (L : LF R), Re D.C (jl J js) (ll L ls) D.B p D.K s = t J L) : r = t D.J D.L :=
 cut_gen js ls t h0 hw hJ hL h1 h2 h3 h4
end
abbrev EnvL := List (Nat × List Sig)
def Af (i o : Sk) (f : HLs i.tys → Option (HLs o.tys)) : Sig := ⟨i, o, B9 i.tys o.tys f⟩
def okB (C : Cfg) (fn : Func) (kin : Sk) : Bool := !(fn.name == "runtime.NumGoroutine") && (fn.body.isSome && (decide (C.npB = kin.boxes.length) && (decide (C.npO = kin.owns.length) && (decide (C.npB ≤ N0) && decide (C.npO ≤ N0)))))
noncomputable def hid {α : Type} (x : α) : α := Classical.choose (⟨x, rfl⟩ : ∃ y, y = x)
theorem Ta {α : Type} (x : α) : hid x = x := Classical.choose_spec (⟨x, rfl⟩ : ∃ y, y = x)
theorem Ae {α β : Type} (f : α → β) (x : α) : hid f x = f x := by rw [Ta]
theorem Ah (C : Cfg) {l : EnvL} {kin kout : Sk} (k : Nat) (he : C.env = Ee l) (hl : Ha C.P l) (hm : C.P.follows .mixedOrders = true) {g : Nat} {fn : Func} (hf : C.P.funcs[g]? = some fn) (hb : okB C fn kin = true) :
  Ac C.P g (Af kin kout (hid (Ag C k fn kin kout))) := by
 rw [Ta]
 unfold okB at hb
 simp only [Bool.and_eq_true, Bool.not_eq_true', decide_eq_true_eq] at hb
 obtain ⟨h1, h2, h3, h4, h5, h6⟩ := hb
 obtain ⟨c, hc⟩ := Option.isSome_iff_exists.1 h2
 exact fn_ok he hl hm k hf h1 (by unfold Ci; rw [hc]) kin kout h3 h4 h5 h6
theorem Bv (C : Cfg) {l : EnvL} {kin kout : Sk} (k : Nat) (pt : Nat) (tp : List Ty) (pg : Bool) (he : C.env = Ee l) (hl : Ha C.P l) (hm : C.P.follows .mixedOrders = true) {g : Nat} {fn : Func} (hf : C.P.funcs[g]? = some fn) (hb : okB C fn kin = true) :
  Ac C.P g ⟨kin, kout, Bd kin.tys kout.tys pt tp pg (hid (Ba C k fn kin kout pt tp pg))⟩ := by
 rw [Ta]
 unfold okB at hb
 simp only [Bool.and_eq_true, Bool.not_eq_true', decide_eq_true_eq] at hb
 obtain ⟨h1, h2, h3, h4, h5, h6⟩ := hb
 obtain ⟨c, hc⟩ := Option.isSome_iff_exists.1 h2
 exact fnP_ok he hl hm k hf h1 (by unfold Ci; rw [hc]) kin kout pt tp pg h3 h4 h5 h6
theorem w64 {n : Int} (h : -9223372036854775808 ≤ n ∧ n ≤ 9223372036854775807) : IntKind.wrap .i64 n = n := by
 rw [IntKind.wrap_i64]
 omega
theorem wu8 {n : Int} (h : 0 ≤ n ∧ n ≤ 255) : IntKind.wrap .u8 n = n := by
 have : IntKind.wrap .u8 n = n % 256 := rfl
 rw [this]
 omega
section
variable {α : Type} {x y : α} {z : Option α}
theorem cd {p : Prop} [Decidable p] : (bif decide p then x else y) = if p then x else y := by
 by_cases h : p <;> simp [h]
theorem cbeq {β : Type} [BEq β] [LawfulBEq β] [DecidableEq β] {a b : β} : (bif a == b then x else y) = if a = b then x else y := by
 by_cases h : a = b
 ·simp [h]
 ·have : (a == b) = false := by simpa using h
  rw [this, if_neg h]; rfl
theorem Td {p q : Prop} [Decidable p] [Decidable q] : (if p then (if q then x else y) else y) = if p ∧ q then x else y := by
 by_cases h : p <;> by_cases h2 : q <;> simp [h, h2]
theorem cbne {β : Type} [BEq β] [LawfulBEq β] [DecidableEq β] {a b : β} : (bif a != b then x else y) = if a = b then y else x := by
 by_cases h : a = b
 ·simp [h]
 ·have : (a != b) = true := by simpa using h
  rw [this, if_neg h]; rfl
theorem cand {a b : Bool} : (bif a && b then x else y) = bif a then (bif b then x else y) else y := by cases a <;> rfl
theorem cinB {i : Int} {n : Nat} : (bif inB i n then x else y) = if 0 ≤ i ∧ i < n then x else y := by
 unfold inB; rw [cand, cd, cd, Td]
theorem Hi {i j : Int} {n : Nat} : (bif cutB i j n then x else y) = if 0 ≤ i ∧ i ≤ j ∧ j ≤ n then x else y := by
 unfold cutB; rw [cand, cand, cd, cd, cd, Td, Td]; simp only [and_assoc]
theorem Lt {b m n : Nat} : (bif appB b m n then x else y) = if (m + n) * b ≤ 140737488355328 ∧ m + n ≤ 9223372036854775807 then x else y := by
 unfold appB; rw [cand, cd, cd, Td]; rfl
end
theorem iteS {α : Type} {c : Prop} [Decidable c] {x y z : α} (h1 : c → x = z) (h2 : ¬c → y = z) : (if c then x else y) = z := by
 by_cases h : c
 ·rw [if_pos h]; exact h1 h
 ·rw [if_neg h]; exact h2 h
theorem iteR {α : Type} {c : Prop} [Decidable c] {x y z : α} (h1 : c → z = x) (h2 : ¬c → z = y) : z = (if c then x else y) := by
 by_cases h : c
 ·rw [if_pos h]; exact h1 h
 ·rw [if_neg h]; exact h2 h
theorem Gy (l : List Int) (i : Nat) : rdI l (Int.toNat (i : Int)) = l.getD i 0 := by
 simp [rdI]
theorem Asi {α : Type} (d : α) (l : List α) (i : Nat) : rdA d l (Int.toNat (i : Int)) = l.getD i d := by
 simp [rdA]
theorem Is {α : Type} (l : List α) (i j : Nat) : cutL l (i : Int) (j : Int) = (l.take j).drop i := by
 simp [cutL]
theorem Fs (i : Nat) : ((i : Int) + 1) = ((i + 1 : Nat) : Int) := by simp
theorem A7n {α : Type} (d : α) (p : List α) (x : α) (r : List α) : (p ++ x :: r).getD p.length d = x := by simp [List.getD_eq_getElem?_getD]
theorem Dd {l : List Int} {i : Nat} (h : i < l.length) : l.drop i = l.getD i 0 :: l.drop (i + 1) := by
 rw [List.drop_eq_getElem_cons h]
 simp [List.getD_eq_getElem?_getD, List.getElem?_eq_getElem h]
end Go.Proofs.YtcmmgllmncllfaaGreatDoorV
