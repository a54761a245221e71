import Derived.Test.YtghmhkpgdmgepaaGreatDoorB3
import Derived.Defers
import Derived.Recover
/-! Joined, names shortened: V31, V36. -/
set_option linter.unusedVariables false
set_option linter.unusedSimpArgs false
namespace Go.Proofs.YtghmhkpgdmgepaaGreatDoorV
open Go Go.RowKit
structure DefC where
  g : Nat
  kd : Sk
  caps : List Nat
  pt : Nat
  tp : List Ty
  pg : Bool
  new : List PL → List (List L)
def Ec : List (Nat × List L) → Nat → Option (List L)
  | [], _ => none
  | x :: r, b => if x.1 = b then some x.2 else Ec r b
def Hm (s : St) (bs : List (Nat × List L)) : St :=
  { s with boxes := (List.range s.boxes.length).map fun b => match Ec bs b with | some ls => some ls | none => Aa s b }
def Ti : L → Bool
  | .pv p => Th p.t
  | .cst _ => true
  | _ => false
def D3 (s : St) : List Nat → List (List L) → Bool
  | [], [] => true
  | b :: r, n :: q => (match Aa s b with | some ls => ls.length == n.length | none => false) && n.all Ti && D3 s r q
  | _, _ => false
def Ahv (D : DefC) (s : St) (ps : List PL) : Option St :=
  if D3 s D.caps (D.new ps) then some (Hm s (D.caps.zip (D.new ps))) else none
def retKD (C : Cfg) (rs : Array ResultVar) (k : Sk) (D : DefC) : XE → St → Option (HLs k.tys)
  | .normal, s => finish C rs k s
  | .ret, s => finish C rs k s
  | .pan t ps g, s => if t == D.pt && g == D.pg && Bq D.tp ps then (Ahv D s ps).bind (finish C rs k) else none
  | _, _ => none
def Ahw (s : St) (t : Nat) (caps : List Nat) : Bool :=
  match Af (s.get (.tmp t)) with
  | some (.fn _ f c) => f.isEmpty && Lk c (caps.map fun b => (b, 0))
  | _ => false
def evD (C C1 : Cfg) (D : DefC) (k : Nat) {R : Type} (K0 K1 : XE → St → Option R) : Nat → Code → St → Option R
  | n + 1, .seq a b, s => ev C k a s fun e s' => match e with
    | .normal => evD C C1 D k K0 K1 n b s'
    | .ret => K0 .ret s'
    | _ => none
  | 0, .seq (.region _ ops false) rest, s => match ops.toList with
    | [o1, o2] => match o1.guard, o2.guard, o2.dst, o1.dst, o1.op, o2.op with
      | none, none, none, some t, .makeFunc (.func g) first caps, .defer { callee := .value (.tmp t'), args := as, argTypes := _ } =>
        if g == D.g && (t == t' && (first.isEmpty && as.isEmpty)) then
          match C6 s caps.toList with
          | some cps => match co D.kd (s.put (some t) (lf (.fn g [] cps))) C.n with
            | some x => if fixB C.npB x.mB && (fixO C.npO x.mO D.kd.owns && Ahw x.s t D.caps) then ev C1 k rest x.s K1 else none
            | none => none
          | none => none
        else none
      | _, _, _, _, _, _ => none
    | _ => none
  | _, _, _ => none
def Jf (C C1 : Cfg) (D : DefC) (k : Nat) (f : Func) (n : Nat) (kin kout : Sk) (x : HLs kin.tys) : Option (HLs kout.tys) :=
  evD C C1 D k (retK C f.results kout) (retKD C f.results kout D) n (Bs f) { enc kin C.n (toPL _ x) with slots := Bc kin.slots (toPL _ x) ++ List.replicate (f.ntmps - kin.slots.length) .dead }
def CloR (P : Program) (D : DefC) : Prop :=
  ∀ (args : Array Value) (w : World), args.size = D.caps.length → (∃ fn, P.funcs[D.g]? = some fn ∧ (fn.name == "runtime.NumGoroutine") = false ∧ fn.body.isSome = true) ∧
    CallsD P D.g args .returning w fun e u' w' => (∃ v, e = .returned v) ∧ u' = .returning ∧ w' = w
def Blks (w w' : World) : List Nat → List (List L) → Prop
  | [], [] => True
  | k :: r, ls :: q => (∃ cs et, w.heap[k]? = some (.cells cs et (0, 0)) ∧ ∃ cs', w'.heap[k]? = some (.cells cs' et (0, 0)) ∧ All2 (fun l v => ∀ (G : Gm) (w : World) (ok : Nat → Prop) (os : List (Option Own)), HL G w ok os l v) ls cs'.toList) ∧ Blks w w' r q
  | _, _ => False
def Gy (w : World) : List Nat → List (List L) → Prop
  | [], [] => True
  | k :: r, ls :: q => (∃ cs et, w.heap[k]? = some (.cells cs et (0, 0)) ∧ cs.size = ls.length ∧ ∀ v ∈ cs.toList, v.oneCell' = true) ∧ Gy w r q
  | _, _ => False
def CloP (P : Program) (D : DefC) : Prop :=
  ∀ (ks : List Nat) (w : World) (v : Value) (ps : List PL), Bq D.tp ps = true → PanV D.pt ps D.pg v → ks.length = D.caps.length → ks.Nodup → Gy w ks (D.new ps) → (∀ x ∈ gTab, x.1 ∉ ks ∧ ∃ et fr, w.heap[x.1]? = some (.cells x.2 et fr)) →
    CallsD P D.g (ks.map fun k => Value.pointer (some ⟨k, 0, none⟩)).toArray (.panicking [{ v := v, recovered := false }]) w fun e u' w' =>
      (∃ v, e = .returned v) ∧ u' = .panicking [{ v := v, recovered := true }] ∧ Keeps (fun k => k ∈ ks) w w' ∧ Blks w w' ks (D.new ps)
section
variable {C C1 : Cfg} {F : Nat → Prop} {s s' : St} {G : Gm} {a : Act} {w w' : World} {vals : List Value}
theorem Af4 {bs : List (Nat × List L)} {b : Nat} {ls : List L} (h : Aa (Hm s bs) b = some ls) : (Ec bs b = some ls) ∨ (Ec bs b = none ∧ Aa s b = some ls) := by
  unfold Aa Hm at h
  simp only [List.getElem?_map] at h
  cases hr : (List.range s.boxes.length)[b]? with
  | none => rw [hr] at h; cases h
  | some x =>
    rw [hr] at h
    have hx : x = b := by
      obtain ⟨_, e⟩ := List.getElem?_eq_some_iff.1 hr
      simpa using e.symm
    subst hx
    simp only [Option.map_some, Option.bind_some, id] at h
    split at h
    · rename_i y hy; exact .inl (hy.trans h)
    · rename_i hy; exact .inr ⟨hy, h⟩
theorem Mg : ∀ {cs : List Nat} {ns : List (List L)}, D3 s cs ns = true → ∀ {b : Nat} {ls : List L}, Ec (cs.zip ns) b = some ls → ∃ q, Aa s b = some q ∧ b ∈ cs
  | [], [], _, b, ls, h => by cases h
  | c :: cs, n :: ns, hc, b, ls, h => by
    simp only [D3, Bool.and_eq_true] at hc
    simp only [List.zip_cons_cons, Ec] at h
    split at h
    · rename_i e
      subst e
      obtain ⟨⟨h1, _⟩, _⟩ := hc
      split at h1
      · rename_i q hq; exact ⟨q, hq, by simp⟩
      · cases h1
    · obtain ⟨q, hq, hm⟩ := Mg hc.2 h
      exact ⟨q, hq, by simp [hm]⟩
  | [], _ :: _, h, _, _, _ => by cases h
  | _ :: _, [], h, _, _, _ => by cases h
theorem Ahx : ∀ {cs : List Nat} {ns : List (List L)}, D3 s cs ns = true → ∀ b ∈ cs, ∃ q, Aa s b = some q
  | [], _, _, b, hb => by cases hb
  | c :: cs, [], h, b, hb => by cases h
  | c :: cs, n :: ns, h, b, hb => by
    simp only [D3, Bool.and_eq_true] at h
    rcases List.mem_cons.1 hb with rfl | hb
    · cases hq : Aa s b with
      | none => rw [hq] at h; exact absurd h.1.1 (by simp)
      | some q => exact ⟨q, rfl⟩
    · exact Ahx h.2 b hb
theorem Wj : ∀ {cs : List Nat} {ns : List (List L)}, D3 s cs ns = true → cs.length = ns.length
  | [], [], _ => rfl
  | c :: cs, n :: ns, hc => by
    simp only [D3, Bool.and_eq_true] at hc
    simp [Wj hc.2]
  | [], _ :: _, h => by cases h
  | _ :: _, [], h => by cases h
theorem Pm : ∀ {cs : List Nat} {ns : List (List L)} {b : Nat}, cs.length = ns.length → Ec (cs.zip ns) b = none → b ∉ cs
  | [], [], b, _, _ => by simp
  | c :: cs, n :: ns, b, hl, h => by
    simp only [List.zip_cons_cons, Ec] at h
    split at h
    · cases h
    · rename_i e
      have := Pm (by simpa using hl) h
      simp only [List.mem_cons, not_or]
      exact ⟨fun e2 => e e2.symm, this⟩
  | [], _ :: _, _, h, _ => by simp at h
  | _ :: _, [], _, h, _ => by simp at h
theorem Wf : ∀ {cs : List Nat} {ns : List (List L)} {G : Gm}, Blks w w' (cs.map G.bx) ns → ∀ {b : Nat} {ls : List L}, Ec (cs.zip ns) b = some ls →
    ∃ cs0 et, w.heap[G.bx b]? = some (.cells cs0 et (0, 0)) ∧ ∃ cs', w'.heap[G.bx b]? = some (.cells cs' et (0, 0)) ∧ All2 (fun l v => ∀ (G : Gm) (w : World) (ok : Nat → Prop) (os : List (Option Own)), HL G w ok os l v) ls cs'.toList
  | [], [], G, _, b, ls, h => by cases h
  | c :: cs, n :: ns, G, hb, b, ls, h => by
    simp only [List.map_cons, Blks] at hb
    simp only [List.zip_cons_cons, Ec] at h
    split at h
    · rename_i e
      subst e
      cases h
      exact hb.1
    · exact Wf hb.2 h
  | [], _ :: _, G, h, _, _, _ => by cases h
  | _ :: _, [], G, h, _, _, _ => by cases h
theorem Bcq (h : Holds F s G vals w) {cs : List Nat} {ns : List (List L)} (hc : D3 s cs ns = true) (hk : Keeps (fun k => k ∈ cs.map G.bx) w w') (hb : Blks w w' (cs.map G.bx) ns) :
    Holds F (Hm s (cs.zip ns)) G vals w' ∧ Step N0 N0 s G w (Hm s (cs.zip ns)) G w' := by
  have hlen := Wj hc
  have hcap : ∀ b, b ∈ cs → ∃ q, Aa s b = some q := by
    intro b hbm
    cases hl : Ec (cs.zip ns) b with
    | none => exact absurd hbm (Pm hlen hl)
    | some ls => exact (Mg hc hl).imp fun q hq => hq.1
  have hS : ∀ {j}, j ∈ cs.map G.bx → Live s G j := by
    intro j hj
    obtain ⟨b, hbm, rfl⟩ := List.mem_map.1 hj
    obtain ⟨q, hq⟩ := hcap b hbm
    exact .inl ⟨b, q, hq, rfl⟩
  have hbox : ∀ b ls, Aa (Hm s (cs.zip ns)) b = some ls → ∃ q, Aa s b = some q := by
    intro b ls hb2
    rcases Af4 hb2 with h1 | ⟨_, h1⟩
    · exact (Mg hc h1).imp fun q hq => hq.1
    · exact ⟨ls, h1⟩
  have hlive : ∀ j, Live (Hm s (cs.zip ns)) G j → Live s G j := by
    rintro j (⟨b, ls, hb2, rfl⟩ | h2)
    · obtain ⟨q, hq⟩ := hbox b ls hb2
      exact .inl ⟨b, q, hq, rfl⟩
    · exact .inr h2
  have hok : ∀ j, okS F s G w j → okS F (Hm s (cs.zip ns)) G w' j ∧ w'.heap[j]? = w.heap[j]? := fun j hj =>
    ⟨⟨Nat.lt_of_lt_of_le hj.1 hk.size, hj.2.1, fun hL => hj.2.2 (hlive j hL)⟩, hk.block j hj.1 fun hm => hj.2.2 (hS hm)⟩
  have htr : ∀ l v, HR F s G w l v → HR F (Hm s (cs.zip ns)) G w' l v := fun l v hr => HL.keep hok (fun m x hx => ⟨x, hx, Nat.le_refl _, rfl⟩) hr
  have hoth : ∀ b q, Aa s b = some q → b ∉ cs → w'.heap[G.bx b]? = w.heap[G.bx b]? := by
    intro b q hq hn
    refine hk.block _ (h.lt (.inl ⟨b, q, hq, rfl⟩)) fun hm => hn ?_
    obtain ⟨b2, hb2, e⟩ := List.mem_map.1 hm
    obtain ⟨q2, hq2⟩ := hcap b2 hb2
    exact h.bb b2 b q2 q hq2 hq e ▸ hb2
  refine ⟨⟨h.slots.imp fun _ _ ha => ha.imp htr, fun b ls hb2 => ?_, fun l x hx => ?_, fun b b' ls ls' h1 h2 e => ?_, fun b ls l x h1 hx => ?_, h.oo, fun k hL => h.nF k (hlive k hL), fun k hF => Nat.lt_of_lt_of_le (h.Flt k hF) hk.size, fun b ls hb2 => ?_, h.glOf (fun k hk2 hn => hk.block k hk2 fun hm => hn (hS hm)) fun k hL => .inl (hlive k hL)⟩,
    ⟨⟨hk.os, hk.tape, hk.output, hk.size, fun k hk2 hn => hk.block k hk2 fun hm => hn (hS hm)⟩, fun k hL => .inl (hlive k hL), fun _ _ => ⟨rfl, rfl⟩, fun l _ x hx => ⟨⟨x, hx⟩, rfl⟩⟩⟩
  · rcases Af4 hb2 with h1 | ⟨h1, h2⟩
    · obtain ⟨cs0, et, _, cs', k2, k3⟩ := Wf hb h1
      exact ⟨cs', et, k2, k3.imp fun l v hl => hl _ _ _ _⟩
    · obtain ⟨cs0, et, k1, k2⟩ := h.box b ls h2
      exact ⟨cs0, et, by rw [hoth b ls h2 (Pm hlen h1)]; exact k1, k2.imp htr⟩
  · obtain ⟨h0, cs0, k1, k2⟩ := h.own l x hx
    refine ⟨h0, cs0, Hi k1 fun k hk2 => hk.block k (k1.lt k hk2).2 fun hm => ?_, k2.mono hok⟩
    obtain ⟨b2, hb2, e⟩ := List.mem_map.1 hm
    obtain ⟨q2, hq2⟩ := hcap b2 hb2
    exact h.bo b2 q2 l x hq2 hx (by rw [e]; exact hk2)
  · obtain ⟨q, hq⟩ := hbox b ls h1
    obtain ⟨q', hq'⟩ := hbox b' ls' h2
    exact h.bb b b' q q' hq hq' e
  · obtain ⟨q, hq⟩ := hbox b ls h1
    exact h.bo b q l x hq hx
  · intro cs3 et3 fr3 hc3
    rcases Af4 hb2 with h1 | ⟨h1, h2⟩
    · obtain ⟨q, hq, _⟩ := Mg hc h1
      obtain ⟨cs0, et, k1, cs', k2, _⟩ := Wf hb h1
      rw [k2] at hc3
      cases hc3
      exact h.ty b q hq _ _ _ k1
    · rw [hoth b ls h2 (Pm hlen h1)] at hc3
      exact h.ty b ls h2 cs3 et3 fr3 hc3
theorem Ahl (h : Holds F s G vals w) : ∀ {cs : List Nat} {ns : List (List L)}, D3 s cs ns = true → Gy w (cs.map G.bx) ns
  | [], [], _ => trivial
  | c :: cs, n :: ns, hc => by
    simp only [D3, Bool.and_eq_true] at hc
    refine ⟨?_, Ahl h hc.2⟩
    obtain ⟨⟨h1, _⟩, _⟩ := hc
    split at h1
    · rename_i q hq
      obtain ⟨cs0, et, k1, k2⟩ := h.box c q hq
      refine ⟨cs0, et, k1, ?_, fun v hv => ?_⟩
      · have := k2.len
        rw [← Array.length_toList, ← this]
        exact beq_iff_eq.1 h1
      · obtain ⟨i, hi⟩ := List.getElem?_of_mem hv
        obtain ⟨l, _, hl⟩ := k2.get' hi
        exact HL.one hl
    · cases h1
  | [], _ :: _, h => by cases h
  | _ :: _, [], h => by cases h
theorem Ay2 (h : Holds F s G vals w) {cs : List Nat} {ns : List (List L)} (hc : D3 s cs ns = true) (hn : cs.Nodup) : (cs.map G.bx).Nodup := by
  have hlen := Wj hc
  have hcap : ∀ b, b ∈ cs → ∃ q, Aa s b = some q := by
    intro b hbm
    cases hl : Ec (cs.zip ns) b with
    | none => exact absurd hbm (Pm hlen hl)
    | some ls => exact (Mg hc hl).imp fun q hq => hq.1
  clear hc hlen
  induction cs with
  | nil => exact List.nodup_nil
  | cons c cs ih =>
    rw [List.nodup_cons] at hn
    rw [List.map_cons, List.nodup_cons]
    refine ⟨fun hm => ?_, ih hn.2 fun b hb => hcap b (by simp [hb])⟩
    obtain ⟨b, hb, e⟩ := List.mem_map.1 hm
    obtain ⟨q, hq⟩ := hcap c (by simp)
    obtain ⟨q', hq'⟩ := hcap b (by simp [hb])
    exact hn.1 (h.bb b c q' q hq' hq e ▸ hb)
theorem A4v {D : DefC} {fn : Func} {R : Ending → World → Prop} {G2 : Gm} (hR0 : CloR C.P D) (hP0 : CloP C.P D) (hnd : D.caps.Nodup)
    {kout : Sk} {y : HLs kout.tys} {e : XE} {s1 : St} (hy : retKD C fn.results kout D e s1 = some y) {ex : Exit} (hx : ExR e ex) (h1 : Holds F s1 G a.tmps.toList w)
    (hd : a.defers = [{ target := .fn (.func D.g) (D.caps.map fun b => ptrV G2 (b, 0)).toArray, args := #[] }]) (hG : ∀ b ∈ D.caps, G2.bx b = G.bx b)
    (hfin : ∀ s2 w2, Holds F s2 G a.tmps.toList w2 → Step N0 N0 s1 G w s2 G w2 → finish C fn.results kout s2 = some y → ∃ v, (results fn a.tmps).run C.P w2 = .ok v w2 ∧ R (.returned v) w2) : bodyPostD C.P fn R ex a w := by
  have hcv : (D.caps.map fun b => ptrV G2 (b, 0)) = (D.caps.map G.bx).map fun k => Value.pointer (some ⟨k, 0, none⟩) := by
    rw [List.map_map]
    apply List.map_congr_left
    intro b hb
    simp only [ptrV, Function.comp, hG b hb]
  obtain ⟨⟨gf, g1, g2, g3⟩, _⟩ := hR0 (D.caps.map fun b => ptrV G2 (b, 0)).toArray w (by simp)
  have hinv : ∀ w : World, (invoke (.fn (.func D.g) (D.caps.map fun b => ptrV G2 (b, 0)).toArray) #[]).run C.P w = .ok (.enter D.g (D.caps.map fun b => ptrV G2 (b, 0)).toArray) w := by
    intro w
    simp only [invoke]
    rw [show (#[] : Array Value) ++ (D.caps.map fun b => ptrV G2 (b, 0)).toArray = (D.caps.map fun b => ptrV G2 (b, 0)).toArray by simp]
    exact Af2 g1 g2 g3 _ w
  have hret : finish C fn.results kout s1 = some y → Leaves C.P fn a.tmps R a.defers .returning w := by
    intro hf
    rw [hd]
    refine leaves_cons (by simp) (hinv w) ((hR0 _ w (by simp)).2.mono ?_)
    rintro e u' w' ⟨⟨v, rfl⟩, rfl, rfl⟩
    exact hfin s1 _ h1 (Step.refl _ _ _ _ _) hf
  cases e with
  | normal => cases hx; exact hret hy
  | ret => cases hx; exact hret hy
  | exit i => cases hy
  | pan t ps g =>
    obtain ⟨v, hv, rfl⟩ := hx
    simp only [retKD] at hy
    split at hy
    · rename_i hc
      simp only [Bool.and_eq_true, beq_iff_eq] at hc
      obtain ⟨⟨rfl, rfl⟩, htp⟩ := hc
      obtain ⟨s2, h2, h3⟩ := Option.bind_eq_some_iff.1 hy
      unfold Ahv at h2
      split at h2
      · rename_i hci
        cases h2
        show Leaves C.P fn a.tmps R a.defers (.panicking [{ v := v, recovered := false }]) w
        rw [hd]
        refine leaves_cons (by simp) (hinv w) ?_
        rw [hcv]
        refine (hP0 (D.caps.map G.bx) w v ps htp hv (by simp) (Ay2 h1 hci hnd) (Ahl h1 hci) (fun x hx => ⟨fun hm => (h1.gl x hx).1 (by
          obtain ⟨b, hb, hbx⟩ := List.mem_map.1 hm
          obtain ⟨q, hq⟩ := Ahx hci b hb
          exact .inl ⟨b, q, hq, hbx⟩), (h1.gl x hx).2⟩)).mono ?_
        rintro e u' w' ⟨⟨v2, rfl⟩, rfl, hk, hb⟩
        obtain ⟨m1, m2⟩ := Bcq h1 hci hk hb
        exact hfin _ _ m1 m2 h3
      · cases h2
    · cases hy
theorem A2f (hE : Ba C) (hE1 : Ba C1) (hD : Fy C) (hD1 : Fy C1) (hP : C1.P = C.P) (hnb : C.npB ≤ N0) (hno : C.npO ≤ N0) (hnb1 : C1.npB ≤ N0) (hno1 : C1.npO = C.npO) (hle : C.npB ≤ C1.npB) {D : DefC} (hcap : ∀ b ∈ D.caps, b < C1.npB) (k : Nat) {R : Type} {K0 K1 : XE → St → Option R} :
    ∀ (n : Nat) (c : Code) (s : St) (r : R), evD C C1 D k K0 K1 n c s = some r → ∃ e s', ((e = .ret ∧ K0 e s' = some r) ∨ K1 e s' = some r) ∧
      ∀ (F : Nat → Prop) (G : Gm) (a : Act) (w : World) (Q : Exit → Act → World → Prop), Holds F s G a.tmps.toList w → a.defers = [] →
        (e = .ret → K0 e s' = some r → ∀ G' a' w', Holds F s' G' a'.tmps.toList w' → Step C.npB C.npO s G w s' G' w' → a'.defers = [] → Q .ret a' w') →
        (K1 e s' = some r → ∀ G' a' w' x G2, ExR e x → Holds F s' G' a'.tmps.toList w' → Step C.npB C.npO s G w s' G' w' → a'.defers = [{ target := .fn (.func D.g) (D.caps.map fun b => ptrV G2 (b, 0)).toArray, args := #[] }] → (∀ b ∈ D.caps, G2.bx b = G'.bx b) → Q x a' w') → c.wp C.P Q a w := by
  intro n
  induction n with
  | zero =>
    intro c s r h
    cases c with
    | seq c1 rest =>
     cases c1 with
     | region id ops dr =>
      cases dr with
      | true => cases h
      | false =>
      simp only [evD] at h
      split at h
      · rename_i o1 o2 hops
        split at h
        · rename_i t g first caps t' as ats q1 q2 q6 q3 q4 q5
          split at h
          · rename_i hcond
            simp only [Bool.and_eq_true, beq_iff_eq, Array.isEmpty_iff] at hcond
            obtain ⟨rfl, rfl, rfl, rfl⟩ := hcond
            split at h
            · rename_i cps hcps
              split at h
              · rename_i x hx
                split at h
                · rename_i hfix
                  simp only [Bool.and_eq_true] at hfix
                  obtain ⟨hf1, hf2, hf3⟩ := hfix
                  obtain ⟨e, s', h1, h2⟩ := Dp hE1 hD1 hnb1 (by rw [hno1]; exact hno) k rest x.s K1 r h
                  refine ⟨e, s', .inr h1, fun F G a w Q hH hd0 hQ0 hQ1 => ?_⟩
                  refine wp_seq (wp_region_list ?_)
                  rw [hops]
                  have hfo : opV C.P s o1.op = .ok (lf (.fn D.g [] cps)) := by
                    rw [q4]
                    simp [opV, C6, hcps]
                  have hE0 : EOK C.P F s G a w o1 (s.put o1.dst (lf (.fn D.g [] cps))) := Ko hH (by rw [hfo]; rfl)
                  refine wpList_step fun K hK => ?_
                  have hw1 : Region.wanted o1 (yielded ops a.tmps) = true := by simp [Region.wanted, q1]
                  rw [if_pos hw1]
                  refine hE0 K _ fun G1 a1 w1 k1 k2 k3 => hK _ _ ?_
                  refine wpList_step fun K2 hK2 => ?_
                  have hw2 : Region.wanted o2 (yielded ops a1.tmps) = true := by simp [Region.wanted, q2]
                  rw [if_pos hw2]
                  rw [q3] at k1 k2
                  have hlt : Af ((s.put (some t) (lf (.fn D.g [] cps))).get (.tmp t)) = some (.fn D.g [] cps) ∨ Af ((s.put (some t) (lf (.fn D.g [] cps))).get (.tmp t)) = none := by
                    simp only [St.get, St.put, List.getD_eq_getElem?_getD]
                    by_cases hl : t < s.slots.length
                    · left
                      rw [List.getElem?_set_self hl]; rfl
                    · right
                      rw [List.getElem?_eq_none (by simpa using hl)]; rfl
                  obtain ⟨hcH, hcL⟩ := Rc k1 hx
                  obtain ⟨zz, hzz⟩ : ∃ g2, Af (x.s.get (.tmp t)) = some (.fn g2 [] (D.caps.map fun b => (b, 0))) := by
                    unfold Ahw at hf3
                    split at hf3
                    · rename_i g2 f2 c2 hl
                      simp only [Bool.and_eq_true, List.isEmpty_iff] at hf3
                      exact ⟨g2, by rw [hl, hf3.1, Vd hf3.2]⟩
                    · cases hf3
                  have hv : a1.eval (.tmp t) = _ := Ao hcH hzz
                  have hv2 : a1.eval (.tmp t) = .func (.func D.g) #[] (cps.map (ptrV G1)).toArray := by
                    rcases hlt with hlt | hlt
                    · exact Ao k1 hlt
                    · exfalso
                      have hl : ¬ t < s.slots.length := by
                        intro hl
                        simp only [St.get, St.put, List.getD_eq_getElem?_getD] at hlt
                        rw [List.getElem?_set_self hl] at hlt
                        cases hlt
                      have h9 : s.slots.length = a1.tmps.toList.length := by
                        have h0 := k1.slots.len
                        rw [← h0]
                        show s.slots.length = (s.slots.set t _).length
                        rw [List.length_set]
                      have h10 : x.s.slots.length = a1.tmps.toList.length := hcH.slots.len
                      have hl' : s.slots.length ≤ t := Nat.le_of_not_lt hl
                      have h12 : x.s.slots.length ≤ t := by omega
                      simp only [St.get, List.getD_eq_getElem?_getD] at hzz
                      rw [List.getElem?_eq_none h12] at hzz
                      cases hzz
                  have hv3 : a1.eval (.tmp t) = .func (.func D.g) #[] ((D.caps.map fun b => (b, 0)).map (ptrV (coG G1 x.mB x.mO))).toArray := by
                    have hj := hv2.symm.trans hv
                    injection hj with j1 j2 j3
                    rw [hv2, j3]
                  have hrun : (execOp a1.eval o2).run C.P w1 = .ok (.defer { target := .fn (.func D.g) (D.caps.map fun b => ptrV (coG G1 x.mB x.mO) (b, 0)).toArray, args := #[] }) w1 := by
                    have e1 : ((D.caps.map fun b => (b, 0)).map (ptrV (coG G1 x.mB x.mO))) = D.caps.map fun b => ptrV (coG G1 x.mB x.mO) (b, 0) := by rw [List.map_map]; rfl
                    rw [e1] at hv3
                    simp only [execOp, q5, resolve, hv3, Deferred.ofValue, Sem.run_bind, Sem.run_pure, Result.andThen_ok]
                    simp
                  unfold Oper.wp
                  rw [hrun]
                  refine hK2 _ _ ?_
                  show Exit.then _ _ .normal _ _
                  simp only [Exit.then]
                  have hst : Step C.npB C.npO s G w x.s (coG G1 x.mB x.mO) w1 := by
                    refine (k2.le hnb hno).trans ⟨Keeps.refl _ _, fun j hj => .inl (hcL j hj), fun b hb => ?_, fun l hl y hy => ?_⟩
                    · have h1 := Z5 hf1 hb
                      have h2 : x.mB[b]? = some b := by
                        simp only [List.getD] at h1
                        cases he : x.mB[b]? with
                        | none => rw [he] at h1; simp at h1
                        | some z => rw [he] at h1; simp at h1; rw [h1]
                      simp [coG, List.getD, h2]
                    · obtain ⟨hnB, hnO, hdis, hdisB, as, bs, os, hA, hB, hO, hs⟩ := I7 hx
                      obtain ⟨hOl, hOk, hOg⟩ := F5 hO
                      rw [hs] at hy
                      obtain ⟨⟨kk, hkk⟩, hor⟩ := hOg l y (Ha hy)
                      have h1 := List.all_eq_true.1 hf2 l (List.mem_range.2 hl)
                      simp only [List.getD, hkk, Option.getD_some] at h1
                      rcases hor with ⟨m, f1, f2⟩ | ⟨f1, _⟩
                      · rw [f1] at h1
                        simp at h1
                        subst h1
                        exact ⟨⟨y, f2⟩, by simp [coG, List.getD, f1]⟩
                      · rw [f1] at h1
                        simp at h1
                  have hH2 : Holds F x.s (coG G1 x.mB x.mO) ({ a1 with defers := { target := .fn (.func D.g) (D.caps.map fun b => ptrV (coG G1 x.mB x.mO) (b, 0)).toArray, args := #[] } :: a1.defers }.put o2.dst undef).tmps.toList w1 := by
                    have h5 := hcH.weakF (fun j hj => .inl hj)
                    rw [q6]
                    exact h5
                  rw [← hP]
                  refine h2 F _ _ w1 Q hH2 fun G3 a3 w3 xx m0 m1 m2 m3 => hQ1 h1 G3 a3 w3 xx (coG G1 x.mB x.mO) m0 m1 (hst.trans (m2.le hle (by omega))) ?_ fun b hb => (m2.gb b (hcap b hb)).1.symm
                  rw [m3]
                  rw [Fm]
                  show _ :: a1.defers = _
                  rw [k3, hd0]
                · cases h
              · cases h
            · cases h
          · cases h
        · cases h
      · cases h
     | _ => cases h
    | _ => cases h
  | succ n ih =>
    intro c s r h
    cases c with
    | seq c1 c2 =>
      simp only [evD] at h
      obtain ⟨e1, s1, h1, h2⟩ := Dp hE hD hnb hno k _ s _ r h
      cases e1 with
      | normal =>
        simp only at h1
        obtain ⟨e, s', h3, h4⟩ := ih _ s1 r h1
        refine ⟨e, s', h3, fun F G a w Q hH hd0 hQ0 hQ1 => wp_seq (h2 F G a w _ hH fun G1 a1 w1 x k0 k1 k2 k3 => ?_)⟩
        cases k0
        simp only [Exit.then]
        refine h4 F G1 a1 w1 Q k1 (k3.trans hd0) (fun e1 e2 G3 a3 w3 m1 m2 m3 => hQ0 e1 e2 G3 a3 w3 m1 (k2.trans m2) m3) fun e2 G3 a3 w3 x G4 m0 m1 m2 m3 m4 => hQ1 e2 G3 a3 w3 x G4 m0 m1 (k2.trans m2) m3 m4
      | ret =>
        simp only at h1
        refine ⟨.ret, s1, .inl ⟨rfl, h1⟩, fun F G a w Q hH hd0 hQ0 hQ1 => wp_seq (h2 F G a w _ hH fun G1 a1 w1 x k0 k1 k2 k3 => ?_)⟩
        cases k0
        exact hQ0 rfl h1 G1 a1 w1 k1 k2 (k3.trans hd0)
      | exit id => cases h1
      | pan t ps g => cases h1
    | _ => cases h
theorem A6k (hE : Ba C) (hE1 : Ba C1) (hD : Fy C) (hD1 : Fy C1) (hP : C1.P = C.P) {D : DefC} (hR0 : CloR C.P D) (hP0 : CloP C.P D) (hnd : D.caps.Nodup) (hcap : ∀ b ∈ D.caps, b < C1.npB) (k : Nat) (n : Nat) {g : Nat} {fn : Func} {c : Code} (hf : C.P.funcs[g]? = some fn) (hname : (fn.name == "runtime.NumGoroutine") = false) (hb : fn.body = some c) (kin kout : Sk)
    (hnB : C.npB = kin.boxes.length) (hnO : C.npO = kin.owns.length) (hlB : C.npB ≤ N0) (hlO : C.npO ≤ N0) (hnb1 : C1.npB ≤ N0) (hno1 : C1.npO = C.npO) (hle : C.npB ≤ C1.npB) : Ac C.P g ⟨kin, kout, B2 kin.tys kout.tys (Jf C C1 D k fn n kin kout)⟩ := by
  refine ⟨⟨fn, hf, hname, by rw [hb]; rfl⟩, fun ps qs hrun => ?_⟩
  show V4 _ _ _ _ _ _
  intro F G vals w hH
  have hrun' := hrun
  simp only [B2] at hrun'
  split at hrun'
  · rename_i x hx
    obtain ⟨y, hy, hq⟩ := Option.bind_eq_some_iff.1 hrun'
    cases hq
    have hps := Hh hx
    subst hps
    unfold Jf at hy
    have hbody : Bs fn = c := by simp [Bs, hb]
    rw [hbody] at hy
    obtain ⟨e, s1, h1, h2⟩ := A2f hE hE1 hD hD1 hP hlB hlO hnb1 hno1 hle hcap k n c _ y hy
    have fin : ∀ {a1 : Act} {G1 : Gm} {s2 : St} {w1 : World}, Holds F s2 G1 a1.tmps.toList w1 → Step C.npB C.npO { enc kin C.n (toPL kin.tys x) with slots := Bc kin.slots (toPL kin.tys x) ++ List.replicate (fn.ntmps - kin.slots.length) AV.dead } G w s2 G1 w1 → finish C fn.results kout s2 = some y →
        ∃ v, (results fn a1.tmps).run C.P w1 = .ok v w1 ∧ ∃ G' rv, Ending.returned v = .returned (retV rv) ∧ Holds F (enc kout (szS kout) (toPL kout.tys y)) G' rv w1 ∧
          Step kin.boxes.length kin.owns.length (enc kin (szS kin) (toPL kin.tys x)) G w (enc kout (szS kout) (toPL kout.tys y)) G' w1 := by
      intro a1 G1 s2 w1 k1 k2 hfin
      obtain ⟨rv, G', r1, r2, r3⟩ := Af1 hnB hnO k1 k2 hfin
      exact ⟨_, r1, G', rv, rfl, r2, r3⟩
    refine calls_of_wp_defers hf hb (h2 F G _ w _ (Agj hH) rfl (fun he hk0 G1 a1 w1 k1 k2 k3 => ?_) fun hk1 G1 a1 w1 ex G2 k0 k1 k2 k3 k4 => ?_)
    · show Leaves C.P fn a1.tmps _ a1.defers .returning w1
      rw [k3]
      subst he
      exact fin k1 k2 hk0
    · exact A4v hR0 hP0 hnd hk1 k0 k1 k3 k4 fun s2 w2 m1 m2 m3 => fin m1 (k2.trans (m2.le hlB hlO)) m3
  · cases hrun'
theorem fnD_ok {l : List (Nat × List Sig)} (he : C.env = Ed l) (he1 : C1.env = Ed l) (hl : Hr C.P l) (hm : C.P.follows .mixedOrders = true) (hP : C1.P = C.P) {D : DefC} (hR0 : CloR C.P D) (hP0 : CloP C.P D) (hnd : D.caps.Nodup) (hcap : ∀ b ∈ D.caps, b < C1.npB) (k n : Nat) {g : Nat} {fn : Func} (hf : C.P.funcs[g]? = some fn) (hname : (fn.name == "runtime.NumGoroutine") = false)
    (hb : fn.body = some (Bs fn)) (kin kout : Sk) (hnB : C.npB = kin.boxes.length) (hnO : C.npO = kin.owns.length) (hlB : C.npB ≤ N0) (hlO : C.npO ≤ N0) (hnb1 : C1.npB ≤ N0) (hno1 : C1.npO = C.npO) (hle : C.npB ≤ C1.npB) : Ac C.P g ⟨kin, kout, B2 kin.tys kout.tys (Jf C C1 D k fn n kin kout)⟩ := by
  have hE : Ba C := by
    intro g s hs
    rw [he] at hs
    exact L7 hl g s hs
  have hE1 : Ba C1 := by
    intro g s hs
    rw [he1] at hs
    rw [hP]
    exact L7 hl g s hs
  exact A6k hE hE1 (No hm hE) (No (by rw [hP]; exact hm) hE1) hP hR0 hP0 hnd hcap k n hf hname hb kin kout hnB hnO hlB hlO hnb1 hno1 hle
end
def okD (C C1 : Cfg) (fn : Func) (kin : Sk) (caps : List Nat) : Bool := okB C fn kin && (decide (C1.npB ≤ N0) && (decide (C1.npO = C.npO) && (decide (C.npB ≤ C1.npB) && (decide caps.Nodup && caps.all fun b => decide (b < C1.npB)))))
theorem sgOKD (C C1 : Cfg) {l : EnvL} {kin kout : Sk} (D : DefC) (k n : Nat) (he : C.env = Ed l) (he1 : C1.env = Ed l) (hl : Hr C.P l) (hm : C.P.follows .mixedOrders = true) (hP : C1.P = C.P) (hR0 : CloR C.P D) (hP0 : CloP C.P D) {g : Nat} {fn : Func} (hf : C.P.funcs[g]? = some fn) (hb : okD C C1 fn kin D.caps = true) :
  Ac C.P g (Ag kin kout (hid (Jf C C1 D k fn n kin kout))) := by
 rw [Uu]
 unfold okD okB at hb
 simp only [Bool.and_eq_true, Bool.not_eq_true', decide_eq_true_eq, List.all_eq_true] at hb
 obtain ⟨⟨h1, h2, h3, h4, h5, h6⟩, h7, h8, h9, h10, h11⟩ := hb
 obtain ⟨c, hc⟩ := Option.isSome_iff_exists.1 h2
 exact fnD_ok he he1 hl hm hP hR0 hP0 h10 h11 k n hf h1 (by unfold Bs; rw [hc]) kin kout h3 h4 h5 h6 h7 h8 h9
end Go.Proofs.YtghmhkpgdmgepaaGreatDoorV
