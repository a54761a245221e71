import Derived.Test.YtghmhkpgdmgepaaV4
/-! The V engine, 5: what a state says of memory. -/
set_option linter.unusedVariables false
set_option linter.unusedSimpArgs false
namespace Go.Proofs.YtghmhkpgdmgepaaV
open Go Go.RowKit

/-- Where boxes and rows are. -/
structure Gm where
  bx : Nat → Nat
  ow : Nat → Value
  et : Nat → Nat

def ptrV (G : Gm) (x : Nat × Nat) : Value := .pointer (some ⟨G.bx x.1, x.2, none⟩)
def HL (G : Gm) (w : World) (ok : Nat → Prop) (os : List (Option Own)) : L → Value → Prop
  | .dead, v => v.oneCell' = true
  | .pv p, v => RepL w ok p v
  | .cst k, v => v = k.val
  | .ptr b o, v => v = .pointer (some ⟨G.bx b, o, none⟩)
  | .own l, v => v = G.ow l ∧ v.oneCell' = true
  | .ept l i o sz, v => ∃ g n c, G.ow l = .slice (some ⟨g, 0, none⟩) n c ∧ v = .pointer (some ⟨g, i * sz + o, none⟩) ∧ ∀ x, (os[l]?).bind id = some x → i < x.xs.length ∧ sz = x.t.size
  | .rpt ps, v => ∃ a cs, v = .pointer (some a) ∧ a.spot = none ∧ ok a.block ∧ Cells w a cs ∧ All2 (RepL w ok) ps cs
  | .fn f a c, v => v = .func (.func f) (a.map (ptrV G)).toArray (c.map (ptrV G)).toArray
  | .ifc t ps g, v => ∃ cs, All2 (RepL w ok) ps cs ∧ v = .iface t (if g then .agg cs.toArray else cs.headD undef)
  | .err b, v => if b then v = .nilIface else ∃ t x, v = .iface t x
  | .bld b t z, v => v = (if z then .pointer none else .pointer (some ⟨G.bx b, 0, none⟩)) ∧ G.et b = t
def HC (R : L → Value → Prop) : CV → Value → Prop
  | .lf l, v => R l v
  | .agg ls, v => ∃ cs : Array Value, v = .agg cs ∧ All2 R ls cs.toList
def HA (R : L → Value → Prop) : AV → Value → Prop
  | .dead, _ => True
  | .cv c, v => HC R c v
  | .tup cs, v => ∃ vs : Array Value, v = .tuple vs ∧ All2 (HC R) cs vs.toList

theorem HL.one {G : Gm} {w : World} {ok : Nat → Prop} {os : List (Option Own)} {l : L} {v : Value} (h : HL G w ok os l v) : v.oneCell' = true := by
  cases l with
  | dead => exact h
  | pv p => exact RepL.one h
  | cst k => rw [show v = k.val from h]; cases k <;> rfl
  | ptr b o => rw [show v = _ from h]; rfl
  | own l => exact h.2
  | ept l i o sz => obtain ⟨_, _, _, _, rfl, _⟩ := h; rfl
  | rpt ps => obtain ⟨_, _, rfl, _⟩ := h; rfl
  | fn f a c => rw [show v = _ from h]; rfl
  | ifc t ps g => obtain ⟨_, _, rfl⟩ := h; rfl
  | err b => cases b with | true => rw [show v = .nilIface from h]; rfl | false => obtain ⟨_, _, rfl⟩ := h; rfl
  | bld b t z => rw [h.1]; cases z <;> rfl

theorem HC.imp {R S : L → Value → Prop} (f : ∀ l v, R l v → S l v) {c : CV} {v : Value} (h : HC R c v) : HC S c v := by
  cases c with
  | lf l => exact f _ _ h
  | agg ls => obtain ⟨cs, rfl, h⟩ := h; exact ⟨cs, rfl, h.imp f⟩
theorem HA.imp {R S : L → Value → Prop} (f : ∀ l v, R l v → S l v) {a : AV} {v : Value} (h : HA R a v) : HA S a v := by
  cases a with
  | dead => trivial
  | cv c => exact HC.imp f h
  | tup cs => obtain ⟨vs, rfl, h⟩ := h; exact ⟨vs, rfl, h.imp fun _ _ h => HC.imp f h⟩
theorem HC.map {R S : L → Value → Prop} {g : L → L} (f : ∀ l v, R l v → S (g l) v) {c : CV} {v : Value} (h : HC R c v) : HC S (c.map g) v := by
  cases c with
  | lf l => exact f _ _ h
  | agg ls => obtain ⟨cs, rfl, h⟩ := h; exact ⟨cs, rfl, (h.imp f).map_left⟩
theorem HA.map {R S : L → Value → Prop} {g : L → L} (f : ∀ l v, R l v → S (g l) v) {a : AV} {v : Value} (h : HA R a v) : HA S (a.map g) v := by
  cases a with
  | dead => trivial
  | cv c => exact HC.map f h
  | tup cs =>
    obtain ⟨vs, rfl, h⟩ := h
    refine ⟨vs, rfl, ?_⟩
    exact All2.map_left (h.imp fun _ _ h => HC.map f h)
theorem HC.imp_all {R S : L → Value → Prop} {p : L → Bool} (f : ∀ l v, p l = true → R l v → S l v) {c : CV} {v : Value} (hp : c.leaves.all p = true) (h : HC R c v) : HC S c v := by
  cases c with
  | lf l => exact f _ _ (by simpa [CV.leaves] using hp) h
  | agg ls =>
    obtain ⟨cs, rfl, h⟩ := h
    exact ⟨cs, rfl, h.imp_mem fun a b ha hr => f a b (List.all_eq_true.1 hp a ha) hr⟩
theorem HA.imp_all {R S : L → Value → Prop} {p : L → Bool} (f : ∀ l v, p l = true → R l v → S l v) {a : AV} {v : Value} (hp : a.all p = true) (h : HA R a v) : HA S a v := by
  cases a with
  | dead => trivial
  | cv c => exact HC.imp_all f hp h
  | tup cs =>
    obtain ⟨vs, rfl, h⟩ := h
    exact ⟨vs, rfl, h.imp_mem fun a b ha hr => HC.imp_all f (List.all_eq_true.1 hp a ha) hr⟩

theorem HC.map_all {R S : L → Value → Prop} {g : L → L} {p : L → Bool} (f : ∀ l v, p (g l) = true → R l v → S (g l) v) {c : CV} {v : Value} (hp : (c.map g).leaves.all p = true) (h : HC R c v) : HC S (c.map g) v := by
  cases c with
  | lf l => exact f _ _ (by simpa [CV.leaves, CV.map] using hp) h
  | agg ls =>
    obtain ⟨cs, rfl, h⟩ := h
    refine ⟨cs, rfl, All2.map_left (h.imp_mem fun a b ha hr => f a b ?_ hr)⟩
    exact List.all_eq_true.1 hp _ (List.mem_map.2 ⟨a, ha, rfl⟩)
theorem HA.map_all {R S : L → Value → Prop} {g : L → L} {p : L → Bool} (f : ∀ l v, p (g l) = true → R l v → S (g l) v) {a : AV} {v : Value} (hp : (a.map g).all p = true) (h : HA R a v) : HA S (a.map g) v := by
  cases a with
  | dead => trivial
  | cv c => exact HC.map_all f hp h
  | tup cs =>
    obtain ⟨vs, rfl, h⟩ := h
    refine ⟨vs, rfl, All2.map_left (h.imp_mem fun a b ha hr => HC.map_all f ?_ hr)⟩
    exact List.all_eq_true.1 hp _ (List.mem_map.2 ⟨a, ha, rfl⟩)

/-- A block that is a box's or a row's of the state. -/
def Live (s : St) (G : Gm) (k : Nat) : Prop := (∃ b ls, boxAt s b = some ls ∧ G.bx b = k) ∨ (∃ l o, ownAt s l = some o ∧ (G.ow l).ownBlock = some k)
/-- Where plain data may lie. -/
def okS (F : Nat → Prop) (s : St) (G : Gm) (w : World) (k : Nat) : Prop := k < w.heap.size ∧ ¬ F k ∧ ¬ Live s G k
def HR (F : Nat → Prop) (s : St) (G : Gm) (w : World) : L → Value → Prop := HL G w (okS F s G w) s.owns

/-- A block is of a type. -/
def TyAt (w : World) (k t : Nat) : Prop := ∀ cs et fr, w.heap[k]? = some (.cells cs et fr) → et = t
structure Holds (F : Nat → Prop) (s : St) (G : Gm) (vals : List Value) (w : World) : Prop where
  slots : All2 (HA (HR F s G w)) s.slots vals
  box : ∀ b ls, boxAt s b = some ls → ∃ cs et, w.heap[G.bx b]? = some (.cells cs et (0, 0)) ∧ All2 (HR F s G w) ls cs.toList
  own : ∀ l o, ownAt s l = some o → 0 < o.t.size ∧ ∃ cs, w.ownsRow 0 o.e o.t.size (G.ow l) o.xs.length cs ∧ RepRow w (okS F s G w) o.t o.xs cs
  bb : ∀ b b' ls ls', boxAt s b = some ls → boxAt s b' = some ls' → G.bx b = G.bx b' → b = b'
  bo : ∀ b ls l o, boxAt s b = some ls → ownAt s l = some o → (G.ow l).ownBlock ≠ some (G.bx b)
  oo : ∀ l l' o o' k, ownAt s l = some o → ownAt s l' = some o' → (G.ow l).ownBlock = some k → (G.ow l').ownBlock = some k → l = l'
  nF : ∀ k, Live s G k → ¬ F k
  Flt : ∀ k, F k → k < w.heap.size
  ty : ∀ b ls, boxAt s b = some ls → TyAt w (G.bx b) (G.et b)

theorem Holds.lt {F : Nat → Prop} {s : St} {G : Gm} {vals : List Value} {w : World} (h : Holds F s G vals w) {k : Nat} (hk : Live s G k) : k < w.heap.size := by
  rcases hk with ⟨b, ls, hb, rfl⟩ | ⟨l, o, ho, hk⟩
  · obtain ⟨cs, et, hc, _⟩ := h.box b ls hb
    exact (Array.getElem?_eq_some_iff.1 hc).1
  · obtain ⟨_, cs, hr, _⟩ := h.own l o ho
    exact (hr.lt k hk).2

/-- Outside of S nothing changes. -/
structure Keeps (S : Nat → Prop) (w w' : World) : Prop where
  os : w'.os = w.os
  tape : w'.tape = w.tape
  output : w'.output = w.output
  size : w.heap.size ≤ w'.heap.size
  block : ∀ k, k < w.heap.size → ¬ S k → w'.heap[k]? = w.heap[k]?
theorem Keeps.refl (S : Nat → Prop) (w : World) : Keeps S w w := ⟨rfl, rfl, rfl, Nat.le_refl _, fun _ _ _ => rfl⟩

/-- From one state to the next; what came in (below nb, no) stays where it is. -/
structure Step (nb no : Nat) (s : St) (G : Gm) (w : World) (s' : St) (G' : Gm) (w' : World) : Prop where
  keeps : Keeps (Live s G) w w'
  fresh : ∀ k, Live s' G' k → Live s G k ∨ w.heap.size ≤ k
  gb : ∀ b, b < nb → G'.bx b = G.bx b ∧ G'.et b = G.et b
  go : ∀ l, l < no → ∀ o, ownAt s' l = some o → (∃ o', ownAt s l = some o') ∧ G'.ow l = G.ow l

theorem Step.refl (nb no : Nat) (s : St) (G : Gm) (w : World) : Step nb no s G w s G w :=
  ⟨Keeps.refl _ _, fun _ h => .inl h, fun _ _ => ⟨rfl, rfl⟩, fun _ _ o h => ⟨⟨o, h⟩, rfl⟩⟩
theorem Step.trans {nb no : Nat} {s s1 s2 : St} {G G1 G2 : Gm} {w w1 w2 : World} (h : Step nb no s G w s1 G1 w1) (h2 : Step nb no s1 G1 w1 s2 G2 w2) : Step nb no s G w s2 G2 w2 := by
  refine ⟨⟨h2.keeps.os.trans h.keeps.os, h2.keeps.tape.trans h.keeps.tape, h2.keeps.output.trans h.keeps.output, Nat.le_trans h.keeps.size h2.keeps.size, fun k hk hS => ?_⟩, fun k hk => ?_, fun b hb => ⟨(h2.gb b hb).1.trans (h.gb b hb).1, (h2.gb b hb).2.trans (h.gb b hb).2⟩, fun l hl o ho => ?_⟩
  · rw [h2.keeps.block k (Nat.lt_of_lt_of_le hk h.keeps.size) (fun hL => ?_), h.keeps.block k hk hS]
    rcases h.fresh k hL with h3 | h3
    · exact hS h3
    · omega
  · rcases h2.fresh k hk with h3 | h3
    · exact h.fresh k h3
    · exact .inr (Nat.le_trans h.keeps.size h3)
  · obtain ⟨⟨o1, h1⟩, e1⟩ := h2.go l hl o ho
    obtain ⟨ho', e2⟩ := h.go l hl o1 h1
    exact ⟨ho', e1.trans e2⟩

/-- The world grows; what was there stays. -/
def Grew (w w' : World) : Prop := Keeps (fun _ => False) w w'
theorem Grew.refl (w : World) : Grew w w := Keeps.refl _ _
theorem Grew.block {w w' : World} (h : Grew w w') {k : Nat} (hk : k < w.heap.size) : w'.heap[k]? = w.heap[k]? := Keeps.block h k hk id
theorem Grew.trans {w w1 w2 : World} (h : Grew w w1) (h2 : Grew w1 w2) : Grew w w2 :=
  ⟨h2.os.trans h.os, h2.tape.trans h.tape, h2.output.trans h.output, Nat.le_trans h.size h2.size, fun k hk _ => (h2.block (Nat.lt_of_lt_of_le hk h.size)).trans (h.block hk)⟩
theorem Grew.alloc (w : World) (o : Obj) : Grew w (w.alloc o) := ⟨rfl, rfl, rfl, by simp, fun k hk _ => Below.heap_alloc _ _ _ hk⟩
theorem Grew.drew (w : World) : Grew w w.drew := ⟨rfl, rfl, rfl, Nat.le_refl _, fun _ _ _ => rfl⟩

theorem okS.grew {F : Nat → Prop} {s : St} {G : Gm} {w w' : World} (h : Grew w w') {k : Nat} (hk : okS F s G w k) : okS F s G w' k ∧ w'.heap[k]? = w.heap[k]? :=
  ⟨⟨Nat.lt_of_lt_of_le hk.1 h.size, hk.2⟩, h.block hk.1⟩

/-- A leaf holds on: its places have stayed, and so have its blocks. -/
theorem HL.keep {G : Gm} {w w' : World} {ok ok' : Nat → Prop} {os os' : List (Option Own)} (h1 : ∀ k, ok k → ok' k ∧ w'.heap[k]? = w.heap[k]?)
    (h2 : ∀ (l : Nat) (x' : Own), (os'[l]?).bind id = some x' → ∃ x : Own, (os[l]?).bind id = some x ∧ x.xs.length ≤ x'.xs.length ∧ x.t.size = x'.t.size) {l : L} {v : Value} (h : HL G w ok os l v) : HL G w' ok' os' l v := by
  cases l with
  | dead => exact h
  | pv p => exact RepL.mono h1 h
  | cst k => exact h
  | ptr b o => exact h
  | own l => exact h
  | ept l i o sz =>
    obtain ⟨g, n, c, e, e2, e3⟩ := h
    refine ⟨g, n, c, e, e2, fun x' hx => ?_⟩
    obtain ⟨x, hx, hl, hs⟩ := h2 l x' hx
    have := e3 x hx
    exact ⟨by omega, by omega⟩
  | rpt ps =>
    obtain ⟨a, cs, e, hs, ho, hc, hr⟩ := h
    exact ⟨a, cs, e, hs, (h1 _ ho).1, hc.move (h1 _ ho).2, hr.imp fun _ _ h => h.mono h1⟩
  | fn f a c => exact h
  | ifc t ps g =>
    obtain ⟨cs, hr, e⟩ := h
    exact ⟨cs, hr.imp fun _ _ h => h.mono h1, e⟩
  | err b => exact h
  | bld b t z => exact h

theorem HR.grew {F : Nat → Prop} {s : St} {G : Gm} {w w' : World} (h : Grew w w') {l : L} {v : Value} (hl : HR F s G w l v) : HR F s G w' l v :=
  HL.keep (fun k hk => okS.grew h hk) (fun l x hx => ⟨x, hx, Nat.le_refl _, rfl⟩) hl

theorem ownsRow_block {w w' : World} {e : TypeId} {size : Nat} {v : Value} {n : Nat} {cs : List Value} (h : w.ownsRow 0 e size v n cs) (hk : ∀ k, v.ownBlock = some k → w'.heap[k]? = w.heap[k]?) : w'.ownsRow 0 e size v n cs := by
  obtain ⟨h1, h2⟩ := h
  refine ⟨h1, ?_⟩
  rcases h2 with h2 | ⟨g, cap, cur, rfl, hg, hh, r⟩
  · exact .inl h2
  · exact .inr ⟨g, cap, cur, rfl, hg, (hk g (by simp [Value.ownBlock])).trans hh, r⟩

/-- The world has grown: everything holds on. -/
theorem Holds.grew {F : Nat → Prop} {s : St} {G : Gm} {vals : List Value} {w w' : World} (h : Holds F s G vals w) (hg : Grew w w') : Holds F s G vals w' where
  slots := h.slots.imp fun _ _ ha => ha.imp fun _ _ hl => hl.grew hg
  box b ls hb := by
    obtain ⟨cs, et, hc, hl⟩ := h.box b ls hb
    exact ⟨cs, et, by rw [hg.block (Array.getElem?_eq_some_iff.1 hc).1]; exact hc, hl.imp fun _ _ hl => hl.grew hg⟩
  own l o ho := by
    obtain ⟨h0, cs, hr, he⟩ := h.own l o ho
    exact ⟨h0, cs, ownsRow_block hr (fun k hk => hg.block (hr.lt k hk).2), he.mono fun k hk => okS.grew hg hk⟩
  bb := h.bb
  bo := h.bo
  oo := h.oo
  nF := h.nF
  Flt k hk := Nat.lt_of_lt_of_le (h.Flt k hk) hg.size
  ty b ls hb cs et fr hc := by
    obtain ⟨cs2, et2, hc2, _⟩ := h.box b ls hb
    rw [hg.block (Array.getElem?_eq_some_iff.1 hc2).1] at hc
    exact h.ty b ls hb cs et fr hc

theorem Step.grew {nb no : Nat} {s : St} {G : Gm} {w w' : World} (hg : Grew w w') : Step nb no s G w s G w' :=
  ⟨⟨hg.os, hg.tape, hg.output, hg.size, fun k hk _ => hg.block hk⟩, fun _ h => .inl h, fun _ _ => ⟨rfl, rfl⟩, fun _ _ o h => ⟨⟨o, h⟩, rfl⟩⟩

@[simp] theorem put_boxes (s : St) (d : Option Nat) (v : AV) : (s.put d v).boxes = s.boxes := by cases d <;> rfl
@[simp] theorem put_owns (s : St) (d : Option Nat) (v : AV) : (s.put d v).owns = s.owns := by cases d <;> rfl
@[simp] theorem put_boxAt (s : St) (d : Option Nat) (v : AV) (b : Nat) : boxAt (s.put d v) b = boxAt s b := by simp [boxAt]
@[simp] theorem put_ownAt (s : St) (d : Option Nat) (v : AV) (b : Nat) : ownAt (s.put d v) b = ownAt s b := by simp [ownAt]
@[simp] theorem put_Live (s : St) (d : Option Nat) (v : AV) (G : Gm) : Live (s.put d v) G = Live s G := by funext k; simp [Live]
@[simp] theorem put_okS (F : Nat → Prop) (s : St) (d : Option Nat) (v : AV) (G : Gm) (w : World) : okS F (s.put d v) G w = okS F s G w := by funext k; simp [okS]
@[simp] theorem put_HR (F : Nat → Prop) (s : St) (d : Option Nat) (v : AV) (G : Gm) (w : World) : HR F (s.put d v) G w = HR F s G w := by simp [HR]

/-- A slot is written. -/
theorem Holds.put {F : Nat → Prop} {s : St} {G : Gm} {a : Act} {w : World} (h : Holds F s G a.tmps.toList w) (d : Option Nat) {v : AV} {u : Value} (hv : HA (HR F s G w) v u) :
    Holds F (s.put d v) G (a.put d u).tmps.toList w where
  slots := by
    rw [put_HR]
    cases d with
    | none => exact h.slots
    | some d =>
      simp only [St.put, Act.put, Array.toList_setIfInBounds]
      exact h.slots.set d hv
  box := by simpa using h.box
  own := by simpa using h.own
  bb := by simpa using h.bb
  bo := by simpa using h.bo
  oo := by simpa using h.oo
  nF := by simpa using h.nF
  Flt := h.Flt
  ty := by simpa using h.ty
theorem Step.put {nb no : Nat} {s : St} {G : Gm} {w : World} (d : Option Nat) (v : AV) : Step nb no s G w (s.put d v) G w :=
  ⟨Keeps.refl _ _, fun k hk => .inl (by simpa using hk), fun _ _ => ⟨rfl, rfl⟩, fun l _ o h => ⟨⟨o, by simpa using h⟩, rfl⟩⟩

theorem constL_holds {G : Gm} {w : World} {ok : Nat → Prop} {os : List (Option Own)} (v : Value) (h1 : v.oneCell' = true) : HL G w ok os (constL v) v := by
  unfold constL
  split
  · split
    · rename_i h; exact ⟨rfl, h⟩
    · exact h1
  · exact rfl
  · split
    · rename_i h; exact ⟨_, rfl, rfl, h⟩
    · exact h1
  all_goals first | rfl | exact h1

end Go.Proofs.YtghmhkpgdmgepaaV
