import Derived.Tactics
import Derived.WalkKit
import Derived.KernelRfl
import Derived.Laws.AppendOwn
import Derived.Laws.CopyRow
import Derived.Laws.Rows
import Derived.Laws.StructEq
import Derived.Below
/-! The V engine, 1: typed data, how data lie in memory. -/
set_option linter.unusedVariables false
set_option linter.unusedSimpArgs false
namespace Go.Proofs.YtghmhkpgdmgepaaV
open Go Go.RowKit

/-- Types of plain data. A struct is a row of cons that ends with nil. -/
inductive Ty where
  | int (k : IntKind) | bool | str | slice (e : Ty) | nil | cons (a b : Ty)

def Ty.deq : (a b : Ty) → Decidable (a = b)
  | .int k, .int k' => if h : k = k' then isTrue (by rw [h]) else isFalse (fun e => h (Ty.int.inj e))
  | .bool, .bool => isTrue rfl
  | .str, .str => isTrue rfl
  | .nil, .nil => isTrue rfl
  | .slice a, .slice b => match Ty.deq a b with
    | isTrue h => isTrue (by rw [h])
    | isFalse h => isFalse (fun e => h (Ty.slice.inj e))
  | .cons a b, .cons c d => match Ty.deq a c, Ty.deq b d with
    | isTrue h, isTrue h' => isTrue (by rw [h, h'])
    | isFalse h, _ => isFalse (fun e => h (Ty.cons.inj e).1)
    | _, isFalse h => isFalse (fun e => h (Ty.cons.inj e).2)
  | .int _, .bool => isFalse (fun e => Ty.noConfusion e) | .int _, .str => isFalse (fun e => Ty.noConfusion e) | .int _, .slice _ => isFalse (fun e => Ty.noConfusion e) | .int _, .nil => isFalse (fun e => Ty.noConfusion e) | .int _, .cons _ _ => isFalse (fun e => Ty.noConfusion e)
  | .bool, .int _ => isFalse (fun e => Ty.noConfusion e) | .bool, .str => isFalse (fun e => Ty.noConfusion e) | .bool, .slice _ => isFalse (fun e => Ty.noConfusion e) | .bool, .nil => isFalse (fun e => Ty.noConfusion e) | .bool, .cons _ _ => isFalse (fun e => Ty.noConfusion e)
  | .str, .int _ => isFalse (fun e => Ty.noConfusion e) | .str, .bool => isFalse (fun e => Ty.noConfusion e) | .str, .slice _ => isFalse (fun e => Ty.noConfusion e) | .str, .nil => isFalse (fun e => Ty.noConfusion e) | .str, .cons _ _ => isFalse (fun e => Ty.noConfusion e)
  | .slice _, .int _ => isFalse (fun e => Ty.noConfusion e) | .slice _, .bool => isFalse (fun e => Ty.noConfusion e) | .slice _, .str => isFalse (fun e => Ty.noConfusion e) | .slice _, .nil => isFalse (fun e => Ty.noConfusion e) | .slice _, .cons _ _ => isFalse (fun e => Ty.noConfusion e)
  | .nil, .int _ => isFalse (fun e => Ty.noConfusion e) | .nil, .bool => isFalse (fun e => Ty.noConfusion e) | .nil, .str => isFalse (fun e => Ty.noConfusion e) | .nil, .slice _ => isFalse (fun e => Ty.noConfusion e) | .nil, .cons _ _ => isFalse (fun e => Ty.noConfusion e)
  | .cons _ _, .int _ => isFalse (fun e => Ty.noConfusion e) | .cons _ _, .bool => isFalse (fun e => Ty.noConfusion e) | .cons _ _, .str => isFalse (fun e => Ty.noConfusion e) | .cons _ _, .slice _ => isFalse (fun e => Ty.noConfusion e) | .cons _ _, .nil => isFalse (fun e => Ty.noConfusion e)
instance : DecidableEq Ty := Ty.deq

def Ty.den : Ty → Type
  | .int _ => Int
  | .bool => Bool
  | .str => List Int
  | .slice e => List e.den
  | .nil => Unit
  | .cons a b => a.den × b.den

def Ty.dflt : (t : Ty) → t.den
  | .int _ => (0 : Int)
  | .bool => false
  | .str => ([] : List Int)
  | .slice e => ([] : List e.den)
  | .nil => ()
  | .cons a b => (a.dflt, b.dflt)

def Ty.size : Ty → Nat
  | .nil => 0
  | .cons a b => a.size + b.size
  | _ => 1

/-- A datum with its type. -/
structure PL where
  t : Ty
  x : t.den

def asTy (s : Ty) (p : PL) : Option s.den := if h : p.t = s then some (h ▸ p.x) else none

theorem asTy_some {s : Ty} {p : PL} {x : s.den} (h : asTy s p = some x) : p = ⟨s, x⟩ := by
  obtain ⟨t, y⟩ := p
  unfold asTy at h
  split at h
  · rename_i e
    cases e
    cases h
    rfl
  · cases h

@[simp] theorem asTy_self (s : Ty) (x : s.den) : asTy s ⟨s, x⟩ = some x := by simp [asTy]

/-- The bytes of a string, as whole numbers. -/
def bs (s : ByteArray) : List Int := s.data.toList.map fun b => (b.toNat : Int)

def Cells (w : World) (a : Addr) (cs : List Value) : Prop := ∀ j v, cs[j]? = some v → w.cell? (a.add j) = some v

/-- A slice whose elements stand as R says. -/
def RepSl {α : Type} (w : World) (ok : Nat → Prop) (R : α → List Value → Prop) (sz : Nat) (xs : List α) (cs : List Value) : Prop :=
  ∃ A c, cs = [.slice A xs.length c] ∧ xs.length ≤ c ∧ c ≤ maxLen ∧
    (xs ≠ [] → ∃ a : Addr, A = some a ∧ a.spot = none ∧ ok a.block ∧ ∀ (i : Nat) (x : α), xs[i]? = some x → ∃ es, R x es ∧ Cells w (a.add (i * sz)) es)

/-- How data stand in cells; ok: the blocks in which their rows may lie. -/
def Rep (w : World) (ok : Nat → Prop) : (t : Ty) → t.den → List Value → Prop
  | .int k, n, cs => cs = [.int k n] ∧ (Lit.int k n).wf = true
  | .bool, b, cs => cs = [.bool b]
  | .str, s, cs => ∃ y : ByteArray, cs = [.string y] ∧ bs y = s ∧ y.size ≤ maxLen
  | .slice e, xs, cs => RepSl w ok (fun x es => Rep w ok e x es) e.size xs cs
  | .nil, _, cs => cs = []
  | .cons a b, x, cs => ∃ c0 c1, cs = c0 ++ c1 ∧ Rep w ok a x.1 c0 ∧ Rep w ok b x.2 c1

theorem Rep.len {w : World} {ok : Nat → Prop} : ∀ {t : Ty} {x : t.den} {cs : List Value}, Rep w ok t x cs → cs.length = t.size
  | .int _, _, _, h => by unfold Rep at h; rw [h.1]; rfl
  | .bool, _, _, h => by unfold Rep at h; rw [h]; rfl
  | .str, _, _, h => by unfold Rep at h; obtain ⟨y, rfl, _⟩ := h; rfl
  | .slice e, _, _, h => by unfold Rep at h; obtain ⟨A, c, rfl, _⟩ := h; rfl
  | .nil, _, _, h => by unfold Rep at h; rw [h]; rfl
  | .cons a b, _, _, h => by
    unfold Rep at h
    obtain ⟨c0, c1, rfl, h0, h1⟩ := h
    rw [List.length_append, h0.len, h1.len]; rfl

theorem Rep.one {w : World} {ok : Nat → Prop} : ∀ {t : Ty} {x : t.den} {cs : List Value}, Rep w ok t x cs → ∀ u ∈ cs, u.oneCell' = true
  | .int _, _, _, h, u, hu => by unfold Rep at h; rw [h.1] at hu; rw [List.mem_singleton.1 hu]; rfl
  | .bool, _, _, h, u, hu => by unfold Rep at h; rw [h] at hu; rw [List.mem_singleton.1 hu]; rfl
  | .str, _, _, h, u, hu => by unfold Rep at h; obtain ⟨y, rfl, _⟩ := h; rw [List.mem_singleton.1 hu]; rfl
  | .slice e, _, _, h, u, hu => by unfold Rep at h; obtain ⟨A, c, rfl, _⟩ := h; rw [List.mem_singleton.1 hu]; rfl
  | .nil, _, _, h, u, hu => by unfold Rep at h; rw [h] at hu; cases hu
  | .cons a b, _, _, h, u, hu => by
    unfold Rep at h
    obtain ⟨c0, c1, rfl, h0, h1⟩ := h
    rcases List.mem_append.1 hu with hu | hu
    · exact h0.one u hu
    · exact h1.one u hu

theorem add_block (a : Addr) (n : Nat) : (a.add n).block = a.block := by unfold Addr.add; split <;> rfl

theorem Cells.move {w w' : World} {a : Addr} {cs : List Value} (h : Cells w a cs) (hb : w'.heap[a.block]? = w.heap[a.block]?) : Cells w' a cs := by
  intro j v hv
  rw [World.cell?_of_block (w := w) (by rw [add_block]; exact hb)]
  exact h j v hv

theorem Rep.mono {w w' : World} {ok ok' : Nat → Prop} (h1 : ∀ k, ok k → ok' k ∧ w'.heap[k]? = w.heap[k]?) : ∀ {t : Ty} {x : t.den} {cs : List Value}, Rep w ok t x cs → Rep w' ok' t x cs
  | .int _, _, _, h => by unfold Rep at h ⊢; exact h
  | .bool, _, _, h => by unfold Rep at h ⊢; exact h
  | .str, _, _, h => by unfold Rep at h ⊢; exact h
  | .nil, _, _, h => by unfold Rep at h ⊢; exact h
  | .slice e, xs, _, h => by
    unfold Rep at h ⊢
    obtain ⟨A, c, rfl, hl, hc, hx⟩ := h
    refine ⟨A, c, rfl, hl, hc, fun hne => ?_⟩
    obtain ⟨a, rfl, hs, hok, hel⟩ := hx hne
    refine ⟨a, rfl, hs, (h1 _ hok).1, fun i x hi => ?_⟩
    obtain ⟨es, hr, hcs⟩ := hel i x hi
    exact ⟨es, hr.mono h1, hcs.move (by rw [add_block]; exact (h1 _ hok).2)⟩
  | .cons a b, _, _, h => by
    unfold Rep at h ⊢
    obtain ⟨c0, c1, rfl, h2, h3⟩ := h
    exact ⟨c0, c1, rfl, h2.mono h1, h3.mono h1⟩

/-- Leaves: what one cell each holds. -/
def flat : (t : Ty) → t.den → List PL
  | .nil, _ => []
  | .cons a b, x => flat a x.1 ++ flat b x.2
  | .int k, x => [⟨.int k, x⟩]
  | .bool, x => [⟨.bool, x⟩]
  | .str, x => [⟨.str, x⟩]
  | .slice e, x => [⟨.slice e, x⟩]

def RepL (w : World) (ok : Nat → Prop) (p : PL) (v : Value) : Prop := Rep w ok p.t p.x [v]

/-- Two rows, one by one. -/
inductive All2 {α β : Type} (R : α → β → Prop) : List α → List β → Prop
  | nil : All2 R [] []
  | cons {a b as bs} : R a b → All2 R as bs → All2 R (a :: as) (b :: bs)

section
variable {α β : Type} {R S : α → β → Prop}
theorem All2.len {as : List α} {bs : List β} (h : All2 R as bs) : as.length = bs.length := by
  induction h with
  | nil => rfl
  | cons _ _ ih => simp [ih]
theorem All2.imp {as : List α} {bs : List β} (h : All2 R as bs) (f : ∀ a b, R a b → S a b) : All2 S as bs := by
  induction h with
  | nil => exact .nil
  | cons h _ ih => exact .cons (f _ _ h) ih
theorem All2.imp_mem {as : List α} {bs : List β} (h : All2 R as bs) (f : ∀ a b, a ∈ as → R a b → S a b) : All2 S as bs := by
  induction h with
  | nil => exact .nil
  | cons h _ ih => exact .cons (f _ _ (by simp) h) (ih fun a b ha => f a b (by simp [ha]))
theorem All2.app {as as' : List α} {bs bs' : List β} (h : All2 R as bs) (h' : All2 R as' bs') : All2 R (as ++ as') (bs ++ bs') := by
  induction h with
  | nil => exact h'
  | cons h _ ih => exact .cons h ih
theorem All2.get {as : List α} {bs : List β} (h : All2 R as bs) {i : Nat} {a : α} (ha : as[i]? = some a) : ∃ b, bs[i]? = some b ∧ R a b := by
  induction h generalizing i with
  | nil => simp at ha
  | cons h _ ih =>
    cases i with
    | zero => simp at ha; subst ha; exact ⟨_, by simp, h⟩
    | succ i => simp at ha; obtain ⟨b, hb, hr⟩ := ih ha; exact ⟨b, by simpa using hb, hr⟩
theorem All2.get' {as : List α} {bs : List β} (h : All2 R as bs) {i : Nat} {b : β} (hb : bs[i]? = some b) : ∃ a, as[i]? = some a ∧ R a b := by
  induction h generalizing i with
  | nil => simp at hb
  | cons h _ ih =>
    cases i with
    | zero => simp at hb; subst hb; exact ⟨_, by simp, h⟩
    | succ i => simp at hb; obtain ⟨a, ha, hr⟩ := ih hb; exact ⟨a, by simpa using ha, hr⟩
theorem All2.drop {as : List α} {bs : List β} (h : All2 R as bs) (n : Nat) : All2 R (as.drop n) (bs.drop n) := by
  induction h generalizing n with
  | nil => simp; exact .nil
  | cons h h' ih =>
    cases n with
    | zero => simpa using All2.cons h h'
    | succ n => simpa using ih n
theorem All2.take {as : List α} {bs : List β} (h : All2 R as bs) (n : Nat) : All2 R (as.take n) (bs.take n) := by
  induction h generalizing n with
  | nil => simp; exact .nil
  | cons h h' ih =>
    cases n with
    | zero => simp; exact .nil
    | succ n => simpa using All2.cons h (ih n)
theorem All2.set {as : List α} {bs : List β} (h : All2 R as bs) (i : Nat) {a : α} {b : β} (hr : R a b) : All2 R (as.set i a) (bs.set i b) := by
  induction h generalizing i with
  | nil => simp; exact .nil
  | cons h h' ih =>
    cases i with
    | zero => simpa using All2.cons hr h'
    | succ i => simpa using All2.cons h (ih i)
theorem All2.map_left {γ : Type} {f : γ → α} {as : List γ} {bs : List β} (h : All2 (fun a b => R (f a) b) as bs) : All2 R (as.map f) bs := by
  induction h with
  | nil => exact .nil
  | cons h _ ih => exact .cons h ih
theorem All2.of_map_left {γ : Type} {f : γ → α} {as : List γ} {bs : List β} (h : All2 R (as.map f) bs) : All2 (fun a b => R (f a) b) as bs := by
  induction as generalizing bs with
  | nil => cases h; exact .nil
  | cons a as ih => cases h with | cons h h' => exact .cons h (ih h')
theorem All2.split_left {as as' : List α} {bs : List β} (h : All2 R (as ++ as') bs) : ∃ b0 b1, bs = b0 ++ b1 ∧ All2 R as b0 ∧ All2 R as' b1 := by
  induction as generalizing bs with
  | nil => exact ⟨[], bs, rfl, .nil, h⟩
  | cons a as ih =>
    cases h with
    | cons h h' =>
      obtain ⟨b0, b1, rfl, h0, h1⟩ := ih h'
      exact ⟨_ :: b0, b1, rfl, .cons h h0, h1⟩
theorem All2.of_get {as : List α} {bs : List β} (hl : as.length = bs.length) (h : ∀ (i : Nat) (a : α) (b : β), as[i]? = some a → bs[i]? = some b → R a b) : All2 R as bs := by
  induction as generalizing bs with
  | nil => cases bs with | nil => exact .nil | cons => simp at hl
  | cons a as ih =>
    cases bs with
    | nil => simp at hl
    | cons b bs => exact .cons (h 0 a b (by simp) (by simp)) (ih (by simpa using hl) fun i a b ha hb => h (i + 1) a b (by simpa using ha) (by simpa using hb))
end

theorem rep_flat {w : World} {ok : Nat → Prop} : ∀ {t : Ty} {x : t.den} {cs : List Value}, Rep w ok t x cs → All2 (RepL w ok) (flat t x) cs
  | .int _, _, _, h => by have h2 := h; unfold Rep at h2; obtain ⟨rfl, hw⟩ := h2; exact .cons h .nil
  | .bool, _, _, h => by have h2 := h; unfold Rep at h2; obtain rfl := h2; exact .cons h .nil
  | .str, _, _, h => by have h2 := h; unfold Rep at h2; obtain ⟨y, rfl, _⟩ := h2; exact .cons h .nil
  | .slice e, _, _, h => by have h2 := h; unfold Rep at h2; obtain ⟨A, c, rfl, _⟩ := h2; exact .cons h .nil
  | .nil, _, _, h => by unfold Rep at h; obtain rfl := h; exact .nil
  | .cons a b, _, _, h => by
    unfold Rep at h
    obtain ⟨c0, c1, rfl, h0, h1⟩ := h
    exact (rep_flat h0).app (rep_flat h1)

theorem flat_len : ∀ (t : Ty) (x : t.den), (flat t x).length = t.size
  | .int _, _ => rfl
  | .bool, _ => rfl
  | .str, _ => rfl
  | .slice _, _ => rfl
  | .nil, _ => rfl
  | .cons a b, x => by simp [flat, Ty.size, flat_len a, flat_len b]

theorem rep_of_flat {w : World} {ok : Nat → Prop} : ∀ {t : Ty} {x : t.den} {cs : List Value}, All2 (RepL w ok) (flat t x) cs → Rep w ok t x cs
  | .int _, _, _, h => by cases h with | cons h h' => cases h'; exact h
  | .bool, _, _, h => by cases h with | cons h h' => cases h'; exact h
  | .str, _, _, h => by cases h with | cons h h' => cases h'; exact h
  | .slice e, _, _, h => by cases h with | cons h h' => cases h'; exact h
  | .nil, _, _, h => by cases h; unfold Rep; rfl
  | .cons a b, _, _, h => by
    obtain ⟨c0, c1, rfl, h0, h1⟩ := h.split_left
    unfold Rep
    exact ⟨c0, c1, rfl, rep_of_flat h0, rep_of_flat h1⟩

/-- Data out of leaves. -/
def unflat : (t : Ty) → List PL → Option (t.den × List PL)
  | .nil, ls => some ((), ls)
  | .cons a b, ls => (unflat a ls).bind fun x => (unflat b x.2).bind fun y => some ((x.1, y.1), y.2)
  | .int k, ls => match ls with | p :: r => (asTy (.int k) p).bind fun x => some (x, r) | [] => none
  | .bool, ls => match ls with | p :: r => (asTy .bool p).bind fun x => some (x, r) | [] => none
  | .str, ls => match ls with | p :: r => (asTy .str p).bind fun x => some (x, r) | [] => none
  | .slice e, ls => match ls with | p :: r => (asTy (.slice e) p).bind fun x => some (x, r) | [] => none

theorem unflat_leaf {t : Ty} {ls : List PL} {x : t.den} {r : List PL}
    (h : (match ls with | p :: r => (asTy t p).bind fun x => some (x, r) | [] => none) = some (x, r)) : ls = ⟨t, x⟩ :: r := by
  cases ls with
  | nil => cases h
  | cons p q =>
    simp only [Option.bind_eq_some_iff, Option.some.injEq, Prod.mk.injEq] at h
    obtain ⟨y, hy, rfl, rfl⟩ := h
    rw [asTy_some hy]

theorem unflat_some : ∀ {t : Ty} {ls : List PL} {x : t.den} {r : List PL}, unflat t ls = some (x, r) → ls = flat t x ++ r
  | .int _, _, _, _, h => unflat_leaf h
  | .bool, _, _, _, h => unflat_leaf h
  | .str, _, _, _, h => unflat_leaf h
  | .slice _, _, _, _, h => unflat_leaf h
  | .nil, _, _, _, h => by cases h; rfl
  | .cons a b, _, _, _, h => by
    simp only [unflat, Option.bind_eq_some_iff, Option.some.injEq, Prod.mk.injEq] at h
    obtain ⟨⟨x, q⟩, hx, ⟨y, q'⟩, hy, rfl, rfl⟩ := h
    have h2 := unflat_some hy
    have h3 : q = flat b y ++ q' := h2
    rw [unflat_some hx, h3]
    exact (List.append_assoc _ _ _).symm

/-- A row of elements in cells. -/
def RepRow (w : World) (ok : Nat → Prop) (t : Ty) (xs : List t.den) (cs : List Value) : Prop := All2 (RepL w ok) (xs.flatMap (flat t)) cs

theorem flatMap_len (t : Ty) (xs : List t.den) : (xs.flatMap (flat t)).length = xs.length * t.size := by
  induction xs with
  | nil => simp
  | cons x xs ih => simp [ih, flat_len, Nat.add_mul, Nat.add_comm]

theorem RepRow.len {w : World} {ok : Nat → Prop} {t : Ty} {xs : List t.den} {cs : List Value} (h : RepRow w ok t xs cs) : cs.length = xs.length * t.size := by
  rw [← All2.len h, flatMap_len]

theorem RepL.mono {w w' : World} {ok ok' : Nat → Prop} (h1 : ∀ k, ok k → ok' k ∧ w'.heap[k]? = w.heap[k]?) {p : PL} {v : Value} (h : RepL w ok p v) : RepL w' ok' p v := Rep.mono h1 h

theorem RepRow.mono {w w' : World} {ok ok' : Nat → Prop} (h1 : ∀ k, ok k → ok' k ∧ w'.heap[k]? = w.heap[k]?) {t : Ty} {xs : List t.den} {cs : List Value} (h : RepRow w ok t xs cs) : RepRow w' ok' t xs cs :=
  All2.imp h fun _ _ h => h.mono h1

theorem RepL.one {w : World} {ok : Nat → Prop} {p : PL} {v : Value} (h : RepL w ok p v) : v.oneCell' = true := Rep.one h v (by simp)

theorem RepRow.one {w : World} {ok : Nat → Prop} {t : Ty} {xs : List t.den} {cs : List Value} (h : RepRow w ok t xs cs) : ∀ u ∈ cs, u.oneCell' = true := by
  intro u hu
  obtain ⟨i, hi, rfl⟩ := List.getElem_of_mem hu
  have hi2 : cs[i]? = some cs[i] := List.getElem?_eq_getElem hi
  obtain ⟨p, _, hp⟩ := All2.get' h hi2
  exact hp.one

theorem flatMap_get {t : Ty} : ∀ {xs : List t.den} {i : Nat} {x : t.den}, xs[i]? = some x → ∃ a b, xs.flatMap (flat t) = a ++ flat t x ++ b ∧ a.length = i * t.size
  | [], i, x, h => by simp at h
  | y :: ys, 0, x, h => by simp at h; subst h; exact ⟨[], ys.flatMap (flat t), by simp, by simp⟩
  | y :: ys, i + 1, x, h => by
    obtain ⟨a, b, e, hl⟩ := flatMap_get (xs := ys) (i := i) (x := x) (by simpa using h)
    exact ⟨flat t y ++ a, b, by simp [e], by simp [hl, flat_len, Nat.add_mul, Nat.add_comm]⟩

/-- One element of a row, and where its cells are. -/
theorem RepRow.get {w : World} {ok : Nat → Prop} {t : Ty} {xs : List t.den} {cs : List Value} (h : RepRow w ok t xs cs) {i : Nat} {x : t.den} (hx : xs[i]? = some x) :
    Rep w ok t x ((cs.drop (i * t.size)).take t.size) := by
  obtain ⟨a, b, e, hl⟩ := flatMap_get hx
  have h2 : All2 (RepL w ok) (a ++ (flat t x ++ b)) cs := by rw [← List.append_assoc, ← e]; exact h
  have h3 := (h2.drop (i * t.size)).take t.size
  rw [← hl, List.drop_left, List.take_left' (flat_len t x)] at h3
  rw [← hl]
  exact rep_of_flat h3

/-- A row that is read: nothing more, or something. -/
theorem rep_slice_mk {w : World} {ok : Nat → Prop} {e : Ty} {xs : List e.den} {cs : List Value} {a : Addr} {c : Nat} (hr : RepRow w ok e xs cs) (hc : Cells w a cs) (hs : a.spot = none) (ho : ok a.block) (hl : xs.length ≤ c) (hm : c ≤ maxLen) :
    Rep w ok (.slice e) xs [.slice (some a) xs.length c] := by
  show RepSl w ok (fun x es => Rep w ok e x es) e.size xs _
  refine ⟨some a, c, rfl, hl, hm, fun _ => ⟨a, rfl, hs, ho, fun i x hi => ⟨_, hr.get hi, ?_⟩⟩⟩
  intro j v hv
  rw [List.getElem?_take] at hv
  split at hv
  · rw [List.getElem?_drop] at hv
    have := hc _ _ hv
    have e2 : (a.add (i * e.size)).add j = a.add (i * e.size + j) := by
      unfold Addr.add
      by_cases h1 : i * e.size = 0 <;> by_cases h2 : j = 0 <;> simp [h1, h2, hs]
      all_goals first | omega | (intro h3 h4; omega) | (constructor <;> omega) | skip
    rw [e2]
    exact this
  · cases hv

theorem rep_slice_mk' {w : World} {ok : Nat → Prop} {e : Ty} {xs : List e.den} {cs : List Value} {a : Addr} {c n : Nat} (hr : RepRow w ok e xs cs) (hc : Cells w a cs) (hs : a.spot = none) (ho : ok a.block) (hn : xs.length = n) (hl : n ≤ c) (hm : c ≤ maxLen) :
    Rep w ok (.slice e) xs [.slice (some a) n c] := by
  subst hn
  exact rep_slice_mk hr hc hs ho hl hm

end Go.Proofs.YtghmhkpgdmgepaaV
