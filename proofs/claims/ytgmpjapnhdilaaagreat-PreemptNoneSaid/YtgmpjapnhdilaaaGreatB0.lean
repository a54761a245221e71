import Derived.Tactics
import Derived.WalkKit
import Derived.KernelRfl
import Derived.Laws.AppendOwn
import Derived.Laws.CopyRow
import Derived.Laws.Rows
import Derived.Laws.StructEq
import Derived.Below
import Derived.Laws.Tables
import Derived.Laws.Cells
import Derived.Laws.BytesString
import Derived.Laws.IdiomStrings
import Derived.Laws.BytesArg
import Derived.OpenShut
import Derived.Laws.Strings
import Derived.Lib.ConvBytes
/-! Joined, names shortened: V0, V1, V2, V3, V4, V5, V6, V7, V8, V9. -/
set_option linter.unusedVariables false
set_option linter.unusedSimpArgs false
namespace Go.Proofs.YtgmpjapnhdilaaaGreatV
open Go
def gTab : List (Nat × Array Value) := []
end Go.Proofs.YtgmpjapnhdilaaaGreatV
namespace Go.Proofs.YtgmpjapnhdilaaaGreatV
open Go Go.RowKit
inductive P0 where
 | int (k : IntKind) (n : Int)
 | bool (b : Bool)
 | str (s : List Int)
inductive AnyV where
 | nil
 | mk (t : Nat) (g : Bool) (ps : List P0)
inductive Ty where
 | int (k : IntKind) | bool | str | slice (e : Ty) | nil | cons (a b : Ty) | any
def Ty.deq : (a b : Ty) → Decidable (a = b)
 | .int k, .int k' => if h : k = k' then isTrue (by rw [h]) else isFalse (fun e => h (Ty.int.inj e))
 | .bool, .bool => isTrue rfl
 | .str, .str => isTrue rfl
 | .nil, .nil => isTrue rfl
 | .any, .any => isTrue rfl
 | .any, .int _ => isFalse (fun e => Ty.noConfusion e) | .any, .bool => isFalse (fun e => Ty.noConfusion e) | .any, .str => isFalse (fun e => Ty.noConfusion e) | .any, .slice _ => isFalse (fun e => Ty.noConfusion e) | .any, .nil => isFalse (fun e => Ty.noConfusion e) | .any, .cons _ _ => isFalse (fun e => Ty.noConfusion e)
 | .int _, .any => isFalse (fun e => Ty.noConfusion e) | .bool, .any => isFalse (fun e => Ty.noConfusion e) | .str, .any => isFalse (fun e => Ty.noConfusion e) | .slice _, .any => isFalse (fun e => Ty.noConfusion e) | .nil, .any => isFalse (fun e => Ty.noConfusion e) | .cons _ _, .any => isFalse (fun e => Ty.noConfusion e)
 | .slice a, .slice b => match Ty.deq a b with
  | isTrue h => isTrue (by rw [h])
  | isFalse h => isFalse (fun e => h (Ty.slice.inj e))
 | .cons a b, .cons c d => match Ty.deq a c, Ty.deq b d with
  | isTrue h, isTrue h' => isTrue (by rw [h, h'])
  | isFalse h, _ => isFalse (fun e => h (Ty.cons.inj e).1)
  | _, isFalse h => isFalse (fun e => h (Ty.cons.inj e).2)
 | .int _, .bool => isFalse (fun e => Ty.noConfusion e) | .int _, .str => isFalse (fun e => Ty.noConfusion e) | .int _, .slice _ => isFalse (fun e => Ty.noConfusion e) | .int _, .nil => isFalse (fun e => Ty.noConfusion e) | .int _, .cons _ _ => isFalse (fun e => Ty.noConfusion e)
 | .bool, .int _ => isFalse (fun e => Ty.noConfusion e) | .bool, .str => isFalse (fun e => Ty.noConfusion e) | .bool, .slice _ => isFalse (fun e => Ty.noConfusion e) | .bool, .nil => isFalse (fun e => Ty.noConfusion e) | .bool, .cons _ _ => isFalse (fun e => Ty.noConfusion e)
 | .str, .int _ => isFalse (fun e => Ty.noConfusion e) | .str, .bool => isFalse (fun e => Ty.noConfusion e) | .str, .slice _ => isFalse (fun e => Ty.noConfusion e) | .str, .nil => isFalse (fun e => Ty.noConfusion e) | .str, .cons _ _ => isFalse (fun e => Ty.noConfusion e)
 | .slice _, .int _ => isFalse (fun e => Ty.noConfusion e) | .slice _, .bool => isFalse (fun e => Ty.noConfusion e) | .slice _, .str => isFalse (fun e => Ty.noConfusion e) | .slice _, .nil => isFalse (fun e => Ty.noConfusion e) | .slice _, .cons _ _ => isFalse (fun e => Ty.noConfusion e)
 | .nil, .int _ => isFalse (fun e => Ty.noConfusion e) | .nil, .bool => isFalse (fun e => Ty.noConfusion e) | .nil, .str => isFalse (fun e => Ty.noConfusion e) | .nil, .slice _ => isFalse (fun e => Ty.noConfusion e) | .nil, .cons _ _ => isFalse (fun e => Ty.noConfusion e)
 | .cons _ _, .int _ => isFalse (fun e => Ty.noConfusion e) | .cons _ _, .bool => isFalse (fun e => Ty.noConfusion e) | .cons _ _, .str => isFalse (fun e => Ty.noConfusion e) | .cons _ _, .slice _ => isFalse (fun e => Ty.noConfusion e) | .cons _ _, .nil => isFalse (fun e => Ty.noConfusion e)
instance : DecidableEq Ty := Ty.deq
def Ty.den : Ty → Type
 | .int _ => Int
 | .bool => Bool
 | .str => List Int
 | .slice e => List e.den
 | .nil => Unit
 | .cons a b => a.den × b.den
 | .any => AnyV
def Ty.dflt : (t : Ty) → t.den
 | .int _ => (0 : Int)
 | .bool => false
 | .str => ([] : List Int)
 | .slice e => ([] : List e.den)
 | .nil => ()
 | .cons a b => (a.dflt, b.dflt)
 | .any => AnyV.nil
def Ty.size : Ty → Nat
 | .nil => 0
 | .cons a b => a.size + b.size
 | _ => 1
structure PL where
 t : Ty
 x : t.den
def asTy (s : Ty) (p : PL) : Option s.den := if h : p.t = s then some (h ▸ p.x) else none
theorem Ee {s : Ty} {p : PL} {x : s.den} (h : asTy s p = some x) : p = ⟨s, x⟩ := by
 obtain ⟨t, y⟩ := p
 unfold asTy at h
 split at h
 ·rename_i e
  cases e
  cases h
  rfl
 ·cases h
@[simp] theorem asTy_self (s : Ty) (x : s.den) : asTy s ⟨s, x⟩ = some x := by simp [asTy]
def bs (s : ByteArray) : List Int := s.data.toList.map fun b => (b.toNat : Int)
def Cells (w : World) (a : Addr) (cs : List Value) : Prop := ∀ j v, cs[j]? = some v → w.cell? (a.add j) = some v
def Da {α : Type} (w : World) (ok : Nat → Prop) (R : α → List Value → Prop) (sz : Nat) (xs : List α) (cs : List Value) : Prop :=
 ∃ A c, cs = [.slice A xs.length c] ∧ xs.length ≤ c ∧ c ≤ maxLen ∧
  (xs ≠ [] → ∃ a : Addr, A = some a ∧ a.spot = none ∧ ok a.block ∧ ∀ (i : Nat) (x : α), xs[i]? = some x → ∃ es, R x es ∧ Cells w (a.add (i * sz)) es)
def RepP : P0 → Value → Prop
 | .int k n, v => v = .int k n ∧ (Lit.int k n).wf = true
 | .bool b, v => v = .bool b
 | .str s, v => ∃ y : ByteArray, v = .string y ∧ bs y = s ∧ y.size ≤ maxLen
inductive All2P : List P0 → List Value → Prop
 | nil : All2P [] []
 | cons {p v ps vs} : RepP p v → All2P ps vs → All2P (p :: ps) (v :: vs)
def RepAny : AnyV → Value → Prop
 | .nil, v => v = .nilIface
 | .mk t g ps, v => ∃ us, All2P ps us ∧ v = .iface t (if g then .agg us.toArray else us.headD undef)
theorem RepAny.one {x : AnyV} {v : Value} (h : RepAny x v) : v.oneCell' = true := by
 cases x with
 | nil => rw [show v = .nilIface from h]; rfl
 | mk t g ps => obtain ⟨us, _, rfl⟩ := h; rfl
def Rep (w : World) (ok : Nat → Prop) : (t : Ty) → t.den → List Value → Prop
 | .int k, n, cs => cs = [.int k n] ∧ (Lit.int k n).wf = true
 | .bool, b, cs => cs = [.bool b]
 | .str, s, cs => ∃ y : ByteArray, cs = [.string y] ∧ bs y = s ∧ y.size ≤ maxLen
 | .slice e, xs, cs => Da w ok (fun x es => Rep w ok e x es) e.size xs cs
 | .nil, _, cs => cs = []
 | .cons a b, x, cs => ∃ c0 c1, cs = c0 ++ c1 ∧ Rep w ok a x.1 c0 ∧ Rep w ok b x.2 c1
 | .any, x, cs => ∃ v, cs = [v] ∧ RepAny x v
theorem Rep.len {w : World} {ok : Nat → Prop} : ∀ {t : Ty} {x : t.den} {cs : List Value}, Rep w ok t x cs → cs.length = t.size
 | .int _, _, _, h => by unfold Rep at h; rw [h.1]; rfl
 | .bool, _, _, h => by unfold Rep at h; rw [h]; rfl
 | .str, _, _, h => by unfold Rep at h; obtain ⟨y, rfl, _⟩ := h; rfl
 | .slice e, _, _, h => by unfold Rep at h; obtain ⟨A, c, rfl, _⟩ := h; rfl
 | .nil, _, _, h => by unfold Rep at h; rw [h]; rfl
 | .cons a b, _, _, h => by
  unfold Rep at h
  obtain ⟨c0, c1, rfl, h0, h1⟩ := h
  rw [List.length_append, h0.len, h1.len]; rfl
 | .any, _, _, h => by unfold Rep at h; obtain ⟨v, rfl, _⟩ := h; rfl
theorem Rep.one {w : World} {ok : Nat → Prop} : ∀ {t : Ty} {x : t.den} {cs : List Value}, Rep w ok t x cs → ∀ u ∈ cs, u.oneCell' = true
 | .int _, _, _, h, u, hu => by unfold Rep at h; rw [h.1] at hu; rw [List.mem_singleton.1 hu]; rfl
 | .bool, _, _, h, u, hu => by unfold Rep at h; rw [h] at hu; rw [List.mem_singleton.1 hu]; rfl
 | .str, _, _, h, u, hu => by unfold Rep at h; obtain ⟨y, rfl, _⟩ := h; rw [List.mem_singleton.1 hu]; rfl
 | .slice e, _, _, h, u, hu => by unfold Rep at h; obtain ⟨A, c, rfl, _⟩ := h; rw [List.mem_singleton.1 hu]; rfl
 | .nil, _, _, h, u, hu => by unfold Rep at h; rw [h] at hu; cases hu
 | .cons a b, _, _, h, u, hu => by
  unfold Rep at h
  obtain ⟨c0, c1, rfl, h0, h1⟩ := h
  rcases List.mem_append.1 hu with hu | hu
  ·exact h0.one u hu
  ·exact h1.one u hu
 | .any, _, _, h, u, hu => by unfold Rep at h; obtain ⟨v, rfl, hv⟩ := h; rw [List.mem_singleton.1 hu]; exact hv.one
theorem Gn (a : Addr) (n : Nat) : (a.add n).block = a.block := by unfold Addr.add; split <;> rfl
theorem Cells.move {w w' : World} {a : Addr} {cs : List Value} (h : Cells w a cs) (hb : w'.heap[a.block]? = w.heap[a.block]?) : Cells w' a cs := by
 intro j v hv
 rw [World.cell?_of_block (w := w) (by rw [Gn]; exact hb)]
 exact h j v hv
theorem Rep.mono {w w' : World} {ok ok' : Nat → Prop} (h1 : ∀ k, ok k → ok' k ∧ w'.heap[k]? = w.heap[k]?) : ∀ {t : Ty} {x : t.den} {cs : List Value}, Rep w ok t x cs → Rep w' ok' t x cs
 | .int _, _, _, h => by unfold Rep at h ⊢; exact h
 | .bool, _, _, h => by unfold Rep at h ⊢; exact h
 | .str, _, _, h => by unfold Rep at h ⊢; exact h
 | .nil, _, _, h => by unfold Rep at h ⊢; exact h
 | .any, _, _, h => by unfold Rep at h ⊢; exact h
 | .slice e, xs, _, h => by
  unfold Rep at h ⊢
  obtain ⟨A, c, rfl, hl, hc, hx⟩ := h
  refine ⟨A, c, rfl, hl, hc, fun hne => ?_⟩
  obtain ⟨a, rfl, hs, hok, hel⟩ := hx hne
  refine ⟨a, rfl, hs, (h1 _ hok).1, fun i x hi => ?_⟩
  obtain ⟨es, hr, hcs⟩ := hel i x hi
  exact ⟨es, hr.mono h1, hcs.move (by rw [Gn]; exact (h1 _ hok).2)⟩
 | .cons a b, _, _, h => by
  unfold Rep at h ⊢
  obtain ⟨c0, c1, rfl, h2, h3⟩ := h
  exact ⟨c0, c1, rfl, h2.mono h1, h3.mono h1⟩
def flat : (t : Ty) → t.den → List PL
 | .nil, _ => []
 | .cons a b, x => flat a x.1 ++ flat b x.2
 | .int k, x => [⟨.int k, x⟩]
 | .bool, x => [⟨.bool, x⟩]
 | .str, x => [⟨.str, x⟩]
 | .slice e, x => [⟨.slice e, x⟩]
 | .any, x => [⟨.any, x⟩]
def RepL (w : World) (ok : Nat → Prop) (p : PL) (v : Value) : Prop := Rep w ok p.t p.x [v]
inductive All2 {α β : Type} (R : α → β → Prop) : List α → List β → Prop
 | nil : All2 R [] []
 | cons {a b as bs} : R a b → All2 R as bs → All2 R (a :: as) (b :: bs)
section
variable {α β : Type} {R S : α → β → Prop}
theorem All2.len {as : List α} {bs : List β} (h : All2 R as bs) : as.length = bs.length := by
 induction h with
 | nil => rfl
 | cons _ _ ih => simp [ih]
theorem All2.imp {as : List α} {bs : List β} (h : All2 R as bs) (f : ∀ a b, R a b → S a b) : All2 S as bs := by
 induction h with
 | nil => exact .nil
 | cons h _ ih => exact .cons (f _ _ h) ih
theorem All2.imp_mem {as : List α} {bs : List β} (h : All2 R as bs) (f : ∀ a b, a ∈ as → R a b → S a b) : All2 S as bs := by
 induction h with
 | nil => exact .nil
 | cons h _ ih => exact .cons (f _ _ (by simp) h) (ih fun a b ha => f a b (by simp [ha]))
theorem All2.app {as as' : List α} {bs bs' : List β} (h : All2 R as bs) (h' : All2 R as' bs') : All2 R (as ++ as') (bs ++ bs') := by
 induction h with
 | nil => exact h'
 | cons h _ ih => exact .cons h ih
theorem All2.get {as : List α} {bs : List β} (h : All2 R as bs) {i : Nat} {a : α} (ha : as[i]? = some a) : ∃ b, bs[i]? = some b ∧ R a b := by
 induction h generalizing i with
 | nil => simp at ha
 | cons h _ ih =>
  cases i with
  | zero => simp at ha; subst ha; exact ⟨_, by simp, h⟩
  | succ i => simp at ha; obtain ⟨b, hb, hr⟩ := ih ha; exact ⟨b, by simpa using hb, hr⟩
theorem All2.get' {as : List α} {bs : List β} (h : All2 R as bs) {i : Nat} {b : β} (hb : bs[i]? = some b) : ∃ a, as[i]? = some a ∧ R a b := by
 induction h generalizing i with
 | nil => simp at hb
 | cons h _ ih =>
  cases i with
  | zero => simp at hb; subst hb; exact ⟨_, by simp, h⟩
  | succ i => simp at hb; obtain ⟨a, ha, hr⟩ := ih hb; exact ⟨a, by simpa using ha, hr⟩
theorem All2.drop {as : List α} {bs : List β} (h : All2 R as bs) (n : Nat) : All2 R (as.drop n) (bs.drop n) := by
 induction h generalizing n with
 | nil => simp; exact .nil
 | cons h h' ih =>
  cases n with
  | zero => simpa using All2.cons h h'
  | succ n => simpa using ih n
theorem All2.take {as : List α} {bs : List β} (h : All2 R as bs) (n : Nat) : All2 R (as.take n) (bs.take n) := by
 induction h generalizing n with
 | nil => simp; exact .nil
 | cons h h' ih =>
  cases n with
  | zero => simp; exact .nil
  | succ n => simpa using All2.cons h (ih n)
theorem All2.set {as : List α} {bs : List β} (h : All2 R as bs) (i : Nat) {a : α} {b : β} (hr : R a b) : All2 R (as.set i a) (bs.set i b) := by
 induction h generalizing i with
 | nil => simp; exact .nil
 | cons h h' ih =>
  cases i with
  | zero => simpa using All2.cons hr h'
  | succ i => simpa using All2.cons h (ih i)
theorem All2.map_left {γ : Type} {f : γ → α} {as : List γ} {bs : List β} (h : All2 (fun a b => R (f a) b) as bs) : All2 R (as.map f) bs := by
 induction h with
 | nil => exact .nil
 | cons h _ ih => exact .cons h ih
theorem All2.split_left {as as' : List α} {bs : List β} (h : All2 R (as ++ as') bs) : ∃ b0 b1, bs = b0 ++ b1 ∧ All2 R as b0 ∧ All2 R as' b1 := by
 induction as generalizing bs with
 | nil => exact ⟨[], bs, rfl, .nil, h⟩
 | cons a as ih =>
  cases h with
  | cons h h' =>
   obtain ⟨b0, b1, rfl, h0, h1⟩ := ih h'
   exact ⟨_ :: b0, b1, rfl, .cons h h0, h1⟩
end
theorem K7 {w : World} {ok : Nat → Prop} : ∀ {t : Ty} {x : t.den} {cs : List Value}, Rep w ok t x cs → All2 (RepL w ok) (flat t x) cs
 | .int _, _, _, h => by have h2 := h; unfold Rep at h2; obtain ⟨rfl, hw⟩ := h2; exact .cons h .nil
 | .bool, _, _, h => by have h2 := h; unfold Rep at h2; obtain rfl := h2; exact .cons h .nil
 | .str, _, _, h => by have h2 := h; unfold Rep at h2; obtain ⟨y, rfl, _⟩ := h2; exact .cons h .nil
 | .slice e, _, _, h => by have h2 := h; unfold Rep at h2; obtain ⟨A, c, rfl, _⟩ := h2; exact .cons h .nil
 | .any, _, _, h => by have h2 := h; unfold Rep at h2; obtain ⟨v, rfl, _⟩ := h2; exact .cons h .nil
 | .nil, _, _, h => by unfold Rep at h; obtain rfl := h; exact .nil
 | .cons a b, _, _, h => by
  unfold Rep at h
  obtain ⟨c0, c1, rfl, h0, h1⟩ := h
  exact (K7 h0).app (K7 h1)
theorem Dx : ∀ (t : Ty) (x : t.den), (flat t x).length = t.size
 | .int _, _ => rfl
 | .bool, _ => rfl
 | .str, _ => rfl
 | .slice _, _ => rfl
 | .any, _ => rfl
 | .nil, _ => rfl
 | .cons a b, x => by simp [flat, Ty.size, Dx a, Dx b]
theorem Ao0 {w : World} {ok : Nat → Prop} : ∀ {t : Ty} {x : t.den} {cs : List Value}, All2 (RepL w ok) (flat t x) cs → Rep w ok t x cs
 | .int _, _, _, h => by cases h with | cons h h' => cases h'; exact h
 | .bool, _, _, h => by cases h with | cons h h' => cases h'; exact h
 | .str, _, _, h => by cases h with | cons h h' => cases h'; exact h
 | .slice e, _, _, h => by cases h with | cons h h' => cases h'; exact h
 | .any, _, _, h => by cases h with | cons h h' => cases h'; exact h
 | .nil, _, _, h => by cases h; unfold Rep; rfl
 | .cons a b, _, _, h => by
  obtain ⟨c0, c1, rfl, h0, h1⟩ := h.split_left
  unfold Rep
  exact ⟨c0, c1, rfl, Ao0 h0, Ao0 h1⟩
def unflat : (t : Ty) → List PL → Option (t.den × List PL)
 | .nil, ls => some ((), ls)
 | .cons a b, ls => (unflat a ls).bind fun x => (unflat b x.2).bind fun y => some ((x.1, y.1), y.2)
 | .int k, ls => match ls with | p :: r => (asTy (.int k) p).bind fun x => some (x, r) | [] => none
 | .bool, ls => match ls with | p :: r => (asTy .bool p).bind fun x => some (x, r) | [] => none
 | .str, ls => match ls with | p :: r => (asTy .str p).bind fun x => some (x, r) | [] => none
 | .slice e, ls => match ls with | p :: r => (asTy (.slice e) p).bind fun x => some (x, r) | [] => none
 | .any, ls => match ls with | p :: r => (asTy .any p).bind fun x => some (x, r) | [] => none
theorem Qg {t : Ty} {ls : List PL} {x : t.den} {r : List PL}
  (h : (match ls with | p :: r => (asTy t p).bind fun x => some (x, r) | [] => none) = some (x, r)) : ls = ⟨t, x⟩ :: r := by
 cases ls with
 | nil => cases h
 | cons p q =>
  simp only [Option.bind_eq_some_iff, Option.some.injEq, Prod.mk.injEq] at h
  obtain ⟨y, hy, rfl, rfl⟩ := h
  rw [Ee hy]
theorem Yw : ∀ {t : Ty} {ls : List PL} {x : t.den} {r : List PL}, unflat t ls = some (x, r) → ls = flat t x ++ r
 | .int _, _, _, _, h => Qg h
 | .bool, _, _, _, h => Qg h
 | .str, _, _, _, h => Qg h
 | .slice _, _, _, _, h => Qg h
 | .any, _, _, _, h => Qg h
 | .nil, _, _, _, h => by cases h; rfl
 | .cons a b, _, _, _, h => by
  simp only [unflat, Option.bind_eq_some_iff, Option.some.injEq, Prod.mk.injEq] at h
  obtain ⟨⟨x, q⟩, hx, ⟨y, q'⟩, hy, rfl, rfl⟩ := h
  have h2 := Yw hy
  have h3 : q = flat b y ++ q' := h2
  rw [Yw hx, h3]
  exact (List.append_assoc _ _ _).symm
def RepRow (w : World) (ok : Nat → Prop) (t : Ty) (xs : List t.den) (cs : List Value) : Prop := All2 (RepL w ok) (xs.flatMap (flat t)) cs
theorem Ae5 (t : Ty) (xs : List t.den) : (xs.flatMap (flat t)).length = xs.length * t.size := by
 induction xs with
 | nil => simp
 | cons x xs ih => simp [ih, Dx, Nat.add_mul, Nat.add_comm]
theorem RepRow.len {w : World} {ok : Nat → Prop} {t : Ty} {xs : List t.den} {cs : List Value} (h : RepRow w ok t xs cs) : cs.length = xs.length * t.size := by
 rw [← All2.len h, Ae5]
theorem RepL.mono {w w' : World} {ok ok' : Nat → Prop} (h1 : ∀ k, ok k → ok' k ∧ w'.heap[k]? = w.heap[k]?) {p : PL} {v : Value} (h : RepL w ok p v) : RepL w' ok' p v := Rep.mono h1 h
theorem RepRow.mono {w w' : World} {ok ok' : Nat → Prop} (h1 : ∀ k, ok k → ok' k ∧ w'.heap[k]? = w.heap[k]?) {t : Ty} {xs : List t.den} {cs : List Value} (h : RepRow w ok t xs cs) : RepRow w' ok' t xs cs :=
 All2.imp h fun _ _ h => h.mono h1
theorem RepL.one {w : World} {ok : Nat → Prop} {p : PL} {v : Value} (h : RepL w ok p v) : v.oneCell' = true := Rep.one h v (by simp)
theorem RepRow.one {w : World} {ok : Nat → Prop} {t : Ty} {xs : List t.den} {cs : List Value} (h : RepRow w ok t xs cs) : ∀ u ∈ cs, u.oneCell' = true := by
 intro u hu
 obtain ⟨i, hi, rfl⟩ := List.getElem_of_mem hu
 have hi2 : cs[i]? = some cs[i] := List.getElem?_eq_getElem hi
 obtain ⟨p, _, hp⟩ := All2.get' h hi2
 exact hp.one
theorem Aw6 {t : Ty} : ∀ {xs : List t.den} {i : Nat} {x : t.den}, xs[i]? = some x → ∃ a b, xs.flatMap (flat t) = a ++ flat t x ++ b ∧ a.length = i * t.size
 | [], i, x, h => by simp at h
 | y :: ys, 0, x, h => by simp at h; subst h; exact ⟨[], ys.flatMap (flat t), by simp, by simp⟩
 | y :: ys, i + 1, x, h => by
  obtain ⟨a, b, e, hl⟩ := Aw6 (xs := ys) (i := i) (x := x) (by simpa using h)
  exact ⟨flat t y ++ a, b, by simp [e], by simp [hl, Dx, Nat.add_mul, Nat.add_comm]⟩
theorem RepRow.get {w : World} {ok : Nat → Prop} {t : Ty} {xs : List t.den} {cs : List Value} (h : RepRow w ok t xs cs) {i : Nat} {x : t.den} (hx : xs[i]? = some x) :
  Rep w ok t x ((cs.drop (i * t.size)).take t.size) := by
 obtain ⟨a, b, e, hl⟩ := Aw6 hx
 have h2 : All2 (RepL w ok) (a ++ (flat t x ++ b)) cs := by rw [← List.append_assoc, ← e]; exact h
 have h3 := (h2.drop (i * t.size)).take t.size
 rw [← hl, List.drop_left, List.take_left' (Dx t x)] at h3
 rw [← hl]
 exact Ao0 h3
theorem A50 {w : World} {ok : Nat → Prop} {e : Ty} {xs : List e.den} {cs : List Value} {a : Addr} {c : Nat} (hr : RepRow w ok e xs cs) (hc : Cells w a cs) (hs : a.spot = none) (ho : ok a.block) (hl : xs.length ≤ c) (hm : c ≤ maxLen) :
  Rep w ok (.slice e) xs [.slice (some a) xs.length c] := by
 show Da w ok (fun x es => Rep w ok e x es) e.size xs _
 refine ⟨some a, c, rfl, hl, hm, fun _ => ⟨a, rfl, hs, ho, fun i x hi => ⟨_, hr.get hi, ?_⟩⟩⟩
 intro j v hv
 rw [List.getElem?_take] at hv
 split at hv
 ·rw [List.getElem?_drop] at hv
  have := hc _ _ hv
  have e2 : (a.add (i * e.size)).add j = a.add (i * e.size + j) := by
   unfold Addr.add
   by_cases h1 : i * e.size = 0 <;> by_cases h2 : j = 0 <;> simp [h1, h2, hs]
   all_goals first | omega | (intro h3 h4; omega) | (constructor <;> omega) | skip
  rw [e2]
  exact this
 ·cases hv
theorem Bi4 {w : World} {ok : Nat → Prop} {e : Ty} {xs : List e.den} {cs : List Value} {a : Addr} {c n : Nat} (hr : RepRow w ok e xs cs) (hc : Cells w a cs) (hs : a.spot = none) (ho : ok a.block) (hn : xs.length = n) (hl : n ≤ c) (hm : c ≤ maxLen) :
  Rep w ok (.slice e) xs [.slice (some a) n c] := by
 subst hn
 exact A50 hr hc hs ho hl hm
inductive NilK where
 | ptr | sl | fn | ifc | mp
def NilK.val : NilK → Value
 | .ptr => .pointer none
 | .sl => .slice none 0 0
 | .fn => .nilFunc
 | .ifc => .nilIface
 | .mp => .map none
def NilK.eqb : NilK → NilK → Bool
 | .ptr, .ptr | .sl, .sl | .fn, .fn | .ifc, .ifc | .mp, .mp => true
 | _, _ => false
theorem NilK.of_eqb {a b : NilK} (h : NilK.eqb a b = true) : a = b := by cases a <;> cases b <;> first | rfl | cases h
inductive L where
 | dead
 | pv (p : PL)
 | cst (k : NilK)
 | ptr (b o : Nat)
 | own (l : Nat)
 | ept (l i o sz : Nat)
 | rpt (ls : List PL)
 | fn (f : Nat) (first caps : List (Nat × Nat))
 | ifc (t : Nat) (ls : List PL) (agg : Bool)
 | err (b : Bool)
 | bld (b t : Nat) (z : Bool)
 | sb (b n : Nat)
 | ifp (t b o : Nat)
 | erp (z : Bool) (t : Nat) (ps : List PL)
 | orp (z : Bool) (ps : List PL)
 | rro (i n l : Nat)
 | rrp (l : Nat)
inductive CV where
 | lf (l : L)
 | agg (ls : List L)
inductive AV where
 | dead
 | cv (c : CV)
 | tup (cs : List CV)
structure Own where
 e : Nat
 t : Ty
 xs : List t.den
structure St where
 slots : List AV
 boxes : List (Option (List L))
 owns : List (Option Own)
def N0 : Nat := 48
def CV.map (f : L → L) : CV → CV
 | .lf l => .lf (f l)
 | .agg ls => .agg (ls.map f)
def AV.map (f : L → L) : AV → AV
 | .dead => .dead
 | .cv c => .cv (c.map f)
 | .tup cs => .tup (cs.map (CV.map f))
def CV.leaves : CV → List L
 | .lf l => [l]
 | .agg ls => ls
def AV.all (p : L → Bool) : AV → Bool
 | .dead => true
 | .cv c => c.leaves.all p
 | .tup cs => cs.all fun c => c.leaves.all p
def St.map (f : L → L) (s : St) : St := { s with slots := s.slots.map (AV.map f), boxes := s.boxes.map (Option.map (List.map f)) }
def St.all (p : L → Bool) (s : St) : Bool := s.slots.all (AV.all p) && s.boxes.all fun b => match b with | some ls => ls.all p | none => true
def lf (l : L) : AV := .cv (.lf l)
def pvI (k : IntKind) (n : Int) : L := .pv ⟨.int k, n⟩
def pvB (b : Bool) : L := .pv ⟨.bool, b⟩
def pvS (s : List Int) : L := .pv ⟨.str, s⟩
def pvL (t : Ty) (xs : List t.den) : L := .pv ⟨.slice t, xs⟩
def L.noB (n : Nat) : L → Bool
 | .ptr b _ => b != n
 | .fn _ a c => a.all (fun x => x.1 != n) && c.all (fun x => x.1 != n)
 | .bld b _ _ => b != n
 | .sb b _ => b != n
 | .ifp _ b _ => b != n
 | _ => true
def L.noO (n : Nat) : L → Bool
 | .own l => l != n
 | .ept l _ _ _ => l != n
 | .rro _ _ l => l != n
 | .rrp l => l != n
 | _ => true
def A0 : Value → L
 | .int k n => if (Lit.int k n).wf then pvI k n else .dead
 | .bool b => pvB b
 | .string s => if s.size ≤ maxLen then pvS (bs s) else .dead
 | .pointer none => .cst .ptr
 | .slice none 0 0 => .cst .sl
 | .map none => .cst .mp
 | .nilFunc => .cst .fn
 | .nilIface => .cst .ifc
 | _ => .dead
def Md : Value → AV
 | .agg cs => if cs.toList.all Value.oneCell' then .cv (.agg (cs.toList.map A0)) else .dead
 | .tuple _ => .dead
 | v => lf (A0 v)
def St.get (s : St) : Operand → AV
 | .tmp t => s.slots.getD t .dead
 | .const v => Md v
 | .global _ => .dead
 | .func f => lf (.fn f [] [])
def St.put (s : St) (d : Option Nat) (v : AV) : St :=
 match d with
 | some d => { s with slots := s.slots.set d v }
 | none => s
inductive SL where
 | dead
 | pv (t : Ty)
 | nil (k : NilK)
 | ptr (b o : Nat)
 | own (l : Nat)
 | ept (l o sz : Nat)
 | rpt (ts : List Ty)
 | fn (f : Nat) (first caps : List (Nat × Nat))
 | ifc (t : Nat) (ts : List Ty) (agg : Bool)
 | err
 | bld (b t : Nat)
 | sb (b n : Nat)
 | ifp (t b o : Nat)
 | erp (t : Nat) (ts : List Ty)
 | orp (ts : List Ty)
 | rro (l : Nat)
 | rrp (l : Nat)
inductive SA where
 | dead
 | lf (l : SL)
 | agg (ls : List SL)
structure Sk where
 slots : List SA
 boxes : List (List SL)
 owns : List (Option (Nat × Ty))
inductive Way where
 | pan (t : Nat) (ts : List Ty) (g : Bool)
 | two (k : Sk)
structure Fun1 where
 run : (R : Type) → List PL → (List PL → Option R) → Option R
 nat : ∀ R ps K, run R ps K = (run (List PL) ps some).bind K
 pan : Option Way := none
inductive Oc (α : Type) : Type 1 where
 | fail
 | ok (a : α)
 | guard (c : Bool) (n : Oc α)
 | ite (c : Bool) (x y : Oc α)
 | call (e : Fun1) (ps : List PL) (k : List PL → Oc α)
def Oc.bind {α β : Type} : Oc α → (α → Oc β) → Oc β
 | .fail, _ => .fail
 | .ok a, f => f a
 | .guard c n, f => .guard c (n.bind f)
 | .ite c x y, f => .ite c (x.bind f) (y.bind f)
 | .call e ps k, f => .call e ps fun r => (k r).bind f
def Oc.ofOption {α : Type} : Option α → Oc α
 | none => .fail
 | some a => .ok a
def Oc.val {α : Type} : Oc α → Option α
 | .fail => none
 | .ok a => some a
 | .guard c n => bif c then n.val else none
 | .ite c x y => bif c then x.val else y.val
 | .call e ps k => (e.run (List PL) ps some).bind fun r => (k r).val
def Oc.runK {α R : Type} : Oc α → (α → Option R) → Option R
 | .fail, _ => none
 | .ok a, K => K a
 | .guard c n, K => bif c then n.runK K else none
 | .ite c x y, K => bif c then x.runK K else y.runK K
 | .call e ps k, K => e.run R ps fun r => (k r).runK K
theorem Oc.runK_eq {α R : Type} (x : Oc α) (K : α → Option R) : x.runK K = x.val.bind K := by
 induction x with
 | fail => rfl
 | ok a => rfl
 | guard c n ih => cases c <;> simp [Oc.runK, Oc.val, ih]
 | ite c x y ih1 ih2 => cases c <;> simp [Oc.runK, Oc.val, ih1, ih2]
 | call e ps k ih =>
  simp only [Oc.runK, Oc.val]
  rw [e.nat]
  cases e.run (List PL) ps some with
  | none => rfl
  | some r => simp [ih]
theorem Oc.val_bind {α β : Type} (x : Oc α) (f : α → Oc β) : (x.bind f).val = x.val.bind fun a => (f a).val := by
 induction x with
 | fail => rfl
 | ok a => rfl
 | guard c n ih => cases c <;> simp [Oc.bind, Oc.val, ih]
 | ite c x y ih1 ih2 => cases c <;> simp [Oc.bind, Oc.val, ih1, ih2]
 | call e ps k ih =>
  simp only [Oc.bind, Oc.val]
  cases e.run (List PL) ps some with
  | none => rfl
  | some r => simp [ih]
theorem Oc.val_ofOption {α : Type} (x : Option α) : (Oc.ofOption x).val = x := by cases x <;> rfl
def Ae (s : St) (b : Nat) : Option (List L) := (s.boxes[b]?).bind id
def Aa (s : St) (l : Nat) : Option Own := (s.owns[l]?).bind id
def At (s : St) (b : Nat) (ls : List L) : St := { s with boxes := s.boxes.set b (some ls) }
def Al (s : St) (l : Nat) (o : Option Own) : St := { s with owns := s.owns.set l o }
def Bq (s : St) (n : Nat) : Bool := (match s.boxes[n]? with | some none => true | _ => false) && s.all (L.noB n)
def Ch (s : St) (n : Nat) : Bool := (match s.owns[n]? with | some none => true | _ => false) && s.all (L.noO n)
def frzL (n : Nat) (p : PL) : L → L
 | .own l => if l = n then .pv p else .own l
 | .ept l i o sz => if l = n then .dead else .ept l i o sz
 | .rro i m l => if l = n then .dead else .rro i m l
 | .rrp l => if l = n then .dead else .rrp l
 | l => l
def frz (s : St) (n : Nat) : St :=
 match Aa s n with
 | some o => Al (s.map (frzL n ⟨.slice o.t, o.xs⟩)) n none
 | none => s
def Dm (n : Nat) : L → L
 | .own l => if l = n then .dead else .own l
 | .ept l i o sz => if l = n then .dead else .ept l i o sz
 | .rro i m l => if l = n then .dead else .rro i m l
 | .rrp l => if l = n then .dead else .rrp l
 | l => l
def D7 (s : St) (n : Nat) : St := Al (s.map (Dm n)) n none
def p0Of : PL → Option P0
 | ⟨.int k, n⟩ => some (.int k n)
 | ⟨.bool, b⟩ => some (.bool b)
 | ⟨.str, s⟩ => some (.str s)
 | _ => none
def Wl : List PL → Option (List P0)
 | [] => some []
 | p :: r => (p0Of p).bind fun a => (Wl r).map fun q => a :: q
def plOf (s : St) (t : Ty) : L → Option PL
 | .ifc n ps g => match t with | .any => (Wl ps).map fun q => ⟨.any, AnyV.mk n g q⟩ | _ => none
 | .cst .ifc => match t with | .any => some ⟨.any, AnyV.nil⟩ | _ => none
 | .pv p => some p
 | .own l => (Aa s l).map fun o => ⟨.slice o.t, o.xs⟩
 | .cst .sl => match t with | .slice e => some ⟨.slice e, ([] : List e.den)⟩ | _ => none
 | _ => none
def E7 : Ty → List Ty
 | .nil => []
 | .cons a b => E7 a ++ E7 b
 | t => [t]
def Fd (s : St) : List Ty → List L → Option (List PL)
 | [], [] => some []
 | t :: ts, l :: ls => (plOf s t l).bind fun p => (Fd s ts ls).map fun ps => p :: ps
 | _, _ => none
def A7 : List L → List Nat
 | [] => []
 | .own l :: r => l :: A7 r
 | _ :: r => A7 r
def Bb (s : St) : List Nat → St
 | [] => s
 | n :: r => Bb (frz s n) r
def datum (s : St) (t : Ty) (ls : List L) : Option t.den :=
 (Fd s (E7 t) ls).bind fun ps => (unflat t ps).bind fun x => if x.2.isEmpty then some x.1 else none
def tyOf (P : Program) : Nat → Nat → Option Ty
 | 0, _ => none
 | n + 1, t => match P.underlying t with
  | some (.int k) => some (.int k)
  | some .bool => some .bool
  | some .string => some .str
  | some (.slice e) => (tyOf P n e).map .slice
  | some (.struct fs) => fs.toList.foldr (fun f r => r.bind fun b => (tyOf P n f.type).map fun a => .cons a b) (some .nil)
  | some (.array m e) => (tyOf P n e).map fun a => (List.replicate m a).foldr .cons .nil
  | some (.interface ms) => if ms.isEmpty then some .any else none
  | _ => none
def A89 : Nat := 12
def A1 (P : Program) (t : Nat) : Option Nat := match P.underlying t with | some (.slice e) => some e | _ => none
def By (P : Program) (t : Nat) : Bool := match P.underlying t with | some (.struct _) => true | some (.array _ _) => true | _ => false
def Bo (P : Program) (t : Nat) : Option (List L) := ((P.info? t).bind fun i => i.zero).bind fun v => if v.cells.toList.all Value.oneCell' then some (v.cells.toList.map A0) else none
def Ay (P : Program) (t : Nat) : Option Nat := (P.info? t).map fun i => i.size
def Cj : AV → Option (List L)
 | .cv c => some c.leaves
 | _ => none
def mkAV (agg : Bool) (ls : List L) : Option AV :=
 if agg then some (.cv (.agg ls)) else match ls with | [l] => some (lf l) | _ => none
def rdD (t : Ty) (xs : List t.den) (i : Nat) : t.den := xs.getD i t.dflt
def rdI (xs : List Int) (i : Nat) : Int := xs.getD i 0
def binI (op : BinOp) (k k' : IntKind) (x y : Int) : Option (Bool × PL) :=
 match op with
 | .shl => some (decide (0 ≤ y), ⟨.int k, k.wrap (x * 2 ^ (min y.toNat k.bits))⟩)
 | .shr => some (decide (0 ≤ y), ⟨.int k, x.fdiv (2 ^ (min y.toNat k.bits))⟩)
 | .add => if k = k' then some (true, ⟨.int k, k.wrap (x + y)⟩) else none
 | .sub => if k = k' then some (true, ⟨.int k, k.wrap (x - y)⟩) else none
 | .mul => if k = k' then some (true, ⟨.int k, k.wrap (x * y)⟩) else none
 | .quo => if k = k' then some (!decide (y = 0), ⟨.int k, k.wrap (x.tdiv y)⟩) else none
 | .rem => if k = k' then some (!decide (y = 0), ⟨.int k, x.tmod y⟩) else none
 | .and => if k = k' then some (true, ⟨.int k, k.wrap (BitVec.ofInt k.bits x &&& BitVec.ofInt k.bits y).toNat⟩) else none
 | .or => if k = k' then some (true, ⟨.int k, k.wrap (BitVec.ofInt k.bits x ||| BitVec.ofInt k.bits y).toNat⟩) else none
 | .xor => if k = k' then some (true, ⟨.int k, k.wrap (BitVec.ofInt k.bits x ^^^ BitVec.ofInt k.bits y).toNat⟩) else none
 | .andNot => if k = k' then some (true, ⟨.int k, k.wrap (BitVec.ofInt k.bits x &&& ~~~BitVec.ofInt k.bits y).toNat⟩) else none
 | .eql => if k = k' then some (true, ⟨.bool, x == y⟩) else none
 | .neq => if k = k' then some (true, ⟨.bool, x != y⟩) else none
 | .lss => if k = k' then some (true, ⟨.bool, decide (x < y)⟩) else none
 | .leq => if k = k' then some (true, ⟨.bool, decide (x ≤ y)⟩) else none
 | .gtr => if k = k' then some (true, ⟨.bool, decide (x > y)⟩) else none
 | .geq => if k = k' then some (true, ⟨.bool, decide (x ≥ y)⟩) else none
def ltS : List Int → List Int → Bool
 | _, [] => false
 | [], _ :: _ => true
 | a :: x, b :: y => decide (a < b) || (a == b && ltS x y)
def binS (op : BinOp) (x y : List Int) : Option (Bool × PL) :=
 match op with
 | .add => some (decide (x.length + y.length ≤ maxLen), ⟨.str, x ++ y⟩)
 | .eql => some (true, ⟨.bool, x == y⟩)
 | .neq => some (true, ⟨.bool, !(x == y)⟩)
 | .lss => some (true, ⟨.bool, ltS x y⟩)
 | .leq => some (true, ⟨.bool, ltS x y || x == y⟩)
 | .gtr => some (true, ⟨.bool, !(ltS x y || x == y)⟩)
 | .geq => some (true, ⟨.bool, !ltS x y⟩)
 | _ => none
def binB (op : BinOp) (x y : Bool) : Option (Bool × PL) :=
 match op with
 | .eql => some (true, ⟨.bool, x == y⟩)
 | .neq => some (true, ⟨.bool, !(x == y)⟩)
 | _ => none
def binP (op : BinOp) (p q : PL) : Option (Bool × PL) :=
 match p, q with
 | ⟨.int k, x⟩, ⟨.int k', y⟩ => binI op k k' x y
 | ⟨.str, x⟩, ⟨.str, y⟩ => binS op x y
 | ⟨.bool, x⟩, ⟨.bool, y⟩ => binB op x y
 | _, _ => none
def nilEq : L → L → Option Bool
 | .cst .ptr, .cst .ptr => some true
 | .cst .ptr, .ptr _ _ => some false
 | .ptr _ _, .cst .ptr => some false
 | .cst .ptr, .ept _ _ _ _ => some false
 | .ept _ _ _ _, .cst .ptr => some false
 | .cst .ptr, .rpt _ => some false
 | .rpt _, .cst .ptr => some false
 | _, _ => none
def eqI (x y : Int) : Bool := x == y
def eqB (x y : Bool) : Bool := x == y
def eqS (x y : List Int) : Bool := x == y
def eqPL (P : Program) (t : Nat) (p q : PL) : Option Bool :=
 match P.underlying t, p, q with
 | some (.int _), ⟨.int k, x⟩, ⟨.int k', y⟩ => if k = k' then some (eqI x y) else none
 | some .bool, ⟨.bool, x⟩, ⟨.bool, y⟩ => some (eqB x y)
 | some .string, ⟨.str, x⟩, ⟨.str, y⟩ => some (eqS x y)
 | _, _, _ => none
def eqFs (P : Program) (rec : List Field → List L → List L → Option Bool) : List Field → List L → List L → Option Bool
 | [], _, _ => some true
 | f :: r, xs, ys => if f.name == "_" then none else match P.underlying f.type with
  | some (.struct gs) => if P.stoodInHeld f.type then none else match Ay P f.type with
   | some n => if f.offset + n ≤ xs.length ∧ f.offset + n ≤ ys.length then (rec gs.toList ((xs.drop f.offset).take n) ((ys.drop f.offset).take n)).bind fun b => (eqFs P rec r xs ys).map fun s => b && s else none
   | none => none
  | _ => match xs[f.offset]?, ys[f.offset]? with
   | some (.pv p), some (.pv q) => (eqPL P f.type p q).bind fun b => (eqFs P rec r xs ys).map fun s => b && s
   | _, _ => none
def eqFsN (P : Program) : Nat → List Field → List L → List L → Option Bool
 | 0 => eqFs P fun _ _ _ => none
 | n + 1 => eqFs P (eqFsN P n)
def eqSt (P : Program) (t : Nat) (xs ys : List L) : Option Bool :=
 match P.underlying t with
 | some (.struct fs) => if P.stoodInHeld t || P.eqGuardType P.depth t then none else eqFsN P 3 fs.toList xs ys
 | _ => none
def nilI (P : Program) (ty : Nat) (a : L) (y : Operand) : Option Bool :=
 match P.underlying ty, y with
 | some (.interface _), .const .nilIface => match a with
  | .err b => some b
  | .ifc _ _ _ => some false
  | .cst .ifc => some true
  | .ifp _ _ _ => some false
  | .erp z _ _ => some z
  | _ => none
 | _, _ => none
def Zb (P : Program) (ty : Nat) (p : PL) : Bool :=
 match p.t with
 | .bool => (match P.underlying ty with | some .bool => true | _ => false)
 | _ => true
def Qz (P : Program) (ty : Nat) (op : BinOp) (x y : L) : Oc L :=
 match x, y with
 | .pv p, .pv q => match binP op p q with
  | some (c, r) => if Zb P ty p then .guard c (.ok (.pv r)) else .fail
  | none => .fail
 | _, _ => match op, nilEq x y, P.underlying ty with
  | .eql, some b, some (.pointer _) => .ok (pvB b)
  | .neq, some b, some (.pointer _) => .ok (pvB !b)
  | _, _, _ => .fail
def negI (k : IntKind) (n : Int) : Int := k.wrap (0 - n)
def notI (k : IntKind) (n : Int) : Int := k.wrap (BitVec.ofInt k.bits (if k.signed then -1 else k.max) ^^^ BitVec.ofInt k.bits n).toNat
def unOc (op : UnOp) (x : PL) : Option PL :=
 match op, x with
 | .not, ⟨.bool, b⟩ => some ⟨.bool, !b⟩
 | .neg, ⟨.int k, n⟩ => some ⟨.int k, negI k n⟩
 | .xor, ⟨.int k, n⟩ => some ⟨.int k, notI k n⟩
 | _, _ => none
def look {α : Type} (d : α) : List (Nat × α) → Nat → α
 | [], _ => d
 | (k, v) :: r, i => if k = i then v else look d r i
def sparse (n : Nat) (l : List (Nat × SA)) : List SA := (List.range n).map fun i => look .dead l i
def SL.tys : SL → List Ty
 | .pv t => [t]
 | .ept _ _ _ => [.int .i64]
 | .rpt ts => ts
 | .ifc _ ts _ => ts
 | .err => [.bool]
 | .bld _ _ => [.bool]
 | .erp _ ts => .bool :: ts
 | .orp ts => .bool :: ts
 | .rro _ => [.int .i64, .int .i64]
 | _ => []
def SA.leaves : SA → List SL
 | .dead => []
 | .lf l => [l]
 | .agg ls => ls
def Ff : List SL → List Ty
 | [] => []
 | s :: r => s.tys ++ Ff r
def Lg : List SA → List Ty
 | [] => []
 | s :: r => Ff s.leaves ++ Lg r
def Qe : List (List SL) → List Ty
 | [] => []
 | s :: r => Ff s ++ Qe r
def Lh : List (Option (Nat × Ty)) → List Ty
 | [] => []
 | some x :: r => .slice x.2 :: Lh r
 | none :: r => Lh r
def Sk.tys (s : Sk) : List Ty := Lg s.slots ++ (Qe s.boxes ++ Lh s.owns)
def HLs : List Ty → Type
 | [] => Unit
 | [t] => t.den
 | t :: u :: r => t.den × HLs (u :: r)
def toPL : (ts : List Ty) → HLs ts → List PL
 | [], _ => []
 | [t], x => [⟨t, x⟩]
 | t :: u :: r, x => ⟨t, x.1⟩ :: toPL (u :: r) x.2
def ofPL : (ts : List Ty) → List PL → Option (HLs ts)
 | [], [] => some ()
 | [t], [p] => asTy t p
 | t :: u :: r, p :: ps => (asTy t p).bind fun x => (ofPL (u :: r) ps).bind fun y => some (x, y)
 | _, _ => none
def encL : SL → List PL → L
 | .dead, _ => .dead
 | .pv _, ps => match ps with | p :: _ => .pv p | [] => .dead
 | .nil k, _ => .cst k
 | .ptr b o, _ => .ptr b o
 | .own l, _ => .own l
 | .ept l o sz, ps => match ps with | ⟨.int _, i⟩ :: _ => .ept l (Int.toNat i) o sz | _ => .dead
 | .rpt ts, ps => .rpt (ps.take ts.length)
 | .fn f a c, _ => .fn f a c
 | .ifc t ts g, ps => .ifc t (ps.take ts.length) g
 | .err, ps => match ps with | ⟨.bool, b⟩ :: _ => .err b | _ => .dead
 | .bld b t, ps => match ps with | ⟨.bool, z⟩ :: _ => .bld b t z | _ => .dead
 | .sb b n, _ => .sb b n
 | .ifp t b o, _ => .ifp t b o
 | .erp t ts, ps => match ps with | ⟨.bool, z⟩ :: r => .erp z t (r.take ts.length) | _ => .dead
 | .orp ts, ps => match ps with | ⟨.bool, z⟩ :: r => .orp z (r.take ts.length) | _ => .dead
 | .rro l, ps => match ps with | ⟨.int _, i⟩ :: ⟨.int _, n⟩ :: _ => .rro (Int.toNat i) (Int.toNat n) l | _ => .dead
 | .rrp l, _ => .rrp l
def Mq : List SL → List PL → List L
 | [], _ => []
 | s :: r, ps => encL s ps :: Mq r (ps.drop s.tys.length)
def encA : SA → List PL → AV
 | .dead, _ => .dead
 | .lf l, ps => .cv (.lf (encL l ps))
 | .agg ls, ps => .cv (.agg (Mq ls ps))
def B3 : List SA → List PL → List AV
 | [], _ => []
 | s :: r, ps => encA s ps :: B3 r (ps.drop (Ff s.leaves).length)
def Iz : List (List SL) → List PL → List (Option (List L))
 | [], _ => []
 | s :: r, ps => some (Mq s ps) :: Iz r (ps.drop (Ff s).length)
def Ek : List (Option (Nat × Ty)) → List PL → List (Option Own)
 | [], _ => []
 | some x :: r, ps => (match ps with | p :: _ => (asTy (.slice x.2) p).map fun xs => ⟨x.1, x.2, xs⟩ | [] => none) :: Ek r (ps.drop 1)
 | none :: r, ps => none :: Ek r ps
def enc (k : Sk) (n : Nat) (ps : List PL) : St :=
 {slots := B3 k.slots ps
  boxes := Iz k.boxes (ps.drop (Lg k.slots).length) ++ List.replicate (n - k.boxes.length) none
  owns := Ek k.owns (ps.drop ((Lg k.slots).length + (Qe k.boxes).length)) ++ List.replicate (n - k.owns.length) none }
def Pf : List (Nat × Nat) → List (Nat × Nat) → Bool
 | [], [] => true
 | a :: r, b :: s => a.1 == b.1 && a.2 == b.2 && Pf r s
 | _, _ => false
def C9 : List Ty → List PL → Bool
 | [], [] => true
 | t :: r, p :: s => decide (p.t = t) && C9 r s
 | _, _ => false
def decL : SL → L → Option (List PL)
 | .dead, .dead => some []
 | .pv t, .pv p => if p.t = t then some [p] else none
 | .nil k, .cst k' => if k.eqb k' then some [] else none
 | .ptr b o, .ptr b' o' => if b == b' && o == o' then some [] else none
 | .own l, .own l' => if l == l' then some [] else none
 | .ept l o sz, .ept l' i o' sz' => if l == l' && o == o' && sz == sz' then some [⟨.int .i64, Int.ofNat i⟩] else none
 | .rpt ts, .rpt ps => if C9 ts ps then some ps else none
 | .fn f a c, .fn f' a' c' => if f == f' && Pf a a' && Pf c c' then some [] else none
 | .ifc t ts g, .ifc t' ps g' => if t == t' && g == g' && C9 ts ps then some ps else none
 | .err, .err b => some [⟨.bool, b⟩]
 | .bld b t, .bld b' t' z => if b == b' && t == t' then some [⟨.bool, z⟩] else none
 | .sb b n, .sb b' n' => if b == b' && n == n' then some [] else none
 | .ifp t b o, .ifp t' b' o' => if t == t' && b == b' && o == o' then some [] else none
 | .erp t ts, .erp z t' ps => if t == t' && C9 ts ps then some (⟨.bool, z⟩ :: ps) else none
 | .orp ts, .orp z ps => if C9 ts ps then some (⟨.bool, z⟩ :: ps) else none
 | .rro l, .rro i n l' => if l == l' then some [⟨.int .i64, Int.ofNat i⟩, ⟨.int .i64, Int.ofNat n⟩] else none
 | .rrp l, .rrp l' => if l == l' then some [] else none
 | _, _ => none
def Mm : List SL → List L → Option (List PL)
 | [], [] => some []
 | s :: r, l :: q => (decL s l).bind fun a => (Mm r q).bind fun b => some (a ++ b)
 | _, _ => none
def decA : SA → AV → Option (List PL)
 | .dead, .dead => some []
 | .lf s, .cv (.lf l) => decL s l
 | .agg ss, .cv (.agg ls) => Mm ss ls
 | _, _ => none
def Ru : List SA → List AV → Option (List PL)
 | [], [] => some []
 | s :: r, l :: q => (decA s l).bind fun a => (Ru r q).bind fun b => some (a ++ b)
 | _, _ => none
def Ml : List (List SL) → List (Option (List L)) → Option (List PL)
 | [], l => if l.all Option.isNone then some [] else none
 | s :: r, some l :: q => (Mm s l).bind fun a => (Ml r q).bind fun b => some (a ++ b)
 | _, _ => none
def G4 : List (Option (Nat × Ty)) → List (Option Own) → Option (List PL)
 | [], l => if l.all Option.isNone then some [] else none
 | some x :: r, some o :: q => if o.e == x.1 && decide (o.t = x.2) then (G4 r q).bind fun b => some (⟨.slice o.t, o.xs⟩ :: b) else none
 | none :: r, none :: q => G4 r q
 | _, _ => none
def dec (k : Sk) (s : St) : Option (List PL) :=
 (Ru k.slots s.slots).bind fun a => (Ml k.boxes s.boxes).bind fun b => (G4 k.owns s.owns).bind fun c => some (a ++ (b ++ c))
def Pg (mB : List Nat) : List (Nat × Nat) → List (Nat × Nat) → Bool
 | [], [] => true
 | a :: r, b :: s => (match mB[a.1]? with | some x => x == b.1 | none => false) && a.2 == b.2 && Pg mB r s
 | _, _ => false
def bTo (mB : List Nat) (b b' : Nat) : Bool := match mB[b]? with | some x => x == b' | none => false
def isTo (mO : List (Option Nat)) (l l' : Nat) : Bool := match mO[l]? with | some (some x) => x == l' | _ => false
def isNil (mO : List (Option Nat)) (l : Nat) : Bool := match mO[l]? with | some none => true | _ => false
def Er : List L → Option (List PL)
 | [] => some []
 | .pv p :: r => (Er r).map fun q => p :: q
 | _ => none
def dflPs (ts : List Ty) : List PL := ts.map fun t => ⟨t, t.dflt⟩
def coL (s : St) (br bx : List Nat) (mB : List Nat) (mO : List (Option Nat)) : SL → L → Option L
 | .dead, _ => some .dead
 | .pv t, .pv p => if p.t = t then some (.pv p) else none
 | .pv t, .own l => if !br.contains l then none else (Aa s l).bind fun o => if Ty.slice o.t = t then some (.pv ⟨.slice o.t, o.xs⟩) else none
 | .pv t, .cst .sl => match t with | .slice e => some (.pv ⟨.slice e, ([] : List e.den)⟩) | _ => none
 | .nil k, .cst k' => if k.eqb k' then some (.cst k') else none
 | .ptr b o, .ptr b' o' => if bTo mB b b' && o == o' then some (.ptr b o) else none
 | .own l, .own l' => if isTo mO l l' then some (.own l) else none
 | .own l, .cst .sl => if isNil mO l then some (.own l) else none
 | .ept l o sz, .ept l' i o' sz' => if isTo mO l l' && o == o' && sz == sz' then some (.ept l i o sz) else none
 | .rpt ts, .rpt ps => if C9 ts ps then some (.rpt ps) else none
 | .rpt ts, .ptr b k => if !bx.contains b then none else (Ae s b).bind fun ls => (Er ((ls.drop k).take ts.length)).bind fun ps => if C9 ts ps then some (.rpt ps) else none
 | .fn f a c, .fn f' a' c' => if f == f' && Pg mB a a' && Pg mB c c' then some (.fn f a c) else none
 | .ifc t ts g, .ifc t' ps g' => if t == t' && g == g' && C9 ts ps then some (.ifc t ps g) else none
 | .err, .err b => some (.err b)
 | .err, .cst .ifc => some (.err true)
 | .err, .ifc _ _ _ => some (.err false)
 | .bld b t, .bld b' t' z => if bTo mB b b' && t == t' then some (.bld b t z) else none
 | .sb b n, .sb b' n' => if bTo mB b b' && n == n' then some (.sb b n) else none
 | .ifp t b o, .ifp t' b' o' => if bTo mB b b' && o == o' && t == t' then some (.ifp t b o) else none
 | .erp t ts, .erp z t' ps => if t == t' && C9 ts ps then some (.erp z t ps) else none
 | .erp t ts, .cst .ifc => some (.erp true t (dflPs ts))
 | .erp t ts, .ifp t' b k => if !(bx.contains b && t == t') then none else (Ae s b).bind fun ls => (Er ((ls.drop k).take ts.length)).bind fun ps => if C9 ts ps then some (.erp false t ps) else none
 | .orp ts, .orp z ps => if C9 ts ps then some (.orp z ps) else none
 | .orp ts, .cst .ptr => some (.orp true (dflPs ts))
 | .rro l, .rro i n l' => if isTo mO l l' then some (.rro i n l) else none
 | .rrp l, .rrp l' => if isTo mO l l' then some (.rrp l) else none
 | _, _ => none
def coLs (s : St) (br bx : List Nat) (mB : List Nat) (mO : List (Option Nat)) : List SL → List L → Option (List L)
 | [], [] => some []
 | k :: r, l :: q => (coL s br bx mB mO k l).bind fun a => (coLs s br bx mB mO r q).bind fun b => some (a :: b)
 | _, _ => none
def coA (s : St) (br bx : List Nat) (mB : List Nat) (mO : List (Option Nat)) : SA → AV → Option AV
 | .dead, _ => some .dead
 | .lf k, .cv (.lf l) => (coL s br bx mB mO k l).map fun x => .cv (.lf x)
 | .agg ks, .cv (.agg ls) => (coLs s br bx mB mO ks ls).map fun x => .cv (.agg x)
 | _, _ => none
def coAs (s : St) (br bx : List Nat) (mB : List Nat) (mO : List (Option Nat)) : List SA → List AV → Option (List AV)
 | [], [] => some []
 | k :: r, l :: q => (coA s br bx mB mO k l).bind fun a => (coAs s br bx mB mO r q).bind fun b => some (a :: b)
 | _, _ => none
def coBs (s : St) (br bx : List Nat) (mB : List Nat) (mO : List (Option Nat)) : List (List SL) → List Nat → Option (List (Option (List L)))
 | [], [] => some []
 | k :: r, b :: q => (Ae s b).bind fun ls => (coLs s br bx mB mO k ls).bind fun a => (coBs s br bx mB mO r q).bind fun c => some (some a :: c)
 | _, _ => none
def coOs (s : St) : List (Option (Nat × Ty)) → List (Option Nat) → Option (List (Option Own))
 | [], [] => some []
 | some x :: r, some l :: q => (Aa s l).bind fun o => if o.e == x.1 && decide (o.t = x.2) then (coOs s r q).bind fun c => some (some o :: c) else none
 | some x :: r, none :: q => if 0 < x.2.size then (coOs s r q).bind fun c => some (some ⟨x.1, x.2, []⟩ :: c) else none
 | none :: r, _ :: q => (coOs s r q).bind fun c => some (none :: c)
 | _, _ => none
def conP : List (Nat × Nat) → List (Nat × Nat) → List (Nat × Nat)
 | a :: r, b :: s => (a.1, b.1) :: conP r s
 | _, _ => []
def conB : SL → L → List (Nat × Nat)
 | .ptr b _, .ptr b' _ => [(b, b')]
 | .fn _ a c, .fn _ a' c' => conP a a' ++ conP c c'
 | .bld b _, .bld b' _ _ => [(b, b')]
 | .sb b _, .sb b' _ => [(b, b')]
 | .ifp _ b _, .ifp _ b' _ => [(b, b')]
 | _, _ => []
def conO : SL → L → List (Nat × Option Nat)
 | .own l, .own l' => [(l, some l')]
 | .own l, .cst .sl => [(l, none)]
 | .ept l _ _, .ept l' _ _ _ => [(l, some l')]
 | .rro l, .rro _ _ l' => [(l, some l')]
 | .rrp l, .rrp l' => [(l, some l')]
 | _, _ => []
def Hv : List SA → List AV → List (SL × L)
 | .lf k :: r, .cv (.lf l) :: q => (k, l) :: Hv r q
 | .agg ks :: r, .cv (.agg ls) :: q => ks.zip ls ++ Hv r q
 | _ :: r, _ :: q => Hv r q
 | _, _ => []
def Qh (s : St) : List (List SL) → Nat → List (Nat × Nat) → List (SL × L) → List (Nat × Nat) × List (SL × L)
 | [], _, mb, zs => (mb, zs)
 | k :: r, b, mb, zs =>
  match (Ae s (look b mb b)) with
  | some ls => Qh s r (b + 1) (mb ++ (k.zip ls).flatMap fun x => conB x.1 x.2) (zs ++ k.zip ls)
  | none => Qh s r (b + 1) mb zs
def Bz : List Nat → Bool
 | [] => true
 | a :: r => !r.contains a && Bz r
def somes : List (Option Nat) → List Nat
 | [] => []
 | some a :: r => a :: somes r
 | none :: r => somes r
def brOf : List (SL × L) → List Nat
 | [] => []
 | (.pv _, .own l) :: r => if (brOf r).contains l then brOf r else l :: brOf r
 | _ :: r => brOf r
def bxOf : List (SL × L) → List Nat
 | [] => []
 | (.rpt _, .ptr b _) :: r => if (bxOf r).contains b then bxOf r else b :: bxOf r
 | (.erp _ _, .ifp _ b _) :: r => if (bxOf r).contains b then bxOf r else b :: bxOf r
 | _ :: r => bxOf r
def disj (a b : List Nat) : Bool := a.all fun x => !b.contains x
structure Co where
 s : St
 br : List Nat
 bx : List Nat
 mB : List Nat
 mO : List (Option Nat)
def Aai (k : Sk) (s : St) (n : Nat) (br bx mB : List Nat) (mO : List (Option Nat)) : Option Co :=
 if Bz mB && Bz (somes mO) && disj br (somes mO) && disj bx mB then
  (coAs s br bx mB mO k.slots s.slots).bind fun a => (coBs s br bx mB mO k.boxes mB).bind fun b => (coOs s k.owns mO).bind fun c =>
   some ⟨⟨a, b ++ List.replicate (n - b.length) none, c ++ List.replicate (n - c.length) none⟩, br, bx, mB, mO⟩
 else none
def Aah (k : Sk) (s : St) (n : Nat) : List (Nat × Nat) × List (SL × L) → Option Co
 | (mb, zs) => Aai k s n (brOf zs) (bxOf zs) ((List.range k.boxes.length).map fun b => look b mb b) ((List.range k.owns.length).map fun l => match k.owns[l]? with | some (some _) => look (some l) (zs.flatMap fun x => conO x.1 x.2) l | _ => none)
def co (k : Sk) (s : St) (n : Nat) : Option Co :=
 Aah k s n (Qh s k.boxes 0 ((Hv k.slots s.slots).flatMap fun x => conB x.1 x.2) (Hv k.slots s.slots))
structure Sig where
 kin : Sk
 kout : Sk
 f : Fun1
structure Cfg where
 P : Program
 env : Nat → List Sig
 n : Nat
 npB : Nat
 npO : Nat
 hint : Nat → Option Sk := fun _ => none
 pops : List Nat := []
 bl : List Nat := []
 ef : List (Nat × ((List Nat × List Nat) × (List Nat × List Nat))) := []
 ld : List (Nat × Nat) := []
 sr : List (Nat × Nat) := []
 rb : List Nat := []
def G7 (P : Program) (S f : Nat) : Option (Nat × Nat) :=
 match P.underlying S with
 | some (.struct fs) => (fs[f]?).bind fun x => (Ay P x.type).bind fun n => if n = 0 then none else some (x.offset, x.type)
 | _ => none
def isU8 (P : Program) (e : Nat) : Bool := match P.underlying e with | some (.int .u8) => true | _ => false
def F2 (P : Program) (t : Nat) : Bool := match P.underlying t with | some .string => true | _ => false
def Gg (P : Program) (e : Nat) : Bool := match P.info? e with | some i => (match i.zero with | some (.int .u8 n) => decide (n = 0) | _ => false) && (decide (i.bytes = 1) && decide (i.size = 1)) | none => false
def isIfc (P : Program) (t : Nat) : Bool := match P.underlying t with | some (.interface _) => true | none => true | _ => false
def pvs (ps : List PL) : List L := ps.map .pv
def A9f (P : Program) (e : Nat) : Option Nat := ((P.info? e).bind fun i => i.zero).map fun z => z.cells.size
def Bi (P : Program) (e : Nat) : Option Ty := (tyOf P A89 e).bind fun t => if Ay P e = some t.size ∧ 0 < t.size ∧ A9f P e = some t.size then some t else none
def B8 (P : Program) (t : Nat) : Nat := ((P.info? t).map fun i => i.bytes).getD 0
def Bd (s : St) (n : Nat) : L → Option (List L)
 | .ptr b o => (Ae s b).bind fun ls => if o + n ≤ ls.length then some ((ls.drop o).take n) else none
 | .rpt ps => if n ≤ ps.length then some (pvs (ps.take n)) else none
 | .ept l i o sz => (Aa s l).bind fun w => if o + n ≤ w.t.size then some (pvs (((flat w.t (rdD w.t w.xs i)).drop o).take n)) else none
 | .rrp l => if n = 1 then some [.own l] else none
 | _ => none
def Ai : AV → Option L
 | .cv (.lf l) => some l
 | _ => none
def int1 : AV → Option Int
 | .cv (.lf (.pv ⟨.int _, n⟩)) => some n
 | _ => none
def Cd : AV → Option Bool
 | .cv (.lf (.pv ⟨.bool, b⟩)) => some b
 | _ => none
def inB (i : Int) (n : Nat) : Bool := decide (0 ≤ i) && decide (i < (n : Int))
def cutB (lo hi : Int) (n : Nat) : Bool := decide (0 ≤ lo) && (decide (lo ≤ hi) && decide (hi ≤ (n : Int)))
def cutL {α : Type} (xs : List α) (lo hi : Int) : List α := (xs.take hi.toNat).drop lo.toNat
def A4 (s : St) (d : Int) : Option Operand → Option Int
 | none => some d
 | some x => int1 (s.get x)
def splice (ls : List L) (o : Nat) (new : List L) : List L := ls.take o ++ new ++ ls.drop (o + new.length)
def Dw (fs : Nat → Option (Nat × Nat)) (ls : List L) : List (Nat × List L) → Option (List L)
 | [] => some ls
 | (i, new) :: r => (fs i).bind fun x => if x.2 = new.length ∧ x.1 + new.length ≤ ls.length then Dw fs (splice ls x.1 new) r else none
def Bl (s : St) : List (Nat × Operand) → Option (List (Nat × List L))
 | [] => some []
 | (i, x) :: r => (Cj (s.get x)).bind fun ls => (Bl s r).map fun q => (i, ls) :: q
def Cz (s : St) : List Operand → Option (List (Nat × Nat))
 | [] => some []
 | x :: r => match Ai (s.get x) with
  | some (.ptr b o) => (Cz s r).map fun q => (b, o) :: q
  | _ => none
def minI (x y : Int) : Int := if y < x then y else x
def maxI (x y : Int) : Int := if y > x then y else x
def min2P (p q : PL) : Option PL :=
 match p, q with
 | ⟨.int k, x⟩, ⟨.int k', y⟩ => if k = k' then some ⟨.int k, minI x y⟩ else none
 | _, _ => none
def max2P (p q : PL) : Option PL :=
 match p, q with
 | ⟨.int k, x⟩, ⟨.int k', y⟩ => if k = k' then some ⟨.int k, maxI x y⟩ else none
 | _, _ => none
def Nd (f : PL → PL → Option PL) : PL → List AV → Option PL
 | p, [] => some p
 | p, .cv (.lf (.pv q)) :: r => (f p q).bind fun x => Nd f x r
 | _, _ => none
def Hm (s : St) (l : Nat) : Option (List Int) := (Aa s l).bind fun o => asTy (.slice (.int .u8)) ⟨.slice o.t, o.xs⟩
def A5o (P : Program) (t : Nat) : Option (Nat → Option (Nat × Nat)) :=
 match P.underlying t with
 | some (.struct fs) => (fs.toList.mapM fun f => (P.info? f.type).map fun i => (f.offset, i.size)).map fun ps i => ps.toArray[i]?
 | some (.array _ e) => (P.info? e).map fun ie i => some (i * ie.size, ie.size)
 | _ => none
def opV (P : Program) (s : St) (op : Op) : Oc AV :=
 match op with
 | .move x => .ok (s.get x)
 | .assign x => .ok (s.get x)
 | .pick c a b => match Cd (s.get c) with
  | some c => .ite c (.ok (s.get a)) (.ok (s.get b))
  | none => .fail
 | .build t ps => match Bo P t, Bl s ps.toList, A5o P t with
  | some z, some q, some f => .ofOption ((Dw f z q).map fun ls => .cv (.agg ls))
  | _, _, _ => .fail
 | .load t a => match Ai (s.get a), Ay P t with
  | some l, some n => if (P.underlying t).isSome then .ofOption ((Bd s n l).bind fun ls => mkAV (By P t) ls) else .fail
  | _, _ => .fail
 | .nilCheck x => match Ai (s.get x) with
  | some (.ptr b o) => .ok (lf (.ptr b o))
  | some (.rpt ps) => .ok (lf (.rpt ps))
  | some (.ept l i o z) => .ok (lf (.ept l i o z))
  | some (.fn f a c) => .ok (lf (.fn f a c))
  | some (.orp z ps) => .guard (!z) (.ok (lf (.rpt ps)))
  | _ => .fail
 | .binOp op ty x y _ => match Ai (s.get x), Ai (s.get y) with
  | some a, some b => match nilI P ty a y, op with
   | some r, .eql => .ok (lf (pvB r))
   | some r, .neq => .ok (lf (pvB !r))
   | _, _ => (Qz P ty op a b).bind fun r => .ok (lf r)
  | _, _ => match s.get x, s.get y, op with
   | .cv (.agg xs), .cv (.agg ys), .eql => .ofOption ((eqSt P ty xs ys).map fun r => lf (pvB r))
   | .cv (.agg xs), .cv (.agg ys), .neq => .ofOption ((eqSt P ty xs ys).map fun r => lf (pvB !r))
   | _, _, _ => .fail
 | .unOp op _ x => match Ai (s.get x) with
  | some (.pv p) => .ofOption ((unOc op p).map fun r => lf (.pv r))
  | _ => .fail
 | .convert a b x => match P.underlying a, P.underlying b, Ai (s.get x) with
  | some (.int _), some (.int k), some (.pv ⟨.int _, n⟩) => .ok (lf (pvI k (k.wrap n)))
  | some .string, some .string, some (.pv ⟨.str, q⟩) => .ok (lf (pvS q))
  | some (.slice e), some .string, some (.pv ⟨.slice (.int .u8), q⟩) => if isU8 P e then .ok (lf (pvS q)) else .fail
  | some (.slice e), some .string, some (.own l) => if isU8 P e then (match Hm s l with | some q => .ok (lf (pvS q)) | none => .fail) else .fail
  | some .string, some (.slice e), some (.pv ⟨.str, q⟩) => if isU8 P e then .ok (lf (pvL (.int .u8) q)) else .fail
  | _, _, _ => .fail
 | .makeInterface t x => if isIfc P t then .fail else match s.get x with
  | .cv (.lf (.ptr b o)) => .ok (lf (.ifp t b o))
  | .cv (.lf l) => .ofOption ((Er [l]).map fun ps => lf (.ifc t ps false))
  | .cv (.agg ls) => .ofOption ((Er ls).map fun ps => lf (.ifc t ps true))
  | _ => .fail
 | .makeFunc (.func f) first caps => match Cz s first.toList, Cz s caps.toList with
  | some a, some c => .ok (lf (.fn f a c))
  | _, _ => .fail
 | .fieldAddr S x f => match G7 P S f, Ai (s.get x) with
  | some (k, _), some (.ptr b o) => .ok (lf (.ptr b (o + k)))
  | some (k, _), some (.rpt ps) => .ok (lf (.rpt (ps.drop k)))
  | some (k, _), some (.ept l i o z) => .ok (lf (.ept l i (o + k) z))
  | _, _ => .fail
 | .field S x f => match G7 P S f, s.get x with
  | some (k, t), .cv (.agg ls) => match Ay P t with
   | some n => if k + n ≤ ls.length ∧ (P.underlying t).isSome then .ofOption (mkAV (By P t) ((ls.drop k).take n)) else .fail
   | none => .fail
  | _, _ => .fail
 | .indexAddr T x i => match P.underlying T, Ai (s.get x), int1 (s.get i) with
  | some (.slice e), some (.own l), some i => match Aa s l with
   | some w => if Ay P e = some w.t.size then .guard (inB i w.xs.length) (.ok (lf (.ept l i.toNat 0 w.t.size))) else .fail
   | none => .fail
  | some (.slice e), some (.pv ⟨.slice t, xs⟩), some i => if Ay P e = some t.size then .guard (inB i (List.length xs)) (.ok (lf (.rpt (flat t (rdD t xs i.toNat))))) else .fail
  | some (.slice e), some (.rro k _ l), some i => if Ay P e = some 1 then .guard (decide (i = (k : Int))) (.ok (lf (.rrp l))) else .fail
  | some (.slice e), some (.sb b n), some i => match Ay P e with
   | some z => .guard (inB i n) (.ok (lf (.ptr b (i.toNat * z))))
   | none => .fail
  | some (.array m e), some (.ptr b o), some i => match Ay P e with
   | some n => .guard (inB i m) (.ok (lf (.ptr b (o + i.toNat * n))))
   | none => .fail
  | _, _, _ => .fail
 | .index T x i => match P.underlying T, Ai (s.get x), int1 (s.get i) with
  | some .string, some (.pv ⟨.str, q⟩), some i => .guard (inB i (List.length q)) (.ok (lf (pvI .u8 (rdI q i.toNat))))
  | _, _, _ => .fail
 | .extract t i => match s.get t with
  | .tup cs => match cs[i]? with
   | some c => .ok (.cv c)
   | none => .fail
  | _ => .fail
 | .slice T x lo hi none => match P.underlying T, Ai (s.get x) with
  | some .string, some (.pv ⟨.str, q⟩) => match A4 s 0 lo, A4 s (List.length q) hi with
   | some a, some b => .guard (cutB a b (List.length q)) (.ok (lf (pvS (cutL q a b))))
   | _, _ => .fail
  | some (.slice e), some (.pv ⟨.slice t, xs⟩) => match A4 s 0 lo, A4 s (List.length xs) hi with
   | some a, some b => if Ay P e = some t.size then .guard (cutB a b (List.length xs)) (.ok (lf (pvL t (cutL xs a b)))) else .fail
   | _, _ => .fail
  | _, _ => .fail
 | .call { callee := .builtin .len, args := as, argTypes := ts } => match ts[0]?.bind P.underlying, as[0]?.bind fun x => Ai (s.get x) with
  | some .string, some (.pv ⟨.str, q⟩) => .ok (lf (pvI .i64 (List.length q)))
  | some (.slice _), some (.pv ⟨.slice _, q⟩) => .ok (lf (pvI .i64 (List.length q)))
  | some (.slice _), some (.own l) => match Aa s l with
   | some w => .ok (lf (pvI .i64 w.xs.length))
   | none => .fail
  | some (.slice _), some (.cst .sl) => .ok (lf (pvI .i64 0))
  | some (.slice _), some (.sb _ n) => if n ≤ 16777216 then .ok (lf (pvI .i64 n)) else .fail
  | _, _ => .fail
 | .call { callee := .builtin .min, args := as, argTypes := _ } => match as.toList.map s.get with
  | .cv (.lf (.pv p)) :: r => .ofOption ((Nd min2P p r).map fun x => lf (.pv x))
  | _ => .fail
 | .call { callee := .builtin .max, args := as, argTypes := _ } => match as.toList.map s.get with
  | .cv (.lf (.pv p)) :: r => .ofOption ((Nd max2P p r).map fun x => lf (.pv x))
  | _ => .fail
 | _ => .fail
def Fg (s : St) (d : Nat) (ls : List L) : Oc St :=
 if Bq s (N0 + d) then .ok ((At s (N0 + d) ls).put (some d) (lf (.ptr (N0 + d) 0))) else .fail
def K4 (bl : List Nat) (t n : Nat) (s : St) : St :=
 if bl.contains t then (match Ae s n with | some (.cst .ptr :: r) => At s n (.bld n t true :: r) | _ => s) else s
def Gk (bl : List Nat) (t : Nat) (s : St) (d : Nat) (ls : List L) : Oc St := (Fg s d ls).bind fun s' => .ok (K4 bl t (N0 + d) s')
def Br (s : St) (d : Nat) (o : Own) : Oc St :=
 if Ch s (N0 + d) then .ok ((Al s (N0 + d) (some o)).put (some d) (lf (.own (N0 + d)))) else .fail
def Ep (s : St) (t : Ty) : List (Nat × List L) → List t.den → Option (List t.den)
 | [], xs => some xs
 | (i, ls) :: r, xs => if i < xs.length then (datum s t ls).bind fun x => Ep s t r (xs.set i x) else none
def Cb (P : Program) (e : Nat) (m n : Nat) : Bool := decide ((m + n) * B8 P e ≤ 140737488355328) && decide (m + n ≤ maxLen)
def Do (s : St) (t : Ty) : L → Option (List t.den)
 | .pv p => asTy (.slice t) p
 | .own l => (Aa s l).bind fun o => asTy (.slice t) ⟨.slice o.t, o.xs⟩
 | .cst .sl => some []
 | _ => none
def Fj (P : Program) (s : St) (d e : Nat) (a b : L) : Oc St :=
 match Bi P e with
 | none => .fail
 | some t => match a with
  | .own l => match Aa s l with
   | some w => if w.e = e then
     (match asTy (.slice t) ⟨.slice w.t, w.xs⟩, Do s t b with
     | some xs, some ys => .guard (Cb P e (List.length xs) ys.length) (Br (D7 s l) d ⟨e, t, List.append xs ys⟩)
     | _, _ => .fail)
    else .fail
   | none => .fail
  | .cst .sl => match Do s t b with
   | some ys => .guard (Cb P e 0 ys.length) (Br s d ⟨e, t, ys⟩)
   | none => .fail
  | _ => .fail
def Hr (rB : List Nat) : List (Nat × Nat) → Option (List (Nat × Nat))
 | [] => some []
 | x :: r => (rB[x.1]?).bind fun b => (Hr rB r).map fun q => (b, x.2) :: q
def renL (o : St) (rB rO : List Nat) : L → L
 | .ptr b k => match rB[b]? with | some b' => .ptr b' k | none => .dead
 | .own l => match Aa o l, rO[l]? with | some _, some l' => .own l' | _, _ => .dead
 | .ept l i k z => match Aa o l, rO[l]? with | some _, some l' => .ept l' i k z | _, _ => .dead
 | .fn f a c => match Hr rB a, Hr rB c with | some a', some c' => .fn f a' c' | _, _ => .dead
 | .bld b t z => match rB[b]? with | some b' => .bld b' t z | none => .dead
 | .sb b n => match rB[b]? with | some b' => .sb b' n | none => .dead
 | .ifp t b o => match rB[b]? with | some b' => .ifp t b' o | none => .dead
 | .rro _ _ _ => .dead
 | .rrp _ => .dead
 | l => l
def Cf (base stride : Nat) : List (Option Nat) → Nat → List Nat
 | [], _ => []
 | some l :: r, c => l :: Cf base stride r c
 | none :: r, c => (base + c * stride) :: Cf base stride r (c + 1)
def Cy : Ty → Bool
 | .slice _ => false
 | .cons a b => Cy a && Cy b
 | _ => true
def Nc : L → Bool
 | .pv p => Cy p.t
 | .rpt _ => false
 | .ifc _ ps _ => ps.all fun p => Cy p.t
 | .erp _ _ _ => false
 | .orp _ _ => false
 | _ => true
def Bj (s : St) : Bool := s.all Nc && s.owns.all fun o => match o with | some o => Cy o.t | none => true
def Bv (s o : St) (f : L → L) : Nat → List Nat → St
 | _, [] => s
 | i, b :: r => Bv { s with boxes := s.boxes.set b ((Ae o i).map (List.map f)) } o f (i + 1) r
def B7 (s o : St) : Nat → List Nat → St
 | _, [] => s
 | i, l :: r => B7 (Al s l (Aa o i)) o (i + 1) r
def chkB (s : St) : List (Option Nat) → List Nat → Bool
 | [], [] => true
 | some b :: r, x :: q => x == b && chkB s r q
 | none :: r, x :: q => Bq s x && decide (N0 ≤ x) && chkB s r q
 | _, _ => false
def chkO (s : St) : List (Option Nat) → List Nat → Bool
 | [], [] => true
 | some b :: r, x :: q => x == b && chkO s r q
 | none :: r, x :: q => Ch s x && decide (N0 ≤ x) && chkO s r q
 | _, _ => false
def chkT (s o : St) : Nat → List (Option Nat) → Bool
 | _, [] => true
 | i, some l :: r => (match Aa o i with | some x => (match Aa s l with | some y => decide (y.t = x.t) | none => false) | none => true) && chkT s o (i + 1) r
 | i, none :: r => chkT s o (i + 1) r
def Gb : List AV → Option AV
 | [a] => some a
 | l => (l.foldr (fun a r => match a with | .cv c => r.map fun q => c :: q | _ => none) (some [])).map .tup
def Cl (s : St) (o : St) (d : Nat) (oB oO : List (Option Nat)) (rB rO : List Nat) : Option St :=
 if chkB s oB rB && chkO s oO rO && chkT s o 0 oO && Bz rB && Bz rO then
  (Gb (o.slots.map (AV.map (renL o rB rO)))).map fun v => (B7 (Bv s o (renL o rB rO) 0 rB) o 0 rO).put (some d) v
 else none
def back (s : St) (c : Co) (o : St) (d : Nat) (nb no : Nat) : Option St :=
 let oB := c.mB.map some ++ List.replicate (nb - c.mB.length) none
 let oO := c.mO ++ List.replicate (no - c.mO.length) none
 if !c.bx.isEmpty && !Bj o then none else
 Cl (if c.br.isEmpty || Bj o then s else Bb s c.br) o d oB oO (Cf (N0 + d) s.slots.length oB 0) (Cf (N0 + d) s.slots.length oO 0)
def backG (s : St) (c : Co) (o : St) (d : Nat) (nb no : Nat) (rB rO : List Nat) : Option St :=
 let oB := c.mB.map some ++ List.replicate (nb - c.mB.length) none
 let oO := c.mO ++ List.replicate (no - c.mO.length) none
 if !c.bx.isEmpty && !Bj o then none else
 Cl (if c.br.isEmpty || Bj o then s else Bb s c.br) o d oB oO rB rO
def findF (ok : Nat → Bool) (base stride : Nat) : Nat → Nat → Nat × Nat
 | 0, c => (base + c * stride, c)
 | n + 1, c => if ok (base + c * stride) then (base + c * stride, c) else findF ok base stride n (c + 1)
def Qw (ok : Nat → Bool) (base stride : Nat) : List (Option Nat) → Nat → List Nat
 | [], _ => []
 | some l :: r, c => l :: Qw ok base stride r c
 | none :: r, c => match findF ok base stride 64 c with
  | (x, c') => x :: Qw ok base stride r (c' + 1)
def Qx (s : St) (c : Co) (o : St) (d : Nat) (nb no : Nat) : Option St :=
 backG s c o d nb no (Qw (fun b => match s.boxes[b]? with | some none => true | _ => false) (N0 + s.slots.length) 1 (c.mB.map some ++ List.replicate (nb - c.mB.length) none) 0) (Qw (fun l => (s.owns.getD l none).isNone) (N0 + s.slots.length) 1 (c.mO ++ List.replicate (no - c.mO.length) none) 0)
def Dt (s : St) (d : Nat) (args : List AV) : List Sig → Oc St
 | [] => .fail
 | g :: r => if g.f.pan.isSome then Dt s d args r else match co g.kin { s with slots := args } (max g.kin.boxes.length g.kin.owns.length) with
  | some c => match dec g.kin c.s with
   | some ps => .call g.f ps fun q => .ofOption (back s c (enc g.kout (max g.kout.boxes.length g.kout.owns.length) q) d g.kout.boxes.length g.kout.owns.length)
   | none => Dt s d args r
  | none => Dt s d args r
def flatC : Ty → Bool
 | .int _ => true
 | .bool => true
 | .str => true
 | _ => false
def p0T : P0 → Ty
 | .int k _ => .int k
 | .bool _ => .bool
 | .str _ => .str
def Wm : List Ty → List P0 → Bool
 | [], [] => true
 | t :: r, p :: q => decide (p0T p = t) && Wm r q
 | _, _ => false
def Ln (T : Nat) : AnyV → Bool
 | .mk t _ _ => t == T
 | .nil => false
def Y7 (g : Bool) (ts : List Ty) : AnyV → Bool
 | .mk _ g' ps => g == g' && Wm ts ps
 | .nil => false
def anyI (i : Nat) : AnyV → Int
 | .mk _ _ ps => match ps[i]? with | some (.int _ n) => n | _ => 0
 | .nil => 0
def anyB (i : Nat) : AnyV → Bool
 | .mk _ _ ps => match ps[i]? with | some (.bool b) => b | _ => false
 | .nil => false
def anyS (i : Nat) : AnyV → List Int
 | .mk _ _ ps => match ps[i]? with | some (.str s) => s | _ => []
 | .nil => []
def anyAt : (t : Ty) → Nat → AnyV → t.den
 | .int _, i, x => anyI i x
 | .bool, i, x => anyB i x
 | .str, i, x => anyS i x
 | t, _, _ => t.dflt
def anyLs (x : AnyV) : List Ty → Nat → List L
 | [], _ => []
 | t :: r, i => .pv ⟨t, anyAt t i x⟩ :: anyLs x r (i + 1)
def cvLs (g : Bool) (ls : List L) : Option CV :=
 if g then some (.agg ls) else match ls with | [l] => some (.lf l) | _ => none
def Qk (P : Program) (T : Nat) : Option CV :=
 ((P.info? T).bind fun i => i.zero).bind fun v => match v with
  | .agg cs => if cs.toList.all Value.oneCell' then some (.agg (cs.toList.map A0)) else none
  | .tuple _ => none
  | v => if v.oneCell' then some (.lf (A0 v)) else none
def F5 (P : Program) (T : Nat) : Bool := match P.underlying T with | some (.interface _) => false | some _ => true | none => false
def Qv (P : Program) (s : St) (T : Nat) : L → Oc AV
 | .pv ⟨.any, a⟩ => match tyOf P A89 T, Qk P T with
  | some t, some z => if F5 P T && (E7 t).all flatC then
    .ite (Ln T a) (.guard (Y7 (By P T) (E7 t) a) (.ofOption ((cvLs (By P T) (anyLs a (E7 t) 0)).map fun c => .tup [c, .lf (pvB true)]))) (.ok (.tup [z, .lf (pvB false)]))
   else .fail
  | _, _ => .fail
 | .ifc n ps g => match Qk P T with
  | some z => if F5 P T then (if n = T then .ofOption ((cvLs g (ps.map .pv)).map fun c => .tup [c, .lf (pvB true)]) else .ok (.tup [z, .lf (pvB false)])) else .fail
  | none => .fail
 | .cst .ifc => match Qk P T with
  | some z => if F5 P T then .ok (.tup [z, .lf (pvB false)]) else .fail
  | none => .fail
 | _ => .fail
def V8 (s : St) : L → Bool
 | .pv ⟨.slice _, _⟩ => true
 | .own l => (Aa s l).isSome
 | .cst .sl => true
 | _ => false
def Aae (P : Program) (s : St) (l e : Nat) : Oc St :=
 match Aa s l, Bi P e, Bo P e with
 | some q, some te, some z => match datum s te z with
  | some x => match asTy q.t ⟨te, x⟩ with
   | some x' => if q.e = e then .ok (Al s l (some ⟨q.e, q.t, List.replicate q.xs.length x'⟩)) else .fail
   | none => .fail
  | none => .fail
 | _, _, _ => .fail
def Aak (P : Program) (s : St) (d : Option Nat) (l e : Nat) (b : L) : Oc St :=
 match Aa s l with
 | some q => match Do s q.t b with
  | some ys => if q.e = e ∧ Ay P e = some q.t.size ∧ q.t.size = 1 then .ok ((Al s l (some ⟨q.e, q.t, List.append (List.take q.xs.length ys) (List.drop (List.length ys) q.xs)⟩)).put d (lf (pvI .i64 (min (List.length ys) q.xs.length : Nat)))) else .fail
  | none => .fail
 | none => .fail
def opE (C : Cfg) (s : St) (dst : Option Nat) (op : Op) : Oc St :=
 match op, dst with
 | .slice T x lo (some hi) (some mx), some d => match Ai (s.get x), A1 C.P T, A4 s 0 lo, int1 (s.get hi), int1 (s.get mx) with
  | some l, some e, some p, some q, some r => match Bi C.P e with
   | some te => if V8 s l && (decide (p = 0) && (decide (q = 0) && decide (r = 0))) then Br s d ⟨e, te, []⟩ else .fail
   | none => .fail
  | _, _, _, _, _ => .fail
 | .typeAssert x _ T true, some d => match Ai (s.get x) with
  | some l => (Qv C.P s T l).bind fun v => .ok (s.put (some d) v)
  | none => .fail
 | .alloc t, some d => match Bo C.P t with
  | some ls => Gk C.bl t s d ls
  | none => .fail
 | .box t x, some d => match Cj (s.get x) with
  | some ls => Gk C.bl t s d ls
  | none => .fail
 | .store t a x, none => match Ai (s.get a), Cj (s.get x), Ay C.P t with
  | some (.ptr b o), some new, some n => match Ae s b with
   | some ls => if new.length = n ∧ o + n ≤ ls.length then .ok (At s b (splice ls o new)) else .fail
   | none => .fail
  | some (.ept l i o z), some new, some n => match Aa s l with
   | some w => if new.length = n ∧ o + n ≤ w.t.size then
     (match Fd s ((E7 w.t).drop o |>.take n) new with
     | some ps => match unflat w.t ((flat w.t (rdD w.t w.xs i)).take o ++ ps ++ (flat w.t (rdD w.t w.xs i)).drop (o + n)) with
      | some (x, []) => if (A7 new).contains l then .fail else .ok (Al (Bb s (A7 new)) l (some ⟨w.e, w.t, w.xs.set i x⟩))
      | _ => .fail
     | none => .fail)
    else .fail
   | none => .fail
  | _, _, _ => .fail
 | .buildSlice t len ps, some d => match A1 C.P t with
  | some e => match Bi C.P e, Bl s ps.toList, Bo C.P e with
   | some te, some q, some z => match datum s te z with
    | some x => match Ep s te q (List.replicate len x) with
     | some xs => if len * te.size ≤ 16777216 then Br (Bb s (q.flatMap fun x => A7 x.2)) d ⟨e, te, xs⟩ else .fail
     | none => .fail
    | none => .fail
   | _, _, _ => .fail
  | none => .fail
 | .makeSlice t l c, some d => match A1 C.P t, int1 (s.get l), int1 (s.get c) with
  | some e, some n, some m => match Bi C.P e, Bo C.P e with
   | some te, some z => match datum s te z with
    | some x => .guard (decide (0 ≤ n) && decide (n = m) && decide ((B8 C.P e : Int) * n ≤ 140737488355328) && decide (n ≤ 9223372036854775807)) (Br s d ⟨e, te, List.replicate n.toNat x⟩)
    | none => .fail
   | _, _ => .fail
  | _, _, _ => .fail
 | .slice T x lo hi none, some d => match Ai (s.get x) with
  | some (.own l) => match A1 C.P T, Aa s l with
   | some e, some w => match A4 s 0 lo, A4 s w.xs.length hi with
    | some a, some b => if Ay C.P e = some w.t.size then
      (if C.pops.contains d then
       (match lo with
       | none => .guard (cutB a b w.xs.length && decide (0 < w.xs.length)) (Br (D7 s l) d ⟨w.e, w.t, w.xs.take b.toNat⟩)
       | some _ => .fail)
      else .guard (cutB a b w.xs.length) (.ok ((frz s l).put (some d) (lf (pvL w.t (cutL w.xs a b))))))
     else .fail
    | _, _ => .fail
   | _, _ => .fail
  | _ => (opV C.P s op).bind fun v => .ok (s.put dst v)
 | .convert a b x, some d => match Ai (s.get x) with
  | some (.own l) => if a = b then
    (match A1 C.P a, Aa s l with
    | some e, some w => if isU8 C.P e then .guard (decide (0 < w.xs.length)) (.ok ((frz s l).put (some d) (lf (pvL w.t w.xs)))) else .fail
    | _, _ => .fail)
   else (opV C.P s op).bind fun v => .ok (s.put dst v)
  | _ => (opV C.P s op).bind fun v => .ok (s.put dst v)
 | .call { callee := .builtin .append, args := as, argTypes := ts }, some d => match as.toList, ts.toList with
  | [a, b], [t, u] => if t = u then
    (match Ai (s.get a), Ai (s.get b), A1 C.P t with
    | some a, some b, some e => Fj C.P s d e a b
    | _, _, _ => .fail)
   else if F2 C.P u then
    (match Ai (s.get a), Ai (s.get b), A1 C.P t with
    | some a, some (.pv ⟨.str, y⟩), some e => if Gg C.P e then Fj C.P s d e a (pvL (.int .u8) y) else .fail
    | _, _, _ => .fail)
   else .fail
  | _, _ => .fail
 | .call { callee := .value f, args := as, argTypes := ts }, some d => match Ai (s.get f) with
  | some (.fn g first caps) => Dt s d (first.map (fun x => lf (.ptr x.1 x.2)) ++ as.toList.map s.get ++ caps.map (fun x => lf (.ptr x.1 x.2))) (C.env g)
  | _ => .fail
 | .call { callee := .builtin .clear, args := as, argTypes := ts }, none => match as.toList, ts.toList with
  | [x], [T] => match Ai (s.get x), A1 C.P T with
   | some (.own l), some e => Aae C.P s l e
   | _, _ => .fail
  | _, _ => .fail
 | .call { callee := .builtin .copy, args := as, argTypes := ts }, d => match as.toList, ts.toList with
  | [x, y], [T, U] => match Ai (s.get x), Ai (s.get y), A1 C.P T with
   | some (.own l), some b, some e => Aak C.P s d l e b
   | _, _, _ => .fail
  | _, _ => .fail
 | _, _ => (opV C.P s op).bind fun v => .ok (s.put dst v)
def isV : Op → Bool
 | .move _ => true
 | .assign _ => true
 | .pick _ _ _ => true
 | .build _ _ => true
 | .load _ _ => true
 | .nilCheck _ => true
 | .binOp _ _ _ _ _ => true
 | .unOp _ _ _ => true
 | .convert _ _ _ => true
 | .makeInterface _ _ => true
 | .makeFunc _ _ _ => true
 | .fieldAddr _ _ _ => true
 | .field _ _ _ => true
 | .indexAddr _ _ _ => true
 | .index _ _ _ => true
 | .extract _ _ => true
 | .slice _ _ _ _ _ => true
 | .call { callee := .builtin .len, args := _, argTypes := _ } => true
 | .call { callee := .builtin .min, args := _, argTypes := _ } => true
 | .call { callee := .builtin .max, args := _, argTypes := _ } => true
 | .call { callee := .value _, args := _, argTypes := _ } => true
 | _ => false
def A6 : Op → Bool
 | .call { callee := .value _, args := _, argTypes := _ } => true
 | _ => false
def backV (c : Co) (g : Sig) (o : St) : Option AV :=
 if g.kin.boxes.isEmpty && g.kin.owns.isEmpty && g.kout.boxes.isEmpty && g.kout.owns.isEmpty && ((c.br.isEmpty && c.bx.isEmpty) || Bj o) then Gb (o.slots.map (AV.map (renL o [] []))) else none
def Cg (s : St) (args : List AV) : List Sig → Oc AV
 | [] => .fail
 | g :: r => if g.f.pan.isSome then Cg s args r else match co g.kin { s with slots := args } (max g.kin.boxes.length g.kin.owns.length) with
  | some c => match dec g.kin c.s with
   | some ps => .call g.f ps fun q => .ofOption (backV c g (enc g.kout (max g.kout.boxes.length g.kout.owns.length) q))
   | none => Cg s args r
  | none => Cg s args r
def Sig.plain (g : Sig) : Bool := g.kout.boxes.isEmpty && g.kout.owns.isEmpty
def opVD (C : Cfg) (s : St) (op : Op) : Oc AV :=
 match op with
 | .call { callee := .value f, args := as, argTypes := _ } => match Ai (s.get f) with
  | some (.fn g first caps) => Cg s (first.map (fun x => lf (.ptr x.1 x.2)) ++ as.toList.map s.get ++ caps.map (fun x => lf (.ptr x.1 x.2))) ((C.env g).filter Sig.plain)
  | _ => .fail
 | op => opV C.P s op
def O7 : Op → Bool
 | .buildSlice _ _ _ => true
 | .call { callee := .builtin .append, args := _, argTypes := _ } => true
 | _ => false
def Ky : AV → Bool
 | .tup [] => true
 | _ => false
def Am (f : St → Option Nat → Op → Oc St) (all : Array Oper) (s : St) (o : Oper) : Oc St :=
 match o.guard with
 | none => f s o.dst o.op
 | some (j, want) => match (all[j]?).bind (·.dst) with
  | some g => match Cd (s.get (.tmp g)) with
   | some c =>
    let t := s.put (some g) (lf (pvB true))
    let n := s.put (some g) (lf (pvB false))
    if want then .ite c (f t o.dst o.op) (.ok (n.put o.dst (.tup []))) else .ite c (.ok (t.put o.dst (.tup []))) (f n o.dst o.op)
   | none => if Ky (s.get (.tmp g)) then .ok (s.put o.dst (.tup [])) else .fail
  | none => .fail
def opsK (f : St → Option Nat → Op → Oc St) (all : Array Oper) {R : Type} : List Oper → St → (St → Option R) → Option R
 | [], s, K => K s
 | o :: r, s, K => (Am f all s o).runK fun s' => opsK f all r s' K
inductive XE where
 | normal | exit (id : Nat) | ret | pan (t : Nat) (ps : List PL) (g : Bool)
def flat1 : Ty → Bool
 | .int _ => true
 | .bool => true
 | .str => true
 | _ => false
def En (bs os : List Nat) (l : L) : L := if (bs.all fun n => l.noB n) && (os.all fun n => l.noO n) then l else .dead
def B6 (s : St) (bs os : List Nat) : St :=
 {slots := s.slots.map (AV.map (En bs os))
  boxes := (List.range s.boxes.length).map fun b => if bs.contains b then none else (Ae s b).map (List.map (En bs os))
  owns := (List.range s.owns.length).map fun l => if os.contains l then none else Aa s l }
def Lt (s : St) (d : Nat) (args : List AV) : List Sig → Oc (XE × St)
 | [] => .fail
 | g :: r => match co g.kin { s with slots := args } (max g.kin.boxes.length g.kin.owns.length) with
  | some c => match dec g.kin c.s with
   | some ps => match g.f.pan with
    | none => .call g.f ps fun q => (Oc.ofOption (Qx s c (enc g.kout (max g.kout.boxes.length g.kout.owns.length) q) d g.kout.boxes.length g.kout.owns.length)).bind fun s' => .ok (.normal, s')
    | some (.pan pt _ pg) => .call g.f ps fun q => match q with
     | ⟨.bool, false⟩ :: q => (Oc.ofOption (Qx s c (enc g.kout (max g.kout.boxes.length g.kout.owns.length) q) d g.kout.boxes.length g.kout.owns.length)).bind fun s' => .ok (.normal, s')
     | ⟨.bool, true⟩ :: q => .ok (.pan pt q pg, B6 s c.mB (somes c.mO))
     | _ => .fail
    | some (.two k2) => .call g.f ps fun q => match q with
     | ⟨.bool, false⟩ :: q => (Oc.ofOption (Qx s c (enc g.kout (max g.kout.boxes.length g.kout.owns.length) q) d g.kout.boxes.length g.kout.owns.length)).bind fun s' => .ok (.normal, s')
     | ⟨.bool, true⟩ :: q => (Oc.ofOption (Qx s c (enc k2 (max k2.boxes.length k2.owns.length) q) d k2.boxes.length k2.owns.length)).bind fun s' => .ok (.normal, s')
     | _ => .fail
   | none => Lt s d args r
  | none => Lt s d args r
def Fl (C : Cfg) (s : St) (t len : Nat) (ps : List (Nat × Operand)) (d : Nat) : Oc St :=
 match A1 C.P t with
 | some e => match Bl s ps, Bo C.P e with
  | some q, some [z] => match Dw (fun i => some (i * 1, 1)) (List.replicate len z) q with
   | some ls => if Bq s (N0 + d) && (decide (len ≤ 16777216) && (decide (0 < len) && decide (Ay C.P e = some 1))) then .ok ((At s (N0 + d) ls).put (some d) (lf (.sb (N0 + d) len))) else .fail
   | none => .fail
  | _, _ => .fail
 | none => .fail
def opP (C : Cfg) (s : St) (dst : Option Nat) (op : Op) : Oc (XE × St) :=
 match op, dst with
 | .panic x, _ => match Ai (s.get x) with
  | some (.ifc t ps g) => if ps.all fun p => flat1 p.t then .ok (.pan t ps g, s) else .fail
  | _ => .fail
 | .call { callee := .value f, args := as, argTypes := ts }, some d => match Ai (s.get f) with
  | some (.fn g first caps) => Lt s d (first.map (fun x => lf (.ptr x.1 x.2)) ++ as.toList.map s.get ++ caps.map (fun x => lf (.ptr x.1 x.2))) (C.env g)
  | _ => .fail
 | .buildSlice t len ps, some d => if ((A1 C.P t).bind (Bi C.P)).isSome then (opE C s dst op).bind fun s' => .ok (.normal, s') else (Fl C s t len ps.toList d).bind fun s' => .ok (.normal, s')
 | _, _ => (opE C s dst op).bind fun s' => .ok (.normal, s')
def operP (C : Cfg) (all : Array Oper) (s : St) (o : Oper) : Oc (XE × St) :=
 match o.guard with
 | none => opP C s o.dst o.op
 | some (j, want) => match (all[j]?).bind (·.dst) with
  | some g => match Cd (s.get (.tmp g)) with
   | some c =>
    let t := s.put (some g) (lf (pvB true))
    let n := s.put (some g) (lf (pvB false))
    if want then .ite c (opP C t o.dst o.op) (.ok (.normal, n.put o.dst (.tup []))) else .ite c (.ok (.normal, t.put o.dst (.tup []))) (opP C n o.dst o.op)
   | none => if Ky (s.get (.tmp g)) then .ok (.normal, s.put o.dst (.tup [])) else .fail
  | none => .fail
def goP {R : Type} (f : St → Option R) (K : XE → St → Option R) (x : XE × St) : Option R :=
 match x.1 with
 | .normal => f x.2
 | e => K e x.2
section
variable {R : Type}
def frcL (l : L) (K : L → R) : R :=
 match l with
 | .dead => K .dead
 | .pv p => (match p with | ⟨t, x⟩ => K (.pv ⟨t, x⟩))
 | .cst k => K (.cst k)
 | .ptr b o => K (.ptr b o)
 | .own l => K (.own l)
 | .ept l i o z => K (.ept l i o z)
 | .rpt ps => K (.rpt ps)
 | .fn f a c => K (.fn f a c)
 | .ifc t ps g => K (.ifc t ps g)
 | .err b => K (.err b)
 | .bld b t z => K (.bld b t z)
 | .sb b n => K (.sb b n)
 | .ifp t b o => K (.ifp t b o)
 | .erp z t ps => K (.erp z t ps)
 | .orp z ps => K (.orp z ps)
 | .rro i n l => K (.rro i n l)
 | .rrp l => K (.rrp l)
def frcR {α : Type} (f : α → (α → R) → R) : List α → (List α → R) → R
 | [], K => K []
 | a :: l, K => f a fun a' => frcR f l fun r => K (a' :: r)
def frcC (c : CV) (K : CV → R) : R :=
 match c with
 | .lf l => frcL l fun l => K (.lf l)
 | .agg ls => frcR frcL ls fun ls => K (.agg ls)
def frcA (a : AV) (K : AV → R) : R :=
 match a with
 | .dead => K .dead
 | .cv c => frcC c fun c => K (.cv c)
 | .tup cs => frcR frcC cs fun cs => K (.tup cs)
def frcB (a : Option (List L)) (K : Option (List L) → R) : R :=
 match a with
 | none => K none
 | some ls => frcR frcL ls fun ls => K (some ls)
def frcO (a : Option Own) (K : Option Own → R) : R :=
 match a with
 | none => K none
 | some o => (match o with | ⟨e, t, xs⟩ => K (some ⟨e, t, xs⟩))
def T2 (s : St) (K : St → R) : R := frcR frcA s.slots fun a => frcR frcB s.boxes fun b => frcR frcO s.owns fun c => K ⟨a, b, c⟩
theorem Aie (l : L) (K : L → R) : frcL l K = K l := by cases l <;> rfl
theorem Jy {α : Type} {f : α → (α → R) → R} (h : ∀ a K, f a K = K a) (l : List α) (K : List α → R) : frcR f l K = K l := by
 induction l generalizing K with
 | nil => rfl
 | cons a l ih =>
  show f a (fun a' => frcR f l fun r => K (a' :: r)) = _
  rw [h, ih]
theorem Az7 (c : CV) (K : CV → R) : frcC c K = K c := by
 cases c with
 | lf l => exact Aie l fun l => K (.lf l)
 | agg ls => exact Jy Aie ls fun ls => K (.agg ls)
theorem frcA_eq (a : AV) (K : AV → R) : frcA a K = K a := by
 cases a with
 | dead => rfl
 | cv c => exact Az7 c fun c => K (.cv c)
 | tup cs => exact Jy Az7 cs fun cs => K (.tup cs)
theorem frcB_eq (a : Option (List L)) (K : Option (List L) → R) : frcB a K = K a := by
 cases a with
 | none => rfl
 | some ls => exact Jy Aie ls fun ls => K (some ls)
theorem frcO_eq (a : Option Own) (K : Option Own → R) : frcO a K = K a := by cases a <;> rfl
theorem Bfz (s : St) (K : St → R) : T2 s K = K s := by
 unfold T2
 rw [Jy frcA_eq, Jy frcB_eq, Jy frcO_eq]
end
def opsP (C : Cfg) (all : Array Oper) {R : Type} : List Oper → St → (XE → St → Option R) → Option R
 | [], s, K => K .normal s
 | o :: r, s, K => (operP C all s o).runK (goP (fun s' => bif A6 o.op then T2 s' (fun s' => opsP C all r s' K) else opsP C all r s' K) K)
def Dg : Code → Option Nat
 | .region id _ _ => some id
 | .seq a _ => Dg a
 | .block _ b => Dg b
 | .loop b => Dg b
 | .scope b => Dg b
 | _ => none
def fixB (n : Nat) (l : List Nat) : Bool := (List.range n).all fun i => l.getD i (i + 1) == i
def fixO (n : Nat) (l : List (Option Nat)) (os : List (Option (Nat × Ty))) : Bool :=
 (List.range n).all fun i => (match os.getD i none with | none => true | some _ => (match l.getD i none with | some j => j == i | none => false))
def norm {R : Type} (C : Cfg) (c : Code) (s : St) (K : St → Option R) : Option R :=
 match (Dg c).bind C.hint with
 | none => K s
 | some k => match co k s C.n with
  | some x => if fixB C.npB x.mB && fixO C.npO x.mO k.owns then K x.s else none
  | none => none
def Bf {R : Type} (F : (St → Option R) → St → Option R) : Nat → St → Option R
 | 0, _ => none
 | k + 1, s => F (Bf F k) s
def insN (x : Nat) (l : List Nat) : List Nat := if l.contains x then l else x :: l
def Qn : List Nat → List Nat → List Nat
 | [], l => l
 | x :: r, l => Qn r (insN x l)
def Lm (acc : List (List Nat)) : List Edge → List Nat
 | [] => []
 | e :: r => if Region.binds .any e then insN e.on (Qn (acc.getD e.on []) (Lm acc r)) else Lm acc r
def ancs : List Oper → List (List Nat) → List (List Nat)
 | [], acc => acc
 | o :: r, acc => ancs r (acc ++ [Lm acc o.after.toList])
def Rv : List Oper → Nat → Bool
 | [], _ => true
 | o :: r, i => o.after.toList.all (fun e => !Region.binds .any e || decide (e.on < i)) && Rv r (i + 1)
def Bk {α : Type} : List (Nat × α) → Nat → Option α
 | [], _ => none
 | (k, v) :: r, i => if k = i then some v else Bk r i
inductive KK where
 | no | call | store | alloc | row | boxr | mks
def kkd (C : Cfg) (dst : Option Nat) (op : Op) : KK :=
 match op, dst with
 | .call { callee := .value _, args := _, argTypes := _ }, some d => if (Bk C.ef d).isSome then .call else .no
 | .store _ (.tmp n) _, none => if (Bk C.sr n).isSome then .store else .no
 | .alloc _, some _ => .alloc
 | .buildSlice _ _ _, some d => if C.rb.contains d then .boxr else .row
 | .makeSlice _ _ _, some _ => .mks
 | .call { callee := .builtin .append, args := _, argTypes := _ }, some _ => .row
 | _, _ => .no
def kk (C : Cfg) (o : Oper) : KK := kkd C o.dst o.op
def ldL (r : Nat) : L → Bool
 | .ptr b _ => b == r
 | .rpt _ => true
 | _ => false
def ptL : L → Bool
 | .ptr _ _ => true
 | .rpt _ => true
 | _ => false
def ldOk (C : Cfg) (s : St) (dst : Option Nat) (op : Op) : Bool :=
 match op, dst with
 | .load _ a, some d => (match Bk C.ld d with | some r => (match Ai (s.get a) with | some l => ldL r l | none => false) | none => true)
 | .nilCheck a, some d => (match Bk C.ld d with | some _ => (match Ai (s.get a) with | some l => ptL l | none => false) | none => true)
 | .fieldAddr _ a _, some d => (match Bk C.ld d with | some _ => (match Ai (s.get a) with | some l => ptL l | none => false) | none => true)
 | _, _ => true
def subN (a b : List Nat) : Bool := a.all fun x => b.contains x
def C7 : List (Option Nat) → List Nat → List Nat
 | none :: r, x :: q => x :: C7 r q
 | some _ :: r, _ :: q => C7 r q
 | _, _ => []
def okK (n d : Nat) (o : List (Option Nat)) (W M : List Nat) : Bool := subN (Cf (N0 + d) n o 0) (W ++ M) && subN (C7 o (Cf (N0 + d) n o 0)) M
def Qy (s : St) (c : Co) (o : St) (d : Nat) (nb no : Nat) (W : (List Nat × List Nat) × (List Nat × List Nat)) : Option St :=
 if (c.br.isEmpty || Bj o) && (okK s.slots.length d (c.mB.map some ++ List.replicate (nb - c.mB.length) none) W.1.1 W.2.1 && okK s.slots.length d (c.mO ++ List.replicate (no - c.mO.length) none) W.1.2 W.2.2) then back s c o d nb no else none
def Cm (s : St) (d : Nat) (args : List AV) (W : (List Nat × List Nat) × (List Nat × List Nat)) : List Sig → Oc St
 | [] => .fail
 | g :: r => if g.f.pan.isSome then Cm s d args W r else match co g.kin { s with slots := args } (max g.kin.boxes.length g.kin.owns.length) with
  | some c => match dec g.kin c.s with
   | some ps => .call g.f ps fun q => .ofOption (Qy s c (enc g.kout (max g.kout.boxes.length g.kout.owns.length) q) d g.kout.boxes.length g.kout.owns.length W)
   | none => Cm s d args W r
  | none => Cm s d args W r
def opK2 (C : Cfg) (s : St) (dst : Option Nat) (op : Op) : Oc St :=
 match op, dst with
 | .call { callee := .value f, args := as, argTypes := _ }, some d => match Ai (s.get f), Bk C.ef d with
  | some (.fn g first caps), some W => Cm s d (first.map (fun x => lf (.ptr x.1 x.2)) ++ as.toList.map s.get ++ caps.map (fun x => lf (.ptr x.1 x.2))) W (C.env g)
  | _, _ => .fail
 | _, _ => .fail
def opK3 (C : Cfg) (s : St) (op : Op) : Oc St :=
 match op with
 | .store t (.tmp n) x => match Bk C.sr n, Ai (s.get (.tmp n)) with
  | some b, some (.ptr b' o) => if b' = b then opE C s none (.store t (.tmp n) x) else .fail
  | _, _ => .fail
 | _ => .fail
def opK4 (C : Cfg) (s : St) (dst : Option Nat) (op : Op) : Oc St :=
 match op, dst with
 | .alloc t, some d => if C.bl.contains t then .fail else match Bo C.P t with
  | some ls => Fg s d ls
  | none => .fail
 | _, _ => .fail
def opDn (C : Cfg) (s : St) (dst : Option Nat) (op : Op) : Oc St :=
 if isV op then (if A6 op && dst.isNone then .fail else if ldOk C s dst op then (opVD C s op).bind fun v => .ok (s.put dst v) else .fail) else opE C s dst op
def opD (C : Cfg) (s : St) (dst : Option Nat) (op : Op) : Oc St :=
 match kkd C dst op with
 | .no => opDn C s dst op
 | .call => opK2 C s dst op
 | .store => opK3 C s op
 | .alloc => opK4 C s dst op
 | .row => opE C s dst op
 | .mks => opE C s dst op
 | .boxr => match op, dst with
  | .buildSlice t len ps, some d => Fl C s t len ps.toList d
  | _, _ => .fail
def mkB (C : Cfg) (o : Oper) : List Nat :=
 match kk C o, o.dst with
 | .call, some d => (match Bk C.ef d with | some W => W.2.1 | none => [])
 | .alloc, some d => [N0 + d]
 | .boxr, some d => [N0 + d]
 | _, _ => []
def mkO (C : Cfg) (o : Oper) : List Nat :=
 match kk C o, o.dst with
 | .call, some d => (match Bk C.ef d with | some W => W.2.2 | none => [])
 | .row, some d => [N0 + d]
 | .mks, some d => [N0 + d]
 | _, _ => []
def tB (C : Cfg) (o : Oper) : List Nat :=
 match kk C o, o.dst with
 | .call, some d => (match Bk C.ef d with | some W => W.1.1 ++ W.2.1 | none => [])
 | .alloc, some d => [N0 + d]
 | .boxr, some d => [N0 + d]
 | _, _ => []
def tO (C : Cfg) (o : Oper) : List Nat :=
 match kk C o, o.dst with
 | .call, some d => (match Bk C.ef d with | some W => W.1.2 ++ W.2.2 | none => [])
 | .row, some d => [N0 + d]
 | .mks, some d => [N0 + d]
 | _, _ => []
def isW (o : Oper) : Bool := isV o.op && (!(A6 o.op) || o.dst.isSome)
def isNo (C : Cfg) (o : Oper) : Bool := match kk C o with | .no => true | _ => false
def Eb (C : Cfg) (o : Oper) (bs : List Nat) : Bool :=
 match o.op, o.dst with
 | .load _ _, some d => (match Bk C.ld d with | some r => !bs.contains r | none => false)
 | .load _ _, none => false
 | _, _ => true
def isR : Op → Bool
 | .indexAddr _ _ _ => false
 | .convert _ _ _ => false
 | .slice _ _ _ _ _ => false
 | .load _ _ => false
 | .call _ => false
 | _ => true
def isPt (C : Cfg) (o : Oper) : Bool :=
 match o.op, o.dst with
 | .move _, some _ => true
 | .assign _, some _ => true
 | .load _ _, some d => (Bk C.ld d).isSome
 | .nilCheck _, some d => (Bk C.ld d).isSome
 | .fieldAddr _ _ _, some d => (Bk C.ld d).isSome
 | _, _ => false
def beside (C : Cfg) (y x : Oper) : Bool :=
 isNo C y && (isV y.op && (!A6 y.op && (match kk C x with
  | .no => false
  | .call => x.guard.isNone && ((isR y.op || (match y.op with | .load _ _ => true | _ => false)) && Eb C y (tB C x))
  | .store => x.guard.isNone && Eb C y (match x.op with | .store _ (.tmp n) _ => (match Bk C.sr n with | some b => [b] | none => []) | _ => [])
  | .alloc => x.guard.isNone
  | .mks => x.guard.isNone && ((isR y.op || (match y.op with | .load _ _ => true | _ => false)) && Eb C y (tB C x))
  | .row => x.guard.isNone && (y.guard.isNone && isPt C y)
  | .boxr => x.guard.isNone && Eb C y (tB C x))))
def twoAl (C : Cfg) (y x : Oper) : Bool := match kk C y, kk C x with | .alloc, .alloc => y.guard.isNone && x.guard.isNone | _, _ => false
def Q1 (C : Cfg) (y x : Oper) : Bool :=
 match kk C x, y.op, y.dst with
 | .alloc, .call { callee := .value (.func g), args := _, argTypes := _ }, some _ => isNo C y && (y.guard.isNone && (x.guard.isNone && ((C.env g).filter Sig.plain).all fun sg => sg.kin.boxes.isEmpty))
 | .mks, .call { callee := .value (.func g), args := _, argTypes := _ }, some _ => isNo C y && (y.guard.isNone && (x.guard.isNone && ((C.env g).filter Sig.plain).all fun sg => sg.kin.boxes.isEmpty && sg.kin.owns.isEmpty))
 | _, _, _ => false
def Ho (C : Cfg) (ops : Array Oper) (y x : Oper) : Bool := (((isNo C y && isW y) && (isNo C x && isW x)) || (beside C y x || (beside C x y || (twoAl C y x || (Q1 C y x || Q1 C x y))))) && y.apart ops x
def Dr (C : Cfg) (y x : Oper) : Bool := (!(isNo C y && !isV y.op) || ((mkB C x).isEmpty && (mkO C x).isEmpty)) && (disj (tB C y) (mkB C x) && disj (tO C y) (mkO C x))
def Wn (C : Cfg) (ops : Array Oper) (x : Oper) (an : List Nat) : List Oper → Nat → Bool
 | [], _ => true
 | y :: r, j => Dr C y x && (an.contains j || (Ho C ops y x && Dr C x y)) && Wn C ops x an r (j + 1)
def Wo (C : Cfg) (ops : Array Oper) (an : List (List Nat)) (done : List Oper) : List Oper → Nat → Bool
 | [], _ => true
 | x :: r, i => Wn C ops x (an.getD i []) done 0 && Wo C ops an (done ++ [x]) r (i + 1)
def commutes (C : Cfg) (ops : Array Oper) : Bool := Rv ops.toList 0 && Wo C ops (ancs ops.toList []) [] ops.toList 0
def clean (C : Cfg) (ops : Array Oper) (s : St) : St :=
 match ops.toList.flatMap (mkB C), ops.toList.flatMap (mkO C) with
 | [], [] => s
 | bs, os => B6 s bs os
def seqK {R : Type} (C : Cfg) (b : Code) (f : St → (XE → St → Option R) → Option R) (K : XE → St → Option R) : XE → St → Option R
 | .normal, s => norm C b s fun s => f s K
 | e, s => K e s
def blkK {R : Type} (id : Nat) (K : XE → St → Option R) : XE → St → Option R
 | .exit i, s => if i = id then K .normal s else K (.exit i) s
 | e, s => K e s
def F3 {R : Type} (C : Cfg) (b : Code) (rec : St → Option R) (K : XE → St → Option R) : XE → St → Option R
 | .normal, s => norm C b s rec
 | e, s => K e s
def Bh {R : Type} (C : Cfg) (b : Code) (f : St → (XE → St → Option R) → Option R) (K : XE → St → Option R) (rec : St → Option R) (s : St) : Option R := f s (F3 C b rec K)
def refine (s : St) (c : Operand) (b : Bool) : St := match c with | .tmp t => s.put (some t) (lf (pvB b)) | _ => s
def ev (C : Cfg) (k : Nat) {R : Type} : Code → St → (XE → St → Option R) → Option R
 | .skip, s, K => K .normal s
 | .region _ ops draw, s, K => if draw then (if commutes C ops then opsK (opD C) ops ops.toList (clean C ops s) (K .normal) else none) else opsP C ops ops.toList s K
 | .seq a b, s, K => ev C k a s (seqK C b (ev C k b) K)
 | .cond c x y, s, K => match Cd (s.get c) with
  | some b => bif b then ev C k x (refine s c true) K else ev C k y (refine s c false) K
  | none => none
 | .block id b, s, K => ev C k b s (blkK id K)
 | .loop b, s, K => norm C b s (Bf (Bh C b (ev C k b) K) k)
 | .exit id, s, K => K (.exit id) s
 | .ret, s, K => K .ret s
 | .label _, s, K => K .normal s
 | _, _, _ => none
def Wt (P : Program) (s : St) : ResultVar → Option AV
 | .tmp t => some (s.slots.getD t .dead)
 | .cell a t => (Ai (s.slots.getD a .dead)).bind fun l => (Ay P t).bind fun n => (Bd s n l).bind fun ls => if (P.underlying t).isSome then mkAV (By P t) ls else none
def Wu (P : Program) (s : St) : List ResultVar → Option (List AV)
 | [] => some []
 | r :: q => (Wt P s r).bind fun a => (Wu P s q).map fun b => a :: b
def finish (C : Cfg) (rs : Array ResultVar) (k : Sk) (s : St) : Option (HLs k.tys) :=
 (Wu C.P s rs.toList).bind fun as => (co k { s with slots := as } (max k.boxes.length k.owns.length)).bind fun c =>
  if fixB C.npB c.mB && fixO C.npO c.mO k.owns then (dec k c.s).bind fun ps => ofPL k.tys ps else none
def retK (C : Cfg) (rs : Array ResultVar) (k : Sk) : XE → St → Option (HLs k.tys)
 | .normal, s => finish C rs k s
 | .ret, s => finish C rs k s
 | _, _ => none
def retK2 (C : Cfg) (rs : Array ResultVar) (k k2 : Sk) : XE → St → Option (HLs k.tys ⊕ HLs k2.tys)
 | .normal, s => match finish C rs k s with | some y => some (.inl y) | none => (finish C rs k2 s).map .inr
 | .ret, s => match finish C rs k s with | some y => some (.inl y) | none => (finish C rs k2 s).map .inr
 | _, _ => none
inductive Step1 where
 | l | r | b | t | e
def Ad : Code → List Step1 → Code
 | c, [] => c
 | .seq a _, .l :: p => Ad a p
 | .seq _ b, .r :: p => Ad b p
 | .block _ b, .b :: p => Ad b p
 | .loop b, .b :: p => Ad b p
 | .scope b, .b :: p => Ad b p
 | .cond _ x _, .t :: p => Ad x p
 | .cond _ _ y, .e :: p => Ad y p
 | _, _ => .refuse ""
def Be (C : Cfg) (k : Nat) {R : Type} : Code → List Step1 → List Nat → (XE → St → Option R) → (XE → St → Option R)
 | _, [], _, K => K
 | .seq a b, .l :: p, ks, K => Be C k a p ks (seqK C b (ev C k b) K)
 | .seq _ b, .r :: p, ks, K => Be C k b p ks K
 | .block id b, .b :: p, ks, K => Be C k b p ks (blkK id K)
 | .loop b, .b :: p, j :: ks, K => Be C k b p ks (F3 C b (Bf (Bh C b (ev C k b) K) j) K)
 | .scope b, .b :: p, ks, K => Be C k b p ks K
 | .cond _ x _, .t :: p, ks, K => Be C k x p ks K
 | .cond _ _ y, .e :: p, ks, K => Be C k y p ks K
 | _, _, _, K => K
def evAt (C : Cfg) (k : Nat) {R : Type} (c : Code) (p : List Step1) (ks : List Nat) (K : XE → St → Option R) (s : St) : Option R :=
 ev C k (Ad c p) s (Be C k c p ks K)
def loopAt (C : Cfg) (k : Nat) {R : Type} (c : Code) (p : List Step1) (ks : List Nat) (j : Nat) (K : XE → St → Option R) (s : St) : Option R :=
 match Ad c p with
 | .loop b => Bf (Bh C b (ev C k b) (Be C k c p ks K)) j s
 | _ => none
def Au (f : Func) : Code := match f.body with | some c => c | none => .skip
def orP {α β γ : Type} (f : α → γ) (g : β → γ) : α ⊕ β → γ
 | .inl x => f x
 | .inr y => g y
def E2 (C : Cfg) (k : Nat) (f : Func) (kin kout k2 : Sk) (x : HLs kin.tys) : Option (HLs kout.tys ⊕ HLs k2.tys) :=
 ev C k (Au f) { enc kin C.n (toPL _ x) with slots := B3 kin.slots (toPL _ x) ++ List.replicate (f.ntmps - kin.slots.length) .dead } (retK2 C f.results kout k2)
def F4 (tin tout : List Ty) (k2 : Sk) (f : HLs tin → Option (HLs tout ⊕ HLs k2.tys)) : Fun1 where
 run R ps K := match ofPL tin ps with
  | some x => (f x).bind (orP (fun y => K (⟨.bool, false⟩ :: toPL tout y)) (fun y => K (⟨.bool, true⟩ :: toPL k2.tys y)))
  | none => none
 nat R ps K := by
  cases ofPL tin ps with
  | none => rfl
  | some x =>
   simp only [Option.bind_assoc]
   congr 1
   funext y
   cases y <;> rfl
 pan := some (.two k2)
def Ac (C : Cfg) (k : Nat) (f : Func) (kin kout : Sk) (x : HLs kin.tys) : Option (HLs kout.tys) :=
 ev C k (Au f) { enc kin C.n (toPL _ x) with slots := B3 kin.slots (toPL _ x) ++ List.replicate (f.ntmps - kin.slots.length) .dead } (retK C f.results kout)
def Ck (tin tout : List Ty) (f : HLs tin → Option (HLs tout)) : Fun1 where
 run R ps K := match ofPL tin ps with
  | some x => (f x).bind fun y => K (toPL tout y)
  | none => none
 nat R ps K := by
  cases ofPL tin ps with
  | none => rfl
  | some x => simp [Option.bind_assoc]
structure Gm where
 bx : Nat → Nat
 ow : Nat → Value
 et : Nat → Nat
 fx : List (Nat × Array Value) := []
def ptrV (G : Gm) (x : Nat × Nat) : Value := .pointer (some ⟨G.bx x.1, x.2, none⟩)
def RP (w : World) (ok : Nat → Prop) (ps : List PL) (v : Value) : Prop := ∃ a cs, v = .pointer (some a) ∧ a.spot = none ∧ ok a.block ∧ Cells w a cs ∧ All2 (RepL w ok) ps cs
theorem RP.one {w : World} {ok : Nat → Prop} {ps : List PL} {v : Value} (h : RP w ok ps v) : v.oneCell' = true := by
 obtain ⟨_, _, rfl, _⟩ := h; rfl
theorem RP.mono {w w' : World} {ok ok' : Nat → Prop} (h1 : ∀ k, ok k → ok' k ∧ w'.heap[k]? = w.heap[k]?) {ps : List PL} {v : Value} (h : RP w ok ps v) : RP w' ok' ps v := by
 obtain ⟨a, cs, e, hs, ho, hc, hr⟩ := h
 exact ⟨a, cs, e, hs, (h1 _ ho).1, hc.move (h1 _ ho).2, hr.imp fun _ _ h => h.mono h1⟩
def OwV (g v : Value) : Prop := v = g ∨ (g = .slice none 0 0 ∧ ∃ a, v = .slice (some a) 0 0)
def HL (G : Gm) (w : World) (ok : Nat → Prop) (os : List (Option Own)) : L → Value → Prop
 | .dead, v => v.oneCell' = true
 | .pv p, v => RepL w ok p v
 | .cst k, v => v = k.val
 | .ptr b o, v => v = .pointer (some ⟨G.bx b, o, none⟩)
 | .own l, v => OwV (G.ow l) v ∧ v.oneCell' = true
 | .ept l i o sz, v => ∃ g n c, G.ow l = .slice (some ⟨g, 0, none⟩) n c ∧ v = .pointer (some ⟨g, i * sz + o, none⟩) ∧ ∀ x, (os[l]?).bind id = some x → i < x.xs.length ∧ sz = x.t.size
 | .rpt ps, v => ∃ a cs, v = .pointer (some a) ∧ a.spot = none ∧ ok a.block ∧ Cells w a cs ∧ All2 (RepL w ok) ps cs
 | .fn f a c, v => v = .func (.func f) (a.map (ptrV G)).toArray (c.map (ptrV G)).toArray
 | .ifc t ps g, v => ∃ cs, All2 (RepL w ok) ps cs ∧ v = .iface t (if g then .agg cs.toArray else cs.headD undef)
 | .err b, v => if b then v = .nilIface else ∃ t x, v = .iface t x
 | .bld b t z, v => v = (if z then .pointer none else .pointer (some ⟨G.bx b, 0, none⟩)) ∧ G.et b = t
 | .sb b n, v => v = .slice (some ⟨G.bx b, 0, none⟩) n n
 | .ifp t b o, v => v = .iface t (.pointer (some ⟨G.bx b, o, none⟩))
 | .erp z t ps, v => if z then v = .nilIface else ∃ u, v = .iface t u ∧ RP w ok ps u
 | .orp z ps, v => if z then v = .pointer none else RP w ok ps v
 | .rro i n l, v => ∃ g cs c u, (g, cs) ∈ G.fx ∧ v = .slice (some ⟨g, 0, none⟩) n c ∧ i < n ∧ cs.size = c ∧ cs[i]? = some u ∧ OwV (G.ow l) u ∧ u.oneCell' = true
 | .rrp l, v => ∃ g cs i u, (g, cs) ∈ G.fx ∧ v = .pointer (some ⟨g, i, none⟩) ∧ cs[i]? = some u ∧ OwV (G.ow l) u ∧ u.oneCell' = true
def HC (R : L → Value → Prop) : CV → Value → Prop
 | .lf l, v => R l v
 | .agg ls, v => ∃ cs : Array Value, v = .agg cs ∧ All2 R ls cs.toList
def HA (R : L → Value → Prop) : AV → Value → Prop
 | .dead, _ => True
 | .cv c, v => HC R c v
 | .tup cs, v => ∃ vs : Array Value, v = .tuple vs ∧ All2 (HC R) cs vs.toList
theorem HL.one {G : Gm} {w : World} {ok : Nat → Prop} {os : List (Option Own)} {l : L} {v : Value} (h : HL G w ok os l v) : v.oneCell' = true := by
 cases l with
 | dead => exact h
 | pv p => exact RepL.one h
 | cst k => rw [show v = k.val from h]; cases k <;> rfl
 | ptr b o => rw [show v = _ from h]; rfl
 | own l => exact h.2
 | ept l i o sz => obtain ⟨_, _, _, _, rfl, _⟩ := h; rfl
 | rpt ps => obtain ⟨_, _, rfl, _⟩ := h; rfl
 | fn f a c => rw [show v = _ from h]; rfl
 | ifc t ps g => obtain ⟨_, _, rfl⟩ := h; rfl
 | err b => cases b with | true => rw [show v = .nilIface from h]; rfl | false => obtain ⟨_, _, rfl⟩ := h; rfl
 | bld b t z => rw [h.1]; cases z <;> rfl
 | sb b n => rw [show v = _ from h]; rfl
 | ifp t b o => rw [show v = _ from h]; rfl
 | erp z t ps => cases z with | true => rw [show v = .nilIface from h]; rfl | false => obtain ⟨u, rfl, _⟩ := (show ∃ u, v = .iface t u ∧ RP w ok ps u from h); rfl
 | orp z ps => cases z with | true => rw [show v = .pointer none from h]; rfl | false => exact RP.one (show RP w ok ps v from h)
 | rro i n l => obtain ⟨_, _, _, _, _, rfl, _⟩ := h; rfl
 | rrp l => obtain ⟨_, _, _, _, _, rfl, _⟩ := h; rfl
theorem HC.imp {R S : L → Value → Prop} (f : ∀ l v, R l v → S l v) {c : CV} {v : Value} (h : HC R c v) : HC S c v := by
 cases c with
 | lf l => exact f _ _ h
 | agg ls => obtain ⟨cs, rfl, h⟩ := h; exact ⟨cs, rfl, h.imp f⟩
theorem HA.imp {R S : L → Value → Prop} (f : ∀ l v, R l v → S l v) {a : AV} {v : Value} (h : HA R a v) : HA S a v := by
 cases a with
 | dead => trivial
 | cv c => exact HC.imp f h
 | tup cs => obtain ⟨vs, rfl, h⟩ := h; exact ⟨vs, rfl, h.imp fun _ _ h => HC.imp f h⟩
theorem HC.map {R S : L → Value → Prop} {g : L → L} (f : ∀ l v, R l v → S (g l) v) {c : CV} {v : Value} (h : HC R c v) : HC S (c.map g) v := by
 cases c with
 | lf l => exact f _ _ h
 | agg ls => obtain ⟨cs, rfl, h⟩ := h; exact ⟨cs, rfl, (h.imp f).map_left⟩
theorem HA.map {R S : L → Value → Prop} {g : L → L} (f : ∀ l v, R l v → S (g l) v) {a : AV} {v : Value} (h : HA R a v) : HA S (a.map g) v := by
 cases a with
 | dead => trivial
 | cv c => exact HC.map f h
 | tup cs =>
  obtain ⟨vs, rfl, h⟩ := h
  refine ⟨vs, rfl, ?_⟩
  exact All2.map_left (h.imp fun _ _ h => HC.map f h)
theorem HC.imp_all {R S : L → Value → Prop} {p : L → Bool} (f : ∀ l v, p l = true → R l v → S l v) {c : CV} {v : Value} (hp : c.leaves.all p = true) (h : HC R c v) : HC S c v := by
 cases c with
 | lf l => exact f _ _ (by simpa [CV.leaves] using hp) h
 | agg ls =>
  obtain ⟨cs, rfl, h⟩ := h
  exact ⟨cs, rfl, h.imp_mem fun a b ha hr => f a b (List.all_eq_true.1 hp a ha) hr⟩
theorem HA.imp_all {R S : L → Value → Prop} {p : L → Bool} (f : ∀ l v, p l = true → R l v → S l v) {a : AV} {v : Value} (hp : a.all p = true) (h : HA R a v) : HA S a v := by
 cases a with
 | dead => trivial
 | cv c => exact HC.imp_all f hp h
 | tup cs =>
  obtain ⟨vs, rfl, h⟩ := h
  exact ⟨vs, rfl, h.imp_mem fun a b ha hr => HC.imp_all f (List.all_eq_true.1 hp a ha) hr⟩
theorem HC.map_all {R S : L → Value → Prop} {g : L → L} {p : L → Bool} (f : ∀ l v, p (g l) = true → R l v → S (g l) v) {c : CV} {v : Value} (hp : (c.map g).leaves.all p = true) (h : HC R c v) : HC S (c.map g) v := by
 cases c with
 | lf l => exact f _ _ (by simpa [CV.leaves, CV.map] using hp) h
 | agg ls =>
  obtain ⟨cs, rfl, h⟩ := h
  refine ⟨cs, rfl, All2.map_left (h.imp_mem fun a b ha hr => f a b ?_ hr)⟩
  exact List.all_eq_true.1 hp _ (List.mem_map.2 ⟨a, ha, rfl⟩)
theorem HA.map_all {R S : L → Value → Prop} {g : L → L} {p : L → Bool} (f : ∀ l v, p (g l) = true → R l v → S (g l) v) {a : AV} {v : Value} (hp : (a.map g).all p = true) (h : HA R a v) : HA S (a.map g) v := by
 cases a with
 | dead => trivial
 | cv c => exact HC.map_all f hp h
 | tup cs =>
  obtain ⟨vs, rfl, h⟩ := h
  refine ⟨vs, rfl, All2.map_left (h.imp_mem fun a b ha hr => HC.map_all f ?_ hr)⟩
  exact List.all_eq_true.1 hp _ (List.mem_map.2 ⟨a, ha, rfl⟩)
def Live (s : St) (G : Gm) (k : Nat) : Prop := (∃ b ls, Ae s b = some ls ∧ G.bx b = k) ∨ (∃ l o, Aa s l = some o ∧ (G.ow l).ownBlock = some k)
def okS (F : Nat → Prop) (s : St) (G : Gm) (w : World) (k : Nat) : Prop := k < w.heap.size ∧ ¬ F k ∧ ¬ Live s G k
def HR (F : Nat → Prop) (s : St) (G : Gm) (w : World) : L → Value → Prop := HL G w (okS F s G w) s.owns
def TyAt (w : World) (k t : Nat) : Prop := ∀ cs et fr, w.heap[k]? = some (.cells cs et fr) → et = t
structure Holds (F : Nat → Prop) (s : St) (G : Gm) (vals : List Value) (w : World) : Prop where
 slots : All2 (HA (HR F s G w)) s.slots vals
 box : ∀ b ls, Ae s b = some ls → ∃ cs et, w.heap[G.bx b]? = some (.cells cs et (0, 0)) ∧ All2 (HR F s G w) ls cs.toList
 own : ∀ l o, Aa s l = some o → 0 < o.t.size ∧ ∃ cs, w.ownsRow 0 o.e o.t.size (G.ow l) o.xs.length cs ∧ RepRow w (okS F s G w) o.t o.xs cs
 bb : ∀ b b' ls ls', Ae s b = some ls → Ae s b' = some ls' → G.bx b = G.bx b' → b = b'
 bo : ∀ b ls l o, Ae s b = some ls → Aa s l = some o → (G.ow l).ownBlock ≠ some (G.bx b)
 oo : ∀ l l' o o' k, Aa s l = some o → Aa s l' = some o' → (G.ow l).ownBlock = some k → (G.ow l').ownBlock = some k → l = l'
 nF : ∀ k, Live s G k → ¬ F k
 Flt : ∀ k, F k → k < w.heap.size
 ty : ∀ b ls, Ae s b = some ls → TyAt w (G.bx b) (G.et b)
 gl : ∀ x ∈ gTab ++ G.fx, ¬ Live s G x.1 ∧ ∃ et fr, w.heap[x.1]? = some (.cells x.2 et fr)
theorem Holds.glOf {F : Nat → Prop} {s s' : St} {G G' : Gm} {vals : List Value} {w w' : World} (h : Holds F s G vals w) (hk : ∀ k, k < w.heap.size → ¬ Live s G k → w'.heap[k]? = w.heap[k]?)
  (hl : ∀ k, Live s' G' k → Live s G k ∨ w.heap.size ≤ k) (hfx : G'.fx = G.fx := by rfl) : ∀ x ∈ gTab ++ G'.fx, ¬ Live s' G' x.1 ∧ ∃ et fr, w'.heap[x.1]? = some (.cells x.2 et fr) := by
 intro x hx
 rw [hfx] at hx
 obtain ⟨h1, et, fr, h2⟩ := h.gl x hx
 have hlt : x.1 < w.heap.size := (Array.getElem?_eq_some_iff.1 h2).1
 refine ⟨fun hL => ?_, et, fr, by rw [hk x.1 hlt h1]; exact h2⟩
 rcases hl x.1 hL with h3 | h3
 ·exact h1 h3
 ·omega
theorem Holds.lt {F : Nat → Prop} {s : St} {G : Gm} {vals : List Value} {w : World} (h : Holds F s G vals w) {k : Nat} (hk : Live s G k) : k < w.heap.size := by
 rcases hk with ⟨b, ls, hb, rfl⟩ | ⟨l, o, ho, hk⟩
 ·obtain ⟨cs, et, hc, _⟩ := h.box b ls hb
  exact (Array.getElem?_eq_some_iff.1 hc).1
 ·obtain ⟨_, cs, hr, _⟩ := h.own l o ho
  exact (hr.lt k hk).2
structure Keeps (S : Nat → Prop) (w w' : World) : Prop where
 os : w'.os = w.os
 tape : w'.tape = w.tape
 output : w'.output = w.output
 size : w.heap.size ≤ w'.heap.size
 block : ∀ k, k < w.heap.size → ¬ S k → w'.heap[k]? = w.heap[k]?
theorem Keeps.refl (S : Nat → Prop) (w : World) : Keeps S w w := ⟨rfl, rfl, rfl, Nat.le_refl _, fun _ _ _ => rfl⟩
structure Step (nb no : Nat) (s : St) (G : Gm) (w : World) (s' : St) (G' : Gm) (w' : World) : Prop where
 keeps : Keeps (Live s G) w w'
 fresh : ∀ k, Live s' G' k → Live s G k ∨ w.heap.size ≤ k
 gb : ∀ b, b < nb → G'.bx b = G.bx b ∧ G'.et b = G.et b
 go : ∀ l, l < no → ∀ o, Aa s' l = some o → (∃ o', Aa s l = some o') ∧ G'.ow l = G.ow l
 fx : G'.fx = G.fx
theorem Step.refl (nb no : Nat) (s : St) (G : Gm) (w : World) : Step nb no s G w s G w :=
 ⟨Keeps.refl _ _, fun _ h => .inl h, fun _ _ => ⟨rfl, rfl⟩, fun _ _ o h => ⟨⟨o, h⟩, rfl⟩, rfl⟩
theorem Step.trans {nb no : Nat} {s s1 s2 : St} {G G1 G2 : Gm} {w w1 w2 : World} (h : Step nb no s G w s1 G1 w1) (h2 : Step nb no s1 G1 w1 s2 G2 w2) : Step nb no s G w s2 G2 w2 := by
 refine ⟨⟨h2.keeps.os.trans h.keeps.os, h2.keeps.tape.trans h.keeps.tape, h2.keeps.output.trans h.keeps.output, Nat.le_trans h.keeps.size h2.keeps.size, fun k hk hS => ?_⟩, fun k hk => ?_, fun b hb => ⟨(h2.gb b hb).1.trans (h.gb b hb).1, (h2.gb b hb).2.trans (h.gb b hb).2⟩, fun l hl o ho => ?_, h2.fx.trans h.fx⟩
 ·rw [h2.keeps.block k (Nat.lt_of_lt_of_le hk h.keeps.size) (fun hL => ?_), h.keeps.block k hk hS]
  rcases h.fresh k hL with h3 | h3
  ·exact hS h3
  ·omega
 ·rcases h2.fresh k hk with h3 | h3
  ·exact h.fresh k h3
  ·exact .inr (Nat.le_trans h.keeps.size h3)
 ·obtain ⟨⟨o1, h1⟩, e1⟩ := h2.go l hl o ho
  obtain ⟨ho', e2⟩ := h.go l hl o1 h1
  exact ⟨ho', e1.trans e2⟩
def Grew (w w' : World) : Prop := Keeps (fun _ => False) w w'
theorem Grew.refl (w : World) : Grew w w := Keeps.refl _ _
theorem Grew.block {w w' : World} (h : Grew w w') {k : Nat} (hk : k < w.heap.size) : w'.heap[k]? = w.heap[k]? := Keeps.block h k hk id
theorem Grew.trans {w w1 w2 : World} (h : Grew w w1) (h2 : Grew w1 w2) : Grew w w2 :=
 ⟨h2.os.trans h.os, h2.tape.trans h.tape, h2.output.trans h.output, Nat.le_trans h.size h2.size, fun k hk _ => (h2.block (Nat.lt_of_lt_of_le hk h.size)).trans (h.block hk)⟩
theorem Grew.alloc (w : World) (o : Obj) : Grew w (w.alloc o) := ⟨rfl, rfl, rfl, by simp, fun k hk _ => Below.heap_alloc _ _ _ hk⟩
theorem Grew.drew (w : World) : Grew w w.drew := ⟨rfl, rfl, rfl, Nat.le_refl _, fun _ _ _ => rfl⟩
theorem okS.grew {F : Nat → Prop} {s : St} {G : Gm} {w w' : World} (h : Grew w w') {k : Nat} (hk : okS F s G w k) : okS F s G w' k ∧ w'.heap[k]? = w.heap[k]? :=
 ⟨⟨Nat.lt_of_lt_of_le hk.1 h.size, hk.2⟩, h.block hk.1⟩
theorem HL.keep {G : Gm} {w w' : World} {ok ok' : Nat → Prop} {os os' : List (Option Own)} (h1 : ∀ k, ok k → ok' k ∧ w'.heap[k]? = w.heap[k]?)
  (h2 : ∀ (l : Nat) (x' : Own), (os'[l]?).bind id = some x' → ∃ x : Own, (os[l]?).bind id = some x ∧ x.xs.length ≤ x'.xs.length ∧ x.t.size = x'.t.size) {l : L} {v : Value} (h : HL G w ok os l v) : HL G w' ok' os' l v := by
 cases l with
 | dead => exact h
 | pv p => exact RepL.mono h1 h
 | cst k => exact h
 | ptr b o => exact h
 | own l => exact h
 | ept l i o sz =>
  obtain ⟨g, n, c, e, e2, e3⟩ := h
  refine ⟨g, n, c, e, e2, fun x' hx => ?_⟩
  obtain ⟨x, hx, hl, hs⟩ := h2 l x' hx
  have := e3 x hx
  exact ⟨by omega, by omega⟩
 | rpt ps =>
  obtain ⟨a, cs, e, hs, ho, hc, hr⟩ := h
  exact ⟨a, cs, e, hs, (h1 _ ho).1, hc.move (h1 _ ho).2, hr.imp fun _ _ h => h.mono h1⟩
 | fn f a c => exact h
 | ifc t ps g =>
  obtain ⟨cs, hr, e⟩ := h
  exact ⟨cs, hr.imp fun _ _ h => h.mono h1, e⟩
 | err b => exact h
 | bld b t z => exact h
 | sb b n => exact h
 | ifp t b o => exact h
 | erp z t ps => cases z with
  | true => exact h
  | false =>
   obtain ⟨u, e, hr⟩ := (show ∃ u, v = .iface t u ∧ RP w ok ps u from h)
   exact ⟨u, e, hr.mono h1⟩
 | orp z ps => cases z with
  | true => exact h
  | false => exact RP.mono h1 (show RP w ok ps v from h)
 | rro i n l => exact h
 | rrp l => exact h
theorem HR.grew {F : Nat → Prop} {s : St} {G : Gm} {w w' : World} (h : Grew w w') {l : L} {v : Value} (hl : HR F s G w l v) : HR F s G w' l v :=
 HL.keep (fun k hk => okS.grew h hk) (fun l x hx => ⟨x, hx, Nat.le_refl _, rfl⟩) hl
theorem Fb {w w' : World} {e : TypeId} {size : Nat} {v : Value} {n : Nat} {cs : List Value} (h : w.ownsRow 0 e size v n cs) (hk : ∀ k, v.ownBlock = some k → w'.heap[k]? = w.heap[k]?) : w'.ownsRow 0 e size v n cs := by
 obtain ⟨h1, h2⟩ := h
 refine ⟨h1, ?_⟩
 rcases h2 with h2 | ⟨g, cap, cur, rfl, hg, hh, r⟩
 ·exact .inl h2
 ·exact .inr ⟨g, cap, cur, rfl, hg, (hk g (by simp [Value.ownBlock])).trans hh, r⟩
theorem Holds.grew {F : Nat → Prop} {s : St} {G : Gm} {vals : List Value} {w w' : World} (h : Holds F s G vals w) (hg : Grew w w') : Holds F s G vals w' where
 slots := h.slots.imp fun _ _ ha => ha.imp fun _ _ hl => hl.grew hg
 box b ls hb := by
  obtain ⟨cs, et, hc, hl⟩ := h.box b ls hb
  exact ⟨cs, et, by rw [hg.block (Array.getElem?_eq_some_iff.1 hc).1]; exact hc, hl.imp fun _ _ hl => hl.grew hg⟩
 own l o ho := by
  obtain ⟨h0, cs, hr, he⟩ := h.own l o ho
  exact ⟨h0, cs, Fb hr (fun k hk => hg.block (hr.lt k hk).2), he.mono fun k hk => okS.grew hg hk⟩
 bb := h.bb
 bo := h.bo
 oo := h.oo
 nF := h.nF
 Flt k hk := Nat.lt_of_lt_of_le (h.Flt k hk) hg.size
 ty b ls hb cs et fr hc := by
  obtain ⟨cs2, et2, hc2, _⟩ := h.box b ls hb
  rw [hg.block (Array.getElem?_eq_some_iff.1 hc2).1] at hc
  exact h.ty b ls hb cs et fr hc
 gl := h.glOf (fun k hk _ => hg.block hk) fun k hk => .inl hk
theorem Step.grew {nb no : Nat} {s : St} {G : Gm} {w w' : World} (hg : Grew w w') : Step nb no s G w s G w' :=
 ⟨⟨hg.os, hg.tape, hg.output, hg.size, fun k hk _ => hg.block hk⟩, fun _ h => .inl h, fun _ _ => ⟨rfl, rfl⟩, fun _ _ o h => ⟨⟨o, h⟩, rfl⟩, rfl⟩
@[simp] theorem put_boxes (s : St) (d : Option Nat) (v : AV) : (s.put d v).boxes = s.boxes := by cases d <;> rfl
@[simp] theorem put_owns (s : St) (d : Option Nat) (v : AV) : (s.put d v).owns = s.owns := by cases d <;> rfl
@[simp] theorem put_boxAt (s : St) (d : Option Nat) (v : AV) (b : Nat) : Ae (s.put d v) b = Ae s b := by simp [Ae]
@[simp] theorem put_ownAt (s : St) (d : Option Nat) (v : AV) (b : Nat) : Aa (s.put d v) b = Aa s b := by simp [Aa]
@[simp] theorem put_Live (s : St) (d : Option Nat) (v : AV) (G : Gm) : Live (s.put d v) G = Live s G := by funext k; simp [Live]
@[simp] theorem put_okS (F : Nat → Prop) (s : St) (d : Option Nat) (v : AV) (G : Gm) (w : World) : okS F (s.put d v) G w = okS F s G w := by funext k; simp [okS]
@[simp] theorem put_HR (F : Nat → Prop) (s : St) (d : Option Nat) (v : AV) (G : Gm) (w : World) : HR F (s.put d v) G w = HR F s G w := by simp [HR]
theorem Holds.put {F : Nat → Prop} {s : St} {G : Gm} {a : Act} {w : World} (h : Holds F s G a.tmps.toList w) (d : Option Nat) {v : AV} {u : Value} (hv : HA (HR F s G w) v u) :
  Holds F (s.put d v) G (a.put d u).tmps.toList w where
 slots := by
  rw [put_HR]
  cases d with
  | none => exact h.slots
  | some d =>
   simp only [St.put, Act.put, Array.toList_setIfInBounds]
   exact h.slots.set d hv
 box := by simpa using h.box
 own := by simpa using h.own
 bb := by simpa using h.bb
 bo := by simpa using h.bo
 oo := by simpa using h.oo
 nF := by simpa using h.nF
 Flt := h.Flt
 ty := by simpa using h.ty
 gl := by simpa using h.gl
theorem Step.put {nb no : Nat} {s : St} {G : Gm} {w : World} (d : Option Nat) (v : AV) : Step nb no s G w (s.put d v) G w :=
 ⟨Keeps.refl _ _, fun k hk => .inl (by simpa using hk), fun _ _ => ⟨rfl, rfl⟩, fun l _ o h => ⟨⟨o, by simpa using h⟩, rfl⟩, rfl⟩
theorem Ex {G : Gm} {w : World} {ok : Nat → Prop} {os : List (Option Own)} (v : Value) (h1 : v.oneCell' = true) : HL G w ok os (A0 v) v := by
 unfold A0
 split
 ·split
  ·rename_i h; exact ⟨rfl, h⟩
  ·exact h1
 ·exact rfl
 ·split
  ·rename_i h; exact ⟨_, rfl, rfl, h⟩
  ·exact h1
 all_goals first | rfl | exact h1
section
variable {P : Program} {F : Nat → Prop} {s : St} {G : Gm} {a : Act} {w : World} {vals : List Value}
theorem Ey {R : L → Value → Prop} (hR : ∀ v, v.oneCell' = true → R (A0 v) v) : ∀ (l : List Value), (∀ u ∈ l, u.oneCell' = true) → All2 R (l.map A0) l
 | [], _ => .nil
 | u :: l, h => .cons (hR _ (h u (by simp))) (Ey hR l fun x hx => h x (by simp [hx]))
theorem Baz {R : L → Value → Prop} (hR : ∀ v, v.oneCell' = true → R (A0 v) v) (v : Value) : HA R (Md v) v := by
 unfold Md
 split
 ·rename_i cs
  split
  ·rename_i h
   exact ⟨cs, rfl, Ey hR _ fun u hu => List.all_eq_true.1 h u hu⟩
  ·trivial
 ·trivial
 ·rename_i h1 h2
  refine hR _ ?_
  cases v <;> first | rfl | exact absurd rfl (h1 _) | exact absurd rfl (h2 _)
theorem Bw (h : Holds F s G a.tmps.toList w) (x : Operand) : HA (HR F s G w) (s.get x) (a.eval x) := by
 cases x with
 | tmp t =>
  simp only [St.get, Act.eval]
  cases he : s.slots[t]? with
  | none => simp [List.getD, he]; trivial
  | some v =>
   obtain ⟨u, hu, hv⟩ := h.slots.get he
   have : a.tmps.getD t undef = u := by
    rw [Array.getElem?_toList] at hu
    simp [Array.getD_eq_getD_getElem?, hu]
   rw [this]
   rw [show s.slots.getD t .dead = v from by simp [List.getD, he]]
   exact hv
 | const v => exact Baz (fun u hu => Ex u hu) v
 | global g => trivial
 | func f => exact rfl
theorem Asa {v : Value} (h : v.oneCell' = true) : v.cells = #[v] := by cases v <;> first | rfl | cases h
theorem A4k {v : AV} {l : L} (h : Ai v = some l) : v = lf l := by
 unfold Ai at h
 split at h
 ·cases h; rfl
 ·cases h
theorem As (h : Holds F s G a.tmps.toList w) {x : Operand} {l : L} (hl : Ai (s.get x) = some l) : HR F s G w l (a.eval x) := by
 have := Bw h x
 rw [A4k hl] at this
 exact this
theorem Wc (h : Holds F s G a.tmps.toList w) {x : Operand} {ls : List L} (hl : Cj (s.get x) = some ls) : All2 (HR F s G w) ls (a.eval x).cells.toList := by
 have := Bw h x
 unfold Cj at hl
 split at hl
 ·rename_i c hc
  cases hl
  rw [hc] at this
  cases c with
  | lf l =>
   have h1 : HR F s G w l (a.eval x) := this
   have h2 := h1.one
   rw [Asa h2]
   exact .cons h1 .nil
  | agg ls =>
   obtain ⟨cs, e, h2⟩ := this
   rw [e]
   exact h2
 ·cases hl
theorem C8 {ok : Nat → Prop} {os : List (Option Own)} {k : IntKind} {n : Int} {v : Value} (h : HL G w ok os (.pv ⟨.int k, n⟩) v) : v = .int k n ∧ (Lit.int k n).wf = true := by
 have h1 : Rep w ok (.int k) n [v] := h
 unfold Rep at h1
 exact ⟨by simpa using h1.1, h1.2⟩
theorem Ga {ok : Nat → Prop} {os : List (Option Own)} {b : Bool} {v : Value} (h : HL G w ok os (.pv ⟨.bool, b⟩) v) : v = .bool b := by
 have h1 : Rep w ok .bool b [v] := h
 unfold Rep at h1
 exact List.singleton_inj.1 h1
theorem Es {ok : Nat → Prop} {os : List (Option Own)} {q : List Int} {v : Value} (h : HL G w ok os (.pv ⟨.str, q⟩) v) : ∃ y : ByteArray, v = .string y ∧ bs y = q ∧ y.size ≤ maxLen := by
 have h1 : Rep w ok .str q [v] := h
 unfold Rep at h1
 obtain ⟨y, e, h2⟩ := h1
 exact ⟨y, by simpa using e, h2⟩
theorem pvSl {ok : Nat → Prop} {os : List (Option Own)} {t : Ty} {xs : List t.den} {v : Value} (h : HL G w ok os (.pv ⟨.slice t, xs⟩) v) : Da w ok (fun x es => Rep w ok t x es) t.size xs [v] := h
theorem Dl (h : Holds F s G a.tmps.toList w) {x : Operand} {n : Int} (hn : int1 (s.get x) = some n) : ∃ k, a.eval x = .int k n ∧ (Lit.int k n).wf = true := by
 have h1 := Bw h x
 unfold int1 at hn
 split at hn
 ·rename_i k m he
  cases hn
  rw [he] at h1
  have h2 : HR F s G w (.pv ⟨.int k, n⟩) (a.eval x) := h1
  exact ⟨k, C8 h2⟩
 ·cases hn
theorem Hz (h : Holds F s G a.tmps.toList w) {x : Operand} {b : Bool} (hb : Cd (s.get x) = some b) : a.eval x = .bool b := by
 have h1 := Bw h x
 unfold Cd at hb
 split at hb
 ·rename_i m he
  cases hb
  rw [he] at h1
  have h2 : HR F s G w (.pv ⟨.bool, b⟩) (a.eval x) := h1
  exact Ga h2
 ·cases hb
theorem Ds (y : ByteArray) : (bs y).length = y.size := by unfold bs; rw [List.length_map, Array.length_toList]; rfl
theorem Gp {g : Nat} {cs : Array Value} {et : Nat} {fz : Nat × Nat} (hc : w.heap[g]? = some (.cells cs et fz)) (o : Nat) : Cells w ⟨g, o, none⟩ (cs.toList.drop o) := by
 intro j v hv
 rw [List.getElem?_drop] at hv
 have e : (⟨g, o, none⟩ : Addr).add j = ⟨g, o + j, none⟩ := by unfold Addr.add; split <;> simp_all
 rw [e]
 simp only [World.cell?, hc]
 simpa using hv
theorem Cells.take {ad : Addr} {cs : List Value} (h : Cells w ad cs) (n : Nat) : Cells w ad (cs.take n) := by
 intro j v hv
 rw [List.getElem?_take] at hv
 split at hv
 ·exact h j v hv
 ·cases hv
theorem A5x {ok : Nat → Prop} {os : List (Option Own)} {ps : List PL} {cs : List Value} (h : All2 (RepL w ok) ps cs) : All2 (HL G w ok os) (pvs ps) cs := by
 unfold pvs
 exact All2.map_left h
theorem Bis (h : Holds F s G vals w) {l : Nat} {o : Own} (ho : Aa s l = some o) {g n c : Nat} (hG : G.ow l = .slice (some ⟨g, 0, none⟩) n c) {i : Nat} (hi : i < o.xs.length) :
  ∃ cs : List Value, Cells w ⟨g, i * o.t.size, none⟩ cs ∧ All2 (RepL w (okS F s G w)) (flat o.t (rdD o.t o.xs i)) cs := by
 obtain ⟨h0, cs, hr, he⟩ := h.own l o ho
 rcases hr.2 with ⟨hn, _⟩ | ⟨g', cap, cur, hv, _, hh, hnc, hm, hs, htk⟩
 ·rw [hG] at hn; cases hn
 ·rw [hG] at hv
  cases hv
  have hx : o.xs[i]? = some (rdD o.t o.xs i) := by simp [rdD, List.getD, List.getElem?_eq_getElem hi]
  have h1 := he.get hx
  refine ⟨_, ?_, K7 h1⟩
  have h2 := Gp hh (i * o.t.size)
  rw [← htk]
  intro j v hj
  rw [List.getElem?_take] at hj
  split at hj
  ·rw [List.getElem?_drop, List.getElem?_take] at hj
   split at hj
   ·exact h2 j v (by rw [List.getElem?_drop]; exact hj)
   ·cases hj
  ·cases hj
theorem A4l (h : Holds F s G vals w) {l : L} {v : Value} (hl : HR F s G w l v) {n : Nat} {ls : List L} (hd : Bd s n l = some ls) :
  ∃ ad cs, v = .pointer (some ad) ∧ Cells w ad cs ∧ cs.length = n ∧ All2 (HR F s G w) ls cs := by
 unfold Bd at hd
 split at hd
 ·rename_i b o
  cases hb : Ae s b with
  | none => simp [hb] at hd
  | some bl =>
   simp only [hb, Option.bind_some] at hd
   split at hd
   ·rename_i hle
    cases hd
    obtain ⟨cs, et, hc, ha⟩ := h.box b bl hb
    refine ⟨_, (cs.toList.drop o).take n, hl, (Gp hc o).take n, ?_, (ha.drop o).take n⟩
    have := ha.len
    simp only [List.length_take, List.length_drop]
    omega
   ·cases hd
 ·rename_i ps
  split at hd
  ·rename_i hle
   cases hd
   obtain ⟨ad, cs, rfl, _, _, hc, hr⟩ := hl
   refine ⟨ad, cs.take n, rfl, hc.take n, ?_, A5x (hr.take n)⟩
   have := hr.len
   simp only [List.length_take]
   omega
  ·cases hd
 ·rename_i l i o sz
  cases ho : Aa s l with
  | none => simp [ho] at hd
  | some q =>
   simp only [ho, Option.bind_some] at hd
   split at hd
   ·rename_i hle
    cases hd
    obtain ⟨g, m, c, hG, rfl, h3⟩ := hl
    obtain ⟨hi, rfl⟩ := h3 q ho
    obtain ⟨cs, hc, hr⟩ := Bis h ho hG hi
    refine ⟨_, (cs.drop o).take n, rfl, ?_, ?_, A5x ((hr.drop o).take n)⟩
    ·intro j v hj
     rw [List.getElem?_take] at hj
     split at hj
     ·rw [List.getElem?_drop] at hj
      have := hc _ _ hj
      have e1 : (⟨g, i * q.t.size, none⟩ : Addr).add (o + j) = ⟨g, i * q.t.size + (o + j), none⟩ := by unfold Addr.add; split <;> simp_all
      have e2 : (⟨g, i * q.t.size + o, none⟩ : Addr).add j = ⟨g, i * q.t.size + (o + j), none⟩ := by unfold Addr.add; split <;> simp_all <;> omega
      rw [e2, ← e1]
      exact this
     ·cases hj
    ·have := hr.len
     rw [Dx] at this
     simp only [List.length_take, List.length_drop]
     omega
   ·cases hd
 ·rename_i l
  split at hd
  ·rename_i hn
   cases hd
   subst hn
   obtain ⟨g, cs, i, u, hm, rfl, hu, ho, h1⟩ := hl
   obtain ⟨_, et, fr, hc⟩ := h.gl (g, cs) (List.mem_append_right _ hm)
   refine ⟨_, [u], rfl, ?_, rfl, .cons ⟨ho, h1⟩ .nil⟩
   intro j v hj
   have e0 : j = 0 := by
    cases j with
    | zero => rfl
    | succ j => simp at hj
   subst e0
   simp only [List.getElem?_cons_zero, Option.some.injEq] at hj
   subst hj
   have e : (⟨g, i, none⟩ : Addr).add 0 = ⟨g, i, none⟩ := by simp [Addr.add]
   rw [e]
   simp only [World.cell?, hc]
   simpa using hu
  ·cases hd
 ·cases hd
theorem Aod {R : L → Value → Prop} {g : Bool} {ls : List L} {cs : List Value} {v : AV} (h : All2 R ls cs) (hm : mkAV g ls = some v) :
  HA R v (if g then .agg cs.toArray else cs.headD undef) := by
 unfold mkAV at hm
 cases g with
 | true => simp at hm; subst hm; exact ⟨_, rfl, by simpa using h⟩
 | false =>
  simp at hm
  split at hm
  ·cases hm
   cases h with
   | cons h1 h2 => cases h2; exact h1
  ·cases hm
theorem A59 (t : Nat) {d : TypeDesc} (hd : P.underlying t = some d) : (isAgg t).run P w = .ok (By P t) w := by
 simp only [isAgg, By, Sem.run_bind, run_underlying hd, Result.andThen_ok]
 cases d <;> simp [hd]
theorem A4m {t n : Nat} (hn : Ay P t = some n) {ad : Addr} {cs : List Value} (hc : Cells w ad cs) (hl : cs.length = n) (h1 : By P t = true ∨ n = 1) (hu : (P.underlying t).isSome = true) :
  (loadVar t ad).run P w = .ok (if By P t then .agg cs.toArray else cs.headD undef) w := by
 obtain ⟨d, hd⟩ := Option.isSome_iff_exists.1 hu
 unfold Ay at hn
 obtain ⟨i, hi, rfl⟩ := Option.map_eq_some_iff.1 hn
 simp only [loadVar, Sem.run_bind, A59 t hd, Result.andThen_ok]
 cases hg : By P t with
 | true =>
  have h2 := run_loadCells_list (P := P) w ad cs hc
  rw [hl] at h2
  simp [sizeOf, typeInfo, hi, h2]
 | false =>
  rw [hg] at h1
  rcases h1 with h1 | h1
  ·cases h1
  ·match cs, hl with
   | [v], _ =>
    have := hc 0 v (by simp)
    simp [Addr.add] at this
    simp [this]
   | [], hl => simp at hl; omega
   | _ :: _ :: _, hl => simp at hl; omega
end
theorem Qi {k : IntKind} {n : Int} : (Lit.int k n).wf = true ↔ k.min ≤ n ∧ n ≤ k.max := by simp [Lit.wf]
theorem A4h (k : IntKind) : k.min ≤ 0 := by cases k <;> decide
theorem A4g (k : IntKind) : 0 ≤ k.max := by cases k <;> decide
theorem wf_fdiv {k : IntKind} {x : Int} (h : (Lit.int k x).wf = true) (n : Nat) : (Lit.int k (x.fdiv (2 ^ n))).wf = true := by
 rw [Qi] at h ⊢
 have hp : (1 : Int) ≤ 2 ^ n := by
  have : 0 < (2 : Int) ^ n := Int.pow_pos (by decide)
  omega
 rw [Int.fdiv_eq_ediv_of_nonneg _ (by omega)]
 have h1 := A4h k
 have h2 := A4g k
 generalize hd : (2 : Int) ^ n = d at hp
 by_cases hx : 0 ≤ x
 ·have h3 : 0 ≤ x / d := Int.ediv_nonneg hx (by omega)
  have h4 : x / d ≤ x := Int.ediv_le_self _ hx
  omega
 ·have h3 : x / d < 0 := Int.ediv_neg_of_neg_of_pos (by omega) (by omega)
  have h4 : x ≤ x / d := by
   rw [Int.le_ediv_iff_mul_le (by omega)]
   have := Int.mul_le_mul_of_nonpos_left (a := x) (b := d) (c := 1) (by omega) (by omega)
   omega
  omega
theorem wf_tmod {k : IntKind} {x : Int} (y : Int) (h : (Lit.int k x).wf = true) : (Lit.int k (x.tmod y)).wf = true := by
 rw [Qi] at h ⊢
 have h1 := A4h k
 have h2 := A4g k
 by_cases hx : 0 ≤ x
 ·have h3 : 0 ≤ x.tmod y := Int.tmod_nonneg y hx
  have h4 : x.tmod y ≤ x := by
   have e := Int.tmod_add_mul_tdiv x y
   have : 0 ≤ y * x.tdiv y := by
    by_cases hy : 0 ≤ y
    ·exact Int.mul_nonneg hy (Int.tdiv_nonneg hx hy)
    ·have : x.tdiv y ≤ 0 := Int.tdiv_nonpos_of_nonneg_of_nonpos hx (by omega)
     exact Int.mul_nonneg_of_nonpos_of_nonpos (by omega) this
   omega
  omega
 ·have h3 : (-x).tmod y = - x.tmod y := Int.neg_tmod x y
  have h5 : 0 ≤ (-x).tmod y := Int.tmod_nonneg y (by omega)
  have h4 : (-x).tmod y ≤ -x := by
   have e := Int.tmod_add_mul_tdiv (-x) y
   have : 0 ≤ y * (-x).tdiv y := by
    by_cases hy : 0 ≤ y
    ·exact Int.mul_nonneg hy (Int.tdiv_nonneg (by omega) hy)
    ·have : (-x).tdiv y ≤ 0 := Int.tdiv_nonpos_of_nonneg_of_nonpos (by omega) (by omega)
     exact Int.mul_nonneg_of_nonpos_of_nonpos (by omega) this
   omega
  omega
theorem A5z {w : World} {ok : Nat → Prop} {k : IntKind} {n : Int} {cs : List Value} (h : Rep w ok (.int k) n cs) : cs = [.int k n] ∧ (Lit.int k n).wf = true := h
theorem Ary (x y : ByteArray) : bs (x ++ y) = bs x ++ bs y := by simp [bs, ByteArray.data_append]
theorem A9a : ∀ (x y : List UInt8), (x.map fun b => (b.toNat : Int)) = (y.map fun b => (b.toNat : Int)) → x = y
 | [], [], _ => rfl
 | [], _ :: _, h => by simp at h
 | _ :: _, [], h => by simp at h
 | a :: x, b :: y, h => by
  simp only [List.map_cons, List.cons.injEq] at h
  have h1 : a.toNat = b.toNat := by omega
  rw [A9a x y h.2, UInt8.toNat_inj.1 h1]
theorem Lq (x y : ByteArray) : (x.toList == y.toList) = (bs x == bs y) := by
 rw [ByteArray.toList_eq, ByteArray.toList_eq, Bool.eq_iff_iff, beq_iff_eq, beq_iff_eq]
 exact ⟨fun h => by rw [bs, bs, h], fun h => A9a _ _ h⟩
theorem u8_lt (a b : UInt8) : decide (a < b) = decide ((a.toNat : Int) < (b.toNat : Int)) := by
 rw [Bool.eq_iff_iff]; simp [UInt8.lt_iff_toNat_lt]
theorem u8_beq (a b : UInt8) : (a == b) = ((a.toNat : Int) == (b.toNat : Int)) := by
 rw [Bool.eq_iff_iff, beq_iff_eq, beq_iff_eq]
 exact ⟨fun h => by rw [h], fun h => UInt8.toNat_inj.1 (by omega)⟩
theorem Ar0 : ∀ (x y : List UInt8), Op.bytesLess x y = ltS (x.map fun b => (b.toNat : Int)) (y.map fun b => (b.toNat : Int))
 | [], [] => rfl
 | _ :: _, [] => rfl
 | [], _ :: _ => rfl
 | a :: x, b :: y => by simp [Op.bytesLess, ltS, Ar0 x y, u8_lt, u8_beq]
theorem Q0 (x y : ByteArray) : Op.bytesLess x.toList y.toList = ltS (bs x) (bs y) := by
 rw [ByteArray.toList_eq, ByteArray.toList_eq, Ar0]; rfl
theorem bs_get (y : ByteArray) (i : Nat) (h : i < y.size) : rdI (bs y) i = (y[i].toNat : Int) := by
 have h2 : i < y.data.toList.length := h
 have h3 : y.data[i]? = some y[i] := Array.getElem?_eq_getElem h
 simp [rdI, bs, List.getD, h3]
theorem Arz (y : ByteArray) (a b : Nat) : bs (y.extract a b) = ((bs y).take b).drop a := by
 simp only [bs, ByteArray.data_extract, Array.toList_extract, List.extract_eq_take_drop, List.map_drop, List.map_take, List.drop_take]
theorem bs_mk (l : List UInt8) : bs ⟨l.toArray⟩ = l.map fun b => (b.toNat : Int) := by simp [bs]
theorem A9z {ok : Nat → Prop} {w : World} {a : Addr} (hs : a.spot = none) : ∀ (xs : List Int) (a : Addr), a.spot = none → (∀ (i : Nat) (x : Int), xs[i]? = some x → ∃ es, Rep w ok (.int .u8) x es ∧ Cells w (a.add (i * 1)) es) →
  ∃ l : List UInt8, (l.map fun b => (b.toNat : Int)) = xs ∧ ∀ j (hj : j < l.length), w.cell? (a.add j) = some (.int .u8 (l[j].toNat : Int)) := by
 intro xs a hs h
 have hx : ∀ x ∈ xs, 0 ≤ x ∧ x < 256 := by
  intro x hx
  obtain ⟨i, hi, rfl⟩ := List.getElem_of_mem hx
  obtain ⟨es, hr, _⟩ := h i _ (List.getElem?_eq_getElem hi)
  have := Qi.1 (A5z hr).2
  simp [IntKind.min, IntKind.max, IntKind.signed, IntKind.bits] at this
  omega
 have hm : ((xs.map fun x => UInt8.ofNat x.toNat).map fun b => (b.toNat : Int)) = xs := by
  rw [List.map_map]
  conv => rhs; rw [← List.map_id xs]
  apply List.map_congr_left
  intro x hx'
  have := hx x hx'
  simp only [Function.comp, UInt8.toNat_ofNat', id]
  omega
 refine ⟨xs.map fun x => UInt8.ofNat x.toNat, hm, fun j hj => ?_⟩
 have hj' : j < xs.length := by simpa using hj
 obtain ⟨es, hr, hc⟩ := h j _ (List.getElem?_eq_getElem hj')
 have h2 := hc 0 (.int .u8 xs[j]) (by rw [(A5z hr).1]; rfl)
 have h3 : (List.map (fun b => (b.toNat : Int)) (xs.map fun x => UInt8.ofNat x.toNat))[j]? = some xs[j] := by rw [hm]; exact List.getElem?_eq_getElem hj'
 rw [List.getElem?_map, List.getElem?_eq_getElem hj] at h3
 simp only [Option.map_some, Option.some.injEq] at h3
 rw [h3]
 simpa [Addr.add] using h2
theorem A6d {P : Program} {w : World} {ok : Nat → Prop} {src dst e : Nat} (hs : P.underlying src = some (.slice e)) (he : P.underlying e = some (.int .u8)) (hd : P.underlying dst = some .string)
  {xs : List Int} {v : Value} (h : Rep w ok (.slice (.int .u8)) xs [v]) : ∃ y : ByteArray, (convert src dst v).run P w = .ok (.string y) w ∧ bs y = xs ∧ y.size ≤ maxLen := by
 have h' : Da w ok (fun x es => Rep w ok (.int .u8) x es) 1 xs [v] := h
 obtain ⟨A, c, e1, hl, hc, hx⟩ := h'
 obtain rfl : v = .slice A xs.length c := List.singleton_inj.1 e1
 by_cases hn : xs = []
 ·subst hn
  cases A with
  | none => exact ⟨ByteArray.empty, run_convert_bytes_nil w src e hs he _ _ dst hd, rfl, Nat.zero_le _⟩
  | some ad => exact ⟨⟨#[]⟩, run_convert_bytes_back w src dst e ad c [] hs he hd (fun j hj => by simp at hj), rfl, Nat.zero_le _⟩
 ·obtain ⟨ad, rfl, hsp, _, hel⟩ := hx hn
  obtain ⟨l, rfl, hcl⟩ := A9z (ok := ok) hsp xs ad hsp hel
  refine ⟨⟨l.toArray⟩, ?_, bs_mk l, ?_⟩
  ·have := run_convert_bytes_back (P := P) w src dst e ad c l hs he hd hcl
   simpa using this
  ·have := Ds ⟨l.toArray⟩
   rw [bs_mk] at this
   have h5 : (⟨l.toArray⟩ : ByteArray).size = (l.map fun b => (b.toNat : Int)).length := this.symm
   rw [h5]
   exact Nat.le_trans hl hc
theorem A5f {F : Nat → Prop} {s : St} {G : Gm} {w : World} {vals : List Value} (h : Holds F s G vals w) {l : Nat} {o : Own} (ho : Aa s l = some o) :
  Rep w (fun k => okS F s G w k ∨ (G.ow l).ownBlock = some k) (.slice o.t) o.xs [G.ow l] := by
 obtain ⟨h0, cs, hr, he⟩ := h.own l o ho
 have he' : RepRow w (fun k => okS F s G w k ∨ (G.ow l).ownBlock = some k) o.t o.xs cs := he.mono fun k hk => ⟨.inl hk, rfl⟩
 rcases hr.2 with ⟨hv, hn⟩ | ⟨g, cap, cur, hv, _, hh, hnc, hm, hs, htk⟩
 ·have hx : o.xs = [] := List.length_eq_zero_iff.1 hn
  rw [hv, hx]
  exact ⟨none, 0, rfl, Nat.le_refl _, Nat.zero_le _, fun h => absurd rfl h⟩
 ·have h7 := A50 (a := ⟨g, 0, none⟩) (c := cap) he' (w := w) ?_ rfl (.inr (by rw [hv]; rfl)) hnc hm
  ·rw [hv] at h7 ⊢
   exact h7
  rw [← htk]
  have := Gp hh 0
  simp only [List.drop_zero] at this
  exact this.take _
theorem Hn {F : Nat → Prop} {s : St} {G : Gm} {w : World} {vals : List Value} (h : Holds F s G vals w) {l : Nat} {o : Own} (ho : Aa s l = some o) {v : Value} (hv : OwV (G.ow l) v) :
  Rep w (fun k => okS F s G w k ∨ (G.ow l).ownBlock = some k) (.slice o.t) o.xs [v] := by
 rcases hv with rfl | ⟨hg, a, rfl⟩
 ·exact A5f h ho
 ·obtain ⟨h0, cs, hr, he⟩ := h.own l o ho
  have hx : o.xs = [] := by
   rcases hr.2 with ⟨_, hn⟩ | ⟨g, cap, cur, hv, _⟩
   ·exact List.length_eq_zero_iff.1 hn
   ·rw [hg] at hv; cases hv
  rw [hx]
  exact ⟨some a, 0, rfl, Nat.le_refl _, Nat.zero_le _, fun h => absurd rfl h⟩
theorem Hl {F : Nat → Prop} {s : St} {G : Gm} {w : World} {vals : List Value} (h : Holds F s G vals w) {l : Nat} {o : Own} (ho : Aa s l = some o) {v : Value} (hv : OwV (G.ow l) v) (hne : 0 < o.xs.length) : v = G.ow l := by
 rcases hv with rfl | ⟨hg, a, rfl⟩
 ·rfl
 ·obtain ⟨h0, cs, hr, he⟩ := h.own l o ho
  rcases hr.2 with ⟨_, hn⟩ | ⟨g, cap, cur, hv, _⟩
  ·omega
  ·rw [hg] at hv; cases hv
def VOK (P : Program) (F : Nat → Prop) (s : St) (G : Gm) (a : Act) (w : World) (o : Oper) (v : AV) : Prop :=
 ∃ u w', (execOp a.eval o).run P w = .ok (.value u) w' ∧ Grew w w' ∧ HA (HR F s G w') v u
section
variable {P : Program} {F : Nat → Prop} {s : St} {G : Gm} {a : Act} {w : World} {o : Oper} {v : AV}
theorem VOK.same {u : Value} (h : (execOp a.eval o).run P w = .ok (.value u) w) (hv : HA (HR F s G w) v u) : VOK P F s G a w o v := ⟨u, w, h, Grew.refl _, hv⟩
theorem A9c (h : Holds F s G a.tmps.toList w) {x : Operand} (ho : o.op = .move x ∨ o.op = .assign x) (hv : v = s.get x) : VOK P F s G a w o v := by
 subst hv
 exact .same (u := a.eval x) (by rcases ho with ho | ho <;> simp [execOp, ho]) (Bw h x)
theorem v_pick (h : Holds F s G a.tmps.toList w) {c x y : Operand} (ho : o.op = .pick c x y) {b : Bool} (hb : Cd (s.get c) = some b)
  (hv : (bif b then some (s.get x) else some (s.get y)) = some v) : VOK P F s G a w o v := by
 have hc := Hz h hb
 cases b with
 | true => cases hv; exact .same (u := a.eval x) (by simp [execOp, ho, hc, asBool]) (Bw h x)
 | false => cases hv; exact .same (u := a.eval y) (by simp [execOp, ho, hc, asBool]) (Bw h y)
theorem v_load (h : Holds F s G a.tmps.toList w) {t : Nat} {x : Operand} (ho : o.op = .load t x) {l : L} (hl : Ai (s.get x) = some l) {n : Nat} (hn : Ay P t = some n)
  (hv : ((Bd s n l).bind fun ls => mkAV (By P t) ls) = some v) (hu : (P.underlying t).isSome = true) : VOK P F s G a w o v := by
 obtain ⟨ls, h1, h2⟩ := Option.bind_eq_some_iff.1 hv
 obtain ⟨ad, cs, hp, hc, hcl, ha⟩ := A4l h (As h hl) h1
 have h3 : By P t = true ∨ n = 1 := by
  cases hg : By P t with
  | true => exact .inl rfl
  | false =>
   rw [hg] at h2
   simp only [mkAV, Bool.false_eq_true, if_false] at h2
   split at h2
   ·rename_i l'
    have := ha.len
    simp at this
    exact .inr (by omega)
   ·cases h2
 refine .same (u := if By P t then .agg cs.toArray else cs.headD undef) ?_ (Aod ha h2)
 simp [execOp, ho, hp, Instr.loadAt, Instr.sureAddr, A4m hn hc hcl h3 hu]
theorem v_nil (h : Holds F s G a.tmps.toList w) {x : Operand} (ho : o.op = .nilCheck x) {l : L} (hl : Ai (s.get x) = some l)
  (hk : (match l with | .ptr b o => some (lf (.ptr b o)) | .rpt ps => some (lf (.rpt ps)) | .ept l i o z => some (lf (.ept l i o z)) | .fn f a c => some (lf (.fn f a c)) | _ => none) = some v) : VOK P F s G a w o v := by
 have h1 := As h hl
 cases l with
 | ptr b q =>
  cases hk
  have h2 : a.eval x = _ := h1
  exact .same (u := a.eval x) (by simp [execOp, ho, h2]) h1
 | rpt ps =>
  cases hk
  have h2 := h1
  obtain ⟨ad, cs, e, _⟩ := h2
  exact .same (u := a.eval x) (by simp [execOp, ho, e]) h1
 | ept l i q z =>
  cases hk
  have h2 := h1
  obtain ⟨g, n, c, _, e, _⟩ := h2
  exact .same (u := a.eval x) (by simp [execOp, ho, e]) h1
 | fn f b c =>
  cases hk
  have h2 : a.eval x = _ := h1
  exact .same (u := a.eval x) (by simp [execOp, ho, h2]) h1
 | _ => cases hk
theorem A9u {op : BinOp} {t : Nat} {k k' : IntKind} {x y : Int} (hx : (Lit.int k x).wf = true) {c : Bool} {r : PL} (h : binI op k k' x y = some (c, r)) (hc : c = true) :
  ∃ u, (binOp op t (.int k x) (.int k' y)).run P w = .ok u w ∧ HR F s G w (.pv r) u := by
 subst hc
 cases op <;> simp only [binI] at h <;> (try split at h) <;> (try cases h)
 all_goals (try subst_vars)
 case add => exact ⟨_, by simp [binOp, Op.intArith], rfl, wf_wrap _ _⟩
 case sub => exact ⟨_, by simp [binOp, Op.intArith], rfl, wf_wrap _ _⟩
 case mul => exact ⟨_, by simp [binOp, Op.intArith], rfl, wf_wrap _ _⟩
 case quo =>
  simp only [Option.some.injEq, Prod.mk.injEq, Bool.not_eq_true', decide_eq_false_iff_not] at h
  obtain ⟨hy, rfl⟩ := h
  exact ⟨_, by simp [binOp, Op.intDiv, hy], rfl, wf_wrap _ _⟩
 case rem =>
  simp only [Option.some.injEq, Prod.mk.injEq, Bool.not_eq_true', decide_eq_false_iff_not] at h
  obtain ⟨hy, rfl⟩ := h
  exact ⟨_, by simp [binOp, Op.intDiv, hy], rfl, wf_tmod _ hx⟩
 case and => exact ⟨_, by simp [binOp, Op.intBits], rfl, wf_wrap _ _⟩
 case or => exact ⟨_, by simp [binOp, Op.intBits], rfl, wf_wrap _ _⟩
 case xor => exact ⟨_, by simp [binOp, Op.intBits], rfl, wf_wrap _ _⟩
 case andNot => exact ⟨_, by simp [binOp, Op.intBits], rfl, wf_wrap _ _⟩
 case shl =>
  simp only [Option.some.injEq, Prod.mk.injEq, decide_eq_true_eq] at h
  obtain ⟨hy, rfl⟩ := h
  have hy' : ¬ y < 0 := by omega
  exact ⟨_, by simp [binOp, Op.shift, hy'], rfl, wf_wrap _ _⟩
 case shr =>
  simp only [Option.some.injEq, Prod.mk.injEq, decide_eq_true_eq] at h
  obtain ⟨hy, rfl⟩ := h
  have hy' : ¬ y < 0 := by omega
  exact ⟨_, by simp [binOp, Op.shift, hy'], rfl, wf_fdiv hx _⟩
 all_goals exact ⟨_, by simp [binOp, Op.intCmp], rfl⟩
theorem A9w {op : BinOp} {t : Nat} {x y : ByteArray} {c : Bool} {r : PL} (h : binS op (bs x) (bs y) = some (c, r)) (hc : c = true) :
  ∃ u, (binOp op t (.string x) (.string y)).run P w = .ok u w ∧ HR F s G w (.pv r) u := by
 subst hc
 cases op <;> simp only [binS] at h <;> (try cases h)
 case add =>
  simp only [Option.some.injEq, Prod.mk.injEq, decide_eq_true_eq, Ds] at h
  obtain ⟨hl, rfl⟩ := h
  have hm : ¬ ((x.size + y.size : Nat) : Int) > IntKind.i64.max := by
   simp only [IntKind.max, IntKind.signed, IntKind.bits, maxLen] at *
   simp
   omega
  refine ⟨.string (x ++ y), by simp only [binOp, Op.stringOp]; rw [if_neg hm]; rfl, x ++ y, rfl, Ary x y, ?_⟩
  have e : (x ++ y).size = x.size + y.size := by have := Ds (x ++ y); rw [Ary, List.length_append, Ds, Ds] at this; omega
  omega
 case eql => exact ⟨.bool (x.toList == y.toList), by simp [binOp, Op.stringOp], by rw [Lq]; rfl⟩
 case neq => exact ⟨.bool !(x.toList == y.toList), by simp [binOp, Op.stringOp], by rw [Lq]; rfl⟩
 case lss => exact ⟨.bool (Op.bytesLess x.toList y.toList), by simp [binOp, Op.stringOp], by rw [Q0]; rfl⟩
 case leq => exact ⟨.bool (Op.bytesLess x.toList y.toList || x.toList == y.toList), by simp [binOp, Op.stringOp], by rw [Q0, Lq]; rfl⟩
 case gtr => exact ⟨.bool !(Op.bytesLess x.toList y.toList || x.toList == y.toList), by simp [binOp, Op.stringOp], by rw [Q0, Lq]; rfl⟩
 case geq => exact ⟨.bool !(Op.bytesLess x.toList y.toList), by simp [binOp, Op.stringOp], by rw [Q0]; rfl⟩
theorem A9t {op : BinOp} {t : Nat} (ht : P.underlying t = some .bool) {x y : Bool} {c : Bool} {r : PL} (h : binB op x y = some (c, r)) :
  ∃ u, (binOp op t (.bool x) (.bool y)).run P w = .ok u w ∧ HR F s G w (.pv r) u := by
 cases op <;> simp only [binB] at h <;> (try cases h)
 case eql => exact ⟨.bool (x == y), by simp only [binOp, Sem.run_bind, run_equal_bool w t x y ht, Result.andThen_ok, Sem.run_pure], rfl⟩
 case neq => exact ⟨.bool !(x == y), by simp only [binOp, Sem.run_bind, run_equal_bool w t x y ht, Result.andThen_ok, Sem.run_pure], rfl⟩
end
section
variable {P : Program} {F : Nat → Prop} {s : St} {G : Gm} {a : Act} {w : World} {o : Oper} {v : AV}
theorem A9v {op : BinOp} {t : Nat} {p q : PL} {x y : Value} (hp : HR F s G w (.pv p) x) (hq : HR F s G w (.pv q) y) {c : Bool} {r : PL} (h : binP op p q = some (c, r)) (hc : c = true)
  (hb : Zb P t p = true) :
  ∃ u, (binOp op t x y).run P w = .ok u w ∧ HR F s G w (.pv r) u := by
 obtain ⟨tp, xp⟩ := p
 obtain ⟨tq, xq⟩ := q
 cases tp <;> cases tq <;> simp only [binP] at h <;> (try cases h)
 case int.int k k' =>
  obtain ⟨rfl, h1⟩ := C8 hp
  obtain ⟨rfl, h2⟩ := C8 hq
  exact A9u h1 h hc
 case bool.bool =>
  obtain rfl := Ga hp
  obtain rfl := Ga hq
  refine A9t ?_ h
  simp only [Zb] at hb
  split at hb
  ·assumption
  ·cases hb
 case str.str =>
  obtain ⟨y1, rfl, h1, _⟩ := Es hp
  obtain ⟨y2, rfl, h2, _⟩ := Es hq
  rw [← h1, ← h2] at h
  exact A9w h hc
theorem Ao2 (op : BinOp) (t : Nat) (x y : Operand) (u v : Value) (hu : ∀ cs, u ≠ .agg cs) (hn : u ≠ .nilIface) : (eqGuard op t x y u v).run P w = .ok () w := by
 unfold eqGuard
 cases op <;> simp
 all_goals (cases u <;> first | exact absurd rfl hn | exact absurd rfl (hu _) | rfl)
theorem A6c (d t e : Nat) (ht : P.underlying t = some (.pointer e)) (q : Option Addr) : (Op.equalIn (d + 1) t (.pointer none) (.pointer q)).run P w = .ok q.isNone w ∧ (Op.equalIn (d + 1) t (.pointer q) (.pointer none)).run P w = .ok q.isNone w := by
 constructor
 ·simp [Op.equalIn, run_underlying ht]
 ·cases q <;> simp [Op.equalIn, run_underlying ht]
theorem Bjf (op : BinOp) (t e : Nat) (ht : P.underlying t = some (.pointer e)) (u v : Value) (b : Bool) (h : (u = .pointer none ∧ ∃ q, v = .pointer q ∧ b = q.isNone) ∨ (v = .pointer none ∧ ∃ q, u = .pointer q ∧ b = q.isNone)) :
  (Op.equal t u v).run P w = .ok b w := by
 rcases h with ⟨rfl, q, rfl, rfl⟩ | ⟨rfl, q, rfl, rfl⟩
 ·exact (A6c 9999 t e ht q).1
 ·exact (A6c 9999 t e ht q).2
theorem Aog {x y : L} {u v : Value} (hx : HR F s G w x u) (hy : HR F s G w y v) {b : Bool} (h : nilEq x y = some b) :
  (u = .pointer none ∧ ∃ q, v = .pointer q ∧ b = q.isNone) ∨ (v = .pointer none ∧ ∃ q, u = .pointer q ∧ b = q.isNone) := by
 have hn : ∀ {z : L} {k : Value}, HR F s G w z k → (∃ b o, z = .ptr b o) ∨ (∃ l i o q, z = .ept l i o q) ∨ (∃ ps, z = .rpt ps) → ∃ q, k = .pointer (some q) := by
  rintro z k hz (⟨b, o, rfl⟩ | ⟨l, i, o, q, rfl⟩ | ⟨ps, rfl⟩)
  ·exact ⟨_, hz⟩
  ·obtain ⟨_, _, _, _, e, _⟩ := hz; exact ⟨_, e⟩
  ·obtain ⟨_, _, e, _⟩ := hz; exact ⟨_, e⟩
 unfold nilEq at h
 split at h <;> cases h
 ·exact .inl ⟨hx, none, hy, rfl⟩
 ·obtain ⟨q, e⟩ := hn hy (.inl ⟨_, _, rfl⟩); exact .inl ⟨hx, _, e, rfl⟩
 ·obtain ⟨q, e⟩ := hn hx (.inl ⟨_, _, rfl⟩); exact .inr ⟨hy, _, e, rfl⟩
 ·obtain ⟨q, e⟩ := hn hy (.inr (.inl ⟨_, _, _, _, rfl⟩)); exact .inl ⟨hx, _, e, rfl⟩
 ·obtain ⟨q, e⟩ := hn hx (.inr (.inl ⟨_, _, _, _, rfl⟩)); exact .inr ⟨hy, _, e, rfl⟩
 ·obtain ⟨q, e⟩ := hn hy (.inr (.inr ⟨_, rfl⟩)); exact .inl ⟨hx, _, e, rfl⟩
 ·obtain ⟨q, e⟩ := hn hx (.inr (.inr ⟨_, rfl⟩)); exact .inr ⟨hy, _, e, rfl⟩
theorem A57 (op : BinOp) (t e : Nat) (ht : P.underlying t = some (.pointer e)) (u v : Value) (b : Bool) (h : (u = .pointer none ∧ ∃ q, v = .pointer q ∧ b = q.isNone) ∨ (v = .pointer none ∧ ∃ q, u = .pointer q ∧ b = q.isNone)) :
  ((binOp .eql t u v).run P w = .ok (.bool b) w) ∧ ((binOp .neq t u v).run P w = .ok (.bool !b) w) := by
 have h1 := Bjf (P := P) (w := w) op t e ht u v b h
 have hu : ∃ q, u = .pointer q := by rcases h with ⟨rfl, _⟩ | ⟨_, q, rfl, _⟩ <;> exact ⟨_, rfl⟩
 have hv : ∃ q, v = .pointer q := by rcases h with ⟨_, q, rfl, _⟩ | ⟨rfl, _⟩ <;> exact ⟨_, rfl⟩
 obtain ⟨p, rfl⟩ := hu
 obtain ⟨q, rfl⟩ := hv
 constructor <;> simp [binOp, h1]
theorem v_bin (h : Holds F s G a.tmps.toList w) {op : BinOp} {t t' : Nat} {x y : Operand} (ho : o.op = .binOp op t x y t') {l1 l2 : L} (h1 : Ai (s.get x) = some l1) (h2 : Ai (s.get y) = some l2)
  (hv : ((Qz P t op l1 l2).bind fun r => .ok (lf r)).val = some v) : VOK P F s G a w o v := by
 have k1 := As h h1
 have k2 := As h h2
 rw [Oc.val_bind] at hv
 obtain ⟨r, hr, e⟩ := Option.bind_eq_some_iff.1 hv
 cases e
 have hagg : ∀ cs, a.eval x ≠ .agg cs := fun cs e => by have := k1.one; rw [e] at this; cases this
 unfold Qz at hr
 split at hr
 ·rename_i p q
  split at hr
  ·rename_i c r' hb
   split at hr
   ·rename_i hbt
    cases c with
    | false => cases hr
    | true =>
    cases hr
    obtain ⟨u, hu, hru⟩ := A9v (t := t) k1 k2 hb rfl hbt
    have hni : a.eval x ≠ .nilIface := by
     intro e
     obtain ⟨tp, xp⟩ := p
     cases tp <;> simp only [binP] at hb <;> (try cases hb)
     ·have := (C8 k1).1; rw [e] at this; cases this
     ·have := Ga k1; rw [e] at this; cases this
     ·obtain ⟨_, this, _⟩ := Es k1; rw [e] at this; cases this
    exact .same (u := u) (by simp [execOp, ho, Ao2 op t x y _ _ hagg hni, hu]) hru
   ·cases hr
  ·cases hr
 ·have hni : a.eval x ≠ .nilIface := by
   intro e
   split at hr
   all_goals first | cases hr; done | skip
   all_goals
    rename_i hb _
    rcases Aog k1 k2 hb with ⟨e2, _⟩ | ⟨_, q, e2, _⟩ <;> (rw [e] at e2; cases e2)
  split at hr
  ·rename_i b e hb ht
   cases hr
   have h5 := (A57 (P := P) (w := w) .eql t e ht _ _ b (Aog k1 k2 hb)).1
   exact .same (u := .bool b) (by simp [execOp, ho, Ao2 _ t x y _ _ hagg hni, h5]) (show HR F s G w (pvB b) _ from rfl)
  ·rename_i b e hb ht
   cases hr
   have h5 := (A57 (P := P) (w := w) .neq t e ht _ _ b (Aog k1 k2 hb)).2
   exact .same (u := .bool !b) (by simp [execOp, ho, Ao2 _ t x y _ _ hagg hni, h5]) (show HR F s G w (pvB !b) _ from rfl)
  ·cases hr
theorem Bij {w : World} {t : Nat} {l : L} {y : Operand} {r : Bool} {u : Value} (h : nilI P t l y = some r) (hu : HR F s G w l u) :
  y = .const .nilIface ∧ ∃ ms, P.underlying t = some (.interface ms) ∧ ((r = true ∧ u = .nilIface) ∨ (r = false ∧ ∃ d x, u = .iface d x)) := by
 unfold nilI at h
 split at h
 ·rename_i ms ht
  refine ⟨rfl, ms, ht, ?_⟩
  split at h
  ·rename_i b
   cases h
   cases r with
   | true => exact .inl ⟨rfl, hu⟩
   | false => exact .inr ⟨rfl, hu⟩
  ·cases h
   obtain ⟨cs, _, e⟩ := hu
   exact .inr ⟨rfl, _, _, e⟩
  ·cases h
   exact .inl ⟨rfl, hu⟩
  ·cases h
   exact .inr ⟨rfl, _, _, hu⟩
  ·rename_i z t2 ps
   cases h
   cases r with
   | true => exact .inl ⟨rfl, hu⟩
   | false =>
    obtain ⟨x, e, _⟩ := (show ∃ x, u = .iface t2 x ∧ RP w (okS F s G w) ps x from hu)
    exact .inr ⟨rfl, _, _, e⟩
  ·cases h
 ·cases h
theorem Bjd (d t : Nat) (ms : Array (String × Nat)) (ht : P.underlying t = some (.interface ms)) : (Op.equalIn (d + 1) t .nilIface .nilIface).run P w = .ok true w := by
 simp [Op.equalIn, run_underlying ht]
theorem Bje (d t : Nat) (ms : Array (String × Nat)) (ht : P.underlying t = some (.interface ms)) (tx : Nat) (z : Value) : (Op.equalIn (d + 1) t (.iface tx z) .nilIface).run P w = .ok false w := by
 simp [Op.equalIn, run_underlying ht]
theorem A9d (h : Holds F s G a.tmps.toList w) {op : BinOp} {t t' : Nat} {x y : Operand} (ho : o.op = .binOp op t x y t') {l1 : L} (h1 : Ai (s.get x) = some l1) {r : Bool} (hn : nilI P t l1 y = some r)
  (hv : (op = .eql ∧ v = lf (pvB r)) ∨ (op = .neq ∧ v = lf (pvB !r))) : VOK P F s G a w o v := by
 have k1 := As h h1
 obtain ⟨rfl, ms, ht, hu⟩ := Bij hn k1
 have ey : a.eval (.const .nilIface) = .nilIface := rfl
 have heq : (Op.equal t (a.eval x) .nilIface).run P w = .ok r w := by
  rcases hu with ⟨rfl, e⟩ | ⟨rfl, d, z, e⟩ <;> rw [e]
  ·exact Bjd 9999 t ms ht
  ·exact Bje 9999 t ms ht d z
 have hgd : ∀ op, (eqGuard op t x (.const .nilIface) (a.eval x) .nilIface).run P w = .ok () w := by
  intro op
  rcases hu with ⟨rfl, e⟩ | ⟨rfl, d, z, e⟩ <;> rw [e] <;> unfold eqGuard <;> cases op <;> simp
 have hb : (binOp .eql t (a.eval x) .nilIface).run P w = .ok (.bool r) w ∧ (binOp .neq t (a.eval x) .nilIface).run P w = .ok (.bool !r) w := by
  rcases hu with ⟨_, e⟩ | ⟨_, d, z, e⟩ <;> rw [e] at heq ⊢ <;> constructor <;> simp [binOp, heq]
 rcases hv with ⟨rfl, rfl⟩ | ⟨rfl, rfl⟩
 ·exact .same (u := .bool r) (by simp [execOp, ho, ey, hgd, hb.1]) (show HR F s G w (pvB r) _ from rfl)
 ·exact .same (u := .bool !r) (by simp [execOp, ho, ey, hgd, hb.2]) (show HR F s G w (pvB !r) _ from rfl)
theorem A6b {t off : Nat} {cs : Array Value} {v : Value} (ha : (match P.underlying t with | some (.struct _) => false | some (.array _ _) => false | some _ => true | none => false) = true) (hv : cs[off]? = some v) : (part t cs off).run P w = .ok v w := by
 cases hd : P.underlying t with
 | none => rw [hd] at ha; cases ha
 | some d =>
  rw [hd] at ha
  cases d <;> first | cases ha; done | skip
  all_goals simp [part, isAgg, run_underlying hd, hv]
theorem Bc2 {ok : Nat → Prop} {os : List (Option Own)} {t : Nat} {p q : PL} {b : Bool} (h : eqPL P t p q = some b) {u v : Value} (hu : HL G w ok os (.pv p) u) (hv : HL G w ok os (.pv q) v) (d : Nat) :
  (match P.underlying t with | some (.struct _) => false | some (.array _ _) => false | some _ => true | none => false) = true ∧ (Op.equalIn (d + 1) t u v).run P w = .ok b w := by
 unfold eqPL at h
 split at h
 ·rename_i k0 k x k' y ht
  split at h
  ·rename_i e
   subst e
   cases h
   rw [(C8 hu).1, (C8 hv).1, ht]
   exact ⟨rfl, by simp [Op.equalIn, run_underlying ht, eqI]⟩
  ·cases h
 ·rename_i x y ht
  cases h
  rw [Ga hu, Ga hv, ht]
  exact ⟨rfl, by simp [Op.equalIn, run_underlying ht, eqB]⟩
 ·rename_i x y ht
  cases h
  obtain ⟨a1, rfl, e1, _⟩ := Es hu
  obtain ⟨a2, rfl, e2, _⟩ := Es hv
  rw [ht]
  refine ⟨rfl, ?_⟩
  subst e1 e2
  rw [show eqS (bs a1) (bs a2) = (a1 == a2) by rw [eqS, ← Lq, beq_toListBytes]]
  simp [Op.equalIn, run_underlying ht]
 ·cases h
theorem A6a {t off n : Nat} {fs : Array Field} {cs : Array Value} (ht : P.underlying t = some (.struct fs)) (hn : Ay P t = some n) : (part t cs off).run P w = .ok (.agg ((cs.toList.drop off).take n).toArray) w := by
 have hg : (isAgg t).run P w = .ok true w := by simp [isAgg, run_underlying ht]
 have hs : (sizeOf t).run P w = .ok n w := by
  unfold Ay at hn
  obtain ⟨i, hi, rfl⟩ := Option.map_eq_some_iff.1 hn
  simp [sizeOf, typeInfo, hi]
 simp only [part, Sem.run_bind, hg, Result.andThen_ok, if_true, hs, Sem.run_pure]
 congr 2
 rw [← Array.toList_inj]
 simp [List.extract_eq_take_drop]
def RecOK (P : Program) (G : Gm) (w : World) (ok : Nat → Prop) (os : List (Option Own)) (m : Nat) (rec : List Field → List L → List L → Option Bool) : Prop :=
 ∀ (d : Nat), m ≤ d → ∀ (fs : List Field) (xs ys : List L) (us vs : Array Value) (b : Bool), All2 (HL G w ok os) xs us.toList → All2 (HL G w ok os) ys vs.toList → rec fs xs ys = some b → (Op.eqFields (d + 1) us vs fs).run P w = .ok b w
theorem Avl {ok : Nat → Prop} {os : List (Option Own)} {m : Nat} {rec : List Field → List L → List L → Option Bool} (hrec : RecOK P G w ok os m rec) : RecOK P G w ok os (m + 1) (eqFs P rec) := by
 intro d hd fs xs ys us vs b hx hy
 induction fs generalizing b with
 | nil => intro h; cases h; simp [Op.eqFields]
 | cons f r ih =>
  intro h
  simp only [eqFs] at h
  split at h
  ·cases h
  rename_i hn
  have hn' : f.name ≠ "_" := by simpa using hn
  split at h
  ·rename_i gs hg
   split at h
   ·cases h
   rename_i hst
   split at h
   ·rename_i n hsz
    split at h
    ·rename_i hle
     obtain ⟨b1, h1, h2⟩ := Option.bind_eq_some_iff.1 h
     obtain ⟨b2, h3, rfl⟩ := Option.map_eq_some_iff.1 h2
     have k3 := A6a (w := w) (cs := us) (off := f.offset) hg hsz
     have k4 := A6a (w := w) (cs := vs) (off := f.offset) hg hsz
     have hgs : P.fieldsOf f.type = gs := by simp [Program.fieldsOf, hg]
     obtain ⟨d', rfl⟩ : ∃ d', d = d' + 1 := ⟨d - 1, by omega⟩
     have k2 : (Op.equalIn (d' + 1 + 1) f.type (.agg ((us.toList.drop f.offset).take n).toArray) (.agg ((vs.toList.drop f.offset).take n).toArray)).run P w = .ok b1 w := by
      refine (run_equalIn_struct (P := P) w (d' + 1) f.type _ _ (by rw [hgs]; exact hg) (by simpa using hst)).trans ?_
      rw [hgs]
      exact hrec d' (by omega) gs.toList _ _ _ _ b1 (by simpa using (hx.drop f.offset).take n) (by simpa using (hy.drop f.offset).take n) h1
     have k5 := ih b2 h3
     rw [Op.eqFields]
     simp only [if_pos hn', Sem.run_bind, k3, k4, k2, Result.andThen_ok]
     cases b1
     ·simp
     ·simpa using k5
    ·cases h
   ·cases h
  ·split at h
   ·rename_i p q hp hq
    obtain ⟨b1, h1, h2⟩ := Option.bind_eq_some_iff.1 h
    obtain ⟨b2, h3, rfl⟩ := Option.map_eq_some_iff.1 h2
    obtain ⟨u, hu1, hu2⟩ := hx.get hp
    obtain ⟨v, hv1, hv2⟩ := hy.get hq
    obtain ⟨k1, k2⟩ := Bc2 (w := w) h1 hu2 hv2 d
    have k3 := A6b (P := P) (w := w) k1 (show us[f.offset]? = some u by simpa using hu1)
    have k4 := A6b (P := P) (w := w) k1 (show vs[f.offset]? = some v by simpa using hv1)
    have k5 := ih b2 h3
    rw [Op.eqFields]
    simp only [if_pos hn', Sem.run_bind, k3, k4, k2, Result.andThen_ok]
    cases b1
    ·simp
    ·simpa using k5
   ·cases h
theorem Avk {ok : Nat → Prop} {os : List (Option Own)} : ∀ n : Nat, RecOK P G w ok os (n + 1) (eqFsN P n)
 | 0 => Avl fun _ _ _ _ _ _ _ _ _ _ h => by cases h
 | n + 1 => Avl (Avk n)
theorem A9b (h : Holds F s G a.tmps.toList w) {op : BinOp} {t t' : Nat} {x y : Operand} (ho : o.op = .binOp op t x y t') {xs ys : List L} (h1 : s.get x = .cv (.agg xs)) (h2 : s.get y = .cv (.agg ys)) {r : Bool} (hn : eqSt P t xs ys = some r)
  (hv : (op = .eql ∧ v = lf (pvB r)) ∨ (op = .neq ∧ v = lf (pvB !r))) : VOK P F s G a w o v := by
 have k1 := Bw h x
 have k2 := Bw h y
 rw [h1] at k1
 rw [h2] at k2
 obtain ⟨us, e1, k1⟩ := k1
 obtain ⟨vs, e2, k2⟩ := k2
 unfold eqSt at hn
 split at hn
 ·rename_i fs ht
  split at hn
  ·cases hn
  ·rename_i hg
   simp only [Bool.or_eq_true, not_or, Bool.not_eq_true] at hg
   have hf : P.fieldsOf t = fs := by simp [Program.fieldsOf, ht]
   have heq : (Op.equal t (.agg us) (.agg vs)).run P w = .ok r w := by
    refine (run_equalIn_struct (P := P) w 9999 t us vs (by rw [hf]; exact ht) hg.1).trans ?_
    rw [hf]
    exact Avk 3 9998 (by decide) fs.toList _ _ _ _ _ k1 k2 hn
   have hgd : ∀ op, (eqGuard op t x y (.agg us) (.agg vs)).run P w = .ok () w := by
    intro op
    unfold eqGuard
    cases op <;> simp [hg.2]
   have hb : (binOp .eql t (.agg us) (.agg vs)).run P w = .ok (.bool r) w ∧ (binOp .neq t (.agg us) (.agg vs)).run P w = .ok (.bool !r) w := by
    constructor <;> simp [binOp, heq]
   rcases hv with ⟨rfl, rfl⟩ | ⟨rfl, rfl⟩
   ·exact .same (u := .bool r) (by simp [execOp, ho, e1, e2, hgd, hb.1]) (show HR F s G w (pvB r) _ from rfl)
   ·exact .same (u := .bool !r) (by simp [execOp, ho, e1, e2, hgd, hb.2]) (show HR F s G w (pvB !r) _ from rfl)
 ·cases hn
theorem v_un (h : Holds F s G a.tmps.toList w) {op : UnOp} {t : Nat} {x : Operand} (ho : o.op = .unOp op t x) {p : PL} (h1 : Ai (s.get x) = some (.pv p)) (hv : ((unOc op p).map fun r => lf (.pv r)) = some v) : VOK P F s G a w o v := by
 have k1 := As h h1
 obtain ⟨r, hr, rfl⟩ := Option.map_eq_some_iff.1 hv
 obtain ⟨t, y⟩ := p
 unfold unOc at hr
 split at hr
 ·rename_i b e
  cases e
  cases hr
  have e := Ga k1
  exact .same (u := .bool (!b)) (by simp [execOp, ho, e, Op.unary]) rfl
 ·rename_i k n e
  cases e
  cases hr
  obtain ⟨e, _⟩ := C8 k1
  exact .same (u := .int k (negI k n)) (by simp [execOp, ho, e, Op.unary, Op.intArith, negI]) ⟨rfl, wf_wrap _ _⟩
 ·rename_i k n e
  cases e
  cases hr
  obtain ⟨e, _⟩ := C8 k1
  exact .same (u := .int k (notI k n)) (by simp [execOp, ho, e, Op.unary, Op.intBits, notI]) ⟨rfl, wf_wrap _ _⟩
 ·cases hr
end
end Go.Proofs.YtgmpjapnhdilaaaGreatV
