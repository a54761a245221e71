import Derived.Test.YtghmhkpgdmgepaaV1
/-! The V engine, 2: states, and what the operations do to them. -/
set_option linter.unusedVariables false
set_option linter.unusedSimpArgs false
namespace Go.Proofs.YtghmhkpgdmgepaaV
open Go Go.RowKit

/-- Kinds of nil. -/
inductive NilK where
  | ptr | sl | fn | ifc | mp
def NilK.val : NilK → Value
  | .ptr => .pointer none
  | .sl => .slice none 0 0
  | .fn => .nilFunc
  | .ifc => .nilIface
  | .mp => .map none
def NilK.eqb : NilK → NilK → Bool
  | .ptr, .ptr | .sl, .sl | .fn, .fn | .ifc, .ifc | .mp, .mp => true
  | _, _ => false
theorem NilK.of_eqb {a b : NilK} (h : NilK.eqb a b = true) : a = b := by cases a <;> cases b <;> first | rfl | cases h
/-- What one cell holds. -/
inductive L where
  | dead
  | pv (p : PL)
  | cst (k : NilK)
  | ptr (b o : Nat)
  | own (l : Nat)
  | ept (l i o sz : Nat)
  | rpt (ls : List PL)
  | fn (f : Nat) (first caps : List (Nat × Nat))
  | ifc (t : Nat) (ls : List PL) (agg : Bool)
  | err (b : Bool)
  | bld (b t : Nat) (z : Bool)
/-- One cell, or a struct's cells. -/
inductive CV where
  | lf (l : L)
  | agg (ls : List L)
/-- What a slot holds. -/
inductive AV where
  | dead
  | cv (c : CV)
  | tup (cs : List CV)
/-- A row of the call's own: the type of its elements, and what they are. -/
structure Own where
  e : Nat
  t : Ty
  xs : List t.den
structure St where
  slots : List AV
  boxes : List (Option (List L))
  owns : List (Option Own)

def N0 : Nat := 48

def L.map (f : L → L) (l : L) : L := f l
def CV.map (f : L → L) : CV → CV
  | .lf l => .lf (f l)
  | .agg ls => .agg (ls.map f)
def AV.map (f : L → L) : AV → AV
  | .dead => .dead
  | .cv c => .cv (c.map f)
  | .tup cs => .tup (cs.map (CV.map f))
def CV.leaves : CV → List L
  | .lf l => [l]
  | .agg ls => ls
def AV.all (p : L → Bool) : AV → Bool
  | .dead => true
  | .cv c => c.leaves.all p
  | .tup cs => cs.all fun c => c.leaves.all p
def St.map (f : L → L) (s : St) : St := { s with slots := s.slots.map (AV.map f), boxes := s.boxes.map (Option.map (List.map f)) }
def St.all (p : L → Bool) (s : St) : Bool := s.slots.all (AV.all p) && s.boxes.all fun b => match b with | some ls => ls.all p | none => true

def lf (l : L) : AV := .cv (.lf l)
def pvI (k : IntKind) (n : Int) : L := .pv ⟨.int k, n⟩
def pvB (b : Bool) : L := .pv ⟨.bool, b⟩
def pvS (s : List Int) : L := .pv ⟨.str, s⟩
def pvL (t : Ty) (xs : List t.den) : L := .pv ⟨.slice t, xs⟩

/-- Which box, which row a leaf speaks of. -/
def L.noB (n : Nat) : L → Bool
  | .ptr b _ => b != n
  | .fn _ a c => a.all (fun x => x.1 != n) && c.all (fun x => x.1 != n)
  | .bld b _ _ => b != n
  | _ => true
def L.noO (n : Nat) : L → Bool
  | .own l => l != n
  | .ept l _ _ _ => l != n
  | _ => true

def constL : Value → L
  | .int k n => if (Lit.int k n).wf then pvI k n else .dead
  | .bool b => pvB b
  | .string s => if s.size ≤ maxLen then pvS (bs s) else .dead
  | .pointer none => .cst .ptr
  | .slice none 0 0 => .cst .sl
  | .map none => .cst .mp
  | .nilFunc => .cst .fn
  | .nilIface => .cst .ifc
  | _ => .dead
def constAV : Value → AV
  | .agg cs => if cs.toList.all Value.oneCell' then .cv (.agg (cs.toList.map constL)) else .dead
  | .tuple _ => .dead
  | v => lf (constL v)

def St.get (s : St) : Operand → AV
  | .tmp t => s.slots.getD t .dead
  | .const v => constAV v
  | .global _ => .dead
  | .func f => lf (.fn f [] [])
def St.put (s : St) (d : Option Nat) (v : AV) : St :=
  match d with
  | some d => { s with slots := s.slots.set d v }
  | none => s

/-- A function that is called, by its contract: what goes in and comes out as data. -/
structure Fun1 where
  run : (R : Type) → List PL → (List PL → Option R) → Option R
  nat : ∀ R ps K, run R ps K = (run (List PL) ps some).bind K
  /-- Whether it may panic: with which type's values, of which data (then the first of what comes out says whether it did). -/
  pan : Option (Nat × List Ty × Bool) := none
/-- What is to be known, called, or chosen between, ahead of a result. -/
inductive Oc (α : Type) : Type 1 where
  | fail
  | ok (a : α)
  | guard (c : Bool) (n : Oc α)
  | ite (c : Bool) (x y : Oc α)
  | call (e : Fun1) (ps : List PL) (k : List PL → Oc α)
def Oc.bind {α β : Type} : Oc α → (α → Oc β) → Oc β
  | .fail, _ => .fail
  | .ok a, f => f a
  | .guard c n, f => .guard c (n.bind f)
  | .ite c x y, f => .ite c (x.bind f) (y.bind f)
  | .call e ps k, f => .call e ps fun r => (k r).bind f
def Oc.ofOption {α : Type} : Option α → Oc α
  | none => .fail
  | some a => .ok a
/-- Its answer. -/
def Oc.val {α : Type} : Oc α → Option α
  | .fail => none
  | .ok a => some a
  | .guard c n => bif c then n.val else none
  | .ite c x y => bif c then x.val else y.val
  | .call e ps k => (e.run (List PL) ps some).bind fun r => (k r).val
/-- What goes on behind it. -/
def Oc.runK {α R : Type} : Oc α → (α → Option R) → Option R
  | .fail, _ => none
  | .ok a, K => K a
  | .guard c n, K => bif c then n.runK K else none
  | .ite c x y, K => bif c then x.runK K else y.runK K
  | .call e ps k, K => e.run R ps fun r => (k r).runK K

theorem Oc.runK_eq {α R : Type} (x : Oc α) (K : α → Option R) : x.runK K = x.val.bind K := by
  induction x with
  | fail => rfl
  | ok a => rfl
  | guard c n ih => cases c <;> simp [Oc.runK, Oc.val, ih]
  | ite c x y ih1 ih2 => cases c <;> simp [Oc.runK, Oc.val, ih1, ih2]
  | call e ps k ih =>
    simp only [Oc.runK, Oc.val]
    rw [e.nat]
    cases e.run (List PL) ps some with
    | none => rfl
    | some r => simp [ih]
theorem Oc.val_bind {α β : Type} (x : Oc α) (f : α → Oc β) : (x.bind f).val = x.val.bind fun a => (f a).val := by
  induction x with
  | fail => rfl
  | ok a => rfl
  | guard c n ih => cases c <;> simp [Oc.bind, Oc.val, ih]
  | ite c x y ih1 ih2 => cases c <;> simp [Oc.bind, Oc.val, ih1, ih2]
  | call e ps k ih =>
    simp only [Oc.bind, Oc.val]
    cases e.run (List PL) ps some with
    | none => rfl
    | some r => simp [ih]
theorem Oc.val_ofOption {α : Type} (x : Option α) : (Oc.ofOption x).val = x := by cases x <;> rfl

def boxAt (s : St) (b : Nat) : Option (List L) := (s.boxes[b]?).bind id
def ownAt (s : St) (l : Nat) : Option Own := (s.owns[l]?).bind id
def setBox (s : St) (b : Nat) (ls : List L) : St := { s with boxes := s.boxes.set b (some ls) }
def setOwn (s : St) (l : Nat) (o : Option Own) : St := { s with owns := s.owns.set l o }

def freshB (s : St) (n : Nat) : Bool := (match s.boxes[n]? with | some none => true | _ => false) && s.all (L.noB n)
def freshO (s : St) (n : Nat) : Bool := (match s.owns[n]? with | some none => true | _ => false) && s.all (L.noO n)

/-- A row that is no longer written: whoever holds it holds what it is. -/
def frzL (n : Nat) (p : PL) : L → L
  | .own l => if l = n then .pv p else .own l
  | .ept l i o sz => if l = n then .dead else .ept l i o sz
  | l => l
def frz (s : St) (n : Nat) : St :=
  match ownAt s n with
  | some o => setOwn (s.map (frzL n ⟨.slice o.t, o.xs⟩)) n none
  | none => s
def killL (n : Nat) : L → L
  | .own l => if l = n then .dead else .own l
  | .ept l i o sz => if l = n then .dead else .ept l i o sz
  | l => l
def killO (s : St) (n : Nat) : St := setOwn (s.map (killL n)) n none

/-- A leaf as a datum: a row of the call's own as what it is. -/
def plOf (s : St) (t : Ty) : L → Option PL
  | .pv p => some p
  | .own l => (ownAt s l).map fun o => ⟨.slice o.t, o.xs⟩
  | .cst .sl => match t with | .slice e => some ⟨.slice e, ([] : List e.den)⟩ | _ => none
  | _ => none
def leafTys : Ty → List Ty
  | .nil => []
  | .cons a b => leafTys a ++ leafTys b
  | t => [t]
def plsOf (s : St) : List Ty → List L → Option (List PL)
  | [], [] => some []
  | t :: ts, l :: ls => (plOf s t l).bind fun p => (plsOf s ts ls).map fun ps => p :: ps
  | _, _ => none
def ownsOf : List L → List Nat
  | [] => []
  | .own l :: r => l :: ownsOf r
  | _ :: r => ownsOf r
def frzAll (s : St) : List Nat → St
  | [] => s
  | n :: r => frzAll (frz s n) r
/-- Leaves as one datum of a type. -/
def datum (s : St) (t : Ty) (ls : List L) : Option t.den :=
  (plsOf s (leafTys t) ls).bind fun ps => (unflat t ps).bind fun x => if x.2.isEmpty then some x.1 else none

def tyOf (P : Program) : Nat → Nat → Option Ty
  | 0, _ => none
  | n + 1, t => match P.underlying t with
    | some (.int k) => some (.int k)
    | some .bool => some .bool
    | some .string => some .str
    | some (.slice e) => (tyOf P n e).map .slice
    | some (.struct fs) => fs.toList.foldr (fun f r => r.bind fun b => (tyOf P n f.type).map fun a => .cons a b) (some .nil)
    | some (.array m e) => (tyOf P n e).map fun a => (List.replicate m a).foldr .cons .nil
    | _ => none
def tyDepth : Nat := 12
def elemOfSl (P : Program) (t : Nat) : Option Nat := match P.underlying t with | some (.slice e) => some e | _ => none
def isAggB (P : Program) (t : Nat) : Bool := match P.underlying t with | some (.struct _) => true | some (.array _ _) => true | _ => false
def zeroLs (P : Program) (t : Nat) : Option (List L) := ((P.info? t).bind fun i => i.zero).bind fun v => if v.cells.toList.all Value.oneCell' then some (v.cells.toList.map constL) else none
def sizeT (P : Program) (t : Nat) : Option Nat := (P.info? t).map fun i => i.size

def leavesOf : AV → Option (List L)
  | .cv c => some c.leaves
  | _ => none
def mkAV (agg : Bool) (ls : List L) : Option AV :=
  if agg then some (.cv (.agg ls)) else match ls with | [l] => some (lf l) | _ => none

def rdD (t : Ty) (xs : List t.den) (i : Nat) : t.den := xs.getD i t.dflt
def rdI (xs : List Int) (i : Nat) : Int := xs.getD i 0

/-- Binary operations on data: what is to be known, and the result. -/
def binI (op : BinOp) (k k' : IntKind) (x y : Int) : Option (Bool × PL) :=
  match op with
  | .shl => some (decide (0 ≤ y), ⟨.int k, k.wrap (x * 2 ^ (min y.toNat k.bits))⟩)
  | .shr => some (decide (0 ≤ y), ⟨.int k, x.fdiv (2 ^ (min y.toNat k.bits))⟩)
  | .add => if k = k' then some (true, ⟨.int k, k.wrap (x + y)⟩) else none
  | .sub => if k = k' then some (true, ⟨.int k, k.wrap (x - y)⟩) else none
  | .mul => if k = k' then some (true, ⟨.int k, k.wrap (x * y)⟩) else none
  | .quo => if k = k' then some (!decide (y = 0), ⟨.int k, k.wrap (x.tdiv y)⟩) else none
  | .rem => if k = k' then some (!decide (y = 0), ⟨.int k, x.tmod y⟩) else none
  | .and => if k = k' then some (true, ⟨.int k, k.wrap (BitVec.ofInt k.bits x &&& BitVec.ofInt k.bits y).toNat⟩) else none
  | .or => if k = k' then some (true, ⟨.int k, k.wrap (BitVec.ofInt k.bits x ||| BitVec.ofInt k.bits y).toNat⟩) else none
  | .xor => if k = k' then some (true, ⟨.int k, k.wrap (BitVec.ofInt k.bits x ^^^ BitVec.ofInt k.bits y).toNat⟩) else none
  | .andNot => if k = k' then some (true, ⟨.int k, k.wrap (BitVec.ofInt k.bits x &&& ~~~BitVec.ofInt k.bits y).toNat⟩) else none
  | .eql => if k = k' then some (true, ⟨.bool, x == y⟩) else none
  | .neq => if k = k' then some (true, ⟨.bool, x != y⟩) else none
  | .lss => if k = k' then some (true, ⟨.bool, decide (x < y)⟩) else none
  | .leq => if k = k' then some (true, ⟨.bool, decide (x ≤ y)⟩) else none
  | .gtr => if k = k' then some (true, ⟨.bool, decide (x > y)⟩) else none
  | .geq => if k = k' then some (true, ⟨.bool, decide (x ≥ y)⟩) else none
def ltS : List Int → List Int → Bool
  | _, [] => false
  | [], _ :: _ => true
  | a :: x, b :: y => decide (a < b) || (a == b && ltS x y)
def binS (op : BinOp) (x y : List Int) : Option (Bool × PL) :=
  match op with
  | .add => some (decide (x.length + y.length ≤ maxLen), ⟨.str, x ++ y⟩)
  | .eql => some (true, ⟨.bool, x == y⟩)
  | .neq => some (true, ⟨.bool, !(x == y)⟩)
  | .lss => some (true, ⟨.bool, ltS x y⟩)
  | .leq => some (true, ⟨.bool, ltS x y || x == y⟩)
  | .gtr => some (true, ⟨.bool, !(ltS x y || x == y)⟩)
  | .geq => some (true, ⟨.bool, !ltS x y⟩)
  | _ => none
def binB (op : BinOp) (x y : Bool) : Option (Bool × PL) :=
  match op with
  | .eql => some (true, ⟨.bool, x == y⟩)
  | .neq => some (true, ⟨.bool, !(x == y)⟩)
  | _ => none
def binP (op : BinOp) (p q : PL) : Option (Bool × PL) :=
  match p, q with
  | ⟨.int k, x⟩, ⟨.int k', y⟩ => binI op k k' x y
  | ⟨.str, x⟩, ⟨.str, y⟩ => binS op x y
  | ⟨.bool, x⟩, ⟨.bool, y⟩ => binB op x y
  | _, _ => none
/-- Against nil. -/
def nilEq : L → L → Option Bool
  | .cst .ptr, .cst .ptr => some true
  | .cst .ptr, .ptr _ _ => some false
  | .ptr _ _, .cst .ptr => some false
  | .cst .ptr, .ept _ _ _ _ => some false
  | .ept _ _ _ _, .cst .ptr => some false
  | .cst .ptr, .rpt _ => some false
  | .rpt _, .cst .ptr => some false
  | _, _ => none
def eqI (x y : Int) : Bool := x == y
def eqB (x y : Bool) : Bool := x == y
def eqS (x y : List Int) : Bool := x == y
/-- Structs of plain cells, compared. -/
def eqPL (P : Program) (t : Nat) (p q : PL) : Option Bool :=
  match P.underlying t, p, q with
  | some (.int _), ⟨.int k, x⟩, ⟨.int k', y⟩ => if k = k' then some (eqI x y) else none
  | some .bool, ⟨.bool, x⟩, ⟨.bool, y⟩ => some (eqB x y)
  | some .string, ⟨.str, x⟩, ⟨.str, y⟩ => some (eqS x y)
  | _, _, _ => none
def eqFs (P : Program) : List Field → List L → List L → Option Bool
  | [], _, _ => some true
  | f :: r, xs, ys => if f.name == "_" then none else match xs[f.offset]?, ys[f.offset]? with
    | some (.pv p), some (.pv q) => (eqPL P f.type p q).bind fun b => (eqFs P r xs ys).map fun s => b && s
    | _, _ => none
def eqSt (P : Program) (t : Nat) (xs ys : List L) : Option Bool :=
  match P.underlying t with
  | some (.struct fs) => if P.stoodInHeld t || P.eqGuardType P.depth t then none else eqFs P fs.toList xs ys
  | _ => none
/-- An interface against the nil that is written. -/
def nilI (P : Program) (ty : Nat) (a : L) (y : Operand) : Option Bool :=
  match P.underlying ty, y with
  | some (.interface _), .const .nilIface => match a with
    | .err b => some b
    | .ifc _ _ _ => some false
    | .cst .ifc => some true
    | _ => none
  | _, _ => none
def boolOk (P : Program) (ty : Nat) (p : PL) : Bool :=
  match p.t with
  | .bool => (match P.underlying ty with | some .bool => true | _ => false)
  | _ => true
def binOc (P : Program) (ty : Nat) (op : BinOp) (x y : L) : Oc L :=
  match x, y with
  | .pv p, .pv q => match binP op p q with
    | some (c, r) => if boolOk P ty p then .guard c (.ok (.pv r)) else .fail
    | none => .fail
  | _, _ => match op, nilEq x y, P.underlying ty with
    | .eql, some b, some (.pointer _) => .ok (pvB b)
    | .neq, some b, some (.pointer _) => .ok (pvB !b)
    | _, _, _ => .fail
def negI (k : IntKind) (n : Int) : Int := k.wrap (0 - n)
def notI (k : IntKind) (n : Int) : Int := k.wrap (BitVec.ofInt k.bits (if k.signed then -1 else k.max) ^^^ BitVec.ofInt k.bits n).toNat
def unOc (op : UnOp) (x : PL) : Option PL :=
  match op, x with
  | .not, ⟨.bool, b⟩ => some ⟨.bool, !b⟩
  | .neg, ⟨.int k, n⟩ => some ⟨.int k, negI k n⟩
  | .xor, ⟨.int k, n⟩ => some ⟨.int k, notI k n⟩
  | _, _ => none

end Go.Proofs.YtghmhkpgdmgepaaV
