import Derived.Test.YtghmhkpgdmgepaaV3
/-! The V engine, 4: the operations, and code. -/
set_option linter.unusedVariables false
set_option linter.unusedSimpArgs false
namespace Go.Proofs.YtghmhkpgdmgepaaV
open Go Go.RowKit

/-- A function's contract: the shapes in and out, and what it answers. -/
structure Sig where
  kin : Sk
  kout : Sk
  f : Fun1
/-- What a text is told by: the program, the functions' contracts, how long the rows of boxes are, how many boxes and rows came in, the shapes at the heads of code (by the number of its first region), rows that are cut as stacks. -/
structure Cfg where
  P : Program
  env : Nat → List Sig
  n : Nat
  npB : Nat
  npO : Nat
  hint : Nat → Option Sk
  pops : List Nat
  /-- Types of structs that begin with a strings.Builder. -/
  bl : List Nat := []

def fieldOff (P : Program) (S f : Nat) : Option (Nat × Nat) :=
  match P.underlying S with
  | some (.struct fs) => (fs[f]?).bind fun x => (sizeT P x.type).bind fun n => if n = 0 then none else some (x.offset, x.type)
  | _ => none
def isU8 (P : Program) (e : Nat) : Bool := match P.underlying e with | some (.int .u8) => true | _ => false
def isStrT (P : Program) (t : Nat) : Bool := match P.underlying t with | some .string => true | _ => false
def u8Row (P : Program) (e : Nat) : Bool := match P.info? e with | some i => (match i.zero with | some (.int .u8 n) => decide (n = 0) | _ => false) && (decide (i.bytes = 1) && decide (i.size = 1)) | none => false
def isIfc (P : Program) (t : Nat) : Bool := match P.underlying t with | some (.interface _) => true | none => true | _ => false
def pvs (ps : List PL) : List L := ps.map .pv
def zeroSize (P : Program) (e : Nat) : Option Nat := ((P.info? e).bind fun i => i.zero).map fun z => z.cells.size
def elemTy (P : Program) (e : Nat) : Option Ty := (tyOf P tyDepth e).bind fun t => if sizeT P e = some t.size ∧ 0 < t.size ∧ zeroSize P e = some t.size then some t else none
def bytesT (P : Program) (t : Nat) : Nat := ((P.info? t).map fun i => i.bytes).getD 0

/-- Leaves behind a pointer. -/
def loadLs (s : St) (n : Nat) : L → Option (List L)
  | .ptr b o => (boxAt s b).bind fun ls => if o + n ≤ ls.length then some ((ls.drop o).take n) else none
  | .rpt ps => if n ≤ ps.length then some (pvs (ps.take n)) else none
  | .ept l i o sz => (ownAt s l).bind fun w => if o + n ≤ w.t.size then some (pvs (((flat w.t (rdD w.t w.xs i)).drop o).take n)) else none
  | _ => none
def leaf1 : AV → Option L
  | .cv (.lf l) => some l
  | _ => none
def int1 : AV → Option Int
  | .cv (.lf (.pv ⟨.int _, n⟩)) => some n
  | _ => none
def bool1 : AV → Option Bool
  | .cv (.lf (.pv ⟨.bool, b⟩)) => some b
  | _ => none
def inB (i : Int) (n : Nat) : Bool := decide (0 ≤ i) && decide (i < (n : Int))
/-- The bounds of a slice expression. -/
def cutB (lo hi : Int) (n : Nat) : Bool := decide (0 ≤ lo) && (decide (lo ≤ hi) && decide (hi ≤ (n : Int)))
def cutL {α : Type} (xs : List α) (lo hi : Int) : List α := (xs.take hi.toNat).drop lo.toNat
def optInt (s : St) (d : Int) : Option Operand → Option Int
  | none => some d
  | some x => int1 (s.get x)

def splice (ls : List L) (o : Nat) (new : List L) : List L := ls.take o ++ new ++ ls.drop (o + new.length)
def fillLs (fs : Nat → Option (Nat × Nat)) (ls : List L) : List (Nat × List L) → Option (List L)
  | [] => some ls
  | (i, new) :: r => (fs i).bind fun x => if x.2 = new.length ∧ x.1 + new.length ≤ ls.length then fillLs fs (splice ls x.1 new) r else none
def partsOf (s : St) : List (Nat × Operand) → Option (List (Nat × List L))
  | [] => some []
  | (i, x) :: r => (leavesOf (s.get x)).bind fun ls => (partsOf s r).map fun q => (i, ls) :: q
def fnPtrs (s : St) : List Operand → Option (List (Nat × Nat))
  | [] => some []
  | x :: r => match leaf1 (s.get x) with
    | some (.ptr b o) => (fnPtrs s r).map fun q => (b, o) :: q
    | _ => none
def minI (x y : Int) : Int := if y < x then y else x
def maxI (x y : Int) : Int := if y > x then y else x
def min2P (p q : PL) : Option PL :=
  match p, q with
  | ⟨.int k, x⟩, ⟨.int k', y⟩ => if k = k' then some ⟨.int k, minI x y⟩ else none
  | _, _ => none
def max2P (p q : PL) : Option PL :=
  match p, q with
  | ⟨.int k, x⟩, ⟨.int k', y⟩ => if k = k' then some ⟨.int k, maxI x y⟩ else none
  | _, _ => none
def foldP (f : PL → PL → Option PL) : PL → List AV → Option PL
  | p, [] => some p
  | p, .cv (.lf (.pv q)) :: r => (f p q).bind fun x => foldP f x r
  | _, _ => none

def ownBytes (s : St) (l : Nat) : Option (List Int) := (ownAt s l).bind fun o => asTy (.slice (.int .u8)) ⟨.slice o.t, o.xs⟩
def placesOf (P : Program) (t : Nat) : Option (Nat → Option (Nat × Nat)) :=
  match P.underlying t with
  | some (.struct fs) => (fs.toList.mapM fun f => (P.info? f.type).map fun i => (f.offset, i.size)).map fun ps i => ps.toArray[i]?
  | some (.array _ e) => (P.info? e).map fun ie i => some (i * ie.size, ie.size)
  | _ => none
/-- A value that is only worked out (P: the program; no box, no row changes). -/
def opV (P : Program) (s : St) (op : Op) : Oc AV :=
  match op with
  | .move x => .ok (s.get x)
  | .assign x => .ok (s.get x)
  | .pick c a b => match bool1 (s.get c) with
    | some c => .ite c (.ok (s.get a)) (.ok (s.get b))
    | none => .fail
  | .build t ps => match zeroLs P t, partsOf s ps.toList, placesOf P t with
    | some z, some q, some f => .ofOption ((fillLs f z q).map fun ls => .cv (.agg ls))
    | _, _, _ => .fail
  | .load t a => match leaf1 (s.get a), sizeT P t with
    | some l, some n => if (P.underlying t).isSome then .ofOption ((loadLs s n l).bind fun ls => mkAV (isAggB P t) ls) else .fail
    | _, _ => .fail
  | .nilCheck x => match leaf1 (s.get x) with
    | some (.ptr b o) => .ok (lf (.ptr b o))
    | some (.rpt ps) => .ok (lf (.rpt ps))
    | some (.ept l i o z) => .ok (lf (.ept l i o z))
    | some (.fn f a c) => .ok (lf (.fn f a c))
    | _ => .fail
  | .binOp op ty x y _ => match leaf1 (s.get x), leaf1 (s.get y) with
    | some a, some b => match nilI P ty a y, op with
      | some r, .eql => .ok (lf (pvB r))
      | some r, .neq => .ok (lf (pvB !r))
      | _, _ => (binOc P ty op a b).bind fun r => .ok (lf r)
    | _, _ => match s.get x, s.get y, op with
      | .cv (.agg xs), .cv (.agg ys), .eql => .ofOption ((eqSt P ty xs ys).map fun r => lf (pvB r))
      | .cv (.agg xs), .cv (.agg ys), .neq => .ofOption ((eqSt P ty xs ys).map fun r => lf (pvB !r))
      | _, _, _ => .fail
  | .unOp op _ x => match leaf1 (s.get x) with
    | some (.pv p) => .ofOption ((unOc op p).map fun r => lf (.pv r))
    | _ => .fail
  | .convert a b x => match P.underlying a, P.underlying b, leaf1 (s.get x) with
    | some (.int _), some (.int k), some (.pv ⟨.int _, n⟩) => .ok (lf (pvI k (k.wrap n)))
    | some .string, some .string, some (.pv ⟨.str, q⟩) => .ok (lf (pvS q))
    | some (.slice e), some .string, some (.pv ⟨.slice (.int .u8), q⟩) => if isU8 P e then .ok (lf (pvS q)) else .fail
    | some (.slice e), some .string, some (.own l) => if isU8 P e then (match ownBytes s l with | some q => .ok (lf (pvS q)) | none => .fail) else .fail
    | some .string, some (.slice e), some (.pv ⟨.str, q⟩) => if isU8 P e then .ok (lf (pvL (.int .u8) q)) else .fail
    | _, _, _ => .fail
  | .makeInterface t x => if isIfc P t then .fail else match s.get x with
    | .cv (.lf l) => .ofOption ((plsAll [l]).map fun ps => lf (.ifc t ps false))
    | .cv (.agg ls) => .ofOption ((plsAll ls).map fun ps => lf (.ifc t ps true))
    | _ => .fail
  | .makeFunc (.func f) first caps => match fnPtrs s first.toList, fnPtrs s caps.toList with
    | some a, some c => .ok (lf (.fn f a c))
    | _, _ => .fail
  | .fieldAddr S x f => match fieldOff P S f, leaf1 (s.get x) with
    | some (k, _), some (.ptr b o) => .ok (lf (.ptr b (o + k)))
    | some (k, _), some (.rpt ps) => .ok (lf (.rpt (ps.drop k)))
    | some (k, _), some (.ept l i o z) => .ok (lf (.ept l i (o + k) z))
    | _, _ => .fail
  | .field S x f => match fieldOff P S f, s.get x with
    | some (k, t), .cv (.agg ls) => match sizeT P t with
      | some n => if k + n ≤ ls.length ∧ (P.underlying t).isSome then .ofOption (mkAV (isAggB P t) ((ls.drop k).take n)) else .fail
      | none => .fail
    | _, _ => .fail
  | .indexAddr T x i => match P.underlying T, leaf1 (s.get x), int1 (s.get i) with
    | some (.slice e), some (.own l), some i => match ownAt s l with
      | some w => if sizeT P e = some w.t.size then .guard (inB i w.xs.length) (.ok (lf (.ept l i.toNat 0 w.t.size))) else .fail
      | none => .fail
    | some (.slice e), some (.pv ⟨.slice t, xs⟩), some i => if sizeT P e = some t.size then .guard (inB i (List.length xs)) (.ok (lf (.rpt (flat t (rdD t xs i.toNat))))) else .fail
    | some (.array m e), some (.ptr b o), some i => match sizeT P e with
      | some n => .guard (inB i m) (.ok (lf (.ptr b (o + i.toNat * n))))
      | none => .fail
    | _, _, _ => .fail
  | .index T x i => match P.underlying T, leaf1 (s.get x), int1 (s.get i) with
    | some .string, some (.pv ⟨.str, q⟩), some i => .guard (inB i (List.length q)) (.ok (lf (pvI .u8 (rdI q i.toNat))))
    | _, _, _ => .fail
  | .extract t i => match s.get t with
    | .tup cs => match cs[i]? with
      | some c => .ok (.cv c)
      | none => .fail
    | _ => .fail
  | .slice T x lo hi none => match P.underlying T, leaf1 (s.get x) with
    | some .string, some (.pv ⟨.str, q⟩) => match optInt s 0 lo, optInt s (List.length q) hi with
      | some a, some b => .guard (cutB a b (List.length q)) (.ok (lf (pvS (cutL q a b))))
      | _, _ => .fail
    | some (.slice e), some (.pv ⟨.slice t, xs⟩) => match optInt s 0 lo, optInt s (List.length xs) hi with
      | some a, some b => if sizeT P e = some t.size then .guard (cutB a b (List.length xs)) (.ok (lf (pvL t (cutL xs a b)))) else .fail
      | _, _ => .fail
    | _, _ => .fail
  | .call { callee := .builtin .len, args := as, argTypes := ts } => match ts[0]?.bind P.underlying, as[0]?.bind fun x => leaf1 (s.get x) with
    | some .string, some (.pv ⟨.str, q⟩) => .ok (lf (pvI .i64 (List.length q)))
    | some (.slice _), some (.pv ⟨.slice _, q⟩) => .ok (lf (pvI .i64 (List.length q)))
    | some (.slice _), some (.own l) => match ownAt s l with
      | some w => .ok (lf (pvI .i64 w.xs.length))
      | none => .fail
    | some (.slice _), some (.cst .sl) => .ok (lf (pvI .i64 0))
    | _, _ => .fail
  | .call { callee := .builtin .min, args := as, argTypes := _ } => match as.toList.map s.get with
    | .cv (.lf (.pv p)) :: r => .ofOption ((foldP min2P p r).map fun x => lf (.pv x))
    | _ => .fail
  | .call { callee := .builtin .max, args := as, argTypes := _ } => match as.toList.map s.get with
    | .cv (.lf (.pv p)) :: r => .ofOption ((foldP max2P p r).map fun x => lf (.pv x))
    | _ => .fail
  | _ => .fail

def addBox (s : St) (d : Nat) (ls : List L) : Oc St :=
  if freshB s (N0 + d) then .ok ((setBox s (N0 + d) ls).put (some d) (lf (.ptr (N0 + d) 0))) else .fail
/-- A builder's own address is told as such. -/
def mkBld (bl : List Nat) (t n : Nat) (s : St) : St :=
  if bl.contains t then (match boxAt s n with | some (.cst .ptr :: r) => setBox s n (.bld n t true :: r) | _ => s) else s
def addBoxT (bl : List Nat) (t : Nat) (s : St) (d : Nat) (ls : List L) : Oc St := (addBox s d ls).bind fun s' => .ok (mkBld bl t (N0 + d) s')
def addOwn (s : St) (d : Nat) (o : Own) : Oc St :=
  if freshO s (N0 + d) then .ok ((setOwn s (N0 + d) (some o)).put (some d) (lf (.own (N0 + d)))) else .fail

/-- The elements of a slice that is told by its parts. -/
def partElems (s : St) (t : Ty) : List (Nat × List L) → List t.den → Option (List t.den)
  | [], xs => some xs
  | (i, ls) :: r, xs => if i < xs.length then (datum s t ls).bind fun x => partElems s t r (xs.set i x) else none

def appMax (P : Program) (e : Nat) (m n : Nat) : Bool := decide ((m + n) * bytesT P e ≤ 140737488355328) && decide (m + n ≤ maxLen)

/-- The row that is appended. -/
def srcOf (s : St) (t : Ty) : L → Option (List t.den)
  | .pv p => asTy (.slice t) p
  | .own l => (ownAt s l).bind fun o => asTy (.slice t) ⟨.slice o.t, o.xs⟩
  | .cst .sl => some []
  | _ => none

def appendOc (P : Program) (s : St) (d e : Nat) (a b : L) : Oc St :=
  match elemTy P e with
  | none => .fail
  | some t => match a with
    | .own l => match ownAt s l with
      | some w => if w.e = e then
          (match asTy (.slice t) ⟨.slice w.t, w.xs⟩, srcOf s t b with
          | some xs, some ys => .guard (appMax P e (List.length xs) ys.length) (addOwn (killO s l) d ⟨e, t, List.append xs ys⟩)
          | _, _ => .fail)
        else .fail
      | none => .fail
    | .cst .sl => match srcOf s t b with
      | some ys => .guard (appMax P e 0 ys.length) (addOwn s d ⟨e, t, ys⟩)
      | none => .fail
    | _ => .fail

def renPs (rB : List Nat) : List (Nat × Nat) → Option (List (Nat × Nat))
  | [] => some []
  | x :: r => (rB[x.1]?).bind fun b => (renPs rB r).map fun q => (b, x.2) :: q
/-- A leaf of what came back (o), by the caller's numbers. -/
def renL (o : St) (rB rO : List Nat) : L → L
  | .ptr b k => match rB[b]? with | some b' => .ptr b' k | none => .dead
  | .own l => match ownAt o l, rO[l]? with | some _, some l' => .own l' | _, _ => .dead
  | .ept l i k z => match ownAt o l, rO[l]? with | some _, some l' => .ept l' i k z | _, _ => .dead
  | .fn f a c => match renPs rB a, renPs rB c with | some a', some c' => .fn f a' c' | _, _ => .dead
  | .bld b t z => match rB[b]? with | some b' => .bld b' t z | none => .dead
  | l => l
def assignB (base stride : Nat) : List (Option Nat) → Nat → List Nat
  | [], _ => []
  | some l :: r, c => l :: assignB base stride r c
  | none :: r, c => (base + c * stride) :: assignB base stride r (c + 1)
def flatTy : Ty → Bool
  | .slice _ => false
  | .cons a b => flatTy a && flatTy b
  | _ => true
def flatL : L → Bool
  | .pv p => flatTy p.t
  | .rpt _ => false
  | .ifc _ ps _ => ps.all fun p => flatTy p.t
  | _ => true
def flatSt (s : St) : Bool := s.all flatL && s.owns.all fun o => match o with | some o => flatTy o.t | none => true
def setBoxes (s o : St) (f : L → L) : Nat → List Nat → St
  | _, [] => s
  | i, b :: r => setBoxes { s with boxes := s.boxes.set b ((boxAt o i).map (List.map f)) } o f (i + 1) r
def setOwns (s o : St) : Nat → List Nat → St
  | _, [] => s
  | i, l :: r => setOwns (setOwn s l (ownAt o i)) o (i + 1) r
/-- The numbers are those that went in, or fresh. -/
def chkB (s : St) : List (Option Nat) → List Nat → Bool
  | [], [] => true
  | some b :: r, x :: q => x == b && chkB s r q
  | none :: r, x :: q => freshB s x && decide (N0 ≤ x) && chkB s r q
  | _, _ => false
def chkO (s : St) : List (Option Nat) → List Nat → Bool
  | [], [] => true
  | some b :: r, x :: q => x == b && chkO s r q
  | none :: r, x :: q => freshO s x && decide (N0 ≤ x) && chkO s r q
  | _, _ => false
/-- A row that went in and came back has the same type. -/
def chkT (s o : St) : Nat → List (Option Nat) → Bool
  | _, [] => true
  | i, some l :: r => (match ownAt o i with | some x => (match ownAt s l with | some y => decide (y.t = x.t) | none => false) | none => true) && chkT s o (i + 1) r
  | i, none :: r => chkT s o (i + 1) r
def retAV : List AV → Option AV
  | [a] => some a
  | l => (l.foldr (fun a r => match a with | .cv c => r.map fun q => c :: q | _ => none) (some [])).map .tup
def backWith (s : St) (o : St) (d : Nat) (oB oO : List (Option Nat)) (rB rO : List Nat) : Option St :=
  if chkB s oB rB && chkO s oO rO && chkT s o 0 oO && nodupB rB && nodupB rO then
    (retAV (o.slots.map (AV.map (renL o rB rO)))).map fun v => (setOwns (setBoxes s o (renL o rB rO) 0 rB) o 0 rO).put (some d) v
  else none
/-- Behind a call: what came back (o), told by the caller's numbers. -/
def back (s : St) (c : Co) (o : St) (d : Nat) (nb no : Nat) : Option St :=
  let oB := c.mB.map some ++ List.replicate (nb - c.mB.length) none
  let oO := c.mO ++ List.replicate (no - c.mO.length) none
  if !c.bx.isEmpty && !flatSt o then none else
  backWith (if c.br.isEmpty || flatSt o then s else frzAll s c.br) o d oB oO (assignB (N0 + d) s.slots.length oB 0) (assignB (N0 + d) s.slots.length oO 0)

def callOc (s : St) (d : Nat) (args : List AV) : List Sig → Oc St
  | [] => .fail
  | g :: r => if g.f.pan.isSome then callOc s d args r else match co g.kin { s with slots := args } (max g.kin.boxes.length g.kin.owns.length) with
    | some c => match dec g.kin c.s with
      | some ps => .call g.f ps fun q => .ofOption (back s c (enc g.kout (max g.kout.boxes.length g.kout.owns.length) q) d g.kout.boxes.length g.kout.owns.length)
      | none => callOc s d args r
    | none => callOc s d args r

def opE (C : Cfg) (s : St) (dst : Option Nat) (op : Op) : Oc St :=
  match op, dst with
  | .alloc t, some d => match zeroLs C.P t with
    | some ls => addBoxT C.bl t s d ls
    | none => .fail
  | .box t x, some d => match leavesOf (s.get x) with
    | some ls => addBoxT C.bl t s d ls
    | none => .fail
  | .store t a x, none => match leaf1 (s.get a), leavesOf (s.get x), sizeT C.P t with
    | some (.ptr b o), some new, some n => match boxAt s b with
      | some ls => if new.length = n ∧ o + n ≤ ls.length then .ok (setBox s b (splice ls o new)) else .fail
      | none => .fail
    | some (.ept l i o z), some new, some n => match ownAt s l with
      | some w => if new.length = n ∧ o + n ≤ w.t.size then
          (match plsOf s ((leafTys w.t).drop o |>.take n) new with
          | some ps => match unflat w.t ((flat w.t (rdD w.t w.xs i)).take o ++ ps ++ (flat w.t (rdD w.t w.xs i)).drop (o + n)) with
            | some (x, []) => if (ownsOf new).contains l then .fail else .ok (setOwn (frzAll s (ownsOf new)) l (some ⟨w.e, w.t, w.xs.set i x⟩))
            | _ => .fail
          | none => .fail)
        else .fail
      | none => .fail
    | _, _, _ => .fail
  | .buildSlice t len ps, some d => match elemOfSl C.P t with
    | some e => match elemTy C.P e, partsOf s ps.toList, zeroLs C.P e with
      | some te, some q, some z => match datum s te z with
        | some x => match partElems s te q (List.replicate len x) with
          | some xs => if len * te.size ≤ 16777216 then addOwn (frzAll s (q.flatMap fun x => ownsOf x.2)) d ⟨e, te, xs⟩ else .fail
          | none => .fail
        | none => .fail
      | _, _, _ => .fail
    | none => .fail
  | .makeSlice t l c, some d => match elemOfSl C.P t, int1 (s.get l), int1 (s.get c) with
    | some e, some n, some m => match elemTy C.P e, zeroLs C.P e with
      | some te, some z => match datum s te z with
        | some x => .guard (decide (0 ≤ n) && decide (n = m) && decide ((bytesT C.P e : Int) * n ≤ 140737488355328) && decide (n ≤ 9223372036854775807)) (addOwn s d ⟨e, te, List.replicate n.toNat x⟩)
        | none => .fail
      | _, _ => .fail
    | _, _, _ => .fail
  | .slice T x lo hi none, some d => match leaf1 (s.get x) with
    | some (.own l) => match elemOfSl C.P T, ownAt s l with
      | some e, some w => match optInt s 0 lo, optInt s w.xs.length hi with
        | some a, some b => if sizeT C.P e = some w.t.size then
            (if C.pops.contains d then
              (match lo with
              | none => .guard (cutB a b w.xs.length) (addOwn (killO s l) d ⟨w.e, w.t, w.xs.take b.toNat⟩)
              | some _ => .fail)
            else .guard (cutB a b w.xs.length) (.ok ((frz s l).put (some d) (lf (pvL w.t (cutL w.xs a b))))))
          else .fail
        | _, _ => .fail
      | _, _ => .fail
    | _ => (opV C.P s op).bind fun v => .ok (s.put dst v)
  | .convert a b x, some d => match leaf1 (s.get x) with
    | some (.own l) => if a = b then
        (match elemOfSl C.P a, ownAt s l with
        | some e, some w => if isU8 C.P e then .guard (decide (0 < w.xs.length)) (.ok ((frz s l).put (some d) (lf (pvL w.t w.xs)))) else .fail
        | _, _ => .fail)
      else (opV C.P s op).bind fun v => .ok (s.put dst v)
    | _ => (opV C.P s op).bind fun v => .ok (s.put dst v)
  | .call { callee := .builtin .append, args := as, argTypes := ts }, some d => match as.toList, ts.toList with
    | [a, b], [t, u] => if t = u then
        (match leaf1 (s.get a), leaf1 (s.get b), elemOfSl C.P t with
        | some a, some b, some e => appendOc C.P s d e a b
        | _, _, _ => .fail)
      else if isStrT C.P u then
        (match leaf1 (s.get a), leaf1 (s.get b), elemOfSl C.P t with
        | some a, some (.pv ⟨.str, y⟩), some e => if u8Row C.P e then appendOc C.P s d e a (pvL (.int .u8) y) else .fail
        | _, _, _ => .fail)
      else .fail
    | _, _ => .fail
  | .call { callee := .value f, args := as, argTypes := ts }, some d => match leaf1 (s.get f) with
    | some (.fn g first caps) => callOc s d (first.map (fun x => lf (.ptr x.1 x.2)) ++ as.toList.map s.get ++ caps.map (fun x => lf (.ptr x.1 x.2))) (C.env g)
    | _ => .fail
  | _, _ => (opV C.P s op).bind fun v => .ok (s.put dst v)

/-- Operations that only work out a value. -/
def isV : Op → Bool
  | .move _ => true
  | .assign _ => true
  | .pick _ _ _ => true
  | .build _ _ => true
  | .load _ _ => true
  | .nilCheck _ => true
  | .binOp _ _ _ _ _ => true
  | .unOp _ _ _ => true
  | .convert _ _ _ => true
  | .makeInterface _ _ => true
  | .makeFunc _ _ _ => true
  | .fieldAddr _ _ _ => true
  | .field _ _ _ => true
  | .indexAddr _ _ _ => true
  | .index _ _ _ => true
  | .extract _ _ => true
  | .slice _ _ _ _ _ => true
  | .call { callee := .builtin .len, args := _, argTypes := _ } => true
  | .call { callee := .builtin .min, args := _, argTypes := _ } => true
  | .call { callee := .builtin .max, args := _, argTypes := _ } => true
  | .call { callee := .value _, args := _, argTypes := _ } => true
  | _ => false
def isCall : Op → Bool
  | .call { callee := .value _, args := _, argTypes := _ } => true
  | _ => false
/-- What came back, where nothing but data went in and out. -/
def backV (c : Co) (g : Sig) (o : St) : Option AV :=
  if g.kin.boxes.isEmpty && g.kin.owns.isEmpty && g.kout.boxes.isEmpty && g.kout.owns.isEmpty && ((c.br.isEmpty && c.bx.isEmpty) || flatSt o) then retAV (o.slots.map (AV.map (renL o [] []))) else none
def callV (s : St) (args : List AV) : List Sig → Oc AV
  | [] => .fail
  | g :: r => if g.f.pan.isSome then callV s args r else match co g.kin { s with slots := args } (max g.kin.boxes.length g.kin.owns.length) with
    | some c => match dec g.kin c.s with
      | some ps => .call g.f ps fun q => .ofOption (backV c g (enc g.kout (max g.kout.boxes.length g.kout.owns.length) q))
      | none => callV s args r
    | none => callV s args r
/-- What comes back is data. -/
def Sig.plain (g : Sig) : Bool := g.kout.boxes.isEmpty && g.kout.owns.isEmpty
def opVD (C : Cfg) (s : St) (op : Op) : Oc AV :=
  match op with
  | .call { callee := .value f, args := as, argTypes := _ } => match leaf1 (s.get f) with
    | some (.fn g first caps) => callV s (first.map (fun x => lf (.ptr x.1 x.2)) ++ as.toList.map s.get ++ caps.map (fun x => lf (.ptr x.1 x.2))) ((C.env g).filter Sig.plain)
    | _ => .fail
  | op => opV C.P s op
/-- Operations that make a row of the call's own. -/
def isEop : Op → Bool
  | .buildSlice _ _ _ => true
  | .call { callee := .builtin .append, args := _, argTypes := _ } => true
  | _ => false
/-- In a region that draws its order. -/
def opD (C : Cfg) (s : St) (dst : Option Nat) (op : Op) : Oc St :=
  if isV op then (if isCall op && dst.isNone then .fail else (opVD C s op).bind fun v => .ok (s.put dst v)) else if isEop op then (match dst with | some d => opE C (killO s (N0 + d)) dst op | none => .fail) else opE C s dst op

def isUnd : AV → Bool
  | .tup [] => true
  | _ => false
def operOc (f : St → Option Nat → Op → Oc St) (all : Array Oper) (s : St) (o : Oper) : Oc St :=
  match o.guard with
  | none => f s o.dst o.op
  | some (j, want) => match (all[j]?).bind (·.dst) with
    | some g => match bool1 (s.get (.tmp g)) with
      | some c =>
        let t := s.put (some g) (lf (pvB true))
        let n := s.put (some g) (lf (pvB false))
        if want then .ite c (f t o.dst o.op) (.ok (n.put o.dst (.tup []))) else .ite c (.ok (t.put o.dst (.tup []))) (f n o.dst o.op)
      | none => if isUnd (s.get (.tmp g)) then .ok (s.put o.dst (.tup [])) else .fail
    | none => .fail

def opsK (f : St → Option Nat → Op → Oc St) (all : Array Oper) {R : Type} : List Oper → St → (St → Option R) → Option R
  | [], s, K => K s
  | o :: r, s, K => (operOc f all s o).runK fun s' => opsK f all r s' K

inductive XE where
  | normal | exit (id : Nat) | ret | pan (t : Nat) (ps : List PL) (g : Bool)

/-! #### panics -/
def flat1 : Ty → Bool
  | .int _ => true
  | .bool => true
  | .str => true
  | _ => false
/-- What a call that panicked may have changed is no longer told. -/
def killLf (bs os : List Nat) (l : L) : L := if (bs.all fun n => l.noB n) && (os.all fun n => l.noO n) then l else .dead
def killIn (s : St) (bs os : List Nat) : St :=
  { slots := s.slots.map (AV.map (killLf bs os))
    boxes := (List.range s.boxes.length).map fun b => if bs.contains b then none else (boxAt s b).map (List.map (killLf bs os))
    owns := (List.range s.owns.length).map fun l => if os.contains l then none else ownAt s l }
def callPc (s : St) (d : Nat) (args : List AV) : List Sig → Oc (XE × St)
  | [] => .fail
  | g :: r => match co g.kin { s with slots := args } (max g.kin.boxes.length g.kin.owns.length) with
    | some c => match dec g.kin c.s with
      | some ps => match g.f.pan with
        | none => .call g.f ps fun q => (Oc.ofOption (back s c (enc g.kout (max g.kout.boxes.length g.kout.owns.length) q) d g.kout.boxes.length g.kout.owns.length)).bind fun s' => .ok (.normal, s')
        | some p => .call g.f ps fun q => match q with
          | ⟨.bool, false⟩ :: q => (Oc.ofOption (back s c (enc g.kout (max g.kout.boxes.length g.kout.owns.length) q) d g.kout.boxes.length g.kout.owns.length)).bind fun s' => .ok (.normal, s')
          | ⟨.bool, true⟩ :: q => .ok (.pan p.1 q p.2.2, killIn s c.mB (somes c.mO))
          | _ => .fail
      | none => callPc s d args r
    | none => callPc s d args r
/-- One operation, that may panic. -/
def opP (C : Cfg) (s : St) (dst : Option Nat) (op : Op) : Oc (XE × St) :=
  match op, dst with
  | .panic x, _ => match leaf1 (s.get x) with
    | some (.ifc t ps g) => if ps.all fun p => flat1 p.t then .ok (.pan t ps g, s) else .fail
    | _ => .fail
  | .call { callee := .value f, args := as, argTypes := ts }, some d => match leaf1 (s.get f) with
    | some (.fn g first caps) => callPc s d (first.map (fun x => lf (.ptr x.1 x.2)) ++ as.toList.map s.get ++ caps.map (fun x => lf (.ptr x.1 x.2))) (C.env g)
    | _ => .fail
  | _, _ => (opE C s dst op).bind fun s' => .ok (.normal, s')
def operP (C : Cfg) (all : Array Oper) (s : St) (o : Oper) : Oc (XE × St) :=
  match o.guard with
  | none => opP C s o.dst o.op
  | some (j, want) => match (all[j]?).bind (·.dst) with
    | some g => match bool1 (s.get (.tmp g)) with
      | some c =>
        let t := s.put (some g) (lf (pvB true))
        let n := s.put (some g) (lf (pvB false))
        if want then .ite c (opP C t o.dst o.op) (.ok (.normal, n.put o.dst (.tup []))) else .ite c (.ok (.normal, t.put o.dst (.tup []))) (opP C n o.dst o.op)
      | none => if isUnd (s.get (.tmp g)) then .ok (.normal, s.put o.dst (.tup [])) else .fail
    | none => .fail
def goP {R : Type} (f : St → Option R) (K : XE → St → Option R) (x : XE × St) : Option R :=
  match x.1 with
  | .normal => f x.2
  | e => K e x.2
def opsP (C : Cfg) (all : Array Oper) {R : Type} : List Oper → St → (XE → St → Option R) → Option R
  | [], s, K => K .normal s
  | o :: r, s, K => (operP C all s o).runK (goP (fun s' => opsP C all r s' K) K)

def firstR : Code → Option Nat
  | .region id _ _ => some id
  | .seq a _ => firstR a
  | .block _ b => firstR b
  | .loop b => firstR b
  | .scope b => firstR b
  | _ => none
def fixB (n : Nat) (l : List Nat) : Bool := (List.range n).all fun i => l.getD i (i + 1) == i
def fixO (n : Nat) (l : List (Option Nat)) (os : List (Option (Nat × Ty))) : Bool :=
  (List.range n).all fun i => (match os.getD i none with | none => true | some _ => (match l.getD i none with | some j => j == i | none => false))
/-- A state, told as the shape at the head of the code that follows. -/
def norm {R : Type} (C : Cfg) (c : Code) (s : St) (K : St → Option R) : Option R :=
  match (firstR c).bind C.hint with
  | none => K s
  | some k => match co k s C.n with
    | some x => if fixB C.npB x.mB && fixO C.npO x.mO k.owns then K x.s else none
    | none => none
def iterN {R : Type} (F : (St → Option R) → St → Option R) : Nat → St → Option R
  | 0, _ => none
  | k + 1, s => F (iterN F k) s
/-- Which operations are surely ahead of each. -/
def insN (x : Nat) (l : List Nat) : List Nat := if l.contains x then l else x :: l
def addAll : List Nat → List Nat → List Nat
  | [], l => l
  | x :: r, l => addAll r (insN x l)
def ancOf (acc : List (List Nat)) : List Edge → List Nat
  | [] => []
  | e :: r => if Region.binds .any e then insN e.on (addAll (acc.getD e.on []) (ancOf acc r)) else ancOf acc r
def ancs : List Oper → List (List Nat) → List (List Nat)
  | [], acc => acc
  | o :: r, acc => ancs r (acc ++ [ancOf acc o.after.toList])
def edgesOk : List Oper → Nat → Bool
  | [], _ => true
  | o :: r, i => o.after.toList.all (fun e => !Region.binds .any e || decide (e.on < i)) && edgesOk r (i + 1)
/-- It only works out a value, and the value goes somewhere. -/
def isW (o : Oper) : Bool := isV o.op && (!(isCall o.op) || o.dst.isSome)
/-- Operations that only read: moves, and fields and boxes. -/
def isLop : Op → Bool
  | .move _ => true
  | .assign _ => true
  | .fieldAddr _ _ _ => true
  | .load _ _ => true
  | _ => false
def isMop : Op → Bool
  | .move _ => true
  | .assign _ => true
  | _ => false
def isK (f : Op → Bool) (o : Oper) : Bool := o.guard.isNone && (o.dst.isSome && f o.op)
/-- Two that may change places. -/
def pairB (ops : Array Oper) (y x : Oper) : Bool := ((isW y && isW x) || ((isK isEop y && isK isLop x) || (isK isMop y && isK isEop x))) && y.apart ops x
/-- One operation beside those ahead of it in the text. -/
def pairOk (ops : Array Oper) (x : Oper) (an : List Nat) : List Oper → Nat → Bool
  | [], _ => true
  | y :: r, j => (an.contains j || pairB ops y x) && pairOk ops x an r (j + 1)
def pairsOk (ops : Array Oper) (an : List (List Nat)) (done : List Oper) : List Oper → Nat → Bool
  | [], _ => true
  | x :: r, i => pairOk ops x (an.getD i []) done 0 && pairsOk ops an (done ++ [x]) r (i + 1)
def commutes (ops : Array Oper) : Bool := edgesOk ops.toList 0 && pairsOk ops (ancs ops.toList []) [] ops.toList 0

def seqK {R : Type} (C : Cfg) (b : Code) (f : St → (XE → St → Option R) → Option R) (K : XE → St → Option R) : XE → St → Option R
  | .normal, s => norm C b s fun s => f s K
  | e, s => K e s
def blkK {R : Type} (id : Nat) (K : XE → St → Option R) : XE → St → Option R
  | .exit i, s => if i = id then K .normal s else K (.exit i) s
  | e, s => K e s
def loopK {R : Type} (C : Cfg) (b : Code) (rec : St → Option R) (K : XE → St → Option R) : XE → St → Option R
  | .normal, s => norm C b s rec
  | e, s => K e s
def bodyK {R : Type} (C : Cfg) (b : Code) (f : St → (XE → St → Option R) → Option R) (K : XE → St → Option R) (rec : St → Option R) (s : St) : Option R := f s (loopK C b rec K)

/-- What a branch knows. -/
def refine (s : St) (c : Operand) (b : Bool) : St := match c with | .tmp t => s.put (some t) (lf (pvB b)) | _ => s

def ev (C : Cfg) (k : Nat) {R : Type} : Code → St → (XE → St → Option R) → Option R
  | .skip, s, K => K .normal s
  | .region _ ops draw, s, K => if draw then (if commutes ops then opsK (opD C) ops ops.toList s (K .normal) else none) else opsP C ops ops.toList s K
  | .seq a b, s, K => ev C k a s (seqK C b (ev C k b) K)
  | .cond c x y, s, K => match bool1 (s.get c) with
    | some b => bif b then ev C k x (refine s c true) K else ev C k y (refine s c false) K
    | none => none
  | .block id b, s, K => ev C k b s (blkK id K)
  | .loop b, s, K => norm C b s (iterN (bodyK C b (ev C k b) K) k)
  | .exit id, s, K => K (.exit id) s
  | .ret, s, K => K .ret s
  | .label _, s, K => K .normal s
  | _, _, _ => none

/-- What a result is read from. -/
def resAV (P : Program) (s : St) : ResultVar → Option AV
  | .tmp t => some (s.slots.getD t .dead)
  | .cell a t => (leaf1 (s.slots.getD a .dead)).bind fun l => (sizeT P t).bind fun n => (loadLs s n l).bind fun ls => if (P.underlying t).isSome then mkAV (isAggB P t) ls else none
def resAVs (P : Program) (s : St) : List ResultVar → Option (List AV)
  | [] => some []
  | r :: q => (resAV P s r).bind fun a => (resAVs P s q).map fun b => a :: b
/-- The end of a function: its answer by the shape out. -/
def finish (C : Cfg) (rs : Array ResultVar) (k : Sk) (s : St) : Option (HLs k.tys) :=
  (resAVs C.P s rs.toList).bind fun as => (co k { s with slots := as } (max k.boxes.length k.owns.length)).bind fun c =>
    if fixB C.npB c.mB && fixO C.npO c.mO k.owns then (dec k c.s).bind fun ps => ofPL k.tys ps else none
def retK (C : Cfg) (rs : Array ResultVar) (k : Sk) : XE → St → Option (HLs k.tys)
  | .normal, s => finish C rs k s
  | .ret, s => finish C rs k s
  | _, _ => none
/-- .. of a function that may panic. -/
def retKP (C : Cfg) (rs : Array ResultVar) (k : Sk) (pt : Nat) (tp : List Ty) (pg : Bool) : XE → St → Option (HLs k.tys ⊕ HLs tp)
  | .normal, s => (finish C rs k s).map .inl
  | .ret, s => (finish C rs k s).map .inl
  | .pan t ps g, _ => if t == pt && g == pg then (ofPL tp ps).map .inr else none
  | _, _ => none

/-- A place in code: which way through it. -/
inductive Step1 where
  | l | r | b | t | e
def codeAt : Code → List Step1 → Code
  | c, [] => c
  | .seq a _, .l :: p => codeAt a p
  | .seq _ b, .r :: p => codeAt b p
  | .block _ b, .b :: p => codeAt b p
  | .loop b, .b :: p => codeAt b p
  | .scope b, .b :: p => codeAt b p
  | .cond _ x _, .t :: p => codeAt x p
  | .cond _ _ y, .e :: p => codeAt y p
  | _, _ => .refuse ""
/-- What goes on behind a place; ks: for each loop around it how many rounds are left. -/
def ctxAt (C : Cfg) (k : Nat) {R : Type} : Code → List Step1 → List Nat → (XE → St → Option R) → (XE → St → Option R)
  | _, [], _, K => K
  | .seq a b, .l :: p, ks, K => ctxAt C k a p ks (seqK C b (ev C k b) K)
  | .seq _ b, .r :: p, ks, K => ctxAt C k b p ks K
  | .block id b, .b :: p, ks, K => ctxAt C k b p ks (blkK id K)
  | .loop b, .b :: p, j :: ks, K => ctxAt C k b p ks (loopK C b (iterN (bodyK C b (ev C k b) K) j) K)
  | .scope b, .b :: p, ks, K => ctxAt C k b p ks K
  | .cond _ x _, .t :: p, ks, K => ctxAt C k x p ks K
  | .cond _ _ y, .e :: p, ks, K => ctxAt C k y p ks K
  | _, _, _, K => K
/-- From a place on. -/
def evAt (C : Cfg) (k : Nat) {R : Type} (c : Code) (p : List Step1) (ks : List Nat) (K : XE → St → Option R) (s : St) : Option R :=
  ev C k (codeAt c p) s (ctxAt C k c p ks K)
/-- From a loop's head on, with j rounds left. -/
def loopAt (C : Cfg) (k : Nat) {R : Type} (c : Code) (p : List Step1) (ks : List Nat) (j : Nat) (K : XE → St → Option R) (s : St) : Option R :=
  match codeAt c p with
  | .loop b => iterN (bodyK C b (ev C k b) (ctxAt C k c p ks K)) j s
  | _ => none

def bodyOf (f : Func) : Code := match f.body with | some c => c | none => .skip
/-- The Lean function of a Go function that may panic. -/
def fnOfP (C : Cfg) (k : Nat) (f : Func) (kin kout : Sk) (pt : Nat) (tp : List Ty) (pg : Bool) (x : HLs kin.tys) : Option (HLs kout.tys ⊕ HLs tp) :=
  ev C k (bodyOf f) { enc kin C.n (toPL _ x) with slots := encAs kin.slots (toPL _ x) ++ List.replicate (f.ntmps - kin.slots.length) .dead } (retKP C f.results kout pt tp pg)
/-- What goes on behind a call that may panic. -/
def orP {α β γ : Type} (f : α → γ) (g : β → γ) : α ⊕ β → γ
  | .inl x => f x
  | .inr y => g y
def mkFunP (tin tout : List Ty) (pt : Nat) (tp : List Ty) (pg : Bool) (f : HLs tin → Option (HLs tout ⊕ HLs tp)) : Fun1 where
  run R ps K := match ofPL tin ps with
    | some x => (f x).bind (orP (fun y => K (⟨.bool, false⟩ :: toPL tout y)) (fun y => K (⟨.bool, true⟩ :: toPL tp y)))
    | none => none
  nat R ps K := by
    cases ofPL tin ps with
    | none => rfl
    | some x =>
      simp only [Option.bind_assoc]
      congr 1
      funext y
      cases y <;> rfl
  pan := some (pt, tp, pg)
/-- The Lean function of a Go function. -/
def fnOf (C : Cfg) (k : Nat) (f : Func) (kin kout : Sk) (x : HLs kin.tys) : Option (HLs kout.tys) :=
  ev C k (bodyOf f) { enc kin C.n (toPL _ x) with slots := encAs kin.slots (toPL _ x) ++ List.replicate (f.ntmps - kin.slots.length) .dead } (retK C f.results kout)
def mkFun (tin tout : List Ty) (f : HLs tin → Option (HLs tout)) : Fun1 where
  run R ps K := match ofPL tin ps with
    | some x => (f x).bind fun y => K (toPL tout y)
    | none => none
  nat R ps K := by
    cases ofPL tin ps with
    | none => rfl
    | some x => simp [Option.bind_assoc]

end Go.Proofs.YtghmhkpgdmgepaaV
