import Derived.Test.YtghmhkpgdmgepaaV2
/-! The V engine, 3: the shapes of states; one state told as another of a given shape. -/
set_option linter.unusedVariables false
set_option linter.unusedSimpArgs false
namespace Go.Proofs.YtghmhkpgdmgepaaV
open Go Go.RowKit

inductive SL where
  | dead
  | pv (t : Ty)
  | nil (k : NilK)
  | ptr (b o : Nat)
  | own (l : Nat)
  | ept (l o sz : Nat)
  | rpt (ts : List Ty)
  | fn (f : Nat) (first caps : List (Nat × Nat))
  | ifc (t : Nat) (ts : List Ty) (agg : Bool)
  | err
  | bld (b t : Nat)
inductive SA where
  | dead
  | lf (l : SL)
  | agg (ls : List SL)
structure Sk where
  slots : List SA
  boxes : List (List SL)
  owns : List (Option (Nat × Ty))

def look {α : Type} (d : α) : List (Nat × α) → Nat → α
  | [], _ => d
  | (k, v) :: r, i => if k = i then v else look d r i
/-- Slots by number. -/
def sparse (n : Nat) (l : List (Nat × SA)) : List SA := (List.range n).map fun i => look .dead l i

/-! #### shapes filled in, and told -/
def SL.tys : SL → List Ty
  | .pv t => [t]
  | .ept _ _ _ => [.int .i64]
  | .rpt ts => ts
  | .ifc _ ts _ => ts
  | .err => [.bool]
  | .bld _ _ => [.bool]
  | _ => []
def SA.leaves : SA → List SL
  | .dead => []
  | .lf l => [l]
  | .agg ls => ls
def tysLs : List SL → List Ty
  | [] => []
  | s :: r => s.tys ++ tysLs r
def tysAs : List SA → List Ty
  | [] => []
  | s :: r => tysLs s.leaves ++ tysAs r
def tysBs : List (List SL) → List Ty
  | [] => []
  | s :: r => tysLs s ++ tysBs r
def tysOs : List (Option (Nat × Ty)) → List Ty
  | [] => []
  | some x :: r => .slice x.2 :: tysOs r
  | none :: r => tysOs r
def Sk.tys (s : Sk) : List Ty := tysAs s.slots ++ (tysBs s.boxes ++ tysOs s.owns)

/-- Data in a row, by their types. -/
def HLs : List Ty → Type
  | [] => Unit
  | [t] => t.den
  | t :: u :: r => t.den × HLs (u :: r)
def toPL : (ts : List Ty) → HLs ts → List PL
  | [], _ => []
  | [t], x => [⟨t, x⟩]
  | t :: u :: r, x => ⟨t, x.1⟩ :: toPL (u :: r) x.2
def ofPL : (ts : List Ty) → List PL → Option (HLs ts)
  | [], [] => some ()
  | [t], [p] => asTy t p
  | t :: u :: r, p :: ps => (asTy t p).bind fun x => (ofPL (u :: r) ps).bind fun y => some (x, y)
  | _, _ => none

def encL : SL → List PL → L
  | .dead, _ => .dead
  | .pv _, ps => match ps with | p :: _ => .pv p | [] => .dead
  | .nil k, _ => .cst k
  | .ptr b o, _ => .ptr b o
  | .own l, _ => .own l
  | .ept l o sz, ps => match ps with | ⟨.int _, i⟩ :: _ => .ept l (Int.toNat i) o sz | _ => .dead
  | .rpt ts, ps => .rpt (ps.take ts.length)
  | .fn f a c, _ => .fn f a c
  | .ifc t ts g, ps => .ifc t (ps.take ts.length) g
  | .err, ps => match ps with | ⟨.bool, b⟩ :: _ => .err b | _ => .dead
  | .bld b t, ps => match ps with | ⟨.bool, z⟩ :: _ => .bld b t z | _ => .dead
def encLs : List SL → List PL → List L
  | [], _ => []
  | s :: r, ps => encL s ps :: encLs r (ps.drop s.tys.length)
def encA : SA → List PL → AV
  | .dead, _ => .dead
  | .lf l, ps => .cv (.lf (encL l ps))
  | .agg ls, ps => .cv (.agg (encLs ls ps))
def encAs : List SA → List PL → List AV
  | [], _ => []
  | s :: r, ps => encA s ps :: encAs r (ps.drop (tysLs s.leaves).length)
def encBs : List (List SL) → List PL → List (Option (List L))
  | [], _ => []
  | s :: r, ps => some (encLs s ps) :: encBs r (ps.drop (tysLs s).length)
def encOs : List (Option (Nat × Ty)) → List PL → List (Option Own)
  | [], _ => []
  | some x :: r, ps => (match ps with | p :: _ => (asTy (.slice x.2) p).map fun xs => ⟨x.1, x.2, xs⟩ | [] => none) :: encOs r (ps.drop 1)
  | none :: r, ps => none :: encOs r ps
/-- A state of a shape; nB, nO: how long its rows of boxes and of own rows are. -/
def enc (k : Sk) (n : Nat) (ps : List PL) : St :=
  { slots := encAs k.slots ps
    boxes := encBs k.boxes (ps.drop (tysAs k.slots).length) ++ List.replicate (n - k.boxes.length) none
    owns := encOs k.owns (ps.drop ((tysAs k.slots).length + (tysBs k.boxes).length)) ++ List.replicate (n - k.owns.length) none }

def pairEq : List (Nat × Nat) → List (Nat × Nat) → Bool
  | [], [] => true
  | a :: r, b :: s => a.1 == b.1 && a.2 == b.2 && pairEq r s
  | _, _ => false
def tysEq : List Ty → List PL → Bool
  | [], [] => true
  | t :: r, p :: s => decide (p.t = t) && tysEq r s
  | _, _ => false
def decL : SL → L → Option (List PL)
  | .dead, .dead => some []
  | .pv t, .pv p => if p.t = t then some [p] else none
  | .nil k, .cst k' => if k.eqb k' then some [] else none
  | .ptr b o, .ptr b' o' => if b == b' && o == o' then some [] else none
  | .own l, .own l' => if l == l' then some [] else none
  | .ept l o sz, .ept l' i o' sz' => if l == l' && o == o' && sz == sz' then some [⟨.int .i64, Int.ofNat i⟩] else none
  | .rpt ts, .rpt ps => if tysEq ts ps then some ps else none
  | .fn f a c, .fn f' a' c' => if f == f' && pairEq a a' && pairEq c c' then some [] else none
  | .ifc t ts g, .ifc t' ps g' => if t == t' && g == g' && tysEq ts ps then some ps else none
  | .err, .err b => some [⟨.bool, b⟩]
  | .bld b t, .bld b' t' z => if b == b' && t == t' then some [⟨.bool, z⟩] else none
  | _, _ => none
def decLs : List SL → List L → Option (List PL)
  | [], [] => some []
  | s :: r, l :: q => (decL s l).bind fun a => (decLs r q).bind fun b => some (a ++ b)
  | _, _ => none
def decA : SA → AV → Option (List PL)
  | .dead, .dead => some []
  | .lf s, .cv (.lf l) => decL s l
  | .agg ss, .cv (.agg ls) => decLs ss ls
  | _, _ => none
def decAs : List SA → List AV → Option (List PL)
  | [], [] => some []
  | s :: r, l :: q => (decA s l).bind fun a => (decAs r q).bind fun b => some (a ++ b)
  | _, _ => none
def decBs : List (List SL) → List (Option (List L)) → Option (List PL)
  | [], l => if l.all Option.isNone then some [] else none
  | s :: r, some l :: q => (decLs s l).bind fun a => (decBs r q).bind fun b => some (a ++ b)
  | _, _ => none
def decOs : List (Option (Nat × Ty)) → List (Option Own) → Option (List PL)
  | [], l => if l.all Option.isNone then some [] else none
  | some x :: r, some o :: q => if o.e == x.1 && decide (o.t = x.2) then (decOs r q).bind fun b => some (⟨.slice o.t, o.xs⟩ :: b) else none
  | none :: r, none :: q => decOs r q
  | _, _ => none
def dec (k : Sk) (s : St) : Option (List PL) :=
  (decAs k.slots s.slots).bind fun a => (decBs k.boxes s.boxes).bind fun b => (decOs k.owns s.owns).bind fun c => some (a ++ (b ++ c))

/-! #### one state told as another -/
def ptrsTo (mB : List Nat) : List (Nat × Nat) → List (Nat × Nat) → Bool
  | [], [] => true
  | a :: r, b :: s => (match mB[a.1]? with | some x => x == b.1 | none => false) && a.2 == b.2 && ptrsTo mB r s
  | _, _ => false
def bTo (mB : List Nat) (b b' : Nat) : Bool := match mB[b]? with | some x => x == b' | none => false
def isTo (mO : List (Option Nat)) (l l' : Nat) : Bool := match mO[l]? with | some (some x) => x == l' | _ => false
def isNil (mO : List (Option Nat)) (l : Nat) : Bool := match mO[l]? with | some none => true | _ => false
def plsAll : List L → Option (List PL)
  | [] => some []
  | .pv p :: r => (plsAll r).map fun q => p :: q
  | _ => none
def coL (s : St) (br bx : List Nat) (mB : List Nat) (mO : List (Option Nat)) : SL → L → Option L
  | .dead, _ => some .dead
  | .pv t, .pv p => if p.t = t then some (.pv p) else none
  | .pv t, .own l => if !br.contains l then none else (ownAt s l).bind fun o => if Ty.slice o.t = t then some (.pv ⟨.slice o.t, o.xs⟩) else none
  | .pv t, .cst .sl => match t with | .slice e => some (.pv ⟨.slice e, ([] : List e.den)⟩) | _ => none
  | .nil k, .cst k' => if k.eqb k' then some (.cst k') else none
  | .ptr b o, .ptr b' o' => if bTo mB b b' && o == o' then some (.ptr b o) else none
  | .own l, .own l' => if isTo mO l l' then some (.own l) else none
  | .own l, .cst .sl => if isNil mO l then some (.own l) else none
  | .ept l o sz, .ept l' i o' sz' => if isTo mO l l' && o == o' && sz == sz' then some (.ept l i o sz) else none
  | .rpt ts, .rpt ps => if tysEq ts ps then some (.rpt ps) else none
  | .rpt ts, .ptr b k => if !bx.contains b then none else (boxAt s b).bind fun ls => (plsAll ((ls.drop k).take ts.length)).bind fun ps => if tysEq ts ps then some (.rpt ps) else none
  | .fn f a c, .fn f' a' c' => if f == f' && ptrsTo mB a a' && ptrsTo mB c c' then some (.fn f a c) else none
  | .ifc t ts g, .ifc t' ps g' => if t == t' && g == g' && tysEq ts ps then some (.ifc t ps g) else none
  | .err, .err b => some (.err b)
  | .err, .cst .ifc => some (.err true)
  | .err, .ifc _ _ _ => some (.err false)
  | .bld b t, .bld b' t' z => if bTo mB b b' && t == t' then some (.bld b t z) else none
  | _, _ => none
def coLs (s : St) (br bx : List Nat) (mB : List Nat) (mO : List (Option Nat)) : List SL → List L → Option (List L)
  | [], [] => some []
  | k :: r, l :: q => (coL s br bx mB mO k l).bind fun a => (coLs s br bx mB mO r q).bind fun b => some (a :: b)
  | _, _ => none
def coA (s : St) (br bx : List Nat) (mB : List Nat) (mO : List (Option Nat)) : SA → AV → Option AV
  | .dead, _ => some .dead
  | .lf k, .cv (.lf l) => (coL s br bx mB mO k l).map fun x => .cv (.lf x)
  | .agg ks, .cv (.agg ls) => (coLs s br bx mB mO ks ls).map fun x => .cv (.agg x)
  | _, _ => none
def coAs (s : St) (br bx : List Nat) (mB : List Nat) (mO : List (Option Nat)) : List SA → List AV → Option (List AV)
  | [], [] => some []
  | k :: r, l :: q => (coA s br bx mB mO k l).bind fun a => (coAs s br bx mB mO r q).bind fun b => some (a :: b)
  | _, _ => none
/-- The boxes: mB their old numbers. -/
def coBs (s : St) (br bx : List Nat) (mB : List Nat) (mO : List (Option Nat)) : List (List SL) → List Nat → Option (List (Option (List L)))
  | [], [] => some []
  | k :: r, b :: q => (boxAt s b).bind fun ls => (coLs s br bx mB mO k ls).bind fun a => (coBs s br bx mB mO r q).bind fun c => some (some a :: c)
  | _, _ => none
def coOs (s : St) : List (Option (Nat × Ty)) → List (Option Nat) → Option (List (Option Own))
  | [], [] => some []
  | some x :: r, some l :: q => (ownAt s l).bind fun o => if o.e == x.1 && decide (o.t = x.2) then (coOs s r q).bind fun c => some (some o :: c) else none
  | some x :: r, none :: q => if 0 < x.2.size then (coOs s r q).bind fun c => some (some ⟨x.1, x.2, []⟩ :: c) else none
  | none :: r, _ :: q => (coOs s r q).bind fun c => some (none :: c)
  | _, _ => none

def conP : List (Nat × Nat) → List (Nat × Nat) → List (Nat × Nat)
  | a :: r, b :: s => (a.1, b.1) :: conP r s
  | _, _ => []
def conB : SL → L → List (Nat × Nat)
  | .ptr b _, .ptr b' _ => [(b, b')]
  | .fn _ a c, .fn _ a' c' => conP a a' ++ conP c c'
  | .bld b _, .bld b' _ _ => [(b, b')]
  | _, _ => []
def conO : SL → L → List (Nat × Option Nat)
  | .own l, .own l' => [(l, some l')]
  | .own l, .cst .sl => [(l, none)]
  | .ept l _ _, .ept l' _ _ _ => [(l, some l')]
  | _, _ => []
def zipLs : List SA → List AV → List (SL × L)
  | .lf k :: r, .cv (.lf l) :: q => (k, l) :: zipLs r q
  | .agg ks :: r, .cv (.agg ls) :: q => ks.zip ls ++ zipLs r q
  | _ :: r, _ :: q => zipLs r q
  | _, _ => []
/-- Box by box: whom it points to. -/
def walkB (s : St) : List (List SL) → Nat → List (Nat × Nat) → List (SL × L) → List (Nat × Nat) × List (SL × L)
  | [], _, mb, zs => (mb, zs)
  | k :: r, b, mb, zs =>
    match (boxAt s (look b mb b)) with
    | some ls => walkB s r (b + 1) (mb ++ (k.zip ls).flatMap fun x => conB x.1 x.2) (zs ++ k.zip ls)
    | none => walkB s r (b + 1) mb zs
def nodupB : List Nat → Bool
  | [] => true
  | a :: r => !r.contains a && nodupB r
def somes : List (Option Nat) → List Nat
  | [] => []
  | some a :: r => a :: somes r
  | none :: r => somes r
/-- Rows of the call's own that are told as plain data. -/
def brOf : List (SL × L) → List Nat
  | [] => []
  | (.pv _, .own l) :: r => if (brOf r).contains l then brOf r else l :: brOf r
  | _ :: r => brOf r
/-- Boxes that are lent to be read. -/
def bxOf : List (SL × L) → List Nat
  | [] => []
  | (.rpt _, .ptr b _) :: r => if (bxOf r).contains b then bxOf r else b :: bxOf r
  | _ :: r => bxOf r
def disj (a b : List Nat) : Bool := a.all fun x => !b.contains x
/-- Old numbers of boxes and rows, rows told as data, and the state by the new numbers. -/
structure Co where
  s : St
  br : List Nat
  bx : List Nat
  mB : List Nat
  mO : List (Option Nat)
def coWith (k : Sk) (s : St) (n : Nat) (br bx mB : List Nat) (mO : List (Option Nat)) : Option Co :=
  if nodupB mB && nodupB (somes mO) && disj br (somes mO) && disj bx mB then
    (coAs s br bx mB mO k.slots s.slots).bind fun a => (coBs s br bx mB mO k.boxes mB).bind fun b => (coOs s k.owns mO).bind fun c =>
      some ⟨⟨a, b ++ List.replicate (n - b.length) none, c ++ List.replicate (n - c.length) none⟩, br, bx, mB, mO⟩
  else none
def coFrom (k : Sk) (s : St) (n : Nat) : List (Nat × Nat) × List (SL × L) → Option Co
  | (mb, zs) => coWith k s n (brOf zs) (bxOf zs) ((List.range k.boxes.length).map fun b => look b mb b) ((List.range k.owns.length).map fun l => match k.owns[l]? with | some (some _) => look (some l) (zs.flatMap fun x => conO x.1 x.2) l | _ => none)
def co (k : Sk) (s : St) (n : Nat) : Option Co :=
  coFrom k s n (walkB s k.boxes 0 ((zipLs k.slots s.slots).flatMap fun x => conB x.1 x.2) (zipLs k.slots s.slots))

end Go.Proofs.YtghmhkpgdmgepaaV
