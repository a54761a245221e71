import Derived.Test.YtipcdjgcomclkaaGreatDoorF3
import Derived.Test.YtipcdjgcomclkaaGreatDoorProg
import Derived.Test.YtipcdjgcomclkaaGreatDoorF4
import Derived.LaidEql
import Derived.Stop.Asserts
import Derived.RowKitTokens
import Derived.Lib.IfaceEq
/-! Joined, names shortened: XB, X1, XE, XG, G0, G1. -/
set_option linter.unusedVariables false
set_option linter.unusedSimpArgs false
namespace Go.Proofs.YtipcdjgcomclkaaGreatDoorV
open Go Go.RowKit
theorem Bjl {w : World} {b : Nat} {cs : Array Value} {et : Nat} {fr : Nat × Nat} (h : w.heap[b]? = some (.cells cs et fr)) (off : Nat) (v : Value) : w.setCell ⟨b, off, none⟩ v = w.setRow b (cs.setIfInBounds off v) := by
 unfold World.setCell World.setRow
 congr 1
 apply Array.ext_getElem?
 intro i
 simp only [Array.getElem?_modify]
 split
 ·rename_i e
  subst e
  rw [h]
  simp
 ·rfl
section
variable {F : Nat → Prop} {s s' : St} {G : Gm} {vals vals' : List Value} {w w' : World}
theorem Holds.slotsTo (h : Holds F s G vals w) (hb : s'.boxes = s.boxes) (ho : s'.owns = s.owns) (hs : All2 (HA (HR F s' G w)) s'.slots vals') : Holds F s' G vals' w := by
 obtain ⟨sl, bx, ow⟩ := s
 obtain ⟨sl', bx', ow'⟩ := s'
 cases hb
 cases ho
 exact ⟨hs, h.box, h.own, h.bb, h.bo, h.oo, h.nF, h.Flt, h.ty, h.gl⟩
end
def u8s (l : List Int) : List UInt8 := l.map fun n => UInt8.ofNat n.toNat
theorem u8s_bs (y : ByteArray) : u8s (bs y) = y.data.toList := by
 unfold u8s bs
 rw [List.map_map]
 conv => rhs; rw [← List.map_id y.data.toList]
 apply List.map_congr_left
 intro b _
 simp
def piI : Sk := ⟨[.lf (.pv .str), .lf (.pv (.int .i64)), .lf (.pv (.int .i64))], [], []⟩
def piO : Sk := ⟨[.lf (.pv (.int .i64)), .lf (.err)], [], []⟩
def K2 (x : List Int × Int × Int) : Option (Int × Bool) :=
 if x.2.1 = 10 ∧ x.2.2 = 64 ∧ x.1.length ≤ 9223372036854775806 then
  (match Lib.parseIntB 64 (u8s x.1) with
  | .ok v => if (Lit.int .i64 v).wf then some (v, true) else none
  | _ => none)
 else none
theorem Bg0 : Aa Tryz.prog 81 ⟨piI, piO, Dr piI.tys piO.tys K2⟩ := by
 refine Bjv (kin := piI) (kout := piO) rfl rfl rfl rfl K2 ⟨Tryz.f81, by kernel_rfl, by kernel_rfl, by kernel_rfl⟩ fun x y hxy F G vals w hH => ?_
 obtain ⟨a0, a1, a2⟩ := x
 have hs : All2 (HA (HR F (enc piI 0 (toPL piI.tys (a0, a1, a2))) G w)) [lf (.pv ⟨.str, a0⟩), lf (.pv ⟨.int .i64, a1⟩), lf (.pv ⟨.int .i64, a2⟩)] vals := hH.slots
 cases hs with
 | cons h0 hs => cases hs with
  | cons h1 hs => cases hs with
   | cons h2 hs =>
    cases hs
    obtain ⟨s, rfl, e0, hmax⟩ := ha_str h0
    have e1 := (Auc h1).1
    have e2 := (Auc h2).1
    subst e0
    subst e1
    subst e2
    unfold K2 at hxy
    split at hxy
    ·rename_i hc
     obtain ⟨c1, c2, c3⟩ := hc
     simp only at c1 c2 c3 hxy
     subst c1 c2
     split at hxy
     ·rename_i v hv
      split at hxy
      case isFalse => cases hxy
      rename_i hwf
      cases hxy
      rw [u8s_bs] at hv
      have hl : s.size ≤ 9223372036854775806 := by
       have e : (bs s).length = s.size := by
        unfold bs
        rw [List.length_map]
        rfl
       rw [← e]
       exact c3
      refine (Tryz.strconv_ParseInt_10_at64_ok s hl v hv w).mono fun e w' he => ?_
      refine ⟨[.int .i64 v, .nilIface], he.1, ?_, .cons ?_ (.cons ?_ .nil)⟩
      ·rcases he.2 with rfl | ⟨t, rfl⟩
       ·exact Grew.refl _
       ·exact Be9 ⟨rfl, rfl, rfl, by rw [Lib.bytesWorld_size]; omega, fun i hi => Lib.bytesWorld_at_old w _ t i (by omega)⟩
      ·exact Bfd hwf
      ·exact Bff
     ·cases hxy
    ·cases hxy
end Go.Proofs.YtipcdjgcomclkaaGreatDoorV
set_option maxHeartbeats 4000000
set_option maxRecDepth 100000
namespace Go.Proofs.YtipcdjgcomclkaaGreatDoorV
open Go Go.RowKit Go.Extern.Stop Go.Stop Go.Extern
theorem as_nil (t : Value) (w : World) :
  Calls Tryz.prog 17 #[.nilIface, t] w fun e w' => e = .returned (.bool false) ∧ w' = w := by
 go_enter Tryz.func17, Tryz.ntmps17
 go_wp2
 go_ret
 exact ⟨rfl, rfl⟩
theorem A7i (t : Addr) (w : World) : (ReflectliteValue.unpack (.iface 70 (.pointer (some t)))).run Tryz.prog w
  = .ok (.agg #[.pointer (some ⟨6, 70, none⟩), .pointer (some ⟨w.heap.size, 0, none⟩), .int .u64 150]) (w.alloc (.cells #[.pointer (some t)] 70)) := by kernel_rfl
theorem A7g (a : Addr) (w : World) : (ReflectliteValue.methodAny (ReflectliteValue.valueError "reflectlite.Value.Type" 0) (fun t _ _ _ => ReflectliteType.toType t) #[.agg #[.pointer (some ⟨6, 70, none⟩), .pointer (some a), .int .u64 150]]).run Tryz.prog w
  = .ok (.iface 153 (.agg #[.pointer (some ⟨6, 70, none⟩)])) w := by kernel_rfl
theorem A67 (h : Value) (w : World) : (Go.method 346 153 (.agg #[h]) "Kind").run Tryz.prog w = .ok (137, h) w := by kernel_rfl
theorem A62 (w : World) : ((ReflectliteType.abiMethod fun t => (fun a : Nat => Value.int IntKind.u8 (a : Int)) <$> Rtype.kind t) #[.pointer (some ⟨6, 70, none⟩)]).run Tryz.prog w = .ok (.int .u8 22) w := by kernel_rfl
theorem A61 (w : World) : ((ReflectliteType.abiMethod fun t => (fun a : Nat => Value.int IntKind.u8 (a : Int)) <$> Rtype.kind t) #[.pointer (some ⟨6, 68, none⟩)]).run Tryz.prog w = .ok (.int .u8 22) w := by kernel_rfl
theorem Ae4 (z : Sem Value) (f : TypeId → Addr → Nat → Nat → Sem Value) (v : Value) :
  ReflectliteValue.method z f #[v] = (do match ← ReflectliteValue.parts v with | none => z | some (t, a, fl) => f t a fl (fl % 32)) := rfl
theorem Ae3 (a : Addr) (w : World) : (ReflectliteValue.parts (.agg #[.pointer (some ⟨6, 70, none⟩), .pointer (some a), .int .u64 150])).run Tryz.prog w = .ok (some (70, a, 150)) w := by kernel_rfl
theorem A6z (a p : Addr) (W : World) (ha : W.cell? a = some (.pointer (some p))) :
  (ReflectliteValue.method (ReflectliteValue.valueError "reflectlite.Value.IsNil" 0) ReflectliteValue.isNil #[.agg #[.pointer (some ⟨6, 70, none⟩), .pointer (some a), .int .u64 150]]).run Tryz.prog W = .ok (.bool false) W := by
 rw [Ae4]
 simp only [Sem.run_bind, Ae3, Result.andThen]
 simp [ReflectliteValue.isNil, loadVar, isAgg, underlying, Tryz.underlying70, ha, Result.andThen]
theorem A65 (h : Value) (w : World) : (Go.method 346 153 (.agg #[h]) "Elem").run Tryz.prog w = .ok (149, .agg #[h]) w := by kernel_rfl
theorem A66 (h : Value) (w : World) : (Go.method 346 153 (.agg #[h]) "Implements").run Tryz.prog w = .ok (150, .agg #[h]) w := by kernel_rfl
theorem A63 (h : Value) (w : World) : (Go.method 346 153 (.agg #[h]) "AssignableTo").run Tryz.prog w = .ok (147, .agg #[h]) w := by kernel_rfl
theorem A6v (w : World) : (ReflectliteType.method ReflectliteType.elem #[.agg #[.pointer (some ⟨6, 70, none⟩)]]).run Tryz.prog w = .ok (.iface 153 (.agg #[.pointer (some ⟨6, 68, none⟩)])) w := by kernel_rfl
theorem A6y (w : World) : (ReflectliteType.relation "Implements" ReflectliteType.implements_ #[.agg #[.pointer (some ⟨6, 68, none⟩)], .iface 153 (.agg #[.pointer (some ⟨6, 62, none⟩)])]).run Tryz.prog w = .ok (.bool true) w := by kernel_rfl
theorem A7f (v : Value) (w : World) : (ReflectliteType.typeOf #[.iface 68 v]).run Tryz.prog w = .ok (.iface 153 (.agg #[.pointer (some ⟨6, 68, none⟩)])) w := by kernel_rfl
theorem A6s (w : World) : (ReflectliteType.relation "AssignableTo" ReflectliteType.assignableTo #[.agg #[.pointer (some ⟨6, 68, none⟩)], .iface 153 (.agg #[.pointer (some ⟨6, 68, none⟩)])]).run Tryz.prog w = .ok (.bool true) w := by kernel_rfl
theorem A7h (e : Addr) (w : World) : (ReflectliteValue.unpack (.iface 68 (.pointer (some e)))).run Tryz.prog w
  = .ok (.agg #[.pointer (some ⟨6, 68, none⟩), .pointer (some ⟨w.heap.size, 0, none⟩), .int .u64 150]) (w.alloc (.cells #[.pointer (some e)] 68)) := by kernel_rfl
theorem A6u (w : World) : (Rtype.elem? 70).run Tryz.prog w = .ok (some 68) w := by kernel_rfl
theorem er_mk (p : Addr) (w : World) : (ReflectliteValue.mk 68 p ReflectliteValue.flagAddr).run Tryz.prog w = .ok (.agg #[.pointer (some ⟨6, 68, none⟩), .pointer (some p), .int .u64 406]) w := by kernel_rfl
theorem A6w (a p : Addr) (W : World) (ha : W.cell? a = some (.pointer (some p))) :
  (ReflectliteValue.method (ReflectliteValue.valueError "reflectlite.Value.Elem" 0) ReflectliteValue.elem #[.agg #[.pointer (some ⟨6, 70, none⟩), .pointer (some a), .int .u64 150]]).run Tryz.prog W
   = .ok (.agg #[.pointer (some ⟨6, 68, none⟩), .pointer (some p), .int .u64 406]) W := by
 rw [Ae4]
 simp only [Sem.run_bind, Ae3, Result.andThen]
 simp [ReflectliteValue.elem, loadVar, isAgg, underlying, Tryz.underlying70, ha, Result.andThen, A6u, er_mk]
theorem er_rls (v x : Value) : ReflectliteValue.set #[v, x] = (do
  let (some (dst, a, fl), some (src, b, _)) := (← ReflectliteValue.parts v, ← ReflectliteValue.parts x)
   | unsupported (.noEntry "extern/(internal/reflectlite.Value).Set.zeroValue")
  if fl / ReflectliteValue.flagAddr % 2 == 0 then unsupported (.noEntry "extern/(internal/reflectlite.Value).Set.unaddressable")
  let val ← loadVar src b
  if ← Rtype.directlyAssignable dst src then storeVar dst a val
  else if ← Rtype.implements dst src then
   if (← Rtype.kind src) == 20 then
    match val with
    | .nilIface => unsupported (.noEntry "extern/reflectlite: a nil value of one interface type handed on as a value of another")
    | _ => storeVar dst a val
   else storeVar dst a (.iface src val)
  else panicString ("reflectlite.Set: value of type " ++ (← Rtype.spelt src) ++ " is not assignable to type " ++ (← Rtype.spelt dst))
  pure (.tuple #[])) := rfl
theorem A7e (a : Addr) (w : World) : (ReflectliteValue.parts (.agg #[.pointer (some ⟨6, 68, none⟩), .pointer (some a), .int .u64 406])).run Tryz.prog w = .ok (some (68, a, 406)) w := by kernel_rfl
theorem A7d (a : Addr) (w : World) : (ReflectliteValue.parts (.agg #[.pointer (some ⟨6, 68, none⟩), .pointer (some a), .int .u64 150])).run Tryz.prog w = .ok (some (68, a, 150)) w := by kernel_rfl
theorem A6t (w : World) : (Rtype.directlyAssignable 68 68).run Tryz.prog w = .ok true w := by kernel_rfl
theorem er_set (ta b e : Addr) (old : Value) (W : World) (hb : W.cell? b = some (.pointer (some e))) (ht : W.cell? ta = some old) (hf : W.frozen? ta = false) :
  (ReflectliteValue.set #[.agg #[.pointer (some ⟨6, 68, none⟩), .pointer (some ta), .int .u64 406], .agg #[.pointer (some ⟨6, 68, none⟩), .pointer (some b), .int .u64 150]]).run Tryz.prog W
   = .ok (.tuple #[]) (W.setCell ta (.pointer (some e))) := by
 rw [er_rls]
 simp only [Sem.run_bind, A7e, A7d, Result.andThen]
 simp [ReflectliteValue.flagAddr, loadVar, isAgg, underlying, Tryz.underlying68, hb, Result.andThen, A6t, storeVar, Value.cells, storeCells, Addr.add]
 rw [run_store Tryz.prog W ta _ _ (by rfl)]
 simp [ht, hf]
def asW (w : World) (t e : Addr) : World :=
 (((w.alloc (.cells #[.pointer (some t)] 70)).alloc (.cells #[.pointer (some ⟨6, 70, none⟩), .pointer (some ⟨w.heap.size, 0, none⟩), .int .u64 150] 108)).alloc (.cells #[.pointer (some ⟨6, 70, none⟩), .pointer (some ⟨w.heap.size, 0, none⟩), .int .u64 150] 108)).alloc (.cells #[.pointer (some e)] 68)
theorem as_hit (e t : Addr) (old : Value) (w : World) (hg : w.cell? ⟨0, 0, none⟩ = some (.iface 153 (.agg #[.pointer (some ⟨6, 62, none⟩)]))) (ht0 : w.cell? t = some old) (hf0 : w.frozen? t = false) :
  Calls Tryz.prog 17 #[.iface 68 (.pointer (some e)), .iface 70 (.pointer (some t))] w fun ev w' => ev = .returned (.bool true) ∧ w' = (asW w t e).setCell t (.pointer (some e)) := by
 have h6 := @run_callFunc_extern Tryz.prog 42 _ (fun args => ReflectliteValue.unpack (args.getD 0 (.tuple #[]))) Tryz.func42 (by kernel_rfl) (by kernel_rfl) (by kernel_rfl) (by kernel_rfl)
 have h7 := @run_callFunc_extern Tryz.prog 43 _ (ReflectliteValue.methodAny (ReflectliteValue.valueError "reflectlite.Value.Type" 0) (fun t _ _ _ => ReflectliteType.toType t)) Tryz.func43 (by kernel_rfl) (by kernel_rfl) (by kernel_rfl) (by kernel_rfl)
 have h8 := @run_callFunc_extern Tryz.prog 44 _ (ReflectliteValue.method (ReflectliteValue.valueError "reflectlite.Value.IsNil" 0) ReflectliteValue.isNil) Tryz.func44 (by kernel_rfl) (by kernel_rfl) (by kernel_rfl) (by kernel_rfl)
 have h27 := @run_callFunc_extern Tryz.prog 137 _ (ReflectliteType.abiMethod fun t => do pure (.int .u8 (← Rtype.kind t))) Tryz.func137 (by kernel_rfl) (by kernel_rfl) (by kernel_rfl) (by kernel_rfl)
 have h37 := @run_callFunc_extern Tryz.prog 149 _ (ReflectliteType.method ReflectliteType.elem) Tryz.func149 (by kernel_rfl) (by kernel_rfl) (by kernel_rfl) (by kernel_rfl)
 have h38 := @run_callFunc_extern Tryz.prog 150 _ (ReflectliteType.relation "Implements" ReflectliteType.implements_) Tryz.func150 (by kernel_rfl) (by kernel_rfl) (by kernel_rfl) (by kernel_rfl)
 have h10 := @run_callFunc_extern Tryz.prog 73 _ ReflectliteType.typeOf Tryz.func73 (by kernel_rfl) (by kernel_rfl) (by kernel_rfl) (by kernel_rfl)
 have h35 := @run_callFunc_extern Tryz.prog 147 _ (ReflectliteType.relation "AssignableTo" ReflectliteType.assignableTo) Tryz.func147 (by kernel_rfl) (by kernel_rfl) (by kernel_rfl) (by kernel_rfl)
 have h11 := @run_callFunc_extern Tryz.prog 74 _ (ReflectliteValue.method (ReflectliteValue.valueError "reflectlite.Value.Elem" 0) ReflectliteValue.elem) Tryz.func74 (by kernel_rfl) (by kernel_rfl) (by kernel_rfl) (by kernel_rfl)
 have h12 := @run_callFunc_extern Tryz.prog 75 _ ReflectliteValue.set Tryz.func75 (by kernel_rfl) (by kernel_rfl) (by kernel_rfl) (by kernel_rfl)
 have tO := A7f
 have mA := A63
 have a25 := A6s
 have v25 := A7h
 have f6 := A7i
 have f7 := A7g
 have mK := A67
 have mE := A65
 have mI := A66
 have k27 := A62
 have k25 := A61
 have e27 := A6v
 have i25 := A6y
 have n8 := A6z ⟨w.heap.size, 0, none⟩ t ((w.alloc (.cells #[.pointer (some t)] 70)).alloc (.cells #[.pointer (some ⟨6, 70, none⟩), .pointer (some ⟨w.heap.size, 0, none⟩), .int .u64 150] 108)) (by simp)
 have hlt : 0 < w.heap.size := by
  rcases Nat.eq_zero_or_pos w.heap.size with h0 | h
  ·simp [World.cell?, h0] at hg
  ·exact h
 have hg2 : ((w.alloc (.cells #[.pointer (some t)] 70)).alloc (.cells #[.pointer (some ⟨6, 70, none⟩), .pointer (some ⟨w.heap.size, 0, none⟩), .int .u64 150] 108)).cell? ⟨0, 0, none⟩ = some (.iface 153 (.agg #[.pointer (some ⟨6, 62, none⟩)])) := by
  rw [World.cell?_alloc_lt _ _ ⟨0, 0, none⟩ (by simp), World.cell?_alloc_lt _ _ ⟨0, 0, none⟩ hlt]; exact hg
 have htl : t.block < w.heap.size := by
  rcases Nat.lt_or_ge t.block w.heap.size with h | h
  ·exact h
  ·simp [World.cell?, Array.getElem?_eq_none h] at ht0
 have el := A6w ⟨w.heap.size, 0, none⟩ t (((w.alloc (.cells #[.pointer (some t)] 70)).alloc (.cells #[.pointer (some ⟨6, 70, none⟩), .pointer (some ⟨w.heap.size, 0, none⟩), .int .u64 150] 108)).alloc (.cells #[.pointer (some ⟨6, 70, none⟩), .pointer (some ⟨w.heap.size, 0, none⟩), .int .u64 150] 108)) (by rw [World.cell?_alloc_lt _ _ ⟨w.heap.size, 0, none⟩ (by simp; omega)]; simp)
 have st := er_set t ⟨w.heap.size + 1 + 1 + 1, 0, none⟩ e old (asW w t e)
  (by unfold asW; rw [World.cell?_alloc_at _ _ _ _ (by simp)]; rfl)
  (by unfold asW; rw [World.cell?_alloc_lt _ _ t (by simp; omega), World.cell?_alloc_lt _ _ t (by simp; omega), World.cell?_alloc_lt _ _ t (by simp; omega), World.cell?_alloc_lt _ _ t htl]; exact ht0)
  (by unfold asW; rw [World.frozen?_alloc_old _ _ t (by simp; omega), World.frozen?_alloc_old _ _ t (by simp; omega), World.frozen?_alloc_old _ _ t (by simp; omega), World.frozen?_alloc_old _ _ t (Nat.ne_of_lt htl)]; exact hf0)
 unfold asW at st
 go_enter Tryz.func17, Tryz.ntmps17
 go_wp2
 refine wp_loop_rounds 1 ?_
 rw [rounds_succ]
 go_wp2
 go_ret
 exact ⟨rfl, rfl⟩
theorem A60 (v : Value) (w : World) : (Extern.ReflectliteType.typeOf #[.iface 24 v]).run Tryz.prog w = .ok (.iface 153 (.agg #[.pointer (some ⟨6, 24, none⟩)])) w := by kernel_rfl
theorem er_cmp (w : World) : (callFunc 148 #[.agg #[.pointer (some ⟨6, 24, none⟩)]]).run Tryz.prog w = .ok (.value (.bool true)) w := by kernel_rfl
theorem A64 (v : Value) (w : World) : (Go.method 346 153 v "Comparable").run Tryz.prog w = .ok (148, v) w := by kernel_rfl
theorem A69 (v : Value) (xT : TypeId) (w : World) : (Instr.typeAssert (.iface 68 v) xT 181 true).run Tryz.prog w = .ok (.tuple #[.nilIface, .bool false]) w := run_typeAssert_lacksB Tryz.underlying181 (by kernel_rfl) (by kernel_rfl) v xT w
theorem A7a (v : Value) (xT : TypeId) (w : World) : (Instr.typeAssert (.iface 24 v) xT 181 true).run Tryz.prog w = .ok (.tuple #[.nilIface, .bool false]) w := run_typeAssert_lacksB Tryz.underlying181 (by kernel_rfl) (by kernel_rfl) v xT w
theorem A6x (v : Value) (xT : TypeId) (w : World) : (Instr.typeAssert (.iface 68 v) xT 161 true).run Tryz.prog w = .ok (.tuple #[.iface 68 v, .bool true]) w := run_typeAssert_hasB Tryz.underlying161 (by kernel_rfl) v xT w
theorem A7b (v : Value) (xT : TypeId) (w : World) : (Instr.typeAssert (.iface 24 v) xT 161 true).run Tryz.prog w = .ok (.tuple #[.nilIface, .bool false]) w := run_typeAssert_lacksB Tryz.underlying161 (by kernel_rfl) (by kernel_rfl) v xT w
theorem A7c (v : Value) (xT : TypeId) (w : World) : (Instr.typeAssert (.iface 24 v) xT 162 true).run Tryz.prog w = .ok (.tuple #[.nilIface, .bool false]) w := run_typeAssert_lacksB Tryz.underlying162 (by kernel_rfl) (by kernel_rfl) v xT w
theorem A68 (v : Value) (w : World) : (Go.method 346 68 v "Unwrap").run Tryz.prog w = .ok (142, v) w := by kernel_rfl
theorem is_no (b off : Nat) (n m : Int) (w : World) (h1 : w.cell? ⟨b, off, none⟩ = some (.int .i64 n)) :
  Calls Tryz.prog 46 #[.iface 68 (.pointer (some ⟨b, off, none⟩)), .iface 24 (.int .i64 m)] w fun e w' => e = .returned (.bool (n == m)) ∧ w' = w := by
 have h8 := @run_callFunc_extern Tryz.prog 73 _ Extern.ReflectliteType.typeOf Tryz.func73 (by kernel_rfl) (by kernel_rfl) (by kernel_rfl) (by kernel_rfl)
 have h32 := er_cmp
 have tT := A60
 have mR := A64
 have nE := A69
 have nN := A7a
 have uE := A6x
 have uN := A7b
 have vN := A7c
 have mU := A68
 have heq := Lib.run_eql_iface_int (P := Tryz.prog) (tx := 24) (k := .i64) w n m Tryz.underlying62 (by kernel_rfl) Tryz.underlying24
 have hty := run_eql_iface_types (P := Tryz.prog) 68 24 (.pointer (some ⟨b, off, none⟩)) (.int .i64 m) Tryz.underlying62 (by decide) w
 cases hnm : n == m <;> rw [hnm] at heq
 all_goals
  go_enter Tryz.func46, Tryz.ntmps46
  go_wp2
  refine wp_loop_rounds 2 ?_
  rw [rounds_succ]
  go_wp2
  rw [rounds_succ]
  go_wp2
  go_ret
  exact ⟨rfl, rfl⟩
end Go.Proofs.YtipcdjgcomclkaaGreatDoorV
namespace Go.Proofs.YtipcdjgcomclkaaGreatDoorV
open Go Go.RowKit
def asI : Sk := ⟨[.lf (.erp 68 [.int .i64, .int .i64]), .lf (.ifp 70 0 0)], [[.nil .ptr]], []⟩
def asO : Sk := ⟨[.lf (.pv .bool)], [[.orp [.int .i64, .int .i64]]], []⟩
def asF (x : Bool × Int × Int) : Option (Bool × Bool × Int × Int) := some (!x.1, x.1, x.2.1, x.2.2)
def isI : Sk := ⟨[.lf (.erp 68 [.int .i64, .int .i64]), .lf (.ifc 24 [.int .i64] false)], [], []⟩
def isO : Sk := ⟨[.lf (.pv .bool)], [], []⟩
def isF (x : Bool × Int × Int × Int) : Option Bool := if x.1 then none else some (x.2.1 == x.2.2.2)
theorem Bjn {w : World} {b : Nat} {cs : Array Value} {et : Nat} {fr : Nat × Nat} (h : w.heap[b]? = some (.cells cs et fr)) : w.setRow b cs = w := by
 obtain ⟨hlt, e⟩ := Array.getElem?_eq_some_iff.1 h
 have e2 : (w.setRow b cs).heap = w.heap := by
  unfold World.setRow
  apply Array.ext_getElem?
  intro i
  simp only [Array.getElem?_modify]
  split
  ·rename_i e3
   subst e3
   rw [h]
   rfl
  ·rfl
 cases w
 simp only [World.setRow] at e2 ⊢
 rw [e2]
theorem box1 {b0 : L} {cs : Array Value} {R : L → Value → Prop} (h : All2 R [b0] cs.toList) : ∃ v0, cs = #[v0] ∧ R b0 v0 := by
 obtain ⟨l⟩ := cs
 cases h with
 | cons h0 h => cases h; exact ⟨_, rfl, h0⟩
theorem A1q (w : World) (t e : Addr) : Grew w (asW w t e) :=
 (((Grew.alloc w _).trans (Grew.alloc _ _)).trans (Grew.alloc _ _)).trans (Grew.alloc _ _)
theorem asF_ok : Aa Tryz.prog 17 ⟨asI, asO, Dr asI.tys asO.tys asF⟩ := by
 refine ⟨⟨Tryz.f17, by kernel_rfl, by kernel_rfl, by kernel_rfl⟩, fun ps qs hrun F G vals w hH => ?_⟩
 simp only [Dr] at hrun
 split at hrun
 rotate_left
 ·cases hrun
 rename_i x hx
 obtain ⟨y, hy, hq⟩ := Option.bind_eq_some_iff.1 hrun
 cases hq
 have hps := K1 hx
 subst hps
 obtain ⟨z, n, p⟩ := x
 cases hy
 have hsl : All2 (HA (HR F (enc asI (szS asI) (toPL asI.tys (z, n, p))) G w)) [lf (.erp z 68 [⟨.int .i64, n⟩, ⟨.int .i64, p⟩]), lf (.ifp 70 0 0)] vals := hH.slots
 cases hsl with
 | cons h0 hsl =>
 cases hsl with
 | cons h1 hsl =>
 cases hsl
 cases (show _ = Value.iface 70 (.pointer (some ⟨G.bx 0, 0, none⟩)) from h1)
 obtain ⟨cs, et, hc, hl⟩ := hH.box 0 [.cst .ptr] rfl
 obtain ⟨v0, rfl, k0⟩ := box1 hl
 cases (show v0 = Value.pointer none from k0)
 have hcell : w.cell? ⟨G.bx 0, 0, none⟩ = some (.pointer none) := by rw [Lib.cell_of_heap hc]; rfl
 cases z with
 | true =>
  cases (show _ = Value.nilIface from h0)
  refine (as_nil _ w).mono fun e w' he => ?_
  obtain ⟨rfl, rfl⟩ := he
  have hst := Acf hH (b := 0) (ls := [.cst .ptr]) rfl (k := 0) (new := [.orp true [⟨.int .i64, n⟩, ⟨.int .i64, p⟩]]) (by simp) (vs := [.pointer none]) (.cons rfl .nil) hc
  obtain ⟨m1, m2⟩ := hst
  have hs : w'.setRow (G.bx 0) ((#[Value.pointer none] : Array Value).toList.take 0 ++ [Value.pointer none] ++ (#[Value.pointer none] : Array Value).toList.drop (0 + [Value.pointer none].length)).toArray = w' := Bjn hc
  rw [hs] at m1
  have m3 := m2 1 0
  rw [hs] at m3
  exact ⟨G, [.bool false], rfl, Holds.slotsTo m1 rfl rfl (.cons (by exact rfl) .nil), ⟨m3.keeps, fun k hk => m3.fresh k hk, m3.gb, fun l hl o ho => m3.go l hl o ho⟩⟩
 | false =>
  obtain ⟨u, rfl, hrp⟩ := (show ∃ u, _ = Value.iface 68 u ∧ RP w (okS F (enc asI (szS asI) (toPL asI.tys (false, n, p))) G w) [⟨.int .i64, n⟩, ⟨.int .i64, p⟩] u from h0)
  obtain ⟨a, cs2, rfl, hsp, hok, hcl, hall⟩ := hrp
  obtain ⟨_, et0, fr0, hg0⟩ := hH.gl (0, #[.iface 153 (.agg #[.pointer (some ⟨6, 62, none⟩)])]) (by simp [gTab])
  have hg : w.cell? ⟨0, 0, none⟩ = some (.iface 153 (.agg #[.pointer (some ⟨6, 62, none⟩)])) := by rw [Lib.cell_of_heap hg0]; rfl
  refine (as_hit a ⟨G.bx 0, 0, none⟩ (.pointer none) w hg hcell (Lib.frozen_of_heap hc 0)).mono fun e w' he => ?_
  obtain ⟨rfl, rfl⟩ := he
  have hgr := A1q w ⟨G.bx 0, 0, none⟩ a
  have hH2 := hH.grew hgr
  have hc2 : (asW w ⟨G.bx 0, 0, none⟩ a).heap[G.bx 0]? = some (.cells #[.pointer none] et (0, 0)) := by
   rw [hgr.block (Array.getElem?_eq_some_iff.1 hc).1]; exact hc
  have hr2 : HR F (enc asI (szS asI) (toPL asI.tys (false, n, p))) G (asW w ⟨G.bx 0, 0, none⟩ a) (.orp false [⟨.int .i64, n⟩, ⟨.int .i64, p⟩]) (.pointer (some a)) :=
   RP.mono (fun k hk => okS.grew hgr hk) ⟨a, cs2, rfl, hsp, hok, hcl, hall⟩
  have hst := Acf hH2 (b := 0) (ls := [.cst .ptr]) rfl (k := 0) (new := [.orp false [⟨.int .i64, n⟩, ⟨.int .i64, p⟩]]) (by simp) (vs := [.pointer (some a)]) (.cons hr2 .nil) hc2
  rw [Bjl hc2]
  obtain ⟨m1, m2⟩ := hst
  have m3 := (Step.grew hgr).trans (m2 1 0)
  refine ⟨G, [.bool true], rfl, Holds.slotsTo m1 rfl rfl (.cons (by exact rfl) .nil), ⟨m3.keeps, fun k hk => m3.fresh k hk, m3.gb, fun l hl o ho => m3.go l hl o ho⟩⟩
theorem isF_ok : Aa Tryz.prog 46 ⟨isI, isO, Dr isI.tys isO.tys isF⟩ := by
 refine ⟨⟨Tryz.f46, by kernel_rfl, by kernel_rfl, by kernel_rfl⟩, fun ps qs hrun F G vals w hH => ?_⟩
 simp only [Dr] at hrun
 split at hrun
 rotate_left
 ·cases hrun
 rename_i x hx
 obtain ⟨y, hy, hq⟩ := Option.bind_eq_some_iff.1 hrun
 cases hq
 have hps := K1 hx
 subst hps
 obtain ⟨z, n, p, m⟩ := x
 cases z with
 | true => cases hy
 | false =>
  cases hy
  have hsl : All2 (HA (HR F (enc isI (szS isI) (toPL isI.tys (false, n, p, m))) G w)) [lf (.erp false 68 [⟨.int .i64, n⟩, ⟨.int .i64, p⟩]), lf (.ifc 24 [⟨.int .i64, m⟩] false)] vals := hH.slots
  cases hsl with
  | cons h0 hsl =>
  cases hsl with
  | cons h1 hsl =>
  cases hsl
  obtain ⟨u, rfl, hrp⟩ := (show ∃ u, _ = Value.iface 68 u ∧ RP w (okS F (enc isI (szS isI) (toPL isI.tys (false, n, p, m))) G w) [⟨.int .i64, n⟩, ⟨.int .i64, p⟩] u from h0)
  obtain ⟨⟨b, off, spt⟩, cs2, rfl, hsp, hok, hcl, hall⟩ := hrp
  cases (show spt = none from hsp)
  obtain ⟨cs3, hall3, e3⟩ := (show ∃ cs, All2 (RepL w (okS F (enc isI (szS isI) (toPL isI.tys (false, n, p, m))) G w)) [⟨.int .i64, m⟩] cs ∧ _ = Value.iface 24 (if false = true then .agg cs.toArray else cs.headD undef) from h1)
  cases hall3 with
  | cons r0 r1 =>
  cases r1
  cases (show [_] = [Value.int .i64 m] from r0.1)
  cases e3
  cases hall with
  | cons q0 q1 =>
  have hcell : w.cell? ⟨b, off, none⟩ = some (.int .i64 n) := by
   have h2 := hcl 0 _ rfl
   rw [List.singleton_inj.1 (show [_] = [Value.int .i64 n] from q0.1)] at h2
   rwa [He, Nat.add_zero] at h2
  refine (is_no b off n m w hcell).mono fun e w' he => ?_
  obtain ⟨rfl, rfl⟩ := he
  exact ⟨G, [.bool (BEq.beq (α := Int) n m)], rfl, hH.slotsTo rfl rfl (.cons (by exact rfl) .nil), ⟨Keeps.refl _ _, fun k hk => .inl hk, fun _ _ => ⟨rfl, rfl⟩, fun _ _ o ho => ⟨⟨o, ho⟩, rfl⟩⟩⟩
noncomputable section
abbrev yt0 : Ty := (.cons (.int .i64) (.cons (.int .i64) .nil))
abbrev YT0 : Type := (Int) × ((Int) × (Unit))
abbrev zt0 : YT0 := ((0 : Int), ((0 : Int), ()))
abbrev yt1 : Ty := (.cons .str (.cons (.int .i64) (.cons (.int .i64) (.cons yt0 (.cons (.int .i64) (.cons (.int .i64) (.cons (.int .i64) (.cons (.int .i64) (.cons (.int .i64) (.cons (.int .i64) .nil))))))))))
abbrev YT1 : Type := (List Int) × ((Int) × ((Int) × ((YT0) × ((Int) × ((Int) × ((Int) × ((Int) × ((Int) × ((Int) × (Unit))))))))))
abbrev zt1 : YT1 := ([], ((0 : Int), ((0 : Int), (zt0, ((0 : Int), ((0 : Int), ((0 : Int), ((0 : Int), ((0 : Int), ((0 : Int), ()))))))))))
abbrev yt2 : Ty := (.cons .str (.cons .str (.cons (.int .i64) (.cons (.int .i64) (.cons (.int .i64) (.cons (.int .i64) .nil))))))
abbrev YT2 : Type := (List Int) × ((List Int) × ((Int) × ((Int) × ((Int) × ((Int) × (Unit))))))
abbrev zt2 : YT2 := ([], ([], ((0 : Int), ((0 : Int), ((0 : Int), ((0 : Int), ()))))))
abbrev yt3 : Ty := (.cons .str (.cons (.slice .str) (.cons (.int .i64) .nil)))
abbrev YT3 : Type := (List Int) × ((List (List Int)) × ((Int) × (Unit)))
abbrev zt3 : YT3 := ([], ([], ((0 : Int), ())))
abbrev yt4 : Ty := (.cons .bool (.cons (.slice .str) .nil))
abbrev YT4 : Type := (Bool) × ((List (List Int)) × (Unit))
abbrev zt4 : YT4 := (false, ([], ()))
abbrev yt5 : Ty := (.cons .str (.cons .str (.cons (.int .i64) .nil)))
abbrev YT5 : Type := (List Int) × ((List Int) × ((Int) × (Unit)))
abbrev zt5 : YT5 := ([], ([], ((0 : Int), ())))
abbrev yt6 : Ty := (.cons .str (.cons (.slice yt1) (.cons (.slice yt2) (.cons (.slice yt3) (.cons (.slice (.cons (.slice yt4) .nil)) (.cons (.slice yt5) (.cons (.int .i64) .nil)))))))
abbrev YT6 : Type := (List Int) × ((List (YT1)) × ((List (YT2)) × ((List (YT3)) × ((List ((List (YT4)) × (Unit))) × ((List (YT5)) × ((Int) × (Unit)))))))
abbrev zt6 : YT6 := ([], ([], ([], ([], ([], ([], ((0 : Int), ())))))))
abbrev yt7 : Ty := (.cons .str (.cons .str (.cons .str (.cons (.int .i64) (.cons (.int .i64) (.cons (.int .i64) .nil))))))
abbrev YT7 : Type := (List Int) × ((List Int) × ((List Int) × ((Int) × ((Int) × ((Int) × (Unit))))))
abbrev zt7 : YT7 := ([], ([], ([], ((0 : Int), ((0 : Int), ((0 : Int), ()))))))
abbrev yt8 : Ty := (.cons (.int .i64) (.cons .str (.cons (.int .i64) (.cons (.int .i64) .nil))))
abbrev YT8 : Type := (Int) × ((List Int) × ((Int) × ((Int) × (Unit))))
abbrev zt8 : YT8 := ((0 : Int), ([], ((0 : Int), ((0 : Int), ()))))
theorem Ae : Tryz.prog.follows .mixedOrders = true := by kernel_rfl
noncomputable def mkC (l : EnvL) (n b o : Nat) : Cfg := { P := Tryz.prog, env := Kw l, n := n, npB := b, npO := o }
def q0 : List SL := [.pv (.int .i64), .pv (.int .i64), .pv (.int .i64), .pv (.int .i64), .pv (.int .i64), .nil .sl, .nil .sl, .pv (.int .i64), .pv (.int .i64)]
def q1 : List SL := [.fn 52 [] [(2, 0), (3, 0)], .fn 56 [] [(4, 0), (5, 0)], .fn 52 [] [(6, 0), (7, 0)], .fn 56 [] [(8, 0), (9, 0)], .fn 52 [] [(10, 0), (11, 0)], .fn 56 [] [(12, 0), (13, 0)], .fn 52 [] [(14, 0), (15, 0)], .fn 52 [] [(16, 0), (17, 0)], .fn 57 [] [(18, 0), (19, 0)], .fn 52 [] [(20, 0), (21, 0)], .fn 58 [] [(22, 0), (23, 0), (24, 0), (25, 0), (26, 0)], .fn 71 [] [(27, 0), (28, 0), (29, 0)]]
def q2 : List SL := [.fn 56 [] [(1, 0), (2, 0)], .fn 52 [] [(3, 0), (4, 0)], .fn 56 [] [(5, 0), (6, 0)]]
def q3 : List SL := [.fn 56 [] [(2, 0), (3, 0)], .fn 52 [] [(4, 0), (5, 0)], .fn 56 [] [(6, 0), (7, 0)]]
def q4 : List SL := [.pv .str, .nil .sl, .nil .sl, .nil .sl, .nil .sl, .nil .sl, .pv (.int .i64)]
def q5 : List SL := [.fn 82 [] [(2, 0), (3, 0)], .fn 83 [] [(4, 0), (5, 0)], .fn 52 [] [(6, 0), (7, 0)], .fn 85 [] [(8, 0), (9, 0), (10, 0), (11, 0), (12, 0)], .fn 86 [] [(13, 0), (14, 0), (15, 0), (16, 0), (17, 0)], .fn 87 [] [(18, 0), (19, 0), (20, 0), (21, 0), (22, 0)], .fn 89 [] [(23, 0), (24, 0), (25, 0), (26, 0), (27, 0)], .fn 93 [] [(28, 0), (29, 0), (30, 0), (31, 0), (32, 0)], .fn 52 [] [(33, 0), (34, 0)]]
def q6 : List SL := [.pv .str, .pv (.int .i64), .pv (.int .i64), .pv (.int .i64), .pv (.int .i64), .pv (.int .i64), .pv (.int .i64), .pv (.int .i64), .pv (.int .i64), .pv (.int .i64), .pv (.int .i64)]
def q7 : List SL := [.fn 82 [] [(2, 0), (3, 0)], .fn 83 [] [(4, 0), (5, 0)], .fn 52 [] [(6, 0), (7, 0)], .fn 56 [] [(8, 0), (9, 0)], .fn 52 [] [(10, 0), (11, 0)], .fn 56 [] [(12, 0), (13, 0)], .fn 52 [] [(14, 0), (15, 0)], .fn 57 [] [(16, 0), (17, 0)], .fn 52 [] [(18, 0), (19, 0)], .fn 56 [] [(20, 0), (21, 0)], .fn 52 [] [(22, 0), (23, 0)], .fn 71 [] [(24, 0), (25, 0), (26, 0)], .fn 56 [] [(27, 0), (28, 0)], .fn 52 [] [(29, 0), (30, 0)], .fn 56 [] [(31, 0), (32, 0)], .fn 52 [] [(33, 0), (34, 0)], .fn 56 [] [(35, 0), (36, 0)], .fn 52 [] [(37, 0), (38, 0)], .fn 56 [] [(39, 0), (40, 0)], .fn 52 [] [(41, 0), (42, 0)]]
def q8 : List SL := [.rpt [(.int .i64), (.int .i64), (.int .i64), (.int .i64), (.int .i64), (.int .i64), (.int .i64), (.int .i64)]]
def q9 : List SL := [.rpt [(.int .i64), (.int .i64), (.int .i64), (.int .i64), (.int .i64), (.int .i64), (.int .i64)]]
def q10 : List SL := [.pv .str, .own 0, .nil .sl, .nil .sl, .nil .sl, .nil .sl, .pv (.int .i64)]
def q11 : List SL := [.pv .str, .pv .str, .pv (.int .i64), .pv (.int .i64), .pv (.int .i64), .pv (.int .i64)]
def q12 : List SL := [.fn 82 [] [(2, 0), (3, 0)], .fn 83 [] [(4, 0), (5, 0)], .fn 52 [] [(6, 0), (7, 0)], .fn 83 [] [(8, 0), (9, 0)], .fn 52 [] [(10, 0), (11, 0)], .fn 56 [] [(12, 0), (13, 0)], .fn 52 [] [(14, 0), (15, 0)], .fn 56 [] [(16, 0), (17, 0)], .fn 52 [] [(18, 0), (19, 0)], .fn 56 [] [(20, 0), (21, 0)], .fn 52 [] [(22, 0), (23, 0)]]
def q13 : List SL := [.pv .str, .own 0, .own 1, .nil .sl, .nil .sl, .nil .sl, .pv (.int .i64)]
def q14 : List SL := [.fn 82 [] [(2, 0), (3, 0)], .fn 83 [] [(4, 0), (5, 0)], .fn 52 [] [(6, 0), (7, 0)], .fn 97 [] [(8, 0), (9, 0), (10, 0)]]
def q15 : List SL := [.pv .str, .own 0, .own 1, .own 2, .nil .sl, .nil .sl, .pv (.int .i64)]
def q16 : List SL := [.fn 52 [] [(2, 0), (3, 0)], .fn 98 [] [(4, 0), (5, 0)], .fn 99 [] [(6, 0), (7, 0), (8, 0), (9, 0), (10, 0)], .fn 52 [] [(11, 0), (12, 0)]]
def q17 : List SL := [.fn 71 [] [(2, 0), (3, 0), (4, 0)], .fn 97 [] [(5, 0), (6, 0), (7, 0)]]
def q18 : List SL := [.pv .str, .own 0, .own 1, .own 2, .own 3, .nil .sl, .pv (.int .i64)]
def q19 : List SL := [.fn 82 [] [(2, 0), (3, 0)], .fn 83 [] [(4, 0), (5, 0)], .fn 83 [] [(6, 0), (7, 0)], .fn 52 [] [(8, 0), (9, 0)]]
def q20 : List SL := [.pv .str, .own 0, .own 1, .own 2, .own 3, .own 4, .pv (.int .i64)]
def q21 : List SL := [.pv (.int .i64), .pv (.int .i64), .pv (.int .i64), .pv (.int .i64), .pv (.int .i64), .own 0, .nil .sl, .pv (.int .i64), .pv (.int .i64)]
def q22 : List SL := [.pv (.int .i64), .pv (.int .i64), .pv (.int .i64), .pv (.int .i64), .pv (.int .i64), .own 1, .nil .sl, .pv (.int .i64), .pv (.int .i64)]
def q23 : List SL := [.fn 52 [] [(2, 0), (3, 0)], .fn 72 [] [(4, 0), (5, 0), (6, 0), (7, 0), (8, 0)], .fn 52 [] [(9, 0), (10, 0)], .fn 56 [] [(11, 0), (12, 0)], .fn 56 [] [(13, 0), (14, 0)], .fn 52 [] [(15, 0), (16, 0)], .fn 52 [] [(17, 0), (18, 0)]]
def q24 : List SL := [.pv .str, .pv .str, .pv .str, .pv (.int .i64), .pv (.int .i64), .pv (.int .i64)]
def q25 : List SL := [.fn 82 [] [(2, 0), (3, 0)], .fn 83 [] [(4, 0), (5, 0)], .fn 52 [] [(6, 0), (7, 0)], .fn 83 [] [(8, 0), (9, 0)], .fn 52 [] [(10, 0), (11, 0)], .fn 83 [] [(12, 0), (13, 0)], .fn 52 [] [(14, 0), (15, 0)], .fn 56 [] [(16, 0), (17, 0)], .fn 52 [] [(18, 0), (19, 0)], .fn 56 [] [(20, 0), (21, 0)], .fn 52 [] [(22, 0), (23, 0)]]
def q26 : List SL := [.pv (.int .i64), .pv (.int .i64), .pv (.int .i64), .pv (.int .i64), .pv (.int .i64), .own 0, .own 1, .pv (.int .i64), .pv (.int .i64)]
def Bl6 : Sk := ⟨[.lf (.pv (.slice (.int .u8))), .lf (.pv (.int .i64))], [], []⟩
def Bl7 : Sk := ⟨[.lf (.pv (.int .i64))], [], []⟩
def Bmq : Sk := ⟨sparse 57 [(0, .lf (.pv (.slice (.int .u8)))), (1, .lf (.pv (.int .i64)))], [], []⟩
abbrev Bl2 := ((List (Int)) × (Int))
def Bkz : Bl2 → St := stOf Bmq 105
def Bmr : Sk := ⟨sparse 57 [(0, .lf (.pv (.slice (.int .u8)))), (1, .lf (.pv (.int .i64)))], [], []⟩
abbrev Bl3 := ((List (Int)) × (Int))
def Blb : Bl3 → St := stOf Bmr 105
def Bku (k : Nat) : FnX Int := mkX ({ mkC [] 105 0 0 with hint := fun i => look none [(1, some Bmq), (3, some Bmr)] i }) k Tryz.f13 Bl7
def Bk7 (k : Nat) : ((List (Int)) × (Int)) → Option Int := hid (Ab (Bku k).C k Tryz.f13 Bl6 Bl7)
def Bnd (k : Nat) : Sig := Ac Bl6 Bl7 (Bk7 k)
noncomputable def Bl4 (k : Nat) (J : JF Int) (L : LF Int) : ((List (Int)) × (Int)) → Option Int
 | (a0, a1) => L 1 [] k (Bkz (a0, a1))
theorem Boa (k : Nat) (x : ((List (Int)) × (Int))) : Bk7 k x = Bl4 k (Bku k).J (Bku k).L x := by
 refine (Ad _ _).trans ?_; apply cutX (Bku k) [] [] (st0 (Bku k).C Tryz.f13 Bl6 x) [] [(1, [], k)] (Bl4 k · · x) <;> intros <;> kernel_rfl
noncomputable def Bl5 (k j1 : Nat) (J : JF Int) (L : LF Int) : Bl2 → Option Int
 | (a0, a1) => bif (decide (a1 < ((List.length a0 : Nat) : Int))) then (bif (inB a1 (List.length a0)) then bif ((rdI a0 (Int.toNat a1)) == (35 : Int)) then (L 3 [j1] k (Blb (a0, a1))) else (bif (inB a1 (List.length a0)) then bif ((rdI a0 (Int.toNat a1)) == (32 : Int)) then (L 1 [] j1 (Bkz (a0, (IntKind.wrap .i64 (a1 + (1 : Int)))))) else (bif (inB a1 (List.length a0)) then bif ((rdI a0 (Int.toNat a1)) == (9 : Int)) then (L 1 [] j1 (Bkz (a0, (IntKind.wrap .i64 (a1 + (1 : Int)))))) else (bif (inB a1 (List.length a0)) then bif ((rdI a0 (Int.toNat a1)) == (10 : Int)) then (L 1 [] j1 (Bkz (a0, (IntKind.wrap .i64 (a1 + (1 : Int)))))) else (bif (inB a1 (List.length a0)) then bif ((rdI a0 (Int.toNat a1)) == (13 : Int)) then (L 1 [] j1 (Bkz (a0, (IntKind.wrap .i64 (a1 + (1 : Int)))))) else (some a1) else none) else none) else none) else none) else none) else (some a1)
theorem Bob (k j1 : Nat) (x : Bl2) : (Bku k).L 1 [] (j1 + 1) (Bkz x) = Bl5 k j1 (Bku k).J (Bku k).L x := by
 apply cutX (Bku k) [.r, .l, .b, .b] [j1] (Bkz x) [] [(1, [], j1), (3, [j1], k)] (Bl5 k j1 · · x) <;> intros <;> kernel_rfl
noncomputable def Blh (k j1 j3 : Nat) (J : JF Int) (L : LF Int) : Bl3 → Option Int
 | (a0, a1) => bif (decide (a1 < ((List.length a0 : Nat) : Int))) then (bif (inB a1 (List.length a0)) then bif ((rdI a0 (Int.toNat a1)) != (10 : Int)) then (L 3 [j1] j3 (Blb (a0, (IntKind.wrap .i64 (a1 + (1 : Int)))))) else (L 1 [] j1 (Bkz (a0, a1))) else none) else (L 1 [] j1 (Bkz (a0, a1)))
theorem Bmp (k j1 j3 : Nat) (x : Bl3) : (Bku k).L 3 [j1] (j3 + 1) (Blb x) = Blh k j1 j3 (Bku k).J (Bku k).L x := by
 apply cutX (Bku k) [.r, .l, .b, .b, .r, .b, .r, .t, .b, .b] [j1, j3] (Blb x) [] [(1, [], j1), (3, [j1], j3)] (Blh k j1 j3 · · x) <;> intros <;> kernel_rfl
theorem Bnp (k : Nat) : Aa Tryz.prog 13 (Bnd k) := Af (Bku k).C (l := []) k rfl trivial Ae Tryz.func13 (by kernel_rfl)
def Bmu : Sk := ⟨[.lf (.pv (.int .u8))], [], []⟩
def Bmv : Sk := ⟨[.lf (.pv .bool)], [], []⟩
def Bms (k : Nat) : Cfg := mkC [] 57 0 0
def Bk8 (k : Nat) : Int → Option Bool := hid (Ab (Bms k) k Tryz.f27 Bmu Bmv)
def Bne (k : Nat) : Sig := Ac Bmu Bmv (Bk8 k)
noncomputable def Bmt (k : Nat) : Int → Option Bool
 | a0 => bif (decide (a0 ≥ (97 : Int))) then (some (decide (a0 ≤ (122 : Int)))) else (some false)
theorem Boc (k : Nat) (x : Int) : Bk8 k x = Bmt k x := (Ad _ _).trans (by kernel_rfl)
theorem Bnq (k : Nat) : Aa Tryz.prog 27 (Bne k) := Af (Bms k) (l := []) k rfl trivial Ae Tryz.func27 (by kernel_rfl)
def Bmh : Sk := ⟨[.lf (.pv (.int .u8))], [], []⟩
def Bmi : Sk := ⟨[.lf (.pv .bool)], [], []⟩
def Bmf (k : Nat) : Cfg := mkC [] 57 0 0
def Bk3 (k : Nat) : Int → Option Bool := hid (Ab (Bmf k) k Tryz.f28 Bmh Bmi)
def Bna (k : Nat) : Sig := Ac Bmh Bmi (Bk3 k)
noncomputable def Bmg (k : Nat) : Int → Option Bool
 | a0 => bif (decide (a0 ≥ (48 : Int))) then (some (decide (a0 ≤ (57 : Int)))) else (some false)
theorem Bn4 (k : Nat) (x : Int) : Bk3 k x = Bmg k x := (Ad _ _).trans (by kernel_rfl)
theorem Bnm (k : Nat) : Aa Tryz.prog 28 (Bna k) := Af (Bmf k) (l := []) k rfl trivial Ae Tryz.func28 (by kernel_rfl)
def Bmn : Sk := ⟨[.lf (.pv (.int .u8))], [], []⟩
def Bmo : Sk := ⟨[.lf (.pv .bool)], [], []⟩
def Bml (k : Nat) : Cfg := mkC [] 77 0 0
def Blf (k : Nat) : Int → Option Bool := hid (Ab (Bml k) k Tryz.f29 Bmn Bmo)
def Bnc (k : Nat) : Sig := Ac Bmn Bmo (Blf k)
noncomputable def Bmm (k : Nat) : Int → Option Bool
 | a0 => bif (a0 == (123 : Int)) then (some true) else (bif (a0 == (125 : Int)) then (some true) else (bif (a0 == (44 : Int)) then (some true) else (bif (a0 == (59 : Int)) then (some true) else (bif (a0 == (58 : Int)) then (some true) else (bif (a0 == (47 : Int)) then (some true) else (some (a0 == (45 : Int))))))))
theorem Bn9 (k : Nat) (x : Int) : Blf k x = Bmm k x := (Ad _ _).trans (by kernel_rfl)
theorem Bno (k : Nat) : Aa Tryz.prog 29 (Bnc k) := Af (Bml k) (l := []) k rfl trivial Ae Tryz.func29 (by kernel_rfl)
def q27 : List SL := [.pv (.int .i64), .pv .str, .pv (.int .i64), .pv (.int .i64)]
abbrev H0 : Type := (List (Int)) × (Int) × (Int) × (Int) × (List Int) × (Int) × (Int)
abbrev H1 : Type := (List (Int)) × (Int) × (Int) × (Int) × (Int) × (List Int) × (Int) × (Int)
abbrev H2 : Type := (Int) × (List Int) × (Int) × (Int) × (Int)
def Bl0 : Sk := ⟨[.lf (.pv (.slice (.int .u8))), .lf (.pv (.int .i64))], [], []⟩
def Bl1 : Sk := ⟨[.agg [.pv (.int .i64), .pv .str, .pv (.int .i64), .pv (.int .i64)], .lf (.pv (.int .i64))], [], []⟩
def Bmk : Sk := ⟨sparse 114 [(0, .lf (.pv (.slice (.int .u8)))), (1, .lf (.pv (.int .i64))), (4, .lf (.ptr 0 0)), (6, .lf (.pv (.int .i64)))], [q27], []⟩
abbrev Blw := H0
def Bk2 : Blw → St := stOf Bmk 162
def Bmj : Sk := ⟨sparse 114 [(0, .lf (.pv (.slice (.int .u8)))), (1, .lf (.pv (.int .i64))), (4, .lf (.ptr 0 0)), (6, .lf (.pv (.int .i64))), (7, .lf (.pv (.int .i64)))], [q27], []⟩
abbrev Blv := H1
def Bk5 : Blv → St := stOf Bmj 162
def Bn5 (k : Nat) : EnvL := [(27, [Bne k]), (28, [Bna k]), (29, [Bnc k])]
def Bkw (k : Nat) : FnX H2 := mkX ({ mkC (Bn5 k) 162 0 0 with hint := fun i => look none [(3, some Bmk), (10, some Bmj)] i }) k Tryz.f14 Bl1
def Ble (k : Nat) : ((List (Int)) × (Int)) → Option H2 := hid (Ab (Bkw k).C k Tryz.f14 Bl0 Bl1)
def Bnb (k : Nat) : Sig := Ac Bl0 Bl1 (Ble k)
noncomputable def Blx (k : Nat) (J : JF H2) (L : LF H2) : ((List (Int)) × (Int)) → Option H2
 | (a0, a1) => bif (inB a1 (List.length a0)) then ((Bk8 k) ((rdI a0 (Int.toNat a1)))).bind fun o1 => bif o1 then (L 3 [] k (Bk2 (a0, a1, a1, (0 : Int), ([] : List Int), (0 : Int), (0 : Int)))) else (bif (inB a1 (List.length a0)) then ((Bk3 k) ((rdI a0 (Int.toNat a1)))).bind fun o2 => bif o2 then (L 10 [] k (Bk5 (a0, a1, a1, (0 : Int), (0 : Int), ([] : List Int), (0 : Int), (0 : Int)))) else (bif (inB a1 (List.length a0)) then ((Blf k) ((rdI a0 (Int.toNat a1)))).bind fun o3 => bif o3 then (bif (cutB a1 (IntKind.wrap .i64 (a1 + (1 : Int))) (List.length a0)) then some ((3 : Int), (cutL a0 a1 (IntKind.wrap .i64 (a1 + (1 : Int)))), (0 : Int), a1, (0 : Int)) else none) else (some ((0 : Int), ([] : List Int), (0 : Int), (0 : Int), (40 : Int))) else none) else none) else none
theorem Bn6 (k : Nat) (x : ((List (Int)) × (Int))) : Ble k x = Blx k (Bkw k).J (Bkw k).L x := by
 refine (Ad _ _).trans ?_; apply cutX (Bkw k) [] [] (st0 (Bkw k).C Tryz.f14 Bl0 x) [] [(3, [], k), (10, [], k)] (Blx k · · x) <;> intros <;> kernel_rfl
noncomputable def Blz (k j3 : Nat) (J : JF H2) (L : LF H2) : Blw → Option H2
 | (a0, a1, a2, a3, a4, a5, a6) => bif (decide (a2 < ((List.length a0 : Nat) : Int))) then (bif (inB a2 (List.length a0)) then ((Bk8 k) ((rdI a0 (Int.toNat a2)))).bind fun o1 => bif o1 then (L 3 [] j3 (Bk2 (a0, a1, (IntKind.wrap .i64 (a2 + (1 : Int))), a3, a4, a5, a6))) else (bif (inB a2 (List.length a0)) then ((Bk3 k) ((rdI a0 (Int.toNat a2)))).bind fun o2 => bif o2 then (L 3 [] j3 (Bk2 (a0, a1, (IntKind.wrap .i64 (a2 + (1 : Int))), a3, a4, a5, a6))) else (bif (inB a2 (List.length a0)) then bif ((rdI a0 (Int.toNat a2)) == (95 : Int)) then (L 3 [] j3 (Bk2 (a0, a1, (IntKind.wrap .i64 (a2 + (1 : Int))), a3, a4, a5, a6))) else (bif (decide ((IntKind.wrap .i64 (a2 - a1)) > (24 : Int))) then (some ((0 : Int), ([] : List Int), (0 : Int), (0 : Int), (4 : Int))) else (bif (cutB a1 a2 (List.length a0)) then some ((1 : Int), (cutL a0 a1 a2), (0 : Int), a1, (0 : Int)) else none)) else none) else none) else none) else (bif (decide ((IntKind.wrap .i64 (a2 - a1)) > (24 : Int))) then (some ((0 : Int), ([] : List Int), (0 : Int), (0 : Int), (4 : Int))) else (bif (cutB a1 a2 (List.length a0)) then some ((1 : Int), (cutL a0 a1 a2), (0 : Int), a1, (0 : Int)) else none))
theorem Bn8 (k j3 : Nat) (x : Blw) : (Bkw k).L 3 [] (j3 + 1) (Bk2 x) = Blz k j3 (Bkw k).J (Bkw k).L x := by
 apply cutX (Bkw k) [.r, .r, .l, .b, .r, .t, .l, .b, .b] [j3] (Bk2 x) [] [(3, [], j3), (10, [], k)] (Blz k j3 · · x) <;> intros <;> kernel_rfl
noncomputable def Bly (k j10 : Nat) (J : JF H2) (L : LF H2) : Blv → Option H2
 | (a0, a1, a2, a3, a4, a5, a6, a7) => bif (decide (a2 < ((List.length a0 : Nat) : Int))) then (bif (inB a2 (List.length a0)) then ((Bk3 k) ((rdI a0 (Int.toNat a2)))).bind fun o1 => bif o1 then (bif (decide ((IntKind.wrap .i64 (a2 - a1)) < (18 : Int))) then (bif (inB a2 (List.length a0)) then L 10 [] j10 (Bk5 (a0, a1, (IntKind.wrap .i64 (a2 + (1 : Int))), (IntKind.wrap .i64 ((IntKind.wrap .i64 ((10 : Int) * a3)) + (IntKind.wrap .i64 (IntKind.wrap .u8 ((rdI a0 (Int.toNat a2)) - (48 : Int)))))), a4, a5, a6, a7)) else none) else (L 10 [] j10 (Bk5 (a0, a1, (IntKind.wrap .i64 (a2 + (1 : Int))), a3, a4, a5, a6, a7)))) else (bif (decide ((IntKind.wrap .i64 (a2 - a1)) > (18 : Int))) then (some ((0 : Int), ([] : List Int), (0 : Int), (0 : Int), (4 : Int))) else (bif (cutB a1 a2 (List.length a0)) then some ((2 : Int), (cutL a0 a1 a2), a3, a1, (0 : Int)) else none)) else none) else (bif (decide ((IntKind.wrap .i64 (a2 - a1)) > (18 : Int))) then (some ((0 : Int), ([] : List Int), (0 : Int), (0 : Int), (4 : Int))) else (bif (cutB a1 a2 (List.length a0)) then some ((2 : Int), (cutL a0 a1 a2), a3, a1, (0 : Int)) else none))
theorem Bn7 (k j10 : Nat) (x : Blv) : (Bkw k).L 10 [] (j10 + 1) (Bk5 x) = Bly k j10 (Bkw k).J (Bkw k).L x := by
 apply cutX (Bkw k) [.r, .r, .l, .b, .r, .e, .r, .t, .r, .l, .b, .b] [j10] (Bk5 x) [] [(3, [], k), (10, [], j10)] (Bly k j10 · · x) <;> intros <;> kernel_rfl
theorem Bnn (k : Nat) : Aa Tryz.prog 14 (Bnb k) := Af (Bkw k).C k rfl ⟨⟨Bnq k, trivial⟩, ⟨Bnm k, trivial⟩, ⟨Bno k, trivial⟩, trivial⟩ Ae Tryz.func14 (by kernel_rfl)
abbrev H3 : Type := (List (Int)) × (Int) × (List (YT8))
abbrev H4 : Type := (Int) × (Int) × (List (YT8))
def Blt : Sk := ⟨[.lf (.pv (.slice (.int .u8)))], [], []⟩
def Blu : Sk := ⟨[.lf (.own 0), .lf (.pv (.int .i64)), .lf (.pv (.int .i64))], [], [some (56, yt8)]⟩
def Bme : Sk := ⟨sparse 44 [(0, .lf (.pv (.slice (.int .u8)))), (5, .lf (.own 0)), (6, .lf (.pv (.int .i64)))], [], [some (56, yt8)]⟩
abbrev Blq := H3
def Bla : Blq → St := stOf Bme 92
def Bn1 (k : Nat) : EnvL := [(13, [Bnd k]), (14, [Bnb k])]
def Bky (k : Nat) : FnX H4 := mkX ({ mkC (Bn1 k) 92 0 0 with hint := fun i => look none [(5, some Bme)] i }) k Tryz.f6 Blu
def Bld (k : Nat) : (List (Int)) → Option H4 := hid (Ab (Bky k).C k Tryz.f6 Blt Blu)
def Bm9 (k : Nat) : Sig := Ac Blt Blu (Bld k)
noncomputable def Blr (k : Nat) (J : JF H4) (L : LF H4) : (List (Int)) → Option H4
 | a0 => bif (decide (((List.length a0 : Nat) : Int) > (65536 : Int))) then (some ((4 : Int), (65536 : Int), [])) else (((Bk7 k) (a0, (0 : Int))).bind fun o1 => L 5 [] k (Bla (a0, o1, [])))
theorem Bn2 (k : Nat) (x : (List (Int))) : Bld k x = Blr k (Bky k).J (Bky k).L x := by
 refine (Ad _ _).trans ?_; apply cutX (Bky k) [] [] (st0 (Bky k).C Tryz.f6 Blt x) [] [(5, [], k)] (Blr k · · x) <;> intros <;> kernel_rfl
noncomputable def Bls (k j5 : Nat) (J : JF H4) (L : LF H4) : Blq → Option H4
 | (a0, a1, a2) => bif (decide (a1 < ((List.length a0 : Nat) : Int))) then (((Ble k) (a0, a1)).bind fun o1 => bif (o1.2.2.2.2 != (0 : Int)) then (some (o1.2.2.2.2, a1, [])) else (bif (appB 40 (List.length a2) (List.length ([(o1.1, (o1.2.1, (o1.2.2.1, (o1.2.2.2.1, ()))))] : List (YT8)))) then ((Bk7 k) (a0, (IntKind.wrap .i64 (a1 + ((List.length o1.2.1 : Nat) : Int))))).bind fun o2 => L 5 [] j5 (Bla (a0, o2, (a2 ++ ([(o1.1, (o1.2.1, (o1.2.2.1, (o1.2.2.2.1, ()))))] : List (YT8))))) else none)) else (bif (appB 40 (List.length a2) (List.length ([((0 : Int), (([] : List Int), ((0 : Int), (a1, ()))))] : List (YT8)))) then some ((0 : Int), (0 : Int), (a2 ++ ([((0 : Int), (([] : List Int), ((0 : Int), (a1, ()))))] : List (YT8)))) else none)
theorem Bn3 (k j5 : Nat) (x : Blq) : (Bky k).L 5 [] (j5 + 1) (Bla x) = Bls k j5 (Bky k).J (Bky k).L x := by
 apply cutX (Bky k) [.r, .r, .r, .r, .l, .b, .b] [j5] (Bla x) [] [(5, [], j5)] (Bls k j5 · · x) <;> intros <;> kernel_rfl
theorem Bnl (k : Nat) : Aa Tryz.prog 6 (Bm9 k) := Af (Bky k).C k rfl ⟨⟨Bnp k, trivial⟩, ⟨Bnn k, trivial⟩, trivial⟩ Ae Tryz.func6 (by kernel_rfl)
def flexkindi : Sk := ⟨[.lf (.pv (.int .u8))], [], []⟩
def flexkindo : Sk := ⟨[.lf (.pv (.int .i64))], [], []⟩
def Afg : Sk := ⟨sparse 36 [(17, .lf (.pv (.int .u8)))], [], []⟩
abbrev A72 := Int
def J9 : A72 → St := stOf Afg 84
def Afh : Sk := ⟨sparse 36 [(17, .lf (.pv (.int .u8)))], [], []⟩
abbrev A73 := Int
def V0 : A73 → St := stOf Afh 84
def flexkind (k : Nat) : FnX Int := mkX ({ mkC [] 84 0 0 with hint := fun i => look none [(10, some Afg), (14, some Afh)] i }) k Tryz.f77 flexkindo
def clexkind (k : Nat) : Int → Option Int := hid (Ab (flexkind k).C k Tryz.f77 flexkindi flexkindo)
def sglexkind (k : Nat) : Sig := Ac flexkindi flexkindo (clexkind k)
noncomputable def V1 (k : Nat) (J : JF Int) (L : LF Int) : Int → Option Int
 | a0 => bif (decide ((97 : Int) ≤ a0)) then (bif (decide (a0 ≤ (122 : Int))) then (some (3 : Int)) else (bif (decide ((48 : Int) ≤ a0)) then (bif (decide (a0 ≤ (57 : Int))) then (some (4 : Int)) else (bif (a0 == (32 : Int)) then (some (1 : Int)) else (bif (a0 == (9 : Int)) then (some (1 : Int)) else (bif (a0 == (10 : Int)) then (some (1 : Int)) else (bif (a0 == (13 : Int)) then (some (1 : Int)) else (J 10 [] (J9 (a0)))))))) else (bif (a0 == (32 : Int)) then (some (1 : Int)) else (bif (a0 == (9 : Int)) then (some (1 : Int)) else (bif (a0 == (10 : Int)) then (some (1 : Int)) else (bif (a0 == (13 : Int)) then (some (1 : Int)) else (J 10 [] (J9 (a0))))))))) else (bif (decide ((48 : Int) ≤ a0)) then (bif (decide (a0 ≤ (57 : Int))) then (some (4 : Int)) else (bif (a0 == (32 : Int)) then (some (1 : Int)) else (bif (a0 == (9 : Int)) then (some (1 : Int)) else (bif (a0 == (10 : Int)) then (some (1 : Int)) else (bif (a0 == (13 : Int)) then (some (1 : Int)) else (J 10 [] (J9 (a0)))))))) else (bif (a0 == (32 : Int)) then (some (1 : Int)) else (bif (a0 == (9 : Int)) then (some (1 : Int)) else (bif (a0 == (10 : Int)) then (some (1 : Int)) else (bif (a0 == (13 : Int)) then (some (1 : Int)) else (J 10 [] (J9 (a0))))))))
theorem A74 (k : Nat) (x : Int) : clexkind k x = V1 k (flexkind k).J (flexkind k).L x := by
 refine (Ad _ _).trans ?_; apply cutX (flexkind k) [] [] (st0 (flexkind k).C Tryz.f77 flexkindi x) [(10, []), (14, [])] [] (V1 k · · x) <;> intros <;> kernel_rfl
noncomputable def V2 (k : Nat) (J : JF Int) (L : LF Int) : Int → Option Int
 | a0 => bif (a0 == (35 : Int)) then (some (2 : Int)) else (bif (a0 == (95 : Int)) then (some (6 : Int)) else (bif (a0 == (123 : Int)) then (some (5 : Int)) else (bif (a0 == (125 : Int)) then (some (5 : Int)) else (J 14 [] (V0 (a0))))))
theorem A75 (k : Nat) (x : Int) : (flexkind k).J 10 [] (J9 x) = V2 k (flexkind k).J (flexkind k).L x := by
 apply cutX (flexkind k) [.r, .r, .l, .r, .b, .l, .b, .b, .l, .b, .l, .b, .l, .b, .l, .r] [] (J9 x) [(10, []), (14, [])] [] (V2 k · · x) <;> intros <;> kernel_rfl
noncomputable def V3 (k : Nat) (J : JF Int) (L : LF Int) : Int → Option Int
 | a0 => bif (a0 == (44 : Int)) then (some (5 : Int)) else (bif (a0 == (59 : Int)) then (some (5 : Int)) else (bif (a0 == (58 : Int)) then (some (5 : Int)) else (bif (a0 == (47 : Int)) then (some (5 : Int)) else (bif (a0 == (45 : Int)) then (some (5 : Int)) else (some (0 : Int))))))
theorem A76 (k : Nat) (x : Int) : (flexkind k).J 14 [] (V0 x) = V3 k (flexkind k).J (flexkind k).L x := by
 apply cutX (flexkind k) [.r, .r, .l, .r, .b, .l, .b, .b, .l, .b, .l, .b, .l, .b, .l, .r, .r, .r, .r] [] (V0 x) [(10, []), (14, [])] [] (V3 k · · x) <;> intros <;> kernel_rfl
theorem Ad2 (k : Nat) : Aa Tryz.prog 77 (sglexkind k) := Af (flexkind k).C (l := []) k rfl trivial Ae Tryz.func77 (by kernel_rfl)
abbrev H5 : Type := (Int) × (List (Int)) × (Int)
def V4 : Sk := ⟨[.lf (.ptr 0 0)], [[.pv (.slice (.int .u8)), .pv (.int .i64)]], []⟩
def Afo : Sk := ⟨[.lf (.pv (.int .i64))], V4.boxes, []⟩
def A79 (k : Nat) : EnvL := [(77, [sglexkind k])]
def Afm (k : Nat) : Cfg := mkC (A79 k) 62 1 0
def Lo (k : Nat) : ((List (Int)) × (Int)) → Option H5 := hid (Ab (Afm k) k Tryz.f48 V4 Afo)
def Ab7 (k : Nat) : Sig := Ac V4 Afo (Lo k)
noncomputable def Afn (k : Nat) : ((List (Int)) × (Int)) → Option H5
 | (a0, a1) => bif (inB a1 (List.length a0)) then ((clexkind k) ((rdI a0 (Int.toNat a1)))).bind fun o1 => some (o1, a0, a1) else none
theorem A8a (k : Nat) (x : ((List (Int)) × (Int))) : Lo k x = Afn k x := (Ad _ _).trans (by kernel_rfl)
theorem Ad4 (k : Nat) : Aa Tryz.prog 48 (Ab7 k) := Af (Afm k) k rfl ⟨⟨Ad2 k, trivial⟩, trivial⟩ Ae Tryz.func48 (by kernel_rfl)
abbrev H6 : Type := (List (Int)) × (Int) × (Int) × (Int)
def Vf : Sk := ⟨[.lf (.pv (.slice (.int .u8))), .lf (.pv (.int .u8))], [], []⟩
def Vh : Sk := ⟨[.lf (.pv (.int .i64))], [], []⟩
def Ae8 : Sk := ⟨sparse 19 [(0, .lf (.pv (.slice (.int .u8)))), (1, .lf (.pv (.int .u8))), (7, .lf (.pv (.int .i64))), (8, .lf (.pv (.int .i64)))], [], []⟩
abbrev Vc := H6
def L9 : Vc → St := stOf Ae8 67
def E7 (k : Nat) : FnX Int := mkX ({ mkC [] 67 0 0 with hint := fun i => look none [(2, some Ae8)] i }) k Tryz.f49 Vh
def N5 (k : Nat) : ((List (Int)) × (Int)) → Option Int := hid (Ab (E7 k).C k Tryz.f49 Vf Vh)
def Axf (k : Nat) : Sig := Ac Vf Vh (N5 k)
noncomputable def Vd (k : Nat) (J : JF Int) (L : LF Int) : ((List (Int)) × (Int)) → Option Int
 | (a0, a1) => L 2 [] k (L9 (a0, a1, ((List.length a0 : Nat) : Int), (0 : Int)))
theorem A7o (k : Nat) (x : ((List (Int)) × (Int))) : N5 k x = Vd k (E7 k).J (E7 k).L x := by
 refine (Ad _ _).trans ?_; apply cutX (E7 k) [] [] (st0 (E7 k).C Tryz.f49 Vf x) [] [(2, [], k)] (Vd k · · x) <;> intros <;> kernel_rfl
noncomputable def Ve (k j2 : Nat) (J : JF Int) (L : LF Int) : Vc → Option Int
 | (a0, a1, a2, a3) => bif (decide (a3 < a2)) then (bif (inB a3 (List.length a0)) then bif (a1 == (rdI a0 (Int.toNat a3))) then (some a3) else (L 2 [] j2 (L9 (a0, a1, a2, (IntKind.wrap .i64 (a3 + (1 : Int)))))) else none) else (some (-1 : Int))
theorem A7p (k j2 : Nat) (x : Vc) : (E7 k).L 2 [] (j2 + 1) (L9 x) = Ve k j2 (E7 k).J (E7 k).L x := by
 apply cutX (E7 k) [.r, .l, .r, .b, .b] [j2] (L9 x) [] [(2, [], j2)] (Ve k j2 · · x) <;> intros <;> kernel_rfl
theorem A2a (k : Nat) : Aa Tryz.prog 49 (Axf k) := Af (E7 k).C (l := []) k rfl trivial Ae Tryz.func49 (by kernel_rfl)
def Qi : Sk := ⟨[.lf (.ptr 0 0)], [[.pv (.slice (.int .u8)), .pv (.int .i64)]], []⟩
def Wf : Sk := ⟨[], Qi.boxes, []⟩
def Af0 : Sk := ⟨sparse 54 [(0, .lf (.ptr 0 0))], [[.pv (.slice (.int .u8)), .pv (.int .i64)]], []⟩
abbrev Wc := ((List (Int)) × (Int))
def I1 : Wc → St := stOf Af0 102
def A8k (k : Nat) : EnvL := [(48, [Ab7 k]), (49, [Axf k])]
def Fb (k : Nat) : FnX ((List (Int)) × (Int)) := mkX ({ mkC (A8k k) 102 1 0 with hint := fun i => look none [(0, some Af0)] i }) k Tryz.f30 Wf
def Oa (k : Nat) : ((List (Int)) × (Int)) → Option ((List (Int)) × (Int)) := hid (Ab (Fb k).C k Tryz.f30 Qi Wf)
def Axl (k : Nat) : Sig := Ac Qi Wf (Oa k)
noncomputable def Wd (k : Nat) (J : JF ((List (Int)) × (Int))) (L : LF ((List (Int)) × (Int))) : ((List (Int)) × (Int)) → Option ((List (Int)) × (Int))
 | (a0, a1) => L 0 [] k (I1 (a0, a1))
theorem A8l (k : Nat) (x : ((List (Int)) × (Int))) : Oa k x = Wd k (Fb k).J (Fb k).L x := by
 refine (Ad _ _).trans ?_; apply cutX (Fb k) [] [] (st0 (Fb k).C Tryz.f30 Qi x) [] [(0, [], k)] (Wd k · · x) <;> intros <;> kernel_rfl
noncomputable def We (k j0 : Nat) (J : JF ((List (Int)) × (Int))) (L : LF ((List (Int)) × (Int))) : Wc → Option ((List (Int)) × (Int))
 | (a0, a1) => bif (decide (a1 < ((List.length a0 : Nat) : Int))) then (((Lo k) (a0, a1)).bind fun o1 => bif (o1.1 == (2 : Int)) then (bif (cutB o1.2.2 (((List.length o1.2.1) : Nat) : Int) (List.length o1.2.1)) then ((N5 k) ((cutL o1.2.1 o1.2.2 (((List.length o1.2.1) : Nat) : Int)), (10 : Int))).bind fun o2 => bif (decide (o2 ≥ (0 : Int))) then (L 0 [] j0 (I1 (o1.2.1, (IntKind.wrap .i64 (o1.2.2 + o2))))) else (L 0 [] j0 (I1 (o1.2.1, ((List.length o1.2.1 : Nat) : Int)))) else none) else (bif (o1.1 == (1 : Int)) then (L 0 [] j0 (I1 (o1.2.1, (IntKind.wrap .i64 (o1.2.2 + (1 : Int)))))) else (some (o1.2.1, o1.2.2)))) else (some (a0, a1))
theorem A8m (k j0 : Nat) (x : Wc) : (Fb k).L 0 [] (j0 + 1) (I1 x) = We k j0 (Fb k).J (Fb k).L x := by
 apply cutX (Fb k) [.b, .b] [j0] (I1 x) [] [(0, [], j0)] (We k j0 · · x) <;> intros <;> kernel_rfl
theorem A2h (k : Nat) : Aa Tryz.prog 30 (Axl k) := Af (Fb k).C k rfl ⟨⟨Ad4 k, trivial⟩, ⟨A2a k, trivial⟩, trivial⟩ Ae Tryz.func30 (by kernel_rfl)
def Afk : Sk := ⟨[.lf (.rpt [(.slice (.int .u8)), (.int .i64)])], [], []⟩
def Afl : Sk := ⟨[.lf (.pv (.int .i64))], [], []⟩
def A77 (k : Nat) : EnvL := [(77, [sglexkind k])]
def Afi (k : Nat) : Cfg := mkC (A77 k) 62 0 0
def Jv (k : Nat) : ((List (Int)) × (Int)) → Option Int := hid (Ab (Afi k) k Tryz.f48 Afk Afl)
def Ab8 (k : Nat) : Sig := Ac Afk Afl (Jv k)
noncomputable def Afj (k : Nat) : ((List (Int)) × (Int)) → Option Int
 | (a0, a1) => bif (inB a1 (List.length a0)) then ((clexkind k) ((rdI a0 (Int.toNat a1)))).bind fun o1 => some o1 else none
theorem A78 (k : Nat) (x : ((List (Int)) × (Int))) : Jv k x = Afj k x := (Ad _ _).trans (by kernel_rfl)
theorem Ad3 (k : Nat) : Aa Tryz.prog 48 (Ab8 k) := Af (Afi k) k rfl ⟨⟨Ad2 k, trivial⟩, trivial⟩ Ae Tryz.func48 (by kernel_rfl)
def Af7 : Sk := ⟨[.lf (.pv (.int .i64))], [], []⟩
def Af8 : Sk := ⟨[.lf (.pv .bool)], [], []⟩
def Af5 (k : Nat) : Cfg := mkC [] 61 0 0
def Od (k : Nat) : Int → Option Bool := hid (Ab (Af5 k) k Tryz.f79 Af7 Af8)
def Axo (k : Nat) : Sig := Ac Af7 Af8 (Od k)
noncomputable def Af6 (k : Nat) : Int → Option Bool
 | a0 => bif (a0 == (3 : Int)) then (some true) else (bif (a0 == (4 : Int)) then (some true) else (some (a0 == (6 : Int))))
theorem A8q (k : Nat) (x : Int) : Od k x = Af6 k x := (Ad _ _).trans (by kernel_rfl)
theorem A2j (k : Nat) : Aa Tryz.prog 79 (Axo k) := Af (Af5 k) (l := []) k rfl trivial Ae Tryz.func79 (by kernel_rfl)
abbrev H7 : Type := (List Int) × (List (Int)) × (Int)
def Qh : Sk := ⟨[.lf (.ptr 0 0), .lf (.fn 79 [] [])], [[.pv (.slice (.int .u8)), .pv (.int .i64)]], []⟩
def Wb : Sk := ⟨[.lf (.pv .str)], Qh.boxes, []⟩
def Afy : Sk := ⟨sparse 44 [(0, .lf (.ptr 0 0)), (1, .lf (.fn 79 [] [])), (5, .lf (.pv (.int .i64)))], [[.pv (.slice (.int .u8)), .pv (.int .i64)]], []⟩
abbrev V9 := H5
def Md : V9 → St := stOf Afy 92
def A8h (k : Nat) : EnvL := [(48, [Ab8 k]), (79, [Axo k])]
def E9 (k : Nat) : FnX H7 := mkX ({ mkC (A8h k) 92 1 0 with hint := fun i => look none [(2, some Afy)] i }) k Tryz.f78 Wb
def N8 (k : Nat) : ((List (Int)) × (Int)) → Option H7 := hid (Ab (E9 k).C k Tryz.f78 Qh Wb)
def Axj (k : Nat) : Sig := Ac Qh Wb (N8 k)
noncomputable def Wa (k : Nat) (J : JF H7) (L : LF H7) : ((List (Int)) × (Int)) → Option H7
 | (a0, a1) => L 2 [] k (Md (a1, a0, a1))
theorem A8i (k : Nat) (x : ((List (Int)) × (Int))) : N8 k x = Wa k (E9 k).J (E9 k).L x := by
 refine (Ad _ _).trans ?_; apply cutX (E9 k) [] [] (st0 (E9 k).C Tryz.f78 Qh x) [] [(2, [], k)] (Wa k · · x) <;> intros <;> kernel_rfl
noncomputable def Afz (k j2 : Nat) (J : JF H7) (L : LF H7) : V9 → Option H7
 | (a0, a1, a2) => bif (decide (a2 < ((List.length a1 : Nat) : Int))) then (((Jv k) (a1, a2)).bind fun o1 => ((Od k) (o1)).bind fun o2 => bif o2 then (L 2 [] j2 (Md (a0, a1, (IntKind.wrap .i64 (a2 + (1 : Int)))))) else (bif (cutB a0 a2 (List.length a1)) then some ((cutL a1 a0 a2), a1, a2) else none)) else (bif (cutB a0 a2 (List.length a1)) then some ((cutL a1 a0 a2), a1, a2) else none)
theorem A8j (k j2 : Nat) (x : V9) : (E9 k).L 2 [] (j2 + 1) (Md x) = Afz k j2 (E9 k).J (E9 k).L x := by
 apply cutX (E9 k) [.r, .r, .l, .b, .b] [j2] (Md x) [] [(2, [], j2)] (Afz k j2 · · x) <;> intros <;> kernel_rfl
theorem A2g (k : Nat) : Aa Tryz.prog 78 (Axj k) := Af (E9 k).C k rfl ⟨⟨Ad3 k, trivial⟩, ⟨A2j k, trivial⟩, trivial⟩ Ae Tryz.func78 (by kernel_rfl)
abbrev H8 : Type := (Int) × (List Int) × (Int) × (Int) × (Int) × (List (Int)) × (Int)
def Wh : Sk := ⟨[.lf (.ptr 0 0)], [[.pv (.slice (.int .u8)), .pv (.int .i64)]], []⟩
def Aga : Sk := ⟨[.agg [.pv (.int .i64), .pv .str, .pv (.int .i64), .pv (.int .i64)], .lf (.pv (.int .i64))], Wh.boxes, []⟩
def A8p (k : Nat) : EnvL := [(78, [Axj k])]
def Af4 (k : Nat) : Cfg := mkC (A8p k) 61 1 0
def S9 (k : Nat) : ((List (Int)) × (Int)) → Option H8 := hid (Ab (Af4 k) k Tryz.f50 Wh Aga)
def Axn (k : Nat) : Sig := Ac Wh Aga (S9 k)
noncomputable def Af9 (k : Nat) : ((List (Int)) × (Int)) → Option H8
 | (a0, a1) => ((N8 k) (a0, a1)).bind fun o1 => bif (decide (((List.length o1.1 : Nat) : Int) > (24 : Int))) then (some ((0 : Int), ([] : List Int), (0 : Int), (0 : Int), (4 : Int), o1.2.1, o1.2.2)) else (some ((1 : Int), o1.1, (0 : Int), (0 : Int), (0 : Int), o1.2.1, o1.2.2))
theorem A8r (k : Nat) (x : ((List (Int)) × (Int))) : S9 k x = Af9 k x := (Ad _ _).trans (by kernel_rfl)
theorem A2k (k : Nat) : Aa Tryz.prog 50 (Axn k) := Af (Af4 k) k rfl ⟨⟨A2g k, trivial⟩, trivial⟩ Ae Tryz.func50 (by kernel_rfl)
def Afs : Sk := ⟨[.lf (.pv (.int .i64))], [], []⟩
def Aft : Sk := ⟨[.lf (.pv .bool)], [], []⟩
def Afq (k : Nat) : Cfg := mkC [] 53 0 0
def N7 (k : Nat) : Int → Option Bool := hid (Ab (Afq k) k Tryz.f80 Afs Aft)
def Axi (k : Nat) : Sig := Ac Afs Aft (N7 k)
noncomputable def Afr (k : Nat) : Int → Option Bool
 | a0 => some (a0 == (4 : Int))
theorem A8c (k : Nat) (x : Int) : N7 k x = Afr k x := (Ad _ _).trans (by kernel_rfl)
theorem A2d (k : Nat) : Aa Tryz.prog 80 (Axi k) := Af (Afq k) (l := []) k rfl trivial Ae Tryz.func80 (by kernel_rfl)
def Qg : Sk := ⟨[.lf (.ptr 0 0), .lf (.fn 80 [] [])], [[.pv (.slice (.int .u8)), .pv (.int .i64)]], []⟩
def V8 : Sk := ⟨[.lf (.pv .str)], Qg.boxes, []⟩
def Afw : Sk := ⟨sparse 44 [(0, .lf (.ptr 0 0)), (1, .lf (.fn 80 [] [])), (5, .lf (.pv (.int .i64)))], [[.pv (.slice (.int .u8)), .pv (.int .i64)]], []⟩
abbrev V6 := H5
def Mc : V6 → St := stOf Afw 92
def A8e (k : Nat) : EnvL := [(48, [Ab8 k]), (80, [Axi k])]
def Fa (k : Nat) : FnX H7 := mkX ({ mkC (A8e k) 92 1 0 with hint := fun i => look none [(2, some Afw)] i }) k Tryz.f78 V8
def N9 (k : Nat) : ((List (Int)) × (Int)) → Option H7 := hid (Ab (Fa k).C k Tryz.f78 Qg V8)
def Axk (k : Nat) : Sig := Ac Qg V8 (N9 k)
noncomputable def V7 (k : Nat) (J : JF H7) (L : LF H7) : ((List (Int)) × (Int)) → Option H7
 | (a0, a1) => L 2 [] k (Mc (a1, a0, a1))
theorem A8f (k : Nat) (x : ((List (Int)) × (Int))) : N9 k x = V7 k (Fa k).J (Fa k).L x := by
 refine (Ad _ _).trans ?_; apply cutX (Fa k) [] [] (st0 (Fa k).C Tryz.f78 Qg x) [] [(2, [], k)] (V7 k · · x) <;> intros <;> kernel_rfl
noncomputable def Afx (k j2 : Nat) (J : JF H7) (L : LF H7) : V6 → Option H7
 | (a0, a1, a2) => bif (decide (a2 < ((List.length a1 : Nat) : Int))) then (((Jv k) (a1, a2)).bind fun o1 => ((N7 k) (o1)).bind fun o2 => bif o2 then (L 2 [] j2 (Mc (a0, a1, (IntKind.wrap .i64 (a2 + (1 : Int)))))) else (bif (cutB a0 a2 (List.length a1)) then some ((cutL a1 a0 a2), a1, a2) else none)) else (bif (cutB a0 a2 (List.length a1)) then some ((cutL a1 a0 a2), a1, a2) else none)
theorem A8g (k j2 : Nat) (x : V6) : (Fa k).L 2 [] (j2 + 1) (Mc x) = Afx k j2 (Fa k).J (Fa k).L x := by
 apply cutX (Fa k) [.r, .r, .l, .b, .b] [j2] (Mc x) [] [(2, [], j2)] (Afx k j2 · · x) <;> intros <;> kernel_rfl
theorem A2f (k : Nat) : Aa Tryz.prog 78 (Axk k) := Af (Fa k).C k rfl ⟨⟨Ad3 k, trivial⟩, ⟨A2d k, trivial⟩, trivial⟩ Ae Tryz.func78 (by kernel_rfl)
def Bey : Sk := ⟨[.lf (.pv .str), .lf (.pv (.int .i64)), .lf (.pv (.int .i64))], [], []⟩
def Bez : Sk := ⟨[.lf (.pv (.int .i64)), .lf (.err)], [], []⟩
def U0 (k : Nat) : ((List Int) × (Int) × (Int)) → Option ((Int) × (Bool)) := K2
def A0w (k : Nat) : Sig := Ac Bey Bez (U0 k)
theorem A6e (k : Nat) : Aa Tryz.prog 81 (A0w k) := Bg0
def V5 : Sk := ⟨[.lf (.ptr 0 0)], [[.pv (.slice (.int .u8)), .pv (.int .i64)]], []⟩
def Afv : Sk := ⟨[.agg [.pv (.int .i64), .pv .str, .pv (.int .i64), .pv (.int .i64)], .lf (.pv (.int .i64))], V5.boxes, []⟩
def A8b (k : Nat) : EnvL := [(78, [Axk k]), (81, [A0w k])]
def Afp (k : Nat) : Cfg := mkC (A8b k) 69 1 0
def S8 (k : Nat) : ((List (Int)) × (Int)) → Option H8 := hid (Ab (Afp k) k Tryz.f51 V5 Afv)
def Axh (k : Nat) : Sig := Ac V5 Afv (S8 k)
noncomputable def Afu (k : Nat) : ((List (Int)) × (Int)) → Option H8
 | (a0, a1) => ((N9 k) (a0, a1)).bind fun o1 => bif (decide (((List.length o1.1 : Nat) : Int) > (18 : Int))) then (some ((0 : Int), ([] : List Int), (0 : Int), (0 : Int), (4 : Int), o1.2.1, o1.2.2)) else (((U0 k) (o1.1, (10 : Int), (64 : Int))).bind fun o2 => some ((2 : Int), o1.1, o2.1, (0 : Int), (0 : Int), o1.2.1, o1.2.2))
theorem A8d (k : Nat) (x : ((List (Int)) × (Int))) : S8 k x = Afu k x := (Ad _ _).trans (by kernel_rfl)
theorem A2e (k : Nat) : Aa Tryz.prog 51 (Axh k) := Af (Afp k) k rfl ⟨⟨A2f k, trivial⟩, ⟨A6e k, trivial⟩, trivial⟩ Ae Tryz.func51 (by kernel_rfl)
def Wg : Sk := ⟨[.lf (.ptr 0 0)], [[.pv (.slice (.int .u8)), .pv (.int .i64)]], []⟩
def Af3 : Sk := ⟨[.agg [.pv (.int .i64), .pv .str, .pv (.int .i64), .pv (.int .i64)], .lf (.pv (.int .i64))], Wg.boxes, []⟩
def A8n (k : Nat) : EnvL := [(48, [Ab7 k]), (50, [Axn k]), (51, [Axh k])]
def Af1 (k : Nat) : Cfg := { mkC (A8n k) 92 1 0 with ld := [(28, 9999), (29, 9999), (30, 0), (32, 9999), (33, 9999), (34, 0), (37, 9999), (38, 9999), (39, 0)], sr := [(2, 50)] }
def Ob (k : Nat) : ((List (Int)) × (Int)) → Option H8 := hid (Ab (Af1 k) k Tryz.f31 Wg Af3)
def Axm (k : Nat) : Sig := Ac Wg Af3 (Ob k)
noncomputable def Af2 (k : Nat) : ((List (Int)) × (Int)) → Option H8
 | (a0, a1) => ((Lo k) (a0, a1)).bind fun o1 => bif (o1.1 == (3 : Int)) then (((S9 k) (o1.2.1, o1.2.2)).bind fun o2 => some (o2.1, o2.2.1, o2.2.2.1, o2.2.2.2.1, o2.2.2.2.2.1, o2.2.2.2.2.2.1, o2.2.2.2.2.2.2)) else (bif (o1.1 == (4 : Int)) then (((S8 k) (o1.2.1, o1.2.2)).bind fun o3 => some (o3.1, o3.2.1, o3.2.2.1, o3.2.2.2.1, o3.2.2.2.2.1, o3.2.2.2.2.2.1, o3.2.2.2.2.2.2)) else (bif (o1.1 == (5 : Int)) then (bif (cutB (IntKind.wrap .i64 ((IntKind.wrap .i64 (o1.2.2 + (1 : Int))) - (1 : Int))) (IntKind.wrap .i64 (o1.2.2 + (1 : Int))) (List.length o1.2.1)) then some ((3 : Int), (cutL o1.2.1 (IntKind.wrap .i64 ((IntKind.wrap .i64 (o1.2.2 + (1 : Int))) - (1 : Int))) (IntKind.wrap .i64 (o1.2.2 + (1 : Int)))), (0 : Int), (0 : Int), (0 : Int), o1.2.1, (IntKind.wrap .i64 (o1.2.2 + (1 : Int)))) else none) else (some ((0 : Int), ([] : List Int), (0 : Int), (0 : Int), (40 : Int), o1.2.1, o1.2.2))))
theorem A8o (k : Nat) (x : ((List (Int)) × (Int))) : Ob k x = Af2 k x := (Ad _ _).trans (by kernel_rfl)
theorem A2i (k : Nat) : Aa Tryz.prog 31 (Axm k) := Af (Af1 k) k rfl ⟨⟨Ad4 k, trivial⟩, ⟨A2k k, trivial⟩, ⟨A2e k, trivial⟩, trivial⟩ Ae Tryz.func31 (by kernel_rfl)
abbrev H9 : Type := (List (Int)) × (List (Int)) × (Int) × (List (YT8))
def Vy : Sk := ⟨[.lf (.pv (.slice (.int .u8)))], [], []⟩
def Vz : Sk := ⟨[.lf (.own 0), .lf (.pv (.int .i64)), .lf (.pv (.int .i64))], [], [some (56, yt8)]⟩
def Aff : Sk := ⟨sparse 46 [(0, .lf (.pv (.slice (.int .u8)))), (5, .lf (.ptr 0 0)), (6, .lf (.own 0))], [[.pv (.slice (.int .u8)), .pv (.int .i64)]], [some (56, yt8)]⟩
abbrev Vu := H9
def Mb : Vu → St := stOf Aff 94
def A7z (k : Nat) : EnvL := [(30, [Axl k]), (31, [Axm k])]
def E8 (k : Nat) : FnX H4 := mkX ({ mkC (A7z k) 94 0 0 with hint := fun i => look none [(5, some Aff)] i }) k Tryz.f15 Vz
def N6 (k : Nat) : (List (Int)) → Option H4 := hid (Ab (E8 k).C k Tryz.f15 Vy Vz)
def Axg (k : Nat) : Sig := Ac Vy Vz (N6 k)
noncomputable def Vw (k : Nat) (J : JF H4) (L : LF H4) : (List (Int)) → Option H4
 | a0 => bif (decide (((List.length a0 : Nat) : Int) > (65536 : Int))) then (some ((4 : Int), (65536 : Int), [])) else (L 5 [] k (Mb (a0, a0, (0 : Int), [])))
theorem A70 (k : Nat) (x : (List (Int))) : N6 k x = Vw k (E8 k).J (E8 k).L x := by
 refine (Ad _ _).trans ?_; apply cutX (E8 k) [] [] (st0 (E8 k).C Tryz.f15 Vy x) [] [(5, [], k)] (Vw k · · x) <;> intros <;> kernel_rfl
noncomputable def Vx (k j5 : Nat) (J : JF H4) (L : LF H4) : Vu → Option H4
 | (a0, a1, a2, a3) => ((Oa k) (a1, a2)).bind fun o1 => bif (o1.2 == ((List.length a0 : Nat) : Int)) then (bif (appB 40 (List.length a3) (List.length ([((0 : Int), (([] : List Int), ((0 : Int), (o1.2, ()))))] : List (YT8)))) then some ((0 : Int), (0 : Int), (a3 ++ ([((0 : Int), (([] : List Int), ((0 : Int), (o1.2, ()))))] : List (YT8)))) else none) else (((Ob k) (o1.1, o1.2)).bind fun o2 => bif (o2.2.2.2.2.1 != (0 : Int)) then (some (o2.2.2.2.2.1, o1.2, [])) else (bif (appB 40 (List.length a3) (List.length ([(o2.1, (o2.2.1, (o2.2.2.1, (o1.2, ()))))] : List (YT8)))) then L 5 [] j5 (Mb (a0, o2.2.2.2.2.2.1, o2.2.2.2.2.2.2, (a3 ++ ([(o2.1, (o2.2.1, (o2.2.2.1, (o1.2, ()))))] : List (YT8))))) else none))
theorem A71 (k j5 : Nat) (x : Vu) : (E8 k).L 5 [] (j5 + 1) (Mb x) = Vx k j5 (E8 k).J (E8 k).L x := by
 apply cutX (E8 k) [.r, .r, .r, .r, .b, .b] [j5] (Mb x) [] [(5, [], j5)] (Vx k j5 · · x) <;> intros <;> kernel_rfl
theorem A2c (k : Nat) : Aa Tryz.prog 15 (Axg k) := Af (E8 k).C k rfl ⟨⟨A2h k, trivial⟩, ⟨A2i k, trivial⟩, trivial⟩ Ae Tryz.func15 (by kernel_rfl)
abbrev H10 : Type := (List Int) × (List (YT8))
def fpwordi : Sk := ⟨[.lf (.ptr 0 0), .lf (.pv .str)], [[.own 0]], [some (56, yt8)]⟩
def fpwordo : Sk := ⟨[.lf (.fn 52 [] [(1, 0), (2, 0)])], [[.own 0], [.ptr 0 0], [.pv .str]], [some (56, yt8)]⟩
def Asp (k : Nat) : Cfg := mkC [] 54 1 1
def cpword (k : Nat) : H10 → Option H10 := hid (Ab (Asp k) k Tryz.f33 fpwordi fpwordo)
def sgpword (k : Nat) : Sig := Ac fpwordi fpwordo (cpword k)
noncomputable def Ass (k : Nat) : H10 → Option H10
 | (a0, a1) => some (a0, a1)
theorem Beh (k : Nat) (x : H10) : cpword k x = Ass k x := (Ad _ _).trans (by kernel_rfl)
theorem A6a (k : Nat) : Aa Tryz.prog 33 (sgpword k) := Af (Asp k) (l := []) k rfl trivial Ae Tryz.func33 (by kernel_rfl)
abbrev H11 : Type := (Int) × (Int) × (Int) × (Int) × (Int) × (Int) × (Int) × (List (YT8))
def fpnumi : Sk := ⟨[.lf (.ptr 0 0), .lf (.ptr 1 0)], [[.own 0], q0], [some (56, yt8)]⟩
def fpnumo : Sk := ⟨[.lf (.fn 56 [] [(2, 0), (3, 0)])], [[.own 0], q0, [.ptr 0 0], [.ptr 1 0]], [some (56, yt8)]⟩
def Aqs (k : Nat) : Cfg := mkC [] 54 2 1
def cpnum (k : Nat) : H11 → Option H11 := hid (Ab (Aqs k) k Tryz.f34 fpnumi fpnumo)
def sgpnum (k : Nat) : Sig := Ac fpnumi fpnumo (cpnum k)
noncomputable def Aqu (k : Nat) : H11 → Option H11
 | (a0, a1, a2, a3, a4, a5, a6, a7) => some (a0, a1, a2, a3, a4, a5, a6, a7)
theorem fpnum_e (k : Nat) (x : H11) : cpnum k x = Aqu k x := (Ad _ _).trans (by kernel_rfl)
theorem A5p (k : Nat) : Aa Tryz.prog 34 (sgpnum k) := Af (Aqs k) (l := []) k rfl trivial Ae Tryz.func34 (by kernel_rfl)
def An0 : Sk := ⟨[.lf (.ptr 0 0), .lf (.ptr 1 1)], [[.own 0], q0], [some (56, yt8)]⟩
def An1 : Sk := ⟨[.lf (.fn 56 [] [(2, 0), (3, 0)])], [[.own 0], q0, [.ptr 0 0], [.ptr 1 1]], [some (56, yt8)]⟩
def Anx (k : Nat) : Cfg := mkC [] 54 2 1
def Ua (k : Nat) : H11 → Option H11 := hid (Ab (Anx k) k Tryz.f34 An0 An1)
def Aza (k : Nat) : Sig := Ac An0 An1 (Ua k)
noncomputable def Anz (k : Nat) : H11 → Option H11
 | (a0, a1, a2, a3, a4, a5, a6, a7) => some (a0, a1, a2, a3, a4, a5, a6, a7)
theorem Bcc (k : Nat) (x : H11) : Ua k x = Anz k x := (Ad _ _).trans (by kernel_rfl)
theorem A4u (k : Nat) : Aa Tryz.prog 34 (Aza k) := Af (Anx k) (l := []) k rfl trivial Ae Tryz.func34 (by kernel_rfl)
def An8 : Sk := ⟨[.lf (.ptr 0 0), .lf (.ptr 1 2)], [[.own 0], q0], [some (56, yt8)]⟩
def An9 : Sk := ⟨[.lf (.fn 56 [] [(2, 0), (3, 0)])], [[.own 0], q0, [.ptr 0 0], [.ptr 1 2]], [some (56, yt8)]⟩
def An6 (k : Nat) : Cfg := mkC [] 54 2 1
def Ul (k : Nat) : H11 → Option H11 := hid (Ab (An6 k) k Tryz.f34 An8 An9)
def Azl (k : Nat) : Sig := Ac An8 An9 (Ul k)
noncomputable def An7 (k : Nat) : H11 → Option H11
 | (a0, a1, a2, a3, a4, a5, a6, a7) => some (a0, a1, a2, a3, a4, a5, a6, a7)
theorem Bce (k : Nat) (x : H11) : Ul k x = An7 k x := (Ad _ _).trans (by kernel_rfl)
theorem A4w (k : Nat) : Aa Tryz.prog 34 (Azl k) := Af (An6 k) (l := []) k rfl trivial Ae Tryz.func34 (by kernel_rfl)
def fpfraci : Sk := ⟨[.lf (.ptr 0 0), .lf (.ptr 1 3)], [[.own 0], q0], [some (56, yt8)]⟩
def fpfraco : Sk := ⟨[.lf (.fn 57 [] [(2, 0), (3, 0)])], [[.own 0], q0, [.ptr 0 0], [.ptr 1 3]], [some (56, yt8)]⟩
def Ajh (k : Nat) : Cfg := mkC [] 54 2 1
def cpfrac (k : Nat) : H11 → Option H11 := hid (Ab (Ajh k) k Tryz.f35 fpfraci fpfraco)
def sgpfrac (k : Nat) : Sig := Ac fpfraci fpfraco (cpfrac k)
noncomputable def Ajj (k : Nat) : H11 → Option H11
 | (a0, a1, a2, a3, a4, a5, a6, a7) => some (a0, a1, a2, a3, a4, a5, a6, a7)
theorem Baj (k : Nat) (x : H11) : cpfrac k x = Ajj k x := (Ad _ _).trans (by kernel_rfl)
theorem A3m (k : Nat) : Aa Tryz.prog 35 (sgpfrac k) := Af (Ajh k) (l := []) k rfl trivial Ae Tryz.func35 (by kernel_rfl)
abbrev H12 : Type := (List Int) × (Int) × (Int) × (Int) × (Int) × (Int) × (Int) × (Int) × (Int) × (List (YT8))
abbrev H13 : Type := (Int) × (Int) × (Int) × (Int) × (Int) × (Int) × (Int) × (List Int) × (Int) × (List (YT8))
def Agz : Sk := ⟨[.lf (.ptr 0 0), .lf (.pv .str), .lf (.pv (.int .i64)), .lf (.ptr 1 5), .lf (.fn 37 [(0, 0)] [])], [[.own 0], q0], [some (56, yt8)]⟩
def Ag0 : Sk := ⟨[.lf (.fn 58 [] [(2, 0), (3, 0), (4, 0), (5, 0), (6, 0)])], [[.own 0], q0, [.ptr 0 0], [.pv .str], [.ptr 1 5], [.pv (.int .i64)], [.fn 37 [(0, 0)] []]], [some (56, yt8)]⟩
def Agw (k : Nat) : Cfg := mkC [] 60 2 1
def Te (k : Nat) : H12 → Option H13 := hid (Ab (Agw k) k Tryz.f36 Agz Ag0)
def Axv (k : Nat) : Sig := Ac Agz Ag0 (Te k)
noncomputable def Agy (k : Nat) : H12 → Option H13
 | (a0, a1, a2, a3, a4, a5, a6, a7, a8, a9) => some (a2, a3, a4, a5, a6, a7, a8, a0, a1, a9)
theorem A88 (k : Nat) (x : H12) : Te k x = Agy k x := (Ad _ _).trans (by kernel_rfl)
theorem A2t (k : Nat) : Aa Tryz.prog 36 (Axv k) := Af (Agw k) (l := []) k rfl trivial Ae Tryz.func36 (by kernel_rfl)
abbrev H14 : Type := (List Int) × (Bool) × (List (YT8))
abbrev H15 : Type := (Bool) × (List Int) × (List (YT8))
def fpmaybei : Sk := ⟨[.lf (.ptr 0 0), .lf (.pv .str), .lf (.ptr 1 0)], [[.own 0], [.pv .bool]], [some (56, yt8)]⟩
def fpmaybeo : Sk := ⟨[.lf (.fn 71 [] [(2, 0), (3, 0), (4, 0)])], [[.own 0], [.pv .bool], [.ptr 0 0], [.pv .str], [.ptr 1 0]], [some (56, yt8)]⟩
def Aj6 (k : Nat) : Cfg := mkC [] 56 2 1
def cpmaybe (k : Nat) : H14 → Option H15 := hid (Ab (Aj6 k) k Tryz.f38 fpmaybei fpmaybeo)
def sgpmaybe (k : Nat) : Sig := Ac fpmaybei fpmaybeo (cpmaybe k)
noncomputable def Aj8 (k : Nat) : H14 → Option H15
 | (a0, a1, a2) => some (a1, a0, a2)
theorem Bau (k : Nat) (x : H14) : cpmaybe k x = Aj8 k x := (Ad _ _).trans (by kernel_rfl)
theorem A3s (k : Nat) : Aa Tryz.prog 38 (sgpmaybe k) := Af (Aj6 k) (l := []) k rfl trivial Ae Tryz.func38 (by kernel_rfl)
def fpisi : Sk := ⟨[.lf (.ptr 0 0), .lf (.pv .str)], [[.own 0]], [some (56, yt8)]⟩
def fpiso : Sk := ⟨[.lf (.pv .bool)], fpisi.boxes, [some (56, yt8)]⟩
def Ajr (k : Nat) : Cfg := mkC [] 62 1 1
def cpis (k : Nat) : H10 → Option ((Bool) × (List (YT8))) := hid (Ab (Ajr k) k Tryz.f53 fpisi fpiso)
def sgpis (k : Nat) : Sig := Ac fpisi fpiso (cpis k)
noncomputable def Ajs (k : Nat) : H10 → Option ((Bool) × (List (YT8)))
 | (a0, a1) => bif (inB (0 : Int) (List.length a1)) then some (((rdA zt8 a1 (Int.toNat (0 : Int))).2.1 == a0), a1) else none
theorem fpis_e (k : Nat) (x : H10) : cpis k x = Ajs k x := (Ad _ _).trans (by kernel_rfl)
theorem cpis_ok (k : Nat) : Aa Tryz.prog 53 (sgpis k) := Af (Ajr k) (l := []) k rfl trivial Ae Tryz.func53 (by kernel_rfl)
abbrev H16 : Type := (Bool) × (Int) × (Int) × (List (YT8))
def fpfaili : Sk := ⟨[.lf (.ptr 0 0), .lf (.pv (.int .i64))], [[.own 0]], [some (56, yt8)]⟩
def fpfailo : Sk := ⟨[.lf (.erp 68 [(.int .i64), (.int .i64)])], fpfaili.boxes, [some (56, yt8)]⟩
def Ai4 (k : Nat) : Cfg := mkC [] 64 1 1
def cpfail (k : Nat) : ((Int) × (List (YT8))) → Option H16 := hid (Ab (Ai4 k) k Tryz.f54 fpfaili fpfailo)
def sgpfail (k : Nat) : Sig := Ac fpfaili fpfailo (cpfail k)
noncomputable def Ai5 (k : Nat) : ((Int) × (List (YT8))) → Option H16
 | (a0, a1) => bif (inB (0 : Int) (List.length a1)) then some (false, a0, (rdA zt8 a1 (Int.toNat (0 : Int))).2.2.2.1, a1) else none
theorem Bad (k : Nat) (x : ((Int) × (List (YT8)))) : cpfail k x = Ai5 k x := (Ad _ _).trans (by kernel_rfl)
theorem A3h (k : Nat) : Aa Tryz.prog 54 (sgpfail k) := Af (Ai4 k) (l := []) k rfl trivial Ae Tryz.func54 (by kernel_rfl)
abbrev H17 : Type := (Int) × (List Int) × (Int) × (Int) × (List (YT8))
def fptakei : Sk := ⟨[.lf (.ptr 0 0)], [[.own 0]], [some (56, yt8)]⟩
def fptakeo : Sk := ⟨[.agg [.pv (.int .i64), .pv .str, .pv (.int .i64), .pv (.int .i64)]], [[.pv (.slice yt8)]], [none]⟩
def Asd (k : Nat) : Cfg := mkC [] 70 1 1
def cptake (k : Nat) : (List (YT8)) → Option H17 := hid (Ab (Asd k) k Tryz.f55 fptakei fptakeo)
def sgptake (k : Nat) : Sig := Ac fptakei fptakeo (cptake k)
noncomputable def Ase (k : Nat) : (List (YT8)) → Option H17
 | a0 => bif (inB (0 : Int) (List.length a0)) then bif ((rdA zt8 a0 (Int.toNat (0 : Int))).1 != (0 : Int)) then (bif (cutB (1 : Int) (((List.length a0) : Nat) : Int) (List.length a0)) then some ((rdA zt8 a0 (Int.toNat (0 : Int))).1, (rdA zt8 a0 (Int.toNat (0 : Int))).2.1, (rdA zt8 a0 (Int.toNat (0 : Int))).2.2.1, (rdA zt8 a0 (Int.toNat (0 : Int))).2.2.2.1, (cutL a0 (1 : Int) (((List.length a0) : Nat) : Int))) else none) else (some ((rdA zt8 a0 (Int.toNat (0 : Int))).1, (rdA zt8 a0 (Int.toNat (0 : Int))).2.1, (rdA zt8 a0 (Int.toNat (0 : Int))).2.2.1, (rdA zt8 a0 (Int.toNat (0 : Int))).2.2.2.1, a0)) else none
theorem Beb (k : Nat) (x : (List (YT8))) : cptake k x = Ase k x := (Ad _ _).trans (by kernel_rfl)
theorem A57 (k : Nat) : Aa Tryz.prog 55 (sgptake k) := Af (Asd k) (l := []) k rfl trivial Ae Tryz.func55 (by kernel_rfl)
abbrev H18 : Type := (Bool) × (Int) × (Int) × (List Int) × (List (YT8))
def Asq : Sk := ⟨[.lf (.ptr 0 0), .lf (.ptr 1 0)], [[.ptr 2 0], [.pv .str], [.own 0]], [some (56, yt8)]⟩
def Asr : Sk := ⟨[.lf (.erp 68 [(.int .i64), (.int .i64)])], [[.ptr 2 0], [.pv .str], [.pv (.slice yt8)]], [none]⟩
def Bef (k : Nat) : EnvL := [(53, [sgpis k]), (54, [sgpfail k]), (55, [sgptake k])]
def Asn (k : Nat) : Cfg := mkC (Bef k) 59 3 1
def P2 (k : Nat) : H10 → Option H18 := hid (Ab (Asn k) k Tryz.f52 Asq Asr)
def A0r (k : Nat) : Sig := Ac Asq Asr (P2 k)
noncomputable def Aso (k : Nat) : H10 → Option H18
 | (a0, a1) => ((cpis k) (a0, a1)).bind fun o1 => bif (!o1.1) then (((cpfail k) ((50 : Int), o1.2)).bind fun o2 => some (o2.1, o2.2.1, o2.2.2.1, a0, o2.2.2.2)) else (((cptake k) (o1.2)).bind fun o3 => some (true, (0 : Int), (0 : Int), a0, o3.2.2.2.2))
theorem Beg (k : Nat) (x : H10) : P2 k x = Aso k x := (Ad _ _).trans (by kernel_rfl)
theorem A59 (k : Nat) : Aa Tryz.prog 52 (A0r k) := Af (Asn k) k rfl ⟨⟨cpis_ok k, trivial⟩, ⟨A3h k, trivial⟩, ⟨A57 k, trivial⟩, trivial⟩ Ae Tryz.func52 (by kernel_rfl)
def X3 : Sk := ⟨[.lf (.ptr 0 0), .lf (.pv (.int .i64))], [[.pv (.slice yt8)]], []⟩
def Ai3 : Sk := ⟨[.lf (.erp 68 [(.int .i64), (.int .i64)])], X3.boxes, []⟩
def Ai1 (k : Nat) : Cfg := mkC [] 64 1 0
def A4 (k : Nat) : ((Int) × (List (YT8))) → Option H16 := hid (Ab (Ai1 k) k Tryz.f54 X3 Ai3)
def A7 (k : Nat) : Sig := Ac X3 Ai3 (A4 k)
noncomputable def Ai2 (k : Nat) : ((Int) × (List (YT8))) → Option H16
 | (a0, a1) => idx zt8 a1 (0 : Int) fun o1 => some (false, a0, o1.2.2.2.1, a1)
theorem Bac (k : Nat) (x : ((Int) × (List (YT8)))) : A4 k x = Ai2 k x := (Ad _ _).trans (by kernel_rfl)
theorem A9 (k : Nat) : Aa Tryz.prog 54 (A7 k) := Af (Ai1 k) (l := []) k rfl trivial Ae Tryz.func54 (by kernel_rfl)
def Zm : Sk := ⟨[.lf (.ptr 0 0)], [[.pv (.slice yt8)]], []⟩
def Asc : Sk := ⟨[.agg [.pv (.int .i64), .pv .str, .pv (.int .i64), .pv (.int .i64)]], Zm.boxes, []⟩
def Asa (k : Nat) : Cfg := mkC [] 70 1 0
def A2 (k : Nat) : (List (YT8)) → Option H17 := hid (Ab (Asa k) k Tryz.f55 Zm Asc)
def A8 (k : Nat) : Sig := Ac Zm Asc (A2 k)
noncomputable def Asb (k : Nat) : (List (YT8)) → Option H17
 | a0 => idx zt8 a0 (0 : Int) fun o1 => bif (o1.1 != (0 : Int)) then (cut a0 (1 : Int) (((List.length a0) : Nat) : Int) fun o2 => some (o1.1, o1.2.1, o1.2.2.1, o1.2.2.2.1, o2)) else (some (o1.1, o1.2.1, o1.2.2.1, o1.2.2.2.1, a0))
theorem Bea (k : Nat) (x : (List (YT8))) : A2 k x = Asb k x := (Ad _ _).trans (by kernel_rfl)
theorem Ba (k : Nat) : Aa Tryz.prog 55 (A8 k) := Af (Asa k) (l := []) k rfl trivial Ae Tryz.func55 (by kernel_rfl)
abbrev H19 : Type := (List (YT8)) × (Int) × (Int) × (Int) × (Int) × (Int) × (Int) × (Int)
abbrev H20 : Type := (Bool) × (Int) × (Int) × (List (YT8)) × (Int) × (Int) × (Int) × (Int) × (Int) × (Int) × (Int)
def Ze : Sk := ⟨[.lf (.ptr 0 0), .lf (.ptr 1 0)], [[.ptr 2 0], [.ptr 3 0], [.pv (.slice yt8)], q0], []⟩
def Aqt : Sk := ⟨[.lf (.erp 68 [(.int .i64), (.int .i64)])], Ze.boxes, []⟩
def fpnumCE (k : Nat) : EnvL := [(54, [A7 k]), (55, [A8 k])]
def Aqq (k : Nat) : Cfg := { mkC (fpnumCE k) 66 4 0 with ef := [(15, (([2], []), ([], [])))], ld := [(13, 1), (14, 0), (17, 9999)], sr := [(17, 3)] }
def O9 (k : Nat) : H19 → Option H20 := hid (Ab (Aqq k) k Tryz.f56 Ze Aqt)
def Azu (k : Nat) : Sig := Ac Ze Aqt (O9 k)
noncomputable def Aqr (k : Nat) : H19 → Option H20
 | (a0, a1, a2, a3, a4, a5, a6, a7) => idx zt8 a0 (0 : Int) fun o1 => bif (o1.1 != (2 : Int)) then (((A4 k) ((50 : Int), a0)).bind fun o2 => some (o2.1, o2.2.1, o2.2.2.1, o2.2.2.2, a1, a2, a3, a4, a5, a6, a7)) else (((A2 k) (a0)).bind fun o3 => some (true, (0 : Int), (0 : Int), o3.2.2.2.2, o3.2.2.1, a2, a3, a4, a5, a6, a7))
theorem Bdq (k : Nat) (x : H19) : O9 k x = Aqr k x := (Ad _ _).trans (by kernel_rfl)
theorem A5o (k : Nat) : Aa Tryz.prog 56 (Azu k) := Af (Aqq k) k rfl ⟨⟨A9 k, trivial⟩, ⟨Ba k, trivial⟩, trivial⟩ Ae Tryz.func56 (by kernel_rfl)
def X6 : Sk := ⟨[.lf (.ptr 0 0), .lf (.pv .str)], [[.pv (.slice yt8)]], []⟩
def Ajq : Sk := ⟨[.lf (.pv .bool)], X6.boxes, []⟩
def Ajo (k : Nat) : Cfg := mkC [] 62 1 0
def C0 (k : Nat) : H10 → Option ((Bool) × (List (YT8))) := hid (Ab (Ajo k) k Tryz.f53 X6 Ajq)
def Dk (k : Nat) : Sig := Ac X6 Ajq (C0 k)
noncomputable def Ajp (k : Nat) : H10 → Option ((Bool) × (List (YT8)))
 | (a0, a1) => idx zt8 a1 (0 : Int) fun o1 => some ((o1.2.1 == a0), a1)
theorem Ban (k : Nat) (x : H10) : C0 k x = Ajp k x := (Ad _ _).trans (by kernel_rfl)
theorem Do (k : Nat) : Aa Tryz.prog 53 (Dk k) := Af (Ajo k) (l := []) k rfl trivial Ae Tryz.func53 (by kernel_rfl)
def Zn : Sk := ⟨[.lf (.ptr 0 0), .lf (.ptr 1 0)], [[.ptr 2 0], [.pv .str], [.pv (.slice yt8)]], []⟩
def Asm : Sk := ⟨[.lf (.erp 68 [(.int .i64), (.int .i64)])], Zn.boxes, []⟩
def Bed (k : Nat) : EnvL := [(53, [Dk k]), (54, [A7 k]), (55, [A8 k])]
def Ask (k : Nat) : Cfg := mkC (Bed k) 59 3 0
def Bg (k : Nat) : H10 → Option H18 := hid (Ab (Ask k) k Tryz.f52 Zn Asm)
def D6 (k : Nat) : Sig := Ac Zn Asm (Bg k)
noncomputable def Asl (k : Nat) : H10 → Option H18
 | (a0, a1) => ((C0 k) (a0, a1)).bind fun o1 => bif (!o1.1) then (((A4 k) ((50 : Int), o1.2)).bind fun o2 => some (o2.1, o2.2.1, o2.2.2.1, a0, o2.2.2.2)) else (((A2 k) (o1.2)).bind fun o3 => some (true, (0 : Int), (0 : Int), a0, o3.2.2.2.2))
theorem Bee (k : Nat) (x : H10) : Bg k x = Asl k x := (Ad _ _).trans (by kernel_rfl)
theorem Ee (k : Nat) : Aa Tryz.prog 52 (D6 k) := Af (Ask k) k rfl ⟨⟨Do k, trivial⟩, ⟨A9 k, trivial⟩, ⟨Ba k, trivial⟩, trivial⟩ Ae Tryz.func52 (by kernel_rfl)
def Y4 : Sk := ⟨[.lf (.ptr 0 0), .lf (.ptr 1 0)], [[.ptr 2 0], [.ptr 3 1], [.pv (.slice yt8)], q0], []⟩
def Apy : Sk := ⟨[.lf (.erp 68 [(.int .i64), (.int .i64)])], Y4.boxes, []⟩
def Bc6 (k : Nat) : EnvL := [(54, [A7 k]), (55, [A8 k])]
def Apw (k : Nat) : Cfg := { mkC (Bc6 k) 66 4 0 with ef := [(15, (([2], []), ([], [])))], ld := [(13, 1), (14, 0), (17, 9999)], sr := [(17, 3)] }
def Pa (k : Nat) : H19 → Option H20 := hid (Ab (Apw k) k Tryz.f56 Y4 Apy)
def Azv (k : Nat) : Sig := Ac Y4 Apy (Pa k)
noncomputable def Apx (k : Nat) : H19 → Option H20
 | (a0, a1, a2, a3, a4, a5, a6, a7) => idx zt8 a0 (0 : Int) fun o1 => bif (o1.1 != (2 : Int)) then (((A4 k) ((50 : Int), a0)).bind fun o2 => some (o2.1, o2.2.1, o2.2.2.1, o2.2.2.2, a1, a2, a3, a4, a5, a6, a7)) else (((A2 k) (a0)).bind fun o3 => some (true, (0 : Int), (0 : Int), o3.2.2.2.2, a1, o3.2.2.1, a3, a4, a5, a6, a7))
theorem Bc7 (k : Nat) (x : H19) : Pa k x = Apx k x := (Ad _ _).trans (by kernel_rfl)
theorem A5e (k : Nat) : Aa Tryz.prog 56 (Azv k) := Af (Apw k) k rfl ⟨⟨A9 k, trivial⟩, ⟨Ba k, trivial⟩, trivial⟩ Ae Tryz.func56 (by kernel_rfl)
def Y6 : Sk := ⟨[.lf (.ptr 0 0), .lf (.ptr 1 0)], [[.ptr 2 0], [.ptr 3 2], [.pv (.slice yt8)], q0], []⟩
def Ap4 : Sk := ⟨[.lf (.erp 68 [(.int .i64), (.int .i64)])], Y6.boxes, []⟩
def Bda (k : Nat) : EnvL := [(54, [A7 k]), (55, [A8 k])]
def Ap2 (k : Nat) : Cfg := { mkC (Bda k) 66 4 0 with ef := [(15, (([2], []), ([], [])))], ld := [(13, 1), (14, 0), (17, 9999)], sr := [(17, 3)] }
def Pm (k : Nat) : H19 → Option H20 := hid (Ab (Ap2 k) k Tryz.f56 Y6 Ap4)
def Az6 (k : Nat) : Sig := Ac Y6 Ap4 (Pm k)
noncomputable def Ap3 (k : Nat) : H19 → Option H20
 | (a0, a1, a2, a3, a4, a5, a6, a7) => idx zt8 a0 (0 : Int) fun o1 => bif (o1.1 != (2 : Int)) then (((A4 k) ((50 : Int), a0)).bind fun o2 => some (o2.1, o2.2.1, o2.2.2.1, o2.2.2.2, a1, a2, a3, a4, a5, a6, a7)) else (((A2 k) (a0)).bind fun o3 => some (true, (0 : Int), (0 : Int), o3.2.2.2.2, a1, a2, o3.2.2.1, a4, a5, a6, a7))
theorem Bdb (k : Nat) (x : H19) : Pm k x = Ap3 k x := (Ad _ _).trans (by kernel_rfl)
theorem A5g (k : Nat) : Aa Tryz.prog 56 (Az6 k) := Af (Ap2 k) k rfl ⟨⟨A9 k, trivial⟩, ⟨Ba k, trivial⟩, trivial⟩ Ae Tryz.func56 (by kernel_rfl)
def Aoc : Sk := ⟨[.lf (.ptr 0 0), .lf (.ptr 1 3)], [[.pv (.slice yt8)], q0], []⟩
def Aod : Sk := ⟨[.lf (.fn 56 [] [(2, 0), (3, 0)])], [[.pv (.slice yt8)], q0, [.ptr 0 0], [.ptr 1 3]], []⟩
def Aoa (k : Nat) : Cfg := mkC [] 54 2 0
def Un (k : Nat) : H19 → Option H19 := hid (Ab (Aoa k) k Tryz.f34 Aoc Aod)
def Azn (k : Nat) : Sig := Ac Aoc Aod (Un k)
noncomputable def Aob (k : Nat) : H19 → Option H19
 | (a0, a1, a2, a3, a4, a5, a6, a7) => some (a0, a1, a2, a3, a4, a5, a6, a7)
theorem Bcf (k : Nat) (x : H19) : Un k x = Aob k x := (Ad _ _).trans (by kernel_rfl)
theorem A4x (k : Nat) : Aa Tryz.prog 34 (Azn k) := Af (Aoa k) (l := []) k rfl trivial Ae Tryz.func34 (by kernel_rfl)
abbrev H21 : Type := (List (YT8)) × (List Int)
def Asi : Sk := ⟨[.lf (.ptr 0 0), .lf (.pv .str)], [[.pv (.slice yt8)]], []⟩
def Asj : Sk := ⟨[.lf (.fn 52 [] [(1, 0), (2, 0)])], [[.pv (.slice yt8)], [.ptr 0 0], [.pv .str]], []⟩
def Ash (k : Nat) : Cfg := mkC [] 54 1 0
def Bk (k : Nat) : H10 → Option H21 := hid (Ab (Ash k) k Tryz.f33 Asi Asj)
def D5 (k : Nat) : Sig := Ac Asi Asj (Bk k)
noncomputable def Dz (k : Nat) : H10 → Option H21
 | (a0, a1) => some (a1, a0)
theorem Eh (k : Nat) (x : H10) : Bk k x = Dz k x := (Ad _ _).trans (by kernel_rfl)
theorem Ed (k : Nat) : Aa Tryz.prog 33 (D5 k) := Af (Ash k) (l := []) k rfl trivial Ae Tryz.func33 (by kernel_rfl)
def Aog : Sk := ⟨[.lf (.ptr 0 0), .lf (.ptr 1 4)], [[.pv (.slice yt8)], q0], []⟩
def Aoh : Sk := ⟨[.lf (.fn 56 [] [(2, 0), (3, 0)])], [[.pv (.slice yt8)], q0, [.ptr 0 0], [.ptr 1 4]], []⟩
def Aoe (k : Nat) : Cfg := mkC [] 54 2 0
def Uo (k : Nat) : H19 → Option H19 := hid (Ab (Aoe k) k Tryz.f34 Aog Aoh)
def Azo (k : Nat) : Sig := Ac Aog Aoh (Uo k)
noncomputable def Aof (k : Nat) : H19 → Option H19
 | (a0, a1, a2, a3, a4, a5, a6, a7) => some (a0, a1, a2, a3, a4, a5, a6, a7)
theorem Bcg (k : Nat) (x : H19) : Uo k x = Aof k x := (Ad _ _).trans (by kernel_rfl)
theorem A4y (k : Nat) : Aa Tryz.prog 34 (Azo k) := Af (Aoe k) (l := []) k rfl trivial Ae Tryz.func34 (by kernel_rfl)
def Y7 : Sk := ⟨[.lf (.ptr 0 0), .lf (.ptr 1 0)], [[.ptr 2 0], [.ptr 3 3], [.pv (.slice yt8)], q0], []⟩
def Ap7 : Sk := ⟨[.lf (.erp 68 [(.int .i64), (.int .i64)])], Y7.boxes, []⟩
def Bdc (k : Nat) : EnvL := [(54, [A7 k]), (55, [A8 k])]
def Ap5 (k : Nat) : Cfg := { mkC (Bdc k) 66 4 0 with ef := [(15, (([2], []), ([], [])))], ld := [(13, 1), (14, 0), (17, 9999)], sr := [(17, 3)] }
def Po (k : Nat) : H19 → Option H20 := hid (Ab (Ap5 k) k Tryz.f56 Y7 Ap7)
def Az8 (k : Nat) : Sig := Ac Y7 Ap7 (Po k)
noncomputable def Ap6 (k : Nat) : H19 → Option H20
 | (a0, a1, a2, a3, a4, a5, a6, a7) => idx zt8 a0 (0 : Int) fun o1 => bif (o1.1 != (2 : Int)) then (((A4 k) ((50 : Int), a0)).bind fun o2 => some (o2.1, o2.2.1, o2.2.2.1, o2.2.2.2, a1, a2, a3, a4, a5, a6, a7)) else (((A2 k) (a0)).bind fun o3 => some (true, (0 : Int), (0 : Int), o3.2.2.2.2, a1, a2, a3, o3.2.2.1, a5, a6, a7))
theorem Bdd (k : Nat) (x : H19) : Po k x = Ap6 k x := (Ad _ _).trans (by kernel_rfl)
theorem A5h (k : Nat) : Aa Tryz.prog 56 (Az8 k) := Af (Ap5 k) k rfl ⟨⟨A9 k, trivial⟩, ⟨Ba k, trivial⟩, trivial⟩ Ae Tryz.func56 (by kernel_rfl)
def Y8 : Sk := ⟨[.lf (.ptr 0 0), .lf (.ptr 1 0)], [[.ptr 2 0], [.ptr 3 4], [.pv (.slice yt8)], q0], []⟩
def Aqa : Sk := ⟨[.lf (.erp 68 [(.int .i64), (.int .i64)])], Y8.boxes, []⟩
def Bde (k : Nat) : EnvL := [(54, [A7 k]), (55, [A8 k])]
def Ap8 (k : Nat) : Cfg := { mkC (Bde k) 66 4 0 with ef := [(15, (([2], []), ([], [])))], ld := [(13, 1), (14, 0), (17, 9999)], sr := [(17, 3)] }
def Pp (k : Nat) : H19 → Option H20 := hid (Ab (Ap8 k) k Tryz.f56 Y8 Aqa)
def Az9 (k : Nat) : Sig := Ac Y8 Aqa (Pp k)
noncomputable def Ap9 (k : Nat) : H19 → Option H20
 | (a0, a1, a2, a3, a4, a5, a6, a7) => idx zt8 a0 (0 : Int) fun o1 => bif (o1.1 != (2 : Int)) then (((A4 k) ((50 : Int), a0)).bind fun o2 => some (o2.1, o2.2.1, o2.2.2.1, o2.2.2.2, a1, a2, a3, a4, a5, a6, a7)) else (((A2 k) (a0)).bind fun o3 => some (true, (0 : Int), (0 : Int), o3.2.2.2.2, a1, a2, a3, a4, o3.2.2.1, a6, a7))
theorem Bdf (k : Nat) (x : H19) : Pp k x = Ap9 k x := (Ad _ _).trans (by kernel_rfl)
theorem A5i (k : Nat) : Aa Tryz.prog 56 (Az9 k) := Af (Ap8 k) k rfl ⟨⟨A9 k, trivial⟩, ⟨Ba k, trivial⟩, trivial⟩ Ae Tryz.func56 (by kernel_rfl)
abbrev H22 : Type := (List (YT8)) × (List Int) × (Int) × (Int) × (Int) × (Int) × (Int) × (Int) × (Int)
abbrev H23 : Type := (Bool) × (Int) × (Int) × (List (YT8)) × (List Int) × (Int) × (Int) × (Int) × (Int) × (Int) × (Int) × (Int)
def Xw : Sk := ⟨[.lf (.ptr 0 0), .lf (.sb 1 3)], [[.pv (.slice yt8)], q3, [.ptr 0 0], [.ptr 8 3], [.ptr 0 0], [.pv .str], [.ptr 0 0], [.ptr 8 4], q0], []⟩
def Ah6 : Sk := ⟨[.lf (.erp 68 [(.int .i64), (.int .i64)])], Xw.boxes, []⟩
def A9w (k : Nat) : EnvL := [(56, [Az8 k, Az9 k]), (52, [D6 k])]
def Ah4 (k : Nat) : Cfg := mkC (A9w k) 68 9 0
def Tl (k : Nat) : H22 → Option H23 := hid (Ab (Ah4 k) (k + 32) Tryz.f32 Xw Ah6)
def Ax5 (k : Nat) : Sig := Ac Xw Ah6 (Tl k)
noncomputable def Ah5 (k : Nat) : H22 → Option H23
 | (a0, a1, a2, a3, a4, a5, a6, a7, a8) => ((Po k) (a0, a2, a3, a4, a5, a6, a7, a8)).bind fun o1 => bif (!o1.1) then (some (o1.1, o1.2.1, o1.2.2.1, o1.2.2.2.1, a1, o1.2.2.2.2.1, o1.2.2.2.2.2.1, o1.2.2.2.2.2.2.1, o1.2.2.2.2.2.2.2.1, o1.2.2.2.2.2.2.2.2.1, o1.2.2.2.2.2.2.2.2.2.1, o1.2.2.2.2.2.2.2.2.2.2)) else (((Bg k) (a1, o1.2.2.2.1)).bind fun o2 => bif (!o2.1) then (some (o2.1, o2.2.1, o2.2.2.1, o2.2.2.2.2, o2.2.2.2.1, o1.2.2.2.2.1, o1.2.2.2.2.2.1, o1.2.2.2.2.2.2.1, o1.2.2.2.2.2.2.2.1, o1.2.2.2.2.2.2.2.2.1, o1.2.2.2.2.2.2.2.2.2.1, o1.2.2.2.2.2.2.2.2.2.2)) else (((Pp k) (o2.2.2.2.2, o1.2.2.2.2.1, o1.2.2.2.2.2.1, o1.2.2.2.2.2.2.1, o1.2.2.2.2.2.2.2.1, o1.2.2.2.2.2.2.2.2.1, o1.2.2.2.2.2.2.2.2.2.1, o1.2.2.2.2.2.2.2.2.2.2)).bind fun o3 => bif (!o3.1) then (some (o3.1, o3.2.1, o3.2.2.1, o3.2.2.2.1, o2.2.2.2.1, o3.2.2.2.2.1, o3.2.2.2.2.2.1, o3.2.2.2.2.2.2.1, o3.2.2.2.2.2.2.2.1, o3.2.2.2.2.2.2.2.2.1, o3.2.2.2.2.2.2.2.2.2.1, o3.2.2.2.2.2.2.2.2.2.2)) else (some (true, (0 : Int), (0 : Int), o3.2.2.2.1, o2.2.2.2.1, o3.2.2.2.2.1, o3.2.2.2.2.2.1, o3.2.2.2.2.2.2.1, o3.2.2.2.2.2.2.2.1, o3.2.2.2.2.2.2.2.2.1, o3.2.2.2.2.2.2.2.2.2.1, o3.2.2.2.2.2.2.2.2.2.2))))
theorem A9x (k : Nat) (x : H22) : Tl k x = Ah5 k x := (Ad _ _).trans (by kernel_rfl)
theorem A28 (k : Nat) : Aa Tryz.prog 32 (Ax5 k) := Af (Ah4 k) (k + 32) rfl ⟨⟨A5h k, A5i k, trivial⟩, ⟨Ee k, trivial⟩, trivial⟩ Ae Tryz.func32 (by kernel_rfl)
def X5 : Sk := ⟨[.lf (.ptr 0 0), .lf (.ptr 1 0)], [[.ptr 2 0], [.ptr 3 3], [.pv (.slice yt8)], q0], []⟩
def Aji : Sk := ⟨[.lf (.erp 68 [(.int .i64), (.int .i64)])], X5.boxes, []⟩
def Bah (k : Nat) : EnvL := [(34, [Azn k, Azo k]), (33, [D5 k]), (32, [Ax5 k])]
def Ajf (k : Nat) : Cfg := { mkC (Bah k) 84 4 0 with ef := [(8, (([2, 3], []), ([56, 74], []))), (10, (([2], []), ([58, 76], []))), (15, (([2, 3], []), ([63, 81], []))), (17, (([2, 3, 56, 58, 63, 64, 74, 76, 81], []), ([], [])))], ld := [(3, 0), (4, 0), (5, 1), (6, 9999), (7, 9999), (9, 0), (11, 0), (12, 1), (13, 9999), (14, 9999)], rb := [16] }
def Ot (k : Nat) : H19 → Option H20 := hid (Ab (Ajf k) k Tryz.f57 X5 Aji)
def Ayi (k : Nat) : Sig := Ac X5 Aji (Ot k)
noncomputable def Ajg (k : Nat) : H19 → Option H20
 | (a0, a1, a2, a3, a4, a5, a6, a7) => ((Un k) (a0, a1, a2, a3, a4, a5, a6, a7)).bind fun o1 => ((Bk k) (([47] : List Int), o1.1)).bind fun o2 => ((Uo k) (o2.1, o1.2.1, o1.2.2.1, o1.2.2.2.1, o1.2.2.2.2.1, o1.2.2.2.2.2.1, o1.2.2.2.2.2.2.1, o1.2.2.2.2.2.2.2)).bind fun o3 => ((Tl k) (o3.1, o2.2, o3.2.1, o3.2.2.1, o3.2.2.2.1, o3.2.2.2.2.1, o3.2.2.2.2.2.1, o3.2.2.2.2.2.2.1, o3.2.2.2.2.2.2.2)).bind fun o4 => some (o4.1, o4.2.1, o4.2.2.1, o4.2.2.2.1, o4.2.2.2.2.2.1, o4.2.2.2.2.2.2.1, o4.2.2.2.2.2.2.2.1, o4.2.2.2.2.2.2.2.2.1, o4.2.2.2.2.2.2.2.2.2.1, o4.2.2.2.2.2.2.2.2.2.2.1, o4.2.2.2.2.2.2.2.2.2.2.2)
theorem Bai (k : Nat) (x : H19) : Ot k x = Ajg k x := (Ad _ _).trans (by kernel_rfl)
theorem A3l (k : Nat) : Aa Tryz.prog 57 (Ayi k) := Af (Ajf k) k rfl ⟨⟨A4x k, A4y k, trivial⟩, ⟨Ed k, trivial⟩, ⟨A28 k, trivial⟩, trivial⟩ Ae Tryz.func57 (by kernel_rfl)
end
noncomputable section
abbrev H24 : Type := (List (YT8)) × (List Int) × (Int)
def fpplacei : Sk := ⟨[.lf (.ptr 0 0), .lf (.ptr 1 6)], [[.pv (.slice yt8)], q4], []⟩
def fpplaceo : Sk := ⟨[.lf (.fn 82 [] [(2, 0), (3, 0)])], [[.pv (.slice yt8)], q4, [.ptr 0 0], [.ptr 1 6]], []⟩
def Ary (k : Nat) : Cfg := mkC [] 54 2 0
def cpplace (k : Nat) : H24 → Option H24 := hid (Ab (Ary k) k Tryz.f59 fpplacei fpplaceo)
def sgpplace (k : Nat) : Sig := Ac fpplacei fpplaceo (cpplace k)
noncomputable def Ar0 (k : Nat) : H24 → Option H24
 | (a0, a1, a2) => some (a0, a1, a2)
theorem Bd4 (k : Nat) (x : H24) : cpplace k x = Ar0 k x := (Ad _ _).trans (by kernel_rfl)
theorem A52 (k : Nat) : Aa Tryz.prog 59 (sgpplace k) := Af (Ary k) (l := []) k rfl trivial Ae Tryz.func59 (by kernel_rfl)
def fpnamei : Sk := ⟨[.lf (.ptr 0 0), .lf (.ptr 1 0)], [[.pv (.slice yt8)], q4], []⟩
def fpnameo : Sk := ⟨[.lf (.fn 83 [] [(2, 0), (3, 0)])], [[.pv (.slice yt8)], q4, [.ptr 0 0], [.ptr 1 0]], []⟩
def Al8 (k : Nat) : Cfg := mkC [] 54 2 0
def cpname (k : Nat) : H24 → Option H24 := hid (Ab (Al8 k) k Tryz.f60 fpnamei fpnameo)
def sgpname (k : Nat) : Sig := Ac fpnamei fpnameo (cpname k)
noncomputable def Ama (k : Nat) : H24 → Option H24
 | (a0, a1, a2) => some (a0, a1, a2)
theorem Bbq (k : Nat) (x : H24) : cpname k x = Ama k x := (Ad _ _).trans (by kernel_rfl)
theorem A4d (k : Nat) : Aa Tryz.prog 60 (sgpname k) := Af (Al8 k) (l := []) k rfl trivial Ae Tryz.func60 (by kernel_rfl)
abbrev H25 : Type := (List Int) × (Int) × (List (YT8)) × (List Int) × (Int)
abbrev H26 : Type := (List (YT8)) × (List Int) × (Int) × (List Int) × (Int)
def Agu : Sk := ⟨[.lf (.ptr 0 0), .lf (.pv .str), .lf (.pv (.int .i64)), .lf (.ptr 1 1), .lf (.fn 62 [(0, 0)] [])], [[.pv (.slice yt8)], q4], []⟩
def Agv : Sk := ⟨[.lf (.fn 85 [] [(2, 0), (3, 0), (4, 0), (5, 0), (6, 0)])], [[.pv (.slice yt8)], q4, [.ptr 0 0], [.pv .str], [.ptr 1 1], [.pv (.int .i64)], [.fn 62 [(0, 0)] []]], []⟩
def Agr (k : Nat) : Cfg := mkC [] 60 2 0
def Td (k : Nat) : H25 → Option H26 := hid (Ab (Agr k) k Tryz.f61 Agu Agv)
def Axt (k : Nat) : Sig := Ac Agu Agv (Td k)
noncomputable def Agt (k : Nat) : H25 → Option H26
 | (a0, a1, a2, a3, a4) => some (a2, a3, a4, a0, a1)
theorem A85 (k : Nat) (x : H25) : Td k x = Agt k x := (Ad _ _).trans (by kernel_rfl)
theorem A2r (k : Nat) : Aa Tryz.prog 61 (Axt k) := Af (Agr k) (l := []) k rfl trivial Ae Tryz.func61 (by kernel_rfl)
def Ag4 : Sk := ⟨[.lf (.ptr 0 0), .lf (.pv .str), .lf (.pv (.int .i64)), .lf (.ptr 1 2), .lf (.fn 64 [(0, 0)] [])], [[.pv (.slice yt8)], q4], []⟩
def Ag5 : Sk := ⟨[.lf (.fn 86 [] [(2, 0), (3, 0), (4, 0), (5, 0), (6, 0)])], [[.pv (.slice yt8)], q4, [.ptr 0 0], [.pv .str], [.ptr 1 2], [.pv (.int .i64)], [.fn 64 [(0, 0)] []]], []⟩
def Ag1 (k : Nat) : Cfg := mkC [] 60 2 0
def Tf (k : Nat) : H25 → Option H26 := hid (Ab (Ag1 k) k Tryz.f63 Ag4 Ag5)
def Axx (k : Nat) : Sig := Ac Ag4 Ag5 (Tf k)
noncomputable def Ag3 (k : Nat) : H25 → Option H26
 | (a0, a1, a2, a3, a4) => some (a2, a3, a4, a0, a1)
theorem A9b (k : Nat) (x : H25) : Tf k x = Ag3 k x := (Ad _ _).trans (by kernel_rfl)
theorem A2v (k : Nat) : Aa Tryz.prog 63 (Axx k) := Af (Ag1 k) (l := []) k rfl trivial Ae Tryz.func63 (by kernel_rfl)
def Ag9 : Sk := ⟨[.lf (.ptr 0 0), .lf (.pv .str), .lf (.pv (.int .i64)), .lf (.ptr 1 3), .lf (.fn 66 [(0, 0)] [])], [[.pv (.slice yt8)], q4], []⟩
def Aha : Sk := ⟨[.lf (.fn 87 [] [(2, 0), (3, 0), (4, 0), (5, 0), (6, 0)])], [[.pv (.slice yt8)], q4, [.ptr 0 0], [.pv .str], [.ptr 1 3], [.pv (.int .i64)], [.fn 66 [(0, 0)] []]], []⟩
def Ag6 (k : Nat) : Cfg := mkC [] 60 2 0
def Tg (k : Nat) : H25 → Option H26 := hid (Ab (Ag6 k) k Tryz.f65 Ag9 Aha)
def Axz (k : Nat) : Sig := Ac Ag9 Aha (Tg k)
noncomputable def Ag8 (k : Nat) : H25 → Option H26
 | (a0, a1, a2, a3, a4) => some (a2, a3, a4, a0, a1)
theorem A9e (k : Nat) (x : H25) : Tg k x = Ag8 k x := (Ad _ _).trans (by kernel_rfl)
theorem A2x (k : Nat) : Aa Tryz.prog 65 (Axz k) := Af (Ag6 k) (l := []) k rfl trivial Ae Tryz.func65 (by kernel_rfl)
def Agp : Sk := ⟨[.lf (.ptr 0 0), .lf (.pv .str), .lf (.pv (.int .i64)), .lf (.ptr 1 4), .lf (.fn 68 [(0, 0)] [])], [[.pv (.slice yt8)], q4], []⟩
def Agq : Sk := ⟨[.lf (.fn 89 [] [(2, 0), (3, 0), (4, 0), (5, 0), (6, 0)])], [[.pv (.slice yt8)], q4, [.ptr 0 0], [.pv .str], [.ptr 1 4], [.pv (.int .i64)], [.fn 68 [(0, 0)] []]], []⟩
def Agm (k : Nat) : Cfg := mkC [] 60 2 0
def Tc (k : Nat) : H25 → Option H26 := hid (Ab (Agm k) k Tryz.f67 Agp Agq)
def Axr (k : Nat) : Sig := Ac Agp Agq (Tc k)
noncomputable def Ago (k : Nat) : H25 → Option H26
 | (a0, a1, a2, a3, a4) => some (a2, a3, a4, a0, a1)
theorem A82 (k : Nat) (x : H25) : Tc k x = Ago k x := (Ad _ _).trans (by kernel_rfl)
theorem A2p (k : Nat) : Aa Tryz.prog 67 (Axr k) := Af (Agm k) (l := []) k rfl trivial Ae Tryz.func67 (by kernel_rfl)
def Agk : Sk := ⟨[.lf (.ptr 0 0), .lf (.pv .str), .lf (.pv (.int .i64)), .lf (.ptr 1 5), .lf (.fn 70 [(0, 0)] [])], [[.pv (.slice yt8)], q4], []⟩
def Agl : Sk := ⟨[.lf (.fn 93 [] [(2, 0), (3, 0), (4, 0), (5, 0), (6, 0)])], [[.pv (.slice yt8)], q4, [.ptr 0 0], [.pv .str], [.ptr 1 5], [.pv (.int .i64)], [.fn 70 [(0, 0)] []]], []⟩
def Agh (k : Nat) : Cfg := mkC [] 60 2 0
def Tb (k : Nat) : H25 → Option H26 := hid (Ab (Agh k) k Tryz.f69 Agk Agl)
def Axp (k : Nat) : Sig := Ac Agk Agl (Tb k)
noncomputable def Agj (k : Nat) : H25 → Option H26
 | (a0, a1, a2, a3, a4) => some (a2, a3, a4, a0, a1)
theorem A8z (k : Nat) (x : H25) : Tb k x = Agj k x := (Ad _ _).trans (by kernel_rfl)
theorem A2n (k : Nat) : Aa Tryz.prog 69 (Axp k) := Af (Agh k) (l := []) k rfl trivial Ae Tryz.func69 (by kernel_rfl)
def Zk : Sk := ⟨[.lf (.ptr 0 0), .lf (.ptr 1 0)], [[.ptr 2 0], [.ptr 3 6], [.pv (.slice yt8)], q4], []⟩
def Arz : Sk := ⟨[.lf (.nil .ifc)], Zk.boxes, []⟩
def Arw (k : Nat) : Cfg := { mkC [] 60 4 0 with ld := [(3, 1), (4, 0), (5, 9999), (6, 9999), (7, 2), (9, 9999), (10, 9999), (11, 9999)], sr := [(11, 3)] }
def Pv (k : Nat) : H24 → Option H24 := hid (Ab (Arw k) k Tryz.f82 Zk Arz)
def A0k (k : Nat) : Sig := Ac Zk Arz (Pv k)
noncomputable def Arx (k : Nat) : H24 → Option H24
 | (a0, a1, a2) => idx zt8 a0 (0 : Int) fun o1 => some (a0, a1, o1.2.2.2.1)
theorem Bd3 (k : Nat) (x : H24) : Pv k x = Arx k x := (Ad _ _).trans (by kernel_rfl)
theorem A51 (k : Nat) : Aa Tryz.prog 82 (A0k k) := Af (Arw k) (l := []) k rfl trivial Ae Tryz.func82 (by kernel_rfl)
def Vs : Sk := ⟨[.lf (.pv .str)], [], []⟩
def Vt : Sk := ⟨[.lf (.pv .bool)], [], []⟩
def Afc : Sk := ⟨sparse 50 [(3, .lf (.pv .str))], [], []⟩
abbrev A7s := (List Int)
def Vl : A7s → St := stOf Afc 98
def Afd : Sk := ⟨sparse 50 [(3, .lf (.pv .str))], [], []⟩
abbrev A7t := (List Int)
def Vm : A7t → St := stOf Afd 98
def Afe : Sk := ⟨sparse 50 [(3, .lf (.pv .str))], [], []⟩
abbrev A7u := (List Int)
def Vn : A7u → St := stOf Afe 98
def C8 (k : Nat) : FnX Bool := mkX ({ mkC [] 98 0 0 with hint := fun i => look none [(16, some Afc), (26, some Afd), (33, some Afe)] i }) k Tryz.f96 Vt
def Ln (k : Nat) : (List Int) → Option Bool := hid (Ab (C8 k).C k Tryz.f96 Vs Vt)
def Ab6 (k : Nat) : Sig := Ac Vs Vt (Ln k)
noncomputable def Vo (k : Nat) (J : JF Bool) (L : LF Bool) : (List Int) → Option Bool
 | a0 => bif (a0 == ([99, 121, 99, 108, 101] : List Int)) then (some true) else (bif (a0 == ([116, 111] : List Int)) then (some true) else (bif (a0 == ([98, 121] : List Int)) then (some true) else (bif (a0 == ([112, 101, 97, 107] : List Int)) then (some true) else (bif (a0 == ([110, 111, 100, 101] : List Int)) then (some true) else (bif (a0 == ([104, 101, 97, 100] : List Int)) then (some true) else (bif (a0 == ([118, 111, 108, 117, 109, 101] : List Int)) then (some true) else (bif (a0 == ([102, 108, 111, 119] : List Int)) then (some true) else (bif (a0 == ([117, 115, 101] : List Int)) then (some true) else (bif (a0 == ([115, 112, 101, 101, 100] : List Int)) then (some true) else (bif (a0 == ([103, 114, 97, 100, 101] : List Int)) then (some true) else (bif (a0 == ([119, 105, 100, 116, 104] : List Int)) then (some true) else (bif (a0 == ([108, 101, 110, 103, 116, 104] : List Int)) then (some true) else (bif (a0 == ([103, 114, 101, 101, 110] : List Int)) then (some true) else (J 16 [] (Vl (a0))))))))))))))))
theorem A7v (k : Nat) (x : (List Int)) : Ln k x = Vo k (C8 k).J (C8 k).L x := by
 refine (Ad _ _).trans ?_; apply cutX (C8 k) [] [] (st0 (C8 k).C Tryz.f96 Vs x) [(16, []), (26, []), (33, [])] [] (Vo k · · x) <;> intros <;> kernel_rfl
noncomputable def Vp (k : Nat) (J : JF Bool) (L : LF Bool) : (List Int) → Option Bool
 | a0 => bif (a0 == ([119, 97, 108, 107] : List Int)) then (some true) else (bif (a0 == ([119, 105, 116, 104] : List Int)) then (some true) else (bif (a0 == ([108, 111, 110, 103] : List Int)) then (some true) else (bif (a0 == ([112, 97, 99, 101] : List Int)) then (some true) else (bif (a0 == ([108, 101, 97, 115, 116] : List Int)) then (some true) else (bif (a0 == ([112, 104, 97, 115, 101] : List Int)) then (some true) else (bif (a0 == ([103, 114, 111, 117, 112] : List Int)) then (some true) else (bif (a0 == ([114, 105, 110, 103] : List Int)) then (some true) else (bif (a0 == ([102, 114, 101, 101] : List Int)) then (some true) else (bif (a0 == ([102, 111, 101] : List Int)) then (some true) else (J 26 [] (Vm (a0))))))))))))
theorem A7w (k : Nat) (x : (List Int)) : (C8 k).J 16 [] (Vl x) = Vp k (C8 k).J (C8 k).L x := by
 apply cutX (C8 k) [.r, .l, .r, .b, .l, .b, .b, .b, .b, .l, .r] [] (Vl x) [(16, []), (26, []), (33, [])] [] (Vp k · · x) <;> intros <;> kernel_rfl
noncomputable def Vq (k : Nat) (J : JF Bool) (L : LF Bool) : (List Int) → Option Bool
 | a0 => bif (a0 == ([97, 114, 116, 101, 114, 121] : List Int)) then (some true) else (bif (a0 == ([115, 116, 111, 112] : List Int)) then (some true) else (bif (a0 == ([111, 117, 116] : List Int)) then (some true) else (bif (a0 == ([105, 110] : List Int)) then (some true) else (bif (a0 == ([97, 104, 101, 97, 100] : List Int)) then (some true) else (bif (a0 == ([98, 97, 99, 107] : List Int)) then (some true) else (bif (a0 == ([119, 101, 105, 103, 104, 116, 115] : List Int)) then (some true) else (J 33 [] (Vn (a0)))))))))
theorem A7x (k : Nat) (x : (List Int)) : (C8 k).J 26 [] (Vm x) = Vq k (C8 k).J (C8 k).L x := by
 apply cutX (C8 k) [.r, .l, .r, .b, .l, .b, .b, .b, .b, .l, .r, .r] [] (Vm x) [(16, []), (26, []), (33, [])] [] (Vq k · · x) <;> intros <;> kernel_rfl
noncomputable def Vr (k : Nat) (J : JF Bool) (L : LF Bool) : (List Int) → Option Bool
 | a0 => bif (a0 == ([112, 108, 97, 110] : List Int)) then (some true) else (bif (a0 == ([111, 102, 102, 115, 101, 116] : List Int)) then (some true) else (bif (a0 == ([115, 117, 109] : List Int)) then (some true) else (bif (a0 == ([115, 112, 108, 105, 116] : List Int)) then (some true) else (bif (a0 == ([121, 101, 108, 108, 111, 119] : List Int)) then (some true) else (bif (a0 == ([114, 101, 100] : List Int)) then (some true) else (bif (a0 == ([102, 108, 97, 115, 104] : List Int)) then (some true) else (bif (a0 == ([98, 101, 115, 116] : List Int)) then (some true) else (bif (a0 == ([121, 101, 115] : List Int)) then (some true) else (bif (a0 == ([110, 111] : List Int)) then (some true) else (bif (a0 == ([115, 112, 101, 110, 116] : List Int)) then (some true) else (some false)))))))))))
theorem A7y (k : Nat) (x : (List Int)) : (C8 k).J 33 [] (Vn x) = Vr k (C8 k).J (C8 k).L x := by
 apply cutX (C8 k) [.r, .l, .r, .b, .l, .b, .b, .b, .b, .l, .r, .r, .r] [] (Vn x) [(16, []), (26, []), (33, [])] [] (Vr k · · x) <;> intros <;> kernel_rfl
theorem Ad1 (k : Nat) : Aa Tryz.prog 96 (Ab6 k) := Af (C8 k).C (l := []) k rfl trivial Ae Tryz.func96 (by kernel_rfl)
def fpnamedi : Sk := ⟨[.lf (.ptr 0 0)], [[.pv (.slice yt8)]], []⟩
def fpnamedo : Sk := ⟨[.lf (.pv .bool)], fpnamedi.boxes, []⟩
def Bbt (k : Nat) : EnvL := [(96, [Ab6 k])]
def Amf (k : Nat) : Cfg := mkC (Bbt k) 70 1 0
def cpnamed (k : Nat) : (List (YT8)) → Option ((Bool) × (List (YT8))) := hid (Ab (Amf k) k Tryz.f84 fpnamedi fpnamedo)
def sgpnamed (k : Nat) : Sig := Ac fpnamedi fpnamedo (cpnamed k)
noncomputable def Amg (k : Nat) : (List (YT8)) → Option ((Bool) × (List (YT8)))
 | a0 => idx zt8 a0 (0 : Int) fun o1 => bif (o1.1 == (1 : Int)) then (idx zt8 a0 (0 : Int) fun o2 => ((Ln k) (o2.2.1)).bind fun o3 => some ((!o3), a0)) else (some (false, a0))
theorem Bbu (k : Nat) (x : (List (YT8))) : cpnamed k x = Amg k x := (Ad _ _).trans (by kernel_rfl)
theorem E4 (k : Nat) : Aa Tryz.prog 84 (sgpnamed k) := Af (Amf k) k rfl ⟨⟨Ad1 k, trivial⟩, trivial⟩ Ae Tryz.func84 (by kernel_rfl)
abbrev H27 : Type := (Bool) × (Int) × (Int) × (List (YT8)) × (List Int) × (Int)
def Yj : Sk := ⟨[.lf (.ptr 0 0), .lf (.ptr 1 0)], [[.ptr 2 0], [.ptr 3 0], [.pv (.slice yt8)], q4], []⟩
def Al9 : Sk := ⟨[.lf (.erp 68 [(.int .i64), (.int .i64)])], Yj.boxes, []⟩
def Bbo (k : Nat) : EnvL := [(84, [sgpnamed k]), (54, [A7 k]), (55, [A8 k])]
def Al6 (k : Nat) : Cfg := { mkC (Bbo k) 61 4 0 with ef := [(10, (([2], []), ([], [])))], ld := [(8, 1), (9, 0), (12, 9999)], sr := [(12, 3)] }
def Ow (k : Nat) : H24 → Option H27 := hid (Ab (Al6 k) k Tryz.f83 Yj Al9)
def Ayw (k : Nat) : Sig := Ac Yj Al9 (Ow k)
noncomputable def Al7 (k : Nat) : H24 → Option H27
 | (a0, a1, a2) => ((cpnamed k) (a0)).bind fun o1 => bif (!o1.1) then (((A4 k) ((50 : Int), o1.2)).bind fun o2 => some (o2.1, o2.2.1, o2.2.2.1, o2.2.2.2, a1, a2)) else (((A2 k) (o1.2)).bind fun o3 => some (true, (0 : Int), (0 : Int), o3.2.2.2.2, o3.2.1, a2))
theorem Bbp (k : Nat) (x : H24) : Ow k x = Al7 k x := (Ad _ _).trans (by kernel_rfl)
theorem A4c (k : Nat) : Aa Tryz.prog 83 (Ayw k) := Af (Al6 k) k rfl ⟨⟨E4 k, trivial⟩, ⟨A9 k, trivial⟩, ⟨Ba k, trivial⟩, trivial⟩ Ae Tryz.func83 (by kernel_rfl)
abbrev H28 : Type := (List (YT8)) × (List Int) × (Int) × (Int) × (Int) × (Int) × (Int) × (Int) × (Int) × (Int) × (Int) × (Int)
def Aqz : Sk := ⟨[.lf (.ptr 0 0), .lf (.ptr 1 10)], [[.pv (.slice yt8)], q6], []⟩
def Aq0 : Sk := ⟨[.lf (.fn 82 [] [(2, 0), (3, 0)])], [[.pv (.slice yt8)], q6, [.ptr 0 0], [.ptr 1 10]], []⟩
def Aqx (k : Nat) : Cfg := mkC [] 54 2 0
def Uu (k : Nat) : H28 → Option H28 := hid (Ab (Aqx k) k Tryz.f59 Aqz Aq0)
def A0f (k : Nat) : Sig := Ac Aqz Aq0 (Uu k)
noncomputable def Aqy (k : Nat) : H28 → Option H28
 | (a0, a1, a2, a3, a4, a5, a6, a7, a8, a9, a10, a11) => some (a0, a1, a2, a3, a4, a5, a6, a7, a8, a9, a10, a11)
theorem Bdt (k : Nat) (x : H28) : Uu k x = Aqy k x := (Ad _ _).trans (by kernel_rfl)
theorem A5r (k : Nat) : Aa Tryz.prog 59 (A0f k) := Af (Aqx k) (l := []) k rfl trivial Ae Tryz.func59 (by kernel_rfl)
def Akf : Sk := ⟨[.lf (.ptr 0 0), .lf (.ptr 1 0)], [[.pv (.slice yt8)], q6], []⟩
def Akg : Sk := ⟨[.lf (.fn 83 [] [(2, 0), (3, 0)])], [[.pv (.slice yt8)], q6, [.ptr 0 0], [.ptr 1 0]], []⟩
def Akd (k : Nat) : Cfg := mkC [] 54 2 0
def Tz (k : Nat) : H28 → Option H28 := hid (Ab (Akd k) k Tryz.f60 Akf Akg)
def Ayn (k : Nat) : Sig := Ac Akf Akg (Tz k)
noncomputable def Ake (k : Nat) : H28 → Option H28
 | (a0, a1, a2, a3, a4, a5, a6, a7, a8, a9, a10, a11) => some (a0, a1, a2, a3, a4, a5, a6, a7, a8, a9, a10, a11)
theorem Baw (k : Nat) (x : H28) : Tz k x = Ake k x := (Ad _ _).trans (by kernel_rfl)
theorem A3u (k : Nat) : Aa Tryz.prog 60 (Ayn k) := Af (Akd k) (l := []) k rfl trivial Ae Tryz.func60 (by kernel_rfl)
def Aok : Sk := ⟨[.lf (.ptr 0 0), .lf (.ptr 1 1)], [[.pv (.slice yt8)], q6], []⟩
def Aol : Sk := ⟨[.lf (.fn 56 [] [(2, 0), (3, 0)])], [[.pv (.slice yt8)], q6, [.ptr 0 0], [.ptr 1 1]], []⟩
def Aoi (k : Nat) : Cfg := mkC [] 54 2 0
def Up (k : Nat) : H28 → Option H28 := hid (Ab (Aoi k) k Tryz.f34 Aok Aol)
def Azp (k : Nat) : Sig := Ac Aok Aol (Up k)
noncomputable def Aoj (k : Nat) : H28 → Option H28
 | (a0, a1, a2, a3, a4, a5, a6, a7, a8, a9, a10, a11) => some (a0, a1, a2, a3, a4, a5, a6, a7, a8, a9, a10, a11)
theorem Bch (k : Nat) (x : H28) : Up k x = Aoj k x := (Ad _ _).trans (by kernel_rfl)
theorem A4z (k : Nat) : Aa Tryz.prog 34 (Azp k) := Af (Aoi k) (l := []) k rfl trivial Ae Tryz.func34 (by kernel_rfl)
def Aoo : Sk := ⟨[.lf (.ptr 0 0), .lf (.ptr 1 2)], [[.pv (.slice yt8)], q6], []⟩
def Aop : Sk := ⟨[.lf (.fn 56 [] [(2, 0), (3, 0)])], [[.pv (.slice yt8)], q6, [.ptr 0 0], [.ptr 1 2]], []⟩
def Aom (k : Nat) : Cfg := mkC [] 54 2 0
def Uq (k : Nat) : H28 → Option H28 := hid (Ab (Aom k) k Tryz.f34 Aoo Aop)
def Azq (k : Nat) : Sig := Ac Aoo Aop (Uq k)
noncomputable def Aon (k : Nat) : H28 → Option H28
 | (a0, a1, a2, a3, a4, a5, a6, a7, a8, a9, a10, a11) => some (a0, a1, a2, a3, a4, a5, a6, a7, a8, a9, a10, a11)
theorem Bci (k : Nat) (x : H28) : Uq k x = Aon k x := (Ad _ _).trans (by kernel_rfl)
theorem A40 (k : Nat) : Aa Tryz.prog 34 (Azq k) := Af (Aom k) (l := []) k rfl trivial Ae Tryz.func34 (by kernel_rfl)
def Aja : Sk := ⟨[.lf (.ptr 0 0), .lf (.ptr 1 3)], [[.pv (.slice yt8)], q6], []⟩
def Ajb : Sk := ⟨[.lf (.fn 57 [] [(2, 0), (3, 0)])], [[.pv (.slice yt8)], q6, [.ptr 0 0], [.ptr 1 3]], []⟩
def Ai8 (k : Nat) : Cfg := mkC [] 54 2 0
def Tv (k : Nat) : H28 → Option H28 := hid (Ab (Ai8 k) k Tryz.f35 Aja Ajb)
def Ayh (k : Nat) : Sig := Ac Aja Ajb (Tv k)
noncomputable def Ai9 (k : Nat) : H28 → Option H28
 | (a0, a1, a2, a3, a4, a5, a6, a7, a8, a9, a10, a11) => some (a0, a1, a2, a3, a4, a5, a6, a7, a8, a9, a10, a11)
theorem Bae (k : Nat) (x : H28) : Tv k x = Ai9 k x := (Ad _ _).trans (by kernel_rfl)
theorem A3j (k : Nat) : Aa Tryz.prog 35 (Ayh k) := Af (Ai8 k) (l := []) k rfl trivial Ae Tryz.func35 (by kernel_rfl)
def Aos : Sk := ⟨[.lf (.ptr 0 0), .lf (.ptr 1 5)], [[.pv (.slice yt8)], q6], []⟩
def Aot : Sk := ⟨[.lf (.fn 56 [] [(2, 0), (3, 0)])], [[.pv (.slice yt8)], q6, [.ptr 0 0], [.ptr 1 5]], []⟩
def Aoq (k : Nat) : Cfg := mkC [] 54 2 0
def Ur (k : Nat) : H28 → Option H28 := hid (Ab (Aoq k) k Tryz.f34 Aos Aot)
def Azr (k : Nat) : Sig := Ac Aos Aot (Ur k)
noncomputable def Aor (k : Nat) : H28 → Option H28
 | (a0, a1, a2, a3, a4, a5, a6, a7, a8, a9, a10, a11) => some (a0, a1, a2, a3, a4, a5, a6, a7, a8, a9, a10, a11)
theorem Bcj (k : Nat) (x : H28) : Ur k x = Aor k x := (Ad _ _).trans (by kernel_rfl)
theorem A41 (k : Nat) : Aa Tryz.prog 34 (Azr k) := Af (Aoq k) (l := []) k rfl trivial Ae Tryz.func34 (by kernel_rfl)
abbrev H29 : Type := (List Int) × (List (YT8)) × (Bool)
abbrev H30 : Type := (List (YT8)) × (Bool) × (List Int)
def Ajv : Sk := ⟨[.lf (.ptr 0 0), .lf (.pv .str), .lf (.ptr 1 0)], [[.pv (.slice yt8)], [.pv .bool]], []⟩
def Ajw : Sk := ⟨[.lf (.fn 71 [] [(2, 0), (3, 0), (4, 0)])], [[.pv (.slice yt8)], [.pv .bool], [.ptr 0 0], [.pv .str], [.ptr 1 0]], []⟩
def Ajt (k : Nat) : Cfg := mkC [] 56 2 0
def Tw (k : Nat) : H29 → Option H30 := hid (Ab (Ajt k) k Tryz.f38 Ajv Ajw)
def Ayk (k : Nat) : Sig := Ac Ajv Ajw (Tw k)
noncomputable def Aju (k : Nat) : H29 → Option H30
 | (a0, a1, a2) => some (a1, a2, a0)
theorem Bao (k : Nat) (x : H29) : Tw k x = Aju k x := (Ad _ _).trans (by kernel_rfl)
theorem A3p (k : Nat) : Aa Tryz.prog 38 (Ayk k) := Af (Ajt k) (l := []) k rfl trivial Ae Tryz.func38 (by kernel_rfl)
def Aow : Sk := ⟨[.lf (.ptr 0 0), .lf (.ptr 1 6)], [[.pv (.slice yt8)], q6], []⟩
def Aox : Sk := ⟨[.lf (.fn 56 [] [(2, 0), (3, 0)])], [[.pv (.slice yt8)], q6, [.ptr 0 0], [.ptr 1 6]], []⟩
def Aou (k : Nat) : Cfg := mkC [] 54 2 0
def Us (k : Nat) : H28 → Option H28 := hid (Ab (Aou k) k Tryz.f34 Aow Aox)
def Azs (k : Nat) : Sig := Ac Aow Aox (Us k)
noncomputable def Aov (k : Nat) : H28 → Option H28
 | (a0, a1, a2, a3, a4, a5, a6, a7, a8, a9, a10, a11) => some (a0, a1, a2, a3, a4, a5, a6, a7, a8, a9, a10, a11)
theorem Bck (k : Nat) (x : H28) : Us k x = Aov k x := (Ad _ _).trans (by kernel_rfl)
theorem A42 (k : Nat) : Aa Tryz.prog 34 (Azs k) := Af (Aou k) (l := []) k rfl trivial Ae Tryz.func34 (by kernel_rfl)
def Ao0 : Sk := ⟨[.lf (.ptr 0 0), .lf (.ptr 1 7)], [[.pv (.slice yt8)], q6], []⟩
def Ao1 : Sk := ⟨[.lf (.fn 56 [] [(2, 0), (3, 0)])], [[.pv (.slice yt8)], q6, [.ptr 0 0], [.ptr 1 7]], []⟩
def Aoy (k : Nat) : Cfg := mkC [] 54 2 0
def Ut (k : Nat) : H28 → Option H28 := hid (Ab (Aoy k) k Tryz.f34 Ao0 Ao1)
def Azt (k : Nat) : Sig := Ac Ao0 Ao1 (Ut k)
noncomputable def Aoz (k : Nat) : H28 → Option H28
 | (a0, a1, a2, a3, a4, a5, a6, a7, a8, a9, a10, a11) => some (a0, a1, a2, a3, a4, a5, a6, a7, a8, a9, a10, a11)
theorem Bcl (k : Nat) (x : H28) : Ut k x = Aoz k x := (Ad _ _).trans (by kernel_rfl)
theorem A43 (k : Nat) : Aa Tryz.prog 34 (Azt k) := Af (Aoy k) (l := []) k rfl trivial Ae Tryz.func34 (by kernel_rfl)
def Amu : Sk := ⟨[.lf (.ptr 0 0), .lf (.ptr 1 8)], [[.pv (.slice yt8)], q6], []⟩
def Amv : Sk := ⟨[.lf (.fn 56 [] [(2, 0), (3, 0)])], [[.pv (.slice yt8)], q6, [.ptr 0 0], [.ptr 1 8]], []⟩
def Ams (k : Nat) : Cfg := mkC [] 54 2 0
def Ub (k : Nat) : H28 → Option H28 := hid (Ab (Ams k) k Tryz.f34 Amu Amv)
def Azb (k : Nat) : Sig := Ac Amu Amv (Ub k)
noncomputable def Amt (k : Nat) : H28 → Option H28
 | (a0, a1, a2, a3, a4, a5, a6, a7, a8, a9, a10, a11) => some (a0, a1, a2, a3, a4, a5, a6, a7, a8, a9, a10, a11)
theorem Bb2 (k : Nat) (x : H28) : Ub k x = Amt k x := (Ad _ _).trans (by kernel_rfl)
theorem A4k (k : Nat) : Aa Tryz.prog 34 (Azb k) := Af (Ams k) (l := []) k rfl trivial Ae Tryz.func34 (by kernel_rfl)
def Amy : Sk := ⟨[.lf (.ptr 0 0), .lf (.ptr 1 9)], [[.pv (.slice yt8)], q6], []⟩
def Amz : Sk := ⟨[.lf (.fn 56 [] [(2, 0), (3, 0)])], [[.pv (.slice yt8)], q6, [.ptr 0 0], [.ptr 1 9]], []⟩
def Amw (k : Nat) : Cfg := mkC [] 54 2 0
def Uc (k : Nat) : H28 → Option H28 := hid (Ab (Amw k) k Tryz.f34 Amy Amz)
def Azc (k : Nat) : Sig := Ac Amy Amz (Uc k)
noncomputable def Amx (k : Nat) : H28 → Option H28
 | (a0, a1, a2, a3, a4, a5, a6, a7, a8, a9, a10, a11) => some (a0, a1, a2, a3, a4, a5, a6, a7, a8, a9, a10, a11)
theorem Bb3 (k : Nat) (x : H28) : Uc k x = Amx k x := (Ad _ _).trans (by kernel_rfl)
theorem A4l (k : Nat) : Aa Tryz.prog 34 (Azc k) := Af (Amw k) (l := []) k rfl trivial Ae Tryz.func34 (by kernel_rfl)
def Zf : Sk := ⟨[.lf (.ptr 0 0), .lf (.ptr 1 0)], [[.ptr 2 0], [.ptr 3 10], [.pv (.slice yt8)], q6], []⟩
def Arj : Sk := ⟨[.lf (.nil .ifc)], Zf.boxes, []⟩
def Arh (k : Nat) : Cfg := { mkC [] 60 4 0 with ld := [(3, 1), (4, 0), (5, 9999), (6, 9999), (7, 2), (9, 9999), (10, 9999), (11, 9999)], sr := [(11, 3)] }
def Pw (k : Nat) : H28 → Option H28 := hid (Ab (Arh k) k Tryz.f82 Zf Arj)
def A0l (k : Nat) : Sig := Ac Zf Arj (Pw k)
noncomputable def Ari (k : Nat) : H28 → Option H28
 | (a0, a1, a2, a3, a4, a5, a6, a7, a8, a9, a10, a11) => idx zt8 a0 (0 : Int) fun o1 => some (a0, a1, a2, a3, a4, a5, a6, a7, a8, a9, a10, o1.2.2.2.1)
theorem Bdy (k : Nat) (x : H28) : Pw k x = Ari k x := (Ad _ _).trans (by kernel_rfl)
theorem A5w (k : Nat) : Aa Tryz.prog 82 (A0l k) := Af (Arh k) (l := []) k rfl trivial Ae Tryz.func82 (by kernel_rfl)
abbrev H31 : Type := (Bool) × (Int) × (Int) × (List (YT8)) × (List Int) × (Int) × (Int) × (Int) × (Int) × (Int) × (Int) × (Int) × (Int) × (Int) × (Int)
def Ya : Sk := ⟨[.lf (.ptr 0 0), .lf (.ptr 1 0)], [[.ptr 2 0], [.ptr 3 0], [.pv (.slice yt8)], q6], []⟩
def Alh : Sk := ⟨[.lf (.erp 68 [(.int .i64), (.int .i64)])], Ya.boxes, []⟩
def Ba6 (k : Nat) : EnvL := [(84, [sgpnamed k]), (54, [A7 k]), (55, [A8 k])]
def Alf (k : Nat) : Cfg := { mkC (Ba6 k) 61 4 0 with ef := [(10, (([2], []), ([], [])))], ld := [(8, 1), (9, 0), (12, 9999)], sr := [(12, 3)] }
def Ox (k : Nat) : H28 → Option H31 := hid (Ab (Alf k) k Tryz.f83 Ya Alh)
def Ayx (k : Nat) : Sig := Ac Ya Alh (Ox k)
noncomputable def Alg (k : Nat) : H28 → Option H31
 | (a0, a1, a2, a3, a4, a5, a6, a7, a8, a9, a10, a11) => ((cpnamed k) (a0)).bind fun o1 => bif (!o1.1) then (((A4 k) ((50 : Int), o1.2)).bind fun o2 => some (o2.1, o2.2.1, o2.2.2.1, o2.2.2.2, a1, a2, a3, a4, a5, a6, a7, a8, a9, a10, a11)) else (((A2 k) (o1.2)).bind fun o3 => some (true, (0 : Int), (0 : Int), o3.2.2.2.2, o3.2.1, a2, a3, a4, a5, a6, a7, a8, a9, a10, a11))
theorem Ba7 (k : Nat) (x : H28) : Ox k x = Alg k x := (Ad _ _).trans (by kernel_rfl)
theorem A33 (k : Nat) : Aa Tryz.prog 83 (Ayx k) := Af (Alf k) k rfl ⟨⟨E4 k, trivial⟩, ⟨A9 k, trivial⟩, ⟨Ba k, trivial⟩, trivial⟩ Ae Tryz.func83 (by kernel_rfl)
def Y9 : Sk := ⟨[.lf (.ptr 0 0), .lf (.ptr 1 0)], [[.ptr 2 0], [.ptr 3 1], [.pv (.slice yt8)], q6], []⟩
def Aqd : Sk := ⟨[.lf (.erp 68 [(.int .i64), (.int .i64)])], Y9.boxes, []⟩
def Bdg (k : Nat) : EnvL := [(54, [A7 k]), (55, [A8 k])]
def Aqb (k : Nat) : Cfg := { mkC (Bdg k) 66 4 0 with ef := [(15, (([2], []), ([], [])))], ld := [(13, 1), (14, 0), (17, 9999)], sr := [(17, 3)] }
def Pq (k : Nat) : H28 → Option H31 := hid (Ab (Aqb k) k Tryz.f56 Y9 Aqd)
def A0a (k : Nat) : Sig := Ac Y9 Aqd (Pq k)
noncomputable def Aqc (k : Nat) : H28 → Option H31
 | (a0, a1, a2, a3, a4, a5, a6, a7, a8, a9, a10, a11) => idx zt8 a0 (0 : Int) fun o1 => bif (o1.1 != (2 : Int)) then (((A4 k) ((50 : Int), a0)).bind fun o2 => some (o2.1, o2.2.1, o2.2.2.1, o2.2.2.2, a1, a2, a3, a4, a5, a6, a7, a8, a9, a10, a11)) else (((A2 k) (a0)).bind fun o3 => some (true, (0 : Int), (0 : Int), o3.2.2.2.2, a1, o3.2.2.1, a3, a4, a5, a6, a7, a8, a9, a10, a11))
theorem Bdh (k : Nat) (x : H28) : Pq k x = Aqc k x := (Ad _ _).trans (by kernel_rfl)
theorem A5j (k : Nat) : Aa Tryz.prog 56 (A0a k) := Af (Aqb k) k rfl ⟨⟨A9 k, trivial⟩, ⟨Ba k, trivial⟩, trivial⟩ Ae Tryz.func56 (by kernel_rfl)
def Za : Sk := ⟨[.lf (.ptr 0 0), .lf (.ptr 1 0)], [[.ptr 2 0], [.ptr 3 2], [.pv (.slice yt8)], q6], []⟩
def Aqg : Sk := ⟨[.lf (.erp 68 [(.int .i64), (.int .i64)])], Za.boxes, []⟩
def Bdi (k : Nat) : EnvL := [(54, [A7 k]), (55, [A8 k])]
def Aqe (k : Nat) : Cfg := { mkC (Bdi k) 66 4 0 with ef := [(15, (([2], []), ([], [])))], ld := [(13, 1), (14, 0), (17, 9999)], sr := [(17, 3)] }
def Pr (k : Nat) : H28 → Option H31 := hid (Ab (Aqe k) k Tryz.f56 Za Aqg)
def A0b (k : Nat) : Sig := Ac Za Aqg (Pr k)
noncomputable def Aqf (k : Nat) : H28 → Option H31
 | (a0, a1, a2, a3, a4, a5, a6, a7, a8, a9, a10, a11) => idx zt8 a0 (0 : Int) fun o1 => bif (o1.1 != (2 : Int)) then (((A4 k) ((50 : Int), a0)).bind fun o2 => some (o2.1, o2.2.1, o2.2.2.1, o2.2.2.2, a1, a2, a3, a4, a5, a6, a7, a8, a9, a10, a11)) else (((A2 k) (a0)).bind fun o3 => some (true, (0 : Int), (0 : Int), o3.2.2.2.2, a1, a2, o3.2.2.1, a4, a5, a6, a7, a8, a9, a10, a11))
theorem Bdj (k : Nat) (x : H28) : Pr k x = Aqf k x := (Ad _ _).trans (by kernel_rfl)
theorem A5k (k : Nat) : Aa Tryz.prog 56 (A0b k) := Af (Aqe k) k rfl ⟨⟨A9 k, trivial⟩, ⟨Ba k, trivial⟩, trivial⟩ Ae Tryz.func56 (by kernel_rfl)
def Am2 : Sk := ⟨[.lf (.ptr 0 0), .lf (.ptr 1 3)], [[.pv (.slice yt8)], q6], []⟩
def Am3 : Sk := ⟨[.lf (.fn 56 [] [(2, 0), (3, 0)])], [[.pv (.slice yt8)], q6, [.ptr 0 0], [.ptr 1 3]], []⟩
def Am0 (k : Nat) : Cfg := mkC [] 54 2 0
def Ud (k : Nat) : H28 → Option H28 := hid (Ab (Am0 k) k Tryz.f34 Am2 Am3)
def Azd (k : Nat) : Sig := Ac Am2 Am3 (Ud k)
noncomputable def Am1 (k : Nat) : H28 → Option H28
 | (a0, a1, a2, a3, a4, a5, a6, a7, a8, a9, a10, a11) => some (a0, a1, a2, a3, a4, a5, a6, a7, a8, a9, a10, a11)
theorem Bb4 (k : Nat) (x : H28) : Ud k x = Am1 k x := (Ad _ _).trans (by kernel_rfl)
theorem A4m (k : Nat) : Aa Tryz.prog 34 (Azd k) := Af (Am0 k) (l := []) k rfl trivial Ae Tryz.func34 (by kernel_rfl)
def Am6 : Sk := ⟨[.lf (.ptr 0 0), .lf (.ptr 1 4)], [[.pv (.slice yt8)], q6], []⟩
def Am7 : Sk := ⟨[.lf (.fn 56 [] [(2, 0), (3, 0)])], [[.pv (.slice yt8)], q6, [.ptr 0 0], [.ptr 1 4]], []⟩
def Am4 (k : Nat) : Cfg := mkC [] 54 2 0
def Ue (k : Nat) : H28 → Option H28 := hid (Ab (Am4 k) k Tryz.f34 Am6 Am7)
def Aze (k : Nat) : Sig := Ac Am6 Am7 (Ue k)
noncomputable def Am5 (k : Nat) : H28 → Option H28
 | (a0, a1, a2, a3, a4, a5, a6, a7, a8, a9, a10, a11) => some (a0, a1, a2, a3, a4, a5, a6, a7, a8, a9, a10, a11)
theorem Bb5 (k : Nat) (x : H28) : Ue k x = Am5 k x := (Ad _ _).trans (by kernel_rfl)
theorem A4n (k : Nat) : Aa Tryz.prog 34 (Aze k) := Af (Am4 k) (l := []) k rfl trivial Ae Tryz.func34 (by kernel_rfl)
def Zb : Sk := ⟨[.lf (.ptr 0 0), .lf (.ptr 1 0)], [[.ptr 2 0], [.ptr 3 3], [.pv (.slice yt8)], q6], []⟩
def Aqj : Sk := ⟨[.lf (.erp 68 [(.int .i64), (.int .i64)])], Zb.boxes, []⟩
def Bdk (k : Nat) : EnvL := [(54, [A7 k]), (55, [A8 k])]
def Aqh (k : Nat) : Cfg := { mkC (Bdk k) 66 4 0 with ef := [(15, (([2], []), ([], [])))], ld := [(13, 1), (14, 0), (17, 9999)], sr := [(17, 3)] }
def Ps (k : Nat) : H28 → Option H31 := hid (Ab (Aqh k) k Tryz.f56 Zb Aqj)
def A0c (k : Nat) : Sig := Ac Zb Aqj (Ps k)
noncomputable def Aqi (k : Nat) : H28 → Option H31
 | (a0, a1, a2, a3, a4, a5, a6, a7, a8, a9, a10, a11) => idx zt8 a0 (0 : Int) fun o1 => bif (o1.1 != (2 : Int)) then (((A4 k) ((50 : Int), a0)).bind fun o2 => some (o2.1, o2.2.1, o2.2.2.1, o2.2.2.2, a1, a2, a3, a4, a5, a6, a7, a8, a9, a10, a11)) else (((A2 k) (a0)).bind fun o3 => some (true, (0 : Int), (0 : Int), o3.2.2.2.2, a1, a2, a3, o3.2.2.1, a5, a6, a7, a8, a9, a10, a11))
theorem Bdl (k : Nat) (x : H28) : Ps k x = Aqi k x := (Ad _ _).trans (by kernel_rfl)
theorem A5l (k : Nat) : Aa Tryz.prog 56 (A0c k) := Af (Aqh k) k rfl ⟨⟨A9 k, trivial⟩, ⟨Ba k, trivial⟩, trivial⟩ Ae Tryz.func56 (by kernel_rfl)
def Zc : Sk := ⟨[.lf (.ptr 0 0), .lf (.ptr 1 0)], [[.ptr 2 0], [.ptr 3 4], [.pv (.slice yt8)], q6], []⟩
def Aqm : Sk := ⟨[.lf (.erp 68 [(.int .i64), (.int .i64)])], Zc.boxes, []⟩
def Bdm (k : Nat) : EnvL := [(54, [A7 k]), (55, [A8 k])]
def Aqk (k : Nat) : Cfg := { mkC (Bdm k) 66 4 0 with ef := [(15, (([2], []), ([], [])))], ld := [(13, 1), (14, 0), (17, 9999)], sr := [(17, 3)] }
def Pt (k : Nat) : H28 → Option H31 := hid (Ab (Aqk k) k Tryz.f56 Zc Aqm)
def A0d (k : Nat) : Sig := Ac Zc Aqm (Pt k)
noncomputable def Aql (k : Nat) : H28 → Option H31
 | (a0, a1, a2, a3, a4, a5, a6, a7, a8, a9, a10, a11) => idx zt8 a0 (0 : Int) fun o1 => bif (o1.1 != (2 : Int)) then (((A4 k) ((50 : Int), a0)).bind fun o2 => some (o2.1, o2.2.1, o2.2.2.1, o2.2.2.2, a1, a2, a3, a4, a5, a6, a7, a8, a9, a10, a11)) else (((A2 k) (a0)).bind fun o3 => some (true, (0 : Int), (0 : Int), o3.2.2.2.2, a1, a2, a3, a4, o3.2.2.1, a6, a7, a8, a9, a10, a11))
theorem Bdn (k : Nat) (x : H28) : Pt k x = Aql k x := (Ad _ _).trans (by kernel_rfl)
theorem A5m (k : Nat) : Aa Tryz.prog 56 (A0d k) := Af (Aqk k) k rfl ⟨⟨A9 k, trivial⟩, ⟨Ba k, trivial⟩, trivial⟩ Ae Tryz.func56 (by kernel_rfl)
abbrev H32 : Type := (List (YT8)) × (List Int) × (List Int) × (Int) × (Int) × (Int) × (Int) × (Int) × (Int) × (Int) × (Int) × (Int) × (Int)
abbrev H33 : Type := (Bool) × (Int) × (Int) × (List (YT8)) × (List Int) × (List Int) × (Int) × (Int) × (Int) × (Int) × (Int) × (Int) × (Int) × (Int) × (Int) × (Int)
def Xy : Sk := ⟨[.lf (.ptr 0 0), .lf (.sb 1 3)], [[.pv (.slice yt8)], q3, [.ptr 0 0], [.ptr 8 3], [.ptr 0 0], [.pv .str], [.ptr 0 0], [.ptr 8 4], q6], []⟩
def Aig : Sk := ⟨[.lf (.erp 68 [(.int .i64), (.int .i64)])], Xy.boxes, []⟩
def A92 (k : Nat) : EnvL := [(56, [A0c k, A0d k]), (52, [D6 k])]
def Aie (k : Nat) : Cfg := mkC (A92 k) 68 9 0
def Tr (k : Nat) : H32 → Option H33 := hid (Ab (Aie k) (k + 32) Tryz.f32 Xy Aig)
def Ayd (k : Nat) : Sig := Ac Xy Aig (Tr k)
noncomputable def Aif (k : Nat) : H32 → Option H33
 | (a0, a1, a2, a3, a4, a5, a6, a7, a8, a9, a10, a11, a12) => ((Ps k) (a0, a2, a3, a4, a5, a6, a7, a8, a9, a10, a11, a12)).bind fun o1 => bif (!o1.1) then (some (o1.1, o1.2.1, o1.2.2.1, o1.2.2.2.1, a1, o1.2.2.2.2.1, o1.2.2.2.2.2.1, o1.2.2.2.2.2.2.1, o1.2.2.2.2.2.2.2.1, o1.2.2.2.2.2.2.2.2.1, o1.2.2.2.2.2.2.2.2.2.1, o1.2.2.2.2.2.2.2.2.2.2.1, o1.2.2.2.2.2.2.2.2.2.2.2.1, o1.2.2.2.2.2.2.2.2.2.2.2.2.1, o1.2.2.2.2.2.2.2.2.2.2.2.2.2.1, o1.2.2.2.2.2.2.2.2.2.2.2.2.2.2)) else (((Bg k) (a1, o1.2.2.2.1)).bind fun o2 => bif (!o2.1) then (some (o2.1, o2.2.1, o2.2.2.1, o2.2.2.2.2, o2.2.2.2.1, o1.2.2.2.2.1, o1.2.2.2.2.2.1, o1.2.2.2.2.2.2.1, o1.2.2.2.2.2.2.2.1, o1.2.2.2.2.2.2.2.2.1, o1.2.2.2.2.2.2.2.2.2.1, o1.2.2.2.2.2.2.2.2.2.2.1, o1.2.2.2.2.2.2.2.2.2.2.2.1, o1.2.2.2.2.2.2.2.2.2.2.2.2.1, o1.2.2.2.2.2.2.2.2.2.2.2.2.2.1, o1.2.2.2.2.2.2.2.2.2.2.2.2.2.2)) else (((Pt k) (o2.2.2.2.2, o1.2.2.2.2.1, o1.2.2.2.2.2.1, o1.2.2.2.2.2.2.1, o1.2.2.2.2.2.2.2.1, o1.2.2.2.2.2.2.2.2.1, o1.2.2.2.2.2.2.2.2.2.1, o1.2.2.2.2.2.2.2.2.2.2.1, o1.2.2.2.2.2.2.2.2.2.2.2.1, o1.2.2.2.2.2.2.2.2.2.2.2.2.1, o1.2.2.2.2.2.2.2.2.2.2.2.2.2.1, o1.2.2.2.2.2.2.2.2.2.2.2.2.2.2)).bind fun o3 => bif (!o3.1) then (some (o3.1, o3.2.1, o3.2.2.1, o3.2.2.2.1, o2.2.2.2.1, o3.2.2.2.2.1, o3.2.2.2.2.2.1, o3.2.2.2.2.2.2.1, o3.2.2.2.2.2.2.2.1, o3.2.2.2.2.2.2.2.2.1, o3.2.2.2.2.2.2.2.2.2.1, o3.2.2.2.2.2.2.2.2.2.2.1, o3.2.2.2.2.2.2.2.2.2.2.2.1, o3.2.2.2.2.2.2.2.2.2.2.2.2.1, o3.2.2.2.2.2.2.2.2.2.2.2.2.2.1, o3.2.2.2.2.2.2.2.2.2.2.2.2.2.2)) else (some (true, (0 : Int), (0 : Int), o3.2.2.2.1, o2.2.2.2.1, o3.2.2.2.2.1, o3.2.2.2.2.2.1, o3.2.2.2.2.2.2.1, o3.2.2.2.2.2.2.2.1, o3.2.2.2.2.2.2.2.2.1, o3.2.2.2.2.2.2.2.2.2.1, o3.2.2.2.2.2.2.2.2.2.2.1, o3.2.2.2.2.2.2.2.2.2.2.2.1, o3.2.2.2.2.2.2.2.2.2.2.2.2.1, o3.2.2.2.2.2.2.2.2.2.2.2.2.2.1, o3.2.2.2.2.2.2.2.2.2.2.2.2.2.2))))
theorem A93 (k : Nat) (x : H32) : Tr k x = Aif k x := (Ad _ _).trans (by kernel_rfl)
theorem A3b (k : Nat) : Aa Tryz.prog 32 (Ayd k) := Af (Aie k) (k + 32) rfl ⟨⟨A5l k, A5m k, trivial⟩, ⟨Ee k, trivial⟩, trivial⟩ Ae Tryz.func32 (by kernel_rfl)
def X4 : Sk := ⟨[.lf (.ptr 0 0), .lf (.ptr 1 0)], [[.ptr 2 0], [.ptr 3 3], [.pv (.slice yt8)], q6], []⟩
def Aje : Sk := ⟨[.lf (.erp 68 [(.int .i64), (.int .i64)])], X4.boxes, []⟩
def Baf (k : Nat) : EnvL := [(34, [Azd k, Aze k]), (33, [D5 k]), (32, [Ayd k])]
def Ajc (k : Nat) : Cfg := { mkC (Baf k) 84 4 0 with ef := [(8, (([2, 3], []), ([56, 74], []))), (10, (([2], []), ([58, 76], []))), (15, (([2, 3], []), ([63, 81], []))), (17, (([2, 3, 56, 58, 63, 64, 74, 76, 81], []), ([], [])))], ld := [(3, 0), (4, 0), (5, 1), (6, 9999), (7, 9999), (9, 0), (11, 0), (12, 1), (13, 9999), (14, 9999)], rb := [16] }
def Ou (k : Nat) : H28 → Option H31 := hid (Ab (Ajc k) k Tryz.f57 X4 Aje)
def Ayj (k : Nat) : Sig := Ac X4 Aje (Ou k)
noncomputable def Ajd (k : Nat) : H28 → Option H31
 | (a0, a1, a2, a3, a4, a5, a6, a7, a8, a9, a10, a11) => ((Ud k) (a0, a1, a2, a3, a4, a5, a6, a7, a8, a9, a10, a11)).bind fun o1 => ((Bk k) (([47] : List Int), o1.1)).bind fun o2 => ((Ue k) (o2.1, o1.2.1, o1.2.2.1, o1.2.2.2.1, o1.2.2.2.2.1, o1.2.2.2.2.2.1, o1.2.2.2.2.2.2.1, o1.2.2.2.2.2.2.2.1, o1.2.2.2.2.2.2.2.2.1, o1.2.2.2.2.2.2.2.2.2.1, o1.2.2.2.2.2.2.2.2.2.2.1, o1.2.2.2.2.2.2.2.2.2.2.2)).bind fun o3 => ((Tr k) (o3.1, o2.2, o3.2.1, o3.2.2.1, o3.2.2.2.1, o3.2.2.2.2.1, o3.2.2.2.2.2.1, o3.2.2.2.2.2.2.1, o3.2.2.2.2.2.2.2.1, o3.2.2.2.2.2.2.2.2.1, o3.2.2.2.2.2.2.2.2.2.1, o3.2.2.2.2.2.2.2.2.2.2.1, o3.2.2.2.2.2.2.2.2.2.2.2)).bind fun o4 => some (o4.1, o4.2.1, o4.2.2.1, o4.2.2.2.1, o4.2.2.2.2.2.1, o4.2.2.2.2.2.2.1, o4.2.2.2.2.2.2.2.1, o4.2.2.2.2.2.2.2.2.1, o4.2.2.2.2.2.2.2.2.2.1, o4.2.2.2.2.2.2.2.2.2.2.1, o4.2.2.2.2.2.2.2.2.2.2.2.1, o4.2.2.2.2.2.2.2.2.2.2.2.2.1, o4.2.2.2.2.2.2.2.2.2.2.2.2.2.1, o4.2.2.2.2.2.2.2.2.2.2.2.2.2.2.1, o4.2.2.2.2.2.2.2.2.2.2.2.2.2.2.2)
theorem Bag (k : Nat) (x : H28) : Ou k x = Ajd k x := (Ad _ _).trans (by kernel_rfl)
theorem A3k (k : Nat) : Aa Tryz.prog 57 (Ayj k) := Af (Ajc k) k rfl ⟨⟨A4m k, A4n k, trivial⟩, ⟨Ed k, trivial⟩, ⟨A3b k, trivial⟩, trivial⟩ Ae Tryz.func57 (by kernel_rfl)
def Zd : Sk := ⟨[.lf (.ptr 0 0), .lf (.ptr 1 0)], [[.ptr 2 0], [.ptr 3 5], [.pv (.slice yt8)], q6], []⟩
def Aqp : Sk := ⟨[.lf (.erp 68 [(.int .i64), (.int .i64)])], Zd.boxes, []⟩
def Bdo (k : Nat) : EnvL := [(54, [A7 k]), (55, [A8 k])]
def Aqn (k : Nat) : Cfg := { mkC (Bdo k) 66 4 0 with ef := [(15, (([2], []), ([], [])))], ld := [(13, 1), (14, 0), (17, 9999)], sr := [(17, 3)] }
def Pu (k : Nat) : H28 → Option H31 := hid (Ab (Aqn k) k Tryz.f56 Zd Aqp)
def A0e (k : Nat) : Sig := Ac Zd Aqp (Pu k)
noncomputable def Aqo (k : Nat) : H28 → Option H31
 | (a0, a1, a2, a3, a4, a5, a6, a7, a8, a9, a10, a11) => idx zt8 a0 (0 : Int) fun o1 => bif (o1.1 != (2 : Int)) then (((A4 k) ((50 : Int), a0)).bind fun o2 => some (o2.1, o2.2.1, o2.2.2.1, o2.2.2.2, a1, a2, a3, a4, a5, a6, a7, a8, a9, a10, a11)) else (((A2 k) (a0)).bind fun o3 => some (true, (0 : Int), (0 : Int), o3.2.2.2.2, a1, a2, a3, a4, a5, o3.2.2.1, a7, a8, a9, a10, a11))
theorem Bdp (k : Nat) (x : H28) : Pu k x = Aqo k x := (Ad _ _).trans (by kernel_rfl)
theorem A5n (k : Nat) : Aa Tryz.prog 56 (A0e k) := Af (Aqn k) k rfl ⟨⟨A9 k, trivial⟩, ⟨Ba k, trivial⟩, trivial⟩ Ae Tryz.func56 (by kernel_rfl)
def X8 : Sk := ⟨[.lf (.ptr 0 0), .lf (.ptr 1 0), .lf (.ptr 2 0)], [[.ptr 3 0], [.pv .str], [.ptr 4 0], [.pv (.slice yt8)], [.pv .bool]], []⟩
def Aj7 : Sk := ⟨[.lf (.nil .ifc)], X8.boxes, []⟩
def Bas (k : Nat) : EnvL := [(53, [Dk k]), (55, [A8 k])]
def Aj4 (k : Nat) : Cfg := mkC (Bas k) 59 5 0
def Lt (k : Nat) : H29 → Option H29 := hid (Ab (Aj4 k) k Tryz.f71 X8 Aj7)
def Acc (k : Nat) : Sig := Ac X8 Aj7 (Lt k)
noncomputable def Aj5 (k : Nat) : H29 → Option H29
 | (a0, a1, a2) => ((C0 k) (a0, a1)).bind fun o1 => bif o1.1 then (((A2 k) (o1.2)).bind fun o2 => some (a0, o2.2.2.2.2, true)) else (some (a0, o1.2, a2))
theorem Bat (k : Nat) (x : H29) : Lt k x = Aj5 k x := (Ad _ _).trans (by kernel_rfl)
theorem Aed (k : Nat) : Aa Tryz.prog 71 (Acc k) := Af (Aj4 k) k rfl ⟨⟨Do k, trivial⟩, ⟨Ba k, trivial⟩, trivial⟩ Ae Tryz.func71 (by kernel_rfl)
def Yu : Sk := ⟨[.lf (.ptr 0 0), .lf (.ptr 1 0)], [[.ptr 2 0], [.ptr 3 6], [.pv (.slice yt8)], q6], []⟩
def Ao4 : Sk := ⟨[.lf (.erp 68 [(.int .i64), (.int .i64)])], Yu.boxes, []⟩
def Bcm (k : Nat) : EnvL := [(54, [A7 k]), (55, [A8 k])]
def Ao2 (k : Nat) : Cfg := { mkC (Bcm k) 66 4 0 with ef := [(15, (([2], []), ([], [])))], ld := [(13, 1), (14, 0), (17, 9999)], sr := [(17, 3)] }
def Pb (k : Nat) : H28 → Option H31 := hid (Ab (Ao2 k) k Tryz.f56 Yu Ao4)
def Azw (k : Nat) : Sig := Ac Yu Ao4 (Pb k)
noncomputable def Ao3 (k : Nat) : H28 → Option H31
 | (a0, a1, a2, a3, a4, a5, a6, a7, a8, a9, a10, a11) => idx zt8 a0 (0 : Int) fun o1 => bif (o1.1 != (2 : Int)) then (((A4 k) ((50 : Int), a0)).bind fun o2 => some (o2.1, o2.2.1, o2.2.2.1, o2.2.2.2, a1, a2, a3, a4, a5, a6, a7, a8, a9, a10, a11)) else (((A2 k) (a0)).bind fun o3 => some (true, (0 : Int), (0 : Int), o3.2.2.2.2, a1, a2, a3, a4, a5, a6, o3.2.2.1, a8, a9, a10, a11))
theorem Bcn (k : Nat) (x : H28) : Pb k x = Ao3 k x := (Ad _ _).trans (by kernel_rfl)
theorem A44 (k : Nat) : Aa Tryz.prog 56 (Azw k) := Af (Ao2 k) k rfl ⟨⟨A9 k, trivial⟩, ⟨Ba k, trivial⟩, trivial⟩ Ae Tryz.func56 (by kernel_rfl)
def Yv : Sk := ⟨[.lf (.ptr 0 0), .lf (.ptr 1 0)], [[.ptr 2 0], [.ptr 3 7], [.pv (.slice yt8)], q6], []⟩
def Ao7 : Sk := ⟨[.lf (.erp 68 [(.int .i64), (.int .i64)])], Yv.boxes, []⟩
def Bco (k : Nat) : EnvL := [(54, [A7 k]), (55, [A8 k])]
def Ao5 (k : Nat) : Cfg := { mkC (Bco k) 66 4 0 with ef := [(15, (([2], []), ([], [])))], ld := [(13, 1), (14, 0), (17, 9999)], sr := [(17, 3)] }
def Pc (k : Nat) : H28 → Option H31 := hid (Ab (Ao5 k) k Tryz.f56 Yv Ao7)
def Azx (k : Nat) : Sig := Ac Yv Ao7 (Pc k)
noncomputable def Ao6 (k : Nat) : H28 → Option H31
 | (a0, a1, a2, a3, a4, a5, a6, a7, a8, a9, a10, a11) => idx zt8 a0 (0 : Int) fun o1 => bif (o1.1 != (2 : Int)) then (((A4 k) ((50 : Int), a0)).bind fun o2 => some (o2.1, o2.2.1, o2.2.2.1, o2.2.2.2, a1, a2, a3, a4, a5, a6, a7, a8, a9, a10, a11)) else (((A2 k) (a0)).bind fun o3 => some (true, (0 : Int), (0 : Int), o3.2.2.2.2, a1, a2, a3, a4, a5, a6, a7, o3.2.2.1, a9, a10, a11))
theorem Bcp (k : Nat) (x : H28) : Pc k x = Ao6 k x := (Ad _ _).trans (by kernel_rfl)
theorem A45 (k : Nat) : Aa Tryz.prog 56 (Azx k) := Af (Ao5 k) k rfl ⟨⟨A9 k, trivial⟩, ⟨Ba k, trivial⟩, trivial⟩ Ae Tryz.func56 (by kernel_rfl)
def Yw : Sk := ⟨[.lf (.ptr 0 0), .lf (.ptr 1 0)], [[.ptr 2 0], [.ptr 3 8], [.pv (.slice yt8)], q6], []⟩
def Apa : Sk := ⟨[.lf (.erp 68 [(.int .i64), (.int .i64)])], Yw.boxes, []⟩
def Bcq (k : Nat) : EnvL := [(54, [A7 k]), (55, [A8 k])]
def Ao8 (k : Nat) : Cfg := { mkC (Bcq k) 66 4 0 with ef := [(15, (([2], []), ([], [])))], ld := [(13, 1), (14, 0), (17, 9999)], sr := [(17, 3)] }
def Pd (k : Nat) : H28 → Option H31 := hid (Ab (Ao8 k) k Tryz.f56 Yw Apa)
def Azy (k : Nat) : Sig := Ac Yw Apa (Pd k)
noncomputable def Ao9 (k : Nat) : H28 → Option H31
 | (a0, a1, a2, a3, a4, a5, a6, a7, a8, a9, a10, a11) => idx zt8 a0 (0 : Int) fun o1 => bif (o1.1 != (2 : Int)) then (((A4 k) ((50 : Int), a0)).bind fun o2 => some (o2.1, o2.2.1, o2.2.2.1, o2.2.2.2, a1, a2, a3, a4, a5, a6, a7, a8, a9, a10, a11)) else (((A2 k) (a0)).bind fun o3 => some (true, (0 : Int), (0 : Int), o3.2.2.2.2, a1, a2, a3, a4, a5, a6, a7, a8, o3.2.2.1, a10, a11))
theorem Bcr (k : Nat) (x : H28) : Pd k x = Ao9 k x := (Ad _ _).trans (by kernel_rfl)
theorem A46 (k : Nat) : Aa Tryz.prog 56 (Azy k) := Af (Ao8 k) k rfl ⟨⟨A9 k, trivial⟩, ⟨Ba k, trivial⟩, trivial⟩ Ae Tryz.func56 (by kernel_rfl)
def Yx : Sk := ⟨[.lf (.ptr 0 0), .lf (.ptr 1 0)], [[.ptr 2 0], [.ptr 3 9], [.pv (.slice yt8)], q6], []⟩
def Apd : Sk := ⟨[.lf (.erp 68 [(.int .i64), (.int .i64)])], Yx.boxes, []⟩
def Bcs (k : Nat) : EnvL := [(54, [A7 k]), (55, [A8 k])]
def Apb (k : Nat) : Cfg := { mkC (Bcs k) 66 4 0 with ef := [(15, (([2], []), ([], [])))], ld := [(13, 1), (14, 0), (17, 9999)], sr := [(17, 3)] }
def Pe (k : Nat) : H28 → Option H31 := hid (Ab (Apb k) k Tryz.f56 Yx Apd)
def Azz (k : Nat) : Sig := Ac Yx Apd (Pe k)
noncomputable def Apc (k : Nat) : H28 → Option H31
 | (a0, a1, a2, a3, a4, a5, a6, a7, a8, a9, a10, a11) => idx zt8 a0 (0 : Int) fun o1 => bif (o1.1 != (2 : Int)) then (((A4 k) ((50 : Int), a0)).bind fun o2 => some (o2.1, o2.2.1, o2.2.2.1, o2.2.2.2, a1, a2, a3, a4, a5, a6, a7, a8, a9, a10, a11)) else (((A2 k) (a0)).bind fun o3 => some (true, (0 : Int), (0 : Int), o3.2.2.2.2, a1, a2, a3, a4, a5, a6, a7, a8, a9, o3.2.2.1, a11))
theorem Bct (k : Nat) (x : H28) : Pe k x = Apc k x := (Ad _ _).trans (by kernel_rfl)
theorem A47 (k : Nat) : Aa Tryz.prog 56 (Azz k) := Af (Apb k) k rfl ⟨⟨A9 k, trivial⟩, ⟨Ba k, trivial⟩, trivial⟩ Ae Tryz.func56 (by kernel_rfl)
abbrev H34 : Type := (List (YT8)) × (List Int) × (List Int) × (List Int) × (List Int) × (List Int) × (List Int) × (List Int) × (List Int) × (List Int) × (List Int) × (List Int) × (Int) × (Int) × (Int) × (Int) × (Int) × (Int) × (Int) × (Int) × (Int) × (Int) × (Bool)
abbrev H35 : Type := (Bool) × (Int) × (Int) × (List (YT8)) × (List Int) × (List Int) × (List Int) × (List Int) × (List Int) × (List Int) × (List Int) × (List Int) × (List Int) × (List Int) × (List Int) × (Int) × (Int) × (Int) × (Int) × (Int) × (Int) × (Int) × (Int) × (Int) × (Int) × (Bool)
def Xx : Sk := ⟨[.lf (.ptr 0 0), .lf (.sb 1 20)], [[.pv (.slice yt8)], q7, [.ptr 0 0], [.ptr 43 10], [.ptr 0 0], [.ptr 43 0], [.ptr 0 0], [.pv .str], [.ptr 0 0], [.ptr 43 1], [.ptr 0 0], [.pv .str], [.ptr 0 0], [.ptr 43 2], [.ptr 0 0], [.pv .str], [.ptr 0 0], [.ptr 43 3], [.ptr 0 0], [.pv .str], [.ptr 0 0], [.ptr 43 5], [.ptr 0 0], [.pv .str], [.ptr 0 0], [.pv .str], [.ptr 44 0], [.ptr 0 0], [.ptr 43 6], [.ptr 0 0], [.pv .str], [.ptr 0 0], [.ptr 43 7], [.ptr 0 0], [.pv .str], [.ptr 0 0], [.ptr 43 8], [.ptr 0 0], [.pv .str], [.ptr 0 0], [.ptr 43 9], [.ptr 0 0], [.pv .str], q6, [.pv .bool]], []⟩
def Aid : Sk := ⟨[.lf (.erp 68 [(.int .i64), (.int .i64)])], Xx.boxes, []⟩
def A90 (k : Nat) : EnvL := [(82, [A0l k]), (83, [Ayx k]), (52, [D6 k]), (56, [A0a k, A0b k, A0e k, Azw k, Azx k, Azy k, Azz k]), (57, [Ayj k]), (71, [Acc k])]
def Aib (k : Nat) : Cfg := mkC (A90 k) 68 45 0
def Tq (k : Nat) : H34 → Option H35 := hid (Ab (Aib k) (k + 32) Tryz.f32 Xx Aid)
def Ayc (k : Nat) : Sig := Ac Xx Aid (Tq k)
noncomputable def Aic (k : Nat) : H34 → Option H35
 | (a0, a1, a2, a3, a4, a5, a6, a7, a8, a9, a10, a11, a12, a13, a14, a15, a16, a17, a18, a19, a20, a21, a22) => ((Pw k) (a0, a11, a12, a13, a14, a15, a16, a17, a18, a19, a20, a21)).bind fun o1 => ((Ox k) (o1.1, o1.2.1, o1.2.2.1, o1.2.2.2.1, o1.2.2.2.2.1, o1.2.2.2.2.2.1, o1.2.2.2.2.2.2.1, o1.2.2.2.2.2.2.2.1, o1.2.2.2.2.2.2.2.2.1, o1.2.2.2.2.2.2.2.2.2.1, o1.2.2.2.2.2.2.2.2.2.2.1, o1.2.2.2.2.2.2.2.2.2.2.2)).bind fun o2 => bif (!o2.1) then (some (o2.1, o2.2.1, o2.2.2.1, o2.2.2.2.1, a1, a2, a3, a4, a5, a6, a7, a8, a9, a10, o2.2.2.2.2.1, o2.2.2.2.2.2.1, o2.2.2.2.2.2.2.1, o2.2.2.2.2.2.2.2.1, o2.2.2.2.2.2.2.2.2.1, o2.2.2.2.2.2.2.2.2.2.1, o2.2.2.2.2.2.2.2.2.2.2.1, o2.2.2.2.2.2.2.2.2.2.2.2.1, o2.2.2.2.2.2.2.2.2.2.2.2.2.1, o2.2.2.2.2.2.2.2.2.2.2.2.2.2.1, o2.2.2.2.2.2.2.2.2.2.2.2.2.2.2, a22)) else (((Bg k) (a1, o2.2.2.2.1)).bind fun o3 => bif (!o3.1) then (some (o3.1, o3.2.1, o3.2.2.1, o3.2.2.2.2, o3.2.2.2.1, a2, a3, a4, a5, a6, a7, a8, a9, a10, o2.2.2.2.2.1, o2.2.2.2.2.2.1, o2.2.2.2.2.2.2.1, o2.2.2.2.2.2.2.2.1, o2.2.2.2.2.2.2.2.2.1, o2.2.2.2.2.2.2.2.2.2.1, o2.2.2.2.2.2.2.2.2.2.2.1, o2.2.2.2.2.2.2.2.2.2.2.2.1, o2.2.2.2.2.2.2.2.2.2.2.2.2.1, o2.2.2.2.2.2.2.2.2.2.2.2.2.2.1, o2.2.2.2.2.2.2.2.2.2.2.2.2.2.2, a22)) else (((Pq k) (o3.2.2.2.2, o2.2.2.2.2.1, o2.2.2.2.2.2.1, o2.2.2.2.2.2.2.1, o2.2.2.2.2.2.2.2.1, o2.2.2.2.2.2.2.2.2.1, o2.2.2.2.2.2.2.2.2.2.1, o2.2.2.2.2.2.2.2.2.2.2.1, o2.2.2.2.2.2.2.2.2.2.2.2.1, o2.2.2.2.2.2.2.2.2.2.2.2.2.1, o2.2.2.2.2.2.2.2.2.2.2.2.2.2.1, o2.2.2.2.2.2.2.2.2.2.2.2.2.2.2)).bind fun o4 => bif (!o4.1) then (some (o4.1, o4.2.1, o4.2.2.1, o4.2.2.2.1, o3.2.2.2.1, a2, a3, a4, a5, a6, a7, a8, a9, a10, o4.2.2.2.2.1, o4.2.2.2.2.2.1, o4.2.2.2.2.2.2.1, o4.2.2.2.2.2.2.2.1, o4.2.2.2.2.2.2.2.2.1, o4.2.2.2.2.2.2.2.2.2.1, o4.2.2.2.2.2.2.2.2.2.2.1, o4.2.2.2.2.2.2.2.2.2.2.2.1, o4.2.2.2.2.2.2.2.2.2.2.2.2.1, o4.2.2.2.2.2.2.2.2.2.2.2.2.2.1, o4.2.2.2.2.2.2.2.2.2.2.2.2.2.2, a22)) else (((Bg k) (a2, o4.2.2.2.1)).bind fun o5 => bif (!o5.1) then (some (o5.1, o5.2.1, o5.2.2.1, o5.2.2.2.2, o3.2.2.2.1, o5.2.2.2.1, a3, a4, a5, a6, a7, a8, a9, a10, o4.2.2.2.2.1, o4.2.2.2.2.2.1, o4.2.2.2.2.2.2.1, o4.2.2.2.2.2.2.2.1, o4.2.2.2.2.2.2.2.2.1, o4.2.2.2.2.2.2.2.2.2.1, o4.2.2.2.2.2.2.2.2.2.2.1, o4.2.2.2.2.2.2.2.2.2.2.2.1, o4.2.2.2.2.2.2.2.2.2.2.2.2.1, o4.2.2.2.2.2.2.2.2.2.2.2.2.2.1, o4.2.2.2.2.2.2.2.2.2.2.2.2.2.2, a22)) else (((Pr k) (o5.2.2.2.2, o4.2.2.2.2.1, o4.2.2.2.2.2.1, o4.2.2.2.2.2.2.1, o4.2.2.2.2.2.2.2.1, o4.2.2.2.2.2.2.2.2.1, o4.2.2.2.2.2.2.2.2.2.1, o4.2.2.2.2.2.2.2.2.2.2.1, o4.2.2.2.2.2.2.2.2.2.2.2.1, o4.2.2.2.2.2.2.2.2.2.2.2.2.1, o4.2.2.2.2.2.2.2.2.2.2.2.2.2.1, o4.2.2.2.2.2.2.2.2.2.2.2.2.2.2)).bind fun o6 => bif (!o6.1) then (some (o6.1, o6.2.1, o6.2.2.1, o6.2.2.2.1, o3.2.2.2.1, o5.2.2.2.1, a3, a4, a5, a6, a7, a8, a9, a10, o6.2.2.2.2.1, o6.2.2.2.2.2.1, o6.2.2.2.2.2.2.1, o6.2.2.2.2.2.2.2.1, o6.2.2.2.2.2.2.2.2.1, o6.2.2.2.2.2.2.2.2.2.1, o6.2.2.2.2.2.2.2.2.2.2.1, o6.2.2.2.2.2.2.2.2.2.2.2.1, o6.2.2.2.2.2.2.2.2.2.2.2.2.1, o6.2.2.2.2.2.2.2.2.2.2.2.2.2.1, o6.2.2.2.2.2.2.2.2.2.2.2.2.2.2, a22)) else (((Bg k) (a3, o6.2.2.2.1)).bind fun o7 => bif (!o7.1) then (some (o7.1, o7.2.1, o7.2.2.1, o7.2.2.2.2, o3.2.2.2.1, o5.2.2.2.1, o7.2.2.2.1, a4, a5, a6, a7, a8, a9, a10, o6.2.2.2.2.1, o6.2.2.2.2.2.1, o6.2.2.2.2.2.2.1, o6.2.2.2.2.2.2.2.1, o6.2.2.2.2.2.2.2.2.1, o6.2.2.2.2.2.2.2.2.2.1, o6.2.2.2.2.2.2.2.2.2.2.1, o6.2.2.2.2.2.2.2.2.2.2.2.1, o6.2.2.2.2.2.2.2.2.2.2.2.2.1, o6.2.2.2.2.2.2.2.2.2.2.2.2.2.1, o6.2.2.2.2.2.2.2.2.2.2.2.2.2.2, a22)) else (((Ou k) (o7.2.2.2.2, o6.2.2.2.2.1, o6.2.2.2.2.2.1, o6.2.2.2.2.2.2.1, o6.2.2.2.2.2.2.2.1, o6.2.2.2.2.2.2.2.2.1, o6.2.2.2.2.2.2.2.2.2.1, o6.2.2.2.2.2.2.2.2.2.2.1, o6.2.2.2.2.2.2.2.2.2.2.2.1, o6.2.2.2.2.2.2.2.2.2.2.2.2.1, o6.2.2.2.2.2.2.2.2.2.2.2.2.2.1, o6.2.2.2.2.2.2.2.2.2.2.2.2.2.2)).bind fun o8 => bif (!o8.1) then (some (o8.1, o8.2.1, o8.2.2.1, o8.2.2.2.1, o3.2.2.2.1, o5.2.2.2.1, o7.2.2.2.1, a4, a5, a6, a7, a8, a9, a10, o8.2.2.2.2.1, o8.2.2.2.2.2.1, o8.2.2.2.2.2.2.1, o8.2.2.2.2.2.2.2.1, o8.2.2.2.2.2.2.2.2.1, o8.2.2.2.2.2.2.2.2.2.1, o8.2.2.2.2.2.2.2.2.2.2.1, o8.2.2.2.2.2.2.2.2.2.2.2.1, o8.2.2.2.2.2.2.2.2.2.2.2.2.1, o8.2.2.2.2.2.2.2.2.2.2.2.2.2.1, o8.2.2.2.2.2.2.2.2.2.2.2.2.2.2, a22)) else (((Bg k) (a4, o8.2.2.2.1)).bind fun o9 => bif (!o9.1) then (some (o9.1, o9.2.1, o9.2.2.1, o9.2.2.2.2, o3.2.2.2.1, o5.2.2.2.1, o7.2.2.2.1, o9.2.2.2.1, a5, a6, a7, a8, a9, a10, o8.2.2.2.2.1, o8.2.2.2.2.2.1, o8.2.2.2.2.2.2.1, o8.2.2.2.2.2.2.2.1, o8.2.2.2.2.2.2.2.2.1, o8.2.2.2.2.2.2.2.2.2.1, o8.2.2.2.2.2.2.2.2.2.2.1, o8.2.2.2.2.2.2.2.2.2.2.2.1, o8.2.2.2.2.2.2.2.2.2.2.2.2.1, o8.2.2.2.2.2.2.2.2.2.2.2.2.2.1, o8.2.2.2.2.2.2.2.2.2.2.2.2.2.2, a22)) else (((Pu k) (o9.2.2.2.2, o8.2.2.2.2.1, o8.2.2.2.2.2.1, o8.2.2.2.2.2.2.1, o8.2.2.2.2.2.2.2.1, o8.2.2.2.2.2.2.2.2.1, o8.2.2.2.2.2.2.2.2.2.1, o8.2.2.2.2.2.2.2.2.2.2.1, o8.2.2.2.2.2.2.2.2.2.2.2.1, o8.2.2.2.2.2.2.2.2.2.2.2.2.1, o8.2.2.2.2.2.2.2.2.2.2.2.2.2.1, o8.2.2.2.2.2.2.2.2.2.2.2.2.2.2)).bind fun o10 => bif (!o10.1) then (some (o10.1, o10.2.1, o10.2.2.1, o10.2.2.2.1, o3.2.2.2.1, o5.2.2.2.1, o7.2.2.2.1, o9.2.2.2.1, a5, a6, a7, a8, a9, a10, o10.2.2.2.2.1, o10.2.2.2.2.2.1, o10.2.2.2.2.2.2.1, o10.2.2.2.2.2.2.2.1, o10.2.2.2.2.2.2.2.2.1, o10.2.2.2.2.2.2.2.2.2.1, o10.2.2.2.2.2.2.2.2.2.2.1, o10.2.2.2.2.2.2.2.2.2.2.2.1, o10.2.2.2.2.2.2.2.2.2.2.2.2.1, o10.2.2.2.2.2.2.2.2.2.2.2.2.2.1, o10.2.2.2.2.2.2.2.2.2.2.2.2.2.2, a22)) else (((Bg k) (a5, o10.2.2.2.1)).bind fun o11 => bif (!o11.1) then (some (o11.1, o11.2.1, o11.2.2.1, o11.2.2.2.2, o3.2.2.2.1, o5.2.2.2.1, o7.2.2.2.1, o9.2.2.2.1, o11.2.2.2.1, a6, a7, a8, a9, a10, o10.2.2.2.2.1, o10.2.2.2.2.2.1, o10.2.2.2.2.2.2.1, o10.2.2.2.2.2.2.2.1, o10.2.2.2.2.2.2.2.2.1, o10.2.2.2.2.2.2.2.2.2.1, o10.2.2.2.2.2.2.2.2.2.2.1, o10.2.2.2.2.2.2.2.2.2.2.2.1, o10.2.2.2.2.2.2.2.2.2.2.2.2.1, o10.2.2.2.2.2.2.2.2.2.2.2.2.2.1, o10.2.2.2.2.2.2.2.2.2.2.2.2.2.2, a22)) else (((Lt k) (a6, o11.2.2.2.2, a22)).bind fun o12 => ((Pb k) (o12.2.1, o10.2.2.2.2.1, o10.2.2.2.2.2.1, o10.2.2.2.2.2.2.1, o10.2.2.2.2.2.2.2.1, o10.2.2.2.2.2.2.2.2.1, o10.2.2.2.2.2.2.2.2.2.1, o10.2.2.2.2.2.2.2.2.2.2.1, o10.2.2.2.2.2.2.2.2.2.2.2.1, o10.2.2.2.2.2.2.2.2.2.2.2.2.1, o10.2.2.2.2.2.2.2.2.2.2.2.2.2.1, o10.2.2.2.2.2.2.2.2.2.2.2.2.2.2)).bind fun o13 => bif (!o13.1) then (some (o13.1, o13.2.1, o13.2.2.1, o13.2.2.2.1, o3.2.2.2.1, o5.2.2.2.1, o7.2.2.2.1, o9.2.2.2.1, o11.2.2.2.1, o12.1, a7, a8, a9, a10, o13.2.2.2.2.1, o13.2.2.2.2.2.1, o13.2.2.2.2.2.2.1, o13.2.2.2.2.2.2.2.1, o13.2.2.2.2.2.2.2.2.1, o13.2.2.2.2.2.2.2.2.2.1, o13.2.2.2.2.2.2.2.2.2.2.1, o13.2.2.2.2.2.2.2.2.2.2.2.1, o13.2.2.2.2.2.2.2.2.2.2.2.2.1, o13.2.2.2.2.2.2.2.2.2.2.2.2.2.1, o13.2.2.2.2.2.2.2.2.2.2.2.2.2.2, o12.2.2)) else (((Bg k) (a7, o13.2.2.2.1)).bind fun o14 => bif (!o14.1) then (some (o14.1, o14.2.1, o14.2.2.1, o14.2.2.2.2, o3.2.2.2.1, o5.2.2.2.1, o7.2.2.2.1, o9.2.2.2.1, o11.2.2.2.1, o12.1, o14.2.2.2.1, a8, a9, a10, o13.2.2.2.2.1, o13.2.2.2.2.2.1, o13.2.2.2.2.2.2.1, o13.2.2.2.2.2.2.2.1, o13.2.2.2.2.2.2.2.2.1, o13.2.2.2.2.2.2.2.2.2.1, o13.2.2.2.2.2.2.2.2.2.2.1, o13.2.2.2.2.2.2.2.2.2.2.2.1, o13.2.2.2.2.2.2.2.2.2.2.2.2.1, o13.2.2.2.2.2.2.2.2.2.2.2.2.2.1, o13.2.2.2.2.2.2.2.2.2.2.2.2.2.2, o12.2.2)) else (((Pc k) (o14.2.2.2.2, o13.2.2.2.2.1, o13.2.2.2.2.2.1, o13.2.2.2.2.2.2.1, o13.2.2.2.2.2.2.2.1, o13.2.2.2.2.2.2.2.2.1, o13.2.2.2.2.2.2.2.2.2.1, o13.2.2.2.2.2.2.2.2.2.2.1, o13.2.2.2.2.2.2.2.2.2.2.2.1, o13.2.2.2.2.2.2.2.2.2.2.2.2.1, o13.2.2.2.2.2.2.2.2.2.2.2.2.2.1, o13.2.2.2.2.2.2.2.2.2.2.2.2.2.2)).bind fun o15 => bif (!o15.1) then (some (o15.1, o15.2.1, o15.2.2.1, o15.2.2.2.1, o3.2.2.2.1, o5.2.2.2.1, o7.2.2.2.1, o9.2.2.2.1, o11.2.2.2.1, o12.1, o14.2.2.2.1, a8, a9, a10, o15.2.2.2.2.1, o15.2.2.2.2.2.1, o15.2.2.2.2.2.2.1, o15.2.2.2.2.2.2.2.1, o15.2.2.2.2.2.2.2.2.1, o15.2.2.2.2.2.2.2.2.2.1, o15.2.2.2.2.2.2.2.2.2.2.1, o15.2.2.2.2.2.2.2.2.2.2.2.1, o15.2.2.2.2.2.2.2.2.2.2.2.2.1, o15.2.2.2.2.2.2.2.2.2.2.2.2.2.1, o15.2.2.2.2.2.2.2.2.2.2.2.2.2.2, o12.2.2)) else (((Bg k) (a8, o15.2.2.2.1)).bind fun o16 => bif (!o16.1) then (some (o16.1, o16.2.1, o16.2.2.1, o16.2.2.2.2, o3.2.2.2.1, o5.2.2.2.1, o7.2.2.2.1, o9.2.2.2.1, o11.2.2.2.1, o12.1, o14.2.2.2.1, o16.2.2.2.1, a9, a10, o15.2.2.2.2.1, o15.2.2.2.2.2.1, o15.2.2.2.2.2.2.1, o15.2.2.2.2.2.2.2.1, o15.2.2.2.2.2.2.2.2.1, o15.2.2.2.2.2.2.2.2.2.1, o15.2.2.2.2.2.2.2.2.2.2.1, o15.2.2.2.2.2.2.2.2.2.2.2.1, o15.2.2.2.2.2.2.2.2.2.2.2.2.1, o15.2.2.2.2.2.2.2.2.2.2.2.2.2.1, o15.2.2.2.2.2.2.2.2.2.2.2.2.2.2, o12.2.2)) else (((Pd k) (o16.2.2.2.2, o15.2.2.2.2.1, o15.2.2.2.2.2.1, o15.2.2.2.2.2.2.1, o15.2.2.2.2.2.2.2.1, o15.2.2.2.2.2.2.2.2.1, o15.2.2.2.2.2.2.2.2.2.1, o15.2.2.2.2.2.2.2.2.2.2.1, o15.2.2.2.2.2.2.2.2.2.2.2.1, o15.2.2.2.2.2.2.2.2.2.2.2.2.1, o15.2.2.2.2.2.2.2.2.2.2.2.2.2.1, o15.2.2.2.2.2.2.2.2.2.2.2.2.2.2)).bind fun o17 => bif (!o17.1) then (some (o17.1, o17.2.1, o17.2.2.1, o17.2.2.2.1, o3.2.2.2.1, o5.2.2.2.1, o7.2.2.2.1, o9.2.2.2.1, o11.2.2.2.1, o12.1, o14.2.2.2.1, o16.2.2.2.1, a9, a10, o17.2.2.2.2.1, o17.2.2.2.2.2.1, o17.2.2.2.2.2.2.1, o17.2.2.2.2.2.2.2.1, o17.2.2.2.2.2.2.2.2.1, o17.2.2.2.2.2.2.2.2.2.1, o17.2.2.2.2.2.2.2.2.2.2.1, o17.2.2.2.2.2.2.2.2.2.2.2.1, o17.2.2.2.2.2.2.2.2.2.2.2.2.1, o17.2.2.2.2.2.2.2.2.2.2.2.2.2.1, o17.2.2.2.2.2.2.2.2.2.2.2.2.2.2, o12.2.2)) else (((Bg k) (a9, o17.2.2.2.1)).bind fun o18 => bif (!o18.1) then (some (o18.1, o18.2.1, o18.2.2.1, o18.2.2.2.2, o3.2.2.2.1, o5.2.2.2.1, o7.2.2.2.1, o9.2.2.2.1, o11.2.2.2.1, o12.1, o14.2.2.2.1, o16.2.2.2.1, o18.2.2.2.1, a10, o17.2.2.2.2.1, o17.2.2.2.2.2.1, o17.2.2.2.2.2.2.1, o17.2.2.2.2.2.2.2.1, o17.2.2.2.2.2.2.2.2.1, o17.2.2.2.2.2.2.2.2.2.1, o17.2.2.2.2.2.2.2.2.2.2.1, o17.2.2.2.2.2.2.2.2.2.2.2.1, o17.2.2.2.2.2.2.2.2.2.2.2.2.1, o17.2.2.2.2.2.2.2.2.2.2.2.2.2.1, o17.2.2.2.2.2.2.2.2.2.2.2.2.2.2, o12.2.2)) else (((Pe k) (o18.2.2.2.2, o17.2.2.2.2.1, o17.2.2.2.2.2.1, o17.2.2.2.2.2.2.1, o17.2.2.2.2.2.2.2.1, o17.2.2.2.2.2.2.2.2.1, o17.2.2.2.2.2.2.2.2.2.1, o17.2.2.2.2.2.2.2.2.2.2.1, o17.2.2.2.2.2.2.2.2.2.2.2.1, o17.2.2.2.2.2.2.2.2.2.2.2.2.1, o17.2.2.2.2.2.2.2.2.2.2.2.2.2.1, o17.2.2.2.2.2.2.2.2.2.2.2.2.2.2)).bind fun o19 => bif (!o19.1) then (some (o19.1, o19.2.1, o19.2.2.1, o19.2.2.2.1, o3.2.2.2.1, o5.2.2.2.1, o7.2.2.2.1, o9.2.2.2.1, o11.2.2.2.1, o12.1, o14.2.2.2.1, o16.2.2.2.1, o18.2.2.2.1, a10, o19.2.2.2.2.1, o19.2.2.2.2.2.1, o19.2.2.2.2.2.2.1, o19.2.2.2.2.2.2.2.1, o19.2.2.2.2.2.2.2.2.1, o19.2.2.2.2.2.2.2.2.2.1, o19.2.2.2.2.2.2.2.2.2.2.1, o19.2.2.2.2.2.2.2.2.2.2.2.1, o19.2.2.2.2.2.2.2.2.2.2.2.2.1, o19.2.2.2.2.2.2.2.2.2.2.2.2.2.1, o19.2.2.2.2.2.2.2.2.2.2.2.2.2.2, o12.2.2)) else (((Bg k) (a10, o19.2.2.2.1)).bind fun o20 => bif (!o20.1) then (some (o20.1, o20.2.1, o20.2.2.1, o20.2.2.2.2, o3.2.2.2.1, o5.2.2.2.1, o7.2.2.2.1, o9.2.2.2.1, o11.2.2.2.1, o12.1, o14.2.2.2.1, o16.2.2.2.1, o18.2.2.2.1, o20.2.2.2.1, o19.2.2.2.2.1, o19.2.2.2.2.2.1, o19.2.2.2.2.2.2.1, o19.2.2.2.2.2.2.2.1, o19.2.2.2.2.2.2.2.2.1, o19.2.2.2.2.2.2.2.2.2.1, o19.2.2.2.2.2.2.2.2.2.2.1, o19.2.2.2.2.2.2.2.2.2.2.2.1, o19.2.2.2.2.2.2.2.2.2.2.2.2.1, o19.2.2.2.2.2.2.2.2.2.2.2.2.2.1, o19.2.2.2.2.2.2.2.2.2.2.2.2.2.2, o12.2.2)) else (some (true, (0 : Int), (0 : Int), o20.2.2.2.2, o3.2.2.2.1, o5.2.2.2.1, o7.2.2.2.1, o9.2.2.2.1, o11.2.2.2.1, o12.1, o14.2.2.2.1, o16.2.2.2.1, o18.2.2.2.1, o20.2.2.2.1, o19.2.2.2.2.1, o19.2.2.2.2.2.1, o19.2.2.2.2.2.2.1, o19.2.2.2.2.2.2.2.1, o19.2.2.2.2.2.2.2.2.1, o19.2.2.2.2.2.2.2.2.2.1, o19.2.2.2.2.2.2.2.2.2.2.1, o19.2.2.2.2.2.2.2.2.2.2.2.1, o19.2.2.2.2.2.2.2.2.2.2.2.2.1, o19.2.2.2.2.2.2.2.2.2.2.2.2.2.1, o19.2.2.2.2.2.2.2.2.2.2.2.2.2.2, o12.2.2)))))))))))))))))))
theorem A91 (k : Nat) (x : H34) : Tq k x = Aic k x := (Ad _ _).trans (by kernel_rfl)
theorem A3a (k : Nat) : Aa Tryz.prog 32 (Ayc k) := Af (Aib k) (k + 32) rfl ⟨⟨A5w k, trivial⟩, ⟨A33 k, trivial⟩, ⟨Ee k, trivial⟩, ⟨A5j k, A5k k, A5n k, A44 k, A45 k, A46 k, A47 k, trivial⟩, ⟨A3k k, trivial⟩, ⟨Aed k, trivial⟩, trivial⟩ Ae Tryz.func32 (by kernel_rfl)
abbrev H36 : Type := (List Int) × (Int) × (Int) × (Int) × (Int) × (Int) × (Int) × (Int) × (Int) × (Int) × (Int) × (Bool) × (Int) × (Int) × (List (YT8))
def fpheadi : Sk := ⟨[.lf (.ptr 0 0)], [[.pv (.slice yt8)]], []⟩
def fpheado : Sk := ⟨[.agg [.pv .str, .pv (.int .i64), .pv (.int .i64), .pv (.int .i64), .pv (.int .i64), .pv (.int .i64), .pv (.int .i64), .pv (.int .i64), .pv (.int .i64), .pv (.int .i64), .pv (.int .i64)], .lf (.erp 68 [(.int .i64), (.int .i64)])], fpheadi.boxes, []⟩
def fpheadE (k : Nat) : EnvL := [(59, [A0f k]), (60, [Ayn k]), (33, [D5 k]), (34, [Azp k, Azq k, Azr k, Azs k, Azt k, Azb k, Azc k]), (35, [Ayh k]), (38, [Ayk k]), (32, [Ayc k])]
def Ajm (k : Nat) : Cfg := mkC (fpheadE k) 154 1 0
def cphead (k : Nat) : (List (YT8)) → Option H36 := hid (Ab (Ajm k) k Tryz.f62 fpheadi fpheado)
def sgphead (k : Nat) : Sig := Ac fpheadi fpheado (cphead k)
noncomputable def Ajn (k : Nat) : (List (YT8)) → Option H36
 | a0 => ((Uu k) (a0, ([] : List Int), (0 : Int), (0 : Int), (0 : Int), (0 : Int), (0 : Int), (0 : Int), (0 : Int), (0 : Int), (0 : Int), (0 : Int))).bind fun o1 => ((Tz k) (o1.1, o1.2.1, o1.2.2.1, o1.2.2.2.1, o1.2.2.2.2.1, o1.2.2.2.2.2.1, o1.2.2.2.2.2.2.1, o1.2.2.2.2.2.2.2.1, o1.2.2.2.2.2.2.2.2.1, o1.2.2.2.2.2.2.2.2.2.1, o1.2.2.2.2.2.2.2.2.2.2.1, o1.2.2.2.2.2.2.2.2.2.2.2)).bind fun o2 => ((Bk k) (([118, 111, 108, 117, 109, 101] : List Int), o2.1)).bind fun o3 => ((Up k) (o3.1, o2.2.1, o2.2.2.1, o2.2.2.2.1, o2.2.2.2.2.1, o2.2.2.2.2.2.1, o2.2.2.2.2.2.2.1, o2.2.2.2.2.2.2.2.1, o2.2.2.2.2.2.2.2.2.1, o2.2.2.2.2.2.2.2.2.2.1, o2.2.2.2.2.2.2.2.2.2.2.1, o2.2.2.2.2.2.2.2.2.2.2.2)).bind fun o4 => ((Bk k) (([102, 108, 111, 119] : List Int), o4.1)).bind fun o5 => ((Uq k) (o5.1, o4.2.1, o4.2.2.1, o4.2.2.2.1, o4.2.2.2.2.1, o4.2.2.2.2.2.1, o4.2.2.2.2.2.2.1, o4.2.2.2.2.2.2.2.1, o4.2.2.2.2.2.2.2.2.1, o4.2.2.2.2.2.2.2.2.2.1, o4.2.2.2.2.2.2.2.2.2.2.1, o4.2.2.2.2.2.2.2.2.2.2.2)).bind fun o6 => ((Bk k) (([117, 115, 101] : List Int), o6.1)).bind fun o7 => ((Tv k) (o7.1, o6.2.1, o6.2.2.1, o6.2.2.2.1, o6.2.2.2.2.1, o6.2.2.2.2.2.1, o6.2.2.2.2.2.2.1, o6.2.2.2.2.2.2.2.1, o6.2.2.2.2.2.2.2.2.1, o6.2.2.2.2.2.2.2.2.2.1, o6.2.2.2.2.2.2.2.2.2.2.1, o6.2.2.2.2.2.2.2.2.2.2.2)).bind fun o8 => ((Bk k) (([115, 112, 101, 101, 100] : List Int), o8.1)).bind fun o9 => ((Ur k) (o9.1, o8.2.1, o8.2.2.1, o8.2.2.2.1, o8.2.2.2.2.1, o8.2.2.2.2.2.1, o8.2.2.2.2.2.2.1, o8.2.2.2.2.2.2.2.1, o8.2.2.2.2.2.2.2.2.1, o8.2.2.2.2.2.2.2.2.2.1, o8.2.2.2.2.2.2.2.2.2.2.1, o8.2.2.2.2.2.2.2.2.2.2.2)).bind fun o10 => ((Bk k) (([103, 114, 97, 100, 101] : List Int), o10.1)).bind fun o11 => ((Tw k) (([45] : List Int), o11.1, false)).bind fun o12 => ((Us k) (o12.1, o10.2.1, o10.2.2.1, o10.2.2.2.1, o10.2.2.2.2.1, o10.2.2.2.2.2.1, o10.2.2.2.2.2.2.1, o10.2.2.2.2.2.2.2.1, o10.2.2.2.2.2.2.2.2.1, o10.2.2.2.2.2.2.2.2.2.1, o10.2.2.2.2.2.2.2.2.2.2.1, o10.2.2.2.2.2.2.2.2.2.2.2)).bind fun o13 => ((Bk k) (([119, 105, 100, 116, 104] : List Int), o13.1)).bind fun o14 => ((Ut k) (o14.1, o13.2.1, o13.2.2.1, o13.2.2.2.1, o13.2.2.2.2.1, o13.2.2.2.2.2.1, o13.2.2.2.2.2.2.1, o13.2.2.2.2.2.2.2.1, o13.2.2.2.2.2.2.2.2.1, o13.2.2.2.2.2.2.2.2.2.1, o13.2.2.2.2.2.2.2.2.2.2.1, o13.2.2.2.2.2.2.2.2.2.2.2)).bind fun o15 => ((Bk k) (([108, 101, 110, 103, 116, 104] : List Int), o15.1)).bind fun o16 => ((Ub k) (o16.1, o15.2.1, o15.2.2.1, o15.2.2.2.1, o15.2.2.2.2.1, o15.2.2.2.2.2.1, o15.2.2.2.2.2.2.1, o15.2.2.2.2.2.2.2.1, o15.2.2.2.2.2.2.2.2.1, o15.2.2.2.2.2.2.2.2.2.1, o15.2.2.2.2.2.2.2.2.2.2.1, o15.2.2.2.2.2.2.2.2.2.2.2)).bind fun o17 => ((Bk k) (([103, 114, 101, 101, 110] : List Int), o17.1)).bind fun o18 => ((Uc k) (o18.1, o17.2.1, o17.2.2.1, o17.2.2.2.1, o17.2.2.2.2.1, o17.2.2.2.2.2.1, o17.2.2.2.2.2.2.1, o17.2.2.2.2.2.2.2.1, o17.2.2.2.2.2.2.2.2.1, o17.2.2.2.2.2.2.2.2.2.1, o17.2.2.2.2.2.2.2.2.2.2.1, o17.2.2.2.2.2.2.2.2.2.2.2)).bind fun o19 => ((Bk k) (([59] : List Int), o19.1)).bind fun o20 => ((Tq k) (o20.1, o3.2, o5.2, o7.2, o9.2, o11.2, o12.2.2, o14.2, o16.2, o18.2, o20.2, o19.2.1, o19.2.2.1, o19.2.2.2.1, o19.2.2.2.2.1, o19.2.2.2.2.2.1, o19.2.2.2.2.2.2.1, o19.2.2.2.2.2.2.2.1, o19.2.2.2.2.2.2.2.2.1, o19.2.2.2.2.2.2.2.2.2.1, o19.2.2.2.2.2.2.2.2.2.2.1, o19.2.2.2.2.2.2.2.2.2.2.2, o12.2.1)).bind fun o21 => bif o21.2.2.2.2.2.2.2.2.2.2.2.2.2.2.2.2.2.2.2.2.2.2.2.2.2 then (some (o21.2.2.2.2.2.2.2.2.2.2.2.2.2.2.1, o21.2.2.2.2.2.2.2.2.2.2.2.2.2.2.2.1, o21.2.2.2.2.2.2.2.2.2.2.2.2.2.2.2.2.1, o21.2.2.2.2.2.2.2.2.2.2.2.2.2.2.2.2.2.1, o21.2.2.2.2.2.2.2.2.2.2.2.2.2.2.2.2.2.2.1, o21.2.2.2.2.2.2.2.2.2.2.2.2.2.2.2.2.2.2.2.1, (negI .i64 o21.2.2.2.2.2.2.2.2.2.2.2.2.2.2.2.2.2.2.2.2.1), o21.2.2.2.2.2.2.2.2.2.2.2.2.2.2.2.2.2.2.2.2.2.1, o21.2.2.2.2.2.2.2.2.2.2.2.2.2.2.2.2.2.2.2.2.2.2.1, o21.2.2.2.2.2.2.2.2.2.2.2.2.2.2.2.2.2.2.2.2.2.2.2.1, o21.2.2.2.2.2.2.2.2.2.2.2.2.2.2.2.2.2.2.2.2.2.2.2.2.1, o21.1, o21.2.1, o21.2.2.1, o21.2.2.2.1)) else (some (o21.2.2.2.2.2.2.2.2.2.2.2.2.2.2.1, o21.2.2.2.2.2.2.2.2.2.2.2.2.2.2.2.1, o21.2.2.2.2.2.2.2.2.2.2.2.2.2.2.2.2.1, o21.2.2.2.2.2.2.2.2.2.2.2.2.2.2.2.2.2.1, o21.2.2.2.2.2.2.2.2.2.2.2.2.2.2.2.2.2.2.1, o21.2.2.2.2.2.2.2.2.2.2.2.2.2.2.2.2.2.2.2.1, o21.2.2.2.2.2.2.2.2.2.2.2.2.2.2.2.2.2.2.2.2.1, o21.2.2.2.2.2.2.2.2.2.2.2.2.2.2.2.2.2.2.2.2.2.1, o21.2.2.2.2.2.2.2.2.2.2.2.2.2.2.2.2.2.2.2.2.2.2.1, o21.2.2.2.2.2.2.2.2.2.2.2.2.2.2.2.2.2.2.2.2.2.2.2.1, o21.2.2.2.2.2.2.2.2.2.2.2.2.2.2.2.2.2.2.2.2.2.2.2.2.1, o21.1, o21.2.1, o21.2.2.1, o21.2.2.2.1))
theorem Bam (k : Nat) (x : (List (YT8))) : cphead k x = Ajn k x := (Ad _ _).trans (by kernel_rfl)
theorem A3o (k : Nat) : Aa Tryz.prog 62 (sgphead k) := Af (Ajm k) k rfl ⟨⟨A5r k, trivial⟩, ⟨A3u k, trivial⟩, ⟨Ed k, trivial⟩, ⟨A4z k, A40 k, A41 k, A42 k, A43 k, A4k k, A4l k, trivial⟩, ⟨A3j k, trivial⟩, ⟨A3p k, trivial⟩, ⟨A3a k, trivial⟩, trivial⟩ Ae Tryz.func62 (by kernel_rfl)
abbrev H37 : Type := (List Int) × (Int) × (List (YT8)) × (List Int) × (Int) × (List (YT1))
abbrev H38 : Type := (Bool) × (Int) × (Int) × (List Int) × (Int) × (List (YT8)) × (List Int) × (Int) × (List (YT1))
def W0 : Sk := ⟨[.lf (.ptr 0 0), .lf (.ptr 1 0), .lf (.ptr 2 0), .lf (.ptr 3 0), .lf (.ptr 4 0)], [[.ptr 5 0], [.pv .str], [.ptr 6 1], [.pv (.int .i64)], [.fn 62 [(5, 0)] []], [.pv (.slice yt8)], q4], []⟩
def W1 : Sk := ⟨[.lf (.erp 68 [(.int .i64), (.int .i64)])], [[.ptr 5 0], [.pv .str], [.ptr 6 1], [.pv (.int .i64)], [.fn 62 [(5, 0)] []], [.pv (.slice yt8)], q10], [some (60, yt1)]⟩
def Ags : Sk := ⟨sparse 37 [(0, .lf (.ptr 0 0)), (1, .lf (.ptr 1 0)), (2, .lf (.ptr 2 0)), (3, .lf (.ptr 3 0)), (4, .lf (.ptr 4 0))], [[.ptr 5 0], [.pv .str], [.ptr 6 1], [.pv (.int .i64)], [.fn 62 [(5, 0)] []], [.pv (.slice yt8)], q10], [some (60, yt1)]⟩
abbrev Wx := H37
def Mj : Wx → St := stOf Ags 85
def A83 (k : Nat) : EnvL := [(53, [Dk k]), (54, [A7 k]), (55, [A8 k]), (62, [sgphead k])]
def Fe (k : Nat) : FnX H38 := mkX ({ mkC (A83 k) 85 7 0 with hint := fun i => look none [(1, some Ags)] i, ld := [(29, 2), (30, 2), (31, 9999), (32, 6), (33, 54), (36, 9999)], sr := [(36, 6)] }) k Tryz.f85 W1
def Oi (k : Nat) : H25 → Option H38 := hid (Ab (Fe k).C k Tryz.f85 W0 W1)
def Axu (k : Nat) : Sig := Ac W0 W1 (Oi k)
noncomputable def Wz (k : Nat) (J : JF H38) (L : LF H38) : H25 → Option H38
 | (a0, a1, a2, a3, a4) => L 1 [] k (Mj (a0, a1, a2, a3, a4, []))
theorem A84 (k : Nat) (x : H25) : Oi k x = Wz k (Fe k).J (Fe k).L x := by
 refine (Ad _ _).trans ?_; apply cutX (Fe k) [] [] (st0 (Fe k).C Tryz.f85 W0 x) [] [(1, [], k)] (Wz k · · x) <;> intros <;> kernel_rfl
noncomputable def Mk (k j1 : Nat) (J : JF H38) (L : LF H38) : Wx → Option H38
 | (a0, a1, a2, a3, a4, a5) => ((C0 k) (a0, a2)).bind fun o1 => bif o1.1 then (bif (((List.length a5 : Nat) : Int) == a1) then (((A4 k) ((4 : Int), o1.2)).bind fun o2 => some (o2.1, o2.2.1, o2.2.2.1, a0, a1, o2.2.2.2, a3, a4, a5)) else (((A2 k) (o1.2)).bind fun o3 => ((cphead k) (o3.2.2.2.2)).bind fun o4 => bif (!o4.2.2.2.2.2.2.2.2.2.2.2.1) then (some (o4.2.2.2.2.2.2.2.2.2.2.2.1, o4.2.2.2.2.2.2.2.2.2.2.2.2.1, o4.2.2.2.2.2.2.2.2.2.2.2.2.2.1, a0, a1, o4.2.2.2.2.2.2.2.2.2.2.2.2.2.2, a3, a4, a5)) else (app 96 a5 ([(o4.1, (o4.2.1, (o4.2.2.1, ((o4.2.2.2.1, (o4.2.2.2.2.1, ())), (o4.2.2.2.2.2.1, (o4.2.2.2.2.2.2.1, (o4.2.2.2.2.2.2.2.1, (o4.2.2.2.2.2.2.2.2.1, (o4.2.2.2.2.2.2.2.2.2.1, (o4.2.2.2.2.2.2.2.2.2.2.1, ()))))))))))] : List (YT1)) fun o5 => L 1 [] j1 (Mj (a0, a1, o4.2.2.2.2.2.2.2.2.2.2.2.2.2.2, a3, a4, o5))))) else (some (true, (0 : Int), (0 : Int), a0, a1, o1.2, a3, a4, a5))
theorem Wy (k j1 : Nat) (x : Wx) : (Fe k).L 1 [] (j1 + 1) (Mj x) = Mk k j1 (Fe k).J (Fe k).L x := by
 apply cutX (Fe k) [.r, .l, .b, .b] [j1] (Mj x) [] [(1, [], j1)] (Mk k j1 · · x) <;> intros <;> kernel_rfl
theorem A2q (k : Nat) : Aa Tryz.prog 85 (Axu k) := Af (Fe k).C k rfl ⟨⟨Do k, trivial⟩, ⟨A9 k, trivial⟩, ⟨Ba k, trivial⟩, ⟨A3o k, trivial⟩, trivial⟩ Ae Tryz.func85 (by kernel_rfl)
abbrev H39 : Type := (List (YT8)) × (List Int) × (List Int) × (Int) × (Int) × (Int) × (Int)
def Aq3 : Sk := ⟨[.lf (.ptr 0 0), .lf (.ptr 1 5)], [[.pv (.slice yt8)], q11], []⟩
def Aq4 : Sk := ⟨[.lf (.fn 82 [] [(2, 0), (3, 0)])], [[.pv (.slice yt8)], q11, [.ptr 0 0], [.ptr 1 5]], []⟩
def Aq1 (k : Nat) : Cfg := mkC [] 54 2 0
def Uv (k : Nat) : H39 → Option H39 := hid (Ab (Aq1 k) k Tryz.f59 Aq3 Aq4)
def A0g (k : Nat) : Sig := Ac Aq3 Aq4 (Uv k)
noncomputable def Aq2 (k : Nat) : H39 → Option H39
 | (a0, a1, a2, a3, a4, a5, a6) => some (a0, a1, a2, a3, a4, a5, a6)
theorem Bdu (k : Nat) (x : H39) : Uv k x = Aq2 k x := (Ad _ _).trans (by kernel_rfl)
theorem A5s (k : Nat) : Aa Tryz.prog 59 (A0g k) := Af (Aq1 k) (l := []) k rfl trivial Ae Tryz.func59 (by kernel_rfl)
end
end Go.Proofs.YtipcdjgcomclkaaGreatDoorV
