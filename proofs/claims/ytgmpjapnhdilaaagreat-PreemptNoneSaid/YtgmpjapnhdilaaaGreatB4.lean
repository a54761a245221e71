import Derived.Test.YtgmpjapnhdilaaaGreatB3
import Derived.OpenShut
import Derived.Defers
import Derived.Recover
/-! Joined, names shortened: V29, V30, V35, VL, V31, V36. -/
set_option linter.unusedVariables false
set_option linter.unusedSimpArgs false
namespace Go.Proofs.YtgmpjapnhdilaaaGreatV
open Go Go.RowKit
section
variable {P : Program} {F : Nat → Prop} {s s' : St} {G : Gm} {W w w' : World} {vals : List Value}
theorem cell_at {a : Addr} {v : Value} (h : W.cell? a = some v) : a.spot = none ∧ a.block < W.heap.size := by
 unfold World.cell? at h
 split at h
 ·rename_i hb
  refine ⟨?_, (Array.getElem?_eq_some_iff.1 hb).1⟩
  split at h
  ·cases h
  ·rename_i hz; simpa using hz
 ·cases h
def Lp : Sk := ⟨[.lf (.pv .bool)], [], []⟩
theorem Bi9 {g : Nat} {kin : Sk} {f : HLs kin.tys → Option Bool} (h : Af P g ⟨kin, Lp, Ck kin.tys Lp.tys f⟩) (h1 : kin.boxes = []) (h2 : kin.owns = []) {x : HLs kin.tys} (hx : f x = some true) (hg : ∀ x ∈ gTab, ∃ et fr, W.heap[x.1]? = some (.cells x.2 et fr))
  (hv : ∀ (G : Gm) (s : St), s.boxes = [] → s.owns = [] → All2 (HA (HR (fun _ => False) s G W)) (B3 kin.slots (toPL kin.tys x)) vals) :
  Calls P g vals.toArray W fun e W' => e = .returned (.bool true) ∧ Below W.heap.size W W' := by
 have z1 : szS kin = 0 := by simp [szS, h1, h2]
 have hrun : (Ck kin.tys Lp.tys f).run (List PL) (toPL kin.tys x) some = some [⟨.bool, true⟩] := by
  simp only [Ck]
  rw [A4z]
  simp only [hx]
  rfl
 have hH : Holds (fun _ => False) (enc kin 0 (toPL kin.tys x)) ⟨fun _ => 0, fun _ => .slice none 0 0, fun _ => 0, []⟩ vals W :=
  Bhv (Aco h1) (Acq h2) (fun k hk => hk.elim) (by simpa using hg) (hv _ _ (Aco h1) (Acq h2))
 have hc := h.2 _ _ hrun (fun _ => False) ⟨fun _ => 0, fun _ => .slice none 0 0, fun _ => 0, []⟩ vals W (by simp only [z1]; exact hH)
 refine hc.mono fun e W' he => ?_
 obtain ⟨G', rv, e1, e2, e3⟩ := he
 refine ⟨?_, e3.keeps.os, e3.keeps.tape, e3.keeps.output, e3.keeps.size, fun k hk => e3.keeps.block k hk ?_⟩
 ·have hs := e2.slots
  have hs2 : All2 (HA (HR (fun _ => False) (enc Lp (szS Lp) [⟨.bool, true⟩]) G' W')) [lf (.pv ⟨.bool, true⟩)] rv := hs
  cases hs2 with
  | cons a b =>
   cases b
   have := ha_bool a
   subst this
   exact e1
 ·simp only [z1]
  exact K5 (Aco h1) (Acq h2)
end
section
def lieF (P : Program) (c : Nat → Ty → Bool) : List Field → Nat → Ty → Nat → Bool
 | [], o, .nil, n => o == n
 | f :: r, o, .cons a b, n => f.offset == o && (P.cellsOf f.type == a.size && (c f.type a && lieF P c r (o + a.size) b n))
 | _, _, _, _ => false
def lieE (P : Program) (c : Nat → Ty → Bool) (e : Nat) : Nat → Ty → Bool
 | 0, .nil => true
 | n + 1, .cons a b => P.cellsOf e == a.size && (c e a && lieE P c e n b)
 | _, _ => false
def lieT (P : Program) : Nat → Nat → Ty → Bool
 | 0, _, _ => false
 | n + 1, t, ty => match P.underlying t, ty with
  | some (.int k), .int k' => decide (k = k')
  | some .bool, .bool => true
  | some .string, .str => true
  | some (.slice e), .slice a => P.cellsOf e == a.size && (decide (0 < a.size) && lieT P n e a)
  | some (.struct fs), ty => lieF P (lieT P n) fs.toList 0 ty (P.cellsOf t)
  | some (.array m e), ty => P.cellsOf t == m * P.cellsOf e && lieE P (lieT P n) e m ty
  | _, _ => false
variable {H : Type} {enc : TypeId × Value → H} {P : Program} {W : World} {base : Nat} {spare : Nat → Bool} {held : Bool}
theorem Baj {base : Nat} {a : Addr} {n : Nat} {cs : List Value} (h : W.cells? base a n = some cs) : Cells W a cs := by
 obtain ⟨_, h1, h2⟩ := World.cells?_some h
 intro j v hv
 have hj : j < cs.length := (List.getElem?_eq_some_iff.1 hv).1
 rw [h2 j (by omega), hv]
theorem A5n {α β : Type} {R : α → β → Prop} : ∀ (l : List β), (∀ b ∈ l, ∃ a, R a b) → ∃ xs : List α, xs.length = l.length ∧ ∀ (i : Nat) (x : α) (b : β), xs[i]? = some x → l[i]? = some b → R x b
 | [], _ => ⟨[], rfl, fun i x b h => by simp at h⟩
 | b :: l, h => by
  obtain ⟨a, ha⟩ := h b (by simp)
  obtain ⟨xs, h1, h2⟩ := A5n l fun c hc => h c (by simp [hc])
  refine ⟨a :: xs, by simp [h1], fun i x c hx hc => ?_⟩
  cases i with
  | zero => simp at hx hc; subst hx; subst hc; exact ha
  | succ i => simp at hx hc; exact h2 i x c hx hc
theorem Ao1 {ok : Nat → Prop} (hok : ∀ b, b < W.heap.size → ok b) : ∀ (n : Nat) (t : Nat) (ty : Ty), lieT P n t ty = true → ∀ (fuel : Nat) (cs : List Value) (x : DataW H × List MemPlace),
  DataW.trod enc P W base spare held fuel t cs = some x → ∃ z : ty.den, Rep W ok ty z cs := by
 intro n
 induction n with
 | zero => intro t ty h; cases h
 | succ n ih =>
  intro t ty hc fuel cs x h
  unfold lieT at hc
  split at hc
  ·rename_i k k' hu
   simp only [decide_eq_true_eq] at hc
   subst hc
   obtain ⟨m, rfl, _, hw⟩ := DataW.trod_int hu h
   refine ⟨m, ?_⟩
   show [Value.int k m] = [Value.int k m] ∧ _
   exact ⟨rfl, hw⟩
  ·rename_i hu
   obtain ⟨b, rfl, _⟩ := DataW.trod_bool hu h
   refine ⟨b, ?_⟩
   show [Value.bool b] = [Value.bool b]
   rfl
  ·rename_i hu
   have h3 := DataW.trod_string hu h
   obtain ⟨s, rfl, _, hs⟩ := h3
   refine ⟨bs s, ?_⟩
   show ∃ y : ByteArray, [Value.string s] = [Value.string y] ∧ bs y = bs s ∧ y.size ≤ maxLen
   exact ⟨s, rfl, rfl, hs⟩
  ·rename_i e a hu
   simp only [Bool.and_eq_true, beq_iff_eq, decide_eq_true_eq] at hc
   obtain ⟨hsz, hpos, hch⟩ := hc
   rcases DataW.trod_slice hu h with ⟨rfl, _⟩ | ⟨A, len, cap, elems, rest, m, _, rfl, _, hb, hl, hm, hlen, hel, _, _⟩
   ·refine ⟨([] : List a.den), ?_⟩
    show Da (α := a.den) W ok (fun x es => Rep W ok a x es) a.size [] _
    exact ⟨none, 0, rfl, Nat.le_refl _, Nat.zero_le _, fun e => absurd rfl e⟩
   ·have each : ∀ i ∈ List.range len, ∃ z : a.den, ∃ es, Rep W ok a z es ∧ Cells W (A.add (i * a.size)) es := by
     intro i hi
     rw [List.mem_range] at hi
     have h1 := hel i hi
     rw [List.getElem?_eq_getElem (by omega), Option.bind_eq_some_iff] at h1
     obtain ⟨es, h2, h3⟩ := h1
     obtain ⟨z, hz⟩ := ih e a hch _ _ _ h3
     rw [hsz] at h2
     exact ⟨z, es, hz, Baj h2⟩
    obtain ⟨xs, hx1, hx2⟩ := A5n (R := fun (z : a.den) (i : Nat) => ∃ es, Rep W ok a z es ∧ Cells W (A.add (i * a.size)) es) (List.range len) each
    rw [List.length_range] at hx1
    refine ⟨xs, ?_⟩
    show Da (α := a.den) W ok (fun x es => Rep W ok a x es) a.size xs _
    refine ⟨some A, cap, by rw [← hx1], by omega, hm, fun hne => ?_⟩
    have h0 : 0 < len := by
     rcases Nat.eq_zero_or_pos len with e | e
     ·rw [e] at hx1; exact absurd (List.length_eq_zero_iff.1 hx1) hne
     ·exact e
    have hc0 := hx2 0 _ 0 (List.getElem?_eq_getElem (by omega)) (by simp [List.getElem?_range, h0])
    obtain ⟨es, hr, hcl⟩ := hc0
    have hlen0 := hr.len
    have hcell := hcl 0 es[0] (by simp)
    have hA : A.add (0 * a.size) = A := by simp [Addr.add]
    rw [hA] at hcell
    have hA0 : A.add 0 = A := by simp [Addr.add]
    rw [hA0] at hcell
    obtain ⟨c1, c2⟩ := cell_at hcell
    refine ⟨A, rfl, c1, hok _ c2, fun i z hz => ?_⟩
    have hi : i < len := by
     have := (List.getElem?_eq_some_iff.1 hz).1
     omega
    exact hx2 i z i hz (by simp [List.getElem?_range, hi])
  ·rename_i fs hu
   obtain ⟨xs, m, rfl, _, hcl, hxl, hfs⟩ := DataW.trod_struct hu h
   rw [← hcl] at hc
   have key : ∀ (l : List Field) (o : Nat) (ty : Ty), (∀ f ∈ l, ∃ y, DataW.trod enc P W base spare held m f.type ((cs.drop f.offset).take (P.cellsOf f.type)) = some y) →
     lieF P (lieT P n) l o ty cs.length = true → o ≤ cs.length → ∃ z : ty.den, Rep W ok ty z (cs.drop o) := by
    intro l
    induction l with
    | nil =>
     intro o ty _ hk ho
     cases ty with
     | nil =>
      simp only [lieF, beq_iff_eq] at hk
      refine ⟨(), ?_⟩
      show cs.drop o = []
      exact List.drop_eq_nil_of_le (by omega)
     | _ => simp [lieF] at hk
    | cons f l ihl =>
     intro o ty hf hk ho
     cases ty with
     | cons a b =>
      simp only [lieF, Bool.and_eq_true, beq_iff_eq] at hk
      obtain ⟨k1, k2, k3, k4⟩ := hk
      obtain ⟨y, hy⟩ := hf f (by simp)
      obtain ⟨z, hz⟩ := ih _ _ k3 _ _ _ hy
      rw [k1, k2] at hz
      have hzl := hz.len
      rw [List.length_take, List.length_drop] at hzl
      obtain ⟨z2, hz2⟩ := ihl (o + a.size) b (fun g hg => hf g (by simp [hg])) k4 (by
       by_cases h0 : a.size = 0
       ·omega
       ·omega)
      refine ⟨(z, z2), ?_⟩
      show ∃ c0 c1, cs.drop o = c0 ++ c1 ∧ Rep W ok a z c0 ∧ Rep W ok b z2 c1
      refine ⟨_, _, ?_, hz, hz2⟩
      rw [← List.drop_drop, List.take_append_drop]
     | _ => simp [lieF] at hk
   have := key fs.toList 0 _ (fun f hf => by
    obtain ⟨i, hi⟩ := List.getElem?_of_mem hf
    rw [Array.getElem?_toList] at hi
    have h2 := hfs i f hi
    have hlt : i < xs.length := by
     rw [hxl]
     exact (Array.getElem?_eq_some_iff.1 hi).1
    rw [List.getElem?_eq_getElem hlt] at h2
    exact ⟨_, h2⟩) hc (Nat.zero_le _)
   rwa [List.drop_zero] at this
  ·rename_i q e hu
   simp only [Bool.and_eq_true, beq_iff_eq] at hc
   obtain ⟨xs, m, rfl, _, hcl, hxl, hfs⟩ := DataW.trod_array hu h
   have key : ∀ (j : Nat) (o : Nat) (ty : Ty), o + j = q → lieE P (lieT P n) e j ty = true → ∃ z : ty.den, Rep W ok ty z (cs.drop (o * P.cellsOf e)) := by
    intro j
    induction j with
    | zero =>
     intro o ty hq hk
     cases ty with
     | nil =>
      refine ⟨(), ?_⟩
      show cs.drop (o * P.cellsOf e) = []
      refine List.drop_eq_nil_of_le ?_
      rw [hcl, hc.1, ← hq]
      exact Nat.le_refl _
     | _ => simp [lieE] at hk
    | succ j ihj =>
     intro o ty hq hk
     cases ty with
     | cons a b =>
      simp only [lieE, Bool.and_eq_true, beq_iff_eq] at hk
      obtain ⟨k2, k3, k4⟩ := hk
      have h2 := hfs o (by omega)
      rw [List.getElem?_eq_getElem (by omega)] at h2
      obtain ⟨z, hz⟩ := ih _ _ k3 _ _ _ h2
      obtain ⟨z2, hz2⟩ := ihj (o + 1) b (by omega) k4
      refine ⟨(z, z2), ?_⟩
      show ∃ c0 c1, cs.drop (o * P.cellsOf e) = c0 ++ c1 ∧ Rep W ok a z c0 ∧ Rep W ok b z2 c1
      refine ⟨_, _, ?_, hz, hz2⟩
      rw [Nat.add_mul, Nat.one_mul, ← List.drop_drop, List.take_append_drop]
     | _ => simp [lieE] at hk
   have := key q 0 _ (by omega) hc.2
   rwa [Nat.zero_mul, List.drop_zero] at this
  ·cases hc
theorem A32 {F : Nat → Prop} {s : St} {G : Gm} {t : Ty} {z : t.den} {cs : Array Value} (h : Rep W (okS F s G W) t z cs.toList) : HA (HR F s G W) (.cv (.agg ((flat t z).map .pv))) (.agg cs) := by
 have h2 := K7 h
 refine ⟨cs, rfl, ?_⟩
 exact All2.map_left h2
theorem A40 {r : Reach} {b : Nat} {t : Nat} {v : Value} (ht : (match P.underlying t with | some (.struct _) => true | some (.array _ _) => true | _ => false) = true) (h : Value.okWide P W r b t v) : ∃ cs : Array Value, v = .agg cs := by
 unfold Value.okWide at h
 split at ht
 ·rename_i hu
  rw [hu] at h
  obtain ⟨cs, rfl, _⟩ := h
  exact ⟨cs, rfl⟩
 ·rename_i hu
  rw [hu] at h
  obtain ⟨cs, rfl, _⟩ := h
  exact ⟨cs, rfl⟩
 ·cases ht
theorem Bht {F : Nat → Prop} {s : St} {G : Gm} {p : PL} {v : Value} (h : Rep W (okS F s G W) p.t p.x [v]) : HA (HR F s G W) (lf (.pv p)) v := h
end
section
variable {α R : Type}
def cat (x y : List Int) (K : List Int → Option R) : Option R := bif decide (List.length x + List.length y ≤ maxLen) then K (x ++ y) else none
def idx (d : α) (l : List α) (i : Int) (K : α → Option R) : Option R := bif inB i (List.length l) then K (rdA d l (Int.toNat i)) else none
def idxI (l : List Int) (i : Int) (K : Int → Option R) : Option R := bif inB i (List.length l) then K (rdI l (Int.toNat i)) else none
def cut (l : List α) (lo hi : Int) (K : List α → Option R) : Option R := bif cutB lo hi (List.length l) then K (cutL l lo hi) else none
def app (b : Nat) (x y : List α) (K : List α → Option R) : Option R := bif appB b (List.length x) (List.length y) then K (x ++ y) else none
end
def Hp (id : Nat) : Code → Option (List Step1)
 | .seq a b => if Dg b = some id then some [.r] else match Hp id a with
  | some p => some (.l :: p)
  | none => (Hp id b).map fun p => .r :: p
 | .cond _ x y => match Hp id x with
  | some p => some (.t :: p)
  | none => (Hp id y).map fun p => .e :: p
 | .block _ b => (Hp id b).map fun p => .b :: p
 | .loop b => (Hp id b).map fun p => .b :: p
 | _ => none
def Hq (id : Nat) : Code → Option (List Step1)
 | .seq a b => match Hq id a with
  | some p => some (.l :: p)
  | none => (Hq id b).map fun p => .r :: p
 | .cond _ x y => match Hq id x with
  | some p => some (.t :: p)
  | none => (Hq id y).map fun p => .e :: p
 | .block _ b => (Hq id b).map fun p => .b :: p
 | .loop b => if Dg (.loop b) = some id then some [] else (Hq id b).map fun p => .b :: p
 | _ => none
def stOf (k : Sk) (n : Nat) (x : HLs k.tys) : St := enc k n (toPL k.tys x)
def st0 (C : Cfg) (f : Func) (k : Sk) (x : HLs k.tys) : St := { enc k C.n (toPL _ x) with slots := B3 k.slots (toPL _ x) ++ List.replicate (f.ntmps - k.slots.length) .dead }
section
variable {R : Type}
def I0 (C : Cfg) (k : Nat) (B : Code) (K : XE → St → Option R) (id : Nat) (ks : List Nat) (s : St) : Option R := evAt C k B ((Hp id B).getD []) ks K s
def I3 (C : Cfg) (k : Nat) (B : Code) (K : XE → St → Option R) (id : Nat) (ks : List Nat) (j : Nat) (s : St) : Option R := loopAt C k B ((Hq id B).getD []) ks j K s
abbrev JF (R : Type) := Nat → List Nat → St → Option R
abbrev LF (R : Type) := Nat → List Nat → Nat → St → Option R
def jl (J : JF R) (js : List (Nat × List Nat)) : Jt R := js.map fun x => (x.1, fun s => J x.1 x.2 s)
def ll (L : LF R) (ls : List (Nat × List Nat × Nat)) : Jt R := ls.map fun x => (x.1, fun s => L x.1 x.2.1 x.2.2 s)
theorem cut_gen {C : Cfg} {k : Nat} {B : Code} {K : XE → St → Option R} {p : List Step1} {ks : List Nat} {s : St} (js : List (Nat × List Nat)) (ls : List (Nat × List Nat × Nat)) (t : JF R → LF R → Option R) {r : Option R}
  (h0 : r = evAt C k B p ks K s) (hw : Et B p ks = true) (hJ : keep (js.map fun x => x.1) (jt C k B p ks K) = jl (I0 C k B K) js) (hL : keep (ls.map fun x => x.1) (lt C k B p ks K) = ll (I3 C k B K) ls)
  (h1 : D6 (jl (I0 C k B K) js) = true) (h2 : D6 (ll (I3 C k B K) ls) = true) (h3 : Qo (ls.map fun x => x.1) (lt C k B p ks K) = true)
  (h4 : ∀ (J : JF R) (L : LF R), Rw C (jl J js) (ll L ls) B p K s = t J L) : r = t (I0 C k B K) (I3 C k B K) :=
 h0.trans ((Bc3 s _ _ hw hJ hL h1 h2 h3).trans (h4 _ _))
structure FnX (R : Type) where
 C : Cfg
 k : Nat
 B : Code
 K : XE → St → Option R
def FnX.J (D : FnX R) : JF R := I0 D.C D.k D.B D.K
def FnX.L (D : FnX R) : LF R := I3 D.C D.k D.B D.K
def mkX (C : Cfg) (k : Nat) (f : Func) (o : Sk) : FnX (HLs o.tys) := ⟨C, k, Au f, retK C f.results o⟩
def mkX2 (C : Cfg) (k : Nat) (f : Func) (o o2 : Sk) : FnX (HLs o.tys ⊕ HLs o2.tys) := ⟨C, k, Au f, retK2 C f.results o o2⟩
theorem cutX (D : FnX R) (p : List Step1) (ks : List Nat) (s : St) (js : List (Nat × List Nat)) (ls : List (Nat × List Nat × Nat)) (t : JF R → LF R → Option R) {r : Option R}
  (h0 : r = evAt D.C D.k D.B p ks D.K s) (hw : Et D.B p ks = true) (hJ : keep (js.map fun x => x.1) (jt D.C D.k D.B p ks D.K) = jl (I0 D.C D.k D.B D.K) js) (hL : keep (ls.map fun x => x.1) (lt D.C D.k D.B p ks D.K) = ll (I3 D.C D.k D.B D.K) ls)
  (h1 : D6 (jl (I0 D.C D.k D.B D.K) js) = true) (h2 : D6 (ll (I3 D.C D.k D.B D.K) ls) = true) (h3 : Qo (ls.map fun x => x.1) (lt D.C D.k D.B p ks D.K) = true)
  (h4 : ∀ (J : JF R) (L : LF R), Rw D.C (jl J js) (ll L ls) D.B p D.K s = t J L) : r = t D.J D.L :=
 cut_gen js ls t h0 hw hJ hL h1 h2 h3 h4
end
abbrev EnvL := List (Nat × List Sig)
def Ab (i o : Sk) (f : HLs i.tys → Option (HLs o.tys)) : Sig := ⟨i, o, Ck i.tys o.tys f⟩
def okB (C : Cfg) (fn : Func) (kin : Sk) : Bool := !(fn.name == "runtime.NumGoroutine") && (fn.body.isSome && (decide (C.npB = kin.boxes.length) && (decide (C.npO = kin.owns.length) && (decide (C.npB ≤ N0) && decide (C.npO ≤ N0)))))
noncomputable def hid {α : Type} (x : α) : α := Classical.choose (⟨x, rfl⟩ : ∃ y, y = x)
theorem V6 {α : Type} (x : α) : hid x = x := Classical.choose_spec (⟨x, rfl⟩ : ∃ y, y = x)
theorem Aj {α β : Type} (f : α → β) (x : α) : hid f x = f x := by rw [V6]
theorem Ah (C : Cfg) {l : EnvL} {kin kout : Sk} (k : Nat) (he : C.env = Dn l) (hl : Hw C.P l) (hm : C.P.follows .mixedOrders = true) {g : Nat} {fn : Func} (hf : C.P.funcs[g]? = some fn) (hb : okB C fn kin = true) :
  Af C.P g (Ab kin kout (hid (Ac C k fn kin kout))) := by
 rw [V6]
 unfold okB at hb
 simp only [Bool.and_eq_true, Bool.not_eq_true', decide_eq_true_eq] at hb
 obtain ⟨h1, h2, h3, h4, h5, h6⟩ := hb
 obtain ⟨c, hc⟩ := Option.isSome_iff_exists.1 h2
 exact fn_ok he hl hm k hf h1 (by unfold Au; rw [hc]) kin kout h3 h4 h5 h6
theorem sgOK2 (C : Cfg) {l : EnvL} {kin kout : Sk} (k : Nat) (k2 : Sk) (he : C.env = Dn l) (hl : Hw C.P l) (hm : C.P.follows .mixedOrders = true) {g : Nat} {fn : Func} (hf : C.P.funcs[g]? = some fn) (hb : okB C fn kin = true) :
  Af C.P g ⟨kin, kout, F4 kin.tys kout.tys k2 (hid (E2 C k fn kin kout k2))⟩ := by
 rw [V6]
 unfold okB at hb
 simp only [Bool.and_eq_true, Bool.not_eq_true', decide_eq_true_eq] at hb
 obtain ⟨h1, h2, h3, h4, h5, h6⟩ := hb
 obtain ⟨c, hc⟩ := Option.isSome_iff_exists.1 h2
 exact fn2_ok he hl hm k hf h1 (by unfold Au; rw [hc]) kin kout k2 h3 h4 h5 h6
theorem w64 {n : Int} (h : -9223372036854775808 ≤ n ∧ n ≤ 9223372036854775807) : IntKind.wrap .i64 n = n := by
 rw [IntKind.wrap_i64]
 omega
theorem wu8 {n : Int} (h : 0 ≤ n ∧ n ≤ 255) : IntKind.wrap .u8 n = n := by
 have : IntKind.wrap .u8 n = n % 256 := rfl
 rw [this]
 omega
section
variable {α : Type} {x y : α} {z : Option α}
theorem cd {p : Prop} [Decidable p] : (bif decide p then x else y) = if p then x else y := by
 by_cases h : p <;> simp [h]
theorem V9 {p q : Prop} [Decidable p] [Decidable q] : (if p then (if q then x else y) else y) = if p ∧ q then x else y := by
 by_cases h : p <;> by_cases h2 : q <;> simp [h, h2]
theorem cand {a b : Bool} : (bif a && b then x else y) = bif a then (bif b then x else y) else y := by cases a <;> rfl
theorem cinB {i : Int} {n : Nat} : (bif inB i n then x else y) = if 0 ≤ i ∧ i < n then x else y := by
 unfold inB; rw [cand, cd, cd, V9]
theorem ccutB {i j : Int} {n : Nat} : (bif cutB i j n then x else y) = if 0 ≤ i ∧ i ≤ j ∧ j ≤ n then x else y := by
 unfold cutB; rw [cand, cand, cd, cd, cd, V9, V9]; simp only [and_assoc]
theorem cappB {b m n : Nat} : (bif appB b m n then x else y) = if (m + n) * b ≤ 140737488355328 ∧ m + n ≤ 9223372036854775807 then x else y := by
 unfold appB; rw [cand, cd, cd, V9]; rfl
end
theorem rdI_nat (l : List Int) (i : Nat) : rdI l (Int.toNat (i : Int)) = l.getD i 0 := by
 simp [rdI]
theorem Aox {α : Type} (d : α) (l : List α) (i : Nat) : rdA d l (Int.toNat (i : Int)) = l.getD i d := by
 simp [rdA]
theorem Au0 {α : Type} (l : List α) (i j : Nat) : cutL l (i : Int) (j : Int) = (l.take j).drop i := by
 simp [cutL]
theorem Fe (i : Nat) : ((i : Int) + 1) = ((i + 1 : Nat) : Int) := by simp
structure DefC where
 g : Nat
 kd : Sk
 caps : List Nat
 pt : Nat
 tp : List Ty
 pg : Bool
 new : List PL → List (List L)
section
variable {C C1 : Cfg} {F : Nat → Prop} {s s' : St} {G : Gm} {a : Act} {w w' : World} {vals : List Value}
end
end Go.Proofs.YtgmpjapnhdilaaaGreatV
namespace Go.Proofs.YtgmpjapnhdilaaaGreatV
open Go Go.RowKit
end Go.Proofs.YtgmpjapnhdilaaaGreatV
