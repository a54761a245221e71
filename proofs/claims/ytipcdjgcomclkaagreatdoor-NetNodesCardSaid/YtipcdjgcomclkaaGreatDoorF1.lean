import Derived.Test.YtipcdjgcomclkaaGreatDoorF0
import Derived.Maps.AppendAt
import Derived.Laws.MakeOwn
import Derived.Laws.OwnMore
import Derived.Great.BuildSlice
import Derived.Lib.AppendStr
import Derived.Lib.SlBytesConst
/-! Joined, names shortened: V11, V12, V13, V14, V15, V16, V17, V18, V19. -/
set_option linter.unusedVariables false
set_option linter.unusedSimpArgs false
namespace Go.Proofs.YtipcdjgcomclkaaGreatDoorV
open Go Go.RowKit
section
variable {P : Program} {F : Nat → Prop} {s : St} {G : Gm} {a : Act} {w : World} {o : Oper} {v : AV} {vals : List Value}
theorem Ae5 {S f k t : Nat} (h : I0 P S f = some (k, t)) : ∃ fs x n, P.underlying S = some (.struct fs) ∧ fs[f]? = some x ∧ x.offset = k ∧ x.type = t ∧ Bp P t = some n ∧ n ≠ 0 := by
 unfold I0 at h
 split at h
 ·rename_i fs hu
  obtain ⟨x, hx, h2⟩ := Option.bind_eq_some_iff.1 h
  obtain ⟨n, hn, h3⟩ := Option.bind_eq_some_iff.1 h2
  split at h3
  ·cases h3
  ·rename_i hz
   cases h3
   exact ⟨fs, x, n, hu, hx, rfl, rfl, hn, hz⟩
 ·cases h
theorem He (g o n : Nat) : (⟨g, o, none⟩ : Addr).add n = ⟨g, o + n, none⟩ := by unfold Addr.add; split <;> simp_all
theorem R9 (a : Addr) (h : a.spot = none) (m n : Nat) : (a.add m).add n = a.add (m + n) := by
 obtain ⟨b, o, sp⟩ := a
 obtain rfl : sp = none := h
 simp [He, Nat.add_assoc]
theorem Sa (a : Addr) (h : a.spot = none) (n : Nat) : (a.add n).spot = none := by
 obtain ⟨b, o, sp⟩ := a
 obtain rfl : sp = none := h
 simp [He]
theorem Cells.drop {ad : Addr} {cs : List Value} (hs : ad.spot = none) (h : Cells w ad cs) (n : Nat) : Cells w (ad.add n) (cs.drop n) := by
 intro j v hv
 rw [List.getElem?_drop] at hv
 rw [R9 ad hs]
 exact h _ _ hv
theorem Et {t n : Nat} (hn : Bp P t = some n) : (sizeOf t).run P w = .ok n w := by
 unfold Bp at hn
 obtain ⟨i, hi, rfl⟩ := Option.map_eq_some_iff.1 hn
 simp [sizeOf, typeInfo, hi]
theorem Bkn (h : Holds F s G a.tmps.toList w) {S f : Nat} {x : Operand} (ho : o.op = .fieldAddr S x f) (hv : (opV P s (.fieldAddr S x f)).val = some v) : VOK P F s G a w o v := by
 have key : ∀ {k t : Nat}, I0 P S f = some (k, t) → ∀ {ad : Addr}, a.eval x = .pointer (some ad) → (execOp a.eval o).run P w = .ok (.value (.pointer (some (ad.add k)))) w := by
  intro k t hf ad e
  obtain ⟨fs, y, n, hu, hy, rfl, rfl, hn, hz⟩ := Ae5 hf
  simp [execOp, ho, e, Instr.fieldAt, run_underlying hu, hy, Instr.sureAddr, fieldPlace, Et hn, hz]
 simp only [opV] at hv
 split at hv
 ·rename_i k t b q hf hl
  cases hv
  have e : a.eval x = _ := Bh h hl
  refine .same (key hf e) ?_
  show Value.pointer _ = _
  rw [He]
 ·rename_i k t ps hf hl
  cases hv
  obtain ⟨ad, cs, e, hs, hok, hc, hr⟩ := Bh h hl
  exact .same (key hf e) ⟨_, cs.drop k, rfl, Sa ad hs k, by rw [Io]; exact hok, hc.drop hs k, hr.drop k⟩
 ·rename_i k t l i q z hf hl
  cases hv
  obtain ⟨g, n, c, hG, e, h3⟩ := Bh h hl
  exact .same (key hf e) ⟨g, n, c, hG, by rw [He, Nat.add_assoc], h3⟩
 ·cases hv
theorem v_field (h : Holds F s G a.tmps.toList w) {S f : Nat} {x : Operand} (ho : o.op = .field S x f) (hv : (opV P s (.field S x f)).val = some v) : VOK P F s G a w o v := by
 have hg := C2 h x
 simp only [opV] at hv
 split at hv
 ·rename_i k t ls hf hl
  rw [hl] at hg
  obtain ⟨cs, e, ha⟩ := hg
  split at hv
  ·rename_i n hn
   split at hv
   ·rename_i hle'
    obtain ⟨hle, hu⟩ := hle'
    rw [Oc.val_ofOption] at hv
    obtain ⟨d, hd⟩ := Option.isSome_iff_exists.1 hu
    obtain ⟨fs, y, n', hus, hy, rfl, rfl, hn', hz⟩ := Ae5 hf
    rw [hn] at hn'
    cases hn'
    have hlen := ha.len
    have h2 := (ha.drop y.offset).take n
    have hm := Abg h2 hv
    refine .same (u := if Dg P y.type then .agg ((cs.toList.drop y.offset).take n).toArray else ((cs.toList.drop y.offset).take n).headD undef) ?_ hm
    simp only [execOp, ho, e, Instr.field, Sem.run_bind, run_underlying hus, Result.andThen_ok, hy, asAgg, Sem.run_pure, part, Aw1 y.type hd]
    cases hgg : Dg P y.type with
    | true =>
     simp only [if_true, Sem.run_bind, Et hn, Result.andThen_ok, Sem.run_pure]
     congr 3
     rw [← Array.toList_inj]
     simp [List.extract_eq_take_drop]
    | false =>
     rw [hgg] at hv
     simp only [mkAV, Bool.false_eq_true, if_false] at hv
     have h1 : n = 1 := by
      split at hv
      ·rename_i l hl1
       have := congrArg List.length hl1
       simp at this
       omega
      ·cases hv
     subst h1
     have hl9 : cs.toList.length = cs.size := Array.length_toList
     have hlt : y.offset < cs.size := by omega
     have e2 : cs[y.offset]? = some cs[y.offset] := Array.getElem?_eq_getElem hlt
     simp only [Bool.false_eq_true, if_false, e2, Sem.run_pure, Result.andThen_ok]
     congr 2
     have h7 : (cs.toList.drop y.offset).take 1 = [cs[y.offset]] := by
      rw [List.take_one]
      simp [hlt]
     rw [h7]
     rfl
   ·cases hv
  ·cases hv
 ·cases hv
theorem Awo (t : Ty) (xs : List t.den) (i : Nat) (h : i < xs.length) : xs[i]? = some (rdD t xs i) := by simp [rdD, List.getD, List.getElem?_eq_getElem h]
theorem M1 {i : Int} {n : Nat} (h : inB i n = true) : 0 ≤ i ∧ i < n := by simpa [inB] using h
theorem Bko (h : Holds F s G a.tmps.toList w) {T : Nat} {x y : Operand} (ho : o.op = .indexAddr T x y) (hv : (opV P s (.indexAddr T x y)).val = some v) : VOK P F s G a w o v := by
 simp only [opV] at hv
 split at hv
 ·rename_i e l i hu hl hi
  obtain ⟨k, ei, _⟩ := Hv h hi
  split at hv
  ·rename_i q hq
   split at hv
   ·rename_i hz
    cases hb : inB i q.xs.length with
    | false => rw [hb] at hv; cases hv
    | true =>
     rw [hb] at hv
     cases hv
     obtain ⟨h0, h1⟩ := M1 hb
     have e1 : a.eval x = G.ow l := (Bh h hl).1
     obtain ⟨_, cs, hr, he⟩ := h.own l q hq
     rcases hr.2 with ⟨_, hn⟩ | ⟨g, cap, cur, hG, _⟩
     ·omega
     ·rw [hG] at e1
      refine .same (u := .pointer (some ⟨g, i.toNat * q.t.size, none⟩)) ?_ ⟨g, _, _, hG, by simp, fun z hz' => ?_⟩
      ·simp [execOp, ho, e1, ei, Instr.indexAt, asIntOf, run_underlying hu, h0, h1, Et hz, He]
      ·have : Ag s l = some z := hz'
       rw [hq] at this
       cases this
       exact ⟨by omega, rfl⟩
   ·cases hv
  ·cases hv
 ·rename_i e t xs i hu hl hi
  obtain ⟨k, ei, _⟩ := Hv h hi
  split at hv
  ·rename_i hz
   cases hb : inB i (List.length xs) with
   | false => rw [hb] at hv; cases hv
   | true =>
    rw [hb] at hv
    cases hv
    obtain ⟨h0, h1⟩ := M1 hb
    obtain ⟨A, c, e1, hl1, hc1, hx⟩ := pvSl (Bh h hl)
    have e2 := List.singleton_inj.1 e1
    have hne : xs ≠ [] := by rintro rfl; simp at h1; omega
    obtain ⟨ad, rfl, hs, hok, hel⟩ := hx hne
    have hlt : i.toNat < List.length xs := by omega
    have hget := Awo t xs i.toNat hlt
    obtain ⟨es, hr, hce⟩ := hel _ _ hget
    refine .same (u := .pointer (some (ad.add (i.toNat * t.size)))) ?_ ⟨_, es, rfl, Sa ad hs _, by rw [Io]; exact hok, hce, K7 hr⟩
    simp [execOp, ho, e2, ei, Instr.indexAt, asIntOf, run_underlying hu, h0, h1, Et hz]
  ·cases hv
 ·rename_i e b n i hu hl hi
  obtain ⟨k, ei, _⟩ := Hv h hi
  split at hv
  ·rename_i z hz
   cases hb : inB i n with
   | false => rw [hb] at hv; cases hv
   | true =>
    rw [hb] at hv
    cases hv
    obtain ⟨h0, h1⟩ := M1 hb
    have e1 : a.eval x = _ := Bh h hl
    refine .same (u := .pointer (some ⟨G.bx b, i.toNat * z, none⟩)) ?_ rfl
    simp [execOp, ho, e1, ei, Instr.indexAt, asIntOf, run_underlying hu, h0, h1, Et hz, He]
  ·cases hv
 ·rename_i m e b q i hu hl hi
  obtain ⟨k, ei, _⟩ := Hv h hi
  split at hv
  ·rename_i n hz
   cases hb : inB i m with
   | false => rw [hb] at hv; cases hv
   | true =>
    rw [hb] at hv
    cases hv
    obtain ⟨h0, h1⟩ := M1 hb
    have e1 : a.eval x = _ := Bh h hl
    refine .same (u := .pointer (some ⟨G.bx b, q + i.toNat * n, none⟩)) ?_ rfl
    simp [execOp, ho, e1, ei, Instr.indexAt, asIntOf, run_underlying hu, h0, h1, Et hz, Instr.sureAddr, He]
  ·cases hv
 ·cases hv
theorem v_index (h : Holds F s G a.tmps.toList w) {T : Nat} {x y : Operand} (ho : o.op = .index T x y) (hv : (opV P s (.index T x y)).val = some v) : VOK P F s G a w o v := by
 simp only [opV] at hv
 split at hv
 ·rename_i q i hu hl hi
  obtain ⟨k, ei, _⟩ := Hv h hi
  obtain ⟨z, e1, rfl, hz⟩ := Ft (Bh h hl)
  cases hb : inB i (List.length (bs z)) with
  | false => rw [hb] at hv; cases hv
  | true =>
   rw [hb] at hv
   cases hv
   obtain ⟨h0, h1⟩ := M1 hb
   have hlt : i.toNat < z.size := by rw [← E0]; omega
   refine .same (u := .int .u8 (z[i.toNat].toNat : Int)) ?_ ?_
   ·have : z[i.toNat]? = some z[i.toNat] := by simp [hlt]
    simp [execOp, ho, e1, ei, Instr.index, asIntOf, run_underlying hu, h0, this]
   ·rw [bs_get z i.toNat hlt]
    exact ⟨rfl, wf_u8 _⟩
 ·cases hv
theorem Rm (h : Holds F s G a.tmps.toList w) {d : Int} {x : Option Operand} {n : Int} (hn : Bv s d x = some n) : (x = none ∧ n = d) ∨ ∃ y k, x = some y ∧ a.eval y = .int k n := by
 cases x with
 | none => exact .inl ⟨rfl, by simpa [Bv] using hn.symm⟩
 | some y =>
  obtain ⟨k, e, _⟩ := Hv h (x := y) hn
  exact .inr ⟨y, k, rfl, e⟩
theorem P6 {lo hi : Int} {n : Nat} (h : cutB lo hi n = true) : 0 ≤ lo ∧ lo ≤ hi ∧ hi ≤ n := by simpa [cutB] using h
theorem Ry (h : Holds F s G a.tmps.toList w) {lo hi : Option Operand} {p q : Int} {len cap : Nat} (g : Bool) (hp : Bv s 0 lo = some p) (hq : Bv s len hi = some q) (hb : cutB p q len = true) (hc : len ≤ cap) :
  (Instr.sliceBounds g len cap (lo.map a.eval) (hi.map a.eval) none).run P w = .ok (p.toNat, q.toNat, cap) w := by
 obtain ⟨h0, h1, h2⟩ := P6 hb
 have hb1 : ∀ (k : IntKind) (z : Int) (y : Nat) (code : BoundsCode), 0 ≤ z → z ≤ y → (Instr.sliceBound (.int k z) y code).run P w = .ok z.toNat w := by
  intro k z y code g0 g1
  simp [Instr.sliceBound, asIntOf, g0, g1]
 have hlo : ∀ y : Nat, p ≤ y → ∀ code, (match lo.map a.eval with | some v => Instr.sliceBound v y code | none => pure 0).run P w = .ok p.toNat w := by
  intro y hy code
  rcases Rm h hp with ⟨rfl, rfl⟩ | ⟨z, k, rfl, e⟩
  ·rfl
  ·simp [e, hb1 k p y code h0 hy]
 unfold Instr.sliceBounds
 rcases Rm h hq with ⟨rfl, rfl⟩ | ⟨z, k, rfl, e⟩
 ·have := hlo len (by omega)
  simp only [Option.map_none, Sem.run_bind, Sem.run_pure, Result.andThen_ok, Option.isSome_none, Bool.false_eq_true, if_false]
  rcases Rm h hp with ⟨rfl, rfl⟩ | ⟨z, k, rfl, e⟩
  ·simp
  ·simp [e, hb1 k p len _ h0 (by omega)]
 ·simp only [Option.map_some, Option.map_none, Sem.run_bind, Sem.run_pure, Result.andThen_ok, Option.isSome_none, Bool.false_eq_true, if_false, e, hb1 k q cap _ (by omega) (by omega)]
  rcases Rm h hp with ⟨rfl, rfl⟩ | ⟨z2, k2, rfl, e2⟩
  ·simp
  ·simp [e2, hb1 k2 p q.toNat _ h0 (by omega)]
theorem Aej {ok : Nat → Prop} {t : Ty} {xs : List t.den} {A : Option Addr} {c : Nat} (hr : Rep w ok (.slice t) xs [.slice A xs.length c]) {p q : Nat} (h1 : p ≤ q) (h2 : q ≤ xs.length) :
  Rep w ok (.slice t) ((xs.take q).drop p) [.slice (if c = p then A else A.map (·.add (p * t.size))) (q - p) (c - p)] := by
 have hr' : Ev w ok (fun x es => Rep w ok t x es) t.size xs [.slice A xs.length c] := hr
 obtain ⟨A', c', e1, hl, hc, hx⟩ := hr'
 simp only [List.cons.injEq, Value.slice.injEq, and_true] at e1
 obtain ⟨rfl, _, rfl⟩ := e1
 have hlen : ((xs.take q).drop p).length = q - p := by rw [List.length_drop, List.length_take]; omega
 show Ev w ok (fun x es => Rep w ok t x es) t.size ((xs.take q).drop p) _
 refine ⟨_, c - p, by rw [hlen], by rw [hlen]; omega, by omega, fun hne => ?_⟩
 have hlt : p < q := by
  rcases Nat.lt_or_ge p q with h | h
  ·exact h
  ·exact absurd (List.length_eq_zero_iff.1 (by rw [hlen]; omega)) hne
 have hne' : xs ≠ [] := by rintro rfl; simp at h2; omega
 obtain ⟨ad, rfl, hs, hok, hel⟩ := hx hne'
 rw [if_neg (by omega)]
 refine ⟨_, rfl, Sa ad hs _, by rw [Io]; exact hok, fun i x hi => ?_⟩
 rw [List.getElem?_drop, List.getElem?_take] at hi
 split at hi
 ·obtain ⟨es, hr, hc⟩ := hel _ _ hi
  refine ⟨es, hr, ?_⟩
  rw [R9 ad hs, ← Nat.add_mul]
  exact hc
 ·cases hi
theorem v_slice (h : Holds F s G a.tmps.toList w) {T : Nat} {x : Operand} {lo hi : Option Operand} (ho : o.op = .slice T x lo hi none) (hv : (opV P s (.slice T x lo hi none)).val = some v) : VOK P F s G a w o v := by
 simp only [opV] at hv
 split at hv
 ·rename_i q hu hl
  split at hv
  ·rename_i p r hp hr
   cases hb : cutB p r (List.length q) with
   | false => rw [hb] at hv; cases hv
   | true =>
    rw [hb] at hv
    cases hv
    obtain ⟨z, e1, rfl, hz⟩ := Ft (Bh h hl)
    have hlz : List.length (bs z) = z.size := E0 z
    rw [hlz] at hr hb
    have hrun := Ry (P := P) h false hp hr hb (Nat.le_refl _)
    refine .same (u := .string (z.extract p.toNat r.toNat)) ?_ ⟨_, rfl, Ady z _ _, ?_⟩
    ·simp [execOp, ho, e1, Instr.sliceAt, Instr.slice, run_underlying hu, hrun]
    ·have := E0 (z.extract p.toNat r.toNat)
     rw [Ady, List.length_drop, List.length_take, E0] at this
     omega
  ·cases hv
 ·rename_i e t xs hu hl
  split at hv
  ·rename_i p r hp hr
   split at hv
   ·rename_i hz
    cases hb : cutB p r (List.length xs) with
    | false => rw [hb] at hv; cases hv
    | true =>
     rw [hb] at hv
     cases hv
     have hrep := Bh h hl
     obtain ⟨A, c, e1, hl1, hc1, hx⟩ := pvSl hrep
     have e2 := List.singleton_inj.1 e1
     have hrun := Ry (P := P) h true hp hr hb hl1
     obtain ⟨h0, h1, h2⟩ := P6 hb
     have hrep2 : Rep w (okS F s G w) (.slice t) xs [.slice A (List.length xs) c] := by rw [← e2]; exact hrep
     have := Aej (p := p.toNat) (q := r.toNat) hrep2 (by omega) (by omega)
     refine .same (u := .slice (if c = p.toNat then A else A.map (·.add (p.toNat * t.size))) (r.toNat - p.toNat) (c - p.toNat)) ?_ this
     simp [execOp, ho, e2, Instr.sliceAt, Instr.slice, run_underlying hu, hrun, Et hz]
   ·cases hv
  ·cases hv
 ·cases hv
end
section
variable {P : Program} {F : Nat → Prop} {s : St} {G : Gm} {a : Act} {w : World} {o : Oper} {v : AV} {vals : List Value}
theorem Nk {n : Nat} (h : n ≤ maxLen) : (Lit.int .i64 (n : Int)).wf = true := by
  rw [Nj]
  simp [IntKind.min, IntKind.max, IntKind.signed, IntKind.bits]
  unfold maxLen at h
  omega
theorem arr0 {α β : Type} {as : Array α} {f : α → Option β} {b : β} (h : (as[0]?).bind f = some b) : ∃ x, as[0]? = some x ∧ f x = some b := Option.bind_eq_some_iff.1 h
theorem v_len (h : Holds F s G a.tmps.toList w) {as : Array Operand} {ts : Array Nat} (ho : o.op = .call { callee := .builtin .len, args := as, argTypes := ts })
    (hv : (opV P s (.call { callee := .builtin .len, args := as, argTypes := ts })).val = some v) : VOK P F s G a w o v := by
  have run : ∀ {t x d}, ts[0]? = some t → as[0]? = some x → P.underlying t = some d → ∀ n : Nat, (∀ w', (match d, a.eval x with
      | .string, .string q => (pure (goInt q.size) : Sem Value).run P w'
      | .slice _, .slice _ m _ => (pure (goInt m) : Sem Value).run P w'
      | _, _ => (stuck "" : Sem Value).run P w') = .ok (.int .i64 n) w') → (execOp a.eval o).run P w = .ok (.value (.int .i64 n)) w := by
    intro t x d h1 h2 h3 n h4
    have e2 : (as.map a.eval)[0]? = some (a.eval x) := by simp [h2]
    have h5 := h4 w
    simp only [execOp, ho, resolve, invoke, builtin, Sem.run_bind, Sem.run_pure, Result.andThen_ok, Builtin.len_, h1, e2, run_underlying h3]
    cases d <;> cases hx : a.eval x <;> rw [hx] at h5 <;> simp at h5 <;> simp [h5]
  simp only [opV] at hv
  split at hv
  · rename_i q h1 h2
    cases hv
    obtain ⟨t, ht, hu⟩ := arr0 h1
    obtain ⟨x, hx, hl⟩ := arr0 h2
    obtain ⟨y, e, rfl, hy⟩ := Ft (Bh h hl)
    have hn : List.length (bs y) = y.size := E0 y
    refine .same (run ht hx hu (List.length (bs y)) fun w' => by rw [e, hn]; rfl) ⟨rfl, Nk ?_⟩
    rw [hn]; exact hy
  · rename_i e q xs h1 h2
    cases hv
    obtain ⟨t, ht, hu⟩ := arr0 h1
    obtain ⟨x, hx, hl⟩ := arr0 h2
    obtain ⟨A, c, e1, hl1, hc1, _⟩ := pvSl (Bh h hl)
    have e2 := List.singleton_inj.1 e1
    exact .same (run ht hx hu (List.length xs) fun w' => by rw [e2]; rfl) ⟨rfl, Nk (Nat.le_trans hl1 hc1)⟩
  · rename_i e l h1 h2
    split at hv
    · rename_i q hq
      cases hv
      obtain ⟨t, ht, hu⟩ := arr0 h1
      obtain ⟨x, hx, hl⟩ := arr0 h2
      have e1 : a.eval x = G.ow l := (Bh h hl).1
      have hr := Jh h hq
      obtain ⟨A, c, e2, hl1, hc1, _⟩ := (show Ev w _ _ _ q.xs [G.ow l] from hr)
      have e3 := List.singleton_inj.1 e2
      exact .same (run ht hx hu q.xs.length fun w' => by rw [e1, e3]; rfl) ⟨rfl, Nk (Nat.le_trans hl1 hc1)⟩
    · cases hv
  · rename_i e h1 h2
    cases hv
    obtain ⟨t, ht, hu⟩ := arr0 h1
    obtain ⟨x, hx, hl⟩ := arr0 h2
    have e1 : a.eval x = _ := Bh h hl
    exact .same (run ht hx hu 0 fun w' => by rw [e1]; rfl) ⟨rfl, Nk (Nat.zero_le _)⟩
  · rename_i e b n h1 h2
    split at hv
    · rename_i hn
      cases hv
      obtain ⟨t, ht, hu⟩ := arr0 h1
      obtain ⟨x, hx, hl⟩ := arr0 h2
      have e1 : a.eval x = _ := Bh h hl
      exact .same (run ht hx hu n fun w' => by rw [e1]; rfl) ⟨rfl, Nk (Nat.le_trans hn (by decide))⟩
    · cases hv
  · cases hv
theorem Xr (f : PL → PL → Option PL) (g : Value → Value → Sem Value) (hf : ∀ p q r x y, f p q = some r → HR F s G w (.pv p) x → HR F s G w (.pv q) y → ∃ z, (g x y).run P w = .ok z w ∧ HR F s G w (.pv r) z) :
    ∀ (xs : List Operand) (p r : PL) (x : Value), HR F s G w (.pv p) x → Holds F s G a.tmps.toList w → Mv f p (xs.map s.get) = some r → ∃ z, ((xs.map a.eval).foldlM g x).run P w = .ok z w ∧ HR F s G w (.pv r) z
  | [], p, r, x, hp, h, h1 => by cases h1; exact ⟨x, by simp, hp⟩
  | y :: xs, p, r, x, hp, h, h1 => by
    simp only [List.map_cons] at h1
    unfold Mv at h1
    split at h1
    · rename_i heq; cases heq
    · rename_i q r' heq
      injection heq with e1 e2
      obtain ⟨z, hz, h2⟩ := Option.bind_eq_some_iff.1 h1
      have hy := C2 h y
      rw [e1] at hy
      obtain ⟨u, hu, hru⟩ := hf _ _ _ _ _ hz hp hy
      subst e2
      obtain ⟨k, hk, hrk⟩ := Xr f g hf xs z r u hru h h2
      exact ⟨k, by simp [hu, hk], hrk⟩
    · cases h1
theorem minI_wf {k : IntKind} {x y : Int} (hx : (Lit.int k x).wf = true) (hy : (Lit.int k y).wf = true) : (Lit.int k (minI x y)).wf = true := by unfold minI; split <;> assumption
theorem maxI_wf {k : IntKind} {x y : Int} (hx : (Lit.int k x).wf = true) (hy : (Lit.int k y).wf = true) : (Lit.int k (maxI x y)).wf = true := by unfold maxI; split <;> assumption
theorem v_min (h : Holds F s G a.tmps.toList w) {as : Array Operand} {ts : Array Nat} (ho : o.op = .call { callee := .builtin .min, args := as, argTypes := ts })
    (hv : (opV P s (.call { callee := .builtin .min, args := as, argTypes := ts })).val = some v) : VOK P F s G a w o v := by
  simp only [opV] at hv
  split at hv
  · rename_i p r heq
    rw [Oc.val_ofOption] at hv
    obtain ⟨q, hq, rfl⟩ := Option.map_eq_some_iff.1 hv
    cases hl : as.toList with
    | nil => rw [hl] at heq; cases heq
    | cons x xs =>
      rw [hl] at heq
      simp only [List.map_cons, List.cons.injEq] at heq
      obtain ⟨e1, rfl⟩ := heq
      have hx := C2 h x
      rw [e1] at hx
      obtain ⟨z, hz, hr⟩ := Xr (P := P) min2P Builtin.min2 (by
        intro p q r x y h1 hp hq
        unfold min2P at h1
        split at h1
        · rename_i k m k' n
          split at h1
          · rename_i hk
            cases h1
            cases hk
            obtain ⟨rfl, h2⟩ := Ds hp
            obtain ⟨rfl, h3⟩ := Ds hq
            exact ⟨_, by simp [Builtin.min2]; rfl, rfl, minI_wf h2 h3⟩
          · cases h1
        · cases h1) xs p q (a.eval x) hx h hq
      refine .same (u := z) ?_ hr
      have e3 : (as.map a.eval).toList = a.eval x :: xs.map a.eval := by simp [hl]
      simp [execOp, ho, resolve, invoke, builtin, Builtin.min_, e3, hz, -Array.toList_map]
  · cases hv
theorem v_max (h : Holds F s G a.tmps.toList w) {as : Array Operand} {ts : Array Nat} (ho : o.op = .call { callee := .builtin .max, args := as, argTypes := ts })
    (hv : (opV P s (.call { callee := .builtin .max, args := as, argTypes := ts })).val = some v) : VOK P F s G a w o v := by
  simp only [opV] at hv
  split at hv
  · rename_i p r heq
    rw [Oc.val_ofOption] at hv
    obtain ⟨q, hq, rfl⟩ := Option.map_eq_some_iff.1 hv
    cases hl : as.toList with
    | nil => rw [hl] at heq; cases heq
    | cons x xs =>
      rw [hl] at heq
      simp only [List.map_cons, List.cons.injEq] at heq
      obtain ⟨e1, rfl⟩ := heq
      have hx := C2 h x
      rw [e1] at hx
      obtain ⟨z, hz, hr⟩ := Xr (P := P) max2P Builtin.max2 (by
        intro p q r x y h1 hp hq
        unfold max2P at h1
        split at h1
        · rename_i k m k' n
          split at h1
          · rename_i hk
            cases h1
            cases hk
            obtain ⟨rfl, h2⟩ := Ds hp
            obtain ⟨rfl, h3⟩ := Ds hq
            exact ⟨_, by simp [Builtin.max2]; rfl, rfl, maxI_wf h2 h3⟩
          · cases h1
        · cases h1) xs p q (a.eval x) hx h hq
      refine .same (u := z) ?_ hr
      have e3 : (as.map a.eval).toList = a.eval x :: xs.map a.eval := by simp [hl]
      simp [execOp, ho, resolve, invoke, builtin, Builtin.max_, e3, hz, -Array.toList_map]
  · cases hv
theorem Xs : ∀ (vs : List Value) (off j : Nat) (cs : Array Value), off + j + vs.length ≤ cs.size →
    ((vs.zipIdx j).foldl (fun cs (x : Value × Nat) => cs.setIfInBounds (off + x.2) x.1) cs).toList = cs.toList.take (off + j) ++ vs ++ cs.toList.drop (off + j + vs.length)
  | [], off, j, cs, h => by simp
  | v :: vs, off, j, cs, h => by
    simp only [List.zipIdx_cons, List.foldl_cons]
    rw [Xs vs off (j + 1) _ (by simp at h ⊢; omega)]
    simp only [Array.toList_setIfInBounds, List.length_cons] at h ⊢
    have hlt : off + j < cs.toList.length := by simp; omega
    apply List.ext_getElem?
    intro i
    rw [List.getElem?_append, List.getElem?_append, List.getElem?_append, List.getElem?_append]
    simp only [List.length_append, List.length_take, List.length_set, List.getElem?_take, List.getElem?_drop, List.getElem?_set, List.length_cons, Array.length_toList]
    by_cases h1 : i < off + j
    · have e1 : i < min (off + (j + 1)) cs.size := by omega
      have e2 : i < min (off + (j + 1)) cs.size + vs.length := by omega
      have e3 : i < min (off + j) cs.size := by omega
      have e4 : i < min (off + j) cs.size + (vs.length + 1) := by omega
      have e5 : ¬ off + j = i := by omega
      have e6 : i < off + (j + 1) := by omega
      simp [e1, e2, e3, e4, e5, e6, h1]
    · by_cases h2 : i = off + j
      · subst h2
        have e1 : off + j < min (off + (j + 1)) cs.size := by omega
        have e2 : off + j < min (off + (j + 1)) cs.size + vs.length := by omega
        have e3 : ¬ off + j < min (off + j) cs.size := by omega
        have e4 : off + j < min (off + j) cs.size + (vs.length + 1) := by omega
        have e6 : off + j < off + (j + 1) := by omega
        have e7 : off + j - min (off + j) cs.size = 0 := by omega
        have e8 : off + j < cs.size := by omega
        simp [e1, e2, e3, e4, e6, e7, e8]
      · have e1 : ¬ i < min (off + (j + 1)) cs.size := by omega
        have e3 : ¬ i < min (off + j) cs.size := by omega
        by_cases h3 : i < off + j + 1 + vs.length
        · have e2 : i < min (off + (j + 1)) cs.size + vs.length := by omega
          have e4 : i < min (off + j) cs.size + (vs.length + 1) := by omega
          have e5 : i - min (off + j) cs.size = (i - min (off + (j + 1)) cs.size) + 1 := by omega
          simp [e1, e2, e3, e4, e5]
        · have e2 : ¬ i < min (off + (j + 1)) cs.size + vs.length := by omega
          have e4 : ¬ i < min (off + j) cs.size + (vs.length + 1) := by omega
          have e5 : ¬ off + j = off + (j + 1) + vs.length + (i - (min (off + (j + 1)) cs.size + vs.length)) := by omega
          have e6 : off + (j + 1) + vs.length + (i - (min (off + (j + 1)) cs.size + vs.length)) = off + j + (vs.length + 1) + (i - (min (off + j) cs.size + (vs.length + 1))) := by omega
          simp [e1, e2, e3, e4, e5, e6]
          intro h9
          exact absurd h9 (by omega)
theorem Vb {R : L → Value → Prop} (f : Nat → Option (Nat × Nat)) : ∀ (q : List (Nat × List L)) (vs : List (Nat × Value)) (z ls : List L) (cs : Array Value),
    All2 (fun x y => x.1 = y.1 ∧ All2 R x.2 y.2.cells.toList) q vs → All2 R z cs.toList → E6 f z q = some ls → ∃ cs', Instr.fill f cs vs = some cs' ∧ All2 R ls cs'.toList
  | [], _, z, ls, cs, h1, h2, h3 => by cases h1; cases h3; exact ⟨cs, rfl, h2⟩
  | (i, new) :: q, _, z, ls, cs, h1, h2, h3 => by
    cases h1 with
    | cons h4 h5 =>
      rename_i y vs
      obtain ⟨i', v⟩ := y
      obtain ⟨rfl, h6⟩ := h4
      simp only [E6] at h3
      obtain ⟨⟨off, size⟩, hf, h7⟩ := Option.bind_eq_some_iff.1 h3
      split at h7
      · rename_i hc
        obtain ⟨hc1, hc2⟩ := hc
        have hl1 := h6.len
        have hl2 := h2.len
        simp only [Array.length_toList] at hl1 hl2
        have h8 : v.cells.zipIdx.foldl (fun cs (c, j) => cs.setIfInBounds (off + j) c) cs = (cs.toList.take off ++ v.cells.toList ++ cs.toList.drop (off + v.cells.toList.length)).toArray := by
          have := Xs v.cells.toList off 0 cs (by simp; omega)
          rw [← Array.toList_inj]
          rw [← Array.foldl_toList, Array.toList_zipIdx]
          simpa using this
        have h9 : All2 R (splice z off new) (cs.toList.take off ++ v.cells.toList ++ cs.toList.drop (off + v.cells.toList.length)) := by
          unfold splice
          have : new.length = v.cells.toList.length := by rw [Array.length_toList]; exact hl1
          rw [this]
          exact ((h2.take off).app h6).app (h2.drop _)
        obtain ⟨cs', hfill, ha⟩ := Vb f q vs _ ls (cs.toList.take off ++ v.cells.toList ++ cs.toList.drop (off + v.cells.toList.length)).toArray h5 (by simpa using h9) h7
        refine ⟨cs', ?_, ha⟩
        simp only [Instr.fill, hf]
        rw [if_neg, h8]
        · exact hfill
        · simp only [ne_eq, Bool.or_eq_true, decide_eq_true_eq, not_or, Decidable.not_not]
          simp at hc1
          constructor <;> omega
      · cases h7
theorem Rs (h : Holds F s G a.tmps.toList w) : ∀ (ps : List (Nat × Operand)) (q : List (Nat × List L)), B9 s ps = some q →
    All2 (fun x y => x.1 = y.1 ∧ All2 (HR F s G w) x.2 y.2.cells.toList) q (ps.map fun (x : Nat × Operand) => (x.1, a.eval x.2))
  | [], q, h1 => by cases h1; exact .nil
  | (i, x) :: ps, q, h1 => by
    simp only [B9] at h1
    obtain ⟨ls, hl, h2⟩ := Option.bind_eq_some_iff.1 h1
    obtain ⟨q', hq, rfl⟩ := Option.map_eq_some_iff.1 h2
    exact .cons ⟨rfl, Rb h hl⟩ (Rs h ps q' hq)
theorem Hc {t : Nat} {z : List L} (h : Di P t = some z) : ∃ i v, P.info? t = some i ∧ i.zero = some v ∧ z = v.cells.toList.map Br ∧ ∀ u ∈ v.cells.toList, u.oneCell' = true := by
  unfold Di at h
  obtain ⟨v, hv, h2⟩ := Option.bind_eq_some_iff.1 h
  obtain ⟨i, hi, hz⟩ := Option.bind_eq_some_iff.1 hv
  split at h2
  · rename_i h3
    cases h2
    exact ⟨i, v, hi, hz, rfl, fun u hu => List.all_eq_true.1 h3 u hu⟩
  · cases h2
theorem v_build (h : Holds F s G a.tmps.toList w) {t : Nat} {ps : Array (Nat × Operand)} (ho : o.op = .build t ps) (hv : (opV P s (.build t ps)).val = some v) : VOK P F s G a w o v := by
  simp only [opV] at hv
  split at hv
  · rename_i z q f hz hq hf
    rw [Oc.val_ofOption] at hv
    obtain ⟨ls, hls, rfl⟩ := Option.map_eq_some_iff.1 hv
    obtain ⟨i, zv, hi, hzz, rfl, h1⟩ := Hc hz
    have hp := Rs h ps.toList q hq
    obtain ⟨cs', hfill, ha⟩ := Vb (R := HR F s G w) f q _ _ ls zv.cells hp (Is (fun u hu => Jx u hu) _ h1) hls
    have e1 : (ps.map fun (x : Nat × Operand) => (x.1, a.eval x.2)).toList = ps.toList.map fun (x : Nat × Operand) => (x.1, a.eval x.2) := by simp
    have hb : P.built t (ps.map fun (x : Nat × Operand) => (x.1, a.eval x.2)).toList = some cs' := by
      rw [e1]
      unfold Awe at hf
      unfold Program.built
      split at hf
      · rename_i fs hu
        obtain ⟨pl, hpl, rfl⟩ := Option.map_eq_some_iff.1 hf
        simp only [hi, hu, hzz, hpl]
        exact hfill
      · rename_i m e hu
        obtain ⟨ie, hie, rfl⟩ := Option.map_eq_some_iff.1 hf
        simp only [hi, hu, hzz, hie]
        exact hfill
      · cases hf
    exact .same (u := .agg cs') (by simp only [execOp, ho, Sem.run_bind]; rw [run_build w t _ cs' hb]; rfl) ⟨cs', rfl, ha⟩
  · cases hv
theorem Bgv (h : Holds F s G a.tmps.toList w) (hv : (opV P s o.op).val = some v) : VOK P F s G a w o v := by
  cases ho : o.op with
  | move x => rw [ho] at hv; cases hv; exact A08 h (.inl ho) rfl
  | assign x => rw [ho] at hv; cases hv; exact A08 h (.inr ho) rfl
  | pick c x y =>
    rw [ho] at hv
    simp only [opV] at hv
    split at hv
    · rename_i b hb
      exact v_pick h ho hb hv
    · cases hv
  | build t ps => rw [ho] at hv; exact v_build h ho hv
  | load t x =>
    rw [ho] at hv
    simp only [opV] at hv
    split at hv
    · rename_i l n hl hn
      split at hv
      · rename_i hu
        rw [Oc.val_ofOption] at hv
        exact v_load h ho hl hn hv hu
      · cases hv
    · cases hv
  | nilCheck x =>
    rw [ho] at hv
    simp only [opV] at hv
    split at hv <;> first | (cases hv; done) | skip
    all_goals
      first
      | (rename_i hl
         cases hv
         exact v_nil h ho hl rfl)
      | (rename_i z ps hl
         cases z with
         | true => cases hv
         | false =>
           cases hv
           have h1 := Bh h hl
           obtain ⟨ad, cs, e, h2⟩ := (show RP w (okS F s G w) ps (a.eval x) from h1)
           exact .same (u := a.eval x) (by simp [execOp, ho, e]) ⟨ad, cs, e, h2⟩)
  | binOp op t x y t' =>
    rw [ho] at hv
    simp only [opV] at hv
    split at hv
    · rename_i l1 l2 h1 h2
      split at hv
      · rename_i r hn
        cases hv
        exact A09 h ho h1 hn (.inl ⟨rfl, rfl⟩)
      · rename_i r hn
        cases hv
        exact A09 h ho h1 hn (.inr ⟨rfl, rfl⟩)
      · exact v_bin h ho h1 h2 hv
    · split at hv
      · rename_i xs ys h1 h2
        rw [Oc.val_ofOption] at hv
        obtain ⟨r, hr, rfl⟩ := Option.map_eq_some_iff.1 hv
        exact A07 h ho h1 h2 hr (.inl ⟨rfl, rfl⟩)
      · rename_i xs ys h1 h2
        rw [Oc.val_ofOption] at hv
        obtain ⟨r, hr, rfl⟩ := Option.map_eq_some_iff.1 hv
        exact A07 h ho h1 h2 hr (.inr ⟨rfl, rfl⟩)
      · cases hv
  | unOp op t x =>
    rw [ho] at hv
    simp only [opV] at hv
    split at hv
    · rename_i p hp
      rw [Oc.val_ofOption] at hv
      exact v_un h ho hp hv
    · cases hv
  | convert t1 t2 x => rw [ho] at hv; exact Bkl h ho hv
  | makeInterface t x => rw [ho] at hv; exact v_ifc h ho hv
  | makeFunc f x y =>
    rw [ho] at hv
    cases f with
    | func f => exact v_func h ho hv
    | _ => simp only [opV] at hv; cases hv
  | fieldAddr S x f => rw [ho] at hv; exact Bkn h ho hv
  | field S x f => rw [ho] at hv; exact v_field h ho hv
  | indexAddr T x y => rw [ho] at hv; exact Bko h ho hv
  | index T x y => rw [ho] at hv; exact v_index h ho hv
  | extract x i => rw [ho] at hv; exact Bkm h ho hv
  | slice T x lo hi mx =>
    rw [ho] at hv
    cases mx with
    | none => exact v_slice h ho hv
    | some m => simp only [opV] at hv; cases hv
  | call c =>
    obtain ⟨f, as, ts⟩ := c
    rw [ho] at hv
    cases f with
    | builtin b =>
      cases b <;> first | exact v_len h ho hv | exact v_min h ho hv | exact v_max h ho hv | (simp only [opV] at hv; cases hv)
    | _ => simp only [opV] at hv; cases hv
  | _ => rw [ho] at hv; simp only [opV] at hv; cases hv
end
theorem HL.tr {G G' : Gm} {w w' : World} {ok ok' : Nat → Prop} {os os' : List (Option Own)} {l : L} {v : Value} (h1 : ∀ k, ok k → ok' k ∧ w'.heap[k]? = w.heap[k]?)
  (hb : ∀ b, l.noB b = false → G'.bx b = G.bx b ∧ G'.et b = G.et b) (ho : ∀ q, l.noO q = false → G'.ow q = G.ow q)
  (h2 : ∀ (q : Nat) (x' : Own), l.noO q = false → (os'[q]?).bind id = some x' → ∃ x : Own, (os[q]?).bind id = some x ∧ x.xs.length ≤ x'.xs.length ∧ x.t.size = x'.t.size)
  (h : HL G w ok os l v) : HL G' w' ok' os' l v := by
 cases l with
 | dead => exact h
 | pv p => exact RepL.mono h1 h
 | cst k => exact h
 | ptr b o => rw [show v = _ from h]; show _ = _; rw [(hb b (by simp [L.noB])).1]
 | own l => exact ⟨by rw [ho l (by simp [L.noO])]; exact h.1, h.2⟩
 | ept l i o sz =>
  obtain ⟨g, n, c, e, e2, e3⟩ := h
  refine ⟨g, n, c, by rw [ho l (by simp [L.noO])]; exact e, e2, fun x' hx => ?_⟩
  obtain ⟨x, hx, hl, hs⟩ := h2 l x' (by simp [L.noO]) hx
  have := e3 x hx
  exact ⟨by omega, by omega⟩
 | rpt ps =>
  obtain ⟨a, cs, e, hs, ho, hc, hr⟩ := h
  exact ⟨a, cs, e, hs, (h1 _ ho).1, hc.move (h1 _ ho).2, hr.imp fun _ _ h => h.mono h1⟩
 | fn f a c =>
  have e : ∀ (q : List (Nat × Nat)), (∀ x ∈ q, (L.fn f a c).noB x.1 = false) → q.map (ptrV G) = q.map (ptrV G') := by
   intro q hq
   apply List.map_congr_left
   intro x hx
   simp only [ptrV]
   rw [(hb x.1 (hq x hx)).1]
  rw [show v = _ from h]
  show _ = _
  rw [e a (fun x hx => ?_), e c (fun x hx => ?_)]
  ·simp only [L.noB, Bool.and_eq_false_iff]
   exact .inr (List.all_eq_false.2 ⟨x, hx, by simp⟩)
  ·simp only [L.noB, Bool.and_eq_false_iff]
   exact .inl (List.all_eq_false.2 ⟨x, hx, by simp⟩)
 | ifc t ps g =>
  obtain ⟨cs, hr, e⟩ := h
  exact ⟨cs, hr.imp fun _ _ h => h.mono h1, e⟩
 | err b => exact h
 | bld b t z =>
  have hb2 := hb b (by simp [L.noB])
  refine ⟨by rw [hb2.1]; exact h.1, by rw [hb2.2]; exact h.2⟩
 | sb b n =>
  have hb2 := hb b (by simp [L.noB])
  show v = _
  rw [hb2.1]; exact h
 | ifp t b o =>
  have hb2 := hb b (by simp [L.noB])
  show v = _
  rw [hb2.1]; exact h
 | erp z t ps => cases z with
  | true => exact h
  | false =>
   obtain ⟨u, e, hr⟩ := h
   exact ⟨u, e, hr.mono h1⟩
 | orp z ps => cases z with
  | true => exact h
  | false => exact RP.mono h1 h
section
variable {P : Program} {F : Nat → Prop} {s s' : St} {G : Gm} {a : Act} {w : World} {o : Oper} {v : AV} {vals : List Value}
theorem Ns {p : L → Bool} (h : s.all p = true) : ∀ x ∈ s.slots, x.all p = true := by
 simp only [St.all, Bool.and_eq_true, List.all_eq_true] at h
 exact h.1
theorem Hg {p : L → Bool} (h : s.all p = true) {b : Nat} {ls : List L} (hb : Ah s b = some ls) : ∀ l ∈ ls, p l = true := by
 simp only [St.all, Bool.and_eq_true, List.all_eq_true] at h
 unfold Ah at hb
 cases he : s.boxes[b]? with
 | none => simp [he] at hb
 | some x =>
  simp [he] at hb
  subst hb
  have := h.2 _ (List.mem_of_getElem? he)
  simpa using this
theorem Sm {p : L → Bool} (hc : ∀ v, p (Br v) = true) (hf : ∀ f, p (.fn f [] []) = true) (h : s.all p = true) (x : Operand) : (s.get x).all p = true := by
 cases x with
 | tmp t =>
  simp only [St.get]
  cases he : s.slots[t]? with
  | none => simp [List.getD, he, AV.all]
  | some v =>
   rw [show s.slots.getD t .dead = v from by simp [List.getD, he]]
   exact Ns h v (List.mem_of_getElem? he)
 | const v =>
  simp only [St.get, Lr]
  split
  ·split
   ·simp [AV.all, CV.leaves, hc]
   ·rfl
  ·rfl
  ·simp [lf, AV.all, CV.leaves, hc]
 | global g => rfl
 | func f => simp [St.get, lf, AV.all, CV.leaves, hf]
theorem Ls (n : Nat) (v : Value) : (Br v).noB n = true := by unfold Br; split <;> (try split) <;> rfl
theorem Aea (n : Nat) (v : Value) : (Br v).noO n = true := by unfold Br; split <;> (try split) <;> rfl
theorem Aa9 {p : L → Bool} {x : AV} (h : x.all p = true) {ls : List L} (hl : Dq x = some ls) : ∀ l ∈ ls, p l = true := by
 unfold Dq at hl
 split at hl
 ·cases hl; simpa [AV.all] using h
 ·cases hl
theorem Sv {b : Nat} {ls : List L} (hb : b < s.boxes.length) (b' : Nat) : Ah (Bc s b ls) b' = if b' = b then some ls else Ah s b' := by
 unfold Ah Bc
 simp only [List.getElem?_set]
 by_cases h : b = b'
 ·subst h; simp [hb]
 ·have : ¬ b' = b := fun e => h e.symm
  simp [h, this]
theorem Rn {b : Nat} {x : Option Own} (hb : b < s.owns.length) (b' : Nat) : Ag (Be s b x) b' = if b' = b then x else Ag s b' := by
 unfold Ag Be
 simp only [List.getElem?_set]
 by_cases h : b = b'
 ·subst h; simp [hb]
 ·have : ¬ b' = b := fun e => h e.symm
  simp [h, this]
theorem Qy {n : Nat} (h : Ck s n = true) : Ah s n = none ∧ n < s.boxes.length ∧ s.all (L.noB n) = true := by
 simp only [Ck, Bool.and_eq_true] at h
 obtain ⟨h1, h2⟩ := h
 cases he : s.boxes[n]? with
 | none => rw [he] at h1; cases h1
 | some x =>
  rw [he] at h1
  cases x with
  | none => exact ⟨by simp [Ah, he], (List.getElem?_eq_some_iff.1 he).1, h2⟩
  | some y => cases h1
theorem Atq {n : Nat} (h : D0 s n = true) : Ag s n = none ∧ n < s.owns.length ∧ s.all (L.noO n) = true := by
 simp only [D0, Bool.and_eq_true] at h
 obtain ⟨h1, h2⟩ := h
 cases he : s.owns[n]? with
 | none => rw [he] at h1; cases h1
 | some x =>
  rw [he] at h1
  cases x with
  | none => exact ⟨by simp [Ag, he], (List.getElem?_eq_some_iff.1 he).1, h2⟩
  | some y => cases h1
@[simp] theorem setBox_ownAt (b : Nat) (ls : List L) (l : Nat) : Ag (Bc s b ls) l = Ag s l := rfl
@[simp] theorem setOwn_boxAt (b : Nat) (x : Option Own) (l : Nat) : Ah (Be s b x) l = Ah s l := rfl
@[simp] theorem setBox_owns (b : Nat) (ls : List L) : (Bc s b ls).owns = s.owns := rfl
def Gm.setB (G : Gm) (n k t : Nat) : Gm := { G with bx := fun b => if b = n then k else G.bx b, et := fun b => if b = n then t else G.et b }
def Gm.setO (G : Gm) (n : Nat) (v : Value) : Gm := { G with ow := fun b => if b = n then v else G.ow b }
theorem Abk (h : Holds F s G a.tmps.toList w) {n : Nat} (hf : Ck s n = true) (hN : N0 ≤ n) {ls : List L} (hls : ∀ l ∈ ls, l.noB n = true) {cs : Array Value} (et : Nat) (hc : All2 (HR F s G w) ls cs.toList) (d : Option Nat) :
  Holds F ((Bc s n ls).put d (lf (.ptr n 0))) (G.setB n w.heap.size et) (a.put d (.pointer (some ⟨w.heap.size, 0, none⟩))).tmps.toList (w.alloc (.cells cs et)) ∧
   Step N0 N0 s G w ((Bc s n ls).put d (lf (.ptr n 0))) (G.setB n w.heap.size et) (w.alloc (.cells cs et)) := by
 obtain ⟨hn, hlt, hall⟩ := Qy hf
 have hbx := fun b => Sv (s := s) (ls := ls) hlt b
 have hG : ∀ b, b ≠ n → (G.setB n w.heap.size et).bx b = G.bx b := fun b hb => by simp [Gm.setB, hb]
 have hGn : (G.setB n w.heap.size et).bx n = w.heap.size := by simp [Gm.setB]
 have hGe : ∀ b, b ≠ n → (G.setB n w.heap.size et).et b = G.et b := fun b hb => by simp [Gm.setB, hb]
 have hlive : ∀ k, Live (Bc s n ls) (G.setB n w.heap.size et) k ↔ Live s G k ∨ k = w.heap.size := by
  intro k
  constructor
  ·rintro (⟨b, q, hb, rfl⟩ | ⟨l, q, hq, hk⟩)
   ·rw [hbx] at hb
    split at hb
    ·rename_i e; subst e; exact .inr hGn
    ·rename_i e; exact .inl (.inl ⟨b, q, hb, (hG b e).symm⟩)
   ·exact .inl (.inr ⟨l, q, hq, hk⟩)
  ·rintro ((⟨b, q, hb, rfl⟩ | ⟨l, q, hq, hk⟩) | rfl)
   ·have e : b ≠ n := by rintro rfl; rw [hn] at hb; cases hb
    exact .inl ⟨b, q, by rw [hbx, if_neg e]; exact hb, hG b e⟩
   ·exact .inr ⟨l, q, hq, hk⟩
   ·exact .inl ⟨n, ls, by rw [hbx]; simp, hGn⟩
 have hgr := Grew.alloc w (.cells cs et)
 have hok : ∀ k, okS F s G w k → okS F (Bc s n ls) (G.setB n w.heap.size et) (w.alloc (.cells cs et)) k ∧ (w.alloc (.cells cs et)).heap[k]? = w.heap[k]? := by
  intro k hk
  refine ⟨⟨Nat.lt_of_lt_of_le hk.1 hgr.size, hk.2.1, fun hL => ?_⟩, hgr.block hk.1⟩
  rcases (hlive k).1 hL with h1 | h1
  ·exact hk.2.2 h1
  ·have := hk.1; omega
 have htr : ∀ l v, l.noB n = true → HR F s G w l v → HR F (Bc s n ls) (G.setB n w.heap.size et) (w.alloc (.cells cs et)) l v := by
  intro l v hl hr
  refine HL.tr hok (fun b hb => have e : b ≠ n := ?_; ⟨hG b e, by simp [Gm.setB, e]⟩) (fun _ _ => rfl) (fun q x' _ hx => ⟨x', hx, Nat.le_refl _, rfl⟩) hr
  rintro rfl
  rw [hl] at hb
  cases hb
 have hH : Holds F (Bc s n ls) (G.setB n w.heap.size et) a.tmps.toList (w.alloc (.cells cs et)) := by
  refine ⟨?_, ?_, ?_, ?_, ?_, h.oo, ?_, ?_, ?_, h.glOf (fun k hk _ => hgr.block hk) fun k hk => ((hlive k).1 hk).imp id fun e => Nat.le_of_eq e.symm⟩
  ·exact h.slots.imp_mem fun x u hx ha => HA.imp_all htr (Ns hall x hx) ha
  ·intro b q hb
   rw [hbx] at hb
   split at hb
   ·rename_i e
    subst e
    cases hb
    exact ⟨cs, et, by rw [hGn]; exact heap_alloc_new w _, hc.imp_mem fun l u hl hr => htr l u (hls l hl) hr⟩
   ·rename_i e
    obtain ⟨cs', et', h1, h2⟩ := h.box b q hb
    refine ⟨cs', et', ?_, h2.imp_mem fun l u hl hr => htr l u (Hg hall hb l hl) hr⟩
    rw [hG b e, hgr.block (Array.getElem?_eq_some_iff.1 h1).1]
    exact h1
  ·intro l q hq
   obtain ⟨h0, cs', h1, h2⟩ := h.own l q hq
   exact ⟨h0, cs', Bk0 h1 (fun k hk => hgr.block (h1.lt k hk).2), h2.mono hok⟩
  ·intro b b' q q' hb hb' e
   rw [hbx] at hb hb'
   split at hb <;> split at hb'
   ·rename_i e1 e2; rw [e1, e2]
   ·rename_i e1 e2
    subst e1
    rw [hGn, hG b' e2] at e
    obtain ⟨_, _, h1, _⟩ := h.box b' q' hb'
    have := (Array.getElem?_eq_some_iff.1 h1).1
    omega
   ·rename_i e1 e2
    subst e2
    rw [hGn, hG b e1] at e
    obtain ⟨_, _, h1, _⟩ := h.box b q hb
    have := (Array.getElem?_eq_some_iff.1 h1).1
    omega
   ·rename_i e1 e2
    rw [hG b e1, hG b' e2] at e
    exact h.bb b b' q q' hb hb' e
  ·intro b q l x hb hx e
   rw [hbx] at hb
   split at hb
   ·rename_i e1
    subst e1
    rw [hGn] at e
    have := h.lt (.inr ⟨l, x, hx, e⟩)
    omega
   ·rename_i e1
    rw [hG b e1] at e
    exact h.bo b q l x hb hx e
  ·intro k hk hF
   rcases (hlive k).1 hk with h1 | rfl
   ·exact h.nF k h1 hF
   ·exact Nat.lt_irrefl _ (h.Flt _ hF)
  ·exact fun k hk => Nat.lt_of_lt_of_le (h.Flt k hk) hgr.size
  ·intro b q hb cs' et' fr' hc'
   rw [hbx] at hb
   split at hb
   ·rename_i e
    subst e
    rw [hGn, heap_alloc_new w _] at hc'
    cases hc'
    simp [Gm.setB]
   ·rename_i e
    obtain ⟨cs2, et2, h1, h2⟩ := h.box b q hb
    rw [hG b e, hgr.block (Array.getElem?_eq_some_iff.1 h1).1] at hc'
    have := h.ty b q hb cs' et' fr' hc'
    simpa [Gm.setB, e] using this
 refine ⟨hH.put d (v := lf (.ptr n 0)) (by show _ = _; rw [hGn]), Step.trans (s1 := Bc s n ls) ⟨⟨hgr.os, hgr.tape, hgr.output, hgr.size, fun k hk _ => hgr.block hk⟩, fun k hk => ?_, fun b hb => ⟨hG b (by omega), hGe b (by omega)⟩, fun l _ q hq => ⟨⟨q, hq⟩, rfl⟩⟩ (Step.put d _)⟩
 rcases (hlive k).1 hk with h1 | rfl
 ·exact .inl h1
 ·exact .inr (Nat.le_refl _)
def gone (s : St) : Option Nat → St
 | none => s
 | some l => Fq s l
def F5 : Option Nat → L → L
 | none, l => l
 | some n, l => Ej n l
theorem Be8 (c : Option Nat) : (gone s c).slots = (match c with | none => s.slots | some n => s.slots.map (AV.map (Ej n))) := by cases c <;> rfl
theorem Kr {c : Option Nat} {b : Nat} {ls : List L} (h : Ah (gone s c) b = some ls) : ∃ q, Ah s b = some q ∧ ls = q.map (F5 c) := by
 cases c with
 | none => exact ⟨ls, h, by simp [show F5 none = id from rfl]⟩
 | some n =>
  simp only [gone, Fq, setOwn_boxAt] at h
  unfold Ah St.map at h
  simp only [List.getElem?_map] at h
  unfold Ah
  cases he : s.boxes[b]? with
  | none => simp [he] at h
  | some x =>
   cases x with
   | none => simp [he] at h
   | some q => simp [he] at h; exact ⟨q, rfl, h.symm⟩
theorem A12 {c : Option Nat} {b : Nat} {q : List L} (h : Ah s b = some q) : Ah (gone s c) b = some (q.map (F5 c)) := by
 cases c with
 | none => rw [show F5 none = id from rfl]; simpa [gone] using h
 | some n =>
  simp only [gone, Fq, setOwn_boxAt]
  unfold Ah at h ⊢
  unfold St.map
  simp only [List.getElem?_map]
  cases he : s.boxes[b]? with
  | none => simp [he] at h
  | some x =>
   cases x with
   | none => simp [he] at h
   | some y => simp [he] at h; subst h; rfl
theorem Be7 (c : Option Nat) (l : Nat) : Ag (gone s c) l = if c = some l then none else Ag s l := by
 cases c with
 | none => simp [gone]
 | some n =>
  simp only [gone, Fq]
  by_cases hlt : n < s.owns.length
  ·rw [Rn (s := s.map (Ej n)) hlt]
   by_cases h : l = n
   ·subst h; simp
   ·have : ¬ n = l := fun e => h e.symm
    simp [h, this]
    rfl
  ·have e1 : Ag (Be (s.map (Ej n)) n none) l = Ag s l := by
    unfold Ag Be
    simp only [St.map]
    rw [List.set_eq_of_length_le (by omega)]
   rw [e1]
   split
   ·rename_i e
    cases e
    unfold Ag
    rw [List.getElem?_eq_none (by omega)]
    rfl
   ·rfl
theorem Holds.bb' (h : Holds F s G vals w) (c : Option Nat) (n : Nat) (o : Own) : ∀ b b' ls ls', Ah (Be (gone s c) n (some o)) b = some ls → Ah (Be (gone s c) n (some o)) b' = some ls' → G.bx b = G.bx b' → b = b' := by
 intro b b' q q' hb hb' e
 obtain ⟨p, hp, _⟩ := Kr (c := c) hb
 obtain ⟨p', hp', _⟩ := Kr (c := c) hb'
 exact h.bb b b' p p' hp hp' e
theorem M5 (h : Holds F s G a.tmps.toList w) {n : Nat} (c : Option Nat) (hf : D0 (gone s c) n = true) (hN : N0 ≤ n) {o : Own} {v' : Value} {w' : World} (h0 : 0 < o.t.size)
  (hk : Keeps (fun k => ∃ l x, c = some l ∧ Ag s l = some x ∧ (G.ow l).ownBlock = some k) w w')
  (hat : ∀ k, v'.ownBlock = some k → (∃ l x, c = some l ∧ Ag s l = some x ∧ (G.ow l).ownBlock = some k) ∨ w.heap.size ≤ k)
  {cs : List Value} (hr : w'.ownsRow 0 o.e o.t.size v' o.xs.length cs) (he : RepRow w (okS F s G w) o.t o.xs cs) (h1c : v'.oneCell' = true) (d : Option Nat) :
  Holds F ((Be (gone s c) n (some o)).put d (lf (.own n))) (G.setO n v') (a.put d v').tmps.toList w' ∧
   Step N0 N0 s G w ((Be (gone s c) n (some o)).put d (lf (.own n))) (G.setO n v') w' := by
 obtain ⟨hn, hlt, hall⟩ := Atq hf
 have hox := fun l => Rn (s := gone s c) (x := some o) hlt l
 have hG : ∀ l, l ≠ n → (G.setO n v').ow l = G.ow l := fun l hl => by simp [Gm.setO, hl]
 have hGn : (G.setO n v').ow n = v' := by simp [Gm.setO]
 have hold : ∀ l x, Ag (Be (gone s c) n (some o)) l = some x → (l = n ∧ x = o) ∨ (l ≠ n ∧ c ≠ some l ∧ Ag s l = some x) := by
  intro l x hx
  rw [hox] at hx
  split at hx
  ·rename_i e; cases hx; exact .inl ⟨e, rfl⟩
  ·rename_i e
   rw [Be7] at hx
   split at hx
   ·cases hx
   ·rename_i e2; exact .inr ⟨e, e2, hx⟩
 have hlive : ∀ k, Live (Be (gone s c) n (some o)) (G.setO n v') k → Live s G k ∨ w.heap.size ≤ k := by
  rintro k (⟨b, q, hb, rfl⟩ | ⟨l, x, hx, hkk⟩)
  ·obtain ⟨q', hq', _⟩ := Kr (c := c) hb
   exact .inl (.inl ⟨b, q', hq', rfl⟩)
  ·rcases hold l x hx with ⟨rfl, rfl⟩ | ⟨e1, _, e3⟩
   ·rw [hGn] at hkk
    rcases hat k hkk with ⟨l', x', _, h2, h3⟩ | h2
    ·exact .inl (.inr ⟨l', x', h2, h3⟩)
    ·exact .inr h2
   ·rw [hG l e1] at hkk
    exact .inl (.inr ⟨l, x, e3, hkk⟩)
 have hblk : ∀ k, k < w.heap.size → (∀ l x, c = some l → Ag s l = some x → (G.ow l).ownBlock ≠ some k) → w'.heap[k]? = w.heap[k]? :=
  fun k hk1 hk2 => hk.block k hk1 (by rintro ⟨l, x, e1, e2, e3⟩; exact hk2 l x e1 e2 e3)
 have hok : ∀ k, okS F s G w k → okS F (Be (gone s c) n (some o)) (G.setO n v') w' k ∧ w'.heap[k]? = w.heap[k]? := by
  intro k hk1
  refine ⟨⟨Nat.lt_of_lt_of_le hk1.1 hk.size, hk1.2.1, fun hL => ?_⟩, hblk k hk1.1 fun l x e1 e2 e3 => hk1.2.2 (.inr ⟨l, x, e2, e3⟩)⟩
  rcases hlive k hL with h2 | h2
  ·exact hk1.2.2 h2
  ·have := hk1.1; omega
 have htr : ∀ l v, l.noO n = true → F5 c l = l → HR F s G w l v → HR F (Be (gone s c) n (some o)) (G.setO n v') w' l v := by
  intro l v hl hgl hr
  refine HL.tr (G := G) hok (fun _ _ => ⟨rfl, rfl⟩) (fun q hq => hG q ?_) (fun q x' hq hx => ?_) hr
  ·rintro rfl
   rw [hl] at hq
   cases hq
  ·rcases hold q x' hx with ⟨rfl, _⟩ | ⟨_, _, e3⟩
   ·rw [hl] at hq; cases hq
   ·exact ⟨x', e3, Nat.le_refl _, rfl⟩
 have hdead : ∀ v, v.oneCell' = true → HR F (Be (gone s c) n (some o)) (G.setO n v') w' .dead v := fun v hv => hv
 have htr2 : ∀ l v, (F5 c l).noO n = true → HR F s G w l v → HR F (Be (gone s c) n (some o)) (G.setO n v') w' (F5 c l) v := by
  intro l v hl hr
  have hcase : F5 c l = l ∨ F5 c l = .dead := by
   cases c with
   | none => exact .inl rfl
   | some m =>
    simp only [F5, Ej]
    split <;> (try split) <;> first | exact .inr rfl | exact .inl rfl
  rcases hcase with e | e
  ·rw [e] at hl ⊢
   exact htr l v hl e hr
  ·rw [e]
   exact hdead v hr.one
 have hH : Holds F (Be (gone s c) n (some o)) (G.setO n v') a.tmps.toList w' := by
  refine ⟨?_, ?_, ?_, h.bb' c n o, ?_, ?_, ?_, ?_, ?_, h.glOf (fun k hk1 hk2 => hblk k hk1 fun l x _ e2 e3 => hk2 (.inr ⟨l, x, e2, e3⟩)) hlive⟩
  ·have h5 : All2 (HA (HR F s G w)) s.slots a.tmps.toList := h.slots
   have hall2 := Ns hall
   show All2 _ (gone s c).slots _
   rw [Be8] at hall2 ⊢
   cases c with
   | none => exact h5.imp_mem fun x u hx ha => HA.imp_all (fun l v hl hr => htr2 l v hl hr) (hall2 x hx) ha
   | some m =>
    have h6 : All2 (fun x u => HA (HR F (Be (gone s (some m)) n (some o)) (G.setO n v') w') (AV.map (Ej m) x) u) s.slots a.tmps.toList := by
     refine h5.imp_mem fun x u hx ha => ?_
     have h7 := hall2 (AV.map (Ej m) x) (List.mem_map.2 ⟨x, hx, rfl⟩)
     exact HA.map_all (g := Ej m) (p := L.noO n) (fun l v hl hr => htr2 l v hl hr) h7 ha
    exact h6.map_left
  ·intro b q hb
   obtain ⟨q', hq', rfl⟩ := Kr (c := c) hb
   obtain ⟨cs', et', h1, h2⟩ := h.box b q' hq'
   refine ⟨cs', et', ?_, ?_⟩
   ·show w'.heap[G.bx b]? = _
    rw [hblk _ (Array.getElem?_eq_some_iff.1 h1).1 (fun l x _ e2 => h.bo b q' l x hq' e2)]
    exact h1
   ·have hall2 := Hg hall (A12 (c := c) hq')
    exact All2.map_left (h2.imp_mem fun l u hl hr => htr2 l u (hall2 _ (List.mem_map.2 ⟨l, hl, rfl⟩)) hr)
  ·intro l x hx
   rcases hold l x hx with ⟨rfl, rfl⟩ | ⟨e1, e2, e3⟩
   ·exact ⟨h0, cs, by rw [hGn]; exact hr, he.mono hok⟩
   ·obtain ⟨g0, cs', g1, g2⟩ := h.own l x e3
    refine ⟨g0, cs', ?_, g2.mono hok⟩
    rw [hG l e1]
    refine Bk0 g1 fun k hkk => hblk k (g1.lt k hkk).2 fun l' x' c1 c2 c3 => ?_
    have := h.oo l l' x x' k e3 c2 hkk c3
    subst this
    exact e2 c1
  ·intro b q l x hb hx e
   obtain ⟨q', hq', _⟩ := Kr (c := c) hb
   rcases hold l x hx with ⟨rfl, rfl⟩ | ⟨e1, e2, e3⟩
   ·rw [hGn] at e
    rcases hat _ e with ⟨l', x', _, g2, g3⟩ | g2
    ·exact h.bo b q' l' x' hq' g2 g3
    ·have := h.lt (.inl ⟨b, q', hq', rfl⟩)
     have e8 : (G.setO l v').bx b = G.bx b := rfl
     rw [e8] at g2
     omega
   ·rw [hG l e1] at e
    exact h.bo b q' l x hq' e3 e
  ·intro l l' x x' k hx hx' e e'
   rcases hold l x hx with ⟨rfl, rfl⟩ | ⟨e1, e2, e3⟩ <;> rcases hold l' x' hx' with ⟨f1, rfl⟩ | ⟨f1, f2, f3⟩
   ·exact f1.symm
   ·rw [hGn] at e
    rw [hG l' f1] at e'
    rcases hat _ e with ⟨m, y, g1, g2, g3⟩ | g2
    ·have := h.oo m l' y x' k g2 f3 g3 e'
     subst this
     exact absurd g1 f2
    ·have := h.lt (.inr ⟨l', x', f3, e'⟩)
     omega
   ·subst f1
    rw [hGn] at e'
    rw [hG l e1] at e
    rcases hat _ e' with ⟨m, y, g1, g2, g3⟩ | g2
    ·have := h.oo m l y x k g2 e3 g3 e
     subst this
     exact absurd g1 e2
    ·have := h.lt (.inr ⟨l, x, e3, e⟩)
     omega
   ·rw [hG l e1] at e
    rw [hG l' f1] at e'
    exact h.oo l l' x x' k e3 f3 e e'
  ·intro k hkk hF
   rcases hlive k hkk with g1 | g1
   ·exact h.nF k g1 hF
   ·have := h.Flt k hF; omega
  ·exact fun k hkk => Nat.lt_of_lt_of_le (h.Flt k hkk) hk.size
  ·intro b q hb cs' et' fr' hc'
   obtain ⟨q', hq', _⟩ := Kr (c := c) hb
   obtain ⟨cs2, et2, h1, h2⟩ := h.box b q' hq'
   have hc2 : w'.heap[G.bx b]? = some (.cells cs' et' fr') := hc'
   rw [hblk _ (Array.getElem?_eq_some_iff.1 h1).1 (fun l x _ e2 => h.bo b q' l x hq' e2)] at hc2
   exact h.ty b q' hq' cs' et' fr' hc2
 refine ⟨hH.put d (v := lf (.own n)) ⟨hGn.symm, h1c⟩, Step.trans (s1 := Be (gone s c) n (some o)) ⟨⟨hk.os, hk.tape, hk.output, hk.size, fun k hk1 hk2 => hblk k hk1 fun l x _ e2 e3 => hk2 (.inr ⟨l, x, e2, e3⟩)⟩, hlive, fun b hb => ⟨rfl, rfl⟩, fun l hl x hx => ?_⟩ (Step.put d _)⟩
 rcases hold l x hx with ⟨rfl, rfl⟩ | ⟨e1, e2, e3⟩
 ·omega
 ·exact ⟨⟨x, e3⟩, hG l e1⟩
end
section
variable {P : Program} {F : Nat → Prop} {s s' : St} {G : Gm} {a : Act} {w : World} {o : Oper} {v : AV} {vals : List Value}
theorem Avb {f : L → L} {b : Nat} {ls : List L} (h : Ah (s.map f) b = some ls) : ∃ q, Ah s b = some q ∧ ls = q.map f := by
 unfold Ah St.map at h
 simp only [List.getElem?_map] at h
 unfold Ah
 cases he : s.boxes[b]? with
 | none => simp [he] at h
 | some x =>
  cases x with
  | none => simp [he] at h
  | some q => simp [he] at h; exact ⟨q, rfl, h.symm⟩
theorem I6 {n : Nat} {x : Own} (hx : Ag s n = some x) : frz s n = Be (s.map (frzL n ⟨.slice x.t, x.xs⟩)) n none := by unfold frz; rw [hx]
theorem Av3 {n : Nat} {x : Own} (hx : Ag s n = some x) : n < s.owns.length := by
 unfold Ag at hx
 cases he : s.owns[n]? with
 | none => simp [he] at hx
 | some y => exact (List.getElem?_eq_some_iff.1 he).1
theorem Hq (n l : Nat) : Ag (frz s n) l = if l = n then none else Ag s l := by
 cases hx : Ag s n with
 | none =>
  have : frz s n = s := by unfold frz; rw [hx]
  rw [this]
  split
  ·rename_i e; rw [e]; exact hx
  ·rfl
 | some x =>
  rw [I6 hx, Rn (s := s.map _) (Av3 hx)]
  rfl
theorem Att {n b : Nat} {ls : List L} (h : Ah (frz s n) b = some ls) : ∃ q, Ah s b = some q := by
 cases hx : Ag s n with
 | none =>
  have : frz s n = s := by unfold frz; rw [hx]
  rw [this] at h
  exact ⟨ls, h⟩
 | some x =>
  rw [I6 hx] at h
  obtain ⟨q, hq, _⟩ := Avb (f := frzL n ⟨.slice x.t, x.xs⟩) h
  exact ⟨q, hq⟩
theorem Hp (h : Holds F s G vals w) {n k : Nat} (hk : Live (frz s n) G k) : Live s G k ∧ ∀ x, Ag s n = some x → (G.ow n).ownBlock ≠ some k := by
 rcases hk with ⟨b, q, hb, rfl⟩ | ⟨l, x, hx, hkk⟩
 ·obtain ⟨q', hq'⟩ := Att hb
  exact ⟨.inl ⟨b, q', hq', rfl⟩, fun x hx => h.bo b q' n x hq' hx⟩
 ·rw [Hq] at hx
  split at hx
  ·cases hx
  ·rename_i e
   exact ⟨.inr ⟨l, x, hx, hkk⟩, fun y hy e2 => e (h.oo l n x y k hx hy hkk e2)⟩
theorem M0 (h : Holds F s G vals w) (n : Nat) : Holds F (frz s n) G vals w := by
 cases hx : Ag s n with
 | none =>
  have : frz s n = s := by unfold frz; rw [hx]
  rw [this]
  exact h
 | some x =>
  have hok : ∀ k, okS F s G w k → okS F (frz s n) G w k ∧ w.heap[k]? = w.heap[k]? := fun k hk => ⟨⟨hk.1, hk.2.1, fun hL => hk.2.2 (Hp h hL).1⟩, rfl⟩
  have hok2 : ∀ k, (okS F s G w k ∨ (G.ow n).ownBlock = some k) → okS F (frz s n) G w k ∧ w.heap[k]? = w.heap[k]? := by
   rintro k (hk | hk)
   ·exact hok k hk
   ·exact ⟨⟨h.lt (.inr ⟨n, x, hx, hk⟩), h.nF k (.inr ⟨n, x, hx, hk⟩), fun hL => (Hp h hL).2 x hx hk⟩, rfl⟩
  have hl : ∀ l v, HR F s G w l v → HR F (frz s n) G w (frzL n ⟨.slice x.t, x.xs⟩ l) v := by
   intro l v hr
   have gen : l.noO n = true → HR F (frz s n) G w l v := fun hno => by
    refine HL.tr (G := G) hok (fun _ _ => ⟨rfl, rfl⟩) (fun _ _ => rfl) (fun q x' hq hx' => ?_) hr
    have h5 : Ag (frz s n) q = some x' := hx'
    rw [Hq] at h5
    split at h5
    ·cases h5
    ·exact ⟨x', h5, Nat.le_refl _, rfl⟩
   unfold frzL
   split
   ·rename_i l'
    split
    ·rename_i e
     subst e
     have := Jh h hx
     rw [← show v = G.ow l' from hr.1] at this
     exact Rep.mono (by rw [show v = G.ow l' from hr.1]; exact hok2) this
    ·rename_i e
     exact gen (by simpa [L.noO] using e)
   ·rename_i l' i q z
    split
    ·exact hr.one
    ·rename_i e
     exact gen (by simpa [L.noO] using e)
   ·rename_i h1 h2
    refine gen ?_
    cases l <;> first | rfl | exact absurd rfl (h1 _) | exact absurd rfl (h2 _ _ _ _)
  have hbx : ∀ {b ls}, Ah (frz s n) b = some ls → ∃ q, Ah s b = some q ∧ ls = q.map (frzL n ⟨.slice x.t, x.xs⟩) := by
   intro b ls hb
   rw [I6 hx] at hb
   exact Avb (f := frzL n ⟨.slice x.t, x.xs⟩) hb
  refine ⟨?_, ?_, ?_, ?_, ?_, ?_, ?_, h.Flt, fun b ls hb => (hbx hb).elim fun q hq => h.ty b q hq.1, h.glOf (fun _ _ _ => rfl) fun k hk => .inl (Hp h hk).1⟩
  ·have e : (frz s n).slots = s.slots.map (AV.map (frzL n ⟨.slice x.t, x.xs⟩)) := by rw [I6 hx]; rfl
   rw [e]
   exact All2.map_left (h.slots.imp fun _ _ ha => HA.map hl ha)
  ·intro b ls hb
   obtain ⟨q, hq, rfl⟩ := hbx hb
   obtain ⟨cs, et, h1, h2⟩ := h.box b q hq
   exact ⟨cs, et, h1, All2.map_left (h2.imp hl)⟩
  ·intro l y hy
   rw [Hq] at hy
   split at hy
   ·cases hy
   ·obtain ⟨h0, cs, h1, h2⟩ := h.own l y hy
    exact ⟨h0, cs, h1, h2.mono hok⟩
  ·intro b b' q q' hb hb'
   obtain ⟨p, hp, _⟩ := hbx hb
   obtain ⟨p', hp', _⟩ := hbx hb'
   exact h.bb b b' p p' hp hp'
  ·intro b q l y hb hy
   obtain ⟨p, hp, _⟩ := hbx hb
   rw [Hq] at hy
   split at hy
   ·cases hy
   ·exact h.bo b p l y hp hy
  ·intro l l' y y' k hy hy'
   rw [Hq] at hy hy'
   split at hy <;> split at hy' <;> first | (cases hy; done) | (cases hy'; done) | exact h.oo l l' y y' k hy hy'
  ·exact fun k hk => h.nF k (Hp h hk).1
theorem Aat (h : Holds F s G vals w) (n nb no : Nat) : Step nb no s G w (frz s n) G w :=
 ⟨Keeps.refl _ _, fun k hk => .inl (Hp h hk).1, fun _ _ => ⟨rfl, rfl⟩, fun l _ x hx => by
  rw [Hq] at hx
  split at hx
  ·cases hx
  ·exact ⟨⟨x, hx⟩, rfl⟩⟩
theorem Qz : ∀ (ms : List Nat) {s : St}, Holds F s G vals w → Holds F (By s ms) G vals w
 | [], _, h => h
 | m :: ms, _, h => Qz ms (M0 h m)
theorem Q0 (nb no : Nat) : ∀ (ms : List Nat) {s : St}, Holds F s G vals w → Step nb no s G w (By s ms) G w
 | [], s, h => Step.refl _ _ _ _ _
 | m :: ms, s, h => (Aat h m nb no).trans (Q0 nb no ms (M0 h m))
theorem Mz : ∀ (ms : List Nat) (s : St) (l : Nat), Ag (By s ms) l = if l ∈ ms then none else Ag s l
 | [], s, l => by simp [By]
 | m :: ms, s, l => by
  rw [By, Mz ms, Hq]
  by_cases h1 : l ∈ ms
  ·simp [h1]
  ·by_cases h2 : l = m <;> simp [h1, h2]
theorem Aaq : ∀ (ms : List Nat) {s : St}, Holds F s G vals w → ∀ {k}, Live (By s ms) G k → Live s G k ∧ ∀ m ∈ ms, ∀ x, Ag s m = some x → (G.ow m).ownBlock ≠ some k
 | [], s, h, k, hk => ⟨hk, fun m hm => by simp at hm⟩
 | m :: ms, s, h, k, hk => by
  obtain ⟨h1, h2⟩ := Aaq ms (M0 h m) hk
  obtain ⟨h3, h4⟩ := Hp h h1
  refine ⟨h3, fun m' hm' x hx => ?_⟩
  rcases List.mem_cons.1 hm' with rfl | hm'
  ·exact h4 x hx
  ·by_cases e : m' = m
   ·subst e; exact h4 x hx
   ·exact h2 m' hm' x (by rw [Hq, if_neg e]; exact hx)
theorem Aar (h : Holds F s G vals w) (ms : List Nat) {k : Nat} (hk : okS F s G w k ∨ ∃ m ∈ ms, ∃ x, Ag s m = some x ∧ (G.ow m).ownBlock = some k) : okS F (By s ms) G w k := by
 rcases hk with hk | ⟨m, hm, x, hx, hk⟩
 ·exact ⟨hk.1, hk.2.1, fun hL => hk.2.2 (Aaq ms h hL).1⟩
 ·exact ⟨h.lt (.inr ⟨m, x, hx, hk⟩), h.nF k (.inr ⟨m, x, hx, hk⟩), fun hL => (Aaq ms h hL).2 m hm x hx hk⟩
theorem Ats : ∀ (ms : List Nat) {s : St} {b : Nat} {ls : List L}, Ah (By s ms) b = some ls → ∃ q, Ah s b = some q
 | [], _, _, ls, h => ⟨ls, h⟩
 | m :: ms, s, b, ls, h => by
  obtain ⟨q, hq⟩ := Ats ms h
  exact Att hq
theorem Abt (h : Holds F s G vals w) (ms : List Nat) : ∀ (ts : List Ty) (ls : List L) (ps : List PL) (vs : List Value), G5 s ts ls = some ps → All2 (HR F s G w) ls vs → (∀ m ∈ B4 ls, m ∈ ms) →
  All2 (RepL w (okS F (By s ms) G w)) ps vs
 | [], [], ps, vs, h1, h2, _ => by cases h1; cases h2; exact .nil
 | t :: ts, l :: ls, ps, vs, h1, h2, h3 => by
  simp only [G5] at h1
  obtain ⟨p, hp, h4⟩ := Option.bind_eq_some_iff.1 h1
  obtain ⟨q, hq, rfl⟩ := Option.map_eq_some_iff.1 h4
  cases h2 with
  | cons h5 h6 =>
   refine .cons ?_ (Abt h ms ts ls q _ hq h6 fun m hm => h3 m ?_)
   ·unfold plOf at hp
    split at hp
    ·cases hp
     exact RepL.mono (fun k hk => ⟨Aar h ms (.inl hk), rfl⟩) h5
    ·rename_i l'
     obtain ⟨x, hx, rfl⟩ := Option.map_eq_some_iff.1 hp
     have h7 := Jh h hx
     rw [← h5.1] at h7
     refine Rep.mono (fun k hk => ⟨Aar h ms ?_, rfl⟩) h7
     rcases hk with hk | hk
     ·exact .inl hk
     ·exact .inr ⟨l', h3 l' (by simp [B4]), x, hx, by rw [h5.1] at hk; exact hk⟩
    ·split at hp
     ·cases hp
      rename_i e
      rw [show _ = _ from h5]
      exact ⟨none, 0, rfl, Nat.le_refl _, Nat.zero_le _, fun hne => absurd rfl hne⟩
     ·cases hp
    ·cases hp
   ·cases l <;> simp only [B4, List.mem_cons] <;> first | exact hm | exact .inr hm
 | [], _ :: _, _, _, h1, _, _ => by cases h1
 | _ :: _, [], _, _, h1, _, _ => by cases h1
theorem Acf (h : Holds F s G vals w) {b : Nat} {ls : List L} (hb : Ah s b = some ls) {k : Nat} {new : List L} (hk : k + new.length ≤ ls.length) {vs : List Value} (hv : All2 (HR F s G w) new vs) {cs : Array Value} {et : Nat}
  (hc : w.heap[G.bx b]? = some (.cells cs et (0, 0))) : Holds F (Bc s b (splice ls k new)) G vals (w.setRow (G.bx b) (cs.toList.take k ++ vs ++ cs.toList.drop (k + vs.length)).toArray) ∧
   ∀ nb no, Step nb no s G w (Bc s b (splice ls k new)) G (w.setRow (G.bx b) (cs.toList.take k ++ vs ++ cs.toList.drop (k + vs.length)).toArray) := by
 have hlt : b < s.boxes.length := by
  unfold Ah at hb
  cases he : s.boxes[b]? with
  | none => simp [he] at hb
  | some y => exact (List.getElem?_eq_some_iff.1 he).1
 have hbx := fun b' => Sv (s := s) (ls := splice ls k new) hlt b'
 generalize hw : w.setRow (G.bx b) (cs.toList.take k ++ vs ++ cs.toList.drop (k + vs.length)).toArray = w'
 have hsz : w'.heap.size = w.heap.size := by rw [← hw]; simp
 have hoth : ∀ j, j ≠ G.bx b → w'.heap[j]? = w.heap[j]? := fun j hj => by rw [← hw]; exact setRow_other w _ _ _ hj
 have hself : w'.heap[G.bx b]? = some (.cells (cs.toList.take k ++ vs ++ cs.toList.drop (k + vs.length)).toArray et (0, 0)) := by rw [← hw]; exact setRow_heap w _ cs _ et _ hc
 have hl1 : ∀ j, Live (Bc s b (splice ls k new)) G j ↔ Live s G j := by
  intro j
  constructor
  ·rintro (⟨b', q, hb', rfl⟩ | hr)
   ·rw [hbx] at hb'
    split at hb'
    ·rename_i e; subst e; exact .inl ⟨b', ls, hb, rfl⟩
    ·exact .inl ⟨b', q, hb', rfl⟩
   ·exact .inr hr
  ·rintro (⟨b', q, hb', rfl⟩ | hr)
   ·by_cases e : b' = b
    ·exact .inl ⟨b', splice ls k new, by rw [hbx, if_pos e], rfl⟩
    ·exact .inl ⟨b', q, by rw [hbx, if_neg e]; exact hb', rfl⟩
   ·exact .inr hr
 have hok : ∀ j, okS F s G w j → okS F (Bc s b (splice ls k new)) G w' j ∧ w'.heap[j]? = w.heap[j]? := by
  intro j hj
  exact ⟨⟨by rw [hsz]; exact hj.1, hj.2.1, fun hL => hj.2.2 ((hl1 j).1 hL)⟩, hoth j fun e => hj.2.2 (.inl ⟨b, ls, hb, e.symm⟩)⟩
 have htr : ∀ l v, HR F s G w l v → HR F (Bc s b (splice ls k new)) G w' l v := fun l v hr => HL.tr (G := G) hok (fun _ _ => ⟨rfl, rfl⟩) (fun _ _ => rfl) (fun q x' _ hx => ⟨x', hx, Nat.le_refl _, rfl⟩) hr
 refine ⟨⟨?_, ?_, ?_, ?_, ?_, h.oo, ?_, ?_, ?_, h.glOf (fun j _ hj => hoth j fun e => hj (.inl ⟨b, ls, hb, e.symm⟩)) fun j hj => .inl ((hl1 j).1 hj)⟩, fun nb no => ⟨⟨by rw [← hw]; rfl, by rw [← hw]; rfl, by rw [← hw]; rfl, by rw [hsz]; exact Nat.le_refl _, fun j _ hj => hoth j fun e => hj (.inl ⟨b, ls, hb, e.symm⟩)⟩, fun j hj => .inl ((hl1 j).1 hj), fun _ _ => ⟨rfl, rfl⟩, fun l _ x hx => ⟨⟨x, hx⟩, rfl⟩⟩⟩
 ·exact h.slots.imp fun _ _ ha => ha.imp htr
 ·intro b' q hb'
  rw [hbx] at hb'
  split at hb'
  ·rename_i e
   subst e
   cases hb'
   obtain ⟨cs2, et2, h1, h2⟩ := h.box b' ls hb
   rw [hc] at h1
   cases h1
   refine ⟨_, et, hself, ?_⟩
   have h9 : All2 (HR F s G w) (splice ls k new) (cs.toList.take k ++ vs ++ cs.toList.drop (k + vs.length)) := by
    unfold splice
    rw [show new.length = vs.length from hv.len]
    exact ((h2.take k).app hv).app (h2.drop _)
   simp only [List.toList_toArray]
   exact h9.imp htr
  ·rename_i e
   obtain ⟨cs2, et2, h1, h2⟩ := h.box b' q hb'
   exact ⟨cs2, et2, by rw [hoth _ fun e2 => e (h.bb b' b q ls hb' hb e2)]; exact h1, h2.imp htr⟩
 ·intro l x hx
  obtain ⟨h0, cs2, h1, h2⟩ := h.own l x hx
  refine ⟨h0, cs2, Bk0 h1 fun j hj => hoth j fun e => ?_, h2.mono hok⟩
  subst e
  exact h.bo b ls l x hb hx hj
 ·intro b1 b2 q1 q2 h1 h2 e
  rw [hbx] at h1 h2
  split at h1 <;> split at h2
  ·rename_i e1 e2; rw [e1, e2]
  ·rename_i e1 e2; subst e1; exact h.bb _ _ _ _ hb h2 e
  ·rename_i e1 e2; subst e2; exact h.bb _ _ _ _ h1 hb e
  ·exact h.bb _ _ _ _ h1 h2 e
 ·intro b1 q1 l x h1 hx
  rw [hbx] at h1
  split at h1
  ·rename_i e1; subst e1; exact h.bo _ _ l x hb hx
  ·exact h.bo _ _ l x h1 hx
 ·exact fun j hj => h.nF j ((hl1 j).1 hj)
 ·exact fun j hj => by rw [hsz]; exact h.Flt j hj
 ·intro b' q hb' cs3 et3 fr3 hc3
  by_cases e : G.bx b' = G.bx b
  ·rw [e, hself] at hc3
   cases hc3
   have hbb : b' = b := by
    rw [hbx] at hb'
    split at hb'
    ·rename_i e2; exact e2
    ·exact h.bb b' b q ls hb' hb e
   subst hbb
   exact h.ty b' ls hb _ _ _ hc
  ·rw [hoth _ e] at hc3
   rw [hbx] at hb'
   split at hb'
   ·rename_i e2; exact absurd (by rw [e2]) e
   ·exact h.ty b' q hb' cs3 et3 fr3 hc3
end
section
variable {P : Program} {F : Nat → Prop} {s s' : St} {G : Gm} {a : Act} {w : World} {o : Oper} {v : AV} {vals : List Value}
theorem Vi {t : Ty} : ∀ {xs : List t.den} {i : Nat} {x : t.den}, xs[i]? = some x → ∃ a b, xs.flatMap (flat t) = a ++ flat t x ++ b ∧ a.length = i * t.size ∧ ∀ y, (xs.set i y).flatMap (flat t) = a ++ flat t y ++ b
 | [], i, x, h => by simp at h
 | y :: ys, 0, x, h => by simp at h; subst h; exact ⟨[], ys.flatMap (flat t), by simp, by simp, fun y => by simp⟩
 | y :: ys, i + 1, x, h => by
  obtain ⟨a, b, e, hl, hs⟩ := Vi (xs := ys) (i := i) (x := x) (by simpa using h)
  exact ⟨flat t y ++ a, b, by simp [e], by simp [hl, Fx, Nat.add_mul, Nat.add_comm], fun z => by simp [hs z]⟩
theorem Bkd {α : Type} (cur vs : List α) (p m : Nat) (hp : p + vs.length ≤ m) (hm : m ≤ cur.length) :
  (cur.take p ++ vs ++ cur.drop (p + vs.length)).take m = (cur.take m).take p ++ vs ++ (cur.take m).drop (p + vs.length) := by
 have hl : (cur.take p ++ vs).length = p + vs.length := by rw [List.length_append, List.length_take]; omega
 rw [List.take_append, hl, List.take_of_length_le (by rw [hl]; exact hp), List.take_take, Nat.min_eq_left (by omega), List.drop_take]
theorem Bj6 (h : Holds F s G vals w) {l : Nat} {x : Own} (hx : Ag s l = some x) {g n cap : Nat} (hG : G.ow l = .slice (some ⟨g, 0, none⟩) n cap) {cur cur' : Array Value} (hh : w.heap[g]? = some (.cells cur x.e (0, 0))) (hs : cur'.size = cur.size)
  {xs' : List x.t.den} (hl : xs'.length = x.xs.length) (hr : RepRow w (okS F s G w) x.t xs' (cur'.toList.take (xs'.length * x.t.size))) :
  Holds F (Be s l (some ⟨x.e, x.t, xs'⟩)) G vals (w.setRow g cur') ∧ ∀ nb no, Step nb no s G w (Be s l (some ⟨x.e, x.t, xs'⟩)) G (w.setRow g cur') := by
 have hox := fun q => Rn (s := s) (x := some (⟨x.e, x.t, xs'⟩ : Own)) (Av3 hx) q
 generalize hw : w.setRow g cur' = w'
 have hsz : w'.heap.size = w.heap.size := by rw [← hw]; simp
 have hoth : ∀ j, j ≠ g → w'.heap[j]? = w.heap[j]? := fun j hj => by rw [← hw]; exact setRow_other w _ _ _ hj
 have hself : w'.heap[g]? = some (.cells cur' x.e (0, 0)) := by rw [← hw]; exact setRow_heap w _ cur _ x.e _ hh
 have hgl : Live s G g := .inr ⟨l, x, hx, by rw [hG]; rfl⟩
 have hl1 : ∀ j, Live (Be s l (some ⟨x.e, x.t, xs'⟩)) G j ↔ Live s G j := by
  intro j
  constructor
  ·rintro (hr | ⟨l', q, hq, hj⟩)
   ·exact .inl hr
   ·rw [hox] at hq
    split at hq
    ·rename_i e; subst e; exact .inr ⟨l', x, hx, hj⟩
    ·exact .inr ⟨l', q, hq, hj⟩
  ·rintro (hr | ⟨l', q, hq, hj⟩)
   ·exact .inl hr
   ·by_cases e : l' = l
    ·exact .inr ⟨l', _, by rw [hox, if_pos e], hj⟩
    ·exact .inr ⟨l', q, by rw [hox, if_neg e]; exact hq, hj⟩
 have hok : ∀ j, okS F s G w j → okS F (Be s l (some ⟨x.e, x.t, xs'⟩)) G w' j ∧ w'.heap[j]? = w.heap[j]? := by
  intro j hj
  exact ⟨⟨by rw [hsz]; exact hj.1, hj.2.1, fun hL => hj.2.2 ((hl1 j).1 hL)⟩, hoth j fun e => hj.2.2 (by rw [e]; exact hgl)⟩
 have htr : ∀ q v, HR F s G w q v → HR F (Be s l (some ⟨x.e, x.t, xs'⟩)) G w' q v := fun q v hr => HL.tr (G := G) hok (fun _ _ => ⟨rfl, rfl⟩) (fun _ _ => rfl) (fun q x' _ hx' => by
  have h5 : Ag (Be s l (some ⟨x.e, x.t, xs'⟩)) q = some x' := hx'
  rw [hox] at h5
  split at h5
  ·rename_i e; subst e; cases h5; exact ⟨x, hx, by simp [hl], rfl⟩
  ·exact ⟨x', h5, Nat.le_refl _, rfl⟩) hr
 refine ⟨⟨?_, ?_, ?_, h.bb, ?_, ?_, ?_, ?_, ?_, h.glOf (fun j _ hj => hoth j fun e => hj (by rw [e]; exact hgl)) fun j hj => .inl ((hl1 j).1 hj)⟩, fun nb no => ⟨⟨by rw [← hw]; rfl, by rw [← hw]; rfl, by rw [← hw]; rfl, by rw [hsz]; exact Nat.le_refl _, fun j _ hj => hoth j fun e => hj (by rw [e]; exact hgl)⟩, fun j hj => .inl ((hl1 j).1 hj), fun _ _ => ⟨rfl, rfl⟩, fun l' _ q hq => ?_⟩⟩
 ·exact h.slots.imp fun _ _ ha => ha.imp htr
 ·intro b q hb
  obtain ⟨cs2, et2, h1, h2⟩ := h.box b q hb
  have hne : G.bx b ≠ g := fun e => h.bo b q l x hb hx (by rw [hG, e]; rfl)
  exact ⟨cs2, et2, by rw [hoth _ hne]; exact h1, h2.imp htr⟩
 ·intro l' q hq
  rw [hox] at hq
  split at hq
  ·rename_i e
   subst e
   cases hq
   obtain ⟨h0, cs2, h1, h2⟩ := h.own l' x hx
   refine ⟨h0, cur'.toList.take (xs'.length * x.t.size), ⟨?_, .inr ?_⟩, hr.mono hok⟩
   ·have := hr.len
    exact this
   ·rcases h1.2 with ⟨e1, _⟩ | ⟨g', cap', cur2, e1, e2, e3, e4, e5, e6, e7⟩
    ·rw [hG] at e1; cases e1
    ·rw [hG] at e1
     cases e1
     rw [hh] at e3
     cases e3
     refine ⟨g, cap, cur', ?_, Nat.zero_le _, hself, by simpa [hl] using e4, e5, by rw [hs]; exact e6, rfl⟩
     rw [hG]
     simp [hl]
  ·rename_i e
   obtain ⟨h0, cs2, h1, h2⟩ := h.own l' q hq
   refine ⟨h0, cs2, Bk0 h1 fun j hj => hoth j fun e2 => ?_, h2.mono hok⟩
   subst e2
   exact e (h.oo l' l q x j hq hx hj (by rw [hG]; rfl))
 ·intro b q l' y hb hy
  rw [hox] at hy
  split at hy
  ·rename_i e; subst e; exact h.bo b q l' x hb hx
  ·exact h.bo b q l' y hb hy
 ·intro l1 l2 x1 x2 j h1 h2
  rw [hox] at h1 h2
  split at h1 <;> split at h2
  ·rename_i e1 e2; intro _ _; rw [e1, e2]
  ·rename_i e1 e2; subst e1; exact h.oo _ _ _ _ _ hx h2
  ·rename_i e1 e2; subst e2; exact h.oo _ _ _ _ _ h1 hx
  ·exact h.oo _ _ _ _ _ h1 h2
 ·exact fun j hj => h.nF j ((hl1 j).1 hj)
 ·exact fun j hj => by rw [hsz]; exact h.Flt j hj
 ·intro b q hb cs3 et3 fr3 hc3
  have hne : G.bx b ≠ g := fun e => h.bo b q l x hb hx (by rw [hG, e]; rfl)
  rw [hoth _ hne] at hc3
  exact h.ty b q hb cs3 et3 fr3 hc3
 ·rw [hox] at hq
  split at hq
  ·rename_i e; subst e; exact ⟨⟨x, hx⟩, rfl⟩
  ·exact ⟨⟨q, hq⟩, rfl⟩
def EOK (P : Program) (F : Nat → Prop) (s : St) (G : Gm) (a : Act) (w : World) (o : Oper) (s' : St) : Prop :=
 ∀ (K : Act → World → Prop) (Q : Exit → Act → World → Prop), (∀ G' a' w', Holds F s' G' a'.tmps.toList w' → Step N0 N0 s G w s' G' w' → a'.defers = a.defers → K a' w') → o.wp P a w K Q
theorem Ia (a : Act) (d : Option Tmp) (u : Value) : (a.put d u).defers = a.defers := by cases d <;> rfl
theorem EOK.value {u : Value} {w' : World} {G' : Gm} (hr : (execOp a.eval o).run P w = .ok (.value u) w') (h : Holds F s' G' (a.put o.dst u).tmps.toList w') (hs : Step N0 N0 s G w s' G' w') : EOK P F s G a w o s' := by
 intro K Q hK
 unfold Oper.wp
 rw [hr]
 exact hK _ _ _ h hs (Ia _ _ _)
theorem EOK.skip {w' : World} {G' : Gm} (hr : (execOp a.eval o).run P w = .ok .skip w') (h : Holds F s' G' (a.put o.dst undef).tmps.toList w') (hs : Step N0 N0 s G w s' G' w') : EOK P F s G a w o s' := by
 intro K Q hK
 unfold Oper.wp
 rw [hr]
 exact hK _ _ _ h hs (Ia _ _ _)
theorem L5 (h : Holds F s G a.tmps.toList w) (hv : ((opV P s o.op).bind fun v => Oc.ok (s.put o.dst v)).val = some s') : EOK P F s G a w o s' := by
 rw [Oc.val_bind] at hv
 obtain ⟨v, h1, h2⟩ := Option.bind_eq_some_iff.1 hv
 cases h2
 obtain ⟨u, w', hr, hg, hh⟩ := Bgv h h1
 exact .value hr ((h.grew hg).put o.dst hh) ((Step.grew hg).trans (Step.put _ _))
theorem Jr {d : Nat} {ls : List L} (h : (Il s d ls).val = some s') : Ck s (N0 + d) = true ∧ s' = (Bc s (N0 + d) ls).put (some d) (lf (.ptr (N0 + d) 0)) := by
 unfold Il at h
 split at h
 ·rename_i hf; cases h; exact ⟨hf, rfl⟩
 ·cases h
theorem In {d : Nat} {x : Own} (h : (Df s d x).val = some s') : D0 s (N0 + d) = true ∧ s' = (Be s (N0 + d) (some x)).put (some d) (lf (.own (N0 + d))) := by
 unfold Df at h
 split at h
 ·rename_i hf; cases h; exact ⟨hf, rfl⟩
 ·cases h
theorem Avg {bl : List Nat} {t n : Nat} {vals : List Value} (h : Holds F s G vals w) (ht : G.et n = t) : Holds F (Kz bl t n s) G vals w ∧ Step N0 N0 s G w (Kz bl t n s) G w := by
 unfold Kz
 split
 ·split
  ·rename_i r hr
   obtain ⟨cs, et, hc, hl⟩ := h.box n _ hr
   cases hcs : cs.toList with
   | nil => rw [hcs] at hl; cases hl
   | cons v vs =>
    rw [hcs] at hl
    cases hl with
    | cons h0 h1 =>
     have hlt : n < s.boxes.length := by
      unfold Ah at hr
      cases he : s.boxes[n]? with
      | none => simp [he] at hr
      | some y => exact (List.getElem?_eq_some_iff.1 he).1
     have hbx := fun b' => Sv (s := s) (ls := .bld n t true :: r) hlt b'
     have hlive : Live (Bc s n (.bld n t true :: r)) G = Live s G := by
      funext j
      simp only [Live, eq_iff_iff]
      constructor
      ·rintro (⟨b', q, hb', rfl⟩ | hr2)
       ·rw [hbx] at hb'
        split at hb'
        ·rename_i e; subst e; exact .inl ⟨_, _, hr, rfl⟩
        ·exact .inl ⟨b', q, hb', rfl⟩
       ·exact .inr hr2
      ·rintro (⟨b', q, hb', rfl⟩ | hr2)
       ·by_cases e : b' = n
        ·exact .inl ⟨b', _, by rw [hbx, if_pos e], rfl⟩
        ·exact .inl ⟨b', q, by rw [hbx, if_neg e]; exact hb', rfl⟩
       ·exact .inr hr2
     have hHR : HR F (Bc s n (.bld n t true :: r)) G w = HR F s G w := by
      unfold HR okS
      rw [hlive]
      rfl
     refine ⟨⟨by rw [hHR]; exact h.slots, fun b ls hb => ?_, fun l x hx => ?_, fun b b' ls ls' hb hb' e => ?_, fun b ls l x hb hx => ?_, h.oo, by rw [hlive]; exact h.nF, h.Flt, fun b ls hb => ?_, by rw [hlive]; exact h.gl⟩, ⟨Keeps.refl _ _, fun j hj => .inl (by rw [hlive] at hj; exact hj), fun _ _ => ⟨rfl, rfl⟩, fun l _ x hx => ⟨⟨x, hx⟩, rfl⟩⟩⟩
     ·rw [hHR]
      rw [hbx] at hb
      split at hb
      ·rename_i e
       subst e
       cases hb
       refine ⟨cs, et, hc, ?_⟩
       rw [hcs]
       exact .cons ⟨h0, ht⟩ h1
      ·exact h.box b ls hb
     ·have hok : okS F (Bc s n (.bld n t true :: r)) G w = okS F s G w := by
       funext j
       simp only [okS, hlive]
      rw [hok]
      exact h.own l x hx
     ·rw [hbx] at hb hb'
      split at hb <;> split at hb'
      ·rename_i e1 e2; rw [e1, e2]
      ·rename_i e1 e2; subst e1; exact h.bb _ _ _ _ hr hb' e
      ·rename_i e1 e2; subst e2; exact h.bb _ _ _ _ hb hr e
      ·exact h.bb _ _ _ _ hb hb' e
     ·rw [hbx] at hb
      split at hb
      ·rename_i e; subst e; exact h.bo _ _ l x hr hx
      ·exact h.bo b ls l x hb hx
     ·rw [hbx] at hb
      split at hb
      ·rename_i e; subst e; exact h.ty _ _ hr
      ·exact h.ty b ls hb
  ·exact ⟨h, Step.refl _ _ _ _ _⟩
 ·exact ⟨h, Step.refl _ _ _ _ _⟩
theorem Ac7 {bl : List Nat} {t d : Nat} {ls : List L} (h : (Im bl t s d ls).val = some s') : Ck s (N0 + d) = true ∧ s' = Kz bl t (N0 + d) ((Bc s (N0 + d) ls).put (some d) (lf (.ptr (N0 + d) 0))) := by
 unfold Im at h
 rw [Oc.val_bind] at h
 obtain ⟨s1, h1, h2⟩ := Option.bind_eq_some_iff.1 h
 cases h2
 obtain ⟨h3, rfl⟩ := Jr h1
 exact ⟨h3, rfl⟩
theorem Aer (h : Holds F s G a.tmps.toList w) {t d : Nat} (ho : o.op = .alloc t) (hd : o.dst = some d) {ls : List L} {bl : List Nat} (hz : Di P t = some ls) (hv : (Im bl t s d ls).val = some s') : EOK P F s G a w o s' := by
 obtain ⟨hf, rfl⟩ := Ac7 hv
 obtain ⟨i, zv, hi, hzz, rfl, h1⟩ := Hc hz
 obtain ⟨h2, h3⟩ := Abk h hf (by omega) (ls := zv.cells.toList.map Br) (fun l hl => by obtain ⟨v, _, rfl⟩ := List.mem_map.1 hl; exact Ls _ _) (cs := zv.cells) t (Is (fun u hu => Jx u hu) _ h1) (some d)
 obtain ⟨h4, h5⟩ := Avg (bl := bl) (t := t) (n := N0 + d) h2 (by simp [Gm.setB])
 rw [← hd] at h4 h5 h3 ⊢
 refine .value (u := .pointer (some ⟨w.heap.size, 0, none⟩)) ?_ h4 (h3.trans h5)
 simp [execOp, ho, Instr.alloc, zeroValue, typeInfo, hi, hzz, newVar, newRow]
theorem e_box (h : Holds F s G a.tmps.toList w) {t d : Nat} {x : Operand} (ho : o.op = .box t x) (hd : o.dst = some d) {ls : List L} {bl : List Nat} (hl : Dq (s.get x) = some ls) (hv : (Im bl t s d ls).val = some s') : EOK P F s G a w o s' := by
 obtain ⟨hf, rfl⟩ := Ac7 hv
 have hall := (Qy hf).2.2
 have h4 := Aa9 (Sm (fun v => Ls _ v) (fun f => rfl) hall x) hl
 obtain ⟨h2, h3⟩ := Abk h hf (by omega) h4 (cs := (a.eval x).cells) t (Rb h hl) (some d)
 obtain ⟨h6, h5⟩ := Avg (bl := bl) (t := t) (n := N0 + d) h2 (by simp [Gm.setB])
 rw [← hd] at h6 h5 h3 ⊢
 refine .value (u := .pointer (some ⟨w.heap.size, 0, none⟩)) ?_ h6 (h3.trans h5)
 simp [execOp, ho, Instr.box, newVar, newRow]
theorem Aug {ls : List L} {cs : List Value} (h : All2 (HR F s G w) ls cs) : ∀ u ∈ cs, u.oneCell' = true := by
 intro u hu
 obtain ⟨i, hi, rfl⟩ := List.getElem_of_mem hu
 have hi2 : cs[i]? = some cs[i] := List.getElem?_eq_getElem hi
 obtain ⟨l, _, hl⟩ := All2.get' h hi2
 exact hl.one
theorem A6l (h : Holds F s G a.tmps.toList w) {t b k n : Nat} {x y : Operand} (ho : o.op = .store t x y) (hd : o.dst = none) (hp : Ax (s.get x) = some (.ptr b k)) {new : List L} (hn : Dq (s.get y) = some new) (hz : Bp P t = some n)
  {ls : List L} (hb : Ah s b = some ls) (hc : new.length = n ∧ k + n ≤ ls.length) : EOK P F s G a w o (Bc s b (splice ls k new)) := by
 obtain ⟨cs, et, hcs, hall⟩ := h.box b ls hb
 have hv := Rb h hn
 have hl1 := hv.len
 have hl2 := hall.len
 have hlt : k + (a.eval y).cells.toList.length ≤ cs.size := by simp at hl1 hl2 ⊢; omega
 obtain ⟨h2, h3⟩ := Acf (k := k) (new := new) h hb (by omega) hv hcs
 have hst := run_storeCells_at P (G.bx b) k et (a.eval y).cells.toList 0 cs w hcs (by simpa using hlt) (Aug hv)
 have e : a.eval x = _ := Bh h hp
 refine .skip ?_ (by rw [hd]; exact h2) (h3 _ _)
 have hsz : (a.eval y).cells.size = n := by simp at hl1; omega
 simp only [execOp, ho, Instr.storeAt, e, Instr.sureAddr, Sem.run_bind, Sem.run_pure, Result.andThen_ok, storeVar, Et hz, hsz]
 simp [hst]
theorem A6m (h : Holds F s G a.tmps.toList w) {t l i k z n : Nat} {x y : Operand} (ho : o.op = .store t x y) (hd : o.dst = none) (hp : Ax (s.get x) = some (.ept l i k z)) {new : List L} (hn : Dq (s.get y) = some new) (hz : Bp P t = some n)
  {q : Own} (hq : Ag s l = some q) (hc : new.length = n ∧ k + n ≤ q.t.size) {ts : List Ty} {ps : List PL} (hps : G5 s ts new = some ps) {x' : q.t.den}
  (hu : unflat q.t ((flat q.t (rdD q.t q.xs i)).take k ++ ps ++ (flat q.t (rdD q.t q.xs i)).drop (k + n)) = some (x', [])) (hno : (B4 new).contains l = false) :
  EOK P F s G a w o (Be (By s (B4 new)) l (some ⟨q.e, q.t, q.xs.set i x'⟩)) := by
 have hv := Rb h hn
 have hl1 := hv.len
 have hlp := Bh h hp
 obtain ⟨g, m, c, hG, hptr, h3⟩ := hlp
 obtain ⟨hi, rfl⟩ := h3 q hq
 have hm : l ∉ B4 new := by simpa using hno
 have h' := Qz (B4 new) h
 have hq' : Ag (By s (B4 new)) l = some q := by rw [Mz, if_neg hm]; exact hq
 have hrep := Abt h (B4 new) _ _ _ _ hps hv (fun _ h => h)
 obtain ⟨h0, cs, hr, he⟩ := h'.own l q hq'
 rcases hr.2 with ⟨e1, _⟩ | ⟨g', cap, cur, e1, _, e3, e4, e5, e6, e7⟩
 ·rw [hG] at e1; cases e1
 ·rw [hG] at e1
  cases e1
  have hpl : ps.length = n := by rw [hrep.len, ← hl1]; exact hc.1
  have hget := Awo q.t q.xs i hi
  obtain ⟨A, B, f1, f2, f3⟩ := Vi hget
  have hfx : flat q.t x' = (flat q.t (rdD q.t q.xs i)).take k ++ ps ++ (flat q.t (rdD q.t q.xs i)).drop (k + n) := by
   have := R5 hu
   simpa using this.symm
  have hfl := Fx q.t (rdD q.t q.xs i)
  have hrow : (q.xs.set i x').flatMap (flat q.t) = (q.xs.flatMap (flat q.t)).take (i * q.t.size + k) ++ ps ++ (q.xs.flatMap (flat q.t)).drop (i * q.t.size + k + n) := by
   rw [f3, hfx, f1]
   have g1 : (A ++ flat q.t (rdD q.t q.xs i) ++ B).take (i * q.t.size + k) = A ++ (flat q.t (rdD q.t q.xs i)).take k := by
    rw [List.append_assoc, ← f2, List.take_length_add_append, List.take_append_of_le_length (by rw [hfl]; omega)]
   have g2 : (A ++ flat q.t (rdD q.t q.xs i) ++ B).drop (i * q.t.size + k + n) = (flat q.t (rdD q.t q.xs i)).drop (k + n) ++ B := by
    rw [List.append_assoc, ← f2, Nat.add_assoc, List.drop_length_add_append, List.drop_append_of_le_length (by rw [hfl]; omega)]
   rw [g1, g2]
   simp [List.append_assoc]
  have hcl : cs.length = q.xs.length * q.t.size := he.len
  have hbnd : i * q.t.size + q.t.size ≤ q.xs.length * q.t.size := by
   rw [← Nat.succ_mul]
   exact Nat.mul_le_mul_right _ hi
  have hcs : q.xs.length * q.t.size ≤ cur.size := by rw [e6]; exact Nat.mul_le_mul_right _ e4
  have hst := run_storeCells_at P g (i * q.t.size + k) q.e (a.eval y).cells.toList 0 cur w e3 (by simp at hl1 ⊢; omega) (Aug hv)
  have hvl : (a.eval y).cells.toList.length = n := by rw [← hl1]; exact hc.1
  obtain ⟨h2, h5⟩ := Bj6 (cur' := (cur.toList.take (i * q.t.size + k) ++ (a.eval y).cells.toList ++ cur.toList.drop (i * q.t.size + k + (a.eval y).cells.toList.length)).toArray) h' hq' hG e3
   (by simp only [List.size_toArray, List.length_append, List.length_take, List.length_drop, hvl, Array.length_toList]; omega) (xs' := q.xs.set i x') (by simp) (by
    unfold RepRow
    rw [hrow]
    have g3 : (cur.toList.take (i * q.t.size + k) ++ (a.eval y).cells.toList ++ cur.toList.drop (i * q.t.size + k + (a.eval y).cells.toList.length)).toArray.toList.take ((q.xs.set i x').length * q.t.size) =
      cs.take (i * q.t.size + k) ++ (a.eval y).cells.toList ++ cs.drop (i * q.t.size + k + n) := by
     rw [List.length_set, ← e7]
     have := Bkd cur.toList (a.eval y).cells.toList (i * q.t.size + k) (q.xs.length * q.t.size) (by rw [hvl]; omega) (by simpa using hcs)
     rw [hvl] at this
     simp only [List.toList_toArray, hvl]
     exact this
    rw [g3]
    exact ((All2.take he _).app hrep).app (All2.drop he _))
  have hsz : (a.eval y).cells.size = n := by simpa using hvl
  refine .skip ?_ (by rw [hd]; exact h2) ((Q0 _ _ _ h).trans (h5 _ _))
  simp only [execOp, ho, Instr.storeAt, hptr, Instr.sureAddr, Sem.run_bind, Sem.run_pure, Result.andThen_ok, storeVar, Et hz, hsz]
  simp [hst]
end
section
variable {P : Program} {F : Nat → Prop} {s s' : St} {G : Gm} {a : Act} {w : World} {o : Oper} {v : AV} {vals : List Value}
theorem Qd {e : Nat} {t : Ty} (h : Dp P e = some t) : ∃ i z, P.info? e = some i ∧ i.zero = some z ∧ i.size = t.size ∧ z.cells.size = t.size ∧ 0 < t.size := by
 unfold Dp at h
 obtain ⟨t', _, h2⟩ := Option.bind_eq_some_iff.1 h
 split at h2
 ·rename_i hc
  cases h2
  obtain ⟨h3, h4, h5⟩ := hc
  unfold Bp at h3
  obtain ⟨i, hi, h6⟩ := Option.map_eq_some_iff.1 h3
  unfold A1e at h5
  obtain ⟨z, hz, h7⟩ := Option.map_eq_some_iff.1 h5
  rw [hi] at hz
  exact ⟨i, z, hi, hz, h6, h7, h4⟩
 ·cases h2
theorem E5 {t e : Nat} (h : Bou P t = some e) : P.underlying t = some (.slice e) := by
 unfold Bou at h
 split at h
 ·cases h; assumption
 ·cases h
theorem U2 (h : Holds F s G vals w) (ms : List Nat) {t : Ty} {ls : List L} {x : t.den} {vs : List Value} (hd : datum s t ls = some x) (hv : All2 (HR F s G w) ls vs) (hm : ∀ m ∈ B4 ls, m ∈ ms) :
  All2 (RepL w (okS F (By s ms) G w)) (flat t x) vs := by
 unfold datum at hd
 obtain ⟨ps, hps, h2⟩ := Option.bind_eq_some_iff.1 hd
 obtain ⟨⟨y, r⟩, hy, h3⟩ := Option.bind_eq_some_iff.1 h2
 split at h3
 ·rename_i he
  cases h3
  have hr : r = [] := by simpa using he
  subst hr
  have := R5 hy
  rw [List.append_nil] at this
  rw [← this]
  exact Abt h ms _ _ _ _ hps hv hm
 ·cases h3
theorem Ab4 (z : Array Value) (n : Nat) (hz : 0 < z.size) : ((List.range (n * z.size)).map fun i => z[i % z.size]!) = (List.replicate n z.toList).flatten := by
 induction n with
 | zero => simp
 | succ n ih =>
  rw [Nat.succ_mul, Nat.add_comm, List.range_add, List.map_append, List.replicate_succ, List.flatten_cons, ← ih, List.map_map]
  congr 1
  ·apply List.ext_getElem
   ·simp
   ·intro i h1 h2
    have h3 : i < z.size := by simpa using h1
    simp [Nat.mod_eq_of_lt h3, h3]
  ·apply List.map_congr_left
   intro i _
   simp
theorem Ab3 {ok : Nat → Prop} {t : Ty} {x : t.den} {cs : List Value} (h : All2 (RepL w ok) (flat t x) cs) : ∀ n : Nat, RepRow w ok t (List.replicate n x) (List.replicate n cs).flatten
 | 0 => .nil
 | n + 1 => by
  unfold RepRow
  rw [List.replicate_succ, List.flatMap_cons, List.replicate_succ, List.flatten_cons]
  exact h.app (Ab3 h n)
theorem Adp {e : Nat} {t : Ty} {xs : List t.den} {cells : Array Value} {n : Nat} (hn : xs.length = n) (hc : cells.size = n * t.size) (hm : n ≤ maxLen) :
  (w.alloc (.cells cells e)).ownsRow 0 e t.size (.slice (some ⟨w.heap.size, 0, none⟩) n n) xs.length cells.toList := by
 subst hn
 exact ⟨by simpa using hc, .inr ⟨w.heap.size, _, cells, rfl, Nat.zero_le _, heap_alloc_new w _, Nat.le_refl _, hm, hc, by rw [List.take_of_length_le]; simp; omega⟩⟩
theorem e_make (h : Holds F s G a.tmps.toList w) {t e d : Nat} {x y : Operand} (ho : o.op = .makeSlice t x y) (hd : o.dst = some d) (he : Bou P t = some e) {n m : Int} (hn : int1 (s.get x) = some n) (hm : int1 (s.get y) = some m)
  {te : Ty} (hte : Dp P e = some te) {z : List L} (hz : Di P e = some z) {q : te.den} (hq : datum s te z = some q)
  (hc : (decide (0 ≤ n) && decide (n = m) && decide ((E1 P e : Int) * n ≤ 140737488355328) && decide (n ≤ 9223372036854775807)) = true)
  (hv : (Df s d ⟨e, te, List.replicate n.toNat q⟩).val = some s') : EOK P F s G a w o s' := by
 obtain ⟨hf, rfl⟩ := In hv
 obtain ⟨i, zv, hi, hzv, hs1, hs2, hs3⟩ := Qd hte
 obtain ⟨i', zv', hi', hzv', rfl, hone⟩ := Hc hz
 rw [hi] at hi'
 cases hi'
 rw [hzv] at hzv'
 cases hzv'
 simp only [Bool.and_eq_true, decide_eq_true_eq] at hc
 obtain ⟨⟨⟨c1, rfl⟩, c3⟩, c4⟩ := hc
 obtain ⟨kx, ex, _⟩ := Hv h hn
 obtain ⟨ky, ey, _⟩ := Hv h hm
 have hb : E1 P e = i.bytes := by simp [E1, hi]
 rw [hb] at c3
 have hrun := run_make (P := P) w t e i zv (E5 he) hi hzv kx ky n n c1 (Int.le_refl _) (by omega) c4
 have hrep := U2 h [] hq (Is (fun u hu => Jx u hu) _ hone) (fun m hm => by
  exfalso
  have : ∀ l : List Value, B4 (l.map Br) = [] := by
   intro l
   induction l with
   | nil => rfl
   | cons u l ih =>
    simp only [List.map_cons]
    have : ∀ k, Br u ≠ .own k := fun k e => by have := Aea k u; rw [e] at this; simp [L.noO] at this
    unfold B4
    split
    ·rename_i e; cases e
    ·rename_i k r e; injection e with e1 e2; exact absurd e1 (this k)
    ·rename_i r e1 e2; injection e2 with e3 e4; subst e4; exact ih
  rw [this] at hm
  cases hm)
 have hcells : (madeCells zv.cells (n.toNat * i.size)).toList = (List.replicate n.toNat zv.cells.toList).flatten := by
  rw [← Ab4 _ _ (by omega), hs2, ← hs1]
  simp [madeCells]
  try (intro a _; rw [show zv.cells.size = i.size by omega])
 have hsz : (madeCells zv.cells (n.toNat * i.size)).size = n.toNat * te.size := by rw [size_madeCells, hs1]
 have hmx : n.toNat ≤ maxLen := by unfold maxLen; omega
 obtain ⟨h2, h3⟩ := M5 h none (n := N0 + d) (o := ⟨e, te, List.replicate n.toNat q⟩) hf (by omega) (w' := w.alloc (.cells (madeCells zv.cells (n.toNat * i.size)) e)) hs3
  ⟨rfl, rfl, rfl, by simp, fun k hk _ => (Grew.alloc w _).block hk⟩ (v' := .slice (some ⟨w.heap.size, 0, none⟩) n.toNat n.toNat) (fun k hk => .inr (by simp [Value.ownBlock] at hk; omega))
  (Adp (by simp) hsz hmx) (by rw [hcells]; exact Ab3 hrep _) rfl (some d)
 rw [← hd] at h2 h3 ⊢
 refine .value (u := .slice (some ⟨w.heap.size, 0, none⟩) n.toNat n.toNat) ?_ h2 h3
 simp [execOp, ho, ex, ey, hrun]
theorem Ae6 {ok : Nat → Prop} (t : Ty) (h : Holds F s G vals w) (ms : List Nat) : ∀ (q : List (Nat × List L)) (vs : List (Nat × Value)) (xs ys : List t.den) (cs : Array Value),
  All2 (fun x y => x.1 = y.1 ∧ All2 (HR F s G w) x.2 y.2.cells.toList) q vs → (∀ m ∈ q.flatMap (fun x => B4 x.2), m ∈ ms) → RepRow w (okS F (By s ms) G w) t xs cs.toList → Gb s t q xs = some ys →
  ∃ cs', Instr.fill (fun i => some (i * t.size, t.size)) cs vs = some cs' ∧ RepRow w (okS F (By s ms) G w) t ys cs'.toList ∧ ys.length = xs.length
 | [], _, xs, ys, cs, h1, _, h3, h4 => by cases h1; cases h4; exact ⟨cs, rfl, h3, rfl⟩
 | (i, ls) :: q, _, xs, ys, cs, h1, h2, h3, h4 => by
  cases h1 with
  | cons h5 h6 =>
   rename_i y vs
   obtain ⟨i', v⟩ := y
   obtain ⟨rfl, h7⟩ := h5
   simp only [Gb] at h4
   split at h4
   ·rename_i hi
    obtain ⟨x, hx, h8⟩ := Option.bind_eq_some_iff.1 h4
    have hrep := U2 h ms hx h7 (fun m hm => h2 m (by simp [hm]))
    have hlen : v.cells.toList.length = t.size := by rw [← hrep.len, Fx]
    have hcl := h3.len
    have hb : i * t.size + t.size ≤ cs.size := by
     have h9 : (i + 1) * t.size ≤ xs.length * t.size := Nat.mul_le_mul_right _ hi
     rw [Nat.succ_mul] at h9
     rw [Array.length_toList] at hcl
     omega
    have h10 : v.cells.zipIdx.foldl (fun cs (c, j) => cs.setIfInBounds (i * t.size + j) c) cs = (cs.toList.take (i * t.size) ++ v.cells.toList ++ cs.toList.drop (i * t.size + v.cells.toList.length)).toArray := by
     have := Xs v.cells.toList (i * t.size) 0 cs (by rw [hlen]; omega)
     rw [← Array.toList_inj]
     rw [← Array.foldl_toList, Array.toList_zipIdx]
     simpa using this
    have hget : xs[i]? = some xs[i] := List.getElem?_eq_getElem hi
    obtain ⟨A, B, f1, f2, f3⟩ := Vi hget
    have h11 : RepRow w (okS F (By s ms) G w) t (xs.set i x) (cs.toList.take (i * t.size) ++ v.cells.toList ++ cs.toList.drop (i * t.size + v.cells.toList.length)) := by
     unfold RepRow at h3 ⊢
     rw [f3]
     have g1 := All2.take h3 (i * t.size)
     have g2 := All2.drop h3 (i * t.size + v.cells.toList.length)
     rw [f1, List.append_assoc, ← f2, List.take_left] at g1
     rw [f1, ← f2, hlen, List.drop_left' (by rw [List.length_append, Fx])] at g2
     rw [f2] at g1 g2
     rw [hlen]
     exact (g1.app hrep).app g2
    obtain ⟨cs', hfill, g3, g4⟩ := Ae6 (ok := ok) t h ms q vs (xs.set i x) ys _ h6 (fun m hm => h2 m (by simp only [List.flatMap_cons, List.mem_append]; exact .inr hm)) (by simpa using h11) h8
    refine ⟨cs', ?_, g3, by simpa using g4⟩
    simp only [Instr.fill]
    rw [if_neg, h10]
    ·simpa using hfill
    ·rw [Array.length_toList] at hlen
     simp only [ne_eq, Bool.or_eq_true, decide_eq_true_eq, not_or, Decidable.not_not]
     constructor <;> omega
   ·cases h4
theorem e_build (h : Holds F s G a.tmps.toList w) {t e d len : Nat} {ps : Array (Nat × Operand)} (ho : o.op = .buildSlice t len ps) (hd : o.dst = some d) (he : Bou P t = some e)
  {te : Ty} (hte : Dp P e = some te) {z : List L} (hz : Di P e = some z) {x : te.den} (hx : datum s te z = some x) {q : List (Nat × List L)} (hq : B9 s ps.toList = some q) {xs : List te.den} (hxs : Gb s te q (List.replicate len x) = some xs)
  (hl : len * te.size ≤ 16777216) (hv : (Df (By s (q.flatMap fun x => B4 x.2)) d ⟨e, te, xs⟩).val = some s') : EOK P F s G a w o s' := by
 obtain ⟨hf, rfl⟩ := In hv
 obtain ⟨i, zv, hi, hzv, hs1, hs2, hs3⟩ := Qd hte
 obtain ⟨i', zv', hi', hzv', rfl, hone⟩ := Hc hz
 rw [hi] at hi'
 cases hi'
 rw [hzv] at hzv'
 cases hzv'
 have hz2 := U2 h (q.flatMap fun x => B4 x.2) hx (Is (fun u hu => Jx u hu) _ hone) (fun m hm => by
  exfalso
  have : ∀ l : List Value, B4 (l.map Br) = [] := by
   intro l
   induction l with
   | nil => rfl
   | cons u l ih =>
    simp only [List.map_cons]
    have : ∀ k, Br u ≠ .own k := fun k e => by have := Aea k u; rw [e] at this; simp [L.noO] at this
    unfold B4
    split
    ·rename_i e; cases e
    ·rename_i k r e; injection e with e1 e2; exact absurd e1 (this k)
    ·rename_i r e1 e2; injection e2 with e3 e4; subst e4; exact ih
  rw [this] at hm
  cases hm)
 have hzero : RepRow w (okS F (By s (q.flatMap fun x => B4 x.2)) G w) te (List.replicate len x) ((Array.range (len * i.size)).map (zv.cells[· % zv.cells.size]!)).toList := by
  have := Ab3 hz2 len
  rw [← Ab4 _ _ (by omega), hs2, ← hs1] at this
  rw [hs2, ← hs1]
  simpa using this
 obtain ⟨cs, hfill, hrow, hlen⟩ := Ae6 (ok := fun _ => True) te h _ q _ (List.replicate len x) xs _ (Rs h ps.toList q hq) (fun m hm => hm) hzero hxs
 rw [List.length_replicate] at hlen
 have hcs : cs.size = len * te.size := by have := hrow.len; rw [hlen, Array.length_toList] at this; exact this
 have h' := Qz (q.flatMap fun x => B4 x.2) h
 obtain ⟨h2, h3⟩ := M5 h' none (n := N0 + d) (o := ⟨e, te, xs⟩) hf (by omega) (w' := w.alloc (.cells cs e)) hs3
  ⟨rfl, rfl, rfl, by simp, fun k hk _ => (Grew.alloc w _).block hk⟩ (v' := .slice (some ⟨w.heap.size, 0, none⟩) len len) (fun k hk => .inr (by simp [Value.ownBlock] at hk; omega))
  (Adp hlen hcs (by unfold maxLen; have := Nat.le_mul_of_pos_right len hs3; omega)) hrow rfl (some d)
 rw [← hd] at h2 h3 ⊢
 refine .value (u := .slice (some ⟨w.heap.size, 0, none⟩) len len) ?_ h2 ((Q0 _ _ _ h).trans h3)
 have e1 : (ps.map fun (x : Nat × Operand) => (x.1, a.eval x.2)).toList = ps.toList.map fun (x : Nat × Operand) => (x.1, a.eval x.2) := by simp
 rw [← hs1] at hfill hl
 by_cases h0 : len * i.size = 0
 ·have hl0 : len = 0 := by
   rcases Nat.mul_eq_zero.1 h0 with h0 | h0
   ·exact h0
   ·omega
  subst hl0
  have e0 : ∀ f : Nat → Value, (Array.range (0 * i.size)).map f = #[] := fun f => by rw [Nat.zero_mul, ← Array.toList_inj]; simp
  rw [e0] at hfill
  simp [execOp, ho, Instr.buildSlice, run_underlying (E5 he), sizeOf, typeInfo, hi, newRow, e1, -Array.toList_map, Array.range_zero']
  rw [hfill]
  rfl
 ·have hrun := run_buildSlice (P := P) w t e len (ps.map fun (x : Nat × Operand) => (x.1, a.eval x.2)) cs i zv (E5 he) hi hzv (by omega) h0 (by rw [e1]; exact hfill)
  simp only [execOp, ho, Sem.run_bind]
  rw [hrun]
  rfl
end
section
variable {P : Program} {F : Nat → Prop} {s s' : St} {G : Gm} {a : Act} {w : World} {o : Oper} {v : AV} {vals : List Value}
theorem Atu (h : Holds F s G vals w) {l : Nat} {x : Own} (hx : Ag s l = some x) {k : Nat} (hk : okS F s G w k ∨ (G.ow l).ownBlock = some k) : okS F (frz s l) G w k := by
 have := Aar h [l] (k := k) (by
  rcases hk with hk | hk
  ·exact .inl hk
  ·exact .inr ⟨l, by simp, x, hx, hk⟩)
 exact this
theorem e_cut (h : Holds F s G a.tmps.toList w) {T d e : Nat} {x : Operand} {lo hi : Option Operand} (ho : o.op = .slice T x lo hi none) (hd : o.dst = some d) {l : Nat} (hl : Ax (s.get x) = some (.own l)) (he : Bou P T = some e)
  {q : Own} (hq : Ag s l = some q) {p r : Int} (hp : Bv s 0 lo = some p) (hr : Bv s q.xs.length hi = some r) (hz : Bp P e = some q.t.size) (hb : cutB p r q.xs.length = true) :
  EOK P F s G a w o ((frz s l).put (some d) (lf (pvL q.t (cutL q.xs p r)))) := by
 have e1 : a.eval x = G.ow l := (Bh h hl).1
 have hrep := Jh h hq
 obtain ⟨A, c, e2, hl1, hc1, hx⟩ := (show Ev w _ _ _ q.xs [G.ow l] from hrep)
 have e3 := List.singleton_inj.1 e2
 have hrun := Ry (P := P) h true hp hr hb hl1
 obtain ⟨h0, h1, h2⟩ := P6 hb
 rw [e3] at hrep
 have h5 := Aej (p := p.toNat) (q := r.toNat) hrep (by omega) (by omega)
 have h6 : HR F (frz s l) G w (pvL q.t (cutL q.xs p r)) (.slice (if c = p.toNat then A else A.map (·.add (p.toNat * q.t.size))) (r.toNat - p.toNat) (c - p.toNat)) :=
  Rep.mono (fun k hk => ⟨Atu h hq (by rw [e3]; exact hk), rfl⟩) h5
 have h7 := (M0 h l).put (some d) (v := lf (pvL q.t (cutL q.xs p r))) h6
 rw [← hd] at h7 ⊢
 refine .value ?_ h7 ((Aat h l _ _).trans (Step.put _ _))
 simp [execOp, ho, e1, e3, Instr.sliceAt, Instr.slice, run_underlying (E5 he), hrun, Et hz]
theorem e_pop (h : Holds F s G a.tmps.toList w) {T d e : Nat} {x : Operand} {hi : Option Operand} (ho : o.op = .slice T x none hi none) (hd : o.dst = some d) {l : Nat} (hl : Ax (s.get x) = some (.own l)) (he : Bou P T = some e)
  {q : Own} (hq : Ag s l = some q) {r : Int} (hr : Bv s q.xs.length hi = some r) (hz : Bp P e = some q.t.size) (hb : cutB 0 r q.xs.length = true) (hv : (Df (Fq s l) d ⟨q.e, q.t, q.xs.take r.toNat⟩).val = some s') :
  EOK P F s G a w o s' := by
 obtain ⟨hf, rfl⟩ := In hv
 have e1 : a.eval x = G.ow l := (Bh h hl).1
 obtain ⟨h0', cs, hrow, hel⟩ := h.own l q hq
 obtain ⟨h0, h1, h2⟩ := P6 hb
 have hn : r.toNat ≤ q.xs.length := by omega
 have htl : (q.xs.take r.toNat).length = r.toNat := by rw [List.length_take]; omega
 have hsize : r.toNat * q.t.size ≤ q.xs.length * q.t.size := Nat.mul_le_mul_right _ hn
 have hcl : (cs.take (r.toNat * q.t.size)).length = (q.xs.take r.toNat).length * q.t.size := by rw [htl, List.length_take, hel.len]; omega
 have hrep' : RepRow w (okS F s G w) q.t (q.xs.take r.toNat) (cs.take (r.toNat * q.t.size)) := by
  unfold RepRow at hel ⊢
  have : (q.xs.take r.toNat).flatMap (flat q.t) = (q.xs.flatMap (flat q.t)).take (r.toNat * q.t.size) := by
   have e9 : q.xs.flatMap (flat q.t) = (q.xs.take r.toNat).flatMap (flat q.t) ++ (q.xs.drop r.toNat).flatMap (flat q.t) := by rw [← List.flatMap_append, List.take_append_drop]
   rw [e9, List.take_left' (by rw [Afa, htl])]
  rw [this]
  exact All2.take hel _
 have key : ∃ v', (execOp a.eval o).run P w = .ok (.value v') w ∧ w.ownsRow 0 q.e q.t.size v' (q.xs.take r.toNat).length (cs.take (r.toNat * q.t.size)) ∧ v'.oneCell' = true ∧ v'.ownBlock = (G.ow l).ownBlock := by
  have hbd : ∀ c, q.xs.length ≤ c → (Instr.sliceBounds true q.xs.length c ((none : Option Operand).map a.eval) (hi.map a.eval) none).run P w = .ok ((0 : Int).toNat, r.toNat, c) w :=
   fun c hc => Ry (P := P) h (lo := none) (p := 0) true rfl hr hb hc
  rcases hrow.2 with ⟨ev, en⟩ | ⟨g, cap, cur, ev, g1, g2, g3, g4, g5, g6⟩
  ·have hz0 : q.xs.length = 0 := en
   have hr0 : r.toNat = 0 := by omega
   refine ⟨.slice none 0 0, ?_, ?_, rfl, by rw [ev]⟩
   ·have := hbd 0 (by omega)
    rw [hz0] at this
    simp at this
    simp [execOp, ho, e1, ev, Instr.sliceAt, Instr.slice, run_underlying (E5 he), this, Et hz, hr0]
   ·exact ⟨hcl, .inl ⟨rfl, by rw [htl]; exact hr0⟩⟩
  ·refine ⟨.slice (some ⟨g, 0, none⟩) r.toNat cap, ?_, ?_, rfl, by rw [ev]; rfl⟩
   ·have := hbd cap g3
    simp at this
    have hadd : (⟨g, 0, none⟩ : Addr).add 0 = ⟨g, 0, none⟩ := rfl
    simp [execOp, ho, e1, ev, Instr.sliceAt, Instr.slice, run_underlying (E5 he), this, Et hz, hadd]
   ·refine ⟨hcl, .inr ⟨g, cap, cur, by rw [htl], g1, g2, by rw [htl]; omega, g4, g5, ?_⟩⟩
    rw [htl, ← g6, List.take_take, Nat.min_eq_left hsize]
 obtain ⟨v', hrun, hown, hone, hblk⟩ := key
 obtain ⟨h3, h4⟩ := M5 h (some l) (n := N0 + d) (o := ⟨q.e, q.t, q.xs.take r.toNat⟩) hf (by omega) (w' := w) h0' (Keeps.refl _ _) (v' := v') (fun k hk => .inl ⟨l, q, rfl, hq, by rw [← hblk]; exact hk⟩) hown hrep' hone (some d)
 rw [← hd] at h3 h4 ⊢
 exact .value hrun h3 h4
theorem Awt {ok : Nat → Prop} {t : Ty} {ad : Addr} (hs : ad.spot = none) : ∀ (xs : List t.den) (k : Nat), (∀ (i : Nat) (x : t.den), xs[i]? = some x → ∃ es, Rep w ok t x es ∧ Cells w (ad.add ((k + i) * t.size)) es) →
  ∃ cs, RepRow w ok t xs cs ∧ Cells w (ad.add (k * t.size)) cs
 | [], k, _ => ⟨[], .nil, fun j v hv => by simp at hv⟩
 | x :: xs, k, h => by
  obtain ⟨es, h1, h2⟩ := h 0 x (by simp)
  obtain ⟨cs, h3, h4⟩ := Awt hs xs (k + 1) (fun i y hy => by
   have := h (i + 1) y (by simpa using hy)
   rw [Nat.add_assoc, Nat.add_comm 1 i]
   exact this)
  refine ⟨es ++ cs, ?_, ?_⟩
  ·unfold RepRow
   rw [List.flatMap_cons]
   exact (K7 h1).app h3
  ·intro j v hv
   rw [List.getElem?_append] at hv
   split at hv
   ·rw [Nat.add_zero] at h2
    exact h2 j v hv
   ·rename_i hj
    have h5 := h4 _ _ hv
    have hl := h1.len
    rw [R9 ad hs] at h5 ⊢
    have e : (k + 1) * t.size + (j - es.length) = k * t.size + j := by rw [Nat.succ_mul]; omega
    rw [e] at h5
    exact h5
theorem Bjf (t ty e : Nat) (i : TypeInfo) (size cap : Nat) (ht : P.underlying t = some (.slice e)) (hi : P.info? e = some i) (v : Value) (n : Nat) (xs : List Value) (hown : w.ownsRow 0 e size v n xs) :
  (Builtin.append_ #[t, t] ty #[v, .slice none 0 cap]).run P w = .ok v w := by
 rcases hown.2 with ⟨rfl, rfl⟩ | ⟨g, cap, cur, rfl, _, _, hnc, _⟩
 ·simp [Builtin.append_, run_underlying ht, sizeOf, typeInfo, hi, Builtin.lenOf, Builtin.firstCells]
 ·simp [Builtin.append_, run_underlying ht, sizeOf, typeInfo, hi, Builtin.lenOf, Builtin.firstCells, hnc, storeCells]
theorem Bjy (h : Holds F s G vals w) {t : Ty} {l : L} {v : Value} (hl : HR F s G w l v) {ys : List t.den} (hy : Gg s t l = some ys) :
  (ys = [] ∧ ∃ c, v = .slice none 0 c) ∨ ∃ ad c cs, v = .slice (some ad) ys.length c ∧ Cells w ad cs ∧ RepRow w (okS F s G w) t ys cs := by
 have gen : ∀ {zs : List t.den}, Rep w (okS F s G w) (.slice t) zs [v] → (zs = [] ∧ ∃ c, v = .slice none 0 c) ∨ ∃ ad c cs, v = .slice (some ad) zs.length c ∧ Cells w ad cs ∧ RepRow w (okS F s G w) t zs cs := by
  intro zs hr
  obtain ⟨A, c, e1, hl1, hc1, hx⟩ := (show Ev w _ _ _ zs [v] from hr)
  have e2 := List.singleton_inj.1 e1
  by_cases hn : zs = []
  ·subst hn
   cases A with
   | none => exact .inl ⟨rfl, c, e2⟩
   | some ad => exact .inr ⟨ad, c, [], e2, fun j v hv => by simp at hv, .nil⟩
  ·obtain ⟨ad, rfl, hs, _, hel⟩ := hx hn
   obtain ⟨cs, h3, h4⟩ := Awt hs zs 0 (fun i x hi => by rw [Nat.zero_add]; exact hel i x hi)
   rw [Nat.zero_mul] at h4
   exact .inr ⟨ad, c, cs, e2, h4, h3⟩
 cases l with
 | pv p =>
  have hy' : asTy (.slice t) p = some ys := hy
  have h2 : RepL w (okS F s G w) p v := hl
  rw [Hi hy'] at h2
  exact gen h2
 | own m =>
  have hy' : ((Ag s m).bind fun o => asTy (.slice t) ⟨.slice o.t, o.xs⟩) = some ys := hy
  obtain ⟨q, hq, h2⟩ := Option.bind_eq_some_iff.1 hy'
  have e5 := Hi h2
  obtain ⟨qe, qt, qx⟩ := q
  injection e5 with e6 e7
  injection e6 with e8
  subst e8
  have e9 := eq_of_heq e7
  subst e9
  obtain ⟨h0, cs, hr, he⟩ := h.own m _ hq
  rw [show v = G.ow m from hl.1]
  rcases hr.2 with ⟨e1, e3⟩ | ⟨g, cap, cur, e1, _, e3, e4, e5, e6, e7⟩
  ·exact .inl ⟨List.length_eq_zero_iff.1 e3, 0, e1⟩
  ·refine .inr ⟨⟨g, 0, none⟩, cap, cs, e1, ?_, he⟩
   rw [← e7]
   have := Ip e3 0
   simp only [List.drop_zero] at this
   exact this.take _
 | cst k =>
  cases k with
  | sl =>
   have hy' : some ([] : List t.den) = some ys := hy
   cases hy'
   exact .inl ⟨rfl, 0, hl⟩
  | _ => cases (show (none : Option (List t.den)) = some ys from hy)
 | _ => cases (show (none : Option (List t.den)) = some ys from hy)
theorem Adr {e m n : Nat} (h : Dm P e m n = true) : (m + n) * E1 P e ≤ 140737488355328 ∧ m + n ≤ maxLen := by simpa [Dm] using h
theorem Bjg (h : Holds F s G vals w) {t e ty : Nat} {te : Ty} (ht : P.underlying t = some (.slice e)) (hte : Dp P e = some te) {v u : Value} {xs ys : List te.den} {cs : List Value} (hown : w.ownsRow 0 e te.size v xs.length cs) (hrow : RepRow w (okS F s G w) te xs cs)
  (hu : (ys = [] ∧ ∃ c, u = .slice none 0 c) ∨ ∃ ad c ds, u = .slice (some ad) ys.length c ∧ Cells w ad ds ∧ RepRow w (okS F s G w) te ys ds) (hm : Dm P e xs.length ys.length = true) :
  ∃ v' w' cs', (Builtin.append_ #[t, t] ty #[v, u]).run P w = .ok v' w' ∧ w'.ownsRow 0 e te.size v' (xs ++ ys).length cs' ∧ RepRow w (okS F s G w) te (xs ++ ys) cs' ∧ w.grownBy w' v.ownBlock ∧ (v'.ownBlock = v.ownBlock ∨ v'.ownBlock = some w.heap.size) ∧ v'.oneCell' = true := by
 obtain ⟨i, z, hi, hz, hs1, hs2, hs3⟩ := Qd hte
 obtain ⟨hm1, hm2⟩ := Adr hm
 have hone : ∀ {v : Value} {w : World} {n : Nat} {cs : List Value}, w.ownsRow 0 e te.size v n cs → v.oneCell' = true := by
  intro v w n cs hr
  rcases hr.2 with ⟨rfl, _⟩ | ⟨_, _, _, rfl, _⟩ <;> rfl
 rcases hu with ⟨rfl, c, rfl⟩ | ⟨ad, c, ds, rfl, hds, hrd⟩
 ·refine ⟨v, w, cs, Bjf t ty e i te.size c ht hi v xs.length cs hown, by simpa using hown, by simpa using hrow, ⟨rfl, rfl, rfl, Nat.le_refl _, fun _ _ _ => rfl⟩, .inl rfl, hone hown⟩
 ·have hb : E1 P e = i.bytes := by simp [E1, hi]
  rw [hb] at hm1
  obtain ⟨v', w', h1, h2, h3, _, h5⟩ := run_append_own_at (P := P) w 0 t ty e i z te.size i.bytes ht hi hz hs1 rfl hs2 hs3 v xs.length cs hown ad ys.length c ds hrd.len hds hrd.one hm2 hm1 (Nat.zero_le _)
  refine ⟨v', w', cs ++ ds, h1, by rw [List.length_append]; exact h2, ?_, h3, h5, hone h2⟩
  unfold RepRow
  rw [List.flatMap_append]
  exact All2.app hrow hrd
def Ac2 (P : Program) (F : Nat → Prop) (s : St) (G : Gm) (w : World) (t u ty e : Nat) (te : Ty) (b : Value) (ys : List te.den) : Prop :=
 ∀ (v : Value) (xs : List te.den) (cs : List Value), w.ownsRow 0 e te.size v xs.length cs → RepRow w (okS F s G w) te xs cs → Dm P e xs.length ys.length = true →
  ∃ v' w' cs', (Builtin.append_ #[t, u] ty #[v, b]).run P w = .ok v' w' ∧ w'.ownsRow 0 e te.size v' (xs ++ ys).length cs' ∧ RepRow w (okS F s G w) te (xs ++ ys) cs' ∧ w.grownBy w' v.ownBlock ∧ (v'.ownBlock = v.ownBlock ∨ v'.ownBlock = some w.heap.size) ∧ v'.oneCell' = true
theorem Bkk {e : Nat} (h : Jp P e = true) : ∃ i, P.info? e = some i ∧ i.zero = some (.int .u8 0) ∧ i.bytes = 1 ∧ i.size = 1 := by
 unfold Jp at h
 split at h
 ·rename_i i hi
  simp only [Bool.and_eq_true, decide_eq_true_eq] at h
  obtain ⟨h1, h2, h3⟩ := h
  split at h1
  ·rename_i n hz
   have := of_decide_eq_true h1
   subst this
   exact ⟨i, hi, hz, h2, h3⟩
  ·cases h1
 ·cases h
theorem Bfl {t : Nat} (h : I8 P t = true) : P.underlying t = some .string := by
 unfold I8 at h
 split at h
 ·assumption
 ·cases h
theorem Bj7 {ok : Nat → Prop} (y : ByteArray) : RepRow w ok (.int .u8) (bs y) (Go.Lib.strCells y) := by
 unfold RepRow bs Go.Lib.strCells
 have : ∀ l : List UInt8, All2 (RepL w ok) ((l.map fun b => (b.toNat : Int)).flatMap (flat (.int .u8))) (l.map fun b => Value.int .u8 b.toNat) := by
  intro l
  induction l with
  | nil => exact .nil
  | cons b l ih =>
   refine .cons ?_ ih
   exact ⟨rfl, wf_u8 b⟩
 exact this _
theorem Bjh {t u e ty : Nat} (ht : P.underlying t = some (.slice e)) (hus : I8 P u = true) (hu8 : Jp P e = true) (y : ByteArray) (zs : List (Ty.int .u8).den) (hzs : bs y = zs) : Ac2 P F s G w t u ty e (.int .u8) (.string y) zs := by
 intro v xs cs hown hrow hm
 obtain ⟨i, hi, hz, hb, hs⟩ := Bkk hu8
 have hu := Bfl hus
 have hl' : (bs y).length = y.size := by simp [bs]
 have hln : zs.length = y.size := by rw [← hzs]; exact hl'
 have hone : ∀ {v : Value} {w : World} {n : Nat} {cs : List Value}, w.ownsRow 0 e 1 v n cs → v.oneCell' = true := by
  intro v w n cs hr
  rcases hr.2 with ⟨rfl, _⟩ | ⟨_, _, _, rfl, _⟩ <;> rfl
 obtain ⟨hm1, hm2⟩ := Adr hm
 rw [show E1 P e = 1 by simp [E1, hi, hb], Nat.mul_one] at hm1
 replace hm1 : xs.length + y.size ≤ 140737488355328 := by rw [← hln]; exact hm1
 replace hm2 : xs.length + y.size ≤ maxLen := by rw [← hln]; exact hm2
 obtain ⟨v', w', h1, h2, h3, h4⟩ := Go.Lib.run_append_own_string (P := P) w 0 t u ty e i ht hu hi hz hs hb v xs.length cs hown y hm2 hm1 (Nat.zero_le _)
 have hblk : v'.ownBlock = v.ownBlock ∨ v'.ownBlock = some w.heap.size := by
  simp only [maxLen] at hm2
  rcases hown.2 with ⟨rfl, hn⟩ | ⟨g, cap, cur, rfl, _, hg, hnc, hcm, hcs, htake⟩
  ·by_cases h0 : y.size = 0
   ·exact .inl (by rw [h4.2 ⟨rfl, h0⟩])
   ·rw [run_append_nil_string (P := P) w t u ty e i (.int .u8 0) ht hu hi hz y (by omega) (by omega) (by rw [hb]; omega)] at h1
    cases h1
    exact .inr rfl
  ·by_cases hroom : xs.length + y.size ≤ cap
   ·rw [Go.Lib.run_append_room_string (P := P) w t u ty e i ht hu hi hs g xs.length cap cur hg y hroom (by simp only [Ty.size, Nat.mul_one] at hcs; omega)] at h1
    cases h1
    exact .inl rfl
   ·have holds : ∀ j u, cs[j]? = some u → w.cell? ((⟨g, 0, none⟩ : Addr).add j) = some u := hown.cells (g := g) rfl
    rw [Go.Lib.run_append_grow_string (P := P) w t u ty e i (.int .u8 0) ht hu hi hz ⟨g, 0, none⟩ xs.length cap cs (by rw [hs]; exact hown.1) holds y (by omega) (by omega) (by rw [hb]; exact growslice_fits (by omega) (by omega))] at h1
    cases h1
    exact .inr rfl
 refine ⟨v', w', cs ++ Go.Lib.strCells y, h1, by rw [List.length_append, hln]; exact h2, ?_, h3, hblk, hone h2⟩
 unfold RepRow
 rw [List.flatMap_append]
 refine All2.app hrow ?_
 have := Bj7 (w := w) (ok := okS F s G w) y
 rw [hzs] at this
 exact this
theorem Awz {x y : Operand} {t u' : Nat} (ho : o.op = .call { callee := .builtin .append, args := #[x, y], argTypes := #[t, u'] }) {u : Value} {w' : World} (h : (Builtin.append_ #[t, u'] o.type #[a.eval x, a.eval y]).run P w = .ok u w') :
  (execOp a.eval o).run P w = .ok (.value u) w' := by
 simp only [execOp, ho, resolve, invoke, builtin, Sem.run_bind, Sem.run_pure, Result.andThen_ok, List.map_toArray, List.map_cons, List.map_nil, h]
theorem Aes (h : Holds F s G a.tmps.toList w) {x y : Operand} {t u d e : Nat} (ho : o.op = .call { callee := .builtin .append, args := #[x, y], argTypes := #[t, u] }) (hd : o.dst = some d) {la lb : L} (hla : Ax (s.get x) = some la)
  (he : Bou P t = some e) (hsrc : ∀ (te : Ty) (ys : List te.den), Dp P e = some te → Gg s te lb = some ys → Ac2 P F s G w t u o.type e te (a.eval y) ys) (hv : (Hh P s d e la lb).val = some s') : EOK P F s G a w o s' := by
 have ka := Bh h hla
 have ht := E5 he
 unfold Hh at hv
 split at hv
 ·cases hv
 ·rename_i te hte
  split at hv
  ·rename_i l
   split at hv
   ·rename_i q hq
    split at hv
    ·rename_i hqe
     split at hv
     ·rename_i xs ys hxs hys
      cases hb : Dm P e (List.length xs) ys.length with
      | false => rw [hb] at hv; cases hv
      | true =>
       rw [hb] at hv
       obtain ⟨hf, rfl⟩ := In (show (Df (Fq s l) d ⟨e, te, List.append xs ys⟩).val = some s' from hv)
       have e5 := Hi hxs
       obtain ⟨qe, qt, qx⟩ := q
       injection e5 with e6 e7
       injection e6 with e8
       subst e8
       have e9 := eq_of_heq e7
       subst e9
       obtain rfl : qe = e := hqe
       obtain ⟨h0, cs, hown, hrow⟩ := h.own l _ hq
       obtain ⟨v', w', cs', h1, h2, h3, h4, h5, h6⟩ := hsrc _ _ hte hys _ _ _ hown hrow hb
       rw [← show a.eval x = G.ow l from ka.1] at h1
       obtain ⟨g1, g2⟩ := M5 h (some l) (n := N0 + d) (o := ⟨qe, qt, List.append qx ys⟩) hf (by omega) (w' := w') h0
        ⟨h4.os, h4.tape, h4.output, h4.size, fun k hk1 hk2 => h4.block k hk1 fun e => hk2 ⟨l, _, rfl, hq, e.symm⟩⟩ (v' := v')
        (fun k hk => by
         rcases h5 with h5 | h5
         ·exact .inl ⟨l, _, rfl, hq, by rw [← h5]; exact hk⟩
         ·rw [h5] at hk; cases hk; exact .inr (Nat.le_refl _)) h2 h3 h6 (some d)
       rw [← hd] at g1 g2 ⊢
       exact .value (Awz ho h1) g1 g2
     ·cases hv
    ·cases hv
   ·cases hv
  ·split at hv
   ·rename_i ys hys
    cases hb : Dm P e 0 ys.length with
    | false => rw [hb] at hv; cases hv
    | true =>
     rw [hb] at hv
     obtain ⟨hf, rfl⟩ := In (show (Df s d ⟨e, te, ys⟩).val = some s' from hv)
     obtain ⟨i, z, hi, hz, hs1, hs2, hs3⟩ := Qd hte
     obtain ⟨v', w', cs', h1, h2, h3, h4, h5, h6⟩ := hsrc _ _ hte hys _ [] _ (World.ownsRow_nil w 0 e te.size) .nil hb
     rw [← show a.eval x = .slice none 0 0 from ka] at h1
     simp only [List.nil_append] at h2 h3
     obtain ⟨g1, g2⟩ := M5 h none (n := N0 + d) (o := ⟨e, te, ys⟩) hf (by omega) (w' := w') hs3
      ⟨h4.os, h4.tape, h4.output, h4.size, fun k hk1 hk2 => h4.block k hk1 (by simp [Value.ownBlock])⟩ (v' := v')
      (fun k hk => by
       rcases h5 with h5 | h5
       ·rw [h5] at hk; simp [Value.ownBlock] at hk
       ·rw [h5] at hk; cases hk; exact .inr (Nat.le_refl _)) h2 h3 h6 (some d)
     rw [← hd] at g1 g2 ⊢
     exact .value (Awz ho h1) g1 g2
   ·cases hv
  ·cases hv
theorem A6j (h : Holds F s G a.tmps.toList w) {x y : Operand} {t d e : Nat} (ho : o.op = .call { callee := .builtin .append, args := #[x, y], argTypes := #[t, t] }) (hd : o.dst = some d) {la lb : L} (hla : Ax (s.get x) = some la) (hlb : Ax (s.get y) = some lb)
  (he : Bou P t = some e) (hv : (Hh P s d e la lb).val = some s') : EOK P F s G a w o s' :=
 Aes h ho hd hla he (fun te ys hte hys v xs cs hown hrow hm => Bjg (ty := o.type) h (E5 he) hte hown hrow (Bjy h (Bh h hlb) hys) hm) hv
theorem A6k (h : Holds F s G a.tmps.toList w) {x y : Operand} {t u d e : Nat} (ho : o.op = .call { callee := .builtin .append, args := #[x, y], argTypes := #[t, u] }) (hd : o.dst = some d) {la : L} {z : List Int} (hla : Ax (s.get x) = some la) (hlb : Ax (s.get y) = some (.pv ⟨.str, z⟩))
  (he : Bou P t = some e) (hus : I8 P u = true) (hu8 : Jp P e = true) (hv : (Hh P s d e la (pvL (.int .u8) z)).val = some s') : EOK P F s G a w o s' := by
 obtain ⟨yb, h1, h2, h3⟩ : ∃ yb : ByteArray, a.eval y = .string yb ∧ bs yb = z ∧ yb.size ≤ maxLen := by
  obtain ⟨yb, e1, e2, e3⟩ := (show Rep w (okS F s G w) .str z [a.eval y] from Bh h hlb)
  exact ⟨yb, List.singleton_inj.1 e1, e2, e3⟩
 refine Aes h ho hd hla he (fun te ys hte hys => ?_) hv
 have hys' : asTy (.slice te) ⟨.slice (.int .u8), z⟩ = some ys := hys
 have e5 := Hi hys'
 injection e5 with e6 e7
 injection e6 with e8
 subst e8
 have e9 := eq_of_heq e7
 subst e9
 rw [h1]
 exact Bjh (E5 he) hus hu8 yb _ h2
end
section
variable {P : Program} {F : Nat → Prop} {s s' : St} {G : Gm} {a : Act} {w w' : World} {o : Oper} {v : AV} {vals : List Value}
def Ik (w w' : World) (k : Nat) : Prop := ∀ ad : Addr, ad.block = k → w'.cell? ad = w.cell? ad
theorem Cells.moveC {ad : Addr} {cs : List Value} (h : Cells w ad cs) (hb : Ik w w' ad.block) : Cells w' ad cs := by
 intro j v hv
 rw [hb (ad.add j) (Io ad j)]
 exact h j v hv
theorem Rep.monoC {ok : Nat → Prop} (h1 : ∀ k, ok k → Ik w w' k) : ∀ {t : Ty} {x : t.den} {cs : List Value}, Rep w ok t x cs → Rep w' ok t x cs
 | .int _, _, _, h => by unfold Rep at h ⊢; exact h
 | .bool, _, _, h => by unfold Rep at h ⊢; exact h
 | .str, _, _, h => by unfold Rep at h ⊢; exact h
 | .nil, _, _, h => by unfold Rep at h ⊢; exact h
 | .slice e, xs, _, h => by
  unfold Rep at h ⊢
  obtain ⟨A, c, rfl, hl, hc, hx⟩ := h
  refine ⟨A, c, rfl, hl, hc, fun hne => ?_⟩
  obtain ⟨a, rfl, hs, hok, hel⟩ := hx hne
  refine ⟨a, rfl, hs, hok, fun i x hi => ?_⟩
  obtain ⟨es, hr, hcs⟩ := hel i x hi
  exact ⟨es, hr.monoC h1, hcs.moveC (by rw [Io]; exact h1 _ hok)⟩
 | .cons a b, _, _, h => by
  unfold Rep at h ⊢
  obtain ⟨c0, c1, rfl, h2, h3⟩ := h
  exact ⟨c0, c1, rfl, h2.monoC h1, h3.monoC h1⟩
theorem RP.monoC {ok : Nat → Prop} (h1 : ∀ k, ok k → Ik w w' k) {ps : List PL} {v : Value} (h : RP w ok ps v) : RP w' ok ps v := by
 obtain ⟨a, cs, e, hs, ho, hc, hr⟩ := h
 exact ⟨a, cs, e, hs, ho, hc.moveC (h1 _ ho), hr.imp fun _ _ h => Rep.monoC h1 h⟩
theorem HL.keepC {ok : Nat → Prop} {os : List (Option Own)} (h1 : ∀ k, ok k → Ik w w' k) {l : L} {v : Value} (h : HL G w ok os l v) : HL G w' ok os l v := by
 cases l with
 | pv p => exact Rep.monoC h1 h
 | rpt ps =>
  obtain ⟨a, cs, e, hs, ho, hc, hr⟩ := h
  exact ⟨a, cs, e, hs, ho, hc.moveC (h1 _ ho), hr.imp fun _ _ h => Rep.monoC h1 h⟩
 | ifc t ps g =>
  obtain ⟨cs, hr, e⟩ := h
  exact ⟨cs, hr.imp fun _ _ h => Rep.monoC h1 h, e⟩
 | erp z t ps => cases z with
  | true => exact h
  | false =>
   obtain ⟨u, e, hr⟩ := h
   exact ⟨u, e, hr.monoC h1⟩
 | orp z ps => cases z with
  | true => exact h
  | false => exact RP.monoC h1 h
 | _ => exact h
theorem Holds.mark (h : Holds F s G vals w) {g : Nat} (hg : ¬ Live s G g) (hs : w'.heap.size = w.heap.size) (hc : Ik w w' g) (hb : ∀ k, k ≠ g → w'.heap[k]? = w.heap[k]?) (hgt : ∀ x ∈ gTab, x.1 ≠ g) : Holds F s G vals w' := by
 have hsame : ∀ k, Ik w w' k := by
  intro k
  by_cases e : k = g
  ·subst e; exact hc
  ·rintro ad rfl
   exact World.cell?_of_block (w := w) (hb _ e)
 have hok : okS F s G w' = okS F s G w := by funext k; simp [okS, hs]
 have htr : ∀ l v, HR F s G w l v → HR F s G w' l v := by
  intro l v hr
  unfold HR at hr ⊢
  rw [hok]
  exact HL.keepC (fun k _ => hsame k) hr
 refine ⟨?_, ?_, ?_, h.bb, h.bo, h.oo, h.nF, fun k hk => by rw [hs]; exact h.Flt k hk, fun b ls hb2 cs et fr hc2 => h.ty b ls hb2 cs et fr (by rw [hb _ fun e => hg (.inl ⟨b, ls, hb2, e⟩)] at hc2; exact hc2), fun x hx => ⟨(h.gl x hx).1, by rw [hb _ (hgt x hx)]; exact (h.gl x hx).2⟩⟩
 ·exact h.slots.imp fun _ _ ha => ha.imp htr
 ·intro b ls hb2
  obtain ⟨cs, et, h1, h2⟩ := h.box b ls hb2
  exact ⟨cs, et, by rw [hb _ fun e => hg (.inl ⟨b, ls, hb2, e⟩)]; exact h1, h2.imp htr⟩
 ·intro l x hx
  obtain ⟨h0, cs, h1, h2⟩ := h.own l x hx
  refine ⟨h0, cs, Bk0 h1 fun k hk => hb k fun e => hg (.inr ⟨l, x, hx, by rw [← e]; exact hk⟩), ?_⟩
  rw [hok]
  exact All2.imp h2 fun _ _ hr => Rep.monoC (fun k _ => hsame k) hr
theorem e_mark (h : Holds F s G a.tmps.toList w) {t d e : Nat} {x : Operand} (ho : o.op = .convert t t x) (hd : o.dst = some d) {l : Nat} (hl : Ax (s.get x) = some (.own l)) (he : Bou P t = some e) (hu : isU8 P e = true)
  {q : Own} (hq : Ag s l = some q) (hn : 0 < q.xs.length) : EOK P F s G a w o ((frz s l).put (some d) (lf (pvL q.t q.xs))) := by
 have e1 : a.eval x = G.ow l := (Bh h hl).1
 have hrep := Jh h hq
 obtain ⟨h0, cs, hr, hel⟩ := h.own l q hq
 rcases hr.2 with ⟨_, e2⟩ | ⟨g, cap, cur, e2, _, e3, e4, e5, e6, e7⟩
 ·omega
 ·have hgl : Live s G g := .inr ⟨l, q, hq, by rw [e2]; rfl⟩
  have hng : ¬ Live (frz s l) G g := fun hL => (Hp h hL).2 q hq (by rw [e2]; rfl)
  have hsh : w.shape? g = some (q.e, cur.size) := by simp [World.shape?, e3]
  have hrun : (convert t t (G.ow l)).run P w = .ok (G.ow l) (w.freeze ⟨g, cur.size, none⟩ 1) := by
   rw [e2]
   simp [convert, run_underlying (E5 he), run_underlying (uOf hu), markStringish, hsh]
  have hw : w.freeze ⟨g, cur.size, none⟩ 1 = { w with heap := w.heap.modify g fun ob => match ob with
    | .cells c elem (lo, hi) => .cells c elem (if lo == hi then (cur.size, cur.size + 1) else (min lo cur.size, max hi (cur.size + 1)))
    | ob => ob } := by
   unfold World.freeze
   rw [if_neg (by decide)]
   rfl
  generalize hw' : w.freeze ⟨g, cur.size, none⟩ 1 = w2 at hrun hw
  have hs2 : w2.heap.size = w.heap.size := by rw [hw]; simp
  have hb2 : ∀ k, k ≠ g → w2.heap[k]? = w.heap[k]? := by
   intro k hk
   rw [hw]
   simp only [Array.getElem?_modify]
   rw [if_neg (fun e => hk e.symm)]
  have hc2 : Ik w w2 g := by
   intro ad had
   rw [hw]
   simp only [World.cell?, Array.getElem?_modify, had, if_true, e3, Option.map_some]
  have h5 := (M0 h l).mark hng hs2 hc2 hb2 fun x hx e => (h.gl x hx).1 (by rw [e]; exact hgl)
  have h6 : HR F (frz s l) G w2 (pvL q.t q.xs) (G.ow l) := by
   have h7 : Rep w (okS F (frz s l) G w) (.slice q.t) q.xs [G.ow l] := Rep.mono (fun k hk => ⟨Atu h hq hk, rfl⟩) hrep
   have h8 : okS F (frz s l) G w2 = okS F (frz s l) G w := by funext k; simp [okS, hs2]
   show Rep w2 (okS F (frz s l) G w2) (.slice q.t) q.xs [G.ow l]
   rw [h8]
   refine Rep.monoC (fun k hk => ?_) h7
   by_cases ek : k = g
   ·subst ek; exact hc2
   ·rintro ad rfl
    exact World.cell?_of_block (w := w) (hb2 _ ek)
  have h9 := h5.put (some d) (v := lf (pvL q.t q.xs)) h6
  rw [← hd] at h9 ⊢
  refine .value (u := G.ow l) ?_ h9 (Step.trans (s1 := frz s l) (G1 := G) (w1 := w2) ⟨⟨by rw [hw], by rw [hw], by rw [hw], by rw [hs2]; exact Nat.le_refl _, fun k _ hk => hb2 k fun e => hk (by rw [e]; exact hgl)⟩, fun k hk => .inl (Hp h hk).1, fun _ _ => ⟨rfl, rfl⟩, (Aat h l N0 N0).go⟩ (Step.put _ _))
  simp [execOp, ho, e1, hrun]
theorem Bgr {C : Cfg} (h : Holds F s G a.tmps.toList w) (hn : Bx o.op = false) (hv : (opE C s o.dst o.op).val = some s') : EOK C.P F s G a w o s' := by
 unfold opE at hv
 split at hv
 ·rename_i t d ho hd
  split at hv
  ·rename_i ls hz
   exact Aer h ho hd hz hv
  ·cases hv
 ·rename_i t x d ho hd
  split at hv
  ·rename_i ls hl
   exact e_box h ho hd hl hv
  ·cases hv
 ·rename_i t x y ho hd
  split at hv
  ·rename_i b k new n hp hnew hz
   split at hv
   ·rename_i ls hb
    split at hv
    ·rename_i hc
     cases hv
     exact A6l h ho hd hp hnew hz hb hc
    ·cases hv
   ·cases hv
  ·rename_i l i k z new n hp hnew hz
   split at hv
   ·rename_i q hq
    split at hv
    ·rename_i hc
     split at hv
     ·rename_i ps hps
      split at hv
      ·rename_i x' hu
       split at hv
       ·cases hv
       ·rename_i hno
        cases hv
        exact A6m h ho hd hp hnew hz hq hc hps hu (by simpa using hno)
      ·cases hv
     ·cases hv
    ·cases hv
   ·cases hv
  ·cases hv
 ·rename_i t len ps d ho hd
  split at hv
  ·rename_i e he
   split at hv
   ·rename_i te q z hte hq hz
    split at hv
    ·rename_i x hx
     split at hv
     ·rename_i xs hxs
      split at hv
      ·rename_i hl
       exact e_build h ho hd he hte hz hx hq hxs hl hv
      ·cases hv
     ·cases hv
    ·cases hv
   ·cases hv
  ·cases hv
 ·rename_i t x y d ho hd
  split at hv
  ·rename_i e n m he hn1 hm1
   split at hv
   ·rename_i te z hte hz
    split at hv
    ·rename_i q hq
     simp only [Oc.val] at hv
     cases hc : (decide (0 ≤ n) && decide (n = m) && decide ((E1 C.P e : Int) * n ≤ 140737488355328) && decide (n ≤ 9223372036854775807)) with
     | false => rw [hc] at hv; cases hv
     | true =>
      rw [hc] at hv
      exact e_make h ho hd he hn1 hm1 hte hz hq hc hv
    ·cases hv
   ·cases hv
  ·cases hv
 ·rename_i T x lo hi d ho hd
  split at hv
  ·rename_i l hl
   split at hv
   ·rename_i e q he hq
    split at hv
    ·rename_i p r hp hr
     split at hv
     ·rename_i hz
      split at hv
      ·split at hv
       ·simp only [Oc.val] at hv
        cases hb : cutB p r q.xs.length with
        | false => rw [hb] at hv; cases hv
        | true =>
         rw [hb] at hv
         obtain rfl : p = 0 := by simpa [Bv] using hp.symm
         exact e_pop h ho hd hl he hq hr hz hb hv
       ·cases hv
      ·simp only [Oc.val] at hv
       cases hb : cutB p r q.xs.length with
       | false => rw [hb] at hv; cases hv
       | true =>
        rw [hb] at hv
        cases hv
        exact e_cut h ho hd hl he hq hp hr hz hb
     ·cases hv
    ·cases hv
   ·cases hv
  ·exact L5 h hv
 ·rename_i t1 t2 x d ho hd
  split at hv
  ·rename_i l hl
   split at hv
   ·rename_i e12
    subst e12
    split at hv
    ·rename_i e q he hq
     split at hv
     ·rename_i hu
      simp only [Oc.val] at hv
      cases hb : decide (0 < q.xs.length) with
      | false => rw [hb] at hv; cases hv
      | true =>
       rw [hb] at hv
       cases hv
       exact e_mark h ho hd hl he hu hq (by simpa using hb)
     ·cases hv
    ·cases hv
   ·exact L5 h hv
  ·exact L5 h hv
 ·rename_i as ts d ho hd
  split at hv
  ·rename_i x y t u has hts
   split at hv
   ·rename_i etu
    subst etu
    split at hv
    ·rename_i la lb e hla hlb he
     obtain rfl : as = #[x, y] := by rw [← Array.toList_inj]; exact has
     obtain rfl : ts = #[t, t] := by rw [← Array.toList_inj]; exact hts
     exact A6j h ho hd hla hlb he hv
    ·cases hv
   ·split at hv
    ·rename_i hus
     split at hv
     ·rename_i la z e hla hlb he
      split at hv
      ·rename_i hu8
       obtain rfl : as = #[x, y] := by rw [← Array.toList_inj]; exact has
       obtain rfl : ts = #[t, u] := by rw [← Array.toList_inj]; exact hts
       exact A6k h ho hd hla hlb he hus hu8 hv
      ·cases hv
     ·cases hv
    ·cases hv
  ·cases hv
 ·rename_i f as ts d ho hd
  rw [ho] at hn
  cases hn
 ·exact L5 h hv
end
section
variable {P : Program} {F : Nat → Prop} {s s' : St} {G : Gm} {a : Act} {w w' : World} {o : Oper} {v : AV} {vals : List Value}
def coG (G : Gm) (mB : List Nat) (mO : List (Option Nat)) : Gm :=
 {bx := fun b => G.bx (mB.getD b 0), ow := fun l => match mO.getD l none with | some l' => G.ow l' | none => .slice none 0 0, et := fun b => G.et (mB.getD b 0) }
def KeptB (s : St) (G : Gm) (br bx : List Nat) (mB : List Nat) (mO : List (Option Nat)) (j : Nat) : Prop :=
 (∃ b ∈ mB ++ bx, ∃ ls, Ah s b = some ls ∧ G.bx b = j) ∨ (∃ l ∈ somes mO ++ br, ∃ x, Ag s l = some x ∧ (G.ow l).ownBlock = some j)
def FL (F : Nat → Prop) (s : St) (G : Gm) (br bx : List Nat) (mB : List Nat) (mO : List (Option Nat)) (j : Nat) : Prop := F j ∨ (Live s G j ∧ ¬ KeptB s G br bx mB mO j)
theorem Gx : ∀ {l : List (Option Nat)} {i x : Nat}, l[i]? = some (some x) → x ∈ somes l
 | [], i, x, h => by simp at h
 | none :: r, 0, x, h => by simp at h
 | some y :: r, 0, x, h => by simp at h; subst h; simp [somes]
 | none :: r, i + 1, x, h => by simp [somes]; exact Gx (i := i) (by simpa using h)
 | some y :: r, i + 1, x, h => by simp only [somes, List.mem_cons]; exact .inr (Gx (i := i) (by simpa using h))
theorem Rd : ∀ {l : List Nat}, C3 l = true → ∀ {i j x : Nat}, l[i]? = some x → l[j]? = some x → i = j
 | [], _, i, j, x, h, _ => by simp at h
 | y :: r, hn, i, j, x, h1, h2 => by
  simp only [C3, Bool.and_eq_true, Bool.not_eq_true', List.contains_eq_mem, decide_eq_false_iff_not] at hn
  cases i with
  | zero =>
   cases j with
   | zero => rfl
   | succ j => simp at h1 h2; subst h1; exact absurd (List.mem_of_getElem? h2) hn.1
  | succ i =>
   cases j with
   | zero => simp at h1 h2; subst h2; exact absurd (List.mem_of_getElem? h1) hn.1
   | succ j => rw [Rd hn.2 (i := i) (j := j) (by simpa using h1) (by simpa using h2)]
theorem Abm : ∀ {l : List (Option Nat)}, C3 (somes l) = true → ∀ {i j x : Nat}, l[i]? = some (some x) → l[j]? = some (some x) → i = j
 | [], _, i, j, x, h, _ => by simp at h
 | none :: r, hn, i, j, x, h1, h2 => by
  cases i with
  | zero => simp at h1
  | succ i =>
   cases j with
   | zero => simp at h2
   | succ j => rw [Abm (l := r) hn (i := i) (j := j) (by simpa using h1) (by simpa using h2)]
 | some y :: r, hn, i, j, x, h1, h2 => by
  simp only [somes, C3, Bool.and_eq_true, Bool.not_eq_true', List.contains_eq_mem, decide_eq_false_iff_not] at hn
  cases i with
  | zero =>
   cases j with
   | zero => rfl
   | succ j => simp at h1 h2; subst h1; exact absurd (Gx (i := j) h2) hn.1
  | succ i =>
   cases j with
   | zero => simp at h1 h2; subst h2; exact absurd (Gx (i := i) h1) hn.1
   | succ j => rw [Abm hn.2 (i := i) (j := j) (by simpa using h1) (by simpa using h2)]
theorem Ss {mB : List Nat} {b b' : Nat} (h : bTo mB b b' = true) : mB[b]? = some b' := by
 unfold bTo at h
 split at h
 ·rename_i x e; rw [e]; simp at h; rw [h]
 ·cases h
theorem Q5 {mO : List (Option Nat)} {l l' : Nat} (h : isTo mO l l' = true) : mO[l]? = some (some l') := by
 unfold isTo at h
 split at h
 ·rename_i x e; rw [e]; simp at h; rw [h]
 ·cases h
theorem Bfk {mO : List (Option Nat)} {l : Nat} (h : isNil mO l = true) : mO[l]? = some none := by
 unfold isNil at h
 split at h
 ·assumption
 ·cases h
theorem Abw (G : Gm) (mB : List Nat) (mO : List (Option Nat)) : ∀ (a b : List (Nat × Nat)), Na mB a b = true → b.map (ptrV G) = a.map (ptrV (coG G mB mO))
 | [], [], _ => rfl
 | x :: r, y :: q, h => by
  simp only [Na, Bool.and_eq_true] at h
  obtain ⟨⟨h1, h2⟩, h3⟩ := h
  simp only [List.map_cons, Abw G mB mO r q h3, List.cons.injEq, and_true]
  split at h1
  ·rename_i z hz
   simp at h1 h2
   simp [ptrV, coG, List.getD, hz, h1, h2]
  ·cases h1
 | [], _ :: _, h => by cases h
 | _ :: _, [], h => by cases h
theorem Lq {br bx mB mO} : ∀ {ks : List (List SL)} {bs : List Nat} {out : List (Option (List L))}, coBs s br bx mB mO ks bs = some out → out.length = bs.length ∧ ks.length = bs.length ∧ ∀ (i : Nat) (x : Option (List L)), out[i]? = some x →
  ∃ b ls ls' k, bs[i]? = some b ∧ ks[i]? = some k ∧ Ah s b = some ls ∧ coLs s br bx mB mO k ls = some ls' ∧ x = some ls'
 | [], [], out, h => by cases h; exact ⟨rfl, rfl, fun i x hx => by simp at hx⟩
 | k :: r, b :: q, out, h => by
  simp only [coBs] at h
  obtain ⟨ls, h1, h2⟩ := Option.bind_eq_some_iff.1 h
  obtain ⟨ls', h3, h4⟩ := Option.bind_eq_some_iff.1 h2
  obtain ⟨c, h5, h6⟩ := Option.bind_eq_some_iff.1 h4
  cases h6
  obtain ⟨e1, e2, e3⟩ := Lq h5
  refine ⟨by simp [e1], by simp [e2], fun i x hx => ?_⟩
  cases i with
  | zero => simp at hx; exact ⟨b, ls, ls', k, by simp, by simp, h1, h3, hx.symm⟩
  | succ i =>
   obtain ⟨b', l1, l2, k', f1, f2, f3, f4, f5⟩ := e3 i x (by simpa using hx)
   exact ⟨b', l1, l2, k', by simpa using f1, by simpa using f2, f3, f4, f5⟩
 | [], _ :: _, _, h => by cases h
 | _ :: _, [], _, h => by cases h
theorem Gs : ∀ {ks : List (Option (Nat × Ty))} {ms : List (Option Nat)} {out : List (Option Own)}, coOs s ks ms = some out → out.length = ms.length ∧ ks.length = ms.length ∧ ∀ (i : Nat) (x : Own), out[i]? = some (some x) →
  (∃ k, ks[i]? = some (some k)) ∧ ((∃ l, ms[i]? = some (some l) ∧ Ag s l = some x) ∨ (ms[i]? = some none ∧ x.xs = [] ∧ 0 < x.t.size))
 | [], [], out, h => by cases h; exact ⟨rfl, rfl, fun i x hx => by simp at hx⟩
 | some k :: r, some l :: q, out, h => by
  simp only [coOs] at h
  obtain ⟨y, h1, h2⟩ := Option.bind_eq_some_iff.1 h
  split at h2
  ·obtain ⟨c, h5, h6⟩ := Option.bind_eq_some_iff.1 h2
   cases h6
   obtain ⟨e1, e2, e3⟩ := Gs h5
   refine ⟨by simp [e1], by simp [e2], fun i x hx => ?_⟩
   cases i with
   | zero => simp at hx; subst hx; exact ⟨⟨k, by simp⟩, .inl ⟨l, by simp, h1⟩⟩
   | succ i => simpa using e3 i x (by simpa using hx)
  ·cases h2
 | some k :: r, none :: q, out, h => by
  simp only [coOs] at h
  split at h
  ·rename_i hz
   obtain ⟨c, h5, h6⟩ := Option.bind_eq_some_iff.1 h
   cases h6
   obtain ⟨e1, e2, e3⟩ := Gs h5
   refine ⟨by simp [e1], by simp [e2], fun i x hx => ?_⟩
   cases i with
   | zero => simp at hx; subst hx; exact ⟨⟨k, by simp⟩, .inr ⟨by simp, rfl, hz⟩⟩
   | succ i => simpa using e3 i x (by simpa using hx)
  ·cases h
 | none :: r, m :: q, out, h => by
  simp only [coOs] at h
  obtain ⟨c, h5, h6⟩ := Option.bind_eq_some_iff.1 h
  cases h6
  obtain ⟨e1, e2, e3⟩ := Gs h5
  refine ⟨by simp [e1], by simp [e2], fun i x hx => ?_⟩
  cases i with
  | zero => simp at hx
  | succ i => simpa using e3 i x (by simpa using hx)
 | [], _ :: _, _, h => by cases h
 | some _ :: _, [], _, h => by cases h
 | none :: _, [], _, h => by cases h
theorem Ht {α : Type} {l : List (Option α)} {n i : Nat} {x : α} (h : ((l ++ List.replicate n none)[i]?).bind id = some x) : l[i]? = some (some x) := by
 rw [List.getElem?_append] at h
 split at h
 ·rename_i hi
  rw [List.getElem?_eq_getElem hi] at h ⊢
  simp at h
  rw [h]
 ·rw [List.getElem?_replicate] at h
  split at h
  ·simp at h
  ·simp at h
theorem Holds.weakF {F F' : Nat → Prop} (h : Holds F' s G vals w) (hF : ∀ j, F j → F' j) : Holds F s G vals w := by
 have hok : ∀ k, okS F' s G w k → okS F s G w k ∧ w.heap[k]? = w.heap[k]? := fun k hk => ⟨⟨hk.1, fun e => hk.2.1 (hF k e), hk.2.2⟩, rfl⟩
 have htr : ∀ l v, HR F' s G w l v → HR F s G w l v := fun l v hr => HL.keep hok (fun l x hx => ⟨x, hx, Nat.le_refl _, rfl⟩) hr
 exact ⟨h.slots.imp fun _ _ ha => ha.imp htr, fun b ls hb => by
  obtain ⟨cs, et, h1, h2⟩ := h.box b ls hb
  exact ⟨cs, et, h1, h2.imp htr⟩, fun l x hx => by
  obtain ⟨h0, cs, h1, h2⟩ := h.own l x hx
  exact ⟨h0, cs, h1, h2.mono hok⟩, h.bb, h.bo, h.oo, fun k hk e => h.nF k hk (hF k e), fun k hk => h.Flt k (hF k hk), h.ty, h.gl⟩
theorem Abu {R : L → Value → Prop} {ok : Nat → Prop} {w : World} (hR : ∀ p v, R (.pv p) v → RepL w ok p v) : ∀ {ls : List L} {ps : List PL} {cs : List Value}, Gc ls = some ps → All2 R ls cs → All2 (RepL w ok) ps cs
 | [], ps, cs, h1, h2 => by cases h1; cases h2; exact .nil
 | .pv p :: ls, ps, cs, h1, h2 => by
  simp only [Gc] at h1
  obtain ⟨q, hq, rfl⟩ := Option.map_eq_some_iff.1 h1
  cases h2 with
  | cons h3 h4 => exact .cons (hR _ _ h3) (Abu hR hq h4)
 | .dead :: _, _, _, h1, _ => by cases h1
 | .cst _ :: _, _, _, h1, _ => by cases h1
 | .ptr _ _ :: _, _, _, h1, _ => by cases h1
 | .own _ :: _, _, _, h1, _ => by cases h1
 | .ept _ _ _ _ :: _, _, _, h1, _ => by cases h1
 | .rpt _ :: _, _, _, h1, _ => by cases h1
 | .fn _ _ _ :: _, _, _, h1, _ => by cases h1
 | .ifc _ _ _ :: _, _, _, h1, _ => by cases h1
 | .err _ :: _, _, _, h1, _ => by cases h1
theorem Jw {k : Sk} {n : Nat} {c : Co} (hc : co k s n = some c) : C3 c.mB = true ∧ C3 (somes c.mO) = true ∧ (∀ l ∈ c.br, l ∉ somes c.mO) ∧ (∀ b ∈ c.bx, b ∉ c.mB) ∧
  ∃ as bs os, coAs s c.br c.bx c.mB c.mO k.slots s.slots = some as ∧ coBs s c.br c.bx c.mB c.mO k.boxes c.mB = some bs ∧ coOs s k.owns c.mO = some os ∧ c.s = ⟨as, bs ++ List.replicate (n - bs.length) none, os ++ List.replicate (n - os.length) none⟩ := by
 unfold co Ad7 at hc
 generalize R6 s k.boxes 0 ((Jq k.slots s.slots).flatMap fun x => conB x.1 x.2) (Jq k.slots s.slots) = W at hc
 obtain ⟨mb, zs⟩ := W
 simp only at hc
 generalize brOf zs = br at hc
 generalize bxOf zs = bx at hc
 generalize ((List.range k.boxes.length).map fun b => look b mb b) = mB at hc
 generalize ((List.range k.owns.length).map fun l => look (some l) (zs.flatMap fun x => conO x.1 x.2) l) = mO at hc
 unfold Ad8 at hc
 split at hc
 ·rename_i hcond
  obtain ⟨as, h1, h2⟩ := Option.bind_eq_some_iff.1 hc
  obtain ⟨bs, h3, h4⟩ := Option.bind_eq_some_iff.1 h2
  obtain ⟨os, h5, h6⟩ := Option.bind_eq_some_iff.1 h4
  cases h6
  simp only [Bool.and_eq_true] at hcond
  obtain ⟨⟨⟨c1, c2⟩, c3⟩, c4⟩ := hcond
  refine ⟨c1, c2, fun l hl hm => ?_, fun l hl hm => ?_, as, bs, os, h1, h3, h5, rfl⟩
  ·have := List.all_eq_true.1 c3 l hl
   simp at this
   exact this hm
  ·have := List.all_eq_true.1 c4 l hl
   simp at this
   exact this hm
 ·cases hc
theorem Tj {k : Sk} {n : Nat} {c : Co} (h : Holds F s G vals w) (hc : co k s n = some c) : Holds (FL F s G c.br c.bx c.mB c.mO) c.s (coG G c.mB c.mO) vals w ∧ (∀ j, Live c.s (coG G c.mB c.mO) j → Live s G j) := by
 obtain ⟨hnB, hnO, hdis, hdisB, as, bs, os, hA, hB, hO, hs⟩ := Jw hc
 generalize hbr : c.br = br at *
 generalize hbx : c.bx = bx at *
 generalize hmB : c.mB = mB at *
 generalize hmO : c.mO = mO at *
 obtain ⟨hBl, hBk, hBg⟩ := Lq hB
 obtain ⟨hOl, hOk, hOg⟩ := Gs hO
 have hbox : ∀ b ls, Ah c.s b = some ls → ∃ b' q k', mB[b]? = some b' ∧ Ah s b' = some q ∧ coLs s br bx mB mO k' q = some ls := by
  intro b ls hb
  rw [hs] at hb
  obtain ⟨b', q, ls', k', f1, f2, f3, f4, f5⟩ := hBg b _ (Ht hb)
  cases f5
  exact ⟨b', q, k', f1, f3, f4⟩
 have hown : ∀ l x, Ag c.s l = some x → (∃ l', mO[l]? = some (some l') ∧ Ag s l' = some x) ∨ (mO[l]? = some none ∧ x.xs = [] ∧ 0 < x.t.size) := by
  intro l x hx
  rw [hs] at hx
  exact (hOg l x (Ht hx)).2
 have hGb : ∀ {b b'}, mB[b]? = some b' → (coG G mB mO).bx b = G.bx b' := fun hb => by simp [coG, List.getD, hb]
 have hGo : ∀ {l l'}, mO[l]? = some (some l') → (coG G mB mO).ow l = G.ow l' := fun hl => by simp [coG, List.getD, hl]
 have hGn : ∀ {l}, mO[l]? = some none → (coG G mB mO).ow l = .slice none 0 0 := fun hl => by simp [coG, List.getD, hl]
 have hlive : ∀ j, Live c.s (coG G mB mO) j → Live s G j ∧ KeptB s G br bx mB mO j := by
  rintro j (⟨b, ls, hb, rfl⟩ | ⟨l, x, hx, hj⟩)
  ·obtain ⟨b', q, k', f1, f2, f3⟩ := hbox b ls hb
   rw [hGb f1]
   exact ⟨.inl ⟨b', q, f2, rfl⟩, .inl ⟨b', List.mem_append_left _ (List.mem_of_getElem? f1), q, f2, rfl⟩⟩
  ·rcases hown l x hx with ⟨l', f1, f2⟩ | ⟨f1, f2, f3⟩
   ·rw [hGo f1] at hj
    exact ⟨.inr ⟨l', x, f2, hj⟩, .inr ⟨l', List.mem_append_left _ (Gx f1), x, f2, hj⟩⟩
   ·rw [hGn f1] at hj
    simp [Value.ownBlock] at hj
 have hok : ∀ j, okS F s G w j → okS (FL F s G br bx mB mO) c.s (coG G mB mO) w j ∧ w.heap[j]? = w.heap[j]? := by
  intro j hj
  refine ⟨⟨hj.1, ?_, fun hL => hj.2.2 (hlive j hL).1⟩, rfl⟩
  rintro (h1 | h1)
  ·exact hj.2.1 h1
  ·exact hj.2.2 h1.1
 have hok2 : ∀ l x, l ∈ br → Ag s l = some x → ∀ j, (okS F s G w j ∨ (G.ow l).ownBlock = some j) → okS (FL F s G br bx mB mO) c.s (coG G mB mO) w j ∧ w.heap[j]? = w.heap[j]? := by
  rintro l x hl hx j (hj | hj)
  ·exact hok j hj
  ·have hLj : Live s G j := .inr ⟨l, x, hx, hj⟩
   refine ⟨⟨h.lt hLj, ?_, ?_⟩, rfl⟩
   ·rintro (h1 | h1)
    ·exact h.nF j hLj h1
    ·exact h1.2 (.inr ⟨l, List.mem_append_right _ hl, x, hx, hj⟩)
   ·rintro (⟨b, ls, hb, rfl⟩ | ⟨l2, y, hy, hj2⟩)
    ·obtain ⟨b', q, k', f1, f2, f3⟩ := hbox b ls hb
     rw [hGb f1] at hj
     exact h.bo b' q l x f2 hx hj
    ·rcases hown l2 y hy with ⟨l', f1, f2⟩ | ⟨f1, f2, f3⟩
     ·rw [hGo f1] at hj2
      have := h.oo l l' x y j hx f2 hj hj2
      subst this
      exact hdis l hl (Gx f1)
     ·rw [hGn f1] at hj2
      simp [Value.ownBlock] at hj2
 have hLend : ∀ (b k n : Nat) (ls : List L) (ps : List PL), b ∈ bx → Ah s b = some ls → Gc ((ls.drop k).take n) = some ps → RP w (okS (FL F s G br bx mB mO) c.s (coG G mB mO) w) ps (.pointer (some ⟨G.bx b, k, none⟩)) := by
  intro b k n ls ps hmb hls hps
  obtain ⟨cs, et, k1, k2⟩ := h.box b ls hls
  have hLj : Live s G (G.bx b) := .inl ⟨b, ls, hls, rfl⟩
  refine ⟨⟨G.bx b, k, none⟩, (cs.toList.drop k).take n, rfl, rfl, ⟨h.lt hLj, ?_, ?_⟩, (Ip k1 k).take _, ?_⟩
  ·rintro (h1 | h1)
   ·exact h.nF _ hLj h1
   ·exact h1.2 (.inl ⟨b, List.mem_append_right _ hmb, ls, hls, rfl⟩)
  ·rintro (⟨b2, ls2, hb2, e⟩ | ⟨l2, y, hy, e⟩)
   ·obtain ⟨b', q, k', f1, f2, f3⟩ := hbox b2 ls2 hb2
    rw [hGb f1] at e
    have := h.bb b' b q ls f2 hls e
    subst this
    exact hdisB b' hmb (List.mem_of_getElem? f1)
   ·rcases hown l2 y hy with ⟨l', f1, f2⟩ | ⟨f1, f2, f3⟩
    ·rw [hGo f1] at e
     exact h.bo b ls l' y hls f2 e
    ·rw [hGn f1] at e
     simp [Value.ownBlock] at e
  ·exact (Abu (R := HR F s G w) (ok := okS F s G w) (fun _ _ h => h) hps ((k2.drop k).take n)).imp fun _ _ h => h.mono hok
 have hL : ∀ sl l l' v, coL s br bx mB mO sl l = some l' → HR F s G w l v → HR (FL F s G br bx mB mO) c.s (coG G mB mO) w l' v := by
  intro sl l l' v hco hr
  unfold coL at hco
  split at hco
  ·cases hco; exact hr.one
  ·split at hco
   ·cases hco
    exact RepL.mono hok hr
   ·cases hco
  ·rename_i t m
   split at hco
   ·cases hco
   ·rename_i hmem
    obtain ⟨x, hx, h2⟩ := Option.bind_eq_some_iff.1 hco
    split at h2
    ·rename_i et
     cases h2
     have h5 := Jh h hx
     rw [← show v = G.ow m from hr.1] at h5
     refine Rep.mono ?_ h5
     rw [show v = G.ow m from hr.1]
     exact hok2 m x (by simpa using hmem) hx
    ·cases h2
  ·split at hco
   ·cases hco
    rw [show v = _ from hr]
    exact ⟨none, 0, rfl, Nat.le_refl _, Nat.zero_le _, fun hne => absurd rfl hne⟩
   ·cases hco
  ·split at hco
   ·cases hco; exact hr
   ·cases hco
  ·rename_i b q b' q'
   split at hco
   ·rename_i hcond
    cases hco
    simp only [Bool.and_eq_true, beq_iff_eq] at hcond
    obtain ⟨c1, rfl⟩ := hcond
    show v = _
    rw [hGb (Ss c1)]
    exact hr
   ·cases hco
  ·split at hco
   ·rename_i hto
    cases hco
    exact ⟨by rw [hGo (Q5 hto)]; exact hr.1, hr.2⟩
   ·cases hco
  ·split at hco
   ·rename_i hni
    cases hco
    exact ⟨by rw [hGn (Bfk hni)]; exact hr, by rw [show v = _ from hr]; rfl⟩
   ·cases hco
  ·rename_i l1 q1 z1 l2 i2 q2 z2
   split at hco
   ·rename_i hcond
    cases hco
    simp only [Bool.and_eq_true, beq_iff_eq] at hcond
    obtain ⟨⟨c1, rfl⟩, rfl⟩ := hcond
    obtain ⟨g, n1, cc, e, e2, e3⟩ := hr
    refine ⟨g, n1, cc, by rw [hGo (Q5 c1)]; exact e, e2, fun x hx => ?_⟩
    rcases hown l1 x hx with ⟨l', f1, f2⟩ | ⟨f1, f2, f3⟩
    ·rw [Q5 c1] at f1
     cases f1
     exact e3 x f2
    ·rw [Q5 c1] at f1
     cases f1
   ·cases hco
  ·split at hco
   ·cases hco
    obtain ⟨ad, cs, e, hs1, ho1, hc1, hr1⟩ := hr
    exact ⟨ad, cs, e, hs1, (hok _ ho1).1, hc1, hr1.imp fun _ _ h => h.mono hok⟩
   ·cases hco
  ·rename_i ts b k
   split at hco
   ·cases hco
   ·rename_i hmem
    obtain ⟨ls, hls, h5⟩ := Option.bind_eq_some_iff.1 hco
    obtain ⟨ps, hps, h6⟩ := Option.bind_eq_some_iff.1 h5
    split at h6
    ·cases h6
     obtain ⟨cs, et, k1, k2⟩ := h.box b ls hls
     have hmb : b ∈ bx := by simpa using hmem
     have hLj : Live s G (G.bx b) := .inl ⟨b, ls, hls, rfl⟩
     refine ⟨⟨G.bx b, k, none⟩, (cs.toList.drop k).take ts.length, hr, rfl, ⟨h.lt hLj, ?_, ?_⟩, (Ip k1 k).take _, ?_⟩
     ·rintro (h1 | h1)
      ·exact h.nF _ hLj h1
      ·exact h1.2 (.inl ⟨b, List.mem_append_right _ hmb, ls, hls, rfl⟩)
     ·rintro (⟨b2, ls2, hb2, e⟩ | ⟨l2, y, hy, e⟩)
      ·obtain ⟨b', q, k', f1, f2, f3⟩ := hbox b2 ls2 hb2
       rw [hGb f1] at e
       have := h.bb b' b q ls f2 hls e
       subst this
       exact hdisB b' hmb (List.mem_of_getElem? f1)
      ·rcases hown l2 y hy with ⟨l', f1, f2⟩ | ⟨f1, f2, f3⟩
       ·rw [hGo f1] at e
        exact h.bo b ls l' y hls f2 e
       ·rw [hGn f1] at e
        simp [Value.ownBlock] at e
     ·exact (Abu (R := HR F s G w) (ok := okS F s G w) (fun _ _ h => h) hps ((k2.drop k).take ts.length)).imp fun _ _ h => h.mono hok
    ·cases h6
  ·rename_i f x y f' x' y'
   split at hco
   ·rename_i hcond
    cases hco
    simp only [Bool.and_eq_true, beq_iff_eq] at hcond
    obtain ⟨⟨rfl, c2⟩, c3⟩ := hcond
    show v = _
    rw [show v = _ from hr, Abw G mB mO _ _ c2, Abw G mB mO _ _ c3]
   ·cases hco
  ·split at hco
   ·rename_i hcond
    cases hco
    simp only [Bool.and_eq_true, beq_iff_eq] at hcond
    obtain ⟨⟨rfl, rfl⟩, _⟩ := hcond
    obtain ⟨cs, hr1, e⟩ := hr
    exact ⟨cs, hr1.imp fun _ _ h => h.mono hok, e⟩
   ·cases hco
  ·cases hco; exact hr
  ·cases hco; exact hr
  ·cases hco
   obtain ⟨cs, hr1, e⟩ := hr
   exact ⟨_, _, e⟩
  ·rename_i b t b' t' z
   split at hco
   ·rename_i hcond
    cases hco
    simp only [Bool.and_eq_true, beq_iff_eq] at hcond
    obtain ⟨c1, rfl⟩ := hcond
    have hmb : mB[b]? = some b' := by
     unfold bTo at c1
     split at c1
     ·rename_i y hy; rw [hy, beq_iff_eq.1 c1]
     ·cases c1
    refine ⟨?_, ?_⟩
    ·rw [hGb hmb]; exact hr.1
    ·show G.et (mB.getD b 0) = t
     rw [List.getD_eq_getElem?_getD, hmb]
     exact hr.2
   ·cases hco
  ·split at hco
   ·rename_i hcond
    cases hco
    simp only [Bool.and_eq_true, beq_iff_eq] at hcond
    obtain ⟨c1, rfl⟩ := hcond
    show v = _
    rw [hGb (Ss c1)]
    exact hr
   ·cases hco
  ·split at hco
   ·rename_i hcond
    cases hco
    simp only [Bool.and_eq_true, beq_iff_eq] at hcond
    obtain ⟨⟨c1, rfl⟩, rfl⟩ := hcond
    show v = _
    rw [hGb (Ss c1)]
    exact hr
   ·cases hco
  ·rename_i z t' ps
   split at hco
   ·rename_i hcond
    cases hco
    simp only [Bool.and_eq_true, beq_iff_eq] at hcond
    obtain ⟨rfl, _⟩ := hcond
    cases z with
    | true => exact hr
    | false =>
     obtain ⟨u, e, hr1⟩ := hr
     exact ⟨u, e, hr1.mono hok⟩
   ·cases hco
  ·cases hco; exact hr
  ·rename_i t ts t' b k
   split at hco
   ·cases hco
   ·rename_i hmem
    obtain ⟨ls, hls, h5⟩ := Option.bind_eq_some_iff.1 hco
    obtain ⟨ps, hps, h6⟩ := Option.bind_eq_some_iff.1 h5
    simp only [Bool.not_eq_true', Bool.not_eq_false, Bool.and_eq_true, beq_iff_eq] at hmem
    obtain ⟨hmb, rfl⟩ := hmem
    split at h6
    ·cases h6
     exact ⟨_, hr, hLend b k ts.length ls ps (by simpa using hmb) hls hps⟩
    ·cases h6
  ·rename_i z ps
   split at hco
   ·cases hco
    cases z with
    | true => exact hr
    | false => exact RP.mono hok hr
   ·cases hco
  ·cases hco; exact hr
  ·cases hco
 have hLs : ∀ (ks : List SL) (ls ls' : List L) (vs : List Value), coLs s br bx mB mO ks ls = some ls' → All2 (HR F s G w) ls vs → All2 (HR (FL F s G br bx mB mO) c.s (coG G mB mO) w) ls' vs := by
  intro ks
  induction ks with
  | nil =>
   intro ls ls' vs hco hv
   cases ls with
   | nil => cases hco; exact (by cases hv; exact .nil)
   | cons l ls => cases hco
  | cons k ks ih =>
   intro ls ls' vs hco hv
   cases ls with
   | nil => cases hco
   | cons l ls =>
    simp only [coLs] at hco
    obtain ⟨x, h1, h2⟩ := Option.bind_eq_some_iff.1 hco
    obtain ⟨y, h3, h4⟩ := Option.bind_eq_some_iff.1 h2
    cases h4
    cases hv with
    | cons hv1 hv2 => exact .cons (hL _ _ _ _ h1 hv1) (ih _ _ _ h3 hv2)
 have hAs : ∀ (ks : List SA) (as as' : List AV) (vs : List Value), coAs s br bx mB mO ks as = some as' → All2 (HA (HR F s G w)) as vs → All2 (HA (HR (FL F s G br bx mB mO) c.s (coG G mB mO) w)) as' vs := by
  intro ks
  induction ks with
  | nil =>
   intro ls ls' vs hco hv
   cases ls with
   | nil => cases hco; exact (by cases hv; exact .nil)
   | cons l ls => cases hco
  | cons k ks ih =>
   intro ls ls' vs hco hv
   cases ls with
   | nil => cases hco
   | cons l ls =>
    simp only [coAs] at hco
    obtain ⟨x, h1, h2⟩ := Option.bind_eq_some_iff.1 hco
    obtain ⟨y, h3, h4⟩ := Option.bind_eq_some_iff.1 h2
    cases h4
    cases hv with
    | cons hv1 hv2 =>
     refine .cons ?_ (ih _ _ _ h3 hv2)
     unfold coA at h1
     split at h1
     ·cases h1; trivial
     ·obtain ⟨z, h5, rfl⟩ := Option.map_eq_some_iff.1 h1
      exact hL _ _ _ _ h5 hv1
     ·obtain ⟨z, h5, rfl⟩ := Option.map_eq_some_iff.1 h1
      obtain ⟨cs, e, h6⟩ := hv1
      exact ⟨cs, e, hLs _ _ _ _ h5 h6⟩
     ·cases h1
 refine ⟨⟨?_, ?_, ?_, ?_, ?_, ?_, ?_, ?_, ?_, h.glOf (fun _ _ _ => rfl) fun j hj => .inl (hlive j hj).1⟩, fun j hj => (hlive j hj).1⟩
 ·have : c.s.slots = as := by rw [hs]
  rw [this]
  exact hAs _ _ _ _ hA h.slots
 ·intro b ls hb
  obtain ⟨b', q, k', f1, f2, f3⟩ := hbox b ls hb
  obtain ⟨cs, et, h1, h2⟩ := h.box b' q f2
  exact ⟨cs, et, by rw [hGb f1]; exact h1, hLs _ _ _ _ f3 h2⟩
 ·intro l x hx
  rcases hown l x hx with ⟨l', f1, f2⟩ | ⟨f1, f2, f3⟩
  ·obtain ⟨h0, cs, h1, h2⟩ := h.own l' x f2
   exact ⟨h0, cs, by rw [hGo f1]; exact h1, h2.mono hok⟩
  ·refine ⟨f3, [], ?_, ?_⟩
   ·rw [hGn f1, f2]
    exact World.ownsRow_nil _ _ _ _
   ·rw [f2]
    exact .nil
 ·intro b b' ls ls' hb hb' e
  obtain ⟨b1, q1, k1, f1, f2, f3⟩ := hbox b ls hb
  obtain ⟨b2, q2, k2, g1, g2, g3⟩ := hbox b' ls' hb'
  rw [hGb f1, hGb g1] at e
  have := h.bb b1 b2 q1 q2 f2 g2 e
  subst this
  exact Rd hnB f1 g1
 ·intro b ls l x hb hx e
  obtain ⟨b1, q1, k1, f1, f2, f3⟩ := hbox b ls hb
  rw [hGb f1] at e
  rcases hown l x hx with ⟨l', g1, g2⟩ | ⟨g1, g2, g3⟩
  ·rw [hGo g1] at e
   exact h.bo b1 q1 l' x f2 g2 e
  ·rw [hGn g1] at e
   simp [Value.ownBlock] at e
 ·intro l l' x x' j hx hx' e e'
  rcases hown l x hx with ⟨m, f1, f2⟩ | ⟨f1, f2, f3⟩
  ·rcases hown l' x' hx' with ⟨m', g1, g2⟩ | ⟨g1, g2, g3⟩
   ·rw [hGo f1] at e
    rw [hGo g1] at e'
    have := h.oo m m' x x' j f2 g2 e e'
    subst this
    exact Abm hnO f1 g1
   ·rw [hGn g1] at e'
    simp [Value.ownBlock] at e'
  ·rw [hGn f1] at e
   simp [Value.ownBlock] at e
 ·intro j hj hF
  obtain ⟨h1, h2⟩ := hlive j hj
  rcases hF with hF | hF
  ·exact h.nF j h1 hF
  ·exact hF.2 h2
 ·rintro j (hF | hF)
  ·exact h.Flt j hF
  ·exact h.lt hF.1
 ·intro b ls hb
  obtain ⟨b', q, k', f1, f2, f3⟩ := hbox b ls hb
  have e2 : (coG G mB mO).et b = G.et b' := by simp [coG, List.getD, f1]
  rw [hGb f1, e2]
  exact h.ty b' q f2
end
end Go.Proofs.YtipcdjgcomclkaaGreatDoorV
