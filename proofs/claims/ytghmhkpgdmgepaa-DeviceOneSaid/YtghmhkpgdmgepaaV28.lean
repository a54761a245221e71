import Derived.Test.YtghmhkpgdmgepaaV27
/-! The V engine, 28: contracts of functions that are given by hand: data in, data out, nothing written. -/
set_option linter.unusedVariables false
set_option linter.unusedSimpArgs false
namespace Go.Proofs.YtghmhkpgdmgepaaV
open Go Go.RowKit

section
variable {P : Program} {F : Nat → Prop} {s s' : St} {G : Gm} {w w' : World} {vals : List Value}

theorem grew_of_below {w w' : World} (h : Below w.heap.size w w') : Grew w w' :=
  ⟨h.os, h.tape, h.output, h.size, fun k hk _ => h.block k hk⟩

theorem not_live {s : St} {G : Gm} {k : Nat} (hb : s.boxes = []) (ho : s.owns = []) : ¬ Live s G k := by
  rintro (⟨b, ls, h, _⟩ | ⟨l, o, h, _⟩)
  · simp [boxAt, hb] at h
  · simp [ownAt, ho] at h

theorem holds_data {s : St} (hb : s.boxes = []) (ho : s.owns = []) (hF : ∀ k, F k → k < w.heap.size) (hs : All2 (HA (HR F s G w)) s.slots vals) : Holds F s G vals w where
  slots := hs
  box := fun b ls h => by simp [boxAt, hb] at h
  own := fun l o h => by simp [ownAt, ho] at h
  bb := fun b b' ls ls' h => by simp [boxAt, hb] at h
  bo := fun b ls l o h => by simp [boxAt, hb] at h
  oo := fun l l' o o' k h => by simp [ownAt, ho] at h
  nF := fun k h => absurd h (not_live hb ho)
  Flt := hF
  ty := fun b ls h => by simp [boxAt, hb] at h

theorem enc_boxes0 {k : Sk} {ps : List PL} (h : k.boxes = []) : (enc k 0 ps).boxes = [] := by simp [enc, h, encBs]
theorem enc_owns0 {k : Sk} {ps : List PL} (h : k.owns = []) : (enc k 0 ps).owns = [] := by simp [enc, h, encOs]

theorem ha_int {k : IntKind} {n : Int} {v : Value} (h : HA (HR F s G w) (lf (.pv ⟨.int k, n⟩)) v) : v = .int k n ∧ (Lit.int k n).wf = true := pvInt (w := w) (G := G) (ok := okS F s G w) (os := s.owns) h
theorem ha_bool {b : Bool} {v : Value} (h : HA (HR F s G w) (lf (.pv ⟨.bool, b⟩)) v) : v = .bool b := pvBool (w := w) (G := G) (ok := okS F s G w) (os := s.owns) h
theorem ha_str {q : List Int} {v : Value} (h : HA (HR F s G w) (lf (.pv ⟨.str, q⟩)) v) : ∃ y : ByteArray, v = .string y ∧ bs y = q ∧ y.size ≤ maxLen := pvStr (w := w) (G := G) (ok := okS F s G w) (os := s.owns) h

theorem ha_int_mk {k : IntKind} {n : Int} (h : (Lit.int k n).wf = true) : HA (HR F s G w) (lf (.pv ⟨.int k, n⟩)) (.int k n) := by
  show [Value.int k n] = [Value.int k n] ∧ (Lit.int k n).wf = true
  exact ⟨rfl, h⟩
theorem ha_bool_mk {b : Bool} : HA (HR F s G w) (lf (.pv ⟨.bool, b⟩)) (.bool b) := by
  show [Value.bool b] = [Value.bool b]
  rfl
theorem ha_str_mk {y : ByteArray} (h : y.size ≤ maxLen) : HA (HR F s G w) (lf (.pv ⟨.str, bs y⟩)) (.string y) := by
  show ∃ z : ByteArray, [Value.string y] = [Value.string z] ∧ bs z = bs y ∧ z.size ≤ maxLen
  exact ⟨y, rfl, rfl, h⟩
theorem ha_nil_mk : HA (HR F s G w) (lf (.err true)) .nilIface := rfl

/-- A contract of data. -/
theorem sig_data {kin kout : Sk} {g : Nat} (h1 : kin.boxes = []) (h2 : kin.owns = []) (h3 : kout.boxes = []) (h4 : kout.owns = []) (f : HLs kin.tys → Option (HLs kout.tys))
    (hfn : ∃ fn, P.funcs[g]? = some fn ∧ (fn.name == "runtime.NumGoroutine") = false ∧ fn.body.isSome = true)
    (h : ∀ x y, f x = some y → ∀ (F : Nat → Prop) (G : Gm) (vals : List Value) (w : World), Holds F (enc kin 0 (toPL kin.tys x)) G vals w →
      Calls P g vals.toArray w fun e w' => ∃ rv, e = .returned (retV rv) ∧ Grew w w' ∧ All2 (HA (HR F (enc kout 0 (toPL kout.tys y)) G w')) (encAs kout.slots (toPL kout.tys y)) rv) :
    SigOK P g ⟨kin, kout, mkFun kin.tys kout.tys f⟩ := by
  refine ⟨hfn, fun ps qs hrun F G vals w hH => ?_⟩
  have z1 : szS kin = 0 := by simp [szS, h1, h2]
  have z2 : szS kout = 0 := by simp [szS, h3, h4]
  simp only [mkFun] at hrun
  split at hrun
  · rename_i x hx
    obtain ⟨y, hy, hq⟩ := Option.bind_eq_some_iff.1 hrun
    cases hq
    have hps := ofPL_some hx
    subst hps
    simp only [z1, z2] at hH ⊢
    refine (h x y hy F G vals w hH).mono fun e w' he => ?_
    obtain ⟨rv, e1, e2, e3⟩ := he
    refine ⟨G, rv, e1, holds_data (enc_boxes0 h3) (enc_owns0 h4) (fun k hk => Nat.lt_of_lt_of_le (hH.Flt k hk) e2.size) e3, ⟨e2.os, e2.tape, e2.output, e2.size, fun k hk _ => e2.block hk⟩, fun k hk => absurd hk (not_live (enc_boxes0 h3) (enc_owns0 h4)), fun b hb => ?_, fun l hl => ?_⟩
    · exact ⟨rfl, rfl⟩
    · exact absurd hl (by rw [h2]; exact Nat.not_lt_zero _)
  · cases hrun
end
end Go.Proofs.YtghmhkpgdmgepaaV
