import Derived.Test.YtghmhkpgdmgepaaV5
import Derived.Laws.Tables
import Derived.Laws.Cells
import Derived.Laws.BytesString
import Derived.Laws.IdiomStrings
import Derived.Laws.BytesArg
/-! The V engine, 6: values that are worked out are what Go works out. -/
set_option linter.unusedVariables false
set_option linter.unusedSimpArgs false
namespace Go.Proofs.YtghmhkpgdmgepaaV
open Go Go.RowKit

section
variable {P : Program} {F : Nat → Prop} {s : St} {G : Gm} {a : Act} {w : World} {vals : List Value}

theorem constLs_holds {R : L → Value → Prop} (hR : ∀ v, v.oneCell' = true → R (constL v) v) : ∀ (l : List Value), (∀ u ∈ l, u.oneCell' = true) → All2 R (l.map constL) l
  | [], _ => .nil
  | u :: l, h => .cons (hR _ (h u (by simp))) (constLs_holds hR l fun x hx => h x (by simp [hx]))
theorem constAV_holds {R : L → Value → Prop} (hR : ∀ v, v.oneCell' = true → R (constL v) v) (v : Value) : HA R (constAV v) v := by
  unfold constAV
  split
  · rename_i cs
    split
    · rename_i h
      exact ⟨cs, rfl, constLs_holds hR _ fun u hu => List.all_eq_true.1 h u hu⟩
    · trivial
  · trivial
  · rename_i h1 h2
    refine hR _ ?_
    cases v <;> first | rfl | exact absurd rfl (h1 _) | exact absurd rfl (h2 _)

/-- What an operand is. -/
theorem get_holds (h : Holds F s G a.tmps.toList w) (x : Operand) : HA (HR F s G w) (s.get x) (a.eval x) := by
  cases x with
  | tmp t =>
    simp only [St.get, Act.eval]
    cases he : s.slots[t]? with
    | none => simp [List.getD, he]; trivial
    | some v =>
      obtain ⟨u, hu, hv⟩ := h.slots.get he
      have : a.tmps.getD t undef = u := by
        rw [Array.getElem?_toList] at hu
        simp [Array.getD_eq_getD_getElem?, hu]
      rw [this]
      rw [show s.slots.getD t .dead = v from by simp [List.getD, he]]
      exact hv
  | const v => exact constAV_holds (fun u hu => constL_holds u hu) v
  | global g => trivial
  | func f => exact rfl

theorem cells_one {v : Value} (h : v.oneCell' = true) : v.cells = #[v] := by cases v <;> first | rfl | cases h
theorem leaf1_some {v : AV} {l : L} (h : leaf1 v = some l) : v = lf l := by
  unfold leaf1 at h
  split at h
  · cases h; rfl
  · cases h
theorem leaf_holds (h : Holds F s G a.tmps.toList w) {x : Operand} {l : L} (hl : leaf1 (s.get x) = some l) : HR F s G w l (a.eval x) := by
  have := get_holds h x
  rw [leaf1_some hl] at this
  exact this
theorem leaves_holds (h : Holds F s G a.tmps.toList w) {x : Operand} {ls : List L} (hl : leavesOf (s.get x) = some ls) : All2 (HR F s G w) ls (a.eval x).cells.toList := by
  have := get_holds h x
  unfold leavesOf at hl
  split at hl
  · rename_i c hc
    cases hl
    rw [hc] at this
    cases c with
    | lf l =>
      have h1 : HR F s G w l (a.eval x) := this
      have h2 := h1.one
      rw [cells_one h2]
      exact .cons h1 .nil
    | agg ls =>
      obtain ⟨cs, e, h2⟩ := this
      rw [e]
      exact h2
  · cases hl
theorem pvInt {ok : Nat → Prop} {os : List (Option Own)} {k : IntKind} {n : Int} {v : Value} (h : HL G w ok os (.pv ⟨.int k, n⟩) v) : v = .int k n ∧ (Lit.int k n).wf = true := by
  have h1 : Rep w ok (.int k) n [v] := h
  unfold Rep at h1
  exact ⟨by simpa using h1.1, h1.2⟩
theorem pvBool {ok : Nat → Prop} {os : List (Option Own)} {b : Bool} {v : Value} (h : HL G w ok os (.pv ⟨.bool, b⟩) v) : v = .bool b := by
  have h1 : Rep w ok .bool b [v] := h
  unfold Rep at h1
  exact List.singleton_inj.1 h1
theorem pvStr {ok : Nat → Prop} {os : List (Option Own)} {q : List Int} {v : Value} (h : HL G w ok os (.pv ⟨.str, q⟩) v) : ∃ y : ByteArray, v = .string y ∧ bs y = q ∧ y.size ≤ maxLen := by
  have h1 : Rep w ok .str q [v] := h
  unfold Rep at h1
  obtain ⟨y, e, h2⟩ := h1
  exact ⟨y, by simpa using e, h2⟩
theorem pvSl {ok : Nat → Prop} {os : List (Option Own)} {t : Ty} {xs : List t.den} {v : Value} (h : HL G w ok os (.pv ⟨.slice t, xs⟩) v) : RepSl w ok (fun x es => Rep w ok t x es) t.size xs [v] := h
theorem int1_eval (h : Holds F s G a.tmps.toList w) {x : Operand} {n : Int} (hn : int1 (s.get x) = some n) : ∃ k, a.eval x = .int k n ∧ (Lit.int k n).wf = true := by
  have h1 := get_holds h x
  unfold int1 at hn
  split at hn
  · rename_i k m he
    cases hn
    rw [he] at h1
    have h2 : HR F s G w (.pv ⟨.int k, n⟩) (a.eval x) := h1
    exact ⟨k, pvInt h2⟩
  · cases hn
theorem bool1_eval (h : Holds F s G a.tmps.toList w) {x : Operand} {b : Bool} (hb : bool1 (s.get x) = some b) : a.eval x = .bool b := by
  have h1 := get_holds h x
  unfold bool1 at hb
  split at hb
  · rename_i m he
    cases hb
    rw [he] at h1
    have h2 : HR F s G w (.pv ⟨.bool, b⟩) (a.eval x) := h1
    exact pvBool h2
  · cases hb

theorem bs_len (y : ByteArray) : (bs y).length = y.size := by unfold bs; rw [List.length_map, Array.length_toList]; rfl

/-- Cells of a block. -/
theorem cells_block {g : Nat} {cs : Array Value} {et : Nat} {fz : Nat × Nat} (hc : w.heap[g]? = some (.cells cs et fz)) (o : Nat) : Cells w ⟨g, o, none⟩ (cs.toList.drop o) := by
  intro j v hv
  rw [List.getElem?_drop] at hv
  have e : (⟨g, o, none⟩ : Addr).add j = ⟨g, o + j, none⟩ := by unfold Addr.add; split <;> simp_all
  rw [e]
  simp only [World.cell?, hc]
  simpa using hv
theorem Cells.take {ad : Addr} {cs : List Value} (h : Cells w ad cs) (n : Nat) : Cells w ad (cs.take n) := by
  intro j v hv
  rw [List.getElem?_take] at hv
  split at hv
  · exact h j v hv
  · cases hv

theorem pvs_holds {ok : Nat → Prop} {os : List (Option Own)} {ps : List PL} {cs : List Value} (h : All2 (RepL w ok) ps cs) : All2 (HL G w ok os) (pvs ps) cs := by
  unfold pvs
  exact All2.map_left h

/-- A row's element, and where it is. -/
theorem own_elem (h : Holds F s G vals w) {l : Nat} {o : Own} (ho : ownAt s l = some o) {g n c : Nat} (hG : G.ow l = .slice (some ⟨g, 0, none⟩) n c) {i : Nat} (hi : i < o.xs.length) :
    ∃ cs : List Value, Cells w ⟨g, i * o.t.size, none⟩ cs ∧ All2 (RepL w (okS F s G w)) (flat o.t (rdD o.t o.xs i)) cs := by
  obtain ⟨h0, cs, hr, he⟩ := h.own l o ho
  rcases hr.2 with ⟨hn, _⟩ | ⟨g', cap, cur, hv, _, hh, hnc, hm, hs, htk⟩
  · rw [hG] at hn; cases hn
  · rw [hG] at hv
    cases hv
    have hx : o.xs[i]? = some (rdD o.t o.xs i) := by simp [rdD, List.getD, List.getElem?_eq_getElem hi]
    have h1 := he.get hx
    refine ⟨_, ?_, rep_flat h1⟩
    have h2 := cells_block hh (i * o.t.size)
    rw [← htk]
    intro j v hj
    rw [List.getElem?_take] at hj
    split at hj
    · rw [List.getElem?_drop, List.getElem?_take] at hj
      split at hj
      · exact h2 j v (by rw [List.getElem?_drop]; exact hj)
      · cases hj
    · cases hj

/-- What a load finds. -/
theorem loadLs_sound (h : Holds F s G vals w) {l : L} {v : Value} (hl : HR F s G w l v) {n : Nat} {ls : List L} (hd : loadLs s n l = some ls) :
    ∃ ad cs, v = .pointer (some ad) ∧ Cells w ad cs ∧ cs.length = n ∧ All2 (HR F s G w) ls cs := by
  unfold loadLs at hd
  split at hd
  · rename_i b o
    cases hb : boxAt s b with
    | none => simp [hb] at hd
    | some bl =>
      simp only [hb, Option.bind_some] at hd
      split at hd
      · rename_i hle
        cases hd
        obtain ⟨cs, et, hc, ha⟩ := h.box b bl hb
        refine ⟨_, (cs.toList.drop o).take n, hl, (cells_block hc o).take n, ?_, (ha.drop o).take n⟩
        have := ha.len
        simp only [List.length_take, List.length_drop]
        omega
      · cases hd
  · rename_i ps
    split at hd
    · rename_i hle
      cases hd
      obtain ⟨ad, cs, rfl, _, _, hc, hr⟩ := hl
      refine ⟨ad, cs.take n, rfl, hc.take n, ?_, pvs_holds (hr.take n)⟩
      have := hr.len
      simp only [List.length_take]
      omega
    · cases hd
  · rename_i l i o sz
    cases ho : ownAt s l with
    | none => simp [ho] at hd
    | some q =>
      simp only [ho, Option.bind_some] at hd
      split at hd
      · rename_i hle
        cases hd
        obtain ⟨g, m, c, hG, rfl, h3⟩ := hl
        obtain ⟨hi, rfl⟩ := h3 q ho
        obtain ⟨cs, hc, hr⟩ := own_elem h ho hG hi
        refine ⟨_, (cs.drop o).take n, rfl, ?_, ?_, pvs_holds ((hr.drop o).take n)⟩
        · intro j v hj
          rw [List.getElem?_take] at hj
          split at hj
          · rw [List.getElem?_drop] at hj
            have := hc _ _ hj
            have e1 : (⟨g, i * q.t.size, none⟩ : Addr).add (o + j) = ⟨g, i * q.t.size + (o + j), none⟩ := by unfold Addr.add; split <;> simp_all
            have e2 : (⟨g, i * q.t.size + o, none⟩ : Addr).add j = ⟨g, i * q.t.size + (o + j), none⟩ := by unfold Addr.add; split <;> simp_all <;> omega
            rw [e2, ← e1]
            exact this
          · cases hj
        · have := hr.len
          rw [flat_len] at this
          simp only [List.length_take, List.length_drop]
          omega
      · cases hd
  · cases hd

theorem mkAV_holds {R : L → Value → Prop} {g : Bool} {ls : List L} {cs : List Value} {v : AV} (h : All2 R ls cs) (hm : mkAV g ls = some v) :
    HA R v (if g then .agg cs.toArray else cs.headD undef) := by
  unfold mkAV at hm
  cases g with
  | true => simp at hm; subst hm; exact ⟨_, rfl, by simpa using h⟩
  | false =>
    simp at hm
    split at hm
    · cases hm
      cases h with
      | cons h1 h2 => cases h2; exact h1
    · cases hm

theorem run_isAgg (t : Nat) {d : TypeDesc} (hd : P.underlying t = some d) : (isAgg t).run P w = .ok (isAggB P t) w := by
  simp only [isAgg, isAggB, Sem.run_bind, run_underlying hd, Result.andThen_ok]
  cases d <;> simp [hd]

theorem loadVar_sound {t n : Nat} (hn : sizeT P t = some n) {ad : Addr} {cs : List Value} (hc : Cells w ad cs) (hl : cs.length = n) (h1 : isAggB P t = true ∨ n = 1) (hu : (P.underlying t).isSome = true) :
    (loadVar t ad).run P w = .ok (if isAggB P t then .agg cs.toArray else cs.headD undef) w := by
  obtain ⟨d, hd⟩ := Option.isSome_iff_exists.1 hu
  unfold sizeT at hn
  obtain ⟨i, hi, rfl⟩ := Option.map_eq_some_iff.1 hn
  simp only [loadVar, Sem.run_bind, run_isAgg t hd, Result.andThen_ok]
  cases hg : isAggB P t with
  | true =>
    have h2 := run_loadCells_list (P := P) w ad cs hc
    rw [hl] at h2
    simp [sizeOf, typeInfo, hi, h2]
  | false =>
    rw [hg] at h1
    rcases h1 with h1 | h1
    · cases h1
    · match cs, hl with
      | [v], _ =>
        have := hc 0 v (by simp)
        simp [Addr.add] at this
        simp [this]
      | [], hl => simp at hl; omega
      | _ :: _ :: _, hl => simp at hl; omega

end
end Go.Proofs.YtghmhkpgdmgepaaV
