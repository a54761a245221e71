import Derived.Test.YtghmhkpgdmgepaaV29
import Derived.OpenShut
/-! The V engine, 30: what came in, of any type of data. -/
set_option linter.unusedVariables false
set_option linter.unusedSimpArgs false
namespace Go.Proofs.YtghmhkpgdmgepaaV
open Go Go.RowKit

section
/-- A type of data as the program lays it. -/
def lieF (P : Program) (c : Nat → Ty → Bool) : List Field → Nat → Ty → Nat → Bool
  | [], o, .nil, n => o == n
  | f :: r, o, .cons a b, n => f.offset == o && (P.cellsOf f.type == a.size && (c f.type a && lieF P c r (o + a.size) b n))
  | _, _, _, _ => false
def lieE (P : Program) (c : Nat → Ty → Bool) (e : Nat) : Nat → Ty → Bool
  | 0, .nil => true
  | n + 1, .cons a b => P.cellsOf e == a.size && (c e a && lieE P c e n b)
  | _, _ => false
def lieT (P : Program) : Nat → Nat → Ty → Bool
  | 0, _, _ => false
  | n + 1, t, ty => match P.underlying t, ty with
    | some (.int k), .int k' => decide (k = k')
    | some .bool, .bool => true
    | some .string, .str => true
    | some (.slice e), .slice a => P.cellsOf e == a.size && (decide (0 < a.size) && lieT P n e a)
    | some (.struct fs), ty => lieF P (lieT P n) fs.toList 0 ty (P.cellsOf t)
    | some (.array m e), ty => P.cellsOf t == m * P.cellsOf e && lieE P (lieT P n) e m ty
    | _, _ => false

variable {H : Type} {enc : TypeId × Value → H} {P : Program} {W : World} {base : Nat} {spare : Nat → Bool} {held : Bool}

theorem cells_of {base : Nat} {a : Addr} {n : Nat} {cs : List Value} (h : W.cells? base a n = some cs) : Cells W a cs := by
  obtain ⟨_, h1, h2⟩ := World.cells?_some h
  intro j v hv
  have hj : j < cs.length := (List.getElem?_eq_some_iff.1 hv).1
  rw [h2 j (by omega), hv]

/-- Elements, each told by itself, are told as a row. -/
theorem pick_list {α β : Type} {R : α → β → Prop} : ∀ (l : List β), (∀ b ∈ l, ∃ a, R a b) → ∃ xs : List α, xs.length = l.length ∧ ∀ (i : Nat) (x : α) (b : β), xs[i]? = some x → l[i]? = some b → R x b
  | [], _ => ⟨[], rfl, fun i x b h => by simp at h⟩
  | b :: l, h => by
    obtain ⟨a, ha⟩ := h b (by simp)
    obtain ⟨xs, h1, h2⟩ := pick_list l fun c hc => h c (by simp [hc])
    refine ⟨a :: xs, by simp [h1], fun i x c hx hc => ?_⟩
    cases i with
    | zero => simp at hx hc; subst hx; subst hc; exact ha
    | succ i => simp at hx hc; exact h2 i x c hx hc

theorem rep_trod {ok : Nat → Prop} (hok : ∀ b, b < W.heap.size → ok b) : ∀ (n : Nat) (t : Nat) (ty : Ty), lieT P n t ty = true → ∀ (fuel : Nat) (cs : List Value) (x : DataW H × List MemPlace),
    DataW.trod enc P W base spare held fuel t cs = some x → ∃ z : ty.den, Rep W ok ty z cs := by
  intro n
  induction n with
  | zero => intro t ty h; cases h
  | succ n ih =>
    intro t ty hc fuel cs x h
    unfold lieT at hc
    split at hc
    · rename_i k k' hu
      simp only [decide_eq_true_eq] at hc
      subst hc
      obtain ⟨m, rfl, _, hw⟩ := DataW.trod_int hu h
      refine ⟨m, ?_⟩
      show [Value.int k m] = [Value.int k m] ∧ _
      exact ⟨rfl, hw⟩
    · rename_i hu
      obtain ⟨b, rfl, _⟩ := DataW.trod_bool hu h
      refine ⟨b, ?_⟩
      show [Value.bool b] = [Value.bool b]
      rfl
    · rename_i hu
      have h3 := DataW.trod_string hu h
      obtain ⟨s, rfl, _, hs⟩ := h3
      refine ⟨bs s, ?_⟩
      show ∃ y : ByteArray, [Value.string s] = [Value.string y] ∧ bs y = bs s ∧ y.size ≤ maxLen
      exact ⟨s, rfl, rfl, hs⟩
    · rename_i e a hu
      simp only [Bool.and_eq_true, beq_iff_eq, decide_eq_true_eq] at hc
      obtain ⟨hsz, hpos, hch⟩ := hc
      rcases DataW.trod_slice hu h with ⟨rfl, _⟩ | ⟨A, len, cap, elems, rest, m, _, rfl, _, hb, hl, hm, hlen, hel, _, _⟩
      · refine ⟨([] : List a.den), ?_⟩
        show RepSl (α := a.den) W ok (fun x es => Rep W ok a x es) a.size [] _
        exact ⟨none, 0, rfl, Nat.le_refl _, Nat.zero_le _, fun e => absurd rfl e⟩
      · have each : ∀ i ∈ List.range len, ∃ z : a.den, ∃ es, Rep W ok a z es ∧ Cells W (A.add (i * a.size)) es := by
          intro i hi
          rw [List.mem_range] at hi
          have h1 := hel i hi
          rw [List.getElem?_eq_getElem (by omega), Option.bind_eq_some_iff] at h1
          obtain ⟨es, h2, h3⟩ := h1
          obtain ⟨z, hz⟩ := ih e a hch _ _ _ h3
          rw [hsz] at h2
          exact ⟨z, es, hz, cells_of h2⟩
        obtain ⟨xs, hx1, hx2⟩ := pick_list (R := fun (z : a.den) (i : Nat) => ∃ es, Rep W ok a z es ∧ Cells W (A.add (i * a.size)) es) (List.range len) each
        rw [List.length_range] at hx1
        refine ⟨xs, ?_⟩
        show RepSl (α := a.den) W ok (fun x es => Rep W ok a x es) a.size xs _
        refine ⟨some A, cap, by rw [← hx1], by omega, hm, fun hne => ?_⟩
        have h0 : 0 < len := by
          rcases Nat.eq_zero_or_pos len with e | e
          · rw [e] at hx1; exact absurd (List.length_eq_zero_iff.1 hx1) hne
          · exact e
        have hc0 := hx2 0 _ 0 (List.getElem?_eq_getElem (by omega)) (by simp [List.getElem?_range, h0])
        obtain ⟨es, hr, hcl⟩ := hc0
        have hlen0 := hr.len
        have hcell := hcl 0 es[0] (by simp)
        have hA : A.add (0 * a.size) = A := by simp [Addr.add]
        rw [hA] at hcell
        have hA0 : A.add 0 = A := by simp [Addr.add]
        rw [hA0] at hcell
        obtain ⟨c1, c2⟩ := cell_at hcell
        refine ⟨A, rfl, c1, hok _ c2, fun i z hz => ?_⟩
        have hi : i < len := by
          have := (List.getElem?_eq_some_iff.1 hz).1
          omega
        exact hx2 i z i hz (by simp [List.getElem?_range, hi])
    · rename_i fs hu
      obtain ⟨xs, m, rfl, _, hcl, hxl, hfs⟩ := DataW.trod_struct hu h
      rw [← hcl] at hc
      have key : ∀ (l : List Field) (o : Nat) (ty : Ty), (∀ f ∈ l, ∃ y, DataW.trod enc P W base spare held m f.type ((cs.drop f.offset).take (P.cellsOf f.type)) = some y) →
          lieF P (lieT P n) l o ty cs.length = true → o ≤ cs.length → ∃ z : ty.den, Rep W ok ty z (cs.drop o) := by
        intro l
        induction l with
        | nil =>
          intro o ty _ hk ho
          cases ty with
          | nil =>
            simp only [lieF, beq_iff_eq] at hk
            refine ⟨(), ?_⟩
            show cs.drop o = []
            exact List.drop_eq_nil_of_le (by omega)
          | _ => simp [lieF] at hk
        | cons f l ihl =>
          intro o ty hf hk ho
          cases ty with
          | cons a b =>
            simp only [lieF, Bool.and_eq_true, beq_iff_eq] at hk
            obtain ⟨k1, k2, k3, k4⟩ := hk
            obtain ⟨y, hy⟩ := hf f (by simp)
            obtain ⟨z, hz⟩ := ih _ _ k3 _ _ _ hy
            rw [k1, k2] at hz
            have hzl := hz.len
            rw [List.length_take, List.length_drop] at hzl
            obtain ⟨z2, hz2⟩ := ihl (o + a.size) b (fun g hg => hf g (by simp [hg])) k4 (by
              by_cases h0 : a.size = 0
              · omega
              · omega)
            refine ⟨(z, z2), ?_⟩
            show ∃ c0 c1, cs.drop o = c0 ++ c1 ∧ Rep W ok a z c0 ∧ Rep W ok b z2 c1
            refine ⟨_, _, ?_, hz, hz2⟩
            rw [← List.drop_drop, List.take_append_drop]
          | _ => simp [lieF] at hk
      have := key fs.toList 0 _ (fun f hf => by
        obtain ⟨i, hi⟩ := List.getElem?_of_mem hf
        rw [Array.getElem?_toList] at hi
        have h2 := hfs i f hi
        have hlt : i < xs.length := by
          rw [hxl]
          exact (Array.getElem?_eq_some_iff.1 hi).1
        rw [List.getElem?_eq_getElem hlt] at h2
        exact ⟨_, h2⟩) hc (Nat.zero_le _)
      rwa [List.drop_zero] at this
    · rename_i q e hu
      simp only [Bool.and_eq_true, beq_iff_eq] at hc
      obtain ⟨xs, m, rfl, _, hcl, hxl, hfs⟩ := DataW.trod_array hu h
      have key : ∀ (j : Nat) (o : Nat) (ty : Ty), o + j = q → lieE P (lieT P n) e j ty = true → ∃ z : ty.den, Rep W ok ty z (cs.drop (o * P.cellsOf e)) := by
        intro j
        induction j with
        | zero =>
          intro o ty hq hk
          cases ty with
          | nil =>
            refine ⟨(), ?_⟩
            show cs.drop (o * P.cellsOf e) = []
            refine List.drop_eq_nil_of_le ?_
            rw [hcl, hc.1, ← hq]
            exact Nat.le_refl _
          | _ => simp [lieE] at hk
        | succ j ihj =>
          intro o ty hq hk
          cases ty with
          | cons a b =>
            simp only [lieE, Bool.and_eq_true, beq_iff_eq] at hk
            obtain ⟨k2, k3, k4⟩ := hk
            have h2 := hfs o (by omega)
            rw [List.getElem?_eq_getElem (by omega)] at h2
            obtain ⟨z, hz⟩ := ih _ _ k3 _ _ _ h2
            obtain ⟨z2, hz2⟩ := ihj (o + 1) b (by omega) k4
            refine ⟨(z, z2), ?_⟩
            show ∃ c0 c1, cs.drop (o * P.cellsOf e) = c0 ++ c1 ∧ Rep W ok a z c0 ∧ Rep W ok b z2 c1
            refine ⟨_, _, ?_, hz, hz2⟩
            rw [Nat.add_mul, Nat.one_mul, ← List.drop_drop, List.take_append_drop]
          | _ => simp [lieE] at hk
      have := key q 0 _ (by omega) hc.2
      rwa [Nat.zero_mul, List.drop_zero] at this
    · cases hc

/-- What is known of data that lie in memory. -/
def WfD : (t : Ty) → t.den → Prop
  | .int k, (n : Int) => (Lit.int k n).wf = true
  | .bool, _ => True
  | .str, (s : List Int) => (∀ x ∈ s, 0 ≤ x ∧ x ≤ 255) ∧ s.length ≤ maxLen
  | .slice e, (xs : List e.den) => xs.length ≤ maxLen ∧ ∀ x ∈ xs, WfD e x
  | .nil, _ => True
  | .cons a b, x => WfD a x.1 ∧ WfD b x.2
theorem Rep.wf {ok : Nat → Prop} : ∀ {t : Ty} {x : t.den} {cs : List Value}, Rep W ok t x cs → WfD t x
  | .int k, n, _, h => by unfold Rep at h; unfold WfD; exact h.2
  | .bool, _, _, h => by unfold WfD; trivial
  | .str, s, _, h => by
    unfold Rep at h
    obtain ⟨y, rfl, rfl, hm⟩ := h
    have key : (∀ x ∈ bs y, 0 ≤ x ∧ x ≤ 255) ∧ (bs y).length ≤ maxLen := by
     refine ⟨fun x hx => ?_, ?_⟩
     · unfold bs at hx
       obtain ⟨b, _, rfl⟩ := List.mem_map.1 hx
       have := b.toNat_lt
       omega
     · unfold bs
       rw [List.length_map, Array.length_toList]
       exact hm
    exact key
  | .nil, _, _, h => by unfold WfD; trivial
  | .slice e, xs, _, h => by
    unfold Rep at h
    obtain ⟨A, c, rfl, hl, hc, hx⟩ := h
    unfold WfD
    refine ⟨Nat.le_trans hl hc, fun x hx2 => ?_⟩
    obtain ⟨i, hi⟩ := List.getElem?_of_mem hx2
    obtain ⟨a, _, _, _, hel⟩ := hx (fun e => by rw [e] at hx2; cases hx2)
    obtain ⟨es, hr, _⟩ := hel i x hi
    exact hr.wf
  | .cons a b, _, _, h => by
    unfold Rep at h
    obtain ⟨c0, c1, rfl, h2, h3⟩ := h
    unfold WfD
    exact ⟨h2.wf, h3.wf⟩

theorem ha_agg_mk {F : Nat → Prop} {s : St} {G : Gm} {t : Ty} {z : t.den} {cs : Array Value} (h : Rep W (okS F s G W) t z cs.toList) : HA (HR F s G W) (.cv (.agg ((flat t z).map .pv))) (.agg cs) := by
  have h2 := rep_flat h
  refine ⟨cs, rfl, ?_⟩
  exact All2.map_left h2
theorem okW_agg {r : Reach} {b : Nat} {t : Nat} {v : Value} (ht : (match P.underlying t with | some (.struct _) => true | some (.array _ _) => true | _ => false) = true) (h : Value.okWide P W r b t v) : ∃ cs : Array Value, v = .agg cs := by
  unfold Value.okWide at h
  split at ht
  · rename_i hu
    rw [hu] at h
    obtain ⟨cs, rfl, _⟩ := h
    exact ⟨cs, rfl⟩
  · rename_i hu
    rw [hu] at h
    obtain ⟨cs, rfl, _⟩ := h
    exact ⟨cs, rfl⟩
  · cases ht
theorem ha_leaf_mk {F : Nat → Prop} {s : St} {G : Gm} {p : PL} {v : Value} (h : Rep W (okS F s G W) p.t p.x [v]) : HA (HR F s G W) (lf (.pv p)) v := h
end
end Go.Proofs.YtghmhkpgdmgepaaV
