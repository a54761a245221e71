import Derived.Test.YtghmhkpgdmgepaaV23
import Derived.Orders
/-! The V engine, 24: a region that draws its order comes to what the text's order comes to. -/
set_option linter.unusedVariables false
set_option linter.unusedSimpArgs false
namespace Go.Proofs.YtghmhkpgdmgepaaV
open Go Go.RowKit

section
variable {C : Cfg} {F : Nat → Prop} {s s' : St} {G : Gm} {a : Act} {w w' : World} {o : Oper} {v : AV} {vals : List Value}

theorem get_put {d : Nat} {v : AV} {x : Operand} (h : x ≠ .tmp d) : (s.put (some d) v).get x = s.get x := by
  cases x with
  | tmp t =>
    have hne : d ≠ t := fun e => h (by rw [e])
    simp only [St.get, St.put, List.getD, List.getElem?_set_ne hne]
  | _ => rfl
theorem loadLs_put {d : Option Nat} {v : AV} {n : Nat} {l : L} : loadLs (s.put d v) n l = loadLs s n l := by
  unfold loadLs
  cases l <;> simp
theorem partsOf_put {d : Nat} {v : AV} : ∀ (ps : List (Nat × Operand)), (∀ x ∈ ps, x.2 ≠ .tmp d) → partsOf (s.put (some d) v) ps = partsOf s ps
  | [], _ => rfl
  | (i, x) :: r, h => by
    simp only [partsOf]
    rw [get_put (h (i, x) (by simp)), partsOf_put r fun y hy => h y (by simp [hy])]
theorem fnPtrs_put {d : Nat} {v : AV} : ∀ (xs : List Operand), (∀ x ∈ xs, x ≠ .tmp d) → fnPtrs (s.put (some d) v) xs = fnPtrs s xs
  | [], _ => rfl
  | x :: r, h => by
    simp only [fnPtrs]
    rw [get_put (h x (by simp)), fnPtrs_put r fun y hy => h y (by simp [hy])]
theorem gets_put {d : Nat} {v : AV} (xs : List Operand) (h : ∀ x ∈ xs, x ≠ .tmp d) : xs.map (s.put (some d) v).get = xs.map s.get := by
  apply List.map_congr_left
  intro x hx
  exact get_put (h x hx)
theorem ownBytes_put {d : Option Nat} {v : AV} {l : Nat} : ownBytes (s.put d v) l = ownBytes s l := by simp [ownBytes]
theorem optInt_put {d : Nat} {v : AV} {k : Int} {x : Option Operand} (h : ∀ y, x = some y → y ≠ .tmp d) : optInt (s.put (some d) v) k x = optInt s k x := by
  cases x with
  | none => rfl
  | some y => simp only [optInt]; rw [get_put (h y rfl)]

theorem opV_put {d : Nat} {v : AV} (op : Op) (h : ∀ x ∈ op.operands, x ≠ .tmp d) : opV C.P (s.put (some d) v) op = opV C.P s op := by
  cases op with
  | move x => simp only [opV]; rw [get_put (h x (by simp [Op.operands]))]
  | assign x => simp only [opV]; rw [get_put (h x (by simp [Op.operands]))]
  | pick c x y => simp only [opV]; rw [get_put (h c (by simp [Op.operands])), get_put (h x (by simp [Op.operands])), get_put (h y (by simp [Op.operands]))]
  | build t ps =>
    simp only [opV]
    rw [partsOf_put ps.toList fun x hx => h x.2 (by simp only [Op.operands]; exact List.mem_toArray.2 (List.mem_map.2 ⟨x, hx, rfl⟩))]
  | load t x => simp only [opV, loadLs_put]; rw [get_put (h x (by simp [Op.operands]))]
  | nilCheck x => simp only [opV]; rw [get_put (h x (by simp [Op.operands]))]
  | binOp op t x y t' => simp only [opV]; rw [get_put (h x (by simp [Op.operands])), get_put (h y (by simp [Op.operands]))]
  | unOp op t x => simp only [opV]; rw [get_put (h x (by simp [Op.operands]))]
  | convert t1 t2 x => simp only [opV, ownBytes_put]; rw [get_put (h x (by simp [Op.operands]))]
  | makeInterface t x => simp only [opV]; rw [get_put (h x (by simp [Op.operands]))]
  | makeFunc f x y =>
    cases f with
    | func f =>
      simp only [opV]
      rw [fnPtrs_put x.toList fun z hz => h z (by simp [Op.operands]; exact .inl (Array.mem_def.2 hz)), fnPtrs_put y.toList fun z hz => h z (by simp [Op.operands]; exact .inr (Array.mem_def.2 hz))]
    | _ => rfl
  | fieldAddr S x f => simp only [opV]; rw [get_put (h x (by simp [Op.operands]))]
  | field S x f => simp only [opV]; rw [get_put (h x (by simp [Op.operands]))]
  | indexAddr T x y => simp only [opV, put_ownAt]; rw [get_put (h x (by simp [Op.operands])), get_put (h y (by simp [Op.operands]))]
  | index T x y => simp only [opV]; rw [get_put (h x (by simp [Op.operands])), get_put (h y (by simp [Op.operands]))]
  | extract x i => simp only [opV]; rw [get_put (h x (by simp [Op.operands]))]
  | slice T x lo hi mx =>
    cases mx with
    | some m => rfl
    | none =>
      have h1 : ∀ k, optInt (s.put (some d) v) k lo = optInt s k lo := fun k => optInt_put fun y hy => h y (by subst hy; simp [Op.operands])
      have h2 : ∀ k, optInt (s.put (some d) v) k hi = optInt s k hi := fun k => optInt_put fun y hy => h y (by subst hy; simp [Op.operands])
      simp only [opV, h1, h2]
      rw [get_put (h x (by simp [Op.operands]))]
  | call c =>
    obtain ⟨f, as, ts⟩ := c
    cases f with
    | builtin b =>
      have hg : as.toList.map (s.put (some d) v).get = as.toList.map s.get := gets_put _ fun x hx => h x (by simp [Op.operands, Call.operands]; exact Array.mem_def.2 hx)
      cases b <;> first | rfl | skip
      · simp only [opV, put_ownAt]
        have : (as[0]?.bind fun x => leaf1 ((s.put (some d) v).get x)) = (as[0]?.bind fun x => leaf1 (s.get x)) := by
          cases he : as[0]? with
          | none => rfl
          | some x =>
            simp only [Option.bind_some]
            rw [get_put (h x (by simp [Op.operands, Call.operands]; exact Array.mem_of_getElem? he))]
        rw [this]
      · simp only [opV, hg]
      · simp only [opV, hg]
    | _ => rfl
  | _ => rfl

theorem opVD_put {d : Nat} {v : AV} (op : Op) (h : ∀ x ∈ op.operands, x ≠ .tmp d) : opVD C (s.put (some d) v) op = opVD C s op := by
  unfold opVD
  split
  · rename_i f as ts
    have hg : as.toList.map (s.put (some d) v).get = as.toList.map s.get := gets_put _ fun x hx => h x (by simp [Op.operands, Call.operands]; exact .inr (Array.mem_def.2 hx))
    rw [get_put (h f (by simp [Op.operands, Call.operands]))]
    have : ∀ (args : List AV) (l : List Sig), callV (s.put (some d) v) args l = callV s args l := by
      intro args l
      induction l with
      | nil => rfl
      | cons g r ih =>
        simp only [callV]
        have e : ({ s.put (some d) v with slots := args } : St) = { s with slots := args } := rfl
        rw [e, ih]
    split
    · rw [hg, this]
    · rfl
  · exact opV_put op h

theorem bool1_some {v : AV} {b : Bool} (h : bool1 v = some b) : v = lf (pvB b) := by
  unfold bool1 at h
  split at h
  · cases h; rfl
  · cases h
theorem put_self {g : Nat} {b : Bool} (h : bool1 (s.get (.tmp g)) = some b) : s.put (some g) (lf (pvB b)) = s := by
  have h1 := bool1_some h
  simp only [St.get, List.getD] at h1
  cases he : s.slots[g]? with
  | none => rw [he] at h1; simp [lf] at h1
  | some x =>
    rw [he] at h1
    simp at h1
    subst h1
    obtain ⟨sl, bx, ow⟩ := s
    simp only [St.put]
    congr 1
    apply List.ext_getElem?
    intro i
    rw [List.getElem?_set]
    split
    · rename_i e
      subst e
      split
      · exact he.symm
      · rename_i hl
        rw [List.getElem?_eq_none (by omega)]
    · rfl

/-- The value that an operation of the kind works out (its guard said). -/
def Vg (C : Cfg) (all : Array Oper) (o : Oper) (s : St) : Option AV :=
  match o.guard with
  | none => (opVD C s o.op).val
  | some (j, want) => match (all[j]?).bind (·.dst) with
    | some g => match bool1 (s.get (.tmp g)) with
      | some c => if c == want then (opVD C s o.op).val else some (.tup [])
      | none => if isUnd (s.get (.tmp g)) then some (.tup []) else none
    | none => none

theorem step_V {all : Array Oper} (hv : isV o.op = true) (hc : isCall o.op = true → o.dst ≠ none) : (operOc (opD C) all s o).val = (Vg C all o s).map fun v => s.put o.dst v := by
  have hD : ∀ s : St, (opD C s o.dst o.op).val = ((opVD C s o.op).val).map fun v => s.put o.dst v := by
    intro s
    unfold opD
    rw [if_pos hv, if_neg, Oc.val_bind]
    · cases (opVD C s o.op).val <;> rfl
    · intro e
      simp only [Bool.and_eq_true, Option.isNone_iff_eq_none] at e
      exact hc e.1 e.2
  unfold operOc Vg
  cases hg : o.guard with
  | none => exact hD s
  | some jw =>
    obtain ⟨j, want⟩ := jw
    simp only []
    cases hj : (all[j]?).bind (·.dst) with
    | none => rfl
    | some g =>
      simp only []
      cases hb : bool1 (s.get (.tmp g)) with
      | none => cases isUnd (s.get (.tmp g)) <;> rfl
      | some c =>
        have hs : s.put (some g) (lf (pvB c)) = s := put_self hb
        cases want <;> cases c <;> simp only [Oc.val, if_true, if_false, cond_true, cond_false, Bool.false_eq_true, beq_self_eq_true, Option.map_some]
        · rw [hs]; exact hD s
        · rw [hs]; rfl
        · rw [hs]; rfl
        · rw [hs]; exact hD s

theorem Vg_put {all : Array Oper} {d : Nat} {v : AV} (h : d ∉ o.looksAt all) : Vg C all o (s.put (some d) v) = Vg C all o s := by
  have h1 : ∀ x ∈ o.op.operands, x ≠ .tmp d := by
    intro x hx e
    subst e
    exact h (List.mem_append_left _ (List.mem_filterMap.2 ⟨.tmp d, by simpa using hx, rfl⟩))
  unfold Vg
  split
  · rw [opVD_put _ h1]
  · rename_i j want hg
    split
    · rename_i g hj
      have hne : d ≠ g := by
        rintro rfl
        exact h (List.mem_append_right _ (by simp [hg, hj]))
      rw [get_put (x := .tmp g) (fun e => hne (by injection e with e; exact e.symm))]
      split
      · rw [opVD_put _ h1]
      · rfl
    · rfl

theorem put_comm {x y : Option Nat} {u v : AV} (h : ∀ d, x = some d → y ≠ some d) : (s.put x u).put y v = (s.put y v).put x u := by
  cases x with
  | none => rfl
  | some d =>
    cases y with
    | none => rfl
    | some e =>
      have hne : d ≠ e := fun he => h d rfl (by rw [he])
      simp only [St.put]
      rw [List.set_comm _ _ hne]

/-- Two that are apart go either way. -/
theorem step_comm {all : Array Oper} {x y : Oper} (hx : isV x.op = true) (hy : isV y.op = true) (hcx : isCall x.op = true → x.dst ≠ none) (hcy : isCall y.op = true → y.dst ≠ none) (hap : x.apart all y = true) {s1 s2 : St}
    (h1 : (operOc (opD C) all s x).val = some s1) (h2 : (operOc (opD C) all s1 y).val = some s2) : ∃ s3, (operOc (opD C) all s y).val = some s3 ∧ (operOc (opD C) all s3 x).val = some s2 := by
  obtain ⟨a1, a2, a3⟩ := Oper.apart_spec hap
  rw [step_V hx hcx] at h1
  rw [step_V hy hcy] at h2
  obtain ⟨u, hu, rfl⟩ := Option.map_eq_some_iff.1 h1
  obtain ⟨v, hv, rfl⟩ := Option.map_eq_some_iff.1 h2
  have e1 : Vg C all y (s.put x.dst u) = Vg C all y s := by
    cases hd : x.dst with
    | none => rfl
    | some d => exact Vg_put (a1 d hd)
  rw [e1] at hv
  have e2 : Vg C all x (s.put y.dst v) = Vg C all x s := by
    cases hd : y.dst with
    | none => rfl
    | some d => exact Vg_put (a3 d hd)
  refine ⟨s.put y.dst v, by rw [step_V hy hcy, hv]; rfl, ?_⟩
  rw [step_V hx hcx, e2, hu, Option.map_some, put_comm a2]

/-- A call that only works out a value. -/
theorem callV_call {d : Nat} {args : List AV} : ∀ (sgs : List Sig), (callV s args sgs).val = some v → (callOc s d args sgs).val = some (s.put (some d) v)
  | [], h => by cases h
  | g :: r, h => by
    simp only [callV] at h
    simp only [callOc]
    split at h
    · rename_i hpan
      rw [if_pos hpan]
      exact callV_call r h
    rename_i hpan
    rw [if_neg hpan]
    split at h
    · rename_i c hc
      split at h
      · rename_i ps hps
        simp only [Oc.val] at h ⊢
        obtain ⟨q, hq, h2⟩ := Option.bind_eq_some_iff.1 h
        rw [Oc.val_ofOption] at h2
        rw [hq]
        simp only [Option.bind_some, Oc.val_ofOption]
        unfold backV at h2
        split at h2
        · rename_i hcond
          simp only [Bool.and_eq_true, List.isEmpty_iff] at hcond
          obtain ⟨⟨⟨⟨c1, c2⟩, c3⟩, c4⟩, c5⟩ := hcond
          obtain ⟨hnB, hnO, hdis, hdisB, as, bs, os, hA, hB, hO, hs⟩ := co_parts hc
          obtain ⟨hBl, hBk, hBg⟩ := coBs_get hB
          obtain ⟨hOl, hOk, hOg⟩ := coOs_get hO
          have m1 : c.mB = [] := by rw [c1] at hBk; simpa using hBk.symm
          have m2 : c.mO = [] := by rw [c2] at hOk; simpa using hOk.symm
          unfold back
          simp only [m1, m2, c3, c4, List.map_nil, List.length_nil, Nat.sub_self, List.replicate_zero, List.append_nil, assignB]
          have hfl : (c.bx.isEmpty = true ∧ c.br.isEmpty = true) ∨ flatSt (enc g.kout (max 0 0) q) = true := by
            simp only [Bool.or_eq_true, Bool.and_eq_true] at c5
            rcases c5 with c5 | c5
            · exact .inl ⟨c5.2, c5.1⟩
            · rw [c3, c4] at c5; exact .inr c5
          rw [if_neg, if_pos]
          · unfold backWith
            simp only [chkB, chkO, chkT, nodupB, Bool.and_self, if_true, setOwns, setBoxes]
            rw [c3, c4] at h2
            simp only [List.length_nil] at h2
            rw [h2]
            rfl
          · rcases hfl with ⟨f1, f2⟩ | f1
            · rw [f2]; rfl
            · rw [f1]; simp
          · rcases hfl with ⟨f1, f2⟩ | f1
            · rw [f1]; simp
            · rw [f1]; simp
        · cases h2
      · exact callV_call r h
    · exact callV_call r h

theorem killL_Lf (n : Nat) : killLf [] [n] = killL n := by
  funext l
  cases l <;> simp [killLf, killL, L.noO]
theorem kill_holds (h : Holds F s G vals w) (n : Nat) : Holds F (killO s n) G vals w ∧ Step N0 N0 s G w (killO s n) G w := by
  obtain ⟨h1, h2⟩ := killIn_sound (bs := []) (os := [n]) (si := ⟨[], [], []⟩) (Gi := G) (w' := w) h (Keeps.refl _ _) (by
    rintro j (⟨b, ls, hb, _⟩ | ⟨l, x, hx, _⟩)
    · simp [boxAt] at hb
    · simp [ownAt] at hx)
  have hb : ∀ b, boxAt (killO s n) b = boxAt (killIn s [] [n]) b := by
    intro b
    cases hq : boxAt (killO s n) b with
    | none =>
      cases hq2 : boxAt (killIn s [] [n]) b with
      | none => rfl
      | some ls =>
        obtain ⟨q, h3, _, _⟩ := killIn_box hq2
        have := boxAt_gone (c := some n) h3
        rw [show gone s (some n) = killO s n from rfl, hq] at this
        cases this
    | some ls =>
      obtain ⟨q, h3, rfl⟩ := gone_boxAt (c := some n) hq
      have hlt : b < s.boxes.length := by
        unfold boxAt at h3
        cases he : s.boxes[b]? with
        | none => rw [he] at h3; cases h3
        | some y => exact (List.getElem?_eq_some_iff.1 he).1
      simp only [boxAt, killIn, List.getElem?_map]
      rw [List.getElem?_range hlt]
      have h3' : (s.boxes[b]?).bind id = some q := h3
      have h3'' : s.boxes[b]? = some (some q) := by
        cases he : s.boxes[b]? with
        | none => rw [he] at h3'; cases h3'
        | some y => rw [he] at h3'; simpa using h3'
      simp [boxAt, h3'', killL_Lf, goneL]
  have ho : ∀ l, ownAt (killO s n) l = ownAt (killIn s [] [n]) l := by
    intro l
    rw [show killO s n = gone s (some n) from rfl, gone_ownAt]
    cases hq2 : ownAt (killIn s [] [n]) l with
    | some x =>
      obtain ⟨h3, h4⟩ := killIn_own hq2
      rw [if_neg (by simpa [eq_comm] using h4), h3]
    | none =>
      split
      · rfl
      · rename_i hne
        cases h3 : ownAt s l with
        | none => rfl
        | some x =>
          exfalso
          have hlt : l < s.owns.length := by
            unfold ownAt at h3
            cases he : s.owns[l]? with
            | none => rw [he] at h3; cases h3
            | some y => exact (List.getElem?_eq_some_iff.1 he).1
          simp only [ownAt, killIn, List.getElem?_map] at hq2
          rw [List.getElem?_range hlt] at hq2
          have h3' : (s.owns[l]?).bind id = some x := h3
          simp [ownAt, h3'] at hq2
          exact hne (by rw [hq2])
  refine ⟨h1.ext (by show s.slots.map _ = s.slots.map _; rw [killL_Lf]) hb ho, ⟨Keeps.refl _ _, fun k hk => ?_, fun _ _ => ⟨rfl, rfl⟩, fun l _ x hx => ?_⟩⟩
  · rcases hk with ⟨b, ls, hb', rfl⟩ | ⟨l, x, hx, e⟩
    · obtain ⟨q, h3, _⟩ := gone_boxAt (c := some n) hb'
      exact .inl (.inl ⟨b, q, h3, rfl⟩)
    · rw [ho] at hx
      exact .inl (.inr ⟨l, x, (killIn_own hx).1, e⟩)
  · rw [ho] at hx
    exact ⟨⟨x, (killIn_own hx).1⟩, rfl⟩

theorem fok_D (hE : EnvOK C) : FOK C (opD C) := by
  intro F s s' G a w o h hv
  unfold opD at hv
  split at hv
  · rename_i hV
    split at hv
    · cases hv
    · rename_i hnc
      cases hcall : isCall o.op with
      | false =>
        have e : opVD C s o.op = opV C.P s o.op := by
          unfold opVD
          split
          · rename_i f as ts ho
            rw [ho] at hcall
            cases hcall
          · rfl
        rw [e] at hv
        exact e_value h hv
      | true =>
        rw [hcall] at hnc
        cases hd : o.dst with
        | none => rw [hd] at hnc; exact absurd rfl hnc
        | some d =>
          unfold isCall at hcall
          split at hcall
          · rename_i f as ts ho
            rw [ho] at hv
            rw [hd] at hv
            simp only [opVD] at hv
            split at hv
            · rename_i g first caps hl
              rw [Oc.val_bind] at hv
              obtain ⟨v, h1, h2⟩ := Option.bind_eq_some_iff.1 hv
              cases h2
              exact e_callL h (fun sg hs => hE g sg (List.mem_filter.1 hs).1) ho hd hl (callV_call _ h1)
            · cases hv
          · cases hcall
  · split at hv
    · split at hv
      · rename_i d hd
        obtain ⟨k1, k2⟩ := kill_holds h (N0 + d)
        have he := opE_any (o := o) hE k1 hv
        exact fun K Q hK => he K Q fun G1 a1 w1 m1 m2 m3 => hK G1 a1 w1 m1 (k2.trans m2) m3
      · cases hv
    · exact opE_any hE h hv

end
end Go.Proofs.YtghmhkpgdmgepaaV
