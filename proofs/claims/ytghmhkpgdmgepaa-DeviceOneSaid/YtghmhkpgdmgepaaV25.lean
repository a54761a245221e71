import Derived.Test.YtghmhkpgdmgepaaV32
/-! The V engine, 25: any order of a region that commutes. -/
set_option linter.unusedVariables false
set_option linter.unusedSimpArgs false
set_option linter.unnecessarySimpa false
namespace Go.Proofs.YtghmhkpgdmgepaaV
open Go Go.RowKit

section
variable {C : Cfg} {F : Nat → Prop} {s s' : St} {G : Gm} {a : Act} {w w' : World}

/-- The step of one operation by its place. -/
def stp (C : Cfg) (ops : Array Oper) (j : Nat) (s : St) : Option St :=
  match ops[j]? with
  | some o => (operOc (opD C) ops s o).val
  | none => some s
def fld (C : Cfg) (ops : Array Oper) : List Nat → St → Option St
  | [], s => some s
  | j :: r, s => (stp C ops j s).bind (fld C ops r)

theorem fold_fld (ops : Array Oper) : ∀ (l : List Oper) (i : Nat) (s : St), (∀ (j : Nat) (o : Oper), l[j]? = some o → ops[i + j]? = some o) →
    l.foldl (fun x o => x.bind fun s => (operOc (opD C) ops s o).val) (some s) = fld C ops (List.range' i l.length) s
  | [], i, s, h => rfl
  | o :: l, i, s, h => by
    have h0 : ops[i]? = some o := by simpa using h 0 o rfl
    simp only [List.foldl_cons, Option.bind_some, List.length_cons, List.range'_succ, fld, stp, h0]
    cases h1 : (operOc (opD C) ops s o).val with
    | none => exact fold_none ops l
    | some s1 =>
      simp only [Option.bind_some]
      exact fold_fld ops l (i + 1) s1 fun j o' hj => by
        have := h (j + 1) o' (by simpa using hj)
        rwa [show i + (j + 1) = i + 1 + j by omega] at this

theorem fld_append (ops : Array Oper) : ∀ (x y : List Nat) (s : St), fld C ops (x ++ y) s = (fld C ops x s).bind (fld C ops y)
  | [], y, s => rfl
  | j :: x, y, s => by
    simp only [List.cons_append, fld]
    cases h : stp C ops j s with
    | none => rfl
    | some s1 => simp only [Option.bind_some]; exact fld_append ops x y s1

/-- Two that may change places. -/
def Sw (C : Cfg) (ops : Array Oper) (j i : Nat) : Prop := ∀ s s1 s2, stp C ops j s = some s1 → stp C ops i s1 = some s2 → ∃ s3, stp C ops i s = some s3 ∧ stp C ops j s3 = some s2

theorem fld_front (ops : Array Oper) {i : Nat} : ∀ (x : List Nat) (s s' : St), (∀ j ∈ x, Sw C ops j i) → fld C ops (x ++ [i]) s = some s' → fld C ops (i :: x) s = some s'
  | [], s, s', h, hf => hf
  | j :: x, s, s', h, hf => by
    simp only [List.cons_append, fld] at hf
    obtain ⟨s1, h1, h2⟩ := Option.bind_eq_some_iff.1 hf
    have h3 := fld_front ops x s1 s' (fun k hk => h k (by simp [hk])) h2
    simp only [fld] at h3
    obtain ⟨s2, h4, h5⟩ := Option.bind_eq_some_iff.1 h3
    obtain ⟨s3, h6, h7⟩ := h j (by simp) s s1 s2 h1 h4
    simp only [fld, h6, h7, Option.bind_some]
    exact h5

/-- All that is ahead of it by an arrow is in L. -/
def Deps (L : Nat → Prop) (o : Oper) : Prop := ∀ e ∈ o.after.toList, Region.binds .any e = true → L e.on

theorem mem_insN {x y : Nat} {l : List Nat} (h : y ∈ insN x l) : y = x ∨ y ∈ l := by
  unfold insN at h
  split at h
  · exact .inr h
  · simpa using h
theorem mem_addAll {y : Nat} : ∀ {x l : List Nat}, y ∈ addAll x l → y ∈ x ∨ y ∈ l
  | [], l, h => .inr h
  | z :: x, l, h => by
    simp only [addAll] at h
    rcases mem_addAll h with h | h
    · exact .inl (by simp [h])
    · rcases mem_insN h with h | h
      · exact .inl (by simp [h])
      · exact .inr h
theorem mem_ancOf {L : Nat → Prop} {acc : List (List Nat)} (hacc : ∀ (i : Nat) (l : List Nat), L i → acc[i]? = some l → ∀ j ∈ l, L j) {j : Nat} :
    ∀ (es : List Edge), (∀ e ∈ es, Region.binds .any e = true → L e.on) → j ∈ ancOf acc es → L j
  | [], h, hj => by cases hj
  | e :: r, h, hj => by
    simp only [ancOf] at hj
    split at hj
    · rename_i hb
      rcases mem_insN hj with hj | hj
      · rw [hj]; exact h e (by simp) hb
      · rcases mem_addAll hj with hj | hj
        · cases he : acc[e.on]? with
          | none => rw [List.getD_eq_getElem?_getD, he] at hj; cases hj
          | some l =>
            rw [List.getD_eq_getElem?_getD, he] at hj
            exact hacc e.on l (h e (by simp) hb) he j hj
        · exact mem_ancOf hacc r (fun e he => h e (by simp [he])) hj
    · exact mem_ancOf hacc r (fun e he => h e (by simp [he])) hj

theorem ancs_spec {L : Nat → Prop} (all : Array Oper) (hcl : ∀ (i : Nat) (o : Oper), all[i]? = some o → L i → Deps L o) :
    ∀ (l : List Oper) (acc : List (List Nat)), (∀ (j : Nat) (o : Oper), l[j]? = some o → all[acc.length + j]? = some o) →
    (∀ (i : Nat) (o : Oper) (x : List Nat), all[i]? = some o → acc[i]? = some x → Deps L o → ∀ j ∈ x, L j) → (acc.length ≤ all.size) →
    ∀ (i : Nat) (o : Oper) (x : List Nat), all[i]? = some o → (ancs l acc)[i]? = some x → Deps L o → ∀ j ∈ x, L j
  | [], acc, hl, hacc, hle => hacc
  | o :: l, acc, hl, hacc, hle => by
    simp only [ancs]
    have h0 : all[acc.length]? = some o := by simpa using hl 0 o rfl
    have hlt := (Array.getElem?_eq_some_iff.1 h0).1
    refine ancs_spec all hcl l _ (fun j o' hj => ?_) (fun i o' x hi hx hD j hj => ?_) ?_
    · have := hl (j + 1) o' (by simpa using hj)
      rw [List.length_append, List.length_singleton]
      rwa [show acc.length + (j + 1) = acc.length + 1 + j by omega] at this
    · rcases Nat.lt_or_ge i acc.length with hlt | hge
      · rw [List.getElem?_append_left hlt] at hx
        exact hacc i o' x hi hx hD j hj
      · rw [List.getElem?_append_right hge] at hx
        cases hk : i - acc.length with
        | zero =>
          rw [hk] at hx
          simp at hx
          subst hx
          have hie : i = acc.length := by omega
          rw [hie, h0] at hi
          cases hi
          refine mem_ancOf (L := L) (fun i' l' hL hl' j' hj' => ?_) o.after.toList hD hj
          have hi' : i' < acc.length := (List.getElem?_eq_some_iff.1 hl').1
          cases ho' : all[i']? with
          | none => rw [Array.getElem?_eq_none_iff] at ho'; omega
          | some o2 => exact hacc i' o2 l' ho' hl' (hcl i' o2 ho' hL) j' hj'
        | succ n => rw [hk] at hx; simp at hx
    · rw [List.length_append, List.length_singleton]; omega

theorem edgesOk_spec : ∀ (l : List Oper) (i : Nat), edgesOk l i = true → ∀ (j : Nat) (o : Oper), l[j]? = some o → ∀ e ∈ o.after.toList, Region.binds .any e = true → e.on < i + j
  | [], i, h, j, o, hj => by simp at hj
  | o :: l, i, h, j, o', hj => by
    simp only [edgesOk, Bool.and_eq_true] at h
    cases j with
    | zero =>
      simp at hj
      subst hj
      intro e he hb
      have := List.all_eq_true.1 h.1 e he
      simpa [hb] using this
    | succ n =>
      intro e he hb
      have := edgesOk_spec l (i + 1) h.2 n o' (by simpa using hj) e he hb
      omega

theorem pairOk_spec {ops : Array Oper} {x : Oper} {an : List Nat} : ∀ (l : List Oper) (j : Nat), pairOk ops x an l j = true → ∀ (k : Nat) (y : Oper), l[k]? = some y → (j + k) ∈ an ∨ pairB ops y x = true
  | [], j, h, k, y, hk => by simp at hk
  | z :: l, j, h, k, y, hk => by
    simp only [pairOk, Bool.and_eq_true, Bool.or_eq_true] at h
    cases k with
    | zero =>
      simp at hk
      subst hk
      rcases h.1 with h1 | h1
      · exact .inl (by simpa using h1)
      · exact .inr h1
    | succ n =>
      rcases pairOk_spec l (j + 1) h.2 n y (by simpa using hk) with h1 | h1
      · exact .inl (by rwa [show j + (n + 1) = j + 1 + n by omega])
      · exact .inr h1

theorem pairsOk_spec {ops : Array Oper} {an : List (List Nat)} : ∀ (l done : List Oper) (i : Nat), done.length = i → pairsOk ops an done l i = true →
    ∀ (k : Nat) (x : Oper) (j : Nat) (y : Oper), l[k]? = some x → j < i + k → (done ++ l)[j]? = some y → j ∈ an.getD (i + k) [] ∨ pairB ops y x = true
  | [], done, i, hi, h, k, x, j, y, hk => by simp at hk
  | z :: l, done, i, hi, h, k, x, j, y, hk => by
    intro hj hy
    simp only [pairsOk, Bool.and_eq_true] at h
    cases k with
    | zero =>
      simp at hk
      subst hk
      rw [List.getElem?_append_left (by omega)] at hy
      have := pairOk_spec done 0 h.1 j y hy
      simpa using this
    | succ n =>
      have := pairsOk_spec l (done ++ [z]) (i + 1) (by simp [hi]) h.2 n x j y (by simpa using hk) (by omega) (by simpa using hy)
      rwa [show i + (n + 1) = i + 1 + n by omega]

theorem isW_spec {o : Oper} (h : isW o = true) : isV o.op = true ∧ (isCall o.op = true → o.dst ≠ none) := by
  simp only [isW, Bool.and_eq_true, Bool.or_eq_true, Bool.not_eq_true', Option.isSome_iff_ne_none] at h
  refine ⟨h.1, fun hc => ?_⟩
  rcases h.2 with h2 | h2
  · rw [hc] at h2; cases h2
  · exact h2

theorem sw_apart {ops : Array Oper} {i j : Nat} {x y : Oper} (hy : ops[j]? = some y) (hx : ops[i]? = some x) (h : pairB ops y x = true) : Sw C ops j i := by
  intro s s1 s2 h1 h2
  simp only [pairB, Bool.and_eq_true, Bool.or_eq_true] at h
  simp only [stp, hy, hx] at h1 h2 ⊢
  obtain ⟨h0, hap⟩ := h
  rcases h0 with ⟨p1, p2⟩ | ⟨p1, p2⟩ | ⟨p1, p2⟩
  · obtain ⟨a1, a2⟩ := isW_spec p1
    obtain ⟨b1, b2⟩ := isW_spec p2
    exact step_comm a1 b1 a2 b2 hap h1 h2
  · exact comm_EL p1 p2 hap h1 h2
  · exact comm_ME p1 p2 hap h1 h2

def unl (n : Nat) (listed : Array Bool) : List Nat := (List.range n).filter fun j => !listed.getD j true

theorem unl_set {n i : Nat} {listed : Array Bool} (hi : i ∈ unl n listed) : ∃ pre post, unl n listed = pre ++ i :: post ∧ (∀ j ∈ pre, j < i) ∧ unl n (listed.setIfInBounds i true) = pre ++ post := by
  obtain ⟨pre, post, h⟩ := List.append_of_mem hi
  have hp : (unl n listed).Pairwise (· < ·) := List.pairwise_lt_range.filter _
  rw [h, List.pairwise_append] at hp
  obtain ⟨h1, h2, h3⟩ := hp
  rw [List.pairwise_cons] at h2
  have hpre : ∀ j ∈ pre, j < i := fun j hj => h3 j hj i (by simp)
  refine ⟨pre, post, h, hpre, ?_⟩
  have e : unl n (listed.setIfInBounds i true) = (unl n listed).filter (fun j => decide (j ≠ i)) := by
    unfold unl
    rw [List.filter_filter]
    apply List.filter_congr
    intro j hj
    by_cases hji : j = i
    · subst hji
      rw [Array.getD_eq_getD_getElem?, Array.getElem?_setIfInBounds]
      simp
      split <;> rfl
    · rw [getD_set_ne true (Ne.symm hji)]
      simp [hji]
  rw [e, h, List.filter_append, List.filter_cons_of_neg (by simp), List.filter_eq_self.2, List.filter_eq_self.2]
  · intro j hj; have := h2.1 j hj; simp; omega
  · intro j hj; have := hpre j hj; simp; omega

theorem mem_unl {n i : Nat} {listed : Array Bool} : i ∈ unl n listed ↔ i < n ∧ listed.getD i true = false := by
  simp [unl]

theorem getD_tf {listed : Array Bool} {i : Nat} (hi : i < listed.size) (b : Bool) : listed.getD i b = listed.getD i true := by
  simp [Array.getD_eq_getD_getElem?, Array.getElem?_eq_getElem hi]

theorem any_ok (hE : EnvOK C) {ops : Array Oper} (hc : commutes ops = true) {sf : St} (Q : Exit → Act → World → Prop) :
    ∀ (fuel : Nat) (listed : Array Bool) (s : St) (G : Gm) (a : Act) (w : World), listed.size = ops.size → (unl ops.size listed).length ≤ fuel →
    (∀ (i : Nat) (o : Oper), ops[i]? = some o → listed.getD i false = true → Deps (fun j => listed.getD j false = true) o) →
    Holds F s G a.tmps.toList w → fld C ops (unl ops.size listed) s = some sf →
    (∀ G' a' w', Holds F sf G' a'.tmps.toList w' → Step N0 N0 s G w sf G' w' → a'.defers = a.defers → Q .normal a' w') →
    wpAny C.P .any ops Q fuel listed a w := by
  intro fuel
  simp only [commutes, Bool.and_eq_true] at hc
  have hend : ∀ (listed : Array Bool) (s : St) (G : Gm) (a : Act) (w : World), listed.size = ops.size →
      Holds F s G a.tmps.toList w → fld C ops (unl ops.size listed) s = some sf →
      (∀ G' a' w', Holds F sf G' a'.tmps.toList w' → Step N0 N0 s G w sf G' w' → a'.defers = a.defers → Q .normal a' w') →
      Region.ready .any ops listed = [] → Q .normal a w := by
    intro listed s G a w hs hH hf hQ hr
    cases hu : unl ops.size listed with
    | nil =>
      rw [hu] at hf
      cases hf
      exact hQ G a w hH (Step.refl _ _ _ _ _) rfl
    | cons i r =>
      exfalso
      have hi : i ∈ unl ops.size listed := by rw [hu]; simp
      obtain ⟨hlt, hun⟩ := mem_unl.1 hi
      have : i ∈ Region.ready .any ops listed := by
        refine mem_ready.2 ⟨hun, ops[i], Array.getElem?_eq_getElem hlt, fun e he hb => ?_⟩
        have h1 := edgesOk_spec ops.toList 0 hc.1 i ops[i] (by simp [hlt]) e (by simpa using he) hb
        cases hL : listed.getD e.on false with
        | true => rfl
        | false =>
          exfalso
          have h2 : e.on ∈ unl ops.size listed := mem_unl.2 ⟨by omega, by rw [← getD_tf (by omega) false]; exact hL⟩
          have hp : (unl ops.size listed).Pairwise (· < ·) := List.pairwise_lt_range.filter _
          rw [hu, List.pairwise_cons] at hp
          rw [hu] at h2
          rcases List.mem_cons.1 h2 with h3 | h3
          · omega
          · have := hp.1 _ h3; omega
      rw [hr] at this
      cases this
  induction fuel with
  | zero =>
    intro listed s G a w hs hle hcl hH hf hQ
    have hr : Region.ready .any ops listed = [] := by
      apply List.eq_nil_iff_forall_not_mem.2
      intro i hi
      obtain ⟨h1, o, ho, _⟩ := mem_ready.1 hi
      have : i ∈ unl ops.size listed := mem_unl.2 ⟨(Array.getElem?_eq_some_iff.1 ho).1, h1⟩
      rw [List.eq_nil_of_length_eq_zero (by omega : (unl ops.size listed).length = 0)] at this
      cases this
    exact ⟨hr, hend listed s G a w hs hH hf hQ hr⟩
  | succ fuel ih =>
    intro listed s G a w hs hle hcl hH hf hQ
    refine ⟨hend listed s G a w hs hH hf hQ, fun i hi => ?_⟩
    obtain ⟨hun, o, ho, hdeps⟩ := mem_ready.1 hi
    have hlt := (Array.getElem?_eq_some_iff.1 ho).1
    have hmem : i ∈ unl ops.size listed := mem_unl.2 ⟨hlt, hun⟩
    obtain ⟨pre, post, e1, hpre, e2⟩ := unl_set hmem
    have hD : Deps (fun j => listed.getD j false = true) o := fun e he hb => hdeps e (by simpa using he) hb
    have hsw : ∀ j ∈ pre, Sw C ops j i := by
      intro j hj
      have hj' : j ∈ unl ops.size listed := by rw [e1]; simp [hj]
      obtain ⟨hjl, hju⟩ := mem_unl.1 hj'
      have hoj : ops[j]? = some ops[j] := Array.getElem?_eq_getElem hjl
      have h1 := pairsOk_spec ops.toList [] 0 rfl hc.2 i o j ops[j] (by simpa using ho) (by have := hpre j hj; omega) (by simpa using hoj)
      rcases h1 with h1 | h1
      · exfalso
        rw [Nat.zero_add] at h1
        cases hx : (ancs ops.toList [])[i]? with
        | none => rw [List.getD_eq_getElem?_getD, hx] at h1; cases h1
        | some x =>
          rw [List.getD_eq_getElem?_getD, hx] at h1
          have h2 := ancs_spec (L := fun j => listed.getD j false = true) ops hcl ops.toList [] (fun j o hj => by simpa using hj) (fun i o x _ h => by simp at h) (Nat.zero_le _) i o x ho hx hD j h1
          rw [getD_tf (by omega)] at h2
          rw [h2] at hju
          cases hju
      · exact sw_apart hoj ho h1
    rw [e1, show pre ++ i :: post = (pre ++ [i]) ++ post by simp, fld_append] at hf
    obtain ⟨s1, h1, h2⟩ := Option.bind_eq_some_iff.1 hf
    have h3 := fld_front ops pre s s1 hsw h1
    simp only [fld] at h3
    obtain ⟨s3, h4, h5⟩ := Option.bind_eq_some_iff.1 h3
    have h6 : fld C ops (unl ops.size (listed.setIfInBounds i true)) s3 = some sf := by
      rw [e2, fld_append, h5]; exact h2
    simp only [stp, ho] at h4
    have hlen : (unl ops.size (listed.setIfInBounds i true)).length ≤ fuel := by
      rw [e1] at hle
      rw [e2]
      simp at hle ⊢
      omega
    have hcl' : ∀ (k : Nat) (ok : Oper), ops[k]? = some ok → (listed.setIfInBounds i true).getD k false = true → Deps (fun j => (listed.setIfInBounds i true).getD j false = true) ok := by
      intro k ok hk hL e he hb
      by_cases hik : i = k
      · subst hik
        rw [ho] at hk
        cases hk
        exact getD_set_true (hD e he hb)
      · rw [getD_set_ne false hik] at hL
        exact getD_set_true (hcl k ok hk hL e he hb)
    have hstep := oper_sound (fok_D hE) hH h4 (wpAny C.P .any ops Q fuel (listed.setIfInBounds i true)) Q fun G1 a1 w1 k1 k2 k3 =>
      ih (listed.setIfInBounds i true) s3 G1 a1 w1 (by simpa using hs) hlen hcl' k1 h6 fun G2 a2 w2 m1 m2 m3 => hQ G2 a2 w2 m1 (k2.trans m2) (m3.trans k3)
    unfold wpOp
    simp only [ho]
    split
    · rename_i hw; rw [if_pos hw] at hstep; exact .inl hstep
    · rename_i hw; rw [if_neg hw] at hstep; exact hstep

theorem draw_ok (hm : C.P.follows .mixedOrders = true) (hE : EnvOK C) : DrawOK C := by
  intro ops hc F s s' G a w Q hH hf hQ id
  refine wp_region_any hm ?_
  have hg : Grew w { w with drawn := w.drawn + 1 } := ⟨rfl, rfl, rfl, Nat.le_refl _, fun _ _ _ => rfl⟩
  have hu : unl ops.size (Array.replicate ops.size false) = List.range ops.size := by
    unfold unl
    apply List.filter_eq_self.2
    intro j hj
    have := List.mem_range.1 hj
    simp [Array.getD_eq_getD_getElem?, this]
  refine any_ok hE hc (sf := s') Q ops.size _ s G a _ (by simp) (by rw [hu]; simp) (fun i o ho hL => ?_) (hH.grew hg) ?_ fun G' a' w' k1 k2 k3 => hQ G' a' w' k1 ((Step.grew hg).trans k2) k3
  · exfalso
    rw [Array.getD_eq_getD_getElem?, Array.getElem?_replicate] at hL
    split at hL <;> simp at hL
  · rw [hu, List.range_eq_range']
    rw [fold_fld ops ops.toList 0 s fun j o hj => by simpa using hj] at hf
    simpa using hf

end
end Go.Proofs.YtghmhkpgdmgepaaV
