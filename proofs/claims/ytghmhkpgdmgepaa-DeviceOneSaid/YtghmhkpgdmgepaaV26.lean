import Derived.Test.YtghmhkpgdmgepaaV25
/-! The V engine, 26: code cut at joins and loops, so that each piece is told by itself. -/
set_option linter.unusedVariables false
set_option linter.unusedSimpArgs false
namespace Go.Proofs.YtghmhkpgdmgepaaV
open Go Go.RowKit

section
variable {R : Type}
/-- What goes on from where code is cut: joins by the number of the first region, loops likewise. -/
abbrev Jt (R : Type) := List (Nat × (St → Option R))
def lookJ : Jt R → Nat → Option (St → Option R)
  | [], _ => none
  | x :: r, i => if x.1 = i then some x.2 else lookJ r i
def firstJ (J : Jt R) (c : Code) : Option (St → Option R) := (firstR c).bind (lookJ J)

def seqJ (C : Cfg) (J : Jt R) (b : Code) (f : St → (XE → St → Option R) → Option R) (K : XE → St → Option R) : XE → St → Option R
  | .normal, s => norm C b s fun s => match firstJ J b with | some g => g s | none => f s K
  | e, s => K e s
def evJ (C : Cfg) (J L : Jt R) : Code → St → (XE → St → Option R) → Option R
  | .skip, s, K => K .normal s
  | .region _ ops draw, s, K => if draw then (if commutes ops then opsK (opD C) ops ops.toList s (K .normal) else none) else opsP C ops ops.toList s K
  | .seq a b, s, K => evJ C J L a s (seqJ C J b (evJ C J L b) K)
  | .cond c x y, s, K => match bool1 (s.get c) with
    | some b => bif b then evJ C J L x (refine s c true) K else evJ C J L y (refine s c false) K
    | none => none
  | .block id b, s, K => evJ C J L b s (blkK id K)
  | .loop b, s, K => norm C b s fun s => match firstJ L b with | some g => g s | none => none
  | .exit id, s, K => K (.exit id) s
  | .ret, s, K => K .ret s
  | .label _, s, K => K .normal s
  | _, _, _ => none
/-- What goes on behind a place, cut. -/
def ctxJ (C : Cfg) (J L : Jt R) : Code → List Step1 → (XE → St → Option R) → (XE → St → Option R)
  | _, [], K => K
  | .seq a b, .l :: p, K => ctxJ C J L a p (seqJ C J b (evJ C J L b) K)
  | .seq _ b, .r :: p, K => ctxJ C J L b p K
  | .block id b, .b :: p, K => ctxJ C J L b p (blkK id K)
  | .loop b, .b :: p, K => ctxJ C J L b p (match firstJ L b with | some g => loopK C b g K | none => fun _ _ => none)
  | .scope b, .b :: p, K => ctxJ C J L b p K
  | .cond _ x _, .t :: p, K => ctxJ C J L x p K
  | .cond _ _ y, .e :: p, K => ctxJ C J L y p K
  | _, _, K => K

/-- The joins of some code, each with what goes on from there. -/
def jt (C : Cfg) (k : Nat) : Code → List Step1 → List Nat → (XE → St → Option R) → List (Code × (St → Option R))
  | .seq a b, .l :: p, ks, K => (b, fun s => ev C k b s K) :: (jt C k a p ks (seqK C b (ev C k b) K) ++ jt C k b [] [] K)
  | .seq a b, .r :: p, ks, K => (b, fun s => ev C k b s K) :: (jt C k a [] [] (seqK C b (ev C k b) K) ++ jt C k b p ks K)
  | .seq a b, _, _, K => (b, fun s => ev C k b s K) :: (jt C k a [] [] (seqK C b (ev C k b) K) ++ jt C k b [] [] K)
  | .cond _ x y, .t :: p, ks, K => jt C k x p ks K ++ jt C k y [] [] K
  | .cond _ x y, .e :: p, ks, K => jt C k x [] [] K ++ jt C k y p ks K
  | .cond _ x y, _, _, K => jt C k x [] [] K ++ jt C k y [] [] K
  | .block id b, .b :: p, ks, K => jt C k b p ks (blkK id K)
  | .block id b, _, _, K => jt C k b [] [] (blkK id K)
  | .loop b, .b :: p, j :: ks, K => jt C k b p ks (loopK C b (iterN (bodyK C b (ev C k b) K) j) K)
  | _, _, _, _ => []
/-- The loops of some code. -/
def lt (C : Cfg) (k : Nat) : Code → List Step1 → List Nat → (XE → St → Option R) → List (Code × (St → Option R))
  | .seq a b, .l :: p, ks, K => lt C k a p ks (seqK C b (ev C k b) K) ++ lt C k b [] [] K
  | .seq a b, .r :: p, ks, K => lt C k a [] [] (seqK C b (ev C k b) K) ++ lt C k b p ks K
  | .seq a b, _, _, K => lt C k a [] [] (seqK C b (ev C k b) K) ++ lt C k b [] [] K
  | .cond _ x y, .t :: p, ks, K => lt C k x p ks K ++ lt C k y [] [] K
  | .cond _ x y, .e :: p, ks, K => lt C k x [] [] K ++ lt C k y p ks K
  | .cond _ x y, _, _, K => lt C k x [] [] K ++ lt C k y [] [] K
  | .block id b, .b :: p, ks, K => lt C k b p ks (blkK id K)
  | .block id b, _, _, K => lt C k b [] [] (blkK id K)
  | .loop b, .b :: p, j :: ks, K => (b, iterN (bodyK C b (ev C k b) K) j) :: lt C k b p ks (loopK C b (iterN (bodyK C b (ev C k b) K) j) K)
  | .loop b, _, _, K => [(b, iterN (bodyK C b (ev C k b) K) k)]
  | _, _, _, _ => []

def OkJ (J : Jt R) (l : List (Code × (St → Option R))) : Prop := ∀ x ∈ l, ∀ g, firstJ J x.1 = some g → g = x.2
def OkL (J : Jt R) (l : List (Code × (St → Option R))) : Prop := ∀ x ∈ l, firstJ J x.1 = some x.2

theorem seqJ_eq {C : Cfg} {J : Jt R} {b : Code} {f g : St → (XE → St → Option R) → Option R} {K : XE → St → Option R} (h1 : ∀ s, f s K = g s K) (h2 : ∀ h, firstJ J b = some h → h = fun s => g s K) : seqJ C J b f K = seqK C b g K := by
  funext e s
  cases e with
  | normal =>
    simp only [seqJ, seqK]
    congr 1
    funext s
    cases hb : firstJ J b with
    | none => exact h1 s
    | some h => rw [h2 h hb]
  | _ => rfl

theorem evJ_eq {C : Cfg} {J L : Jt R} {k : Nat} : ∀ (c : Code) (s : St) (K : XE → St → Option R), OkJ J (jt C k c [] [] K) → OkL L (lt C k c [] [] K) → evJ C J L c s K = ev C k c s K
  | .skip, s, K, _, _ => rfl
  | .region _ _ _, s, K, _, _ => rfl
  | .seq a b, s, K, hJ, hL => by
    simp only [evJ, ev]
    simp only [jt, lt] at hJ hL
    have e : seqJ C J b (evJ C J L b) K = seqK C b (ev C k b) K := seqJ_eq
      (fun s => evJ_eq b s K (fun x hx => hJ x (by simp [hx])) (fun x hx => hL x (by simp [hx])))
      (fun h hh => hJ (b, fun s => ev C k b s K) (by simp) h hh)
    rw [e]
    exact evJ_eq a s _ (fun x hx => hJ x (by simp [hx])) (fun x hx => hL x (by simp [hx]))
  | .cond c x y, s, K, hJ, hL => by
    simp only [evJ, ev]
    simp only [jt, lt] at hJ hL
    cases bool1 (s.get c) with
    | none => rfl
    | some b =>
      simp only []
      rw [evJ_eq (k := k) x _ K (fun z hz => hJ z (by simp [hz])) (fun z hz => hL z (by simp [hz])), evJ_eq (k := k) y _ K (fun z hz => hJ z (by simp [hz])) (fun z hz => hL z (by simp [hz]))]
  | .block id b, s, K, hJ, hL => by
    simp only [evJ, ev]
    exact evJ_eq b s _ (by simpa only [jt] using hJ) (by simpa only [lt] using hL)
  | .loop b, s, K, hJ, hL => by
    simp only [evJ, ev]
    have h := hL (b, iterN (bodyK C b (ev C k b) K) k) (by simp [lt])
    rw [h]
  | .scope b, s, K, _, _ => rfl
  | .exit id, s, K, _, _ => rfl
  | .ret, s, K, _, _ => rfl
  | .goto l, s, K, _, _ => rfl
  | .label l, s, K, _, _ => rfl
  | .refuse y, s, K, _, _ => rfl
  | .rangeFunc f p x y, s, K, _, _ => rfl

/-- The way of a place goes through code that can be told. -/
def wayOk : Code → List Step1 → List Nat → Bool
  | _, [], _ => true
  | .seq a _, .l :: p, ks => wayOk a p ks
  | .seq _ b, .r :: p, ks => wayOk b p ks
  | .block _ b, .b :: p, ks => wayOk b p ks
  | .loop b, .b :: p, _ :: ks => wayOk b p ks
  | .cond _ x _, .t :: p, ks => wayOk x p ks
  | .cond _ _ y, .e :: p, ks => wayOk y p ks
  | _, _, _ => false

theorem ctxJ_eq {C : Cfg} {J L : Jt R} {k : Nat} : ∀ (c : Code) (p : List Step1) (ks : List Nat) (K : XE → St → Option R), wayOk c p ks = true → OkJ J (jt C k c p ks K) → OkL L (lt C k c p ks K) →
    ctxJ C J L c p K = ctxAt C k c p ks K ∧ OkJ J (jt C k (codeAt c p) [] [] (ctxAt C k c p ks K)) ∧ OkL L (lt C k (codeAt c p) [] [] (ctxAt C k c p ks K))
  | c, [], ks, K, hw, hJ, hL => by
    refine ⟨by unfold ctxJ ctxAt; rfl, ?_, ?_⟩
    · rw [show codeAt c [] = c by unfold codeAt; rfl, show ctxAt C k c [] ks K = K by unfold ctxAt; rfl]
      cases c <;> simpa only [jt] using hJ
    · rw [show codeAt c [] = c by unfold codeAt; rfl, show ctxAt C k c [] ks K = K by unfold ctxAt; rfl]
      cases c <;> simpa only [lt] using hL
  | .seq a b, .l :: p, ks, K, hw, hJ, hL => by
    simp only [ctxJ, ctxAt, codeAt]
    simp only [jt, lt] at hJ hL
    have e : seqJ C J b (evJ C J L b) K = seqK C b (ev C k b) K := seqJ_eq
      (fun s => evJ_eq b s K (fun x hx => hJ x (by simp [hx])) (fun x hx => hL x (by simp [hx])))
      (fun h hh => hJ (b, fun s => ev C k b s K) (by simp) h hh)
    rw [e]
    exact ctxJ_eq a p ks _ hw (fun x hx => hJ x (by simp [hx])) (fun x hx => hL x (by simp [hx]))
  | .seq a b, .r :: p, ks, K, hw, hJ, hL => by
    simp only [ctxJ, ctxAt, codeAt]
    simp only [jt, lt] at hJ hL
    exact ctxJ_eq b p ks _ hw (fun x hx => hJ x (by simp [hx])) (fun x hx => hL x (by simp [hx]))
  | .block id b, .b :: p, ks, K, hw, hJ, hL => by
    simp only [ctxJ, ctxAt, codeAt]
    simp only [jt, lt] at hJ hL
    exact ctxJ_eq b p ks _ hw hJ hL
  | .loop b, .b :: p, j :: ks, K, hw, hJ, hL => by
    simp only [ctxJ, ctxAt, codeAt]
    simp only [jt, lt] at hJ hL
    have h := hL (b, iterN (bodyK C b (ev C k b) K) j) (by simp)
    rw [h]
    exact ctxJ_eq b p ks _ hw hJ (fun x hx => hL x (by simp [hx]))
  | .cond c x y, .t :: p, ks, K, hw, hJ, hL => by
    simp only [ctxJ, ctxAt, codeAt]
    simp only [jt, lt] at hJ hL
    exact ctxJ_eq x p ks _ hw (fun x hx => hJ x (by simp [hx])) (fun x hx => hL x (by simp [hx]))
  | .cond c x y, .e :: p, ks, K, hw, hJ, hL => by
    simp only [ctxJ, ctxAt, codeAt]
    simp only [jt, lt] at hJ hL
    exact ctxJ_eq y p ks _ hw (fun x hx => hJ x (by simp [hx])) (fun x hx => hL x (by simp [hx]))

/-- From a place on, cut. -/
def evAtJ (C : Cfg) (J L : Jt R) (c : Code) (p : List Step1) (K : XE → St → Option R) (s : St) : Option R := evJ C J L (codeAt c p) s (ctxJ C J L c p K)

/-- The tables of the cuts: which are kept (ids), each key once. -/
def keep (ids : List Nat) : List (Code × (St → Option R)) → Jt R
  | [] => []
  | x :: r => match firstR x.1 with
    | some i => if ids.contains i then (i, x.2) :: keep ids r else keep ids r
    | none => keep ids r
def keysOk : Jt R → Bool
  | [] => true
  | x :: r => !(r.map Prod.fst).contains x.1 && keysOk r
theorem lookJ_mem : ∀ {l : Jt R} {x : Nat × (St → Option R)}, keysOk l = true → x ∈ l → lookJ l x.1 = some x.2
  | y :: l, x, hk, hx => by
    simp only [keysOk, Bool.and_eq_true, Bool.not_eq_true', List.contains_eq_mem, decide_eq_false_iff_not] at hk
    simp only [lookJ]
    rcases List.mem_cons.1 hx with rfl | hx
    · rw [if_pos rfl]
    · rw [if_neg]
      · exact lookJ_mem hk.2 hx
      · intro e
        exact hk.1 (List.mem_map.2 ⟨x, hx, e.symm⟩)
theorem lookJ_key : ∀ {l : Jt R} {i : Nat} {g : St → Option R}, lookJ l i = some g → (i, g) ∈ l
  | x :: l, i, g, h => by
    simp only [lookJ] at h
    split at h
    · rename_i e; cases h; subst e; exact List.mem_cons_self
    · exact List.mem_cons_of_mem _ (lookJ_key h)
theorem keep_mem {ids : List Nat} : ∀ {l : List (Code × (St → Option R))} {x : Code × (St → Option R)} {i : Nat}, x ∈ l → firstR x.1 = some i → i ∈ ids → (i, x.2) ∈ keep ids l
  | y :: l, x, i, hx, hi, hm => by
    simp only [keep]
    rcases List.mem_cons.1 hx with rfl | hx
    · rw [hi]
      simp [hm]
    · have := keep_mem hx hi hm
      split
      · split
        · exact List.mem_cons_of_mem _ this
        · exact this
      · exact this
theorem keep_id {ids : List Nat} : ∀ {l : List (Code × (St → Option R))} {x : Nat × (St → Option R)}, x ∈ keep ids l → x.1 ∈ ids
  | y :: l, x, h => by
    simp only [keep] at h
    split at h
    · split at h
      · rename_i hm
        rcases List.mem_cons.1 h with rfl | h
        · simpa using hm
        · exact keep_id h
      · exact keep_id h
    · exact keep_id h
theorem okJ_keep {ids : List Nat} {l : List (Code × (St → Option R))} (hk : keysOk (keep ids l) = true) : OkJ (keep ids l) l := by
  intro x hx g hg
  unfold firstJ at hg
  obtain ⟨i, hi, h2⟩ := Option.bind_eq_some_iff.1 hg
  have hm := keep_id (lookJ_key h2)
  have := lookJ_mem hk (keep_mem hx hi hm)
  rw [h2] at this
  cases this
  rfl
def allKept (ids : List Nat) (l : List (Code × (St → Option R))) : Bool := l.all fun x => match firstR x.1 with | some i => ids.contains i | none => false
theorem okL_keep {ids : List Nat} {l : List (Code × (St → Option R))} (hk : keysOk (keep ids l) = true) (ha : allKept ids l = true) : OkL (keep ids l) l := by
  intro x hx
  have h := List.all_eq_true.1 ha x hx
  cases hi : firstR x.1 with
  | none => rw [hi] at h; cases h
  | some i =>
    rw [hi] at h
    unfold firstJ
    rw [hi]
    exact lookJ_mem hk (keep_mem hx hi (by simpa using h))

/-- From a place on: told with the cuts. -/
theorem evAt_cut {C : Cfg} {k : Nat} {c : Code} {p : List Step1} {ks : List Nat} {K : XE → St → Option R} (s : St) (js ls : List Nat) {J L : Jt R}
    (hw : wayOk c p ks = true) (hJ : keep js (jt C k c p ks K) = J) (hL : keep ls (lt C k c p ks K) = L) (h1 : keysOk J = true) (h2 : keysOk L = true) (h3 : allKept ls (lt C k c p ks K) = true) :
    evAt C k c p ks K s = evAtJ C J L c p K s := by
  subst hJ
  subst hL
  obtain ⟨e, a, b⟩ := ctxJ_eq c p ks K hw (okJ_keep h1) (okL_keep h2 h3)
  unfold evAt evAtJ
  rw [e, evJ_eq _ _ _ a b]

theorem loopAt_zero {C : Cfg} {k : Nat} {c : Code} {p : List Step1} {ks : List Nat} {K : XE → St → Option R} (s : St) : loopAt C k c p ks 0 K s = none := by
  unfold loopAt
  split <;> rfl
end
end Go.Proofs.YtghmhkpgdmgepaaV
