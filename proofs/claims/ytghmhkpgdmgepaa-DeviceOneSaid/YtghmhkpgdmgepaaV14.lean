import Derived.Test.YtghmhkpgdmgepaaV13
/-! The V engine, 14: rows that are no longer written; stores. -/
set_option linter.unusedVariables false
set_option linter.unusedSimpArgs false
namespace Go.Proofs.YtghmhkpgdmgepaaV
open Go Go.RowKit

section
variable {P : Program} {F : Nat → Prop} {s s' : St} {G : Gm} {a : Act} {w : World} {o : Oper} {v : AV} {vals : List Value}

theorem map_boxAt {f : L → L} {b : Nat} {ls : List L} (h : boxAt (s.map f) b = some ls) : ∃ q, boxAt s b = some q ∧ ls = q.map f := by
  unfold boxAt St.map at h
  simp only [List.getElem?_map] at h
  unfold boxAt
  cases he : s.boxes[b]? with
  | none => simp [he] at h
  | some x =>
    cases x with
    | none => simp [he] at h
    | some q => simp [he] at h; exact ⟨q, rfl, h.symm⟩
theorem frz_eq {n : Nat} {x : Own} (hx : ownAt s n = some x) : frz s n = setOwn (s.map (frzL n ⟨.slice x.t, x.xs⟩)) n none := by unfold frz; rw [hx]
theorem ownAt_lt {n : Nat} {x : Own} (hx : ownAt s n = some x) : n < s.owns.length := by
  unfold ownAt at hx
  cases he : s.owns[n]? with
  | none => simp [he] at hx
  | some y => exact (List.getElem?_eq_some_iff.1 he).1
theorem frz_ownAt (n l : Nat) : ownAt (frz s n) l = if l = n then none else ownAt s l := by
  cases hx : ownAt s n with
  | none =>
    have : frz s n = s := by unfold frz; rw [hx]
    rw [this]
    split
    · rename_i e; rw [e]; exact hx
    · rfl
  | some x =>
    rw [frz_eq hx, ownAt_set (s := s.map _) (ownAt_lt hx)]
    rfl
theorem frz_boxAt {n b : Nat} {ls : List L} (h : boxAt (frz s n) b = some ls) : ∃ q, boxAt s b = some q := by
  cases hx : ownAt s n with
  | none =>
    have : frz s n = s := by unfold frz; rw [hx]
    rw [this] at h
    exact ⟨ls, h⟩
  | some x =>
    rw [frz_eq hx] at h
    obtain ⟨q, hq, _⟩ := map_boxAt (f := frzL n ⟨.slice x.t, x.xs⟩) h
    exact ⟨q, hq⟩
theorem frz_live (h : Holds F s G vals w) {n k : Nat} (hk : Live (frz s n) G k) : Live s G k ∧ ∀ x, ownAt s n = some x → (G.ow n).ownBlock ≠ some k := by
  rcases hk with ⟨b, q, hb, rfl⟩ | ⟨l, x, hx, hkk⟩
  · obtain ⟨q', hq'⟩ := frz_boxAt hb
    exact ⟨.inl ⟨b, q', hq', rfl⟩, fun x hx => h.bo b q' n x hq' hx⟩
  · rw [frz_ownAt] at hx
    split at hx
    · cases hx
    · rename_i e
      exact ⟨.inr ⟨l, x, hx, hkk⟩, fun y hy e2 => e (h.oo l n x y k hx hy hkk e2)⟩

theorem frz_holds (h : Holds F s G vals w) (n : Nat) : Holds F (frz s n) G vals w := by
  cases hx : ownAt s n with
  | none =>
    have : frz s n = s := by unfold frz; rw [hx]
    rw [this]
    exact h
  | some x =>
    have hok : ∀ k, okS F s G w k → okS F (frz s n) G w k ∧ w.heap[k]? = w.heap[k]? := fun k hk => ⟨⟨hk.1, hk.2.1, fun hL => hk.2.2 (frz_live h hL).1⟩, rfl⟩
    have hok2 : ∀ k, (okS F s G w k ∨ (G.ow n).ownBlock = some k) → okS F (frz s n) G w k ∧ w.heap[k]? = w.heap[k]? := by
      rintro k (hk | hk)
      · exact hok k hk
      · exact ⟨⟨h.lt (.inr ⟨n, x, hx, hk⟩), h.nF k (.inr ⟨n, x, hx, hk⟩), fun hL => (frz_live h hL).2 x hx hk⟩, rfl⟩
    have hl : ∀ l v, HR F s G w l v → HR F (frz s n) G w (frzL n ⟨.slice x.t, x.xs⟩ l) v := by
      intro l v hr
      have gen : l.noO n = true → HR F (frz s n) G w l v := fun hno => by
        refine HL.tr (G := G) hok (fun _ _ => ⟨rfl, rfl⟩) (fun _ _ => rfl) (fun q x' hq hx' => ?_) hr
        have h5 : ownAt (frz s n) q = some x' := hx'
        rw [frz_ownAt] at h5
        split at h5
        · cases h5
        · exact ⟨x', h5, Nat.le_refl _, rfl⟩
      unfold frzL
      split
      · rename_i l'
        split
        · rename_i e
          subst e
          have := own_rep h hx
          rw [← show v = G.ow l' from hr.1] at this
          exact Rep.mono (by rw [show v = G.ow l' from hr.1]; exact hok2) this
        · rename_i e
          exact gen (by simpa [L.noO] using e)
      · rename_i l' i q z
        split
        · exact hr.one
        · rename_i e
          exact gen (by simpa [L.noO] using e)
      · rename_i h1 h2
        refine gen ?_
        cases l <;> first | rfl | exact absurd rfl (h1 _) | exact absurd rfl (h2 _ _ _ _)
    have hbx : ∀ {b ls}, boxAt (frz s n) b = some ls → ∃ q, boxAt s b = some q ∧ ls = q.map (frzL n ⟨.slice x.t, x.xs⟩) := by
      intro b ls hb
      rw [frz_eq hx] at hb
      exact map_boxAt (f := frzL n ⟨.slice x.t, x.xs⟩) hb
    refine ⟨?_, ?_, ?_, ?_, ?_, ?_, ?_, h.Flt, fun b ls hb => (hbx hb).elim fun q hq => h.ty b q hq.1⟩
    · have e : (frz s n).slots = s.slots.map (AV.map (frzL n ⟨.slice x.t, x.xs⟩)) := by rw [frz_eq hx]; rfl
      rw [e]
      exact All2.map_left (h.slots.imp fun _ _ ha => HA.map hl ha)
    · intro b ls hb
      obtain ⟨q, hq, rfl⟩ := hbx hb
      obtain ⟨cs, et, h1, h2⟩ := h.box b q hq
      exact ⟨cs, et, h1, All2.map_left (h2.imp hl)⟩
    · intro l y hy
      rw [frz_ownAt] at hy
      split at hy
      · cases hy
      · obtain ⟨h0, cs, h1, h2⟩ := h.own l y hy
        exact ⟨h0, cs, h1, h2.mono hok⟩
    · intro b b' q q' hb hb'
      obtain ⟨p, hp, _⟩ := hbx hb
      obtain ⟨p', hp', _⟩ := hbx hb'
      exact h.bb b b' p p' hp hp'
    · intro b q l y hb hy
      obtain ⟨p, hp, _⟩ := hbx hb
      rw [frz_ownAt] at hy
      split at hy
      · cases hy
      · exact h.bo b p l y hp hy
    · intro l l' y y' k hy hy'
      rw [frz_ownAt] at hy hy'
      split at hy <;> split at hy' <;> first | (cases hy; done) | (cases hy'; done) | exact h.oo l l' y y' k hy hy'
    · exact fun k hk => h.nF k (frz_live h hk).1
theorem frz_step (h : Holds F s G vals w) (n nb no : Nat) : Step nb no s G w (frz s n) G w :=
  ⟨Keeps.refl _ _, fun k hk => .inl (frz_live h hk).1, fun _ _ => ⟨rfl, rfl⟩, fun l _ x hx => by
    rw [frz_ownAt] at hx
    split at hx
    · cases hx
    · exact ⟨⟨x, hx⟩, rfl⟩⟩
theorem frzAll_holds : ∀ (ms : List Nat) {s : St}, Holds F s G vals w → Holds F (frzAll s ms) G vals w
  | [], _, h => h
  | m :: ms, _, h => frzAll_holds ms (frz_holds h m)
theorem frzAll_step (nb no : Nat) : ∀ (ms : List Nat) {s : St}, Holds F s G vals w → Step nb no s G w (frzAll s ms) G w
  | [], s, h => Step.refl _ _ _ _ _
  | m :: ms, s, h => (frz_step h m nb no).trans (frzAll_step nb no ms (frz_holds h m))
theorem frzAll_ownAt : ∀ (ms : List Nat) (s : St) (l : Nat), ownAt (frzAll s ms) l = if l ∈ ms then none else ownAt s l
  | [], s, l => by simp [frzAll]
  | m :: ms, s, l => by
    rw [frzAll, frzAll_ownAt ms, frz_ownAt]
    by_cases h1 : l ∈ ms
    · simp [h1]
    · by_cases h2 : l = m <;> simp [h1, h2]
theorem frzAll_live : ∀ (ms : List Nat) {s : St}, Holds F s G vals w → ∀ {k}, Live (frzAll s ms) G k → Live s G k ∧ ∀ m ∈ ms, ∀ x, ownAt s m = some x → (G.ow m).ownBlock ≠ some k
  | [], s, h, k, hk => ⟨hk, fun m hm => by simp at hm⟩
  | m :: ms, s, h, k, hk => by
    obtain ⟨h1, h2⟩ := frzAll_live ms (frz_holds h m) hk
    obtain ⟨h3, h4⟩ := frz_live h h1
    refine ⟨h3, fun m' hm' x hx => ?_⟩
    rcases List.mem_cons.1 hm' with rfl | hm'
    · exact h4 x hx
    · by_cases e : m' = m
      · subst e; exact h4 x hx
      · exact h2 m' hm' x (by rw [frz_ownAt, if_neg e]; exact hx)
theorem frzAll_ok (h : Holds F s G vals w) (ms : List Nat) {k : Nat} (hk : okS F s G w k ∨ ∃ m ∈ ms, ∃ x, ownAt s m = some x ∧ (G.ow m).ownBlock = some k) : okS F (frzAll s ms) G w k := by
  rcases hk with hk | ⟨m, hm, x, hx, hk⟩
  · exact ⟨hk.1, hk.2.1, fun hL => hk.2.2 (frzAll_live ms h hL).1⟩
  · exact ⟨h.lt (.inr ⟨m, x, hx, hk⟩), h.nF k (.inr ⟨m, x, hx, hk⟩), fun hL => (frzAll_live ms h hL).2 m hm x hx hk⟩
theorem frzAll_boxAt : ∀ (ms : List Nat) {s : St} {b : Nat} {ls : List L}, boxAt (frzAll s ms) b = some ls → ∃ q, boxAt s b = some q
  | [], _, _, ls, h => ⟨ls, h⟩
  | m :: ms, s, b, ls, h => by
    obtain ⟨q, hq⟩ := frzAll_boxAt ms h
    exact frz_boxAt hq

/-- Leaves told as data, once the rows among them are given up. -/
theorem plsOf_rep (h : Holds F s G vals w) (ms : List Nat) : ∀ (ts : List Ty) (ls : List L) (ps : List PL) (vs : List Value), plsOf s ts ls = some ps → All2 (HR F s G w) ls vs → (∀ m ∈ ownsOf ls, m ∈ ms) →
    All2 (RepL w (okS F (frzAll s ms) G w)) ps vs
  | [], [], ps, vs, h1, h2, _ => by cases h1; cases h2; exact .nil
  | t :: ts, l :: ls, ps, vs, h1, h2, h3 => by
    simp only [plsOf] at h1
    obtain ⟨p, hp, h4⟩ := Option.bind_eq_some_iff.1 h1
    obtain ⟨q, hq, rfl⟩ := Option.map_eq_some_iff.1 h4
    cases h2 with
    | cons h5 h6 =>
      refine .cons ?_ (plsOf_rep h ms ts ls q _ hq h6 fun m hm => h3 m ?_)
      · unfold plOf at hp
        split at hp
        · cases hp
          exact RepL.mono (fun k hk => ⟨frzAll_ok h ms (.inl hk), rfl⟩) h5
        · rename_i l'
          obtain ⟨x, hx, rfl⟩ := Option.map_eq_some_iff.1 hp
          have h7 := own_rep h hx
          rw [← h5.1] at h7
          refine Rep.mono (fun k hk => ⟨frzAll_ok h ms ?_, rfl⟩) h7
          rcases hk with hk | hk
          · exact .inl hk
          · exact .inr ⟨l', h3 l' (by simp [ownsOf]), x, hx, by rw [h5.1] at hk; exact hk⟩
        · split at hp
          · cases hp
            rename_i e
            rw [show _ = _ from h5]
            exact ⟨none, 0, rfl, Nat.le_refl _, Nat.zero_le _, fun hne => absurd rfl hne⟩
          · cases hp
        · cases hp
      · cases l <;> simp only [ownsOf, List.mem_cons] <;> first | exact hm | exact .inr hm
  | [], _ :: _, _, _, h1, _, _ => by cases h1
  | _ :: _, [], _, _, h1, _, _ => by cases h1

/-- A store into a box. -/
theorem store_box (h : Holds F s G vals w) {b : Nat} {ls : List L} (hb : boxAt s b = some ls) {k : Nat} {new : List L} (hk : k + new.length ≤ ls.length) {vs : List Value} (hv : All2 (HR F s G w) new vs) {cs : Array Value} {et : Nat}
    (hc : w.heap[G.bx b]? = some (.cells cs et (0, 0))) : Holds F (setBox s b (splice ls k new)) G vals (w.setRow (G.bx b) (cs.toList.take k ++ vs ++ cs.toList.drop (k + vs.length)).toArray) ∧
      ∀ nb no, Step nb no s G w (setBox s b (splice ls k new)) G (w.setRow (G.bx b) (cs.toList.take k ++ vs ++ cs.toList.drop (k + vs.length)).toArray) := by
  have hlt : b < s.boxes.length := by
    unfold boxAt at hb
    cases he : s.boxes[b]? with
    | none => simp [he] at hb
    | some y => exact (List.getElem?_eq_some_iff.1 he).1
  have hbx := fun b' => boxAt_set (s := s) (ls := splice ls k new) hlt b'
  generalize hw : w.setRow (G.bx b) (cs.toList.take k ++ vs ++ cs.toList.drop (k + vs.length)).toArray = w'
  have hsz : w'.heap.size = w.heap.size := by rw [← hw]; simp
  have hoth : ∀ j, j ≠ G.bx b → w'.heap[j]? = w.heap[j]? := fun j hj => by rw [← hw]; exact setRow_other w _ _ _ hj
  have hself : w'.heap[G.bx b]? = some (.cells (cs.toList.take k ++ vs ++ cs.toList.drop (k + vs.length)).toArray et (0, 0)) := by rw [← hw]; exact setRow_heap w _ cs _ et _ hc
  have hl1 : ∀ j, Live (setBox s b (splice ls k new)) G j ↔ Live s G j := by
    intro j
    constructor
    · rintro (⟨b', q, hb', rfl⟩ | hr)
      · rw [hbx] at hb'
        split at hb'
        · rename_i e; subst e; exact .inl ⟨b', ls, hb, rfl⟩
        · exact .inl ⟨b', q, hb', rfl⟩
      · exact .inr hr
    · rintro (⟨b', q, hb', rfl⟩ | hr)
      · by_cases e : b' = b
        · exact .inl ⟨b', splice ls k new, by rw [hbx, if_pos e], rfl⟩
        · exact .inl ⟨b', q, by rw [hbx, if_neg e]; exact hb', rfl⟩
      · exact .inr hr
  have hok : ∀ j, okS F s G w j → okS F (setBox s b (splice ls k new)) G w' j ∧ w'.heap[j]? = w.heap[j]? := by
    intro j hj
    exact ⟨⟨by rw [hsz]; exact hj.1, hj.2.1, fun hL => hj.2.2 ((hl1 j).1 hL)⟩, hoth j fun e => hj.2.2 (.inl ⟨b, ls, hb, e.symm⟩)⟩
  have htr : ∀ l v, HR F s G w l v → HR F (setBox s b (splice ls k new)) G w' l v := fun l v hr => HL.tr (G := G) hok (fun _ _ => ⟨rfl, rfl⟩) (fun _ _ => rfl) (fun q x' _ hx => ⟨x', hx, Nat.le_refl _, rfl⟩) hr
  refine ⟨⟨?_, ?_, ?_, ?_, ?_, h.oo, ?_, ?_, ?_⟩, fun nb no => ⟨⟨by rw [← hw]; rfl, by rw [← hw]; rfl, by rw [← hw]; rfl, by rw [hsz]; exact Nat.le_refl _, fun j _ hj => hoth j fun e => hj (.inl ⟨b, ls, hb, e.symm⟩)⟩, fun j hj => .inl ((hl1 j).1 hj), fun _ _ => ⟨rfl, rfl⟩, fun l _ x hx => ⟨⟨x, hx⟩, rfl⟩⟩⟩
  · exact h.slots.imp fun _ _ ha => ha.imp htr
  · intro b' q hb'
    rw [hbx] at hb'
    split at hb'
    · rename_i e
      subst e
      cases hb'
      obtain ⟨cs2, et2, h1, h2⟩ := h.box b' ls hb
      rw [hc] at h1
      cases h1
      refine ⟨_, et, hself, ?_⟩
      have h9 : All2 (HR F s G w) (splice ls k new) (cs.toList.take k ++ vs ++ cs.toList.drop (k + vs.length)) := by
        unfold splice
        rw [show new.length = vs.length from hv.len]
        exact ((h2.take k).app hv).app (h2.drop _)
      simp only [List.toList_toArray]
      exact h9.imp htr
    · rename_i e
      obtain ⟨cs2, et2, h1, h2⟩ := h.box b' q hb'
      exact ⟨cs2, et2, by rw [hoth _ fun e2 => e (h.bb b' b q ls hb' hb e2)]; exact h1, h2.imp htr⟩
  · intro l x hx
    obtain ⟨h0, cs2, h1, h2⟩ := h.own l x hx
    refine ⟨h0, cs2, ownsRow_block h1 fun j hj => hoth j fun e => ?_, h2.mono hok⟩
    subst e
    exact h.bo b ls l x hb hx hj
  · intro b1 b2 q1 q2 h1 h2 e
    rw [hbx] at h1 h2
    split at h1 <;> split at h2
    · rename_i e1 e2; rw [e1, e2]
    · rename_i e1 e2; subst e1; exact h.bb _ _ _ _ hb h2 e
    · rename_i e1 e2; subst e2; exact h.bb _ _ _ _ h1 hb e
    · exact h.bb _ _ _ _ h1 h2 e
  · intro b1 q1 l x h1 hx
    rw [hbx] at h1
    split at h1
    · rename_i e1; subst e1; exact h.bo _ _ l x hb hx
    · exact h.bo _ _ l x h1 hx
  · exact fun j hj => h.nF j ((hl1 j).1 hj)
  · exact fun j hj => by rw [hsz]; exact h.Flt j hj
  · intro b' q hb' cs3 et3 fr3 hc3
    by_cases e : G.bx b' = G.bx b
    · rw [e, hself] at hc3
      cases hc3
      have hbb : b' = b := by
        rw [hbx] at hb'
        split at hb'
        · rename_i e2; exact e2
        · exact h.bb b' b q ls hb' hb e
      subst hbb
      exact h.ty b' ls hb _ _ _ hc
    · rw [hoth _ e] at hc3
      rw [hbx] at hb'
      split at hb'
      · rename_i e2; exact absurd (by rw [e2]) e
      · exact h.ty b' q hb' cs3 et3 fr3 hc3

end
end Go.Proofs.YtghmhkpgdmgepaaV
