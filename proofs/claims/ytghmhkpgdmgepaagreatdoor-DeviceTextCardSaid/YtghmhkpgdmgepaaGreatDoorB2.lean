import Derived.Test.YtghmhkpgdmgepaaGreatDoorB1
import Derived.LoopN
import Derived.WalkSmall
import Derived.Orders
/-! Joined, names shortened: V19, V20, V21, V22, V23, V24. -/
set_option linter.unusedVariables false
set_option linter.unusedSimpArgs false
namespace Go.Proofs.YtghmhkpgdmgepaaGreatDoorV
open Go Go.RowKit
section
variable {P : Program} {F : Nat → Prop} {s s' : St} {G : Gm} {a : Act} {w w' : World} {o : Oper} {v : AV} {vals : List Value}
def coG (G : Gm) (mB : List Nat) (mO : List (Option Nat)) : Gm :=
 {bx := fun b => G.bx (mB.getD b 0), ow := fun l => match mO.getD l none with | some l' => G.ow l' | none => .slice none 0 0, et := fun b => G.et (mB.getD b 0) }
def KeptB (s : St) (G : Gm) (br bx : List Nat) (mB : List Nat) (mO : List (Option Nat)) (j : Nat) : Prop :=
 (∃ b ∈ mB ++ bx, ∃ ls, Aa s b = some ls ∧ G.bx b = j) ∨ (∃ l ∈ somes mO ++ br, ∃ x, Ab s l = some x ∧ (G.ow l).ownBlock = some j)
def FL (F : Nat → Prop) (s : St) (G : Gm) (br bx : List Nat) (mB : List Nat) (mO : List (Option Nat)) (j : Nat) : Prop := F j ∨ (Live s G j ∧ ¬ KeptB s G br bx mB mO j)
theorem Hc : ∀ {l : List (Option Nat)} {i x : Nat}, l[i]? = some (some x) → x ∈ somes l
 | [], i, x, h => by simp at h
 | none :: r, 0, x, h => by simp at h
 | some y :: r, 0, x, h => by simp at h; subst h; simp [somes]
 | none :: r, i + 1, x, h => by simp [somes]; exact Hc (i := i) (by simpa using h)
 | some y :: r, i + 1, x, h => by simp only [somes, List.mem_cons]; exact .inr (Hc (i := i) (by simpa using h))
theorem U3 : ∀ {l : List Nat}, B3 l = true → ∀ {i j x : Nat}, l[i]? = some x → l[j]? = some x → i = j
 | [], _, i, j, x, h, _ => by simp at h
 | y :: r, hn, i, j, x, h1, h2 => by
  simp only [B3, Bool.and_eq_true, Bool.not_eq_true', List.contains_eq_mem, decide_eq_false_iff_not] at hn
  cases i with
  | zero =>
   cases j with
   | zero => rfl
   | succ j => simp at h1 h2; subst h1; exact absurd (List.mem_of_getElem? h2) hn.1
  | succ i =>
   cases j with
   | zero => simp at h1 h2; subst h2; exact absurd (List.mem_of_getElem? h1) hn.1
   | succ j => rw [U3 hn.2 (i := i) (j := j) (by simpa using h1) (by simpa using h2)]
theorem Afd : ∀ {l : List (Option Nat)}, B3 (somes l) = true → ∀ {i j x : Nat}, l[i]? = some (some x) → l[j]? = some (some x) → i = j
 | [], _, i, j, x, h, _ => by simp at h
 | none :: r, hn, i, j, x, h1, h2 => by
  cases i with
  | zero => simp at h1
  | succ i =>
   cases j with
   | zero => simp at h2
   | succ j => rw [Afd (l := r) hn (i := i) (j := j) (by simpa using h1) (by simpa using h2)]
 | some y :: r, hn, i, j, x, h1, h2 => by
  simp only [somes, B3, Bool.and_eq_true, Bool.not_eq_true', List.contains_eq_mem, decide_eq_false_iff_not] at hn
  cases i with
  | zero =>
   cases j with
   | zero => rfl
   | succ j => simp at h1 h2; subst h1; exact absurd (Hc (i := j) h2) hn.1
  | succ i =>
   cases j with
   | zero => simp at h1 h2; subst h2; exact absurd (Hc (i := i) h1) hn.1
   | succ j => rw [Afd hn.2 (i := i) (j := j) (by simpa using h1) (by simpa using h2)]
theorem We {mB : List Nat} {b b' : Nat} (h : bTo mB b b' = true) : mB[b]? = some b' := by
 unfold bTo at h
 split at h
 ·rename_i x e; rw [e]; simp at h; rw [h]
 ·cases h
theorem Ux {mO : List (Option Nat)} {l l' : Nat} (h : isTo mO l l' = true) : mO[l]? = some (some l') := by
 unfold isTo at h
 split at h
 ·rename_i x e; rw [e]; simp at h; rw [h]
 ·cases h
theorem Ban {mO : List (Option Nat)} {l : Nat} (h : isNil mO l = true) : mO[l]? = some none := by
 unfold isNil at h
 split at h
 ·assumption
 ·cases h
theorem Afo (G : Gm) (mB : List Nat) (mO : List (Option Nat)) : ∀ (a b : List (Nat × Nat)), Ps mB a b = true → b.map (ptrV G) = a.map (ptrV (coG G mB mO))
 | [], [], _ => rfl
 | x :: r, y :: q, h => by
  simp only [Ps, Bool.and_eq_true] at h
  obtain ⟨⟨h1, h2⟩, h3⟩ := h
  simp only [List.map_cons, Afo G mB mO r q h3, List.cons.injEq, and_true]
  split at h1
  ·rename_i z hz
   simp at h1 h2
   simp [ptrV, coG, List.getD, hz, h1, h2]
  ·cases h1
 | [], _ :: _, h => by cases h
 | _ :: _, [], h => by cases h
theorem M3 {br bx mB mO} : ∀ {ks : List (List SL)} {bs : List Nat} {out : List (Option (List L))}, coBs s br bx mB mO ks bs = some out → out.length = bs.length ∧ ks.length = bs.length ∧ ∀ (i : Nat) (x : Option (List L)), out[i]? = some x →
  ∃ b ls ls' k, bs[i]? = some b ∧ ks[i]? = some k ∧ Aa s b = some ls ∧ coLs s br bx mB mO k ls = some ls' ∧ x = some ls'
 | [], [], out, h => by cases h; exact ⟨rfl, rfl, fun i x hx => by simp at hx⟩
 | k :: r, b :: q, out, h => by
  simp only [coBs] at h
  obtain ⟨ls, h1, h2⟩ := Option.bind_eq_some_iff.1 h
  obtain ⟨ls', h3, h4⟩ := Option.bind_eq_some_iff.1 h2
  obtain ⟨c, h5, h6⟩ := Option.bind_eq_some_iff.1 h4
  cases h6
  obtain ⟨e1, e2, e3⟩ := M3 h5
  refine ⟨by simp [e1], by simp [e2], fun i x hx => ?_⟩
  cases i with
  | zero => simp at hx; exact ⟨b, ls, ls', k, by simp, by simp, h1, h3, hx.symm⟩
  | succ i =>
   obtain ⟨b', l1, l2, k', f1, f2, f3, f4, f5⟩ := e3 i x (by simpa using hx)
   exact ⟨b', l1, l2, k', by simpa using f1, by simpa using f2, f3, f4, f5⟩
 | [], _ :: _, _, h => by cases h
 | _ :: _, [], _, h => by cases h
theorem F5 : ∀ {ks : List (Option (Nat × Ty))} {ms : List (Option Nat)} {out : List (Option Own)}, coOs s ks ms = some out → out.length = ms.length ∧ ks.length = ms.length ∧ ∀ (i : Nat) (x : Own), out[i]? = some (some x) →
  (∃ k, ks[i]? = some (some k)) ∧ ((∃ l, ms[i]? = some (some l) ∧ Ab s l = some x) ∨ (ms[i]? = some none ∧ x.xs = [] ∧ 0 < x.t.size))
 | [], [], out, h => by cases h; exact ⟨rfl, rfl, fun i x hx => by simp at hx⟩
 | some k :: r, some l :: q, out, h => by
  simp only [coOs] at h
  obtain ⟨y, h1, h2⟩ := Option.bind_eq_some_iff.1 h
  split at h2
  ·obtain ⟨c, h5, h6⟩ := Option.bind_eq_some_iff.1 h2
   cases h6
   obtain ⟨e1, e2, e3⟩ := F5 h5
   refine ⟨by simp [e1], by simp [e2], fun i x hx => ?_⟩
   cases i with
   | zero => simp at hx; subst hx; exact ⟨⟨k, by simp⟩, .inl ⟨l, by simp, h1⟩⟩
   | succ i => simpa using e3 i x (by simpa using hx)
  ·cases h2
 | some k :: r, none :: q, out, h => by
  simp only [coOs] at h
  split at h
  ·rename_i hz
   obtain ⟨c, h5, h6⟩ := Option.bind_eq_some_iff.1 h
   cases h6
   obtain ⟨e1, e2, e3⟩ := F5 h5
   refine ⟨by simp [e1], by simp [e2], fun i x hx => ?_⟩
   cases i with
   | zero => simp at hx; subst hx; exact ⟨⟨k, by simp⟩, .inr ⟨by simp, rfl, hz⟩⟩
   | succ i => simpa using e3 i x (by simpa using hx)
  ·cases h
 | none :: r, m :: q, out, h => by
  simp only [coOs] at h
  obtain ⟨c, h5, h6⟩ := Option.bind_eq_some_iff.1 h
  cases h6
  obtain ⟨e1, e2, e3⟩ := F5 h5
  refine ⟨by simp [e1], by simp [e2], fun i x hx => ?_⟩
  cases i with
  | zero => simp at hx
  | succ i => simpa using e3 i x (by simpa using hx)
 | [], _ :: _, _, h => by cases h
 | some _ :: _, [], _, h => by cases h
 | none :: _, [], _, h => by cases h
theorem Ha {α : Type} {l : List (Option α)} {n i : Nat} {x : α} (h : ((l ++ List.replicate n none)[i]?).bind id = some x) : l[i]? = some (some x) := by
 rw [List.getElem?_append] at h
 split at h
 ·rename_i hi
  rw [List.getElem?_eq_getElem hi] at h ⊢
  simp at h
  rw [h]
 ·rw [List.getElem?_replicate] at h
  split at h
  ·simp at h
  ·simp at h
theorem Holds.weakF {F F' : Nat → Prop} (h : Holds F' s G vals w) (hF : ∀ j, F j → F' j) : Holds F s G vals w := by
 have hok : ∀ k, okS F' s G w k → okS F s G w k ∧ w.heap[k]? = w.heap[k]? := fun k hk => ⟨⟨hk.1, fun e => hk.2.1 (hF k e), hk.2.2⟩, rfl⟩
 have htr : ∀ l v, HR F' s G w l v → HR F s G w l v := fun l v hr => HL.keep hok (fun l x hx => ⟨x, hx, Nat.le_refl _, rfl⟩) hr
 exact ⟨h.slots.imp fun _ _ ha => ha.imp htr, fun b ls hb => by
  obtain ⟨cs, et, h1, h2⟩ := h.box b ls hb
  exact ⟨cs, et, h1, h2.imp htr⟩, fun l x hx => by
  obtain ⟨h0, cs, h1, h2⟩ := h.own l x hx
  exact ⟨h0, cs, h1, h2.mono hok⟩, h.bb, h.bo, h.oo, fun k hk e => h.nF k hk (hF k e), fun k hk => h.Flt k (hF k hk), h.ty, h.gl⟩
theorem Afm {R : L → Value → Prop} {ok : Nat → Prop} {w : World} (hR : ∀ p v, R (.pv p) v → RepL w ok p v) : ∀ {ls : List L} {ps : List PL} {cs : List Value}, Gn ls = some ps → All2 R ls cs → All2 (RepL w ok) ps cs
 | [], ps, cs, h1, h2 => by cases h1; cases h2; exact .nil
 | .pv p :: ls, ps, cs, h1, h2 => by
  simp only [Gn] at h1
  obtain ⟨q, hq, rfl⟩ := Option.map_eq_some_iff.1 h1
  cases h2 with
  | cons h3 h4 => exact .cons (hR _ _ h3) (Afm hR hq h4)
 | .dead :: _, _, _, h1, _ => by cases h1
 | .cst _ :: _, _, _, h1, _ => by cases h1
 | .ptr _ _ :: _, _, _, h1, _ => by cases h1
 | .own _ :: _, _, _, h1, _ => by cases h1
 | .ept _ _ _ _ :: _, _, _, h1, _ => by cases h1
 | .rpt _ :: _, _, _, h1, _ => by cases h1
 | .fn _ _ _ :: _, _, _, h1, _ => by cases h1
 | .ifc _ _ _ :: _, _, _, h1, _ => by cases h1
 | .err _ :: _, _, _, h1, _ => by cases h1
theorem I7 {k : Sk} {n : Nat} {c : Co} (hc : co k s n = some c) : B3 c.mB = true ∧ B3 (somes c.mO) = true ∧ (∀ l ∈ c.br, l ∉ somes c.mO) ∧ (∀ b ∈ c.bx, b ∉ c.mB) ∧
  ∃ as bs os, coAs s c.br c.bx c.mB c.mO k.slots s.slots = some as ∧ coBs s c.br c.bx c.mB c.mO k.boxes c.mB = some bs ∧ coOs s k.owns c.mO = some os ∧ c.s = ⟨as, bs ++ List.replicate (n - bs.length) none, os ++ List.replicate (n - os.length) none⟩ := by
 unfold co Ah6 at hc
 generalize V3 s k.boxes 0 ((J6 k.slots s.slots).flatMap fun x => conB x.1 x.2) (J6 k.slots s.slots) = W at hc
 obtain ⟨mb, zs⟩ := W
 simp only at hc
 generalize brOf zs = br at hc
 generalize bxOf zs = bx at hc
 generalize ((List.range k.boxes.length).map fun b => look b mb b) = mB at hc
 generalize ((List.range k.owns.length).map fun l => look (some l) (zs.flatMap fun x => conO x.1 x.2) l) = mO at hc
 unfold Ah7 at hc
 split at hc
 ·rename_i hcond
  obtain ⟨as, h1, h2⟩ := Option.bind_eq_some_iff.1 hc
  obtain ⟨bs, h3, h4⟩ := Option.bind_eq_some_iff.1 h2
  obtain ⟨os, h5, h6⟩ := Option.bind_eq_some_iff.1 h4
  cases h6
  simp only [Bool.and_eq_true] at hcond
  obtain ⟨⟨⟨c1, c2⟩, c3⟩, c4⟩ := hcond
  refine ⟨c1, c2, fun l hl hm => ?_, fun l hl hm => ?_, as, bs, os, h1, h3, h5, rfl⟩
  ·have := List.all_eq_true.1 c3 l hl
   simp at this
   exact this hm
  ·have := List.all_eq_true.1 c4 l hl
   simp at this
   exact this hm
 ·cases hc
theorem Rc {k : Sk} {n : Nat} {c : Co} (h : Holds F s G vals w) (hc : co k s n = some c) : Holds (FL F s G c.br c.bx c.mB c.mO) c.s (coG G c.mB c.mO) vals w ∧ (∀ j, Live c.s (coG G c.mB c.mO) j → Live s G j) := by
 obtain ⟨hnB, hnO, hdis, hdisB, as, bs, os, hA, hB, hO, hs⟩ := I7 hc
 generalize hbr : c.br = br at *
 generalize hbx : c.bx = bx at *
 generalize hmB : c.mB = mB at *
 generalize hmO : c.mO = mO at *
 obtain ⟨hBl, hBk, hBg⟩ := M3 hB
 obtain ⟨hOl, hOk, hOg⟩ := F5 hO
 have hbox : ∀ b ls, Aa c.s b = some ls → ∃ b' q k', mB[b]? = some b' ∧ Aa s b' = some q ∧ coLs s br bx mB mO k' q = some ls := by
  intro b ls hb
  rw [hs] at hb
  obtain ⟨b', q, ls', k', f1, f2, f3, f4, f5⟩ := hBg b _ (Ha hb)
  cases f5
  exact ⟨b', q, k', f1, f3, f4⟩
 have hown : ∀ l x, Ab c.s l = some x → (∃ l', mO[l]? = some (some l') ∧ Ab s l' = some x) ∨ (mO[l]? = some none ∧ x.xs = [] ∧ 0 < x.t.size) := by
  intro l x hx
  rw [hs] at hx
  exact (hOg l x (Ha hx)).2
 have hGb : ∀ {b b'}, mB[b]? = some b' → (coG G mB mO).bx b = G.bx b' := fun hb => by simp [coG, List.getD, hb]
 have hGo : ∀ {l l'}, mO[l]? = some (some l') → (coG G mB mO).ow l = G.ow l' := fun hl => by simp [coG, List.getD, hl]
 have hGn : ∀ {l}, mO[l]? = some none → (coG G mB mO).ow l = .slice none 0 0 := fun hl => by simp [coG, List.getD, hl]
 have hlive : ∀ j, Live c.s (coG G mB mO) j → Live s G j ∧ KeptB s G br bx mB mO j := by
  rintro j (⟨b, ls, hb, rfl⟩ | ⟨l, x, hx, hj⟩)
  ·obtain ⟨b', q, k', f1, f2, f3⟩ := hbox b ls hb
   rw [hGb f1]
   exact ⟨.inl ⟨b', q, f2, rfl⟩, .inl ⟨b', List.mem_append_left _ (List.mem_of_getElem? f1), q, f2, rfl⟩⟩
  ·rcases hown l x hx with ⟨l', f1, f2⟩ | ⟨f1, f2, f3⟩
   ·rw [hGo f1] at hj
    exact ⟨.inr ⟨l', x, f2, hj⟩, .inr ⟨l', List.mem_append_left _ (Hc f1), x, f2, hj⟩⟩
   ·rw [hGn f1] at hj
    simp [Value.ownBlock] at hj
 have hok : ∀ j, okS F s G w j → okS (FL F s G br bx mB mO) c.s (coG G mB mO) w j ∧ w.heap[j]? = w.heap[j]? := by
  intro j hj
  refine ⟨⟨hj.1, ?_, fun hL => hj.2.2 (hlive j hL).1⟩, rfl⟩
  rintro (h1 | h1)
  ·exact hj.2.1 h1
  ·exact hj.2.2 h1.1
 have hok2 : ∀ l x, l ∈ br → Ab s l = some x → ∀ j, (okS F s G w j ∨ (G.ow l).ownBlock = some j) → okS (FL F s G br bx mB mO) c.s (coG G mB mO) w j ∧ w.heap[j]? = w.heap[j]? := by
  rintro l x hl hx j (hj | hj)
  ·exact hok j hj
  ·have hLj : Live s G j := .inr ⟨l, x, hx, hj⟩
   refine ⟨⟨h.lt hLj, ?_, ?_⟩, rfl⟩
   ·rintro (h1 | h1)
    ·exact h.nF j hLj h1
    ·exact h1.2 (.inr ⟨l, List.mem_append_right _ hl, x, hx, hj⟩)
   ·rintro (⟨b, ls, hb, rfl⟩ | ⟨l2, y, hy, hj2⟩)
    ·obtain ⟨b', q, k', f1, f2, f3⟩ := hbox b ls hb
     rw [hGb f1] at hj
     exact h.bo b' q l x f2 hx hj
    ·rcases hown l2 y hy with ⟨l', f1, f2⟩ | ⟨f1, f2, f3⟩
     ·rw [hGo f1] at hj2
      have := h.oo l l' x y j hx f2 hj hj2
      subst this
      exact hdis l hl (Hc f1)
     ·rw [hGn f1] at hj2
      simp [Value.ownBlock] at hj2
 have hLend : ∀ (b k n : Nat) (ls : List L) (ps : List PL), b ∈ bx → Aa s b = some ls → Gn ((ls.drop k).take n) = some ps → RP w (okS (FL F s G br bx mB mO) c.s (coG G mB mO) w) ps (.pointer (some ⟨G.bx b, k, none⟩)) := by
  intro b k n ls ps hmb hls hps
  obtain ⟨cs, et, k1, k2⟩ := h.box b ls hls
  have hLj : Live s G (G.bx b) := .inl ⟨b, ls, hls, rfl⟩
  refine ⟨⟨G.bx b, k, none⟩, (cs.toList.drop k).take n, rfl, rfl, ⟨h.lt hLj, ?_, ?_⟩, (I5 k1 k).take _, ?_⟩
  ·rintro (h1 | h1)
   ·exact h.nF _ hLj h1
   ·exact h1.2 (.inl ⟨b, List.mem_append_right _ hmb, ls, hls, rfl⟩)
  ·rintro (⟨b2, ls2, hb2, e⟩ | ⟨l2, y, hy, e⟩)
   ·obtain ⟨b', q, k', f1, f2, f3⟩ := hbox b2 ls2 hb2
    rw [hGb f1] at e
    have := h.bb b' b q ls f2 hls e
    subst this
    exact hdisB b' hmb (List.mem_of_getElem? f1)
   ·rcases hown l2 y hy with ⟨l', f1, f2⟩ | ⟨f1, f2, f3⟩
    ·rw [hGo f1] at e
     exact h.bo b ls l' y hls f2 e
    ·rw [hGn f1] at e
     simp [Value.ownBlock] at e
  ·exact (Afm (R := HR F s G w) (ok := okS F s G w) (fun _ _ h => h) hps ((k2.drop k).take n)).imp fun _ _ h => h.mono hok
 have hL : ∀ sl l l' v, coL s br bx mB mO sl l = some l' → HR F s G w l v → HR (FL F s G br bx mB mO) c.s (coG G mB mO) w l' v := by
  intro sl l l' v hco hr
  unfold coL at hco
  split at hco
  ·cases hco; exact hr.one
  ·split at hco
   ·cases hco
    exact RepL.mono hok hr
   ·cases hco
  ·rename_i t m
   split at hco
   ·cases hco
   ·rename_i hmem
    obtain ⟨x, hx, h2⟩ := Option.bind_eq_some_iff.1 hco
    split at h2
    ·rename_i et
     cases h2
     exact Rep.mono (hok2 m x (by simpa using hmem) hx) (Lj h hx hr.1)
    ·cases h2
  ·split at hco
   ·cases hco
    rw [show v = _ from hr]
    exact ⟨none, 0, rfl, Nat.le_refl _, Nat.zero_le _, fun hne => absurd rfl hne⟩
   ·cases hco
  ·split at hco
   ·cases hco; exact hr
   ·cases hco
  ·rename_i b q b' q'
   split at hco
   ·rename_i hcond
    cases hco
    simp only [Bool.and_eq_true, beq_iff_eq] at hcond
    obtain ⟨c1, rfl⟩ := hcond
    show v = _
    rw [hGb (We c1)]
    exact hr
   ·cases hco
  ·split at hco
   ·rename_i hto
    cases hco
    exact ⟨by rw [hGo (Ux hto)]; exact hr.1, hr.2⟩
   ·cases hco
  ·split at hco
   ·rename_i hni
    cases hco
    exact ⟨.inl (by rw [hGn (Ban hni)]; exact hr), by rw [show v = _ from hr]; rfl⟩
   ·cases hco
  ·rename_i l1 q1 z1 l2 i2 q2 z2
   split at hco
   ·rename_i hcond
    cases hco
    simp only [Bool.and_eq_true, beq_iff_eq] at hcond
    obtain ⟨⟨c1, rfl⟩, rfl⟩ := hcond
    obtain ⟨g, n1, cc, e, e2, e3⟩ := hr
    refine ⟨g, n1, cc, by rw [hGo (Ux c1)]; exact e, e2, fun x hx => ?_⟩
    rcases hown l1 x hx with ⟨l', f1, f2⟩ | ⟨f1, f2, f3⟩
    ·rw [Ux c1] at f1
     cases f1
     exact e3 x f2
    ·rw [Ux c1] at f1
     cases f1
   ·cases hco
  ·split at hco
   ·cases hco
    obtain ⟨ad, cs, e, hs1, ho1, hc1, hr1⟩ := hr
    exact ⟨ad, cs, e, hs1, (hok _ ho1).1, hc1, hr1.imp fun _ _ h => h.mono hok⟩
   ·cases hco
  ·rename_i ts b k
   split at hco
   ·cases hco
   ·rename_i hmem
    obtain ⟨ls, hls, h5⟩ := Option.bind_eq_some_iff.1 hco
    obtain ⟨ps, hps, h6⟩ := Option.bind_eq_some_iff.1 h5
    split at h6
    ·cases h6
     obtain ⟨cs, et, k1, k2⟩ := h.box b ls hls
     have hmb : b ∈ bx := by simpa using hmem
     have hLj : Live s G (G.bx b) := .inl ⟨b, ls, hls, rfl⟩
     refine ⟨⟨G.bx b, k, none⟩, (cs.toList.drop k).take ts.length, hr, rfl, ⟨h.lt hLj, ?_, ?_⟩, (I5 k1 k).take _, ?_⟩
     ·rintro (h1 | h1)
      ·exact h.nF _ hLj h1
      ·exact h1.2 (.inl ⟨b, List.mem_append_right _ hmb, ls, hls, rfl⟩)
     ·rintro (⟨b2, ls2, hb2, e⟩ | ⟨l2, y, hy, e⟩)
      ·obtain ⟨b', q, k', f1, f2, f3⟩ := hbox b2 ls2 hb2
       rw [hGb f1] at e
       have := h.bb b' b q ls f2 hls e
       subst this
       exact hdisB b' hmb (List.mem_of_getElem? f1)
      ·rcases hown l2 y hy with ⟨l', f1, f2⟩ | ⟨f1, f2, f3⟩
       ·rw [hGo f1] at e
        exact h.bo b ls l' y hls f2 e
       ·rw [hGn f1] at e
        simp [Value.ownBlock] at e
     ·exact (Afm (R := HR F s G w) (ok := okS F s G w) (fun _ _ h => h) hps ((k2.drop k).take ts.length)).imp fun _ _ h => h.mono hok
    ·cases h6
  ·rename_i f x y f' x' y'
   split at hco
   ·rename_i hcond
    cases hco
    simp only [Bool.and_eq_true, beq_iff_eq] at hcond
    obtain ⟨⟨rfl, c2⟩, c3⟩ := hcond
    show v = _
    rw [show v = _ from hr, Afo G mB mO _ _ c2, Afo G mB mO _ _ c3]
   ·cases hco
  ·split at hco
   ·rename_i hcond
    cases hco
    simp only [Bool.and_eq_true, beq_iff_eq] at hcond
    obtain ⟨⟨rfl, rfl⟩, _⟩ := hcond
    obtain ⟨cs, hr1, e⟩ := hr
    exact ⟨cs, hr1.imp fun _ _ h => h.mono hok, e⟩
   ·cases hco
  ·cases hco; exact hr
  ·cases hco; exact hr
  ·cases hco
   obtain ⟨cs, hr1, e⟩ := hr
   exact ⟨_, _, e⟩
  ·rename_i b t b' t' z
   split at hco
   ·rename_i hcond
    cases hco
    simp only [Bool.and_eq_true, beq_iff_eq] at hcond
    obtain ⟨c1, rfl⟩ := hcond
    have hmb : mB[b]? = some b' := by
     unfold bTo at c1
     split at c1
     ·rename_i y hy; rw [hy, beq_iff_eq.1 c1]
     ·cases c1
    refine ⟨?_, ?_⟩
    ·rw [hGb hmb]; exact hr.1
    ·show G.et (mB.getD b 0) = t
     rw [List.getD_eq_getElem?_getD, hmb]
     exact hr.2
   ·cases hco
  ·split at hco
   ·rename_i hcond
    cases hco
    simp only [Bool.and_eq_true, beq_iff_eq] at hcond
    obtain ⟨c1, rfl⟩ := hcond
    show v = _
    rw [hGb (We c1)]
    exact hr
   ·cases hco
  ·split at hco
   ·rename_i hcond
    cases hco
    simp only [Bool.and_eq_true, beq_iff_eq] at hcond
    obtain ⟨⟨c1, rfl⟩, rfl⟩ := hcond
    show v = _
    rw [hGb (We c1)]
    exact hr
   ·cases hco
  ·rename_i z t' ps
   split at hco
   ·rename_i hcond
    cases hco
    simp only [Bool.and_eq_true, beq_iff_eq] at hcond
    obtain ⟨rfl, _⟩ := hcond
    cases z with
    | true => exact hr
    | false =>
     obtain ⟨u, e, hr1⟩ := hr
     exact ⟨u, e, hr1.mono hok⟩
   ·cases hco
  ·cases hco; exact hr
  ·rename_i t ts t' b k
   split at hco
   ·cases hco
   ·rename_i hmem
    obtain ⟨ls, hls, h5⟩ := Option.bind_eq_some_iff.1 hco
    obtain ⟨ps, hps, h6⟩ := Option.bind_eq_some_iff.1 h5
    simp only [Bool.not_eq_true', Bool.not_eq_false, Bool.and_eq_true, beq_iff_eq] at hmem
    obtain ⟨hmb, rfl⟩ := hmem
    split at h6
    ·cases h6
     exact ⟨_, hr, hLend b k ts.length ls ps (by simpa using hmb) hls hps⟩
    ·cases h6
  ·rename_i z ps
   split at hco
   ·cases hco
    cases z with
    | true => exact hr
    | false => exact RP.mono hok hr
   ·cases hco
  ·cases hco; exact hr
  ·cases hco
 have hLs : ∀ (ks : List SL) (ls ls' : List L) (vs : List Value), coLs s br bx mB mO ks ls = some ls' → All2 (HR F s G w) ls vs → All2 (HR (FL F s G br bx mB mO) c.s (coG G mB mO) w) ls' vs := by
  intro ks
  induction ks with
  | nil =>
   intro ls ls' vs hco hv
   cases ls with
   | nil => cases hco; exact (by cases hv; exact .nil)
   | cons l ls => cases hco
  | cons k ks ih =>
   intro ls ls' vs hco hv
   cases ls with
   | nil => cases hco
   | cons l ls =>
    simp only [coLs] at hco
    obtain ⟨x, h1, h2⟩ := Option.bind_eq_some_iff.1 hco
    obtain ⟨y, h3, h4⟩ := Option.bind_eq_some_iff.1 h2
    cases h4
    cases hv with
    | cons hv1 hv2 => exact .cons (hL _ _ _ _ h1 hv1) (ih _ _ _ h3 hv2)
 have hAs : ∀ (ks : List SA) (as as' : List AV) (vs : List Value), coAs s br bx mB mO ks as = some as' → All2 (HA (HR F s G w)) as vs → All2 (HA (HR (FL F s G br bx mB mO) c.s (coG G mB mO) w)) as' vs := by
  intro ks
  induction ks with
  | nil =>
   intro ls ls' vs hco hv
   cases ls with
   | nil => cases hco; exact (by cases hv; exact .nil)
   | cons l ls => cases hco
  | cons k ks ih =>
   intro ls ls' vs hco hv
   cases ls with
   | nil => cases hco
   | cons l ls =>
    simp only [coAs] at hco
    obtain ⟨x, h1, h2⟩ := Option.bind_eq_some_iff.1 hco
    obtain ⟨y, h3, h4⟩ := Option.bind_eq_some_iff.1 h2
    cases h4
    cases hv with
    | cons hv1 hv2 =>
     refine .cons ?_ (ih _ _ _ h3 hv2)
     unfold coA at h1
     split at h1
     ·cases h1; trivial
     ·obtain ⟨z, h5, rfl⟩ := Option.map_eq_some_iff.1 h1
      exact hL _ _ _ _ h5 hv1
     ·obtain ⟨z, h5, rfl⟩ := Option.map_eq_some_iff.1 h1
      obtain ⟨cs, e, h6⟩ := hv1
      exact ⟨cs, e, hLs _ _ _ _ h5 h6⟩
     ·cases h1
 refine ⟨⟨?_, ?_, ?_, ?_, ?_, ?_, ?_, ?_, ?_, h.glOf (fun _ _ _ => rfl) fun j hj => .inl (hlive j hj).1⟩, fun j hj => (hlive j hj).1⟩
 ·have : c.s.slots = as := by rw [hs]
  rw [this]
  exact hAs _ _ _ _ hA h.slots
 ·intro b ls hb
  obtain ⟨b', q, k', f1, f2, f3⟩ := hbox b ls hb
  obtain ⟨cs, et, h1, h2⟩ := h.box b' q f2
  exact ⟨cs, et, by rw [hGb f1]; exact h1, hLs _ _ _ _ f3 h2⟩
 ·intro l x hx
  rcases hown l x hx with ⟨l', f1, f2⟩ | ⟨f1, f2, f3⟩
  ·obtain ⟨h0, cs, h1, h2⟩ := h.own l' x f2
   exact ⟨h0, cs, by rw [hGo f1]; exact h1, h2.mono hok⟩
  ·refine ⟨f3, [], ?_, ?_⟩
   ·rw [hGn f1, f2]
    exact World.ownsRow_nil _ _ _ _
   ·rw [f2]
    exact .nil
 ·intro b b' ls ls' hb hb' e
  obtain ⟨b1, q1, k1, f1, f2, f3⟩ := hbox b ls hb
  obtain ⟨b2, q2, k2, g1, g2, g3⟩ := hbox b' ls' hb'
  rw [hGb f1, hGb g1] at e
  have := h.bb b1 b2 q1 q2 f2 g2 e
  subst this
  exact U3 hnB f1 g1
 ·intro b ls l x hb hx e
  obtain ⟨b1, q1, k1, f1, f2, f3⟩ := hbox b ls hb
  rw [hGb f1] at e
  rcases hown l x hx with ⟨l', g1, g2⟩ | ⟨g1, g2, g3⟩
  ·rw [hGo g1] at e
   exact h.bo b1 q1 l' x f2 g2 e
  ·rw [hGn g1] at e
   simp [Value.ownBlock] at e
 ·intro l l' x x' j hx hx' e e'
  rcases hown l x hx with ⟨m, f1, f2⟩ | ⟨f1, f2, f3⟩
  ·rcases hown l' x' hx' with ⟨m', g1, g2⟩ | ⟨g1, g2, g3⟩
   ·rw [hGo f1] at e
    rw [hGo g1] at e'
    have := h.oo m m' x x' j f2 g2 e e'
    subst this
    exact Afd hnO f1 g1
   ·rw [hGn g1] at e'
    simp [Value.ownBlock] at e'
  ·rw [hGn f1] at e
   simp [Value.ownBlock] at e
 ·intro j hj hF
  obtain ⟨h1, h2⟩ := hlive j hj
  rcases hF with hF | hF
  ·exact h.nF j h1 hF
  ·exact hF.2 h2
 ·rintro j (hF | hF)
  ·exact h.Flt j hF
  ·exact h.lt hF.1
 ·intro b ls hb
  obtain ⟨b', q, k', f1, f2, f3⟩ := hbox b ls hb
  have e2 : (coG G mB mO).et b = G.et b' := by simp [coG, List.getD, f1]
  rw [hGb f1, e2]
  exact h.ty b' q f2
end
def AV.ls : AV → List L
 | .dead => []
 | .cv c => c.leaves
 | .tup cs => cs.flatMap CV.leaves
theorem HC.imp_ls {R S : L → Value → Prop} {c : CV} {v : Value} (f : ∀ l ∈ c.leaves, ∀ v, R l v → S l v) (h : HC R c v) : HC S c v := by
 cases c with
 | lf l => exact f l (by simp [CV.leaves]) _ h
 | agg ls => obtain ⟨cs, rfl, h⟩ := h; exact ⟨cs, rfl, h.imp_mem fun a b ha hr => f a ha b hr⟩
theorem HA.imp_ls {R S : L → Value → Prop} {a : AV} {v : Value} (f : ∀ l ∈ a.ls, ∀ v, R l v → S l v) (h : HA R a v) : HA S a v := by
 cases a with
 | dead => trivial
 | cv c => exact HC.imp_ls f h
 | tup cs =>
  obtain ⟨vs, rfl, h⟩ := h
  exact ⟨vs, rfl, h.imp_mem fun a b ha hr => HC.imp_ls (fun l hl => f l (List.mem_flatMap.2 ⟨a, ha, hl⟩)) hr⟩
def pos : List Nat → Nat → Option Nat
 | [], _ => none
 | x :: r, b => if x = b then some 0 else (pos r b).map (· + 1)
theorem Io : ∀ {r : List Nat} {b i : Nat}, pos r b = some i → r[i]? = some b
 | [], _, _, h => by cases h
 | x :: r, b, i, h => by
  unfold pos at h
  split at h
  ·rename_i e; cases h; simp [e]
  ·obtain ⟨j, hj, rfl⟩ := Option.map_eq_some_iff.1 h
   simpa using Io hj
theorem Atz : ∀ {r : List Nat} {b : Nat}, pos r b = none → ∀ i : Nat, r[i]? ≠ some b
 | [], _, _, i, hi => by simp at hi
 | x :: r, b, h, i, hi => by
  unfold pos at h
  split at h
  ·cases h
  ·rename_i e
   have h2 : pos r b = none := by simpa using h
   cases i with
   | zero => simp at hi; exact e hi
   | succ i => exact Atz h2 i (by simpa using hi)
theorem Afn {r : List Nat} (hn : B3 r = true) {b i : Nat} (h : r[i]? = some b) : pos r b = some i := by
 cases hp : pos r b with
 | none => exact absurd h (Atz hp i)
 | some j => rw [U3 hn (Io hp) h]
section
variable {P : Program} {F : Nat → Prop} {s s' : St} {G : Gm} {a : Act} {w w' : World} {v : AV} {vals : List Value}
theorem V8 {p : L → Bool} (h : s.all p = true) : ∀ x ∈ s.slots, ∀ l ∈ x.ls, p l = true := by
 intro x hx l hl
 have h2 := Qg h x hx
 cases x with
 | dead => cases hl
 | cv c => exact List.all_eq_true.1 h2 l hl
 | tup cs =>
  obtain ⟨c, hc, hl⟩ := List.mem_flatMap.1 hl
  exact List.all_eq_true.1 (List.all_eq_true.1 h2 c hc) l hl
theorem Wq : ∀ {oB : List (Option Nat)} {rB : List Nat}, chkB s oB rB = true → oB.length = rB.length ∧ ∀ (i x : Nat), rB[i]? = some x → oB[i]? = some (some x) ∨ (oB[i]? = some none ∧ Bp s x = true ∧ N0 ≤ x)
 | [], [], _ => ⟨rfl, fun i x h => by simp at h⟩
 | some b :: r, y :: q, h => by
  simp only [chkB, Bool.and_eq_true, beq_iff_eq] at h
  obtain ⟨rfl, h2⟩ := h
  obtain ⟨e, f⟩ := Wq h2
  refine ⟨by simp [e], fun i x hi => ?_⟩
  cases i with
  | zero => simp at hi; subst hi; exact .inl (by simp)
  | succ i => simpa using f i x (by simpa using hi)
 | none :: r, y :: q, h => by
  simp only [chkB, Bool.and_eq_true, decide_eq_true_eq] at h
  obtain ⟨⟨h1, h3⟩, h2⟩ := h
  obtain ⟨e, f⟩ := Wq h2
  refine ⟨by simp [e], fun i x hi => ?_⟩
  cases i with
  | zero => simp at hi; subst hi; exact .inr ⟨by simp, h1, h3⟩
  | succ i => simpa using f i x (by simpa using hi)
 | [], _ :: _, h => by cases h
 | some _ :: _, [], h => by cases h
 | none :: _, [], h => by cases h
theorem Ws : ∀ {oB : List (Option Nat)} {rB : List Nat}, chkO s oB rB = true → oB.length = rB.length ∧ ∀ (i x : Nat), rB[i]? = some x → oB[i]? = some (some x) ∨ (oB[i]? = some none ∧ De s x = true ∧ N0 ≤ x)
 | [], [], _ => ⟨rfl, fun i x h => by simp at h⟩
 | some b :: r, y :: q, h => by
  simp only [chkO, Bool.and_eq_true, beq_iff_eq] at h
  obtain ⟨rfl, h2⟩ := h
  obtain ⟨e, f⟩ := Ws h2
  refine ⟨by simp [e], fun i x hi => ?_⟩
  cases i with
  | zero => simp at hi; subst hi; exact .inl (by simp)
  | succ i => simpa using f i x (by simpa using hi)
 | none :: r, y :: q, h => by
  simp only [chkO, Bool.and_eq_true, decide_eq_true_eq] at h
  obtain ⟨⟨h1, h3⟩, h2⟩ := h
  obtain ⟨e, f⟩ := Ws h2
  refine ⟨by simp [e], fun i x hi => ?_⟩
  cases i with
  | zero => simp at hi; subst hi; exact .inr ⟨by simp, h1, h3⟩
  | succ i => simpa using f i x (by simpa using hi)
 | [], _ :: _, h => by cases h
 | some _ :: _, [], h => by cases h
 | none :: _, [], h => by cases h
theorem Wu {o : St} : ∀ {oO : List (Option Nat)} {i0 : Nat}, chkT s o i0 oO = true → ∀ (i l : Nat) (x : Own), oO[i]? = some (some l) → Ab o (i0 + i) = some x → ∃ y, Ab s l = some y ∧ y.t = x.t
 | [], _, _, i, l, x, h, _ => by simp at h
 | some m :: r, i0, hc, i, l, x, h, hx => by
  simp only [chkT, Bool.and_eq_true] at hc
  cases i with
  | zero =>
   simp at h
   subst h
   have h1 := hc.1
   rw [show Ab o i0 = some x from hx] at h1
   simp only at h1
   split at h1
   ·rename_i y hy; exact ⟨y, hy, by simpa using h1⟩
   ·cases h1
  | succ i => exact Wu hc.2 i l x (by simpa using h) (by rw [Nat.add_assoc, Nat.add_comm 1 i]; exact hx)
 | none :: r, i0, hc, i, l, x, h, hx => by
  simp only [chkT] at hc
  cases i with
  | zero => simp at h
  | succ i => exact Wu hc i l x (by simpa using h) (by rw [Nat.add_assoc, Nat.add_comm 1 i]; exact hx)
theorem Aun {o : St} {f : L → L} : ∀ {rB : List Nat} {s : St} {i0 b : Nat} {ls : List L}, B3 rB = true → Aa (Bw s o f i0 rB) b = some ls →
  (∃ i q, rB[i]? = some b ∧ Aa o (i0 + i) = some q ∧ ls = q.map f) ∨ ((∀ i : Nat, rB[i]? ≠ some b) ∧ Aa s b = some ls)
 | [], s, i0, b, ls, _, h => .inr ⟨fun i hi => by simp at hi, h⟩
 | x :: r, s, i0, b, ls, hn, h => by
  simp only [B3, Bool.and_eq_true, Bool.not_eq_true', List.contains_eq_mem, decide_eq_false_iff_not] at hn
  rcases Aun (rB := r) hn.2 h with ⟨i, q, h1, h2, h3⟩ | ⟨h1, h2⟩
  ·exact .inl ⟨i + 1, q, by simpa using h1, by rw [Nat.add_comm i 1, ← Nat.add_assoc]; exact h2, h3⟩
  ·unfold Aa at h2
   simp only [List.getElem?_set] at h2
   split at h2
   ·rename_i e
    subst e
    split at h2
    ·simp only [Option.bind_some, id] at h2
     obtain ⟨q, hq, rfl⟩ := Option.map_eq_some_iff.1 h2
     exact .inl ⟨0, q, by simp, hq, rfl⟩
    ·simp at h2
   ·rename_i e
    refine .inr ⟨fun i hi => ?_, h2⟩
    cases i with
    | zero => simp at hi; exact e hi
    | succ i => exact h1 i (by simpa using hi)
theorem Vs {o : St} {f : L → L} : ∀ {rB : List Nat} {s : St} {i0 : Nat}, (Bw s o f i0 rB).owns = s.owns ∧ (Bw s o f i0 rB).slots = s.slots
 | [], _, _ => ⟨rfl, rfl⟩
 | x :: r, s, i0 => by
  rw [Bw]
  exact Vs (rB := r)
theorem Px {o : St} : ∀ {rO : List Nat} {s : St} {i0 : Nat}, (Ca s o i0 rO).boxes = s.boxes ∧ (Ca s o i0 rO).slots = s.slots
 | [], _, _ => ⟨rfl, rfl⟩
 | x :: r, s, i0 => by
  rw [Ca]
  exact Px (rO := r)
theorem Auq {o : St} : ∀ {rO : List Nat} {s : St} {i0 l : Nat} {x : Own}, B3 rO = true → Ab (Ca s o i0 rO) l = some x →
  (∃ i, rO[i]? = some l ∧ Ab o (i0 + i) = some x) ∨ ((∀ i : Nat, rO[i]? ≠ some l) ∧ Ab s l = some x)
 | [], s, i0, b, ls, _, h => .inr ⟨fun i hi => by simp at hi, h⟩
 | m :: r, s, i0, l, x, hn, h => by
  simp only [B3, Bool.and_eq_true, Bool.not_eq_true', List.contains_eq_mem, decide_eq_false_iff_not] at hn
  rcases Auq (rO := r) hn.2 h with ⟨i, h1, h2⟩ | ⟨h1, h2⟩
  ·exact .inl ⟨i + 1, by simpa using h1, by rw [Nat.add_comm i 1, ← Nat.add_assoc]; exact h2⟩
  ·unfold Ab As at h2
   simp only [List.getElem?_set] at h2
   split at h2
   ·rename_i e
    subst e
    split at h2
    ·exact .inl ⟨0, by simp, h2⟩
    ·simp at h2
   ·rename_i e
    refine .inr ⟨fun i hi => ?_, h2⟩
    cases i with
    | zero => simp at hi; exact e hi
    | succ i => exact h1 i (by simpa using hi)
theorem Tj {ok ok' : Nat → Prop} : ∀ {t : Ty} {x : t.den} {cs : List Value}, Dq t = true → Rep w ok t x cs → Rep w ok' t x cs
 | .int _, _, _, _, h => by unfold Rep at h ⊢; exact h
 | .bool, _, _, _, h => by unfold Rep at h ⊢; exact h
 | .str, _, _, _, h => by unfold Rep at h ⊢; exact h
 | .nil, _, _, _, h => by unfold Rep at h ⊢; exact h
 | .any, _, _, _, h => by unfold Rep at h ⊢; exact h
 | .slice e, _, _, hf, _ => by cases hf
 | .cons a b, _, _, hf, h => by
  simp only [Dq, Bool.and_eq_true] at hf
  unfold Rep at h ⊢
  obtain ⟨c0, c1, rfl, h2, h3⟩ := h
  exact ⟨c0, c1, rfl, Tj hf.1 h2, Tj hf.2 h3⟩
theorem Aa0 : ∀ {t : Ty} {x : t.den}, Dq t = true → ∀ p ∈ flat t x, Dq p.t = true
 | .int _, _, h, p, hp => by simp [flat] at hp; subst hp; rfl
 | .bool, _, h, p, hp => by simp [flat] at hp; subst hp; rfl
 | .str, _, h, p, hp => by simp [flat] at hp; subst hp; rfl
 | .nil, _, h, p, hp => by simp [flat] at hp
 | .any, _, h, p, hp => by simp [flat] at hp; subst hp; rfl
 | .slice _, _, h, p, hp => by cases h
 | .cons a b, _, h, p, hp => by
  simp only [Dq, Bool.and_eq_true] at h
  simp only [flat, List.mem_append] at hp
  rcases hp with hp | hp
  ·exact Aa0 h.1 p hp
  ·exact Aa0 h.2 p hp
theorem A5h {ok ok' : Nat → Prop} {t : Ty} {xs : List t.den} {cs : List Value} (hf : Dq t = true) (h : RepRow w ok t xs cs) : RepRow w ok' t xs cs := by
 refine All2.imp_mem h fun p v hp hr => ?_
 obtain ⟨x, _, hx⟩ := List.mem_flatMap.1 hp
 exact Tj (Aa0 hf p hx) hr
def retV (vs : List Value) : Value := match vs with | [v] => v | l => .tuple l.toArray
theorem Bb7 {R : L → Value → Prop} {as : List AV} {vs : List Value} (h : All2 (HA R) as vs) {v : AV} (hv : Iq as = some v) : HA R v (retV vs) := by
 have key : ∀ (as : List AV) (vs : List Value) (cs : List CV), All2 (HA R) as vs → (as.foldr (fun a r => match a with | .cv c => r.map fun q => c :: q | _ => none) (some [])) = some cs → All2 (HC R) cs vs := by
  intro as
  induction as with
  | nil => intro vs cs h1 h2; cases h2; cases h1; exact .nil
  | cons a as ih =>
   intro vs cs h1 h2
   simp only [List.foldr_cons] at h2
   cases h1 with
   | cons h3 h4 =>
    split at h2
    ·obtain ⟨q, hq, rfl⟩ := Option.map_eq_some_iff.1 h2
     exact .cons h3 (ih _ _ h4 hq)
    ·cases h2
 unfold Iq at hv
 split at hv
 ·cases hv
  cases h with
  | cons h1 h2 => cases h2; exact h1
 ·rename_i hne
  obtain ⟨cs, hcs, rfl⟩ := Option.map_eq_some_iff.1 hv
  have h3 := key as vs cs h hcs
  unfold retV
  split
  ·rename_i u
   exfalso
   cases h with
   | cons h1 h2 => cases h2; exact hne _ rfl
  ·exact ⟨_, rfl, by simpa using h3⟩
theorem Afx {G1 G2 : Gm} {rB : List Nat} (hG : ∀ (b b' : Nat), rB[b]? = some b' → G2.bx b' = G1.bx b) : ∀ {x y : List (Nat × Nat)}, Jv rB x = some y → x.map (ptrV G1) = y.map (ptrV G2)
 | [], y, h => by cases h; rfl
 | p :: r, y, h => by
  simp only [Jv] at h
  obtain ⟨b, hb, h2⟩ := Option.bind_eq_some_iff.1 h
  obtain ⟨q, hq, rfl⟩ := Option.map_eq_some_iff.1 h2
  simp [ptrV, hG _ _ hb, Afx hG hq]
def Gz (s : St) (G : Gm) (oB oO : List (Option Nat)) (j : Nat) : Prop :=
 (∃ b ls, Aa s b = some ls ∧ (∀ i : Nat, oB[i]? ≠ some (some b)) ∧ G.bx b = j) ∨ (∃ l x, Ab s l = some x ∧ (∀ i : Nat, oO[i]? ≠ some (some l)) ∧ (G.ow l).ownBlock = some j)
theorem own_len {e : TypeId} {e' : TypeId} {sz sz' n n' : Nat} {v : Value} {cs cs' : List Value} {w w' : World} (h : w.ownsRow 0 e sz v n cs) (h' : w'.ownsRow 0 e' sz' v n' cs') : n = n' := by
 rcases h.2 with ⟨e1, e2⟩ | ⟨g, c, cur, e1, _⟩ <;> rcases h'.2 with ⟨f1, f2⟩ | ⟨g', c', cur', f1, _⟩
 ·omega
 ·rw [e1] at f1; cases f1
 ·rw [e1] at f1; cases f1
 ·rw [e1] at f1; cases f1; rfl
theorem Ayi (h : Holds F s G a.tmps.toList w) {s0 : St} {G0 : Gm} {F1 : Nat → Prop} {o : St} {G1 : Gm} {rv : List Value} (h1 : Holds F1 o G1 rv w') {nb no : Nat} (hst : Step nb no s0 G0 w o G1 w')
  {oB oO : List (Option Nat)} {rB rO : List Nat} {d : Nat}
  (hA : ∀ (i b : Nat), oB[i]? = some (some b) → i < nb ∧ G0.bx i = G.bx b ∧ G0.et i = G.et b) (hB : ∀ (i l : Nat), oO[i]? = some (some l) → i < no ∧ ∀ x, Ab s0 i = some x → G0.ow i = G.ow l)
  (hL0 : ∀ j, Live s0 G0 j → Live s G j) (hF : ∀ j, F j → F1 j) (hF2 : (∀ j, Gz s G oB oO j → F1 j) ∨ Bg o = true) (hold : ∀ j, Gz s G oB oO j → ¬ Live s0 G0 j)
  (hb : Dm s o d oB oO rB rO = some s') : ∃ G2, Holds F s' G2 (a.put (some d) (retV rv)).tmps.toList w' ∧ Step N0 N0 s G w s' G2 w' := by
 unfold Dm at hb
 split at hb
 ·rename_i hcond
  simp only [Bool.and_eq_true] at hcond
  obtain ⟨⟨⟨⟨hcB, hcO⟩, hcT⟩, hnB⟩, hnO⟩ := hcond
  obtain ⟨hlB, hgB⟩ := Wq hcB
  obtain ⟨hlO, hgO⟩ := Ws hcO
  have hgT := Wu (o := o) (i0 := 0) hcT
  simp only [Nat.zero_add] at hgT
  obtain ⟨rvA, hrv, rfl⟩ := Option.map_eq_some_iff.1 hb
  generalize hs3 : Ca (Bw s o (renL o rB rO) 0 rB) o 0 rO = s3
  have hsl : s3.slots = s.slots := by rw [← hs3, Px.2, Vs.2]
  have hbox : ∀ {b ls}, Aa s3 b = some ls → (∃ i q, rB[i]? = some b ∧ Aa o i = some q ∧ ls = q.map (renL o rB rO)) ∨ ((∀ i : Nat, rB[i]? ≠ some b) ∧ Aa s b = some ls) := by
   intro b ls hb2
   rw [← hs3] at hb2
   have e : Aa (Ca (Bw s o (renL o rB rO) 0 rB) o 0 rO) b = Aa (Bw s o (renL o rB rO) 0 rB) b := by unfold Aa; rw [Px.1]
   rw [e] at hb2
   have := Aun hnB hb2
   simpa using this
  have hown : ∀ {l x}, Ab s3 l = some x → (∃ i, rO[i]? = some l ∧ Ab o i = some x) ∨ ((∀ i : Nat, rO[i]? ≠ some l) ∧ Ab s l = some x) := by
   intro l x hx
   rw [← hs3] at hx
   have := Auq hnO hx
   simp only [Nat.zero_add] at this
   rcases this with h2 | ⟨h2, h3⟩
   ·exact .inl h2
   ·refine .inr ⟨h2, ?_⟩
    unfold Ab at h3 ⊢
    rw [Vs.1] at h3
    exact h3
  let G2 : Gm := { bx := fun b => match pos rB b with | some i => G1.bx i | none => G.bx b, ow := fun l => match pos rO l with | some i => if (Ab o i).isSome then G1.ow i else G.ow l | none => G.ow l, et := fun b => match pos rB b with | some i => G1.et i | none => G.et b }
  have g2b : ∀ (i b : Nat), rB[i]? = some b → G2.bx b = G1.bx i := fun i b hi => by simp only [G2, Afn hnB hi]
  have g2b' : ∀ b, (∀ i : Nat, rB[i]? ≠ some b) → G2.bx b = G.bx b := fun b hi => by
   simp only [G2]
   split
   ·rename_i i hp; exact absurd (Io hp) (hi i)
   ·rfl
  have g2o : ∀ (i l : Nat) (x : Own), rO[i]? = some l → Ab o i = some x → G2.ow l = G1.ow i := fun i l x hi hx => by simp only [G2, Afn hnO hi, hx, Option.isSome_some, if_true]
  have g2o' : ∀ l, (∀ i : Nat, rO[i]? ≠ some l) → G2.ow l = G.ow l := fun l hi => by
   simp only [G2]
   split
   ·rename_i i hp; exact absurd (Io hp) (hi i)
   ·rfl
  have g2bOld : ∀ b, (∀ i : Nat, rB[i]? = some b → oB[i]? = some none → False) → G2.bx b = G.bx b := by
   intro b hb2
   simp only [G2]
   split
   ·rename_i i hp
    have hi := Io hp
    rcases hgB i b hi with h2 | ⟨h8, h3, _⟩
    ·obtain ⟨h4, h5, _⟩ := hA i b h2
     rw [(hst.gb i h4).1, h5]
    ·exact (hb2 i hi h8).elim
   ·rfl
  have g2e : ∀ (i b : Nat), rB[i]? = some b → G2.et b = G1.et i := fun i b hi => by simp only [G2, Afn hnB hi]
  have g2e' : ∀ b, (∀ i : Nat, rB[i]? ≠ some b) → G2.et b = G.et b := fun b hi => by
   simp only [G2]
   split
   ·rename_i i hp; exact absurd (Io hp) (hi i)
   ·rfl
  have g2eOld : ∀ b, (∀ i : Nat, rB[i]? = some b → oB[i]? = some none → False) → G2.et b = G.et b := by
   intro b hb2
   simp only [G2]
   split
   ·rename_i i hp
    have hi := Io hp
    rcases hgB i b hi with h2 | ⟨h8, h3, _⟩
    ·obtain ⟨h4, _, h5⟩ := hA i b h2
     rw [(hst.gb i h4).2, h5]
    ·exact (hb2 i hi h8).elim
   ·rfl
  have g2oOld : ∀ l, (∀ i : Nat, rO[i]? = some l → oO[i]? = some none → False) → G2.ow l = G.ow l := by
   intro l hl
   simp only [G2]
   split
   ·rename_i i hp
    have hi := Io hp
    rcases hgO i l hi with h2 | ⟨h8, h3, _⟩
    ·split
     ·rename_i hsome
      obtain ⟨x, hx⟩ := Option.isSome_iff_exists.1 hsome
      obtain ⟨h4, h5⟩ := hB i l h2
      obtain ⟨⟨y, hy⟩, h6⟩ := hst.go i h4 x hx
      rw [h6, h5 y hy]
     ·rfl
    ·exact (hl i hi h8).elim
   ·rfl
  have hsz := hst.keeps.size
  have npB : ∀ {b : Nat}, (∀ i : Nat, rB[i]? ≠ some b) → ∀ i : Nat, oB[i]? ≠ some (some b) := by
   intro b f1 i hi
   have hlt : i < rB.length := by rw [← hlB]; exact (List.getElem?_eq_some_iff.1 hi).1
   have hri : rB[i]? = some rB[i] := List.getElem?_eq_getElem hlt
   rcases hgB i _ hri with h2 | ⟨h2, _⟩
   ·rw [hi] at h2; cases h2; exact f1 i hri
   ·rw [hi] at h2; cases h2
  have npO : ∀ {l : Nat}, (∀ i : Nat, rO[i]? ≠ some l) → ∀ i : Nat, oO[i]? ≠ some (some l) := by
   intro b f1 i hi
   have hlt : i < rO.length := by rw [← hlO]; exact (List.getElem?_eq_some_iff.1 hi).1
   have hri : rO[i]? = some rO[i] := List.getElem?_eq_getElem hlt
   rcases hgO i _ hri with h2 | ⟨h2, _⟩
   ·rw [hi] at h2; cases h2; exact f1 i hri
   ·rw [hi] at h2; cases h2
  have hlive : ∀ j, Live s3 G2 j → Gz s G oB oO j ∨ Live o G1 j := by
   rintro j (⟨b, ls, hb2, rfl⟩ | ⟨l, x, hx, hj⟩)
   ·rcases hbox hb2 with ⟨i, q, f1, f2, f3⟩ | ⟨f1, f2⟩
    ·exact .inr (.inl ⟨i, q, f2, (g2b i b f1).symm⟩)
    ·exact .inl (.inl ⟨b, ls, f2, npB f1, (g2b' b f1).symm⟩)
   ·rcases hown hx with ⟨i, f1, f2⟩ | ⟨f1, f2⟩
    ·rw [g2o i l x f1 f2] at hj
     exact .inr (.inr ⟨i, x, f2, hj⟩)
    ·rw [g2o' l f1] at hj
     exact .inl (.inr ⟨l, x, f2, npO f1, hj⟩)
  have holdL : ∀ j, Gz s G oB oO j → Live s G j := by
   rintro j (⟨b, ls, hb2, _, rfl⟩ | ⟨l, x, hx, _, hj⟩)
   ·exact .inl ⟨b, ls, hb2, rfl⟩
   ·exact .inr ⟨l, x, hx, hj⟩
  have hfresh : ∀ j, Live o G1 j → Live s G j ∨ w.heap.size ≤ j := fun j hj => (hst.fresh j hj).imp (hL0 j) id
  have hblk : ∀ j, j < w.heap.size → ¬ Live s0 G0 j → w'.heap[j]? = w.heap[j]? := fun j hj hn => hst.keeps.block j hj hn
  have hapart : ∀ j, Gz s G oB oO j → ¬ Live o G1 j := by
   intro j hj hL
   rcases hst.fresh j hL with h2 | h2
   ·exact hold j hj h2
   ·have := h.lt (holdL j hj); omega
  have hokOld : ∀ j, okS F s G w j → okS F s3 G2 w' j ∧ w'.heap[j]? = w.heap[j]? := by
   intro j hj
   refine ⟨⟨Nat.lt_of_lt_of_le hj.1 hsz, hj.2.1, fun hL => ?_⟩, hblk j hj.1 fun e => hj.2.2 (hL0 j e)⟩
   rcases hlive j hL with h2 | h2
   ·exact hj.2.2 (holdL j h2)
   ·rcases hfresh j h2 with h3 | h3
    ·exact hj.2.2 h3
    ·have := hj.1; omega
  have hlenO : ∀ (q : Nat) (x' : Own), (∀ i : Nat, rO[i]? = some q → oO[i]? = some none → False) → Ab s3 q = some x' → ∃ x : Own, Ab s q = some x ∧ x.xs.length ≤ x'.xs.length ∧ x.t.size = x'.t.size := by
   intro q x' hq hx'
   rcases hown hx' with ⟨i, f1, f2⟩ | ⟨f1, f2⟩
   ·rcases hgO i q f1 with h2 | ⟨h8, h3, _⟩
    ·obtain ⟨y, hy, hyt⟩ := hgT i q x' h2 f2
     obtain ⟨h4, h5⟩ := hB i q h2
     obtain ⟨⟨z, hz⟩, h6⟩ := hst.go i h4 x' f2
     obtain ⟨_, cs1, k1, _⟩ := h.own q y hy
     obtain ⟨_, cs2, k2, _⟩ := h1.own i x' f2
     rw [h6, h5 z hz] at k2
     exact ⟨y, hy, Nat.le_of_eq (own_len k1 k2), by rw [hyt]⟩
    ·exact (hq i f1 h8).elim
   ·exact ⟨x', f2, Nat.le_refl _, rfl⟩
  have hfB : ∀ (i b : Nat), rB[i]? = some b → oB[i]? = some none → Bp s b = true := by
   intro i b hi hn
   rcases hgB i b hi with h2 | ⟨_, h3, _⟩
   ·rw [hn] at h2; cases h2
   ·exact h3
  have hfO : ∀ (i b : Nat), rO[i]? = some b → oO[i]? = some none → De s b = true := by
   intro i b hi hn
   rcases hgO i b hi with h2 | ⟨_, h3, _⟩
   ·rw [hn] at h2; cases h2
   ·exact h3
  have hOldLeaf : ∀ l v, (∀ x, Bp s x = true → l.noB x = true) → (∀ x, De s x = true → l.noO x = true) → HR F s G w l v → HR F s3 G2 w' l v := by
   intro l v hnb hno hr
   refine HL.tr (G := G) hokOld (fun b hb2 => have hx : ∀ i : Nat, rB[i]? = some b → oB[i]? = some none → False := fun i hi hn => ?_; ⟨g2bOld b hx, g2eOld b hx⟩) (fun q hq => g2oOld q fun i hi hn => ?_) (fun q x' hq hx' => hlenO q x' (fun i hi hn => ?_) hx') hr
   ·rw [hnb b (hfB i b hi hn)] at hb2; cases hb2
   ·rw [hno q (hfO i q hi hn)] at hq; cases hq
   ·rw [hno q (hfO i q hi hn)] at hq; cases hq
  have hpvNew : ∀ {p : PL} {v : Value}, (Bg o = true → Dq p.t = true) → RepL w' (okS F1 o G1 w') p v → RepL w' (okS F s3 G2 w') p v := by
   intro p v hfl hr
   rcases hF2 with hF3 | hF3
   ·refine hr.mono fun j hj => ⟨⟨hj.1, fun e => hj.2.1 (hF j e), fun hL => ?_⟩, rfl⟩
    rcases hlive j hL with h2 | h2
    ·exact hj.2.1 (hF3 j h2)
    ·exact hj.2.2 h2
   ·exact Tj (hfl hF3) hr
  have hNewLeaf : ∀ l v, (Bg o = true → On l = true) → HR F1 o G1 w' l v → HR F s3 G2 w' (renL o rB rO l) v := by
   intro l v hfl hr
   cases l with
   | dead => exact hr
   | pv p => exact hpvNew (fun e => hfl e) hr
   | cst k => exact hr
   | ptr b k =>
    simp only [renL]
    split
    ·rename_i b' hb2
     show v = _
     rw [g2b _ _ hb2]
     exact hr
    ·exact hr.one
   | own l =>
    simp only [renL]
    split
    ·rename_i x l' hx hl
     exact ⟨by rw [g2o _ _ _ hl hx]; exact hr.1, hr.2⟩
    ·exact hr.one
   | ept l i k z =>
    simp only [renL]
    split
    ·rename_i x l' hx hl
     obtain ⟨g, n, c, e, e2, e3⟩ := hr
     refine ⟨g, n, c, by rw [g2o _ _ _ hl hx]; exact e, e2, fun x' hx' => ?_⟩
     rcases hown (show Ab s3 l' = some x' from hx') with ⟨i', f1, f2⟩ | ⟨f1, f2⟩
     ·have := U3 hnO f1 hl
      subst this
      exact e3 x' f2
     ·exact absurd hl (f1 l)
    ·exact hr.one
   | rpt ps =>
    rcases hF2 with hF3 | hF3
    ·obtain ⟨ad, cs, e, hs1, ho1, hc1, hr1⟩ := hr
     have hmv : ∀ j, okS F1 o G1 w' j → okS F s3 G2 w' j ∧ w'.heap[j]? = w'.heap[j]? := fun j hj => ⟨⟨hj.1, fun e => hj.2.1 (hF j e), fun hL => by
      rcases hlive j hL with h2 | h2
      ·exact hj.2.1 (hF3 j h2)
      ·exact hj.2.2 h2⟩, rfl⟩
     exact ⟨ad, cs, e, hs1, (hmv _ ho1).1, hc1, hr1.imp fun _ _ h => h.mono hmv⟩
    ·cases hfl hF3
   | fn f x y =>
    simp only [renL]
    split
    ·rename_i x' y' hx hy
     show v = _
     rw [show v = _ from hr, Afx g2b hx, Afx g2b hy]
    ·exact hr.one
   | ifc t ps g =>
    obtain ⟨cs, hr1, e⟩ := hr
    refine ⟨cs, hr1.imp_mem fun p u hp h => hpvNew (fun e => ?_) h, e⟩
    have := hfl e
    simp only [On] at this
    exact List.all_eq_true.1 this p hp
   | err b => exact hr
   | bld b t z =>
    simp only [renL]
    split
    ·rename_i b' hb2
     refine ⟨?_, ?_⟩
     ·rw [g2b _ _ hb2]; exact hr.1
     ·rw [g2e _ _ hb2]; exact hr.2
    ·exact hr.one
   | sb b n =>
    simp only [renL]
    split
    ·rename_i b' hb2
     show v = _
     rw [g2b _ _ hb2]
     exact hr
    ·exact hr.one
   | ifp t b k =>
    simp only [renL]
    split
    ·rename_i b' hb2
     show v = _
     rw [g2b _ _ hb2]
     exact hr
    ·exact hr.one
   | erp z t ps => cases z with
    | true => exact hr
    | false =>
     rcases hF2 with hF3 | hF3
     ·have hmv : ∀ j, okS F1 o G1 w' j → okS F s3 G2 w' j ∧ w'.heap[j]? = w'.heap[j]? := fun j hj => ⟨⟨hj.1, fun e => hj.2.1 (hF j e), fun hL => by
       rcases hlive j hL with h2 | h2
       ·exact hj.2.1 (hF3 j h2)
       ·exact hj.2.2 h2⟩, rfl⟩
      obtain ⟨u, e, hr1⟩ := hr
      exact ⟨u, e, hr1.mono hmv⟩
     ·cases hfl hF3
   | orp z ps => cases z with
    | true => exact hr
    | false =>
     rcases hF2 with hF3 | hF3
     ·have hmv : ∀ j, okS F1 o G1 w' j → okS F s3 G2 w' j ∧ w'.heap[j]? = w'.heap[j]? := fun j hj => ⟨⟨hj.1, fun e => hj.2.1 (hF j e), fun hL => by
       rcases hlive j hL with h2 | h2
       ·exact hj.2.1 (hF3 j h2)
       ·exact hj.2.2 h2⟩, rfl⟩
      exact RP.mono hmv hr
     ·cases hfl hF3
  have hflS : ∀ x ∈ o.slots, ∀ l ∈ x.ls, Bg o = true → On l = true := by
   intro x hx l hl e
   simp only [Bg, Bool.and_eq_true] at e
   exact V8 e.1 x hx l hl
  have hflB : ∀ {b ls}, Aa o b = some ls → ∀ l ∈ ls, Bg o = true → On l = true := by
   intro b ls hb2 l hl e
   simp only [Bg, Bool.and_eq_true] at e
   exact Hu e.1 hb2 l hl
  have hflO : ∀ {l x}, Ab o l = some x → Bg o = true → Dq x.t = true := by
   intro l x hx e
   simp only [Bg, Bool.and_eq_true] at e
   unfold Ab at hx
   cases he : o.owns[l]? with
   | none => simp [he] at hx
   | some y =>
    simp [he] at hx
    subst hx
    have := List.all_eq_true.1 e.2 _ (List.mem_of_getElem? he)
    simpa using this
  have hnoB : ∀ x, Bp s x = true → s.all (L.noB x) = true := fun x hx => (Uq hx).2.2
  have hnoO : ∀ x, De s x = true → s.all (L.noO x) = true := fun x hx => (Aq7 hx).2.2
  have hH : Holds F s3 G2 a.tmps.toList w' := by
   refine ⟨?_, ?_, ?_, ?_, ?_, ?_, ?_, ?_, ?_, fun x hx => ⟨fun hL => (hlive _ hL).elim (fun h2 => (h.gl x hx).1 (holdL _ h2)) (h1.gl x hx).1, (h1.gl x hx).2⟩⟩
   ·rw [hsl]
    exact h.slots.imp_mem fun x u hx ha => HA.imp_ls (fun l hl v hr => hOldLeaf l v (fun y hy => V8 (hnoB y hy) x hx l hl) (fun y hy => V8 (hnoO y hy) x hx l hl) hr) ha
   ·intro b ls hb2
    rcases hbox hb2 with ⟨i, q, f1, f2, rfl⟩ | ⟨f1, f2⟩
    ·obtain ⟨cs, et, k1, k2⟩ := h1.box i q f2
     refine ⟨cs, et, by rw [g2b i b f1]; exact k1, All2.map_left (k2.imp_mem fun l u hl hr => hNewLeaf l u (hflB f2 l hl) hr)⟩
    ·obtain ⟨cs, et, k1, k2⟩ := h.box b ls f2
     refine ⟨cs, et, ?_, k2.imp_mem fun l u hl hr => hOldLeaf l u (fun y hy => Hu (hnoB y hy) f2 l hl) (fun y hy => Hu (hnoO y hy) f2 l hl) hr⟩
     have hOL : Gz s G oB oO (G.bx b) := .inl ⟨b, ls, f2, npB f1, rfl⟩
     rw [g2b' b f1, hblk _ (Array.getElem?_eq_some_iff.1 k1).1 (hold _ hOL)]
     exact k1
   ·intro l x hx
    rcases hown hx with ⟨i, f1, f2⟩ | ⟨f1, f2⟩
    ·obtain ⟨h0, cs, k1, k2⟩ := h1.own i x f2
     refine ⟨h0, cs, by rw [g2o i l x f1 f2]; exact k1, ?_⟩
     rcases hF2 with hF3 | hF3
     ·exact All2.imp_mem k2 fun p u hp hr => by
       refine RepL.mono (fun j hj => ⟨⟨hj.1, fun e => hj.2.1 (hF j e), fun hL => ?_⟩, rfl⟩) hr
       rcases hlive j hL with h2 | h2
       ·exact hj.2.1 (hF3 j h2)
       ·exact hj.2.2 h2
     ·exact A5h (hflO f2 hF3) k2
    ·obtain ⟨h0, cs, k1, k2⟩ := h.own l x f2
     refine ⟨h0, cs, ?_, k2.mono hokOld⟩
     rw [g2o' l f1]
     exact Hi k1 fun j hj => hblk j (k1.lt j hj).2 (hold j (.inr ⟨l, x, f2, npO f1, hj⟩))
   ·intro b b' ls ls' hb2 hb2' e
    rcases hbox hb2 with ⟨i, q, f1, f2, f3⟩ | ⟨f1, f2⟩ <;> rcases hbox hb2' with ⟨i', q', g1, g2, g3⟩ | ⟨g1, g2⟩
    ·rw [g2b i b f1, g2b i' b' g1] at e
     have := h1.bb i i' q q' f2 g2 e
     subst this
     rw [f1] at g1
     cases g1
     rfl
    ·rw [g2b i b f1, g2b' b' g1] at e
     exact absurd (.inl ⟨i, q, f2, e⟩) (hapart (G.bx b') (.inl ⟨b', ls', g2, npB g1, rfl⟩))
    ·rw [g2b' b f1, g2b i' b' g1] at e
     exact absurd (.inl ⟨i', q', g2, e.symm⟩) (hapart (G.bx b) (.inl ⟨b, ls, f2, npB f1, rfl⟩))
    ·rw [g2b' b f1, g2b' b' g1] at e
     exact h.bb b b' ls ls' f2 g2 e
   ·intro b ls l x hb2 hx e
    rcases hbox hb2 with ⟨i, q, f1, f2, f3⟩ | ⟨f1, f2⟩ <;> rcases hown hx with ⟨i', g1, g2⟩ | ⟨g1, g2⟩
    ·rw [g2b i b f1, g2o i' l x g1 g2] at e
     exact h1.bo i q i' x f2 g2 e
    ·rw [g2b i b f1, g2o' l g1] at e
     exact hapart (G1.bx i) (.inr ⟨l, x, g2, npO g1, e⟩) (.inl ⟨i, q, f2, rfl⟩)
    ·rw [g2b' b f1, g2o i' l x g1 g2] at e
     exact hapart (G.bx b) (.inl ⟨b, ls, f2, npB f1, rfl⟩) (.inr ⟨i', x, g2, e⟩)
    ·rw [g2b' b f1, g2o' l g1] at e
     exact h.bo b ls l x f2 g2 e
   ·intro l l' x x' j hx hx' e e'
    have hOL : ∀ {l : Nat} {x : Own}, (∀ i : Nat, rO[i]? ≠ some l) → Ab s l = some x → (G.ow l).ownBlock = some j → Gz s G oB oO j := fun {l x} g1 g2 e => .inr ⟨l, x, g2, npO g1, e⟩
    rcases hown hx with ⟨i, f1, f2⟩ | ⟨f1, f2⟩ <;> rcases hown hx' with ⟨i', g1, g2⟩ | ⟨g1, g2⟩
    ·rw [g2o i l x f1 f2] at e
     rw [g2o i' l' x' g1 g2] at e'
     have := h1.oo i i' x x' j f2 g2 e e'
     subst this
     rw [f1] at g1
     cases g1
     rfl
    ·rw [g2o i l x f1 f2] at e
     rw [g2o' l' g1] at e'
     exact absurd (.inr ⟨i, x, f2, e⟩) (hapart j (hOL g1 g2 e'))
    ·rw [g2o' l f1] at e
     rw [g2o i' l' x' g1 g2] at e'
     exact absurd (.inr ⟨i', x', g2, e'⟩) (hapart j (hOL f1 f2 e))
    ·rw [g2o' l f1] at e
     rw [g2o' l' g1] at e'
     exact h.oo l l' x x' j f2 g2 e e'
   ·intro j hj hF'
    rcases hlive j hj with h2 | h2
    ·exact h.nF j (holdL j h2) hF'
    ·exact h1.nF j h2 (hF j hF')
   ·exact fun j hj => Nat.lt_of_lt_of_le (h.Flt j hj) hsz
   ·intro b ls hb2
    rcases hbox hb2 with ⟨i, q, f1, f2, _⟩ | ⟨f1, f2⟩
    ·rw [g2b i b f1, g2e i b f1]
     exact h1.ty i q f2
    ·obtain ⟨cs, et, k1, k2⟩ := h.box b ls f2
     have hOL : Gz s G oB oO (G.bx b) := .inl ⟨b, ls, f2, npB f1, rfl⟩
     rw [g2b' b f1, g2e' b f1]
     intro cs3 et3 fr3 hc3
     rw [hblk _ (Array.getElem?_eq_some_iff.1 k1).1 (hold _ hOL)] at hc3
     exact h.ty b ls f2 cs3 et3 fr3 hc3
  have hrvH : HA (HR F s3 G2 w') rvA (retV rv) := by
   refine Bb7 (All2.map_left (h1.slots.imp_mem fun x u hx ha => ?_)) hrv
   have h7 := HA.imp_ls (S := fun l v => HR F s3 G2 w' (renL o rB rO l) v) (fun l hl v hr => hNewLeaf l v (hflS x hx l hl) hr) ha
   exact HA.map (R := fun l v => HR F s3 G2 w' (renL o rB rO l) v) (S := HR F s3 G2 w') (g := renL o rB rO) (fun _ _ h => h) h7
  refine ⟨G2, hH.put (some d) hrvH, Step.trans (s1 := s3) ⟨⟨hst.keeps.os, hst.keeps.tape, hst.keeps.output, hsz, fun j hj hn => hblk j hj fun e => hn (hL0 j e)⟩, fun j hj => ?_, fun b hb2 => have hx : ∀ i : Nat, rB[i]? = some b → oB[i]? = some none → False := fun i hi hn => ?_; ⟨g2bOld b hx, g2eOld b hx⟩, fun l hl x hx => ?_⟩ (Step.put _ _)⟩
  ·rcases hlive j hj with h2 | h2
   ·exact .inl (holdL j h2)
   ·exact hfresh j h2
  ·rcases hgB i b hi with h2 | ⟨_, _, h3⟩
   ·rw [hn] at h2; cases h2
   ·omega
  ·have hne : ∀ i : Nat, rO[i]? = some l → oO[i]? = some none → False := by
    intro i hi hn
    rcases hgO i l hi with h2 | ⟨_, _, h3⟩
    ·rw [hn] at h2; cases h2
    ·omega
   obtain ⟨y, hy, _⟩ := hlenO l x hne hx
   exact ⟨⟨y, hy⟩, g2oOld l hne⟩
 ·cases hb
end
theorem P2 : ∀ {ts : List Ty} {ps : List PL}, Bq ts ps = true → ps.length = ts.length
 | [], [], _ => rfl
 | t :: ts, p :: ps, h => by simp only [Bq, Bool.and_eq_true] at h; simp [P2 h.2]
 | [], _ :: _, h => by cases h
 | _ :: _, [], h => by cases h
theorem Vd : ∀ {a b : List (Nat × Nat)}, Lk a b = true → a = b
 | [], [], _ => rfl
 | x :: r, y :: q, h => by
  simp only [Lk, Bool.and_eq_true, beq_iff_eq] at h
  obtain ⟨⟨h1, h2⟩, h3⟩ := h
  rw [Vd h3]
  congr 1
  exact Prod.ext h1 h2
 | [], _ :: _, h => by cases h
 | _ :: _, [], h => by cases h
theorem Ail {k : SL} {l : L} {ps : List PL} (h : decL k l = some ps) : ps.length = k.tys.length ∧ ∀ r, encL k (ps ++ r) = l := by
 unfold decL at h
 split at h
 ·cases h; exact ⟨rfl, fun r => rfl⟩
 ·split at h
  ·cases h; exact ⟨rfl, fun r => rfl⟩
  ·cases h
 ·split at h
  ·rename_i e; cases h; exact ⟨rfl, fun r => by rw [NilK.of_eqb e]; rfl⟩
  ·cases h
 ·split at h
  ·rename_i e
   cases h
   simp only [Bool.and_eq_true, beq_iff_eq] at e
   exact ⟨rfl, fun r => by rw [e.1, e.2]; rfl⟩
  ·cases h
 ·split at h
  ·rename_i e
   cases h
   simp only [beq_iff_eq] at e
   exact ⟨rfl, fun r => by rw [e]; rfl⟩
  ·cases h
 ·split at h
  ·rename_i e
   cases h
   simp only [Bool.and_eq_true, beq_iff_eq] at e
   obtain ⟨⟨rfl, rfl⟩, rfl⟩ := e
   exact ⟨rfl, fun r => rfl⟩
  ·cases h
 ·split at h
  ·rename_i e
   cases h
   have := P2 e
   exact ⟨this, fun r => by simp [encL, ← this]⟩
  ·cases h
 ·split at h
  ·rename_i e
   cases h
   simp only [Bool.and_eq_true, beq_iff_eq] at e
   obtain ⟨⟨rfl, e2⟩, e3⟩ := e
   exact ⟨rfl, fun r => by rw [Vd e2, Vd e3]; rfl⟩
  ·cases h
 ·split at h
  ·rename_i e
   cases h
   simp only [Bool.and_eq_true, beq_iff_eq] at e
   obtain ⟨⟨rfl, rfl⟩, e3⟩ := e
   have := P2 e3
   exact ⟨this, fun r => by simp [encL, ← this]⟩
  ·cases h
 ·cases h; exact ⟨rfl, fun r => rfl⟩
 ·split at h
  ·rename_i e
   cases h
   simp only [Bool.and_eq_true, beq_iff_eq] at e
   exact ⟨rfl, fun r => by rw [e.1, e.2]; rfl⟩
  ·cases h
 ·split at h
  ·rename_i e
   cases h
   simp only [Bool.and_eq_true, beq_iff_eq] at e
   exact ⟨rfl, fun r => by rw [e.1, e.2]; rfl⟩
  ·cases h
 ·split at h
  ·rename_i e
   cases h
   simp only [Bool.and_eq_true, beq_iff_eq] at e
   obtain ⟨⟨rfl, rfl⟩, rfl⟩ := e
   exact ⟨rfl, fun r => rfl⟩
  ·cases h
 ·split at h
  ·rename_i e
   cases h
   simp only [Bool.and_eq_true, beq_iff_eq] at e
   obtain ⟨rfl, e3⟩ := e
   have := P2 e3
   exact ⟨by simp [SL.tys, this], fun r => by simp [encL, ← this]⟩
  ·cases h
 ·split at h
  ·rename_i e
   cases h
   have := P2 e
   exact ⟨by simp [SL.tys, this], fun r => by simp [encL, ← this]⟩
  ·cases h
 ·cases h
theorem Xi : ∀ {ks : List SL} {ls : List L} {ps : List PL}, Nn ks ls = some ps → ps.length = (Hp ks).length ∧ ∀ r, Nq ks (ps ++ r) = ls
 | [], [], ps, h => by cases h; exact ⟨rfl, fun r => rfl⟩
 | k :: ks, l :: ls, ps, h => by
  simp only [Nn] at h
  obtain ⟨x, h1, h2⟩ := Option.bind_eq_some_iff.1 h
  obtain ⟨y, h3, h4⟩ := Option.bind_eq_some_iff.1 h2
  cases h4
  obtain ⟨e1, e2⟩ := Ail h1
  obtain ⟨f1, f2⟩ := Xi h3
  refine ⟨by simp [Hp, e1, f1], fun r => ?_⟩
  simp only [Nq, List.append_assoc, e2]
  rw [← e1, List.drop_left, f2]
 | [], _ :: _, _, h => by cases h
 | _ :: _, [], _, h => by cases h
theorem A14 {k : SA} {l : AV} {ps : List PL} (h : decA k l = some ps) : ps.length = (Hp k.leaves).length ∧ ∀ r, encA k (ps ++ r) = l := by
 unfold decA at h
 split at h
 ·cases h; exact ⟨rfl, fun r => rfl⟩
 ·obtain ⟨e1, e2⟩ := Ail h
  exact ⟨by simp [SA.leaves, Hp, e1], fun r => by simp [encA, e2]⟩
 ·obtain ⟨e1, e2⟩ := Xi h
  exact ⟨e1, fun r => by simp [encA, e2]⟩
 ·cases h
theorem Aij : ∀ {ks : List SA} {ls : List AV} {ps : List PL}, R8 ks ls = some ps → ps.length = (L0 ks).length ∧ ∀ r, Bc ks (ps ++ r) = ls
 | [], [], ps, h => by cases h; exact ⟨rfl, fun r => rfl⟩
 | k :: ks, l :: ls, ps, h => by
  simp only [R8] at h
  obtain ⟨x, h1, h2⟩ := Option.bind_eq_some_iff.1 h
  obtain ⟨y, h3, h4⟩ := Option.bind_eq_some_iff.1 h2
  cases h4
  obtain ⟨e1, e2⟩ := A14 h1
  obtain ⟨f1, f2⟩ := Aij h3
  refine ⟨by simp [L0, e1, f1], fun r => ?_⟩
  simp only [Bc, List.append_assoc, e2]
  rw [← e1, List.drop_left, f2]
 | [], _ :: _, _, h => by cases h
 | _ :: _, [], _, h => by cases h
theorem U4 {α : Type} {l : List (Option α)} (h : l.all Option.isNone = true) (i : Nat) : (l[i]?).bind id = none := by
 cases he : l[i]? with
 | none => rfl
 | some x =>
  have := List.all_eq_true.1 h x (List.mem_of_getElem? he)
  cases x with
  | none => rfl
  | some y => cases this
theorem Aik : ∀ {ks : List (List SL)} {ls : List (Option (List L))} {ps : List PL}, Nm ks ls = some ps → ps.length = (P1 ks).length ∧ ∀ (r : List PL) (n i : Nat), ((Kq ks (ps ++ r) ++ List.replicate n none)[i]?).bind id = (ls[i]?).bind id
 | [], ls, ps, h => by
  unfold Nm at h
  split at h
  ·rename_i e
   cases h
   refine ⟨rfl, fun r n i => ?_⟩
   rw [U4 (l := ls) e]
   exact U4 (by simp [Kq]) i
  ·cases h
 | k :: ks, [], ps, h => by cases h
 | k :: ks, none :: ls, ps, h => by cases h
 | k :: ks, some l :: ls, ps, h => by
  simp only [Nm] at h
  obtain ⟨x, h1, h2⟩ := Option.bind_eq_some_iff.1 h
  obtain ⟨y, h3, h4⟩ := Option.bind_eq_some_iff.1 h2
  cases h4
  obtain ⟨e1, e2⟩ := Xi h1
  obtain ⟨f1, f2⟩ := Aik h3
  refine ⟨by simp [P1, e1, f1], fun r n i => ?_⟩
  simp only [Kq, List.append_assoc, e2]
  rw [← e1, List.drop_left]
  cases i with
  | zero => simp
  | succ i => simpa using f2 r n i
theorem Wc {t : Ty} {xs : t.den} : asTy t ⟨t, xs⟩ = some xs := by simp [asTy]
theorem Xj : ∀ {ks : List (Option (Nat × Ty))} {ls : List (Option Own)} {ps : List PL}, Jb ks ls = some ps → ps.length = (L3 ks).length ∧ ∀ (r : List PL) (n i : Nat), ((F6 ks (ps ++ r) ++ List.replicate n none)[i]?).bind id = (ls[i]?).bind id
 | [], ls, ps, h => by
  unfold Jb at h
  split at h
  ·rename_i e
   cases h
   refine ⟨rfl, fun r n i => ?_⟩
   rw [U4 (l := ls) e]
   exact U4 (by simp [F6]) i
  ·cases h
 | some k :: ks, [], ps, h => by cases h
 | some k :: ks, none :: ls, ps, h => by cases h
 | some k :: ks, some l :: ls, ps, h => by
  simp only [Jb] at h
  split at h
  ·rename_i e
   obtain ⟨y, h3, h4⟩ := Option.bind_eq_some_iff.1 h
   cases h4
   obtain ⟨f1, f2⟩ := Xj h3
   simp only [Bool.and_eq_true, beq_iff_eq, decide_eq_true_eq] at e
   obtain ⟨e1, e2⟩ := e
   refine ⟨by simp [L3, f1], fun r n i => ?_⟩
   obtain ⟨le, lt, lx⟩ := l
   obtain ⟨k1, k2⟩ := k
   simp only at e1 e2
   subst e1
   subst e2
   have e9 : (asTy (.slice lt) ⟨.slice lt, lx⟩).map (fun xs => (⟨le, lt, xs⟩ : Own)) = some ⟨le, lt, lx⟩ := by
    have := Wc (t := .slice lt) (xs := lx)
    exact congrArg (Option.map fun xs => (⟨le, lt, xs⟩ : Own)) this
   have e10 : F6 (some (le, lt) :: ks) ((⟨.slice lt, lx⟩ :: y) ++ r) = some ⟨le, lt, lx⟩ :: F6 ks (y ++ r) := by
    show (asTy (.slice lt) ⟨.slice lt, lx⟩).map (fun xs => (⟨le, lt, xs⟩ : Own)) :: _ = _
    rw [e9]
    rfl
   show (((F6 (some (le, lt) :: ks) ((⟨.slice lt, lx⟩ :: y) ++ r)) ++ List.replicate n none)[i]?).bind id = _
   rw [e10]
   cases i with
   | zero => simp
   | succ i => simpa using f2 r n i
  ·cases h
 | none :: ks, [], ps, h => by cases h
 | none :: ks, some l :: ls, ps, h => by cases h
 | none :: ks, none :: ls, ps, h => by
  simp only [Jb] at h
  obtain ⟨f1, f2⟩ := Xj h
  refine ⟨by simp [L3, f1], fun r n i => ?_⟩
  simp only [F6, List.cons_append]
  cases i with
  | zero => simp
  | succ i => simpa using f2 r n i
theorem R9 {k : Sk} {s : St} {ps : List PL} (h : dec k s = some ps) (n : Nat) : (enc k n ps).slots = s.slots ∧ (∀ b, Aa (enc k n ps) b = Aa s b) ∧ (∀ l, Ab (enc k n ps) l = Ab s l) := by
 unfold dec at h
 obtain ⟨x, h1, h2⟩ := Option.bind_eq_some_iff.1 h
 obtain ⟨y, h3, h4⟩ := Option.bind_eq_some_iff.1 h2
 obtain ⟨z, h5, h6⟩ := Option.bind_eq_some_iff.1 h4
 cases h6
 obtain ⟨a1, a2⟩ := Aij h1
 obtain ⟨b1, b2⟩ := Aik h3
 obtain ⟨c1, c2⟩ := Xj h5
 refine ⟨a2 _, fun b => ?_, fun l => ?_⟩
 ·unfold Aa enc
  simp only
  rw [← a1, List.drop_left]
  exact b2 _ _ _
 ·unfold Ab enc
  simp only
  rw [← a1, ← b1, ← List.length_append, ← List.append_assoc, List.drop_left]
  have := c2 [] (n - k.owns.length) l
  rw [List.append_nil] at this
  exact this
theorem Hh : ∀ {ts : List Ty} {ps : List PL} {y : HLs ts}, ofPL ts ps = some y → toPL ts y = ps
 | [], [], y, h => rfl
 | [], _ :: _, y, h => by cases h
 | [t], [p], y, h => by
  have h' : asTy t p = some y := h
  rw [G6 h']
  rfl
 | [t], [], y, h => by cases h
 | [t], _ :: _ :: _, y, h => by cases h
 | t :: u :: r, [], y, h => by cases h
 | t :: u :: r, p :: ps, y, h => by
  have h' : ((asTy t p).bind fun x => (ofPL (u :: r) ps).bind fun z => some (x, z)) = some y := h
  obtain ⟨x, h1, h2⟩ := Option.bind_eq_some_iff.1 h'
  obtain ⟨z, h3, h4⟩ := Option.bind_eq_some_iff.1 h2
  cases h4
  rw [G6 h1]
  show _ :: toPL (u :: r) z = _
  rw [Hh h3]
theorem As4 : ∀ (ts : List Ty) (y : HLs ts), ofPL ts (toPL ts y) = some y
 | [], y => rfl
 | [t], y => by show asTy t ⟨t, y⟩ = some y; exact Wc
 | t :: u :: r, y => by
  show ((asTy t ⟨t, y.1⟩).bind fun x => (ofPL (u :: r) (toPL (u :: r) y.2)).bind fun z => some (x, z)) = some y
  rw [Wc, As4 (u :: r) y.2]
  rfl
section
variable {P : Program} {F : Nat → Prop} {s s' : St} {G : Gm} {a : Act} {w w' : World} {v : AV} {vals : List Value}
theorem HL.ext {ok : Nat → Prop} {os os' : List (Option Own)} (ho : ∀ l : Nat, (os'[l]?).bind id = (os[l]?).bind id) {l : L} {v : Value} (h : HL G w ok os l v) : HL G w ok os' l v := by
 cases l with
 | ept l i o z =>
  obtain ⟨g, n, c, e, e2, e3⟩ := h
  exact ⟨g, n, c, e, e2, fun x hx => e3 x (by rw [← ho]; exact hx)⟩
 | _ => exact h
theorem Holds.ext (h : Holds F s G vals w) (h1 : s'.slots = s.slots) (h2 : ∀ b, Aa s' b = Aa s b) (h3 : ∀ l, Ab s' l = Ab s l) : Holds F s' G vals w := by
 have hl : Live s' G = Live s G := by funext k; simp [Live, h2, h3]
 have hok : okS F s' G w = okS F s G w := by funext k; simp [okS, hl]
 have htr : ∀ l v, HR F s G w l v → HR F s' G w l v := by
  intro l v hr
  unfold HR at hr ⊢
  rw [hok]
  exact HL.ext h3 hr
 refine ⟨by rw [h1]; exact h.slots.imp fun _ _ ha => ha.imp htr, fun b ls hb => ?_, fun l x hx => ?_, fun b b' ls ls' hb hb' => ?_, fun b ls l x hb hx => ?_, fun l l' x x' k hx hx' => ?_, by rw [hl]; exact h.nF, h.Flt, fun b ls hb => h.ty b ls (by rw [← h2]; exact hb), by rw [hl]; exact h.gl⟩
 ·rw [h2] at hb
  obtain ⟨cs, et, k1, k2⟩ := h.box b ls hb
  exact ⟨cs, et, k1, k2.imp htr⟩
 ·rw [h3] at hx
  obtain ⟨k0, cs, k1, k2⟩ := h.own l x hx
  exact ⟨k0, cs, k1, by rw [hok]; exact k2⟩
 ·rw [h2] at hb hb'
  exact h.bb b b' ls ls' hb hb'
 ·rw [h2] at hb
  rw [h3] at hx
  exact h.bo b ls l x hb hx
 ·rw [h3] at hx hx'
  exact h.oo l l' x x' k hx hx'
def V4 (P : Program) (g : Nat) (nb no : Nat) (si so : St) : Prop :=
 ∀ (F : Nat → Prop) (G : Gm) (vals : List Value) (w : World), Holds F si G vals w →
  Calls P g vals.toArray w fun e w' => ∃ G' rv, e = .returned (retV rv) ∧ Holds F so G' rv w' ∧ Step nb no si G w so G' w'
def szS (k : Sk) : Nat := max k.boxes.length k.owns.length
def PanV (t : Nat) (ps : List PL) (g : Bool) (v : Value) : Prop :=
 ∃ cs : List Value, All2 (fun p u => Th p.t = true ∧ ∀ (w : World) (ok : Nat → Prop), RepL w ok p u) ps cs ∧ v = .iface t (if g then .agg cs.toArray else cs.headD undef)
def Agx (P : Program) (g : Nat) (nb no : Nat) (si : St) (pan : Way) (kout : Sk) (qs : List PL) : Prop :=
 ∀ (F : Nat → Prop) (G : Gm) (vals : List Value) (w : World), Holds F si G vals w →
  Calls P g vals.toArray w fun e w' =>
   (∃ q G' rv, qs = ⟨.bool, false⟩ :: q ∧ e = .returned (retV rv) ∧ Holds F (enc kout (szS kout) q) G' rv w' ∧ Step nb no si G w (enc kout (szS kout) q) G' w') ∨
   (match pan with
    | .pan pt _ pg => ∃ q v, qs = ⟨.bool, true⟩ :: q ∧ e = .panicked [{ v := v, recovered := false }] ∧ PanV pt q pg v ∧ Keeps (Live si G) w w'
    | .two k2 => ∃ q G' rv, qs = ⟨.bool, true⟩ :: q ∧ e = .returned (retV rv) ∧ Holds F (enc k2 (szS k2) q) G' rv w' ∧ Step nb no si G w (enc k2 (szS k2) q) G' w')
def Ac (P : Program) (g : Nat) (sg : Sig) : Prop :=
 (∃ fn, P.funcs[g]? = some fn ∧ (fn.name == "runtime.NumGoroutine") = false ∧ fn.body.isSome = true) ∧
  ∀ ps qs, sg.f.run (List PL) ps some = some qs → match sg.f.pan with
   | none => V4 P g sg.kin.boxes.length sg.kin.owns.length (enc sg.kin (szS sg.kin) ps) (enc sg.kout (szS sg.kout) qs)
   | some p => Agx P g sg.kin.boxes.length sg.kin.owns.length (enc sg.kin (szS sg.kin) ps) p sg.kout qs
theorem Aq8 : ∀ (ms : List Nat) {s : St} {b : Nat} {ls : List L}, Aa s b = some ls → ∃ q, Aa (A8 s ms) b = some q
 | [], _, _, ls, h => ⟨ls, h⟩
 | m :: ms, s, b, ls, h => by
  have : ∃ q, Aa (frz s m) b = some q := by
   cases hx : Ab s m with
   | none =>
    have : frz s m = s := by unfold frz; rw [hx]
    rw [this]
    exact ⟨ls, h⟩
   | some x =>
    rw [Jl hx]
    unfold Aa at h
    cases he : s.boxes[b]? with
    | none => simp [he] at h
    | some y =>
     cases y with
     | none => simp [he] at h
     | some q => exact ⟨q.map (frzL m ⟨.slice x.t, x.xs⟩), by simp [Aa, As, St.map, he]⟩
  obtain ⟨q, hq⟩ := this
  exact Aq8 ms hq
theorem Aes {m : List Nat} {n i b : Nat} (h : (m.map some ++ List.replicate n none)[i]? = some (some b)) : m[i]? = some b := by
 rw [List.getElem?_append] at h
 split at h
 ·rw [List.getElem?_map] at h
  cases he : m[i]? with
  | none => simp [he] at h
  | some x => simp [he] at h; rw [h]
 ·rw [List.getElem?_replicate] at h
  split at h <;> simp at h
theorem Arz {m : List (Option Nat)} {n i b : Nat} (h : (m ++ List.replicate n none)[i]? = some (some b)) : m[i]? = some (some b) := by
 rw [List.getElem?_append] at h
 split at h
 ·exact h
 ·rw [List.getElem?_replicate] at h
  split at h <;> simp at h
theorem Mf {d : Nat} {rB rO : List Nat} {args : List AV} {avs : List Value} (h : Holds F s G a.tmps.toList w) (hargs : All2 (HA (HR F s G w)) args avs) {sg : Sig} {c : Co} (hc : co sg.kin { s with slots := args } (max sg.kin.boxes.length sg.kin.owns.length) = some c)
  {ps qs : List PL} (hps : dec sg.kin c.s = some ps) (hbk : backG s c (enc sg.kout (max sg.kout.boxes.length sg.kout.owns.length) qs) d sg.kout.boxes.length sg.kout.owns.length rB rO = some s')
  {G1 : Gm} {rv : List Value} (hR : Holds (FL F { s with slots := args } G c.br c.bx c.mB c.mO) (enc sg.kout (szS sg.kout) qs) G1 rv w')
  (hst : Step sg.kin.boxes.length sg.kin.owns.length (enc sg.kin (szS sg.kin) ps) (coG G c.mB c.mO) w (enc sg.kout (szS sg.kout) qs) G1 w') :
  ∃ G', Holds F s' G' (a.put (some d) (retV rv)).tmps.toList w' ∧ Step N0 N0 s G w s' G' w' := by
 obtain ⟨hnB, hnO, hdis, hdisB, as, bs, os, hA, hB, hO, hs⟩ := I7 hc
 obtain ⟨hBl, hBk, hBg⟩ := M3 hB
 obtain ⟨hOl, hOk, hOg⟩ := F5 hO
 obtain ⟨e1, e2, e3⟩ := R9 hps (szS sg.kin)
 have hcbox : ∀ b ls, Aa (enc sg.kin (szS sg.kin) ps) b = some ls → ∃ b', c.mB[b]? = some b' ∧ ∃ q, Aa s b' = some q := by
  intro b ls hb
  rw [e2, hs] at hb
  obtain ⟨b', q, ls', k', f1, f2, f3, f4, f5⟩ := hBg b _ (Ha hb)
  exact ⟨b', f1, q, f3⟩
 have hcown : ∀ l x, Ab (enc sg.kin (szS sg.kin) ps) l = some x → (∃ l', c.mO[l]? = some (some l') ∧ Ab s l' = some x) ∨ c.mO[l]? = some none := by
  intro l x hx
  rw [e3, hs] at hx
  rcases (hOg l x (Ha hx)).2 with ⟨l', f1, f2⟩ | ⟨f1, _⟩
  ·exact .inl ⟨l', f1, f2⟩
  ·exact .inr f1
 have hGb : ∀ {b b' : Nat}, c.mB[b]? = some b' → (coG G c.mB c.mO).bx b = G.bx b' := fun hb => by simp [coG, List.getD, hb]
 have hGo : ∀ {l l' : Nat}, c.mO[l]? = some (some l') → (coG G c.mB c.mO).ow l = G.ow l' := fun hl => by simp [coG, List.getD, hl]
 have hGn : ∀ {l : Nat}, c.mO[l]? = some none → (coG G c.mB c.mO).ow l = .slice none 0 0 := fun hl => by simp [coG, List.getD, hl]
 have hlen1 : sg.kin.boxes.length = c.mB.length := hBk
 have hlen2 : sg.kin.owns.length = c.mO.length := hOk
 unfold backG at hbk
 simp only at hbk
 split at hbk
 ·cases hbk
 rename_i hbxc
 have hbx : c.bx = [] ∨ Bg (enc sg.kout (szS sg.kout) qs) = true := by
  rcases hcb : c.bx with _ | ⟨x, r⟩
  ·exact .inl rfl
  ·rw [hcb] at hbxc
   simp only [List.isEmpty_cons, Bool.not_false, Bool.true_and, Bool.not_eq_true', Bool.not_eq_false] at hbxc
   exact .inr hbxc
 have key : ∀ s1, Holds F s1 G a.tmps.toList w → Step N0 N0 s G w s1 G w → (∀ b ls, Aa s b = some ls → ∃ q, Aa s1 b = some q) → (∀ b q, Aa s1 b = some q → ∃ ls, Aa s b = some ls) →
   (∀ l x, Ab s l = some x → l ∉ c.br → Ab s1 l = some x) → (∀ l x, Ab s1 l = some x → Ab s l = some x) → ((∀ l x, Ab s1 l = some x → l ∉ c.br) ∨ Bg (enc sg.kout (szS sg.kout) qs) = true) →
   ∀ {oB oO rB rO}, oB = c.mB.map some ++ List.replicate (sg.kout.boxes.length - c.mB.length) none → oO = c.mO ++ List.replicate (sg.kout.owns.length - c.mO.length) none →
   Dm s1 (enc sg.kout (szS sg.kout) qs) d oB oO rB rO = some s' → ∃ G' rv', retV rv = retV rv' ∧ Holds F s' G' (a.put (some d) (retV rv)).tmps.toList w' ∧ Step N0 N0 s G w s' G' w' := by
  intro s1 hs1 hst1 hbf hbb hof hob hbr oB oO rB rO hoB hoO hbw
  subst hoB
  subst hoO
  have holdK : ∀ j, Gz s1 G (c.mB.map some ++ List.replicate (sg.kout.boxes.length - c.mB.length) none) (c.mO ++ List.replicate (sg.kout.owns.length - c.mO.length) none) j →
    Live s G j ∧ (∀ b ∈ c.mB, ∀ ls, Aa s b = some ls → G.bx b ≠ j) ∧ (∀ l ∈ somes c.mO, ∀ x, Ab s l = some x → (G.ow l).ownBlock ≠ some j) := by
   rintro j (⟨b, q, hb, hnb, rfl⟩ | ⟨l, x, hx, hnl, hj⟩)
   ·obtain ⟨ls, hls⟩ := hbb b q hb
    refine ⟨.inl ⟨b, ls, hls, rfl⟩, fun b2 hb2 ls2 hls2 e => ?_, fun l hl x hx => h.bo b ls l x hls hx⟩
    have := h.bb b2 b ls2 ls hls2 hls e
    subst this
    obtain ⟨i, hi, hi2⟩ := List.getElem_of_mem hb2
    refine hnb i ?_
    rw [List.getElem?_append_left (by simpa using hi), List.getElem?_map, List.getElem?_eq_getElem hi, hi2]
    rfl
   ·have hx' := hob l x hx
    refine ⟨.inr ⟨l, x, hx', hj⟩, fun b2 hb2 ls2 hls2 e => h.bo b2 ls2 l x hls2 hx' (by rw [e]; exact hj), fun l2 hl2 x2 hx2 e => ?_⟩
    have := h.oo l2 l x2 x j hx2 hx' e hj
    subst this
    have : ∀ {m : List (Option Nat)}, l2 ∈ somes m → ∃ i : Nat, m[i]? = some (some l2) := by
     intro m
     induction m with
     | nil => intro h; cases h
     | cons y r ih =>
      intro h
      cases y with
      | none => obtain ⟨i, hi⟩ := ih h; exact ⟨i + 1, by simpa using hi⟩
      | some z =>
       simp only [somes, List.mem_cons] at h
       rcases h with rfl | h
       ·exact ⟨0, by simp⟩
       ·obtain ⟨i, hi⟩ := ih h; exact ⟨i + 1, by simpa using hi⟩
    obtain ⟨i, hi⟩ := this hl2
    refine hnl i ?_
    rw [List.getElem?_append_left (List.getElem?_eq_some_iff.1 hi).1]
    exact hi
  obtain ⟨G2, k1, k2⟩ := Ayi (s0 := enc sg.kin (szS sg.kin) ps) (G0 := coG G c.mB c.mO) (F1 := FL F { s with slots := args } G c.br c.bx c.mB c.mO) hs1 hR hst
   (fun i b hi => ⟨by rw [hlen1]; exact (List.getElem?_eq_some_iff.1 (Aes hi)).1, hGb (Aes hi), by have hz := Aes hi; simp [coG, List.getD, hz]⟩)
   (fun i l hi => ⟨by rw [hlen2]; exact (List.getElem?_eq_some_iff.1 (Arz hi)).1, fun _ _ => hGo (Arz hi)⟩)
   (by
    rintro j (⟨b, ls, hb, rfl⟩ | ⟨l, x, hx, hj⟩)
    ·obtain ⟨b', f1, q, f2⟩ := hcbox b ls hb
     obtain ⟨q', hq'⟩ := hbf b' q f2
     exact .inl ⟨b', q', hq', (hGb f1).symm⟩
    ·rcases hcown l x hx with ⟨l', f1, f2⟩ | f1
     ·rw [hGo f1] at hj
      exact .inr ⟨l', x, hof l' x f2 (fun e => hdis l' e (Hc f1)), hj⟩
     ·rw [hGn f1] at hj
      simp [Value.ownBlock] at hj)
   (fun j hj => .inl hj)
   (by
    refine hbx.elim (fun hbx => ?_) (fun hbx => .inr hbx)
    rcases hbr with hbr | hbr
    ·refine .inl fun j hj => ?_
     obtain ⟨g1, g2, g3⟩ := holdK j hj
     refine .inr ⟨g1, ?_⟩
     rintro (⟨b, hb, ls, hls, e⟩ | ⟨l, hl, x, hx, e⟩)
     ·rw [hbx, List.append_nil] at hb
      exact g2 b hb ls hls e
     ·rcases List.mem_append.1 hl with hl | hl
      ·exact g3 l hl x hx e
      ·rcases hj with ⟨b, q, hb, hnb, rfl⟩ | ⟨l2, x2, hx2, hnl, hj2⟩
       ·obtain ⟨ls, hls⟩ := hbb b q hb
        exact h.bo b ls l x hls hx e
       ·have := h.oo l l2 x x2 j hx (hob l2 x2 hx2) e hj2
        subst this
        exact hbr l x2 hx2 hl
    ·exact .inr hbr)
   (by
    rintro j hj (⟨b, ls, hb, rfl⟩ | ⟨l, x, hx, hj2⟩)
    ·obtain ⟨b', f1, q, f2⟩ := hcbox b ls hb
     exact (holdK _ hj).2.1 b' (List.mem_of_getElem? f1) q f2 (hGb f1).symm
    ·rcases hcown l x hx with ⟨l', f1, f2⟩ | f1
     ·rw [hGo f1] at hj2
      exact (holdK _ hj).2.2 l' (Hc f1) x f2 hj2
     ·rw [hGn f1] at hj2
      simp [Value.ownBlock] at hj2)
   hbw
  exact ⟨G2, rv, rfl, k1, hst1.trans k2⟩
 have fin : ∃ G' rv', retV rv = retV rv' ∧ Holds F s' G' (a.put (some d) (retV rv)).tmps.toList w' ∧ Step N0 N0 s G w s' G' w' := by
  by_cases hcond : (c.br.isEmpty || Bg (enc sg.kout (szS sg.kout) qs)) = true
  ·have hcond' : (c.br.isEmpty || Bg (enc sg.kout (max sg.kout.boxes.length sg.kout.owns.length) qs)) = true := hcond
   rw [if_pos hcond'] at hbk
   refine key s h (Step.refl _ _ _ _ _) (fun b ls hb => ⟨ls, hb⟩) (fun b ls hb => ⟨ls, hb⟩) (fun l x hx _ => hx) (fun l x hx => hx) ?_ rfl rfl hbk
   simp only [Bool.or_eq_true] at hcond
   rcases hcond with hcond | hcond
   ·exact .inl fun l x _ hl => by
     have : c.br = [] := by simpa using hcond
     rw [this] at hl
     cases hl
   ·exact .inr hcond
  ·have hcond' : ¬ (c.br.isEmpty || Bg (enc sg.kout (max sg.kout.boxes.length sg.kout.owns.length) qs)) = true := hcond
   rw [if_neg hcond'] at hbk
   refine key (A8 s c.br) (Ur _ h) (Us _ _ _ h) (fun b ls hb => Aq8 _ hb) (fun b q hb => Aq9 _ hb) (fun l x hx hn => by rw [Pf, if_neg hn]; exact hx) (fun l x hx => ?_) (.inl fun l x hx hl => ?_) rfl rfl hbk
   ·rw [Pf] at hx
    split at hx
    ·cases hx
    ·exact hx
   ·rw [Pf, if_pos hl] at hx
    cases hx
 obtain ⟨G', rv', _, k1, k2⟩ := fin
 exact ⟨G', k1, k2⟩
theorem Qs {args : List AV} {avs : List Value} (h : Holds F s G vals w) (hargs : All2 (HA (HR F s G w)) args avs) {sg : Sig} {c : Co} (hc : co sg.kin { s with slots := args } (max sg.kin.boxes.length sg.kin.owns.length) = some c)
  {ps : List PL} (hps : dec sg.kin c.s = some ps) : Holds (FL F { s with slots := args } G c.br c.bx c.mB c.mO) (enc sg.kin (szS sg.kin) ps) (coG G c.mB c.mO) avs w := by
 have h0 : Holds F { s with slots := args } G avs w := ⟨hargs, h.box, h.own, h.bb, h.bo, h.oo, h.nF, h.Flt, h.ty, h.gl⟩
 obtain ⟨hH, hLv⟩ := Rc h0 hc
 obtain ⟨e1, e2, e3⟩ := R9 hps (szS sg.kin)
 exact hH.ext e1 e2 e3
theorem Qt {C : Cfg} {g d : Nat} {args : List AV} {avs : List Value} (h : Holds F s G a.tmps.toList w) (hargs : All2 (HA (HR F s G w)) args avs) : ∀ (sgs : List Sig), (∀ sg ∈ sgs, Ac C.P g sg) → (El s d args sgs).val = some s' →
  (∃ fn, C.P.funcs[g]? = some fn ∧ (fn.name == "runtime.NumGoroutine") = false ∧ fn.body.isSome = true) ∧
  Calls C.P g avs.toArray w fun e w' => ∃ G' rv, e = .returned (retV rv) ∧ Holds F s' G' (a.put (some d) (retV rv)).tmps.toList w' ∧ Step N0 N0 s G w s' G' w'
 | [], _, hv => by cases hv
 | sg :: sgs, hsg, hv => by
  simp only [El] at hv
  split at hv
  ·exact Qt h hargs sgs (fun sg hs => hsg sg (by simp [hs])) hv
  ·rename_i hpan
   have hpan2 : sg.f.pan = none := by simpa using hpan
   split at hv
   ·rename_i c hc
    split at hv
    ·rename_i ps hps
     simp only [Oc.val] at hv
     obtain ⟨qs, hqs, hbk⟩ := Option.bind_eq_some_iff.1 hv
     rw [Oc.val_ofOption] at hbk
     obtain ⟨hfn, hok⟩ := hsg sg (by simp)
     refine ⟨hfn, ?_⟩
     have hok2 := hok ps qs hqs
     rw [hpan2] at hok2
     refine (hok2 _ _ _ _ (Qs h hargs hc hps)).mono ?_
     rintro e w' ⟨G1, rv, rfl, hR, hst⟩
     obtain ⟨G', k1, k2⟩ := Mf h hargs hc hps hbk hR hst
     exact ⟨G', rv, rfl, k1, k2⟩
    ·exact Qt h hargs sgs (fun sg hs => hsg sg (by simp [hs])) hv
   ·exact Qt h hargs sgs (fun sg hs => hsg sg (by simp [hs])) hv
theorem Ih {bs os : List Nat} {b : Nat} {ls : List L} (hb : Aa (B1 s bs os) b = some ls) : ∃ q, Aa s b = some q ∧ ls = q.map (Gh bs os) ∧ b ∉ bs := by
 unfold Aa B1 at hb
 simp only [List.getElem?_map] at hb
 cases hr : (List.range s.boxes.length)[b]? with
 | none => rw [hr] at hb; cases hb
 | some x =>
  rw [hr] at hb
  have hx : x = b := by
   obtain ⟨_, e⟩ := List.getElem?_eq_some_iff.1 hr
   simpa using e.symm
  subst hx
  simp only [Option.map_some, Option.bind_some, id] at hb
  split at hb
  ·cases hb
  ·rename_i hn
   obtain ⟨q, hq, rfl⟩ := Option.map_eq_some_iff.1 hb
   exact ⟨q, hq, rfl, by simpa using hn⟩
theorem Gg {bs os : List Nat} {l : Nat} {x : Own} (hx : Ab (B1 s bs os) l = some x) : Ab s l = some x ∧ l ∉ os := by
 unfold Ab B1 at hx
 simp only [List.getElem?_map] at hx
 cases hr : (List.range s.owns.length)[l]? with
 | none => rw [hr] at hx; cases hx
 | some y =>
  rw [hr] at hx
  have hy : y = l := by
   obtain ⟨_, e⟩ := List.getElem?_eq_some_iff.1 hr
   simpa using e.symm
  subst hy
  simp only [Option.map_some, Option.bind_some, id] at hx
  split at hx
  ·cases hx
  ·rename_i hn
   exact ⟨hx, by simpa using hn⟩
theorem Aex {bs os : List Nat} {si : St} {Gi : Gm} (h : Holds F s G vals w) (hk : Keeps (Live si Gi) w w') (hsub : ∀ j, Live si Gi j → Live s G j ∧ ((∃ b ∈ bs, ∃ ls, Aa s b = some ls ∧ G.bx b = j) ∨ (∃ l ∈ os, ∃ x, Ab s l = some x ∧ (G.ow l).ownBlock = some j))) :
  Holds F (B1 s bs os) G vals w' ∧ Step N0 N0 s G w (B1 s bs os) G w' := by
 have hlive : ∀ j, Live (B1 s bs os) G j → Live s G j ∧ ¬ Live si Gi j := by
  rintro j (⟨b, ls, hb, rfl⟩ | ⟨l, x, hx, hj⟩)
  ·obtain ⟨q, hq, rfl, hn⟩ := Ih hb
   refine ⟨.inl ⟨b, q, hq, rfl⟩, fun hL => ?_⟩
   rcases (hsub _ hL).2 with ⟨b2, hb2, ls2, hls2, e⟩ | ⟨l2, hl2, x2, hx2, e⟩
   ·exact hn (h.bb b2 b ls2 q hls2 hq e ▸ hb2)
   ·exact h.bo b q l2 x2 hq hx2 e
  ·obtain ⟨hx', hn⟩ := Gg hx
   refine ⟨.inr ⟨l, x, hx', hj⟩, fun hL => ?_⟩
   rcases (hsub _ hL).2 with ⟨b2, hb2, ls2, hls2, e⟩ | ⟨l2, hl2, x2, hx2, e⟩
   ·exact h.bo b2 ls2 l x hls2 hx' (by rw [e]; exact hj)
   ·exact hn (h.oo l2 l x2 x j hx2 hx' e hj ▸ hl2)
 have hok : ∀ j, okS F s G w j → okS F (B1 s bs os) G w' j ∧ w'.heap[j]? = w.heap[j]? := fun j hj =>
  ⟨⟨Nat.lt_of_lt_of_le hj.1 hk.size, hj.2.1, fun hL => hj.2.2 (hlive j hL).1⟩, hk.block j hj.1 fun hL => hj.2.2 (hsub j hL).1⟩
 have hleaf : ∀ l v, HR F s G w l v → HR F (B1 s bs os) G w' (Gh bs os l) v := by
  intro l v hr
  unfold Gh
  split
  ·exact HL.keep hok (fun m x hx => ⟨x, (Gg (s := s) (bs := bs) (os := os) hx).1, Nat.le_refl _, rfl⟩) hr
  ·exact hr.one
 have hlt : ∀ {j}, Live s G j → j < w.heap.size := fun hj => h.lt hj
 refine ⟨⟨?_, fun b ls hb => ?_, fun l x hx => ?_, fun b b' ls ls' hb hb' e => ?_, fun b ls l x hb hx => ?_, fun l l' x x' k hx hx' => ?_, fun k hL => h.nF k (hlive k hL).1, fun k hF => Nat.lt_of_lt_of_le (h.Flt k hF) hk.size, fun b ls hb cs et fr hc => ?_, h.glOf (fun k hk2 hn => hk.block k hk2 fun hL => hn (hsub k hL).1) fun k hL => .inl (hlive k hL).1⟩,
  ⟨⟨hk.os, hk.tape, hk.output, hk.size, fun k hk2 hn => hk.block k hk2 fun hL => hn (hsub k hL).1⟩, fun k hL => .inl (hlive k hL).1, fun _ _ => ⟨rfl, rfl⟩, fun l _ x hx => ⟨⟨x, (Gg hx).1⟩, rfl⟩⟩⟩
 ·show All2 _ (s.slots.map _) vals
  exact All2.map_left (h.slots.imp fun _ _ ha => ha.map hleaf)
 ·have hL : Live (B1 s bs os) G (G.bx b) := .inl ⟨b, ls, hb, rfl⟩
  obtain ⟨q, hq, rfl, hn⟩ := Ih hb
  obtain ⟨cs, et, hc, hl⟩ := h.box b q hq
  refine ⟨cs, et, ?_, All2.map_left (hl.imp hleaf)⟩
  rw [hk.block _ (hlt (hlive _ hL).1) (hlive _ hL).2]
  exact hc
 ·obtain ⟨hx', hn⟩ := Gg hx
  obtain ⟨h0, cs, hr, he⟩ := h.own l x hx'
  refine ⟨h0, cs, Hi hr fun k hk2 => ?_, he.mono hok⟩
  have hL : Live (B1 s bs os) G k := .inr ⟨l, x, hx, hk2⟩
  exact hk.block k (hlt (hlive k hL).1) (hlive k hL).2
 ·obtain ⟨q, hq, _, _⟩ := Ih hb
  obtain ⟨q', hq', _, _⟩ := Ih hb'
  exact h.bb b b' q q' hq hq' e
 ·obtain ⟨q, hq, _, _⟩ := Ih hb
  exact h.bo b q l x hq (Gg hx).1
 ·exact h.oo l l' x x' k (Gg hx).1 (Gg hx').1
 ·have hL : Live (B1 s bs os) G (G.bx b) := .inl ⟨b, ls, hb, rfl⟩
  obtain ⟨q, hq, _, _⟩ := Ih hb
  rw [hk.block _ (hlt (hlive _ hL).1) (hlive _ hL).2] at hc
  exact h.ty b q hq cs et fr hc
theorem Wi {C : Cfg} {g d : Nat} {args : List AV} {avs : List Value} {e : XE} (h : Holds F s G a.tmps.toList w) (hargs : All2 (HA (HR F s G w)) args avs) : ∀ (sgs : List Sig), (∀ sg ∈ sgs, Ac C.P g sg) → (Me s d args sgs).val = some (e, s') →
  (∃ fn, C.P.funcs[g]? = some fn ∧ (fn.name == "runtime.NumGoroutine") = false ∧ fn.body.isSome = true) ∧
  Calls C.P g avs.toArray w fun r w' => (e = .normal ∧ ∃ G' rv, r = .returned (retV rv) ∧ Holds F s' G' (a.put (some d) (retV rv)).tmps.toList w' ∧ Step N0 N0 s G w s' G' w') ∨
   (∃ t ps pg v, e = .pan t ps pg ∧ PanV t ps pg v ∧ r = .panicked [{ v := v, recovered := false }] ∧ Holds F s' G a.tmps.toList w' ∧ Step N0 N0 s G w s' G w')
 | [], _, hv => by cases hv
 | sg :: sgs, hsg, hv => by
  simp only [Me] at hv
  split at hv
  ·rename_i c hc
   split at hv
   ·rename_i ps hps
    obtain ⟨hfn, hok⟩ := hsg sg (by simp)
    refine ⟨hfn, ?_⟩
    split at hv
    ·rename_i hpan
     simp only [Oc.val] at hv
     obtain ⟨qs, hqs, hbk⟩ := Option.bind_eq_some_iff.1 hv
     rw [Oc.val_bind, Oc.val_ofOption] at hbk
     obtain ⟨s1, hbk, h1⟩ := Option.bind_eq_some_iff.1 hbk
     cases h1
     have hok2 := hok ps qs hqs
     rw [hpan] at hok2
     refine (hok2 _ _ _ _ (Qs h hargs hc hps)).mono ?_
     rintro r w' ⟨G1, rv, rfl, hR, hst⟩
     obtain ⟨G', k1, k2⟩ := Mf h hargs hc hps hbk hR hst
     exact .inl ⟨rfl, G', rv, rfl, k1, k2⟩
    rotate_left
    ·rename_i k2 hpan
     simp only [Oc.val] at hv
     obtain ⟨qs, hqs, hbk⟩ := Option.bind_eq_some_iff.1 hv
     have hok2 := hok ps qs hqs
     rw [hpan] at hok2
     refine (hok2 _ _ _ _ (Qs h hargs hc hps)).mono ?_
     rintro r w' (⟨q, G1, rv, rfl, rfl, hR, hst⟩ | ⟨q, G1, rv, rfl, rfl, hR, hst⟩)
     ·simp only at hbk
      rw [Oc.val_bind, Oc.val_ofOption] at hbk
      obtain ⟨s1, hbk, h1⟩ := Option.bind_eq_some_iff.1 hbk
      cases h1
      obtain ⟨G', m1, m2⟩ := Mf h hargs hc hps hbk hR hst
      exact .inl ⟨rfl, G', rv, rfl, m1, m2⟩
     ·simp only at hbk
      rw [Oc.val_bind, Oc.val_ofOption] at hbk
      obtain ⟨s1, hbk, h1⟩ := Option.bind_eq_some_iff.1 hbk
      cases h1
      obtain ⟨G', m1, m2⟩ := Mf (sg := ⟨sg.kin, k2, sg.f⟩) h hargs hc hps hbk hR hst
      exact .inl ⟨rfl, G', rv, rfl, m1, m2⟩
    ·rename_i pt tp pg hpan
     simp only [Oc.val] at hv
     obtain ⟨qs, hqs, hbk⟩ := Option.bind_eq_some_iff.1 hv
     have hok2 := hok ps qs hqs
     rw [hpan] at hok2
     refine (hok2 _ _ _ _ (Qs h hargs hc hps)).mono ?_
     rintro r w' (⟨q, G1, rv, rfl, rfl, hR, hst⟩ | ⟨q, v, rfl, rfl, hP, hk⟩)
     ·simp only at hbk
      rw [Oc.val_bind, Oc.val_ofOption] at hbk
      obtain ⟨s1, hbk, h1⟩ := Option.bind_eq_some_iff.1 hbk
      cases h1
      obtain ⟨G', k1, k2⟩ := Mf h hargs hc hps hbk hR hst
      exact .inl ⟨rfl, G', rv, rfl, k1, k2⟩
     ·simp only [Oc.val] at hbk
      cases hbk
      obtain ⟨hnB, hnO, hdis, hdisB, as, bs, os, hA, hB, hO, hs⟩ := I7 hc
      obtain ⟨hBl, hBk, hBg⟩ := M3 hB
      obtain ⟨hOl, hOk, hOg⟩ := F5 hO
      obtain ⟨e1, e2, e3⟩ := R9 hps (szS sg.kin)
      obtain ⟨k1, k2⟩ := Aex (bs := c.mB) (os := somes c.mO) h hk (fun j hj => by
       rcases hj with ⟨b, ls, hb, rfl⟩ | ⟨l, x, hx, hj⟩
       ·rw [e2, hs] at hb
        obtain ⟨b', q, ls', k', f1, f2, f3, f4, f5⟩ := hBg b _ (Ha hb)
        have hG : (coG G c.mB c.mO).bx b = G.bx b' := by simp [coG, List.getD, f1]
        exact ⟨.inl ⟨b', q, f3, hG.symm⟩, .inl ⟨b', List.mem_of_getElem? f1, q, f3, hG.symm⟩⟩
       ·rw [e3, hs] at hx
        rcases (hOg l x (Ha hx)).2 with ⟨l', f1, f2⟩ | ⟨f1, _⟩
        ·have hG : (coG G c.mB c.mO).ow l = G.ow l' := by simp [coG, List.getD, f1]
         rw [hG] at hj
         exact ⟨.inr ⟨l', x, f2, hj⟩, .inr ⟨l', Hc f1, x, f2, hj⟩⟩
        ·have hG : (coG G c.mB c.mO).ow l = .slice none 0 0 := by simp [coG, List.getD, f1]
         rw [hG] at hj
         simp [Value.ownBlock] at hj)
      exact .inr ⟨_, _, _, v, rfl, hP, rfl, k1, k2⟩
   ·exact Wi h hargs sgs (fun sg hs => hsg sg (by simp [hs])) hv
  ·exact Wi h hargs sgs (fun sg hs => hsg sg (by simp [hs])) hv
end
def Ba (C : Cfg) : Prop := ∀ g, ∀ sg ∈ C.env g, Ac C.P g sg
section
variable {C : Cfg} {F : Nat → Prop} {s s' : St} {G : Gm} {a : Act} {w w' : World} {o : Oper} {v : AV} {vals : List Value}
theorem Pt (h : Holds F s G vals w) : ∀ (xs : List (Nat × Nat)), All2 (HA (HR F s G w)) (xs.map fun x => lf (.ptr x.1 x.2)) (xs.map (ptrV G))
 | [] => .nil
 | x :: xs => .cons (show HR F s G w (.ptr x.1 x.2) (ptrV G x) from rfl) (Pt h xs)
theorem Aet (h : Holds F s G a.tmps.toList w) : ∀ (xs : List Operand), All2 (HA (HR F s G w)) (xs.map s.get) (xs.map a.eval)
 | [] => .nil
 | x :: xs => .cons (Bz h x) (Aet h xs)
theorem Af2 {P : Program} {f : FuncId} {fn : Func} (hf : P.funcs[f]? = some fn) (hname : (fn.name == "runtime.NumGoroutine") = false) (hb : fn.body.isSome = true) (args : Array Value) (w : World) : (callFunc f args).run P w = .ok (.enter f args) w := by
 have h1 : fn.name ≠ "runtime.NumGoroutine" := by simpa using hname
 obtain ⟨c, hc⟩ := Option.isSome_iff_exists.1 hb
 simp [callFunc, hf, h1, hc]
theorem Xl (h : Holds F s G a.tmps.toList w) {f : Operand} {as : Array Operand} {ts : Array Nat} {d g : Nat} {first caps : List (Nat × Nat)} {sgs : List Sig} (hsg : ∀ sg ∈ sgs, Ac C.P g sg) (ho : o.op = .call { callee := .value f, args := as, argTypes := ts }) (hd : o.dst = some d)
  (hl : Af (s.get f) = some (.fn g first caps)) (hv : (El s d (first.map (fun x => lf (.ptr x.1 x.2)) ++ as.toList.map s.get ++ caps.map (fun x => lf (.ptr x.1 x.2))) sgs).val = some s') : EOK C.P F s G a w o s' := by
 have hfn : a.eval f = _ := Ao h hl
 have hargs := ((Pt h first).app (Aet h as.toList)).app (Pt h caps)
 obtain ⟨⟨fn, k1, k2, k3⟩, hcall⟩ := Qt (g := g) h hargs sgs hsg hv
 intro K Q hK
 unfold Oper.wp
 have hrun : (execOp a.eval o).run C.P w = .ok (.enter g (first.map (ptrV G) ++ as.toList.map a.eval ++ caps.map (ptrV G)).toArray) w := by
  have e1 : ((first.map (ptrV G)).toArray ++ as.map a.eval ++ (caps.map (ptrV G)).toArray) = (first.map (ptrV G) ++ as.toList.map a.eval ++ caps.map (ptrV G)).toArray := by
   rw [← Array.toList_inj]; simp
  simp only [execOp, ho, resolve, hfn, Deferred.ofValue, Sem.run_bind, Sem.run_pure, Result.andThen_ok, invoke, e1, Af2 k1 k2 k3]
 rw [hrun, Oper.upon_enter]
 refine hcall.mono ?_
 rintro e w' ⟨G', rv, rfl, h2, h3⟩
 rw [← hd] at h2
 exact hK _ _ _ h2 h3 (Fm _ _ _)
theorem e_call (hE : Ba C) (h : Holds F s G a.tmps.toList w) {f : Operand} {as : Array Operand} {ts : Array Nat} {d : Nat} (ho : o.op = .call { callee := .value f, args := as, argTypes := ts }) (hd : o.dst = some d)
  (hv : (opE C s o.dst o.op).val = some s') : EOK C.P F s G a w o s' := by
 rw [ho, hd] at hv
 simp only [opE] at hv
 split at hv
 ·rename_i g first caps hl
  exact Xl h (hE g) ho hd hl hv
 ·cases hv
theorem Pq (hE : Ba C) (h : Holds F s G a.tmps.toList w) (hv : (opE C s o.dst o.op).val = some s') : EOK C.P F s G a w o s' := by
 cases hc : A6 o.op with
 | false => exact Ba7 h hc hv
 | true =>
  unfold A6 at hc
  split at hc
  ·rename_i f as ts ho
   cases hd : o.dst with
   | some d => exact e_call hE h ho hd hv
   | none =>
    rw [hd, ho] at hv
    simp only [opE, opV, Oc.bind, Oc.val] at hv
    cases hv
  ·cases hc
theorem Bbx {g : Nat} {u : Value} (h : a.tmps[g]? = some u) : a.put (some g) u = a := by
 unfold Act.put
 obtain ⟨hlt, e⟩ := Array.getElem?_eq_some_iff.1 h
 obtain ⟨tm, df⟩ := a
 simp only at *
 congr 1
 apply Array.ext
 ·simp
 ·intro i h1 h2
  simp only [Array.getElem_setIfInBounds h2]
  split
  ·rename_i e2; subst e2; exact e.symm
  ·rfl
theorem Xo {g : Nat} {b : Bool} (h : a.eval (.tmp g) = .bool b) : a.tmps[g]? = some (.bool b) := by
 simp only [Act.eval, Array.getD_eq_getD_getElem?] at h
 cases he : a.tmps[g]? with
 | none => rw [he] at h; cases h
 | some u => rw [he] at h; simp at h; rw [h]
theorem Afq (h : Holds F s G a.tmps.toList w) {g : Nat} {b : Bool} (hb : Cx (s.get (.tmp g)) = some b) : Holds F (s.put (some g) (lf (pvB b))) G a.tmps.toList w := by
 have h1 := Ka h hb
 have h2 := h.put (some g) (v := lf (pvB b)) (u := .bool b) rfl
 rw [Bbx (Xo h1)] at h2
 exact h2
def ExR : XE → Exit → Prop
 | .normal, x => x = .normal
 | .exit id, x => x = .exit id
 | .ret, x => x = .ret
 | .pan t ps g, x => ∃ v, PanV t ps g v ∧ x = .panic [{ v := v, recovered := false }]
theorem Alt {p : PL} {u : Value} {ok : Nat → Prop} (hf : Th p.t = true) (h : RepL w ok p u) : ∀ (w' : World) (ok' : Nat → Prop), RepL w' ok' p u := by
 obtain ⟨t, x⟩ := p
 intro w' ok'
 cases t with
 | int k => exact h
 | bool => exact h
 | str => exact h
 | slice e => cases hf
 | nil => cases hf
 | cons a b => cases hf
 | any => cases hf
theorem Z3 (f : Nat → Option (Nat × Nat)) : ∀ (q : List (Nat × List L)) (z ls : List L), Ew f z q = some ls → ∀ l ∈ ls, l ∈ z ∨ ∃ x ∈ q, l ∈ x.2
 | [], z, ls, h, l, hl => by cases h; exact .inl hl
 | (i, new) :: q, z, ls, h, l, hl => by
  simp only [Ew] at h
  obtain ⟨x, _, h2⟩ := Option.bind_eq_some_iff.1 h
  split at h2
  ·rcases Z3 f q _ _ h2 l hl with h3 | ⟨y, hy, h3⟩
   ·unfold splice at h3
    rcases List.mem_append.1 h3 with h3 | h3
    ·rcases List.mem_append.1 h3 with h3 | h3
     ·exact .inl (List.mem_of_mem_take h3)
     ·exact .inr ⟨(i, new), by simp, h3⟩
    ·exact .inl (List.mem_of_mem_drop h3)
   ·exact .inr ⟨y, by simp [hy], h3⟩
  ·cases h2
theorem Ato {n : Nat} (hall : s.all (L.noB n) = true) : ∀ (ps : List (Nat × Operand)) (q : List (Nat × List L)), Bj s ps = some q → ∀ x ∈ q, ∀ l ∈ x.2, l.noB n = true
 | [], q, h, x, hx => by cases h; cases hx
 | (i, y) :: ps, q, h, x, hx => by
  simp only [Bj] at h
  obtain ⟨ls, h1, h2⟩ := Option.bind_eq_some_iff.1 h
  obtain ⟨q', h3, rfl⟩ := Option.map_eq_some_iff.1 h2
  rcases List.mem_cons.1 hx with rfl | hx
  ·exact Ae0 (V7 (fun v => M5 _ v) (fun f => rfl) hall y) h1
  ·exact Ato hall ps q' h3 x hx
theorem Air (h : Holds F s G a.tmps.toList w) {t d len : Nat} {ps : Array (Nat × Operand)} (ho : o.op = .buildSlice t len ps) (hd : o.dst = some d) (hv : (Hw C s t len ps.toList d).val = some s') : EOK C.P F s G a w o s' := by
 unfold Hw at hv
 split at hv
 ·rename_i e he
  split at hv
  ·rename_i q z hq hz
   split at hv
   ·rename_i ls hls
    split at hv
    ·rename_i hc
     simp only [Bool.and_eq_true, decide_eq_true_eq] at hc
     obtain ⟨hf, hl1, hl2, hsz⟩ := hc
     simp only [Oc.val] at hv
     cases hv
     obtain ⟨i, zv, hi, hzz, ez, h1⟩ := Hq hz
     have hone : zv.cells.size = 1 := by
      have := congrArg List.length ez
      simp at this
      omega
     have his : i.size = 1 := by
      unfold A0 at hsz
      rw [hi] at hsz
      simpa using hsz
     have hzl : All2 (HR F s G w) [z] zv.cells.toList := by
      rw [ez]
      exact I9 (fun u hu => I8 u hu) _ h1
     have hrep : All2 (HR F s G w) (List.replicate len z) ((Array.range (len * i.size)).map (zv.cells[· % zv.cells.size]!)).toList := by
      have e1 : ((Array.range (len * i.size)).map (zv.cells[· % zv.cells.size]!)).toList = (List.replicate len zv.cells.toList).flatten := by
       have := Af0 zv.cells len (by omega)
       rw [hone] at this
       rw [his, ← this]
       simp [hone]
      rw [e1]
      have hgen : ∀ m : Nat, All2 (HR F s G w) (List.replicate m z) (List.replicate m zv.cells.toList).flatten := by
       intro m
       induction m with
       | zero => exact .nil
       | succ n ih => rw [List.replicate_succ, List.replicate_succ, List.flatten_cons]; exact hzl.app ih
      exact hgen len
     obtain ⟨cs, hfill, hrow⟩ := Z4 (R := HR F s G w) (fun k => some (k * 1, 1)) q _ (List.replicate len z) ls _ (Vi h ps.toList q hq) hrep hls
     have hall := (Uq hf).2.2
     have hno : ∀ l ∈ ls, l.noB (N0 + d) = true := by
      intro l hl
      rcases Z3 _ _ _ _ hls l hl with h3 | ⟨x, hx, h3⟩
      ·rw [List.eq_of_mem_replicate h3]
       have : z ∈ zv.cells.toList.map A1 := by rw [← ez]; simp
       obtain ⟨v, _, rfl⟩ := List.mem_map.1 this
       exact M5 _ _
      ·exact Ato hall _ _ hq x hx l h3
     obtain ⟨h2, h3⟩ := Afb h hf (by omega) hno (cs := cs) e hrow none
     have h4 := Holds.put h2 (some d) (v := lf (.sb (N0 + d) len)) (u := .slice (some ⟨w.heap.size, 0, none⟩) len len) (show Value.slice _ _ _ = _ by simp [Gm.setB])
     have h5 : o.dst = some d := hd
     rw [← hd] at h4 ⊢
     refine .value (u := .slice (some ⟨w.heap.size, 0, none⟩) len len) ?_ h4 (h3.trans (Step.put _ _))
     have e1 : (ps.map fun (x : Nat × Operand) => (x.1, a.eval x.2)).toList = ps.toList.map fun (x : Nat × Operand) => (x.1, a.eval x.2) := by simp
     have hrun := run_buildSlice (P := C.P) w t e len (ps.map fun (x : Nat × Operand) => (x.1, a.eval x.2)) cs i zv (Cz he) hi hzz (by rw [his]; omega) (by rw [his]; omega) (by rw [e1, his]; rw [his] at hfill; exact hfill)
     simp only [execOp, ho, Sem.run_bind]
     rw [hrun]
     rfl
    ·cases hv
   ·cases hv
  ·cases hv
 ·cases hv
theorem As7 (hE : Ba C) (h : Holds F s G a.tmps.toList w) {e : XE} (hv : (opP C s o.dst o.op).val = some (e, s')) (K : Act → World → Prop) (Q : Exit → Act → World → Prop)
  (hK : ∀ G' a' w', e = .normal → Holds F s' G' a'.tmps.toList w' → Step N0 N0 s G w s' G' w' → a'.defers = a.defers → K a' w')
  (hP : ∀ G' a' w' x, e ≠ .normal → ExR e x → Holds F s' G' a'.tmps.toList w' → Step N0 N0 s G w s' G' w' → a'.defers = a.defers → Q x a' w') : o.wp C.P a w K Q := by
 unfold opP at hv
 split at hv
 ·rename_i x ho
  split at hv
  ·rename_i t ps g hl
   split at hv
   ·rename_i hf
    simp only [Oc.val] at hv
    cases hv
    obtain ⟨cs, hcs, hx⟩ : HR F s G w (.ifc t ps g) (a.eval x) := Ao h hl
    unfold Oper.wp
    have hrun : (execOp a.eval o).run C.P w = .halt (.panic (a.eval x)) w := by
     rw [hx]
     simp only [execOp, ho, hx, Sem.run_bind, run_panic_iface]
     rfl
    rw [hrun, Oper.upon_panic]
    exact hP G a w _ (by simp) ⟨_, ⟨cs, hcs.imp_mem fun p u hp hr => ⟨List.all_eq_true.1 hf p hp, Alt (List.all_eq_true.1 hf p hp) hr⟩, hx⟩, rfl⟩ h (Step.refl _ _ _ _ _) rfl
   ·cases hv
  ·cases hv
 ·rename_i f as ts d ho hd
  split at hv
  ·rename_i g first caps hl
   have hfn : a.eval f = _ := Ao h hl
   have hargs := ((Pt h first).app (Aet h as.toList)).app (Pt h caps)
   obtain ⟨⟨fn, k1, k2, k3⟩, hcall⟩ := Wi (g := g) h hargs (C.env g) (hE g) hv
   unfold Oper.wp
   have hrun : (execOp a.eval o).run C.P w = .ok (.enter g (first.map (ptrV G) ++ as.toList.map a.eval ++ caps.map (ptrV G)).toArray) w := by
    have e1 : ((first.map (ptrV G)).toArray ++ as.map a.eval ++ (caps.map (ptrV G)).toArray) = (first.map (ptrV G) ++ as.toList.map a.eval ++ caps.map (ptrV G)).toArray := by
     rw [← Array.toList_inj]; simp
    simp only [execOp, ho, resolve, hfn, Deferred.ofValue, Sem.run_bind, Sem.run_pure, Result.andThen_ok, invoke, e1, Af2 k1 k2 k3]
   rw [hrun, Oper.upon_enter]
   refine hcall.mono ?_
   rintro r w' (⟨he, G', rv, rfl, h2, h3⟩ | ⟨t, ps, pg, v, he, h1, rfl, h2, h3⟩)
   ·rw [← hd] at h2
    exact hK _ _ _ he h2 h3 (Fm _ _ _)
   ·exact hP _ _ _ _ (by rw [he]; simp) (by rw [he]; exact ⟨v, h1, rfl⟩) h2 h3 rfl
  ·cases hv
 ·rename_i t len ps d ho hd
  split at hv
  ·rw [Oc.val_bind] at hv
   obtain ⟨s1, h1, h2⟩ := Option.bind_eq_some_iff.1 hv
   cases h2
   exact Pq hE h h1 K Q fun G' a' w' k1 k2 k3 => hK G' a' w' rfl k1 k2 k3
  ·rw [Oc.val_bind] at hv
   obtain ⟨s1, h1, h2⟩ := Option.bind_eq_some_iff.1 hv
   cases h2
   exact Air h ho hd h1 K Q fun G' a' w' k1 k2 k3 => hK G' a' w' rfl k1 k2 k3
 ·rw [Oc.val_bind] at hv
  obtain ⟨s1, h1, h2⟩ := Option.bind_eq_some_iff.1 hv
  cases h2
  exact Pq hE h h1 K Q fun G' a' w' k1 k2 k3 => hK G' a' w' rfl k1 k2 k3
def FOK (C : Cfg) (f : St → Option Nat → Op → Oc St) : Prop :=
 ∀ (F : Nat → Prop) (s s' : St) (G : Gm) (a : Act) (w : World) (o : Oper), Holds F s G a.tmps.toList w → (f s o.dst o.op).val = some s' → EOK C.P F s G a w o s'
variable {f : St → Option Nat → Op → Oc St}
theorem Atb (hE : FOK C f) {all : Array Oper} (h : Holds F s G a.tmps.toList w) (hv : (Ai f all s o).val = some s') (K : Act → World → Prop) (Q : Exit → Act → World → Prop)
  (hK : ∀ G' a' w', Holds F s' G' a'.tmps.toList w' → Step N0 N0 s G w s' G' w' → a'.defers = a.defers → K a' w') :
  if Region.wanted o (yielded all a.tmps) then o.wp C.P a w K Q else K (a.put o.dst undef) w := by
 unfold Ai at hv
 split at hv
 ·rename_i hg
  have : Region.wanted o (yielded all a.tmps) = true := by simp [Region.wanted, hg]
  rw [if_pos this]
  exact hE _ _ _ _ _ _ _ h hv K Q hK
 ·rename_i j want hg
  split at hv
  ·rename_i g hj
   split at hv
   ·rename_i c hc
    have h1 := Ka h hc
    have hy : yielded all a.tmps j = some c := by simp [yielded, hj, Xo h1]
    have hw : Region.wanted o (yielded all a.tmps) = (c == want) := by simp [Region.wanted, hg, hy]
    have h2 := Afq h hc
    rw [hw]
    have hskip : ∀ {b : Bool}, c = b → s' = (s.put (some g) (lf (pvB b))).put o.dst (.tup []) → K (a.put o.dst undef) w := by
     intro b hcb e
     subst hcb
     subst e
     exact hK G _ w (h2.put o.dst (v := .tup []) ⟨#[], rfl, .nil⟩) ((Step.put _ _).trans (Step.put _ _)) (Fm _ _ _)
    have hdo : ∀ {b : Bool}, c = b → (f (s.put (some g) (lf (pvB b))) o.dst o.op).val = some s' → o.wp C.P a w K Q := by
     intro b hcb e
     subst hcb
     exact hE _ _ _ _ _ _ _ h2 e K Q fun G' a' w' k1 k2 k3 => hK G' a' w' k1 ((Step.put _ _).trans k2) k3
    cases want <;> cases c <;> simp only [Oc.val, if_true, if_false, cond_true, cond_false, Bool.false_eq_true] at hv
    ·rw [if_pos (by rfl)]; exact hdo rfl hv
    ·rw [if_neg (by decide)]; exact hskip rfl (by cases hv; rfl)
    ·rw [if_neg (by decide)]; exact hskip rfl (by cases hv; rfl)
    ·rw [if_pos (by rfl)]; exact hdo rfl hv
   ·split at hv
    ·rename_i hu
     cases hv
     have hg1 : a.eval (.tmp g) = .tuple #[] := by
      have hA := Bz h (.tmp g)
      unfold Ld at hu
      split at hu
      ·rename_i e
       rw [e] at hA
       obtain ⟨vs, e1, e2⟩ := hA
       rw [e1]
       cases hq : vs.toList with
       | nil => rw [show vs = #[] from Array.toList_eq_nil_iff.1 hq]
       | cons u us => rw [hq] at e2; cases e2
      ·cases hu
     have hy : yielded all a.tmps j = none := by
      simp only [yielded, hj, Option.bind_some]
      simp only [Act.eval, Array.getD_eq_getD_getElem?] at hg1
      cases he : a.tmps[g]? with
      | none => rfl
      | some u => rw [he] at hg1; simp at hg1; rw [hg1]
     have hw : Region.wanted o (yielded all a.tmps) = false := by simp [Region.wanted, hg, hy]
     rw [hw, if_neg (by decide)]
     exact hK G _ w (h.put o.dst (v := .tup []) ⟨#[], rfl, .nil⟩) (Step.put _ _) (Fm _ _ _)
    ·cases hv
  ·cases hv
theorem Atc {R : Type} (all : Array Oper) : ∀ (l : List Oper) (s : St) (K : St → Option R) (r : R), opsK f all l s K = some r → ∃ s', K s' = some r ∧ l.foldl (fun x o => x.bind fun s => (Ai f all s o).val) (some s) = some s'
 | [], s, K, r, h => ⟨s, h, rfl⟩
 | o :: l, s, K, r, h => by
  simp only [opsK, Oc.runK_eq] at h
  obtain ⟨s1, h1, h2⟩ := Option.bind_eq_some_iff.1 h
  obtain ⟨s', h3, h4⟩ := Atc all l s1 K r h2
  refine ⟨s', h3, ?_⟩
  simp only [List.foldl_cons, Option.bind_some, h1]
  exact h4
theorem Am1 (all : Array Oper) : ∀ (l : List Oper), l.foldl (fun x o => x.bind fun s => (Ai f all s o).val) none = none
 | [] => rfl
 | o :: l => by simp only [List.foldl_cons, Option.bind_none]; exact Am1 all l
theorem As9 (hE : Ba C) {all : Array Oper} {e : XE} (h : Holds F s G a.tmps.toList w) (hv : (operP C all s o).val = some (e, s')) (K : Act → World → Prop) (Q : Exit → Act → World → Prop)
  (hK : ∀ G' a' w', e = .normal → Holds F s' G' a'.tmps.toList w' → Step N0 N0 s G w s' G' w' → a'.defers = a.defers → K a' w')
  (hP : ∀ G' a' w' x, e ≠ .normal → ExR e x → Holds F s' G' a'.tmps.toList w' → Step N0 N0 s G w s' G' w' → a'.defers = a.defers → Q x a' w') :
  if Region.wanted o (yielded all a.tmps) then o.wp C.P a w K Q else K (a.put o.dst undef) w := by
 unfold operP at hv
 split at hv
 ·rename_i hg
  have : Region.wanted o (yielded all a.tmps) = true := by simp [Region.wanted, hg]
  rw [if_pos this]
  exact As7 hE h hv K Q hK hP
 ·rename_i j want hg
  split at hv
  ·rename_i g hj
   split at hv
   ·rename_i c hc
    have h1 := Ka h hc
    have hy : yielded all a.tmps j = some c := by simp [yielded, hj, Xo h1]
    have hw : Region.wanted o (yielded all a.tmps) = (c == want) := by simp [Region.wanted, hg, hy]
    have h2 := Afq h hc
    rw [hw]
    have hskip : ∀ {b : Bool}, c = b → (e, s') = (XE.normal, (s.put (some g) (lf (pvB b))).put o.dst (.tup [])) → K (a.put o.dst undef) w := by
     intro b hcb e
     subst hcb
     cases e
     exact hK G _ w rfl (h2.put o.dst (v := .tup []) ⟨#[], rfl, .nil⟩) ((Step.put _ _).trans (Step.put _ _)) (Fm _ _ _)
    have hdo : ∀ {b : Bool}, c = b → (opP C (s.put (some g) (lf (pvB b))) o.dst o.op).val = some (e, s') → o.wp C.P a w K Q := by
     intro b hcb e
     subst hcb
     exact As7 hE h2 e K Q (fun G' a' w' k0 k1 k2 k3 => hK G' a' w' k0 k1 ((Step.put _ _).trans k2) k3) fun G' a' w' x k0 k1 k2 k3 k4 => hP G' a' w' x k0 k1 k2 ((Step.put _ _).trans k3) k4
    cases want <;> cases c <;> simp only [Oc.val, if_true, if_false, cond_true, cond_false, Bool.false_eq_true] at hv
    ·rw [if_pos (by rfl)]; exact hdo rfl hv
    ·rw [if_neg (by decide)]; exact hskip rfl (by cases hv; rfl)
    ·rw [if_neg (by decide)]; exact hskip rfl (by cases hv; rfl)
    ·rw [if_pos (by rfl)]; exact hdo rfl hv
   ·split at hv
    ·rename_i hu
     simp only [Oc.val] at hv
     cases hv
     have hg1 : a.eval (.tmp g) = .tuple #[] := by
      have hA := Bz h (.tmp g)
      unfold Ld at hu
      split at hu
      ·rename_i e
       rw [e] at hA
       obtain ⟨vs, e1, e2⟩ := hA
       rw [e1]
       cases hq : vs.toList with
       | nil => rw [show vs = #[] from Array.toList_eq_nil_iff.1 hq]
       | cons u us => rw [hq] at e2; cases e2
      ·cases hu
     have hy : yielded all a.tmps j = none := by
      simp only [yielded, hj, Option.bind_some]
      simp only [Act.eval, Array.getD_eq_getD_getElem?] at hg1
      cases he : a.tmps[g]? with
      | none => rfl
      | some u => rw [he] at hg1; simp at hg1; rw [hg1]
     have hw : Region.wanted o (yielded all a.tmps) = false := by simp [Region.wanted, hg, hy]
     rw [hw, if_neg (by decide)]
     exact hK G _ w rfl (h.put o.dst (v := .tup []) ⟨#[], rfl, .nil⟩) (Step.put _ _) (Fm _ _ _)
    ·cases hv
  ·cases hv
theorem Atd {R : Type} (hE : Ba C) (all : Array Oper) : ∀ (l : List Oper) (s : St) (K : XE → St → Option R) (r : R), opsP C all l s K = some r → ∃ e s', K e s' = some r ∧
  ∀ (F : Nat → Prop) (G : Gm) (a : Act) (w : World) (Q : Exit → Act → World → Prop), Holds F s G a.tmps.toList w →
   (∀ G' a' w' x, ExR e x → Holds F s' G' a'.tmps.toList w' → Step N0 N0 s G w s' G' w' → a'.defers = a.defers → Q x a' w') → wpList C.P all Q l a w
 | [], s, K, r, h => ⟨.normal, s, h, fun F G a w Q hH hQ => hQ G a w .normal rfl hH (Step.refl _ _ _ _ _) rfl⟩
 | o :: l, s, K, r, h => by
  have hfr : ∀ s' : St, (bif A6 o.op then Up s' (fun s' => opsP C all l s' K) else opsP C all l s' K) = opsP C all l s' K := fun s' => by
   cases A6 o.op
   ·rfl
   ·simp only [cond_true, A9v]
  simp only [opsP, Oc.runK_eq, hfr] at h
  obtain ⟨⟨e1, s1⟩, h1, h2⟩ := Option.bind_eq_some_iff.1 h
  by_cases he : e1 = .normal
  ·subst he
   simp only [goP] at h2
   obtain ⟨e, s', h3, h4⟩ := Atd hE all l s1 K r h2
   refine ⟨e, s', h3, fun F G a w Q hH hQ => wpList_step fun K' hK => As9 hE hH h1 K' Q (fun G1 a1 w1 _ k1 k2 k3 => hK _ _ ?_) fun G1 a1 w1 x k0 => absurd rfl k0⟩
   exact h4 F G1 a1 w1 Q k1 fun G2 a2 w2 x m0 m1 m2 m3 => hQ G2 a2 w2 x m0 m1 (k2.trans m2) (m3.trans k3)
  ·have h5 : K e1 s1 = some r := by
    unfold goP at h2
    cases e1 with
    | normal => exact absurd rfl he
    | _ => exact h2
   exact ⟨e1, s1, h5, fun F G a w Q hH hQ => wpList_step fun K' hK => As9 hE hH h1 K' Q (fun G1 a1 w1 k0 => absurd k0 he) fun G1 a1 w1 x _ k0 k1 k2 k3 => hQ G1 a1 w1 x k0 k1 k2 k3⟩
def Fy (C : Cfg) : Prop := ∀ (ops : Array Oper), commutes C ops = true → ∀ (F : Nat → Prop) (s s' : St) (G : Gm) (a : Act) (w : World) (Q : Exit → Act → World → Prop), Holds F s G a.tmps.toList w →
  ops.toList.foldl (fun x o => x.bind fun s => (Ai (opD C) ops s o).val) (some (clean C ops s)) = some s' →
  (∀ G' a' w', Holds F s' G' a'.tmps.toList w' → Step N0 N0 s G w s' G' w' → a'.defers = a.defers → Q .normal a' w') → ∀ id, (Code.region id ops true).wp C.P Q a w
theorem Step.le {nb no nb' no' : Nat} {G' : Gm} (h : Step nb no s G w s' G' w') (h1 : nb' ≤ nb) (h2 : no' ≤ no) : Step nb' no' s G w s' G' w' :=
 ⟨h.keeps, h.fresh, fun b hb => h.gb b (by omega), fun l hl => h.go l (by omega)⟩
theorem Z5 {n : Nat} {l : List Nat} (h : fixB n l = true) {i : Nat} (hi : i < n) : l.getD i (i + 1) = i := by
 have := List.all_eq_true.1 h i (List.mem_range.2 hi)
 simpa using this
theorem Afe {R : Type} {c : Code} {K : St → Option R} {r : R} (hn : norm C c s K = some r) : ∃ s', K s' = some r ∧ ∀ (F : Nat → Prop) (G : Gm) (vals : List Value) (w : World), Holds F s G vals w → ∃ G', Holds F s' G' vals w ∧ Step C.npB C.npO s G w s' G' w := by
 unfold norm at hn
 split at hn
 ·exact ⟨s, hn, fun F G vals w h => ⟨G, h, Step.refl _ _ _ _ _⟩⟩
 ·rename_i k hk
  split at hn
  ·rename_i x hx
   split at hn
   ·rename_i hfix
    simp only [Bool.and_eq_true] at hfix
    refine ⟨x.s, hn, fun F G vals w h => ?_⟩
    obtain ⟨hH, hL⟩ := Rc h hx
    obtain ⟨hnB, hnO, hdis, hdisB, as, bs, os, hA, hB, hO, hs⟩ := I7 hx
    obtain ⟨hOl, hOk, hOg⟩ := F5 hO
    refine ⟨_, hH.weakF (fun j hj => .inl hj), ⟨Keeps.refl _ _, fun j hj => .inl (hL j hj), fun b hb => ?_, fun l hl y hy => ?_⟩⟩
    ·have h1 := Z5 hfix.1 hb
     simp only [coG]
     have h2 : x.mB[b]? = some b := by
      simp only [List.getD] at h1
      cases he : x.mB[b]? with
      | none => rw [he] at h1; simp at h1
      | some z => rw [he] at h1; simp at h1; rw [h1]
     simp [List.getD, h2]
    ·rw [hs] at hy
     obtain ⟨⟨kk, hkk⟩, hor⟩ := hOg l y (Ha hy)
     have h1 := List.all_eq_true.1 hfix.2 l (List.mem_range.2 hl)
     simp only [List.getD, hkk, Option.getD_some] at h1
     rcases hor with ⟨m, f1, f2⟩ | ⟨f1, _⟩
     ·rw [f1] at h1
      simp at h1
      subst h1
      exact ⟨⟨y, f2⟩, by simp [coG, List.getD, f1]⟩
     ·rw [f1] at h1
      simp at h1
   ·cases hn
  ·cases hn
def Agy (C : Cfg) (c : Code) (s : St) (e : XE) (s' : St) : Prop :=
 ∀ (F : Nat → Prop) (G : Gm) (a : Act) (w : World) (Q : Exit → Act → World → Prop), Holds F s G a.tmps.toList w →
  (∀ G' a' w' x, ExR e x → Holds F s' G' a'.tmps.toList w' → Step C.npB C.npO s G w s' G' w' → a'.defers = a.defers → Q x a' w') → c.wp C.P Q a w
theorem Ass {R : Type} {b : Code} {K : XE → St → Option R} {k : Nat} (hb : ∀ (s : St) (K' : XE → St → Option R) (r : R), ev C k b s K' = some r → ∃ e s', K' e s' = some r ∧ Agy C b s e s') :
  ∀ (n : Nat) (s : St) (r : R), Ea (Ek C b (ev C k b) K) n s = some r → ∃ e s', K e s' = some r ∧ e ≠ .normal ∧ ∀ (F : Nat → Prop) (G : Gm) (a : Act) (w : World) (Q : Exit → Act → World → Prop), Holds F s G a.tmps.toList w →
   (∀ G' a' w' x, ExR e x → Holds F s' G' a'.tmps.toList w' → Step C.npB C.npO s G w s' G' w' → a'.defers = a.defers → Q x a' w') → Code.rounds C.P b Q n a w
 | 0, s, r, h => by cases h
 | n + 1, s, r, h => by
  simp only [Ea, Ek] at h
  obtain ⟨e1, s1, h1, h2⟩ := hb s _ r h
  have pass : e1 ≠ .normal → K e1 s1 = some r → ∃ e s', K e s' = some r ∧ e ≠ .normal ∧ ∀ (F : Nat → Prop) (G : Gm) (a : Act) (w : World) (Q : Exit → Act → World → Prop), Holds F s G a.tmps.toList w →
   (∀ G' a' w' x, ExR e x → Holds F s' G' a'.tmps.toList w' → Step C.npB C.npO s G w s' G' w' → a'.defers = a.defers → Q x a' w') → Code.rounds C.P b Q (n + 1) a w := by
   intro hne h1
   refine ⟨e1, s1, h1, hne, fun F G a w Q hH hQ => ?_⟩
   rw [rounds_succ]
   refine h2 F G a w _ hH fun G1 a1 w1 x k0 k1 k2 k3 => ?_
   have hQ1 := hQ G1 a1 w1 x k0 k1 k2 k3
   cases e1 with
   | normal => exact absurd rfl hne
   | exit id => cases k0; exact hQ1
   | ret => cases k0; exact hQ1
   | pan t ps g => obtain ⟨v, _, rfl⟩ := k0; exact hQ1
  cases e1 with
  | normal =>
   simp only [Lf] at h1
   obtain ⟨s2, h3, h4⟩ := Afe h1
   obtain ⟨e, s', h5, h6, h7⟩ := Ass hb n s2 r h3
   refine ⟨e, s', h5, h6, fun F G a w Q hH hQ => ?_⟩
   rw [rounds_succ]
   refine h2 F G a w _ hH fun G1 a1 w1 x k0 k1 k2 k3 => ?_
   cases k0
   obtain ⟨G2, k4, k5⟩ := h4 F G1 _ w1 k1
   exact h7 F G2 a1 w1 Q k4 fun G3 a3 w3 x m0 m1 m2 m3 => hQ G3 a3 w3 x m0 m1 ((k2.trans k5).trans m2) (m3.trans k3)
  | exit id => exact pass (by simp) h1
  | ret => exact pass (by simp) h1
  | pan t ps g => exact pass (by simp) h1
theorem Dp (hE : Ba C) (hD : Fy C) (hnb : C.npB ≤ N0) (hno : C.npO ≤ N0) (k : Nat) {R : Type} : ∀ (c : Code) (s : St) (K : XE → St → Option R) (r : R), ev C k c s K = some r → ∃ e s', K e s' = some r ∧ Agy C c s e s'
 | .skip, s, K, r, h => ⟨.normal, s, h, fun F G a w Q hH hQ => wp_skip (hQ G a w .normal rfl hH (Step.refl _ _ _ _ _) rfl)⟩
 | .label l, s, K, r, h => ⟨.normal, s, h, fun F G a w Q hH hQ => wp_label (hQ G a w .normal rfl hH (Step.refl _ _ _ _ _) rfl)⟩
 | .ret, s, K, r, h => ⟨.ret, s, h, fun F G a w Q hH hQ => wp_ret (hQ G a w .ret rfl hH (Step.refl _ _ _ _ _) rfl)⟩
 | .exit id, s, K, r, h => ⟨.exit id, s, h, fun F G a w Q hH hQ => wp_exit (hQ G a w (.exit id) rfl hH (Step.refl _ _ _ _ _) rfl)⟩
 | .region id ops draw, s, K, r, h => by
  simp only [ev] at h
  cases draw with
  | false =>
   obtain ⟨e, s', h1, h2⟩ := Atd hE ops ops.toList s K r h
   exact ⟨e, s', h1, fun F G a w Q hH hQ => wp_region_list (h2 F G a w Q hH fun G' a' w' x k0 k1 k2 k3 => hQ G' a' w' x k0 k1 (k2.le hnb hno) k3)⟩
  | true =>
   simp only [if_true] at h
   split at h
   ·rename_i hc
    obtain ⟨s', h1, h2⟩ := Atc ops ops.toList (clean C ops s) (K .normal) r h
    exact ⟨.normal, s', h1, fun F G a w Q hH hQ => hD ops hc F s s' G a w Q hH h2 (fun G' a' w' k1 k2 k3 => hQ G' a' w' .normal rfl k1 (k2.le hnb hno) k3) id⟩
   ·cases h
 | .seq x y, s, K, r, h => by
  simp only [ev] at h
  obtain ⟨e1, s1, h1, h2⟩ := Dp hE hD hnb hno k x s _ r h
  cases e1 with
  | normal =>
   simp only [seqK] at h1
   obtain ⟨s2, h3, h4⟩ := Afe h1
   obtain ⟨e, s', h5, h6⟩ := Dp hE hD hnb hno k y s2 _ r h3
   refine ⟨e, s', h5, fun F G a w Q hH hQ => wp_seq (h2 F G a w _ hH fun G1 a1 w1 x k0 k1 k2 k3 => ?_)⟩
   cases k0
   obtain ⟨G2, k4, k5⟩ := h4 F G1 _ w1 k1
   exact h6 F G2 a1 w1 Q k4 fun G3 a3 w3 x m0 m1 m2 m3 => hQ G3 a3 w3 x m0 m1 ((k2.trans k5).trans m2) (m3.trans k3)
  | exit id => exact ⟨.exit id, s1, h1, fun F G a w Q hH hQ => wp_seq (h2 F G a w _ hH fun G1 a1 w1 x k0 k1 k2 k3 => by cases k0; exact hQ G1 a1 w1 _ rfl k1 k2 k3)⟩
  | ret => exact ⟨.ret, s1, h1, fun F G a w Q hH hQ => wp_seq (h2 F G a w _ hH fun G1 a1 w1 x k0 k1 k2 k3 => by cases k0; exact hQ G1 a1 w1 _ rfl k1 k2 k3)⟩
  | pan t ps g => exact ⟨.pan t ps g, s1, h1, fun F G a w Q hH hQ => wp_seq (h2 F G a w _ hH fun G1 a1 w1 x k0 k1 k2 k3 => by obtain ⟨v, hv, rfl⟩ := k0; exact hQ G1 a1 w1 _ ⟨v, hv, rfl⟩ k1 k2 k3)⟩
 | .cond c x y, s, K, r, h => by
  simp only [ev] at h
  split at h
  ·rename_i b hb
   have href : ∀ (F : Nat → Prop) (G : Gm) (a : Act) (w : World), Holds F s G a.tmps.toList w → Holds F (refine s c b) G a.tmps.toList w ∧ Step C.npB C.npO s G w (refine s c b) G w := by
    intro F G a w hH
    unfold refine
    split
    ·exact ⟨Afq hH hb, Step.put _ _⟩
    ·exact ⟨hH, Step.refl _ _ _ _ _⟩
   cases b with
   | true =>
    simp only [cond_true] at h
    obtain ⟨e, s', h1, h2⟩ := Dp hE hD hnb hno k x _ _ r h
    refine ⟨e, s', h1, fun F G a w Q hH hQ => ?_⟩
    obtain ⟨k1, k2⟩ := href F G a w hH
    exact wp_cond_true (Ka hH hb) (h2 F G a w Q k1 fun G1 a1 w1 x m0 m1 m2 m3 => hQ G1 a1 w1 x m0 m1 (k2.trans m2) m3)
   | false =>
    simp only [cond_false] at h
    obtain ⟨e, s', h1, h2⟩ := Dp hE hD hnb hno k y _ _ r h
    refine ⟨e, s', h1, fun F G a w Q hH hQ => ?_⟩
    obtain ⟨k1, k2⟩ := href F G a w hH
    exact wp_cond_false (Ka hH hb) (h2 F G a w Q k1 fun G1 a1 w1 x m0 m1 m2 m3 => hQ G1 a1 w1 x m0 m1 (k2.trans m2) m3)
  ·cases h
 | .block id b, s, K, r, h => by
  simp only [ev] at h
  obtain ⟨e1, s1, h1, h2⟩ := Dp hE hD hnb hno k b s _ r h
  cases e1 with
  | normal => exact ⟨.normal, s1, h1, fun F G a w Q hH hQ => wp_block (h2 F G a w _ hH fun G1 a1 w1 x k0 k1 k2 k3 => by cases k0; exact hQ G1 a1 w1 _ rfl k1 k2 k3)⟩
  | exit i =>
   simp only [blkK] at h1
   split at h1
   ·rename_i e
    exact ⟨.normal, s1, h1, fun F G a w Q hH hQ => wp_block (h2 F G a w _ hH fun G1 a1 w1 x k0 k1 k2 k3 => by
     cases k0
     simp only [Exit.inBlock, e, if_true]
     exact hQ G1 a1 w1 _ rfl k1 k2 k3)⟩
   ·rename_i e
    exact ⟨.exit i, s1, h1, fun F G a w Q hH hQ => wp_block (h2 F G a w _ hH fun G1 a1 w1 x k0 k1 k2 k3 => by
     cases k0
     simp only [Exit.inBlock, e, if_false]
     exact hQ G1 a1 w1 _ rfl k1 k2 k3)⟩
  | ret => exact ⟨.ret, s1, h1, fun F G a w Q hH hQ => wp_block (h2 F G a w _ hH fun G1 a1 w1 x k0 k1 k2 k3 => by cases k0; exact hQ G1 a1 w1 _ rfl k1 k2 k3)⟩
  | pan t ps g => exact ⟨.pan t ps g, s1, h1, fun F G a w Q hH hQ => wp_block (h2 F G a w _ hH fun G1 a1 w1 x k0 k1 k2 k3 => by obtain ⟨v, hv, rfl⟩ := k0; exact hQ G1 a1 w1 _ ⟨v, hv, rfl⟩ k1 k2 k3)⟩
 | .loop b, s, K, r, h => by
  simp only [ev] at h
  obtain ⟨s1, h1, h2⟩ := Afe h
  obtain ⟨e, s', h3, h4, h5⟩ := Ass (fun s K' r h => Dp hE hD hnb hno k b s K' r h) k s1 r h1
  refine ⟨e, s', h3, fun F G a w Q hH hQ => wp_loop_rounds k ?_⟩
  obtain ⟨G1, k1, k2⟩ := h2 F G _ w hH
  exact h5 F G1 a w Q k1 fun G2 a2 w2 x m0 m1 m2 m3 => hQ G2 a2 w2 x m0 m1 (k2.trans m2) m3
 | .scope b, s, K, r, h => by cases h
 | .goto l, s, K, r, h => by cases h
 | .refuse y, s, K, r, h => by cases h
 | .rangeFunc f p x y, s, K, r, h => by cases h
end
section
variable {C : Cfg} {F : Nat → Prop} {s s' : St} {G : Gm} {a : Act} {w w' : World} {vals : List Value}
theorem Ati {α : Type} (l : List (Option α)) (n i : Nat) : ((l ++ List.replicate n none)[i]?).bind id = (l[i]?).bind id := by
  rw [List.getElem?_append]
  split
  · rfl
  · rename_i h
    rw [List.getElem?_replicate, List.getElem?_eq_none (by omega)]
    split <;> rfl
theorem Xm (k : Sk) (n m : Nat) (ps : List PL) (b : Nat) : Aa (enc k n ps) b = Aa (enc k m ps) b := by
  unfold Aa enc; simp only [Ati]
theorem Sc (k : Sk) (n m : Nat) (ps : List PL) (b : Nat) : Ab (enc k n ps) b = Ab (enc k m ps) b := by
  unfold Ab enc; simp only [Ati]
theorem Ait : ∀ (ks : List SA) (ps : List PL), (Bc ks ps).length = ks.length
  | [], _ => rfl
  | k :: ks, ps => by simp [Bc, Ait ks]
def resS (tmps : Array Value) : ResultVar → Sem Value
  | .tmp t => pure (tmps.getD t undef)
  | .cell a t => do loadVar t (← asAddr (tmps.getD a undef))
theorem Bb5 (h : Holds F s G a.tmps.toList w) (hu : ∀ r ∈ ([] : List Nat), True) {r : ResultVar} {v : AV} (hv : Vn C.P s r = some v) :
    ∃ u, (resS a.tmps r).run C.P w = .ok u w ∧ HA (HR F s G w) v u := by
  cases r with
  | tmp t =>
    simp only [Vn] at hv
    cases hv
    exact ⟨_, rfl, Bz h (.tmp t)⟩
  | cell b t =>
    simp only [Vn] at hv
    obtain ⟨l, h1, h2⟩ := Option.bind_eq_some_iff.1 hv
    obtain ⟨n, h3, h4⟩ := Option.bind_eq_some_iff.1 h2
    obtain ⟨ls, h5, h6⟩ := Option.bind_eq_some_iff.1 h4
    split at h6
    · rename_i hus
      obtain ⟨ad, cs, hp, hc, hcl, ha⟩ := Asp h (Ao h (x := .tmp b) h1) h5
      have h7 : B0 C.P t = true ∨ n = 1 := by
        cases hg : B0 C.P t with
        | true => exact .inl rfl
        | false =>
          rw [hg] at h6
          simp only [mkAV, Bool.false_eq_true, if_false] at h6
          split at h6
          · rename_i l'
            have := ha.len
            simp at this
            exact .inr (by omega)
          · cases h6
      refine ⟨_, ?_, Ae4 ha h6⟩
      have e : a.tmps.getD b undef = .pointer (some ad) := hp
      simp only [resS, e, asAddr, Sem.run_bind, Sem.run_pure, Result.andThen_ok]
      exact Asq h3 hc hcl h7 hus
    · cases h6
theorem At7 (h : Holds F s G a.tmps.toList w) : ∀ (rs : List ResultVar) (as : List AV), Vo C.P s rs = some as →
    ∃ us : List Value, (rs.mapM (resS a.tmps)).run C.P w = .ok us w ∧ All2 (HA (HR F s G w)) as us
  | [], as, h1 => by cases h1; exact ⟨[], rfl, .nil⟩
  | r :: rs, as, h1 => by
    simp only [Vo] at h1
    obtain ⟨v, h2, h3⟩ := Option.bind_eq_some_iff.1 h1
    obtain ⟨q, h4, rfl⟩ := Option.map_eq_some_iff.1 h3
    obtain ⟨u, h5, h6⟩ := Bb5 h (fun _ _ => trivial) h2
    obtain ⟨us, h7, h8⟩ := At7 h rs q h4
    refine ⟨u :: us, ?_, .cons h6 h8⟩
    simp only [List.mapM_cons, Sem.run_bind, h5, Result.andThen_ok, h7, Sem.run_pure]
theorem Bb6 {fn : Func} {tmps : Array Value} {us : List Value} {P : Program} {w : World} (h : (fn.results.toList.mapM (resS tmps)).run P w = .ok us w) : (results fn tmps).run P w = .ok (retV us) w := by
  have key : results fn tmps = (do let vs ← fn.results.mapM (resS tmps); pure (if h : vs.size = 1 then vs[0] else .tuple vs)) := by
    unfold results
    congr 1
  rw [key, Array.mapM_eq_mapM_toList]
  simp only [Sem.run_bind, Sem.run_map]
  rw [h]
  simp only [Result.andThen_ok, Sem.run_pure]
  congr 1
  match us with
  | [] => rfl
  | [v] => rfl
  | _ :: _ :: _ => rfl
theorem Af1 {fn : Func} {kin kout : Sk} {x : HLs kin.tys} {y : HLs kout.tys} {s1 : St} {G1 : Gm} {a1 : Act} {w1 : World} (hnB : C.npB = kin.boxes.length) (hnO : C.npO = kin.owns.length)
    (k1 : Holds F s1 G1 a1.tmps.toList w1) (k2 : Step C.npB C.npO { enc kin C.n (toPL kin.tys x) with slots := Bc kin.slots (toPL kin.tys x) ++ List.replicate (fn.ntmps - kin.slots.length) AV.dead } G w s1 G1 w1)
    (hfin : finish C fn.results kout s1 = some y) : ∃ (rv : List Value) (G' : Gm), (results fn a1.tmps).run C.P w1 = .ok (retV rv) w1 ∧ Holds F (enc kout (szS kout) (toPL kout.tys y)) G' rv w1 ∧
      Step kin.boxes.length kin.owns.length (enc kin (szS kin) (toPL kin.tys x)) G w (enc kout (szS kout) (toPL kout.tys y)) G' w1 := by
  unfold finish at hfin
  obtain ⟨as, g1, g2⟩ := Option.bind_eq_some_iff.1 hfin
  obtain ⟨cc, g3, g4⟩ := Option.bind_eq_some_iff.1 g2
  split at g4
  · rename_i hfix
    obtain ⟨qs, g5, g6⟩ := Option.bind_eq_some_iff.1 g4
    obtain ⟨us, m1, m2⟩ := At7 (a := a1) k1 fn.results.toList as g1
    have hres := Bb6 (fn := fn) (tmps := a1.tmps) m1
    have h0 : Holds F { s1 with slots := as } G1 us w1 := ⟨m2, k1.box, k1.own, k1.bb, k1.bo, k1.oo, k1.nF, k1.Flt, k1.ty, k1.gl⟩
    obtain ⟨hH2, hL⟩ := Rc h0 g3
    obtain ⟨hnB', hnO', hdis, hdisB, as', bs, os, hA, hB, hO, hs⟩ := I7 g3
    obtain ⟨hOl, hOk, hOg⟩ := F5 hO
    obtain ⟨d1, d2, d3⟩ := R9 g5 (szS kout)
    rw [← Hh g6] at d1 d2 d3
    have hH3 := (hH2.weakF (fun j hj => .inl hj)).ext d1 d2 d3
    refine ⟨us, _, hres, hH3, ?_⟩
    simp only [Bool.and_eq_true] at hfix
    have hstep : Step C.npB C.npO s1 G1 w1 cc.s (coG G1 cc.mB cc.mO) w1 := by
      refine ⟨Keeps.refl _ _, fun j hj => .inl (hL j hj), fun b hb => ?_, fun l hl z hz => ?_⟩
      · have h1 := Z5 hfix.1 hb
        simp only [coG]
        have h2 : cc.mB[b]? = some b := by
          simp only [List.getD] at h1
          cases he : cc.mB[b]? with
          | none => rw [he] at h1; simp at h1
          | some z => rw [he] at h1; simp at h1; rw [h1]
        simp [List.getD, h2]
      · rw [hs] at hz
        obtain ⟨⟨kk, hkk⟩, hor⟩ := hOg l z (Ha hz)
        have h1 := List.all_eq_true.1 hfix.2 l (List.mem_range.2 hl)
        simp only [List.getD, hkk, Option.getD_some] at h1
        rcases hor with ⟨m, f1, f2⟩ | ⟨f1, _⟩
        · rw [f1] at h1
          simp at h1
          subst h1
          exact ⟨⟨z, f2⟩, by simp [coG, List.getD, f1]⟩
        · rw [f1] at h1
          simp at h1
    have ht := k2.trans hstep
    rw [hnB, hnO] at ht
    have e1 : Live (enc kin (szS kin) (toPL kin.tys x)) = Live { enc kin C.n (toPL kin.tys x) with slots := Bc kin.slots (toPL kin.tys x) ++ List.replicate (fn.ntmps - kin.slots.length) AV.dead } := by
      funext G k
      have b1 : ∀ b, Aa { enc kin C.n (toPL kin.tys x) with slots := Bc kin.slots (toPL kin.tys x) ++ List.replicate (fn.ntmps - kin.slots.length) AV.dead } b = Aa (enc kin (szS kin) (toPL kin.tys x)) b := fun b => Xm _ _ _ _ _
      have b2 : ∀ b, Ab { enc kin C.n (toPL kin.tys x) with slots := Bc kin.slots (toPL kin.tys x) ++ List.replicate (fn.ntmps - kin.slots.length) AV.dead } b = Ab (enc kin (szS kin) (toPL kin.tys x)) b := fun b => Sc _ _ _ _ _
      simp [Live, b1, b2]
    have e2 : ∀ G, Live (enc kout (szS kout) (toPL kout.tys y)) G = Live cc.s G := by
      intro G
      funext k
      simp [Live, d2, d3]
    refine ⟨⟨ht.keeps.os, ht.keeps.tape, ht.keeps.output, ht.keeps.size, fun j hj hn => ht.keeps.block j hj (by rw [← e1]; exact hn)⟩, fun j hj => ?_, ht.gb, fun l hl z hz => ?_⟩
    · rw [e2] at hj
      have := ht.fresh j hj
      rw [← e1] at this
      exact this
    · obtain ⟨⟨z', hz'⟩, h9⟩ := ht.go l hl z (by rw [← d3]; exact hz)
      exact ⟨⟨z', (Sc kin C.n (szS kin) (toPL kin.tys x) l).symm.trans hz'⟩, h9⟩
  · cases g4
theorem Agj {fn : Func} {kin : Sk} {x : HLs kin.tys} (hH : Holds F (enc kin (szS kin) (toPL kin.tys x)) G vals w) : Holds F { enc kin C.n (toPL kin.tys x) with slots := Bc kin.slots (toPL kin.tys x) ++ List.replicate (fn.ntmps - kin.slots.length) AV.dead } G (vals.toArray ++ Array.replicate (fn.ntmps - vals.toArray.size) undef).toList w := by
  have hargs : vals.length = kin.slots.length := by
    have := hH.slots.len
    have e2 : (enc kin (szS kin) (toPL kin.tys x)).slots = Bc kin.slots (toPL kin.tys x) := rfl
    rw [e2, Ait] at this
    exact this.symm
  have hS : Holds F { enc kin C.n (toPL kin.tys x) with slots := Bc kin.slots (toPL kin.tys x) } G vals w := hH.ext rfl (fun b => Xm _ _ _ _ _) (fun b => Sc _ _ _ _ _)
  refine ⟨?_, hS.box, hS.own, hS.bb, hS.bo, hS.oo, hS.nF, hS.Flt, hS.ty, hS.gl⟩
  simp only [Array.toList_append, Array.toList_replicate]
  refine hS.slots.app ?_
  rw [← hargs, List.size_toArray]
  have : ∀ n : Nat, All2 (HA (HR F { enc kin C.n (toPL kin.tys x) with slots := Bc kin.slots (toPL kin.tys x) } G w)) (List.replicate n AV.dead) (List.replicate n undef) := by
    intro n
    induction n with
    | zero => exact .nil
    | succ n ih => rw [List.replicate_succ, List.replicate_succ]; exact .cons trivial ih
  exact this _
theorem A6m (hE : Ba C) (hD : Fy C) (k : Nat) {g : Nat} {fn : Func} {c : Code} (hf : C.P.funcs[g]? = some fn) (hname : (fn.name == "runtime.NumGoroutine") = false) (hb : fn.body = some c) (kin kout : Sk)
    (hnB : C.npB = kin.boxes.length) (hnO : C.npO = kin.owns.length) (hlB : C.npB ≤ N0) (hlO : C.npO ≤ N0) : Ac C.P g ⟨kin, kout, B2 kin.tys kout.tys (Ah C k fn kin kout)⟩ := by
  refine ⟨⟨fn, hf, hname, by rw [hb]; rfl⟩, fun ps qs hrun => ?_⟩
  show V4 _ _ _ _ _ _
  intro F G vals w hH
  have hrun' := hrun
  simp only [B2] at hrun'
  split at hrun'
  · rename_i x hx
    obtain ⟨y, hy, hq⟩ := Option.bind_eq_some_iff.1 hrun'
    cases hq
    have hps := Hh hx
    subst hps
    unfold Ah at hy
    have hbody : Bs fn = c := by simp [Bs, hb]
    rw [hbody] at hy
    obtain ⟨e, s1, h1, h2⟩ := Dp hE hD hlB hlO k c _ _ y hy
    refine calls_of_wp hf hb (h2 F G _ w _ (Agj hH) fun G1 a1 w1 ex k0 k1 k2 k3 => ?_)
    have fin : ∀ (hfin : finish C fn.results kout s1 = some y), ∃ v, (results fn a1.tmps).run C.P w1 = .ok v w1 ∧ ∃ G' rv, Ending.returned v = .returned (retV rv) ∧ Holds F (enc kout (szS kout) (toPL kout.tys y)) G' rv w1 ∧
        Step kin.boxes.length kin.owns.length (enc kin (szS kin) (toPL kin.tys x)) G w (enc kout (szS kout) (toPL kout.tys y)) G' w1 := fun hfin => by
      obtain ⟨rv, G', r1, r2, r3⟩ := Af1 hnB hnO k1 k2 hfin
      exact ⟨_, r1, G', rv, rfl, r2, r3⟩
    cases e with
    | normal => cases k0; exact ⟨k3, fin h1⟩
    | ret => cases k0; exact ⟨k3, fin h1⟩
    | exit i => cases h1
    | pan t ps g => cases h1
  · cases hrun'
theorem A6l (hE : Ba C) (hD : Fy C) (k : Nat) {g : Nat} {fn : Func} {c : Code} (hf : C.P.funcs[g]? = some fn) (hname : (fn.name == "runtime.NumGoroutine") = false) (hb : fn.body = some c) (kin kout : Sk) (pt : Nat) (tp : List Ty) (pg : Bool)
    (hnB : C.npB = kin.boxes.length) (hnO : C.npO = kin.owns.length) (hlB : C.npB ≤ N0) (hlO : C.npO ≤ N0) : Ac C.P g ⟨kin, kout, Am kin.tys kout.tys pt tp pg (Al C k fn kin kout pt tp pg)⟩ := by
  refine ⟨⟨fn, hf, hname, by rw [hb]; rfl⟩, fun ps qs hrun => ?_⟩
  show Agx _ _ _ _ _ (.pan pt tp pg) _ _
  intro F G vals w hH
  have hrun' := hrun
  simp only [Am] at hrun'
  split at hrun'
  · rename_i x hx
    obtain ⟨y, hy, hq⟩ := Option.bind_eq_some_iff.1 hrun'
    have hps := Hh hx
    subst hps
    unfold Al at hy
    have hbody : Bs fn = c := by simp [Bs, hb]
    rw [hbody] at hy
    obtain ⟨e, s1, h1, h2⟩ := Dp hE hD hlB hlO k c _ _ y hy
    refine calls_of_wp hf hb (h2 F G _ w _ (Agj hH) fun G1 a1 w1 ex k0 k1 k2 k3 => ?_)
    have fin : ∀ {z : HLs kout.tys}, y = .inl z → finish C fn.results kout s1 = some z → ∃ v, (results fn a1.tmps).run C.P w1 = .ok v w1 ∧
        ((∃ q G' rv, qs = ⟨.bool, false⟩ :: q ∧ Ending.returned v = .returned (retV rv) ∧ Holds F (enc kout (szS kout) q) G' rv w1 ∧ Step kin.boxes.length kin.owns.length (enc kin (szS kin) (toPL kin.tys x)) G w (enc kout (szS kout) q) G' w1) ∨
         (∃ q u, qs = ⟨.bool, true⟩ :: q ∧ Ending.returned v = .panicked [{ v := u, recovered := false }] ∧ PanV pt q pg u ∧ Keeps (Live (enc kin (szS kin) (toPL kin.tys x)) G) w w1)) := fun {z} hz hfin => by
      subst hz
      cases hq
      obtain ⟨rv, G', r1, r2, r3⟩ := Af1 hnB hnO k1 k2 hfin
      exact ⟨_, r1, .inl ⟨_, G', rv, rfl, rfl, r2, r3⟩⟩
    cases e with
    | normal => cases k0; obtain ⟨z, h3, h4⟩ := Option.map_eq_some_iff.1 h1; exact ⟨k3, fin h4.symm h3⟩
    | ret => cases k0; obtain ⟨z, h3, h4⟩ := Option.map_eq_some_iff.1 h1; exact ⟨k3, fin h4.symm h3⟩
    | exit i => cases h1
    | pan t ps g =>
      obtain ⟨v, hv, rfl⟩ := k0
      simp only [retKP] at h1
      split at h1
      · rename_i ht
        simp only [Bool.and_eq_true, beq_iff_eq] at ht
        obtain ⟨rfl, rfl⟩ := ht
        obtain ⟨z, h3, rfl⟩ := Option.map_eq_some_iff.1 h1
        cases hq
        have hz := Hh h3
        refine ⟨k3, .inr ⟨_, v, rfl, rfl, by rw [hz]; exact hv, ?_⟩⟩
        have e1 : Live (enc kin (szS kin) (toPL kin.tys x)) = Live { enc kin C.n (toPL kin.tys x) with slots := Bc kin.slots (toPL kin.tys x) ++ List.replicate (fn.ntmps - kin.slots.length) AV.dead } := by
          funext G k
          have b1 : ∀ b, Aa { enc kin C.n (toPL kin.tys x) with slots := Bc kin.slots (toPL kin.tys x) ++ List.replicate (fn.ntmps - kin.slots.length) AV.dead } b = Aa (enc kin (szS kin) (toPL kin.tys x)) b := fun b => Xm _ _ _ _ _
          have b2 : ∀ b, Ab { enc kin C.n (toPL kin.tys x) with slots := Bc kin.slots (toPL kin.tys x) ++ List.replicate (fn.ntmps - kin.slots.length) AV.dead } b = Ab (enc kin (szS kin) (toPL kin.tys x)) b := fun b => Sc _ _ _ _ _
          simp [Live, b1, b2]
        rw [e1]
        exact k2.keeps
      · cases h1
  · cases hrun'
end
section
variable {C : Cfg} {F : Nat → Prop} {s s' : St} {G : Gm} {a : Act} {w w' : World} {o : Oper} {v : AV} {vals : List Value}
theorem Ay {d : Nat} {v : AV} {x : Operand} (h : x ≠ .tmp d) : (s.put (some d) v).get x = s.get x := by
 cases x with
 | tmp t =>
  have hne : d ≠ t := fun e => h (by rw [e])
  simp only [St.get, St.put, List.getD, List.getElem?_set_ne hne]
 | _ => rfl
theorem Bav {d : Option Nat} {v : AV} {n : Nat} {l : L} : Bv (s.put d v) n l = Bv s n l := by
 unfold Bv
 cases l <;> simp
theorem Vh {d : Nat} {v : AV} : ∀ (ps : List (Nat × Operand)), (∀ x ∈ ps, x.2 ≠ .tmp d) → Bj (s.put (some d) v) ps = Bj s ps
 | [], _ => rfl
 | (i, x) :: r, h => by
  simp only [Bj]
  rw [Ay (h (i, x) (by simp)), Vh r fun y hy => h y (by simp [hy])]
theorem Ab0 {d : Nat} {v : AV} : ∀ (xs : List Operand), (∀ x ∈ xs, x ≠ .tmp d) → C6 (s.put (some d) v) xs = C6 s xs
 | [], _ => rfl
 | x :: r, h => by
  simp only [C6]
  rw [Ay (h x (by simp)), Ab0 r fun y hy => h y (by simp [hy])]
theorem Ar1 {d : Nat} {v : AV} (xs : List Operand) (h : ∀ x ∈ xs, x ≠ .tmp d) : xs.map (s.put (some d) v).get = xs.map s.get := by
 apply List.map_congr_left
 intro x hx
 exact Ay (h x hx)
theorem Bbc {d : Option Nat} {v : AV} {l : Nat} : Jo (s.put d v) l = Jo s l := by simp [Jo]
theorem Atf {d : Nat} {v : AV} {k : Int} {x : Option Operand} (h : ∀ y, x = some y → y ≠ .tmp d) : A3 (s.put (some d) v) k x = A3 s k x := by
 cases x with
 | none => rfl
 | some y => simp only [A3]; rw [Ay (h y rfl)]
theorem opV_put {d : Nat} {v : AV} (op : Op) (h : ∀ x ∈ op.operands, x ≠ .tmp d) : opV C.P (s.put (some d) v) op = opV C.P s op := by
 cases op with
 | move x => simp only [opV]; rw [Ay (h x (by simp [Op.operands]))]
 | assign x => simp only [opV]; rw [Ay (h x (by simp [Op.operands]))]
 | pick c x y => simp only [opV]; rw [Ay (h c (by simp [Op.operands])), Ay (h x (by simp [Op.operands])), Ay (h y (by simp [Op.operands]))]
 | build t ps =>
  simp only [opV]
  rw [Vh ps.toList fun x hx => h x.2 (by simp only [Op.operands]; exact List.mem_toArray.2 (List.mem_map.2 ⟨x, hx, rfl⟩))]
 | load t x => simp only [opV, Bav]; rw [Ay (h x (by simp [Op.operands]))]
 | nilCheck x => simp only [opV]; rw [Ay (h x (by simp [Op.operands]))]
 | binOp op t x y t' => simp only [opV]; rw [Ay (h x (by simp [Op.operands])), Ay (h y (by simp [Op.operands]))]
 | unOp op t x => simp only [opV]; rw [Ay (h x (by simp [Op.operands]))]
 | convert t1 t2 x => simp only [opV, Bbc]; rw [Ay (h x (by simp [Op.operands]))]
 | makeInterface t x => simp only [opV]; rw [Ay (h x (by simp [Op.operands]))]
 | makeFunc f x y =>
  cases f with
  | func f =>
   simp only [opV]
   rw [Ab0 x.toList fun z hz => h z (by simp [Op.operands]; exact .inl (Array.mem_def.2 hz)), Ab0 y.toList fun z hz => h z (by simp [Op.operands]; exact .inr (Array.mem_def.2 hz))]
  | _ => rfl
 | fieldAddr S x f => simp only [opV]; rw [Ay (h x (by simp [Op.operands]))]
 | field S x f => simp only [opV]; rw [Ay (h x (by simp [Op.operands]))]
 | indexAddr T x y => simp only [opV, put_ownAt]; rw [Ay (h x (by simp [Op.operands])), Ay (h y (by simp [Op.operands]))]
 | index T x y => simp only [opV]; rw [Ay (h x (by simp [Op.operands])), Ay (h y (by simp [Op.operands]))]
 | extract x i => simp only [opV]; rw [Ay (h x (by simp [Op.operands]))]
 | slice T x lo hi mx =>
  cases mx with
  | some m => rfl
  | none =>
   have h1 : ∀ k, A3 (s.put (some d) v) k lo = A3 s k lo := fun k => Atf fun y hy => h y (by subst hy; simp [Op.operands])
   have h2 : ∀ k, A3 (s.put (some d) v) k hi = A3 s k hi := fun k => Atf fun y hy => h y (by subst hy; simp [Op.operands])
   simp only [opV, h1, h2]
   rw [Ay (h x (by simp [Op.operands]))]
 | call c =>
  obtain ⟨f, as, ts⟩ := c
  cases f with
  | builtin b =>
   have hg : as.toList.map (s.put (some d) v).get = as.toList.map s.get := Ar1 _ fun x hx => h x (by simp [Op.operands, Call.operands]; exact Array.mem_def.2 hx)
   cases b <;> first | rfl | skip
   ·simp only [opV, put_ownAt]
    have : (as[0]?.bind fun x => Af ((s.put (some d) v).get x)) = (as[0]?.bind fun x => Af (s.get x)) := by
     cases he : as[0]? with
     | none => rfl
     | some x =>
      simp only [Option.bind_some]
      rw [Ay (h x (by simp [Op.operands, Call.operands]; exact Array.mem_of_getElem? he))]
    rw [this]
   ·simp only [opV, hg]
   ·simp only [opV, hg]
  | _ => rfl
 | _ => rfl
theorem Ba9 {d : Nat} {v : AV} (op : Op) (h : ∀ x ∈ op.operands, x ≠ .tmp d) : opVD C (s.put (some d) v) op = opVD C s op := by
 unfold opVD
 split
 ·rename_i f as ts
  have hg : as.toList.map (s.put (some d) v).get = as.toList.map s.get := Ar1 _ fun x hx => h x (by simp [Op.operands, Call.operands]; exact .inr (Array.mem_def.2 hx))
  rw [Ay (h f (by simp [Op.operands, Call.operands]))]
  have : ∀ (args : List AV) (l : List Sig), Em (s.put (some d) v) args l = Em s args l := by
   intro args l
   induction l with
   | nil => rfl
   | cons g r ih =>
    simp only [Em]
    have e : ({ s.put (some d) v with slots := args } : St) = { s with slots := args } := rfl
    rw [e, ih]
  split
  ·rw [hg, this]
  ·rfl
 ·exact opV_put op h
theorem Ayv {v : AV} {b : Bool} (h : Cx v = some b) : v = lf (pvB b) := by
 unfold Cx at h
 split at h
 ·cases h; rfl
 ·cases h
theorem Bby {g : Nat} {b : Bool} (h : Cx (s.get (.tmp g)) = some b) : s.put (some g) (lf (pvB b)) = s := by
 have h1 := Ayv h
 simp only [St.get, List.getD] at h1
 cases he : s.slots[g]? with
 | none => rw [he] at h1; simp [lf] at h1
 | some x =>
  rw [he] at h1
  simp at h1
  subst h1
  obtain ⟨sl, bx, ow⟩ := s
  simp only [St.put]
  congr 1
  apply List.ext_getElem?
  intro i
  rw [List.getElem?_set]
  split
  ·rename_i e
   subst e
   split
   ·exact he.symm
   ·rename_i hl
    rw [List.getElem?_eq_none (by omega)]
  ·rfl
def Vv (C : Cfg) (o : Oper) (s : St) : Option AV := if ldOk C s o.dst o.op then (opVD C s o.op).val else none
def Vg (C : Cfg) (all : Array Oper) (o : Oper) (s : St) : Option AV :=
 match o.guard with
 | none => Vv C o s
 | some (j, want) => match (all[j]?).bind (·.dst) with
  | some g => match Cx (s.get (.tmp g)) with
   | some c => if c == want then Vv C o s else some (.tup [])
   | none => if Ld (s.get (.tmp g)) then some (.tup []) else none
  | none => none
theorem Aev {o : Oper} (h : isNo C o = true) : kk C o = .no := by
 unfold isNo at h
 split at h
 ·assumption
 ·cases h
theorem Is {all : Array Oper} (hk : kk C o = .no) (hv : isV o.op = true) (hc : A6 o.op = true → o.dst ≠ none) : (Ai (opD C) all s o).val = (Vg C all o s).map fun v => s.put o.dst v := by
 have hD : ∀ s : St, (opD C s o.dst o.op).val = (Vv C o s).map fun v => s.put o.dst v := by
  intro s
  have hk' : kkd C o.dst o.op = .no := hk
  unfold opD Vv
  rw [hk']
  simp only [opDn]
  rw [if_pos hv, if_neg]
  ·split
   ·rw [Oc.val_bind]
    cases (opVD C s o.op).val <;> rfl
   ·rfl
  ·intro e
   simp only [Bool.and_eq_true, Option.isNone_iff_eq_none] at e
   exact hc e.1 e.2
 unfold Ai Vg
 cases hg : o.guard with
 | none => exact hD s
 | some jw =>
  obtain ⟨j, want⟩ := jw
  simp only []
  cases hj : (all[j]?).bind (·.dst) with
  | none => rfl
  | some g =>
   simp only []
   cases hb : Cx (s.get (.tmp g)) with
   | none => cases Ld (s.get (.tmp g)) <;> rfl
   | some c =>
    have hs : s.put (some g) (lf (pvB c)) = s := Bby hb
    cases want <;> cases c <;> simp only [Oc.val, if_true, if_false, cond_true, cond_false, Bool.false_eq_true, beq_self_eq_true, Option.map_some]
    ·rw [hs]; exact hD s
    ·rw [hs]; rfl
    ·rw [hs]; rfl
    ·rw [hs]; exact hD s
theorem Bat {d : Nat} {v : AV} {dst : Option Nat} (op : Op) (h : ∀ x ∈ op.operands, x ≠ .tmp d) : ldOk C (s.put (some d) v) dst op = ldOk C s dst op := by
 cases op with
 | load t a => unfold ldOk; cases dst <;> simp only []; rw [Ay (h a (by simp [Op.operands]))]
 | nilCheck a => unfold ldOk; cases dst <;> simp only []; rw [Ay (h a (by simp [Op.operands]))]
 | fieldAddr S a f => unfold ldOk; cases dst <;> simp only []; rw [Ay (h a (by simp [Op.operands]))]
 | _ => rfl
theorem Agz {all : Array Oper} {d : Nat} {v : AV} (h : d ∉ o.looksAt all) : Vg C all o (s.put (some d) v) = Vg C all o s := by
 have h1 : ∀ x ∈ o.op.operands, x ≠ .tmp d := by
  intro x hx e
  subst e
  exact h (List.mem_append_left _ (List.mem_filterMap.2 ⟨.tmp d, by simpa using hx, rfl⟩))
 have h2 : Vv C o (s.put (some d) v) = Vv C o s := by
  unfold Vv
  rw [Ba9 _ h1, Bat _ h1]
 unfold Vg
 split
 ·rw [h2]
 ·rename_i j want hg
  split
  ·rename_i g hj
   have hne : d ≠ g := by
    rintro rfl
    exact h (List.mem_append_right _ (by simp [hg, hj]))
   rw [Ay (x := .tmp g) (fun e => hne (by injection e with e; exact e.symm))]
   split
   ·rw [h2]
   ·rfl
  ·rfl
theorem Ln {x y : Option Nat} {u v : AV} (h : ∀ d, x = some d → y ≠ some d) : (s.put x u).put y v = (s.put y v).put x u := by
 cases x with
 | none => rfl
 | some d =>
  cases y with
  | none => rfl
  | some e =>
   have hne : d ≠ e := fun he => h d rfl (by rw [he])
   simp only [St.put]
   rw [List.set_comm _ _ hne]
theorem Bc5 {all : Array Oper} {x y : Oper} (kx : kk C x = .no) (ky : kk C y = .no) (hx : isV x.op = true) (hy : isV y.op = true) (hcx : A6 x.op = true → x.dst ≠ none) (hcy : A6 y.op = true → y.dst ≠ none) (hap : x.apart all y = true) {s1 s2 : St}
  (h1 : (Ai (opD C) all s x).val = some s1) (h2 : (Ai (opD C) all s1 y).val = some s2) : ∃ s3, (Ai (opD C) all s y).val = some s3 ∧ (Ai (opD C) all s3 x).val = some s2 := by
 obtain ⟨a1, a2, a3⟩ := Oper.apart_spec hap
 rw [Is kx hx hcx] at h1
 rw [Is ky hy hcy] at h2
 obtain ⟨u, hu, rfl⟩ := Option.map_eq_some_iff.1 h1
 obtain ⟨v, hv, rfl⟩ := Option.map_eq_some_iff.1 h2
 have e1 : Vg C all y (s.put x.dst u) = Vg C all y s := by
  cases hd : x.dst with
  | none => rfl
  | some d => exact Agz (a1 d hd)
 rw [e1] at hv
 have e2 : Vg C all x (s.put y.dst v) = Vg C all x s := by
  cases hd : y.dst with
  | none => rfl
  | some d => exact Agz (a3 d hd)
 refine ⟨s.put y.dst v, by rw [Is ky hy hcy, hv]; rfl, ?_⟩
 rw [Is kx hx hcx, e2, hu, Option.map_some, Ln a2]
theorem Qr {d : Nat} {args : List AV} : ∀ (sgs : List Sig), (Em s args sgs).val = some v → (El s d args sgs).val = some (s.put (some d) v)
 | [], h => by cases h
 | g :: r, h => by
  simp only [Em] at h
  simp only [El]
  split at h
  ·rename_i hpan
   rw [if_pos hpan]
   exact Qr r h
  rename_i hpan
  rw [if_neg hpan]
  split at h
  ·rename_i c hc
   split at h
   ·rename_i ps hps
    simp only [Oc.val] at h ⊢
    obtain ⟨q, hq, h2⟩ := Option.bind_eq_some_iff.1 h
    rw [Oc.val_ofOption] at h2
    rw [hq]
    simp only [Option.bind_some, Oc.val_ofOption]
    unfold backV at h2
    split at h2
    ·rename_i hcond
     simp only [Bool.and_eq_true, List.isEmpty_iff] at hcond
     obtain ⟨⟨⟨⟨c1, c2⟩, c3⟩, c4⟩, c5⟩ := hcond
     obtain ⟨hnB, hnO, hdis, hdisB, as, bs, os, hA, hB, hO, hs⟩ := I7 hc
     obtain ⟨hBl, hBk, hBg⟩ := M3 hB
     obtain ⟨hOl, hOk, hOg⟩ := F5 hO
     have m1 : c.mB = [] := by rw [c1] at hBk; simpa using hBk.symm
     have m2 : c.mO = [] := by rw [c2] at hOk; simpa using hOk.symm
     unfold back
     simp only [m1, m2, c3, c4, List.map_nil, List.length_nil, Nat.sub_self, List.replicate_zero, List.append_nil, Dc]
     have hfl : (c.bx.isEmpty = true ∧ c.br.isEmpty = true) ∨ Bg (enc g.kout (max 0 0) q) = true := by
      simp only [Bool.or_eq_true, Bool.and_eq_true] at c5
      rcases c5 with c5 | c5
      ·exact .inl ⟨c5.2, c5.1⟩
      ·rw [c3, c4] at c5; exact .inr c5
     rw [if_neg, if_pos]
     ·unfold Dm
      simp only [chkB, chkO, chkT, B3, Bool.and_self, if_true, Ca, Bw]
      rw [c3, c4] at h2
      simp only [List.length_nil] at h2
      rw [h2]
      rfl
     ·rcases hfl with ⟨f1, f2⟩ | f1
      ·rw [f2]; rfl
      ·rw [f1]; simp
     ·rcases hfl with ⟨f1, f2⟩ | f1
      ·rw [f1]; simp
      ·rw [f1]; simp
    ·cases h2
   ·exact Qr r h
  ·exact Qr r h
theorem fok_Dn (hE : Ba C) : FOK C (opDn C) := by
 intro F s s' G a w o h hv
 unfold opDn at hv
 split at hv
 ·rename_i hV
  split at hv
  ·cases hv
  ·rename_i hnc
   split at hv
   rotate_left
   ·cases hv
   cases hcall : A6 o.op with
   | false =>
    have e : opVD C s o.op = opV C.P s o.op := by
     unfold opVD
     split
     ·rename_i f as ts ho
      rw [ho] at hcall
      cases hcall
     ·rfl
    rw [e] at hv
    exact Ko h hv
   | true =>
    rw [hcall] at hnc
    cases hd : o.dst with
    | none => rw [hd] at hnc; exact absurd rfl hnc
    | some d =>
     unfold A6 at hcall
     split at hcall
     ·rename_i f as ts ho
      rw [ho] at hv
      rw [hd] at hv
      simp only [opVD] at hv
      split at hv
      ·rename_i g first caps hl
       rw [Oc.val_bind] at hv
       obtain ⟨v, h1, h2⟩ := Option.bind_eq_some_iff.1 hv
       cases h2
       exact Xl h (fun sg hs => hE g sg (List.mem_filter.1 hs).1) ho hd hl (Qr _ h1)
      ·cases hv
     ·cases hcall
 ·exact Pq hE h hv
theorem Ahi {c : Co} {o : St} {d nb no : Nat} {W : (List Nat × List Nat) × (List Nat × List Nat)} (h : Ql s c o d nb no W = some s') :
  back s c o d nb no = some s' ∧ (c.br.isEmpty || Bg o) = true ∧ okK s.slots.length d (c.mB.map some ++ List.replicate (nb - c.mB.length) none) W.1.1 W.2.1 = true ∧ okK s.slots.length d (c.mO ++ List.replicate (no - c.mO.length) none) W.1.2 W.2.2 = true := by
 unfold Ql at h
 split at h
 ·rename_i hc
  simp only [Bool.and_eq_true] at hc
  exact ⟨h, hc.1, hc.2.1, hc.2.2⟩
 ·cases h
theorem Qo {d : Nat} {args : List AV} {W : (List Nat × List Nat) × (List Nat × List Nat)} : ∀ (sgs : List Sig), (Dn s d args W sgs).val = some s' → (El s d args sgs).val = some s'
 | [], h => by cases h
 | g :: r, h => by
  simp only [Dn] at h
  simp only [El]
  split at h
  ·rename_i hpan
   rw [if_pos hpan]
   exact Qo r h
  rename_i hpan
  rw [if_neg hpan]
  split at h
  ·rename_i c hc
   split at h
   ·rename_i ps hps
    simp only [Oc.val] at h ⊢
    obtain ⟨q, hq, h2⟩ := Option.bind_eq_some_iff.1 h
    rw [Oc.val_ofOption] at h2
    rw [hq]
    simp only [Option.bind_some, Oc.val_ofOption]
    exact (Ahi h2).1
   ·exact Qo r h
  ·exact Qo r h
theorem fok_D (hE : Ba C) : FOK C (opD C) := by
 intro F s s' G a w o h hv
 unfold opD at hv
 split at hv
 ·exact fok_Dn hE _ _ _ _ _ _ o h hv
 ·cases hd : o.dst with
  | none => rw [hd] at hv; unfold opK2 at hv; split at hv <;> first | (cases hv; done) | (rename_i h2; cases h2)
  | some d =>
   rw [hd] at hv
   unfold opK2 at hv
   split at hv
   ·rename_i f as ts d' ho hd'
    cases hd'
    split at hv
    ·rename_i g first caps W hl hW
     exact Xl h (fun sg hs => hE g sg hs) ho hd hl (Qo _ hv)
    ·cases hv
   ·cases hv
 ·rename_i hk
  have hdn : o.dst = none := by
   unfold kkd at hk
   split at hk <;> first | rfl | assumption | (cases hk; done) | (split at hk <;> cases hk)
  unfold opK3 at hv
  split at hv
  ·rename_i t n x ho
   split at hv
   ·split at hv
    ·rw [← ho, ← hdn] at hv
     exact Pq hE h hv
    ·cases hv
   ·cases hv
  ·cases hv
 ·unfold opK4 at hv
  split at hv
  ·rename_i t d ho hd
   split at hv
   ·cases hv
   ·rename_i hbl
    split at hv
    ·rename_i ls hz
     refine Aip (bl := C.bl) h ho hd hz ?_
     obtain ⟨h1, h2⟩ := J7 hv
     unfold Iz
     rw [Oc.val_bind, hv]
     simp only [Option.bind_some, Oc.val]
     unfold Lh
     rw [if_neg hbl]
    ·cases hv
  ·cases hv
 ·exact Pq hE h hv
 ·split at hv
  ·rename_i t len ps d ho hd
   exact Air h ho hd hv
  ·cases hv
end
end Go.Proofs.YtghmhkpgdmgepaaGreatDoorV
