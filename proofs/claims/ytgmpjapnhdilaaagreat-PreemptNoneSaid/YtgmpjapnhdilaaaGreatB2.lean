import Derived.Test.YtgmpjapnhdilaaaGreatB1
import Derived.Lib.SlBytesConst
import Derived.LoopN
import Derived.WalkSmall
/-! Joined, names shortened: V18, V19, V20, V21, V22. -/
set_option linter.unusedVariables false
set_option linter.unusedSimpArgs false
namespace Go.Proofs.YtgmpjapnhdilaaaGreatV
open Go Go.RowKit
section
variable {P : Program} {F : Nat → Prop} {s s' : St} {G : Gm} {a : Act} {w w' : World} {o : Oper} {v : AV} {vals : List Value}
def Gh (w w' : World) (k : Nat) : Prop := ∀ ad : Addr, ad.block = k → w'.cell? ad = w.cell? ad
theorem Cells.moveC {ad : Addr} {cs : List Value} (h : Cells w ad cs) (hb : Gh w w' ad.block) : Cells w' ad cs := by
 intro j v hv
 rw [hb (ad.add j) (Gn ad j)]
 exact h j v hv
theorem Rep.monoC {ok : Nat → Prop} (h1 : ∀ k, ok k → Gh w w' k) : ∀ {t : Ty} {x : t.den} {cs : List Value}, Rep w ok t x cs → Rep w' ok t x cs
 | .int _, _, _, h => by unfold Rep at h ⊢; exact h
 | .bool, _, _, h => by unfold Rep at h ⊢; exact h
 | .str, _, _, h => by unfold Rep at h ⊢; exact h
 | .nil, _, _, h => by unfold Rep at h ⊢; exact h
 | .any, _, _, h => by unfold Rep at h ⊢; exact h
 | .slice e, xs, _, h => by
  unfold Rep at h ⊢
  obtain ⟨A, c, rfl, hl, hc, hx⟩ := h
  refine ⟨A, c, rfl, hl, hc, fun hne => ?_⟩
  obtain ⟨a, rfl, hs, hok, hel⟩ := hx hne
  refine ⟨a, rfl, hs, hok, fun i x hi => ?_⟩
  obtain ⟨es, hr, hcs⟩ := hel i x hi
  exact ⟨es, hr.monoC h1, hcs.moveC (by rw [Gn]; exact h1 _ hok)⟩
 | .cons a b, _, _, h => by
  unfold Rep at h ⊢
  obtain ⟨c0, c1, rfl, h2, h3⟩ := h
  exact ⟨c0, c1, rfl, h2.monoC h1, h3.monoC h1⟩
theorem RP.monoC {ok : Nat → Prop} (h1 : ∀ k, ok k → Gh w w' k) {ps : List PL} {v : Value} (h : RP w ok ps v) : RP w' ok ps v := by
 obtain ⟨a, cs, e, hs, ho, hc, hr⟩ := h
 exact ⟨a, cs, e, hs, ho, hc.moveC (h1 _ ho), hr.imp fun _ _ h => Rep.monoC h1 h⟩
theorem HL.keepC {ok : Nat → Prop} {os : List (Option Own)} (h1 : ∀ k, ok k → Gh w w' k) {l : L} {v : Value} (h : HL G w ok os l v) : HL G w' ok os l v := by
 cases l with
 | pv p => exact Rep.monoC h1 h
 | rpt ps =>
  obtain ⟨a, cs, e, hs, ho, hc, hr⟩ := h
  exact ⟨a, cs, e, hs, ho, hc.moveC (h1 _ ho), hr.imp fun _ _ h => Rep.monoC h1 h⟩
 | ifc t ps g =>
  obtain ⟨cs, hr, e⟩ := h
  exact ⟨cs, hr.imp fun _ _ h => Rep.monoC h1 h, e⟩
 | erp z t ps => cases z with
  | true => exact h
  | false =>
   obtain ⟨u, e, hr⟩ := h
   exact ⟨u, e, hr.monoC h1⟩
 | orp z ps => cases z with
  | true => exact h
  | false => exact RP.monoC h1 h
 | _ => exact h
theorem Holds.mark (h : Holds F s G vals w) {g : Nat} (hg : ¬ Live s G g) (hs : w'.heap.size = w.heap.size) (hc : Gh w w' g) (hb : ∀ k, k ≠ g → w'.heap[k]? = w.heap[k]?) (hgt : ∀ x ∈ gTab ++ G.fx, x.1 ≠ g) : Holds F s G vals w' := by
 have hsame : ∀ k, Gh w w' k := by
  intro k
  by_cases e : k = g
  ·subst e; exact hc
  ·rintro ad rfl
   exact World.cell?_of_block (w := w) (hb _ e)
 have hok : okS F s G w' = okS F s G w := by funext k; simp [okS, hs]
 have htr : ∀ l v, HR F s G w l v → HR F s G w' l v := by
  intro l v hr
  unfold HR at hr ⊢
  rw [hok]
  exact HL.keepC (fun k _ => hsame k) hr
 refine ⟨?_, ?_, ?_, h.bb, h.bo, h.oo, h.nF, fun k hk => by rw [hs]; exact h.Flt k hk, fun b ls hb2 cs et fr hc2 => h.ty b ls hb2 cs et fr (by rw [hb _ fun e => hg (.inl ⟨b, ls, hb2, e⟩)] at hc2; exact hc2), fun x hx => ⟨(h.gl x hx).1, by rw [hb _ (hgt x hx)]; exact (h.gl x hx).2⟩⟩
 ·exact h.slots.imp fun _ _ ha => ha.imp htr
 ·intro b ls hb2
  obtain ⟨cs, et, h1, h2⟩ := h.box b ls hb2
  exact ⟨cs, et, by rw [hb _ fun e => hg (.inl ⟨b, ls, hb2, e⟩)]; exact h1, h2.imp htr⟩
 ·intro l x hx
  obtain ⟨h0, cs, h1, h2⟩ := h.own l x hx
  refine ⟨h0, cs, Fb h1 fun k hk => hb k fun e => hg (.inr ⟨l, x, hx, by rw [← e]; exact hk⟩), ?_⟩
  rw [hok]
  exact All2.imp h2 fun _ _ hr => Rep.monoC (fun k _ => hsame k) hr
theorem e_mark (h : Holds F s G a.tmps.toList w) {t d e : Nat} {x : Operand} (ho : o.op = .convert t t x) (hd : o.dst = some d) {l : Nat} (hl : Ai (s.get x) = some (.own l)) (he : A1 P t = some e) (hu : isU8 P e = true)
  {q : Own} (hq : Aa s l = some q) (hn : 0 < q.xs.length) : EOK P F s G a w o ((frz s l).put (some d) (lf (pvL q.t q.xs))) := by
 have e1 : a.eval x = G.ow l := Hl h hq (As h hl).1 hn
 have hrep := A5f h hq
 obtain ⟨h0, cs, hr, hel⟩ := h.own l q hq
 rcases hr.2 with ⟨_, e2⟩ | ⟨g, cap, cur, e2, _, e3, e4, e5, e6, e7⟩
 ·omega
 ·have hgl : Live s G g := .inr ⟨l, q, hq, by rw [e2]; rfl⟩
  have hng : ¬ Live (frz s l) G g := fun hL => (E4 h hL).2 q hq (by rw [e2]; rfl)
  have hsh : w.shape? g = some (q.e, cur.size) := by simp [World.shape?, e3]
  have hrun : (convert t t (G.ow l)).run P w = .ok (G.ow l) (w.freeze ⟨g, cur.size, none⟩ 1) := by
   rw [e2]
   simp [convert, run_underlying (Bn he), run_underlying (uOf hu), markStringish, hsh]
  have hw : w.freeze ⟨g, cur.size, none⟩ 1 = { w with heap := w.heap.modify g fun ob => match ob with
    | .cells c elem (lo, hi) => .cells c elem (if lo == hi then (cur.size, cur.size + 1) else (min lo cur.size, max hi (cur.size + 1)))
    | ob => ob } := by
   unfold World.freeze
   rw [if_neg (by decide)]
   rfl
  generalize hw' : w.freeze ⟨g, cur.size, none⟩ 1 = w2 at hrun hw
  have hs2 : w2.heap.size = w.heap.size := by rw [hw]; simp
  have hb2 : ∀ k, k ≠ g → w2.heap[k]? = w.heap[k]? := by
   intro k hk
   rw [hw]
   simp only [Array.getElem?_modify]
   rw [if_neg (fun e => hk e.symm)]
  have hc2 : Gh w w2 g := by
   intro ad had
   rw [hw]
   simp only [World.cell?, Array.getElem?_modify, had, if_true, e3, Option.map_some]
  have h5 := (Jz h l).mark hng hs2 hc2 hb2 fun x hx e => (h.gl x hx).1 (by rw [e]; exact hgl)
  have h6 : HR F (frz s l) G w2 (pvL q.t q.xs) (G.ow l) := by
   have h7 : Rep w (okS F (frz s l) G w) (.slice q.t) q.xs [G.ow l] := Rep.mono (fun k hk => ⟨N3 h hq hk, rfl⟩) hrep
   have h8 : okS F (frz s l) G w2 = okS F (frz s l) G w := by funext k; simp [okS, hs2]
   show Rep w2 (okS F (frz s l) G w2) (.slice q.t) q.xs [G.ow l]
   rw [h8]
   refine Rep.monoC (fun k hk => ?_) h7
   by_cases ek : k = g
   ·subst ek; exact hc2
   ·rintro ad rfl
    exact World.cell?_of_block (w := w) (hb2 _ ek)
  have h9 := h5.put (some d) (v := lf (pvL q.t q.xs)) h6
  rw [← hd] at h9 ⊢
  refine .value (u := G.ow l) ?_ h9 (Step.trans (s1 := frz s l) (G1 := G) (w1 := w2) ⟨⟨by rw [hw], by rw [hw], by rw [hw], by rw [hs2]; exact Nat.le_refl _, fun k _ hk => hb2 k fun e => hk (by rw [e]; exact hgl)⟩, fun k hk => .inl (E4 h hk).1, fun _ _ => ⟨rfl, rfl⟩, (Ail h l N0 N0).go, rfl⟩ (Step.put _ _))
  simp [execOp, ho, e1, hrun]
theorem Bjg {T : Nat} {i : TypeInfo} {v : Value} (hi : P.info? T = some i) (hz : i.zero = some v) : (zeroValue T).run P w = .ok v w := by simp [zeroValue, typeInfo, hi, hz]
theorem Aq4 {T : Nat} {c : CV} (hz : Qk P T = some c) : ∃ z, (zeroValue T).run P w = .ok z w ∧ ∀ R : L → Value → Prop, (∀ v, v.oneCell' = true → R (A0 v) v) → HC R c z := by
 unfold Qk at hz
 obtain ⟨v, hv, h⟩ := Option.bind_eq_some_iff.1 hz
 obtain ⟨i, hi, hv2⟩ := Option.bind_eq_some_iff.1 hv
 refine ⟨v, Bjg hi hv2, fun R hR => ?_⟩
 split at h
 ·rename_i cs
  split at h
  ·rename_i hall
   cases h
   refine ⟨cs, rfl, ?_⟩
   have : ∀ l : List Value, l.all Value.oneCell' = true → All2 R (l.map A0) l := by
    intro l hl
    induction l with
    | nil => exact .nil
    | cons u l ih =>
     simp only [List.all_cons, Bool.and_eq_true] at hl
     exact .cons (hR u hl.1) (ih hl.2)
   exact this _ hall
  ·cases h
 ·cases h
 ·split at h
  ·rename_i h1
   cases h
   exact hR v h1
  ·cases h
theorem Aoi {T : Nat} (h : F5 P T = true) : ∃ u, P.underlying T = some u ∧ ∀ ms, u ≠ .interface ms := by
 unfold F5 at h
 split at h
 ·cases h
 ·rename_i u hne hu
  exact ⟨u, hu, fun ms e => hne ms e⟩
 ·cases h
theorem A54 {T xt : Nat} {z : Value} (hn : F5 P T = true) (hz : (zeroValue T).run P w = .ok z w) : (Instr.typeAssert .nilIface xt T true).run P w = .ok (.tuple #[z, .bool false]) w := by
 obtain ⟨u, hu, hne⟩ := Aoi hn
 cases u <;> first | exact absurd rfl (hne _) | simp [Instr.typeAssert, run_underlying hu, hz]
theorem A55 {T xt t : Nat} {v z : Value} (hn : F5 P T = true) (ht : t ≠ T) (hz : (zeroValue T).run P w = .ok z w) : (Instr.typeAssert (.iface t v) xt T true).run P w = .ok (.tuple #[z, .bool false]) w := by
 obtain ⟨u, hu, hne⟩ := Aoi hn
 cases u <;> first | exact absurd rfl (hne _) | simp [Instr.typeAssert, run_underlying hu, hz, ht]
theorem A56 {T xt : Nat} {v : Value} (hn : F5 P T = true) : (Instr.typeAssert (.iface T v) xt T true).run P w = .ok (.tuple #[v, .bool true]) w := by
 obtain ⟨u, hu, hne⟩ := Aoi hn
 cases u <;> first | exact absurd rfl (hne _) | simp [Instr.typeAssert, run_underlying hu]
theorem any_one {ok : Nat → Prop} {p : P0} {u : Value} {t i : Nat} {g : Bool} {ps0 : List P0} (hp : ps0[i]? = some p) (h : RepP p u) : Rep w ok (p0T p) (anyAt (p0T p) i (.mk t g ps0)) [u] := by
 cases p with
 | int k n =>
  have e2 : anyI i (.mk t g ps0) = n := by unfold anyI; simp only [hp]
  show Rep w ok (.int k) (anyI i (.mk t g ps0)) [u]
  rw [e2]
  show [u] = [Value.int k n] ∧ (Lit.int k n).wf = true
  exact ⟨by rw [h.1], h.2⟩
 | bool b =>
  have e2 : anyB i (.mk t g ps0) = b := by unfold anyB; simp only [hp]
  show Rep w ok .bool (anyB i (.mk t g ps0)) [u]
  rw [e2]
  show [u] = [Value.bool b]
  rw [show u = .bool b from h]
 | str q =>
  have e2 : anyS i (.mk t g ps0) = q := by unfold anyS; simp only [hp]
  show Rep w ok .str (anyS i (.mk t g ps0)) [u]
  rw [e2]
  obtain ⟨y, e3, h4, h5⟩ := h
  show ∃ y : ByteArray, [u] = [Value.string y] ∧ bs y = q ∧ y.size ≤ maxLen
  exact ⟨y, by rw [e3], h4, h5⟩
theorem Arq {ok : Nat → Prop} {os : List (Option Own)} {t : Nat} {g : Bool} {ps0 : List P0} : ∀ (ts : List Ty) (ps pre : List P0) (us : List Value), ps0 = pre ++ ps → Wm ts ps = true → ts.all flatC = true → All2P ps us →
  All2 (HL G w ok os) (anyLs (.mk t g ps0) ts pre.length) us
 | [], [], pre, us, e, hf, hc, h => by cases h; exact .nil
 | [], _ :: _, _, _, _, hf, _, _ => by cases hf
 | _ :: _, [], _, _, _, hf, _, _ => by cases hf
 | ty :: ts, p :: ps, pre, us, e, hf, hc, h => by
  simp only [Wm, Bool.and_eq_true, decide_eq_true_eq] at hf
  simp only [List.all_cons, Bool.and_eq_true] at hc
  cases h with
  | cons h1 h2 =>
   have h3 := Arq (ok := ok) (os := os) (t := t) (g := g) (ps0 := ps0) ts ps (pre ++ [p]) _ (by rw [e]; simp) hf.2 hc.2 h2
   rw [List.length_append] at h3
   have hp : ps0[pre.length]? = some p := by rw [e]; simp
   refine .cons ?_ h3
   rw [← hf.1]
   exact any_one hp h1
theorem Au2 {R : L → Value → Prop} {g : Bool} {ls : List L} {us : List Value} {c : CV} (hc : cvLs g ls = some c) (h : All2 R ls us) : HC R c (if g then .agg us.toArray else us.headD undef) := by
 unfold cvLs at hc
 split at hc
 ·cases hc
  rename_i hg
  rw [if_pos hg]
  exact ⟨us.toArray, rfl, by simpa using h⟩
 ·rename_i hg
  rw [if_neg hg]
  split at hc
  ·cases hc
   cases h with
   | cons h1 h2 => exact h1
  ·cases hc
theorem A9l (h : Holds F s G vals w) {T xt : Nat} {l : L} {v : AV} {u : Value} (hl : HR F s G w l u) (hv : (Qv P s T l).val = some v) : ∃ r, (Instr.typeAssert u xt T true).run P w = .ok r w ∧ HA (HR F s G w) v r := by
 have hR : ∀ v : Value, v.oneCell' = true → HR F s G w (A0 v) v := fun v h1 => Ex v h1
 have hb : ∀ b : Bool, HC (HR F s G w) (.lf (pvB b)) (.bool b) := fun b => (show [Value.bool b] = [Value.bool b] from rfl)
 have mk2 : ∀ (c : CV) (z : Value) (b : Bool), HC (HR F s G w) c z → HA (HR F s G w) (.tup [c, .lf (pvB b)]) (.tuple #[z, .bool b]) := fun c z b hc => ⟨_, rfl, .cons hc (.cons (hb b) .nil)⟩
 unfold Qv at hv
 split at hv
 ·rename_i a
  split at hv
  ·rename_i t z ht hz
   split at hv
   ·rename_i hc
    simp only [Bool.and_eq_true] at hc
    obtain ⟨hn, hall⟩ := hc
    obtain ⟨zv, hzr, hzc⟩ := Aq4 (w := w) hz
    obtain ⟨u', e, hu⟩ := (show ∃ v, [u] = [v] ∧ RepAny a v from hl)
    cases e
    simp only [Oc.val] at hv
    cases a with
    | nil =>
     simp only [Ln, cond_false] at hv
     cases hv
     rw [show u = .nilIface from hu]
     exact ⟨_, A54 hn hzr, mk2 _ _ _ (hzc _ hR)⟩
    | mk n g ps =>
     obtain ⟨us, hus, rfl⟩ := hu
     by_cases en : n = T
     ·subst en
      simp only [Ln, beq_self_eq_true, cond_true] at hv
      cases hf : Y7 (By P n) (E7 t) (.mk n g ps) with
      | false => rw [hf] at hv; cases hv
      | true =>
       rw [hf] at hv
       simp only [cond_true, Oc.val_ofOption] at hv
       obtain ⟨c, hc2, rfl⟩ := Option.map_eq_some_iff.1 hv
       simp only [Y7, Bool.and_eq_true, beq_iff_eq] at hf
       refine ⟨_, A56 hn, mk2 _ _ _ ?_⟩
       rw [← hf.1]
       exact Au2 hc2 (Arq (t := n) (g := g) (ps0 := ps) (E7 t) ps [] us rfl hf.2 hall hus)
     ·have : Ln T (.mk n g ps) = false := by simp [Ln, en]
      rw [this] at hv
      simp only [cond_false] at hv
      cases hv
      exact ⟨_, A55 hn en hzr, mk2 _ _ _ (hzc _ hR)⟩
   ·cases hv
  ·cases hv
 ·rename_i n ps g
  obtain ⟨cs, hcs, rfl⟩ := hl
  split at hv
  ·rename_i z hz
   obtain ⟨zv, hzr, hzc⟩ := Aq4 (w := w) hz
   split at hv
   ·rename_i hn
    split at hv
    ·rename_i en
     subst en
     rw [Oc.val_ofOption] at hv
     obtain ⟨c, hc2, rfl⟩ := Option.map_eq_some_iff.1 hv
     exact ⟨_, A56 hn, mk2 _ _ _ (Au2 hc2 (All2.map_left (R := HR F s G w) (f := L.pv) hcs))⟩
    ·rename_i en
     cases hv
     exact ⟨_, A55 hn en hzr, mk2 _ _ _ (hzc _ hR)⟩
   ·cases hv
  ·cases hv
 ·rw [show u = .nilIface from hl]
  split at hv
  ·rename_i z hz
   obtain ⟨zv, hzr, hzc⟩ := Aq4 (w := w) hz
   split at hv
   ·rename_i hn
    cases hv
    exact ⟨_, A54 hn hzr, mk2 _ _ _ (hzc _ hR)⟩
   ·cases hv
  ·cases hv
 ·cases hv
theorem Bcy (h : Holds F s G a.tmps.toList w) {x : Operand} {xt T d : Nat} (ho : o.op = .typeAssert x xt T true) (hd : o.dst = some d) {l : L} (hl : Ai (s.get x) = some l) (hv : ((Qv P s T l).bind fun v => .ok (s.put (some d) v)).val = some s') : EOK P F s G a w o s' := by
 rw [Oc.val_bind] at hv
 obtain ⟨v, hv1, hv2⟩ := Option.bind_eq_some_iff.1 hv
 cases hv2
 have h1 := As h hl
 obtain ⟨r, hr, hh⟩ := A9l (xt := xt) h h1 hv1
 have h9 := h.put (some d) hh
 rw [← hd] at h9 ⊢
 refine .value (u := r) ?_ h9 (Step.put _ _)
 simp [execOp, ho, hr]
theorem Bjo (h : Holds F s G vals w) {l : L} {v : Value} (hs : V8 s l = true) (hl : HR F s G w l v) : ∃ A n c, v = .slice A n c := by
 unfold V8 at hs
 split at hs
 ·obtain ⟨A, c, e, _⟩ := (show Da w _ _ _ _ [v] from hl)
  exact ⟨A, _, c, List.singleton_inj.1 e⟩
 ·rename_i l
  obtain ⟨q, hq⟩ := Option.isSome_iff_exists.1 hs
  obtain ⟨h0, cs, hr, he⟩ := h.own l q hq
  rcases hl.1 with e | ⟨_, ad, e⟩
  ·rcases hr.2 with ⟨e2, _⟩ | ⟨g, cap, cur, e2, _⟩
   ·exact ⟨_, _, _, e.trans e2⟩
   ·exact ⟨_, _, _, e.trans e2⟩
  ·exact ⟨_, _, _, e⟩
 ·exact ⟨none, 0, 0, hl⟩
 ·cases hs
theorem Bcz (h : Holds F s G a.tmps.toList w) {T d e : Nat} {x hi mx : Operand} {lo : Option Operand} (ho : o.op = .slice T x lo (some hi) (some mx)) (hd : o.dst = some d) {l : L} (hl : Ai (s.get x) = some l) (he : A1 P T = some e) {te : Ty} (hte : Bi P e = some te)
  (hs : V8 s l = true) (hp : A4 s 0 lo = some 0) (hq : int1 (s.get hi) = some 0) (hr : int1 (s.get mx) = some 0) (hv : (Br s d ⟨e, te, []⟩).val = some s') : EOK P F s G a w o s' := by
 obtain ⟨hf, rfl⟩ := Dq hv
 obtain ⟨i, z, hi', hz, hs1, hs2, hs3⟩ := Ft hte
 obtain ⟨A, n, c, e1⟩ := Bjo h hs (As h hl)
 obtain ⟨k1, e2, _⟩ := Dl h hq
 obtain ⟨k2, e3, _⟩ := Dl h hr
 obtain ⟨g1, g2⟩ := A4y h none (n := N0 + d) (o := ⟨e, te, []⟩) hf (by omega) hs3 rfl A (some d)
 rw [← hd] at g1 g2 ⊢
 refine .value (u := .slice A 0 0) ?_ g1 g2
 have hsz : Ay P e = some te.size := by simp [Ay, hi', hs1]
 rcases Pe h hp with ⟨rfl, _⟩ | ⟨y, k, rfl, e4⟩
 ·simp [execOp, ho, e1, e2, e3, Instr.sliceAt, Instr.slice, Instr.sliceBounds, Instr.sliceBound, asIntOf, run_underlying (Bn he), Ca hsz]
 ·simp [execOp, ho, e1, e2, e3, e4, Instr.sliceAt, Instr.slice, Instr.sliceBounds, Instr.sliceBound, asIntOf, run_underlying (Bn he), Ca hsz]
theorem RepRow.len' {w : World} {ok : Nat → Prop} {t : Ty} {xs : List t.den} {cs : List Value} (h : RepRow w ok t xs cs) : (xs.flatMap (flat t)).length = cs.length := All2.len h
theorem Wy {l : Nat} {q : Own} (h : Aa s l = some q) : Al s l (some q) = s := by
 unfold Aa at h
 cases he : s.owns[l]? with
 | none => simp [he] at h
 | some y =>
  simp [he] at h
  subst h
  obtain ⟨hlt, e⟩ := List.getElem?_eq_some_iff.1 he
  unfold Al
  rw [← e, List.set_getElem_self]
theorem A5e (h : Holds F s G a.tmps.toList w) {l : Nat} {q : Own} (hq : Aa s l = some q) (hn : q.xs.length = 0) {v : Value} (hv : OwV (G.ow l) v) : ∃ A c, v = .slice A 0 c := by
 rcases hv with rfl | ⟨_, ad, rfl⟩
 ·obtain ⟨_, cs, hr, _⟩ := h.own l q hq
  rcases hr.2 with ⟨e, _⟩ | ⟨g, cap, cur, e, _⟩
  ·exact ⟨_, _, e⟩
  ·exact ⟨_, _, by rw [e, hn]⟩
 ·exact ⟨_, _, rfl⟩
theorem e_clear (h : Holds F s G a.tmps.toList w) {x : Operand} {T e l : Nat} (ho : o.op = .call { callee := .builtin .clear, args := #[x], argTypes := #[T] }) (hd : o.dst = none) (hl : Ai (s.get x) = some (.own l)) (he : A1 P T = some e)
  (hv : (Aae P s l e).val = some s') : EOK P F s G a w o s' := by
 unfold Aae at hv
 split at hv
 rotate_left
 ·cases hv
 rename_i q te z hq hte hz
 split at hv
 rotate_left
 ·cases hv
 rename_i xd hxd
 split at hv
 rotate_left
 ·cases hv
 rename_i x' hx'
 split at hv
 rotate_left
 ·cases hv
 rename_i hqe
 cases hv
 obtain ⟨qe, qt, qx⟩ := q
 have e1 := Ee hx'
 injection e1 with e2 e3
 subst e2
 have e4 := eq_of_heq e3
 subst e4
 have hqe' : qe = e := hqe
 subst hqe'
 obtain ⟨i, zv, hi, hzv, hs1, hs2, hs3⟩ := Ft hte
 obtain ⟨i', zv', hi', hzv', rfl, hone⟩ := Ec hz
 rw [hi] at hi'
 cases hi'
 rw [hzv] at hzv'
 cases hzv'
 have hrep := Mk h [] hxd (Ey (fun u hu => Ex u hu) _ hone) (fun m hm => by
  exfalso
  have : ∀ l : List Value, A7 (l.map A0) = [] := by
   intro l
   induction l with
   | nil => rfl
   | cons u l ih =>
    simp only [List.map_cons]
    have : ∀ k, A0 u ≠ .own k := fun k e => by have := Rb k u; rw [e] at this; simp [L.noO] at this
    unfold A7
    split
    ·rename_i e; cases e
    ·rename_i k r e; injection e with e1 e2; exact absurd e1 (this k)
    ·rename_i r e1 e2; injection e2 with e3 e4; subst e4; exact ih
  rw [this] at hm
  cases hm)
 have hxv := As h hl
 by_cases hn : List.length qx = 0
 ·obtain ⟨A, c, ex⟩ := A5e h hq hn hxv.1
  have hx0 : qx = [] := List.length_eq_zero_iff.1 hn
  subst hx0
  refine .value (u := .tuple #[]) (w' := w) ?_ (by rw [hd]; show Holds F (Al s l (some ⟨qe, te, []⟩)) G _ w; rw [Wy hq]; exact h) (by show Step N0 N0 s G w (Al s l (some ⟨qe, te, []⟩)) G w; rw [Wy hq]; exact Step.refl _ _ _ _ _)
  simp only [execOp, ho, resolve, invoke, builtin, Sem.run_bind, Sem.run_pure, Result.andThen_ok, List.map_toArray, List.map_cons, List.map_nil]
  cases A <;> simp [Builtin.clear_, run_underlying (Bn he), ex]
 ·have ex := Hl h hq hxv.1 (by show 0 < List.length qx; omega)
  obtain ⟨h0, cs, hr, hrr⟩ := h.own l _ hq
  rcases hr.2 with ⟨_, e5⟩ | ⟨g, cap, cur, hG, _, hh, hnc, hm, hcur, htk⟩
  ·exact absurd e5 hn
  have hzs : (Builtin.zeroCells zv.cells (List.length qx)).toList = (List.replicate (List.length qx) zv.cells.toList).flatten := by
   rw [← Pk _ _ (by omega)]
   simp [Builtin.zeroCells]
  have hzl : (Builtin.zeroCells zv.cells (List.length qx)).toList.length = List.length qx * te.size := by
   simp [Builtin.zeroCells, hs2]
  have hcs : List.length qx * te.size ≤ cur.size := by rw [hcur]; exact Nat.mul_le_mul_right _ hnc
  have hone2 : ∀ v ∈ (Builtin.zeroCells zv.cells (List.length qx)).toList, v.oneCell' = true := by
   intro v hv
   rw [hzs] at hv
   obtain ⟨y, hy, hv2⟩ := List.mem_flatten.1 hv
   rw [List.eq_of_mem_replicate hy] at hv2
   exact hone v hv2
  have hst := run_storeCells_at P g 0 qe (Builtin.zeroCells zv.cells (List.length qx)).toList 0 cur w hh (by rw [hzl]; omega) hone2
  obtain ⟨h2, h3⟩ := Yt (xs' := List.replicate (List.length qx) xd) (cur' := (cur.toList.take (0 + 0) ++ (Builtin.zeroCells zv.cells (List.length qx)).toList ++ cur.toList.drop (0 + 0 + (Builtin.zeroCells zv.cells (List.length qx)).toList.length)).toArray) h hq hG hh
   (by simp only [List.size_toArray, List.length_append, List.length_take, List.length_drop, hzl, Array.length_toList]; omega) (by simp) (by
    simp only [Nat.add_zero, List.take_zero, List.nil_append, Nat.zero_add, List.length_replicate]
    rw [List.take_left' hzl, hzs]
    exact Pj hrep _)
  refine .value (u := .tuple #[]) ?_ (by rw [hd]; exact h2) (h3 _ _)
  simp only [execOp, ho, resolve, invoke, builtin, Sem.run_bind, Sem.run_pure, Result.andThen_ok, List.map_toArray, List.map_cons, List.map_nil]
  obtain ⟨m, hm⟩ : ∃ m, List.length qx = m + 1 := ⟨List.length qx - 1, by omega⟩
  rw [ex, hG]
  simp only [] at hst ⊢
  rw [hm] at hst ⊢
  simp [Builtin.clear_, run_underlying (Bn he), zeroValue, typeInfo, hi, hzv, hst]
theorem e_copy (h : Holds F s G a.tmps.toList w) {x y : Operand} {T U e l : Nat} {b : L} (ho : o.op = .call { callee := .builtin .copy, args := #[x, y], argTypes := #[T, U] }) (hl : Ai (s.get x) = some (.own l)) (hb : Ai (s.get y) = some b) (he : A1 P T = some e)
  (hv : (Aak P s o.dst l e b).val = some s') : EOK P F s G a w o s' := by
 unfold Aak at hv
 split at hv
 rotate_left
 ·cases hv
 rename_i q hq
 split at hv
 rotate_left
 ·cases hv
 rename_i ys hys
 split at hv
 rotate_left
 ·cases hv
 rename_i hc
 cases hv
 obtain ⟨qe, qt, qx⟩ := q
 obtain ⟨hqe, hsz, hs1⟩ := hc
 have hqe' : qe = e := hqe
 subst hqe'
 have hxv := As h hl
 have hyv := Aq0 h (As h hb) hys
 have hi : (P.info? qe).map (·.size) = some 1 := by
  have : (P.info? qe).map (·.size) = some qt.size := hsz
  rw [this]; exact congrArg some hs1
 obtain ⟨i, hin, his⟩ := Option.map_eq_some_iff.1 hi
 have callE : ∀ {u : Value} {w' : World}, (Builtin.copy_ #[T, U] o.type #[a.eval x, a.eval y]).run P w = .ok u w' → (execOp a.eval o).run P w = .ok (.value u) w' := fun hr => by
  simp only [execOp, ho, resolve, invoke, builtin, Sem.run_bind, Sem.run_pure, Result.andThen_ok, List.map_toArray, List.map_cons, List.map_nil, hr]
 by_cases hn : min (List.length ys) (List.length qx) = 0
 ·have hsame : List.append (List.take (List.length qx) ys) (List.drop (List.length ys) qx) = qx := by
   show List.take (List.length qx) ys ++ List.drop (List.length ys) qx = qx
   rcases Nat.min_eq_zero_iff.1 hn with e1 | e1
   ·rw [List.length_eq_zero_iff.1 e1]; simp
   ·rw [List.length_eq_zero_iff.1 e1]; simp
  have e0 : Al s l (some ⟨qe, qt, List.append (List.take (List.length qx) ys) (List.drop (List.length ys) qx)⟩) = s := by rw [hsame]; exact Wy hq
  have hX : ∃ A n c, a.eval x = .slice A n c ∧ n = List.length qx := by
   by_cases hn2 : List.length qx = 0
   ·obtain ⟨A, c, ex⟩ := A5e h hq hn2 hxv.1
    exact ⟨A, 0, c, ex, hn2.symm⟩
   ·have ex := Hl h hq hxv.1 (by show 0 < List.length qx; omega)
    obtain ⟨h0, cs, hr, hrr⟩ := h.own l _ hq
    rcases hr.2 with ⟨_, e5⟩ | ⟨g, cap, cur, hG, _⟩
    ·exact absurd e5 hn2
    ·exact ⟨_, _, _, ex.trans hG, rfl⟩
  have hY : ∃ A m c, a.eval y = .slice A m c ∧ m = List.length ys := by
   rcases hyv with ⟨e0, c, e1⟩ | ⟨ad, c, cs, e1, _⟩
   ·exact ⟨none, 0, c, e1, by rw [e0]; rfl⟩
   ·exact ⟨_, _, c, e1, rfl⟩
  obtain ⟨A, n, c, ex, rfl⟩ := hX
  obtain ⟨B, m, c2, ey, rfl⟩ := hY
  have hmin : Nat.min (List.length ys) (List.length qx) = 0 := hn
  have h5 := h.put o.dst (v := lf (pvI .i64 (0 : Nat))) (u := goInt 0) (show HR F s G w (pvI .i64 (0 : Nat)) (goInt 0) from ⟨rfl, by decide⟩)
  refine .value (u := goInt 0) (w' := w) (callE ?_) (by
   show Holds F ((Al s l (some ⟨qe, qt, _⟩)).put o.dst (lf (pvI .i64 (min (List.length ys) (List.length qx) : Nat)))) G _ w
   rw [e0, hn]; exact h5) (by
   show Step N0 N0 s G w ((Al s l (some ⟨qe, qt, _⟩)).put o.dst (lf (pvI .i64 (min (List.length ys) (List.length qx) : Nat)))) G w
   rw [e0]; exact Step.put _ _)
  rw [ex, ey]
  cases A <;> cases B <;> simp [Builtin.copy_, run_underlying (Bn he), Builtin.lenOf, Builtin.firstCells, sizeOf, typeInfo, hin, his, hmin, loadCells, loadCellsFrom, storeCells]
 ·have hpos : 0 < List.length ys ∧ 0 < List.length qx := by omega
  have ex := Hl h hq hxv.1 (by show 0 < List.length qx; omega)
  obtain ⟨h0, cs, hr, hrr⟩ := h.own l _ hq
  rcases hr.2 with ⟨_, e5⟩ | ⟨g, cap, cur, hG, _, hh, hnc, hm, hcur, htk⟩
  ·exact absurd e5 (by show ¬ List.length qx = 0; omega)
  rcases hyv with ⟨e0, c, e1⟩ | ⟨ad, c, ds, ey, hcd, hrd⟩
  ·rw [e0] at hpos; simp at hpos
  have hfl1 : ∀ (zs : List qt.den), (zs.flatMap (flat qt)).length = zs.length := fun zs => by rw [Ae5]; rw [show qt.size = 1 from hs1]; omega
  have hdl : ds.length = List.length ys := by rw [← hrd.len', hfl1]
  have hcl : cs.length = List.length qx := by rw [← hrr.len', hfl1]
  have hcap : cap * qt.size = cap := by rw [show qt.size = 1 from hs1]; omega
  have hcurl : cur.size = cap := by rw [← hcap]; exact hcur
  have hnc' : List.length qx ≤ cap := hnc
  have hlen : (ds.take (min (List.length ys) (List.length qx))).length = Nat.min (List.length ys) (List.length qx) := by
   rw [List.length_take, hdl]
   show min (min _ _) _ = min _ _
   omega
  have hfit : 0 + (ds.take (min (List.length ys) (List.length qx))).length ≤ cur.size := by
   rw [hlen, hcurl]
   have : Nat.min (List.length ys) (List.length qx) ≤ List.length qx := Nat.min_le_right _ _
   omega
  have hds1 : ∀ v ∈ ds.take (min (List.length ys) (List.length qx)), v.oneCell' = true := fun v hv => RepRow.one hrd v (List.mem_of_mem_take hv)
  have hrun := run_copy_row (P := P) w T U o.type qe g 0 (List.length qx) cap ad (List.length ys) c cur qe (ds.take (min (List.length ys) (List.length qx))) (Bn he) hi hh hlen (hcd.take _) hfit hds1
  have hXl : (List.append (List.take (List.length qx) ys) (List.drop (List.length ys) qx)).length = List.length qx := by
   show (List.take (List.length qx) ys ++ List.drop (List.length ys) qx).length = _
   rw [List.length_append, List.length_take, List.length_drop]
   omega
  obtain ⟨h2, h3⟩ := Yt (xs' := List.append (List.take (List.length qx) ys) (List.drop (List.length ys) qx)) (cur' := (cur.toList.take 0 ++ ds.take (min (List.length ys) (List.length qx)) ++ cur.toList.drop (0 + (ds.take (min (List.length ys) (List.length qx))).length)).toArray) h hq hG hh
   (by
    simp only [List.size_toArray, List.length_append, List.length_take, List.length_drop, Array.length_toList]
    rw [List.length_take] at hfit
    omega) hXl (by
    rw [hXl]
    have e7 : List.length qx * qt.size = List.length qx := by rw [show qt.size = 1 from hs1]; omega
    have htk' : cur.toList.take (List.length qx) = cs := by rw [← e7]; exact htk
    show RepRow w (okS F s G w) qt (List.take (List.length qx) ys ++ List.drop (List.length ys) qx) ((cur.toList.take 0 ++ ds.take (min (List.length ys) (List.length qx)) ++ cur.toList.drop (0 + (ds.take (min (List.length ys) (List.length qx))).length)).take (List.length qx * qt.size))
    rw [e7]
    have e8 : (cur.toList.take 0 ++ ds.take (min (List.length ys) (List.length qx)) ++ cur.toList.drop (0 + (ds.take (min (List.length ys) (List.length qx))).length)).take (List.length qx) = ds.take (List.length qx) ++ cs.drop (List.length ys) := by
     rw [List.take_zero, List.nil_append, Nat.zero_add, hlen, ← htk']
     have e9 : ds.take (min (List.length ys) (List.length qx)) = ds.take (List.length qx) := by
      by_cases hle : List.length qx ≤ List.length ys
      ·rw [Nat.min_eq_right hle]
      ·rw [Nat.min_eq_left (by omega), List.take_of_length_le (by omega), List.take_of_length_le (by omega)]
     rw [e9, List.take_append, List.take_of_length_le (by rw [List.length_take]; omega), List.length_take, hdl, List.drop_take]
     congr 1
     show List.take _ (List.drop (min (List.length ys) (List.length qx)) cur.toList) = _
     by_cases hle : List.length qx ≤ List.length ys
     ·rw [Nat.min_eq_left hle, Nat.sub_self, List.take_zero, show List.length qx - List.length ys = 0 by omega, List.take_zero]
     ·rw [Nat.min_eq_right (by omega), Nat.min_eq_left (by omega)]
    rw [e8]
    unfold RepRow
    rw [List.flatMap_append]
    have f1 : ∀ (zs : List qt.den) (n : Nat), (zs.take n).flatMap (flat qt) = (zs.flatMap (flat qt)).take n := by
     intro zs n
     have e9 : zs.flatMap (flat qt) = (zs.take n).flatMap (flat qt) ++ (zs.drop n).flatMap (flat qt) := by rw [← List.flatMap_append, List.take_append_drop]
     by_cases hle : n ≤ zs.length
     ·rw [e9, List.take_left' (by rw [hfl1, List.length_take]; omega)]
     ·rw [List.take_of_length_le (by omega), List.take_of_length_le (by rw [hfl1]; omega)]
    have f2 : ∀ (zs : List qt.den) (n : Nat), (zs.drop n).flatMap (flat qt) = (zs.flatMap (flat qt)).drop n := by
     intro zs n
     have e9 : zs.flatMap (flat qt) = (zs.take n).flatMap (flat qt) ++ (zs.drop n).flatMap (flat qt) := by rw [← List.flatMap_append, List.take_append_drop]
     by_cases hle : n ≤ zs.length
     ·rw [e9, List.drop_left' (by rw [hfl1, List.length_take]; omega)]
     ·rw [List.drop_of_length_le (by omega), List.drop_of_length_le (by rw [hfl1]; omega)]; rfl
    rw [f1, f2]
    exact (All2.take hrd _).app (All2.drop hrr _))
  have h5 := h2.put o.dst (v := lf (pvI .i64 (min (List.length ys) (List.length qx) : Nat))) (u := goInt (ds.take (min (List.length ys) (List.length qx))).length) (by
   rw [hlen]
   refine ⟨rfl, ?_⟩
   have h9 : Nat.min (List.length ys) (List.length qx) ≤ maxLen := by
    have : Nat.min (List.length ys) (List.length qx) ≤ List.length qx := Nat.min_le_right _ _
    omega
   exact Li h9)
  refine .value (callE ?_) h5 ((h3 _ _).trans (Step.put _ _))
  rw [ex, hG, ey]
  exact hrun
theorem Bin {C : Cfg} (h : Holds F s G a.tmps.toList w) (hn : A6 o.op = false) (hv : (opE C s o.dst o.op).val = some s') : EOK C.P F s G a w o s' := by
 unfold opE at hv
 split at hv
 ·rename_i T x lo hi mx d ho hd
  split at hv
  ·rename_i l e p q r hl he hp hq hr
   split at hv
   ·rename_i te hte
    split at hv
    ·rename_i hc
     simp only [Bool.and_eq_true, decide_eq_true_eq] at hc
     obtain ⟨hc, rfl, rfl, rfl⟩ := hc
     exact Bcz h ho hd hl he hte hc hp hq hr hv
    ·cases hv
   ·cases hv
  ·cases hv
 ·rename_i x xt T d ho hd
  split at hv
  ·rename_i l hl
   exact Bcy h ho hd hl hv
  ·cases hv
 ·rename_i t d ho hd
  split at hv
  ·rename_i ls hz
   exact Ave h ho hd hz hv
  ·cases hv
 ·rename_i t x d ho hd
  split at hv
  ·rename_i ls hl
   exact e_box h ho hd hl hv
  ·cases hv
 ·rename_i t x y ho hd
  split at hv
  ·rename_i b k new n hp hnew hz
   split at hv
   ·rename_i ls hb
    split at hv
    ·rename_i hc
     cases hv
     exact Bc0 h ho hd hp hnew hz hb hc
    ·cases hv
   ·cases hv
  ·rename_i l i k z new n hp hnew hz
   split at hv
   ·rename_i q hq
    split at hv
    ·rename_i hc
     split at hv
     ·rename_i ps hps
      split at hv
      ·rename_i x' hu
       split at hv
       ·cases hv
       ·rename_i hno
        cases hv
        exact Bc1 h ho hd hp hnew hz hq hc hps hu (by simpa using hno)
      ·cases hv
     ·cases hv
    ·cases hv
   ·cases hv
  ·cases hv
 ·rename_i t len ps d ho hd
  split at hv
  ·rename_i e he
   split at hv
   ·rename_i te q z hte hq hz
    split at hv
    ·rename_i x hx
     split at hv
     ·rename_i xs hxs
      split at hv
      ·rename_i hl
       exact e_build h ho hd he hte hz hx hq hxs hl hv
      ·cases hv
     ·cases hv
    ·cases hv
   ·cases hv
  ·cases hv
 ·rename_i t x y d ho hd
  split at hv
  ·rename_i e n m he hn1 hm1
   split at hv
   ·rename_i te z hte hz
    split at hv
    ·rename_i q hq
     simp only [Oc.val] at hv
     cases hc : (decide (0 ≤ n) && decide (n = m) && decide ((B8 C.P e : Int) * n ≤ 140737488355328) && decide (n ≤ 9223372036854775807)) with
     | false => rw [hc] at hv; cases hv
     | true =>
      rw [hc] at hv
      exact e_make h ho hd he hn1 hm1 hte hz hq hc hv
    ·cases hv
   ·cases hv
  ·cases hv
 ·rename_i T x lo hi d ho hd
  split at hv
  ·rename_i l hl
   split at hv
   ·rename_i e q he hq
    split at hv
    ·rename_i p r hp hr
     split at hv
     ·rename_i hz
      split at hv
      ·split at hv
       ·simp only [Oc.val] at hv
        cases hb : cutB p r q.xs.length && decide (0 < q.xs.length) with
        | false => rw [hb] at hv; cases hv
        | true =>
         rw [hb] at hv
         obtain rfl : p = 0 := by simpa [A4] using hp.symm
         simp only [Bool.and_eq_true, decide_eq_true_eq] at hb
         exact e_pop h ho hd hl he hq hr hz hb.1 hb.2 hv
       ·cases hv
      ·simp only [Oc.val] at hv
       cases hb : cutB p r q.xs.length with
       | false => rw [hb] at hv; cases hv
       | true =>
        rw [hb] at hv
        cases hv
        exact e_cut h ho hd hl he hq hp hr hz hb
     ·cases hv
    ·cases hv
   ·cases hv
  ·exact Mp h hv
 ·rename_i t1 t2 x d ho hd
  split at hv
  ·rename_i l hl
   split at hv
   ·rename_i e12
    subst e12
    split at hv
    ·rename_i e q he hq
     split at hv
     ·rename_i hu
      simp only [Oc.val] at hv
      cases hb : decide (0 < q.xs.length) with
      | false => rw [hb] at hv; cases hv
      | true =>
       rw [hb] at hv
       cases hv
       exact e_mark h ho hd hl he hu hq (by simpa using hb)
     ·cases hv
    ·cases hv
   ·exact Mp h hv
  ·exact Mp h hv
 ·rename_i as ts d ho hd
  split at hv
  ·rename_i x y t u has hts
   split at hv
   ·rename_i etu
    subst etu
    split at hv
    ·rename_i la lb e hla hlb he
     obtain rfl : as = #[x, y] := by rw [← Array.toList_inj]; exact has
     obtain rfl : ts = #[t, t] := by rw [← Array.toList_inj]; exact hts
     exact Bcw h ho hd hla hlb he hv
    ·cases hv
   ·split at hv
    ·rename_i hus
     split at hv
     ·rename_i la z e hla hlb he
      split at hv
      ·rename_i hu8
       obtain rfl : as = #[x, y] := by rw [← Array.toList_inj]; exact has
       obtain rfl : ts = #[t, u] := by rw [← Array.toList_inj]; exact hts
       exact Bcx h ho hd hla hlb he hus hu8 hv
      ·cases hv
     ·cases hv
    ·cases hv
  ·cases hv
 ·rename_i f as ts d ho hd
  rw [ho] at hn
  cases hn
 ·rename_i as ts ho hd
  split at hv
  ·rename_i x T has hts
   split at hv
   ·rename_i l e hl he
    obtain rfl : as = #[x] := by rw [← Array.toList_inj]; exact has
    obtain rfl : ts = #[T] := by rw [← Array.toList_inj]; exact hts
    exact e_clear h ho hd hl he hv
   ·cases hv
  ·cases hv
 ·rename_i d as ts ho
  split at hv
  ·rename_i x y T U has hts
   split at hv
   ·rename_i l b e hl hb he
    obtain rfl : as = #[x, y] := by rw [← Array.toList_inj]; exact has
    obtain rfl : ts = #[T, U] := by rw [← Array.toList_inj]; exact hts
    exact e_copy h ho hl hb he hv
   ·cases hv
  ·cases hv
 ·exact Mp h hv
end
section
variable {P : Program} {F : Nat → Prop} {s s' : St} {G : Gm} {a : Act} {w w' : World} {o : Oper} {v : AV} {vals : List Value}
def coG (G : Gm) (mB : List Nat) (mO : List (Option Nat)) : Gm :=
 {bx := fun b => G.bx (mB.getD b 0), ow := fun l => match mO.getD l none with | some l' => G.ow l' | none => .slice none 0 0, et := fun b => G.et (mB.getD b 0), fx := G.fx }
def KeptB (s : St) (G : Gm) (br bx : List Nat) (mB : List Nat) (mO : List (Option Nat)) (j : Nat) : Prop :=
 (∃ b ∈ mB ++ bx, ∃ ls, Ae s b = some ls ∧ G.bx b = j) ∨ (∃ l ∈ somes mO ++ br, ∃ x, Aa s l = some x ∧ (G.ow l).ownBlock = some j)
def FL (F : Nat → Prop) (s : St) (G : Gm) (br bx : List Nat) (mB : List Nat) (mO : List (Option Nat)) (j : Nat) : Prop := F j ∨ (Live s G j ∧ ¬ KeptB s G br bx mB mO j)
theorem E8 : ∀ {l : List (Option Nat)} {i x : Nat}, l[i]? = some (some x) → x ∈ somes l
 | [], i, x, h => by simp at h
 | none :: r, 0, x, h => by simp at h
 | some y :: r, 0, x, h => by simp at h; subst h; simp [somes]
 | none :: r, i + 1, x, h => by simp [somes]; exact E8 (i := i) (by simpa using h)
 | some y :: r, i + 1, x, h => by simp only [somes, List.mem_cons]; exact .inr (E8 (i := i) (by simpa using h))
theorem Wd : ∀ {l : List Nat}, Bz l = true → ∀ {i j x : Nat}, l[i]? = some x → l[j]? = some x → i = j
 | [], _, i, j, x, h, _ => by simp at h
 | y :: r, hn, i, j, x, h1, h2 => by
  simp only [Bz, Bool.and_eq_true, Bool.not_eq_true', List.contains_eq_mem, decide_eq_false_iff_not] at hn
  cases i with
  | zero =>
   cases j with
   | zero => rfl
   | succ j => simp at h1 h2; subst h1; exact absurd (List.mem_of_getElem? h2) hn.1
  | succ i =>
   cases j with
   | zero => simp at h1 h2; subst h2; exact absurd (List.mem_of_getElem? h1) hn.1
   | succ j => rw [Wd hn.2 (i := i) (j := j) (by simpa using h1) (by simpa using h2)]
theorem Aoh : ∀ {l : List (Option Nat)}, Bz (somes l) = true → ∀ {i j x : Nat}, l[i]? = some (some x) → l[j]? = some (some x) → i = j
 | [], _, i, j, x, h, _ => by simp at h
 | none :: r, hn, i, j, x, h1, h2 => by
  cases i with
  | zero => simp at h1
  | succ i =>
   cases j with
   | zero => simp at h2
   | succ j => rw [Aoh (l := r) hn (i := i) (j := j) (by simpa using h1) (by simpa using h2)]
 | some y :: r, hn, i, j, x, h1, h2 => by
  simp only [somes, Bz, Bool.and_eq_true, Bool.not_eq_true', List.contains_eq_mem, decide_eq_false_iff_not] at hn
  cases i with
  | zero =>
   cases j with
   | zero => rfl
   | succ j => simp at h1 h2; subst h1; exact absurd (E8 (i := j) h2) hn.1
  | succ i =>
   cases j with
   | zero => simp at h1 h2; subst h2; exact absurd (E8 (i := i) h1) hn.1
   | succ j => rw [Aoh hn.2 (i := i) (j := j) (by simpa using h1) (by simpa using h2)]
theorem Za {mB : List Nat} {b b' : Nat} (h : bTo mB b b' = true) : mB[b]? = some b' := by
 unfold bTo at h
 split at h
 ·rename_i x e; rw [e]; simp at h; rw [h]
 ·cases h
theorem Kx {mO : List (Option Nat)} {l l' : Nat} (h : isTo mO l l' = true) : mO[l]? = some (some l') := by
 unfold isTo at h
 split at h
 ·rename_i x e; rw [e]; simp at h; rw [h]
 ·cases h
theorem Bhx {mO : List (Option Nat)} {l : Nat} (h : isNil mO l = true) : mO[l]? = some none := by
 unfold isNil at h
 split at h
 ·assumption
 ·cases h
theorem Aot (G : Gm) (mB : List Nat) (mO : List (Option Nat)) : ∀ (a b : List (Nat × Nat)), Pg mB a b = true → b.map (ptrV G) = a.map (ptrV (coG G mB mO))
 | [], [], _ => rfl
 | x :: r, y :: q, h => by
  simp only [Pg, Bool.and_eq_true] at h
  obtain ⟨⟨h1, h2⟩, h3⟩ := h
  simp only [List.map_cons, Aot G mB mO r q h3, List.cons.injEq, and_true]
  split at h1
  ·rename_i z hz
   simp at h1 h2
   simp [ptrV, coG, List.getD, hz, h1, h2]
  ·cases h1
 | [], _ :: _, h => by cases h
 | _ :: _, [], h => by cases h
theorem Mb {br bx mB mO} : ∀ {ks : List (List SL)} {bs : List Nat} {out : List (Option (List L))}, coBs s br bx mB mO ks bs = some out → out.length = bs.length ∧ ks.length = bs.length ∧ ∀ (i : Nat) (x : Option (List L)), out[i]? = some x →
  ∃ b ls ls' k, bs[i]? = some b ∧ ks[i]? = some k ∧ Ae s b = some ls ∧ coLs s br bx mB mO k ls = some ls' ∧ x = some ls'
 | [], [], out, h => by cases h; exact ⟨rfl, rfl, fun i x hx => by simp at hx⟩
 | k :: r, b :: q, out, h => by
  simp only [coBs] at h
  obtain ⟨ls, h1, h2⟩ := Option.bind_eq_some_iff.1 h
  obtain ⟨ls', h3, h4⟩ := Option.bind_eq_some_iff.1 h2
  obtain ⟨c, h5, h6⟩ := Option.bind_eq_some_iff.1 h4
  cases h6
  obtain ⟨e1, e2, e3⟩ := Mb h5
  refine ⟨by simp [e1], by simp [e2], fun i x hx => ?_⟩
  cases i with
  | zero => simp at hx; exact ⟨b, ls, ls', k, by simp, by simp, h1, h3, hx.symm⟩
  | succ i =>
   obtain ⟨b', l1, l2, k', f1, f2, f3, f4, f5⟩ := e3 i x (by simpa using hx)
   exact ⟨b', l1, l2, k', by simpa using f1, by simpa using f2, f3, f4, f5⟩
 | [], _ :: _, _, h => by cases h
 | _ :: _, [], _, h => by cases h
theorem Ew : ∀ {ks : List (Option (Nat × Ty))} {ms : List (Option Nat)} {out : List (Option Own)}, coOs s ks ms = some out → out.length = ms.length ∧ ks.length = ms.length ∧ ∀ (i : Nat) (x : Own), out[i]? = some (some x) →
  (∃ k, ks[i]? = some (some k)) ∧ ((∃ l, ms[i]? = some (some l) ∧ Aa s l = some x) ∨ (ms[i]? = some none ∧ x.xs = [] ∧ 0 < x.t.size))
 | [], [], out, h => by cases h; exact ⟨rfl, rfl, fun i x hx => by simp at hx⟩
 | some k :: r, some l :: q, out, h => by
  simp only [coOs] at h
  obtain ⟨y, h1, h2⟩ := Option.bind_eq_some_iff.1 h
  split at h2
  ·obtain ⟨c, h5, h6⟩ := Option.bind_eq_some_iff.1 h2
   cases h6
   obtain ⟨e1, e2, e3⟩ := Ew h5
   refine ⟨by simp [e1], by simp [e2], fun i x hx => ?_⟩
   cases i with
   | zero => simp at hx; subst hx; exact ⟨⟨k, by simp⟩, .inl ⟨l, by simp, h1⟩⟩
   | succ i => simpa using e3 i x (by simpa using hx)
  ·cases h2
 | some k :: r, none :: q, out, h => by
  simp only [coOs] at h
  split at h
  ·rename_i hz
   obtain ⟨c, h5, h6⟩ := Option.bind_eq_some_iff.1 h
   cases h6
   obtain ⟨e1, e2, e3⟩ := Ew h5
   refine ⟨by simp [e1], by simp [e2], fun i x hx => ?_⟩
   cases i with
   | zero => simp at hx; subst hx; exact ⟨⟨k, by simp⟩, .inr ⟨by simp, rfl, hz⟩⟩
   | succ i => simpa using e3 i x (by simpa using hx)
  ·cases h
 | none :: r, m :: q, out, h => by
  simp only [coOs] at h
  obtain ⟨c, h5, h6⟩ := Option.bind_eq_some_iff.1 h
  cases h6
  obtain ⟨e1, e2, e3⟩ := Ew h5
  refine ⟨by simp [e1], by simp [e2], fun i x hx => ?_⟩
  cases i with
  | zero => simp at hx
  | succ i => simpa using e3 i x (by simpa using hx)
 | [], _ :: _, _, h => by cases h
 | some _ :: _, [], _, h => by cases h
 | none :: _, [], _, h => by cases h
theorem F0 {α : Type} {l : List (Option α)} {n i : Nat} {x : α} (h : ((l ++ List.replicate n none)[i]?).bind id = some x) : l[i]? = some (some x) := by
 rw [List.getElem?_append] at h
 split at h
 ·rename_i hi
  rw [List.getElem?_eq_getElem hi] at h ⊢
  simp at h
  rw [h]
 ·rw [List.getElem?_replicate] at h
  split at h
  ·simp at h
  ·simp at h
theorem Holds.weakF {F F' : Nat → Prop} (h : Holds F' s G vals w) (hF : ∀ j, F j → F' j) : Holds F s G vals w := by
 have hok : ∀ k, okS F' s G w k → okS F s G w k ∧ w.heap[k]? = w.heap[k]? := fun k hk => ⟨⟨hk.1, fun e => hk.2.1 (hF k e), hk.2.2⟩, rfl⟩
 have htr : ∀ l v, HR F' s G w l v → HR F s G w l v := fun l v hr => HL.keep hok (fun l x hx => ⟨x, hx, Nat.le_refl _, rfl⟩) hr
 exact ⟨h.slots.imp fun _ _ ha => ha.imp htr, fun b ls hb => by
  obtain ⟨cs, et, h1, h2⟩ := h.box b ls hb
  exact ⟨cs, et, h1, h2.imp htr⟩, fun l x hx => by
  obtain ⟨h0, cs, h1, h2⟩ := h.own l x hx
  exact ⟨h0, cs, h1, h2.mono hok⟩, h.bb, h.bo, h.oo, fun k hk e => h.nF k hk (hF k e), fun k hk => h.Flt k (hF k hk), h.ty, h.gl⟩
theorem Aor {R : L → Value → Prop} {ok : Nat → Prop} {w : World} (hR : ∀ p v, R (.pv p) v → RepL w ok p v) : ∀ {ls : List L} {ps : List PL} {cs : List Value}, Er ls = some ps → All2 R ls cs → All2 (RepL w ok) ps cs
 | [], ps, cs, h1, h2 => by cases h1; cases h2; exact .nil
 | .pv p :: ls, ps, cs, h1, h2 => by
  simp only [Er] at h1
  obtain ⟨q, hq, rfl⟩ := Option.map_eq_some_iff.1 h1
  cases h2 with
  | cons h3 h4 => exact .cons (hR _ _ h3) (Aor hR hq h4)
 | .dead :: _, _, _, h1, _ => by cases h1
 | .cst _ :: _, _, _, h1, _ => by cases h1
 | .ptr _ _ :: _, _, _, h1, _ => by cases h1
 | .own _ :: _, _, _, h1, _ => by cases h1
 | .ept _ _ _ _ :: _, _, _, h1, _ => by cases h1
 | .rpt _ :: _, _, _, h1, _ => by cases h1
 | .fn _ _ _ :: _, _, _, h1, _ => by cases h1
 | .ifc _ _ _ :: _, _, _, h1, _ => by cases h1
 | .err _ :: _, _, _, h1, _ => by cases h1
theorem Ii {k : Sk} {n : Nat} {c : Co} (hc : co k s n = some c) : Bz c.mB = true ∧ Bz (somes c.mO) = true ∧ (∀ l ∈ c.br, l ∉ somes c.mO) ∧ (∀ b ∈ c.bx, b ∉ c.mB) ∧
  ∃ as bs os, coAs s c.br c.bx c.mB c.mO k.slots s.slots = some as ∧ coBs s c.br c.bx c.mB c.mO k.boxes c.mB = some bs ∧ coOs s k.owns c.mO = some os ∧ c.s = ⟨as, bs ++ List.replicate (n - bs.length) none, os ++ List.replicate (n - os.length) none⟩ := by
 unfold co Aah at hc
 generalize Qh s k.boxes 0 ((Hv k.slots s.slots).flatMap fun x => conB x.1 x.2) (Hv k.slots s.slots) = W at hc
 obtain ⟨mb, zs⟩ := W
 simp only at hc
 generalize brOf zs = br at hc
 generalize bxOf zs = bx at hc
 generalize ((List.range k.boxes.length).map fun b => look b mb b) = mB at hc
 generalize ((List.range k.owns.length).map fun l => look (some l) (zs.flatMap fun x => conO x.1 x.2) l) = mO at hc
 unfold Aai at hc
 split at hc
 ·rename_i hcond
  obtain ⟨as, h1, h2⟩ := Option.bind_eq_some_iff.1 hc
  obtain ⟨bs, h3, h4⟩ := Option.bind_eq_some_iff.1 h2
  obtain ⟨os, h5, h6⟩ := Option.bind_eq_some_iff.1 h4
  cases h6
  simp only [Bool.and_eq_true] at hcond
  obtain ⟨⟨⟨c1, c2⟩, c3⟩, c4⟩ := hcond
  refine ⟨c1, c2, fun l hl hm => ?_, fun l hl hm => ?_, as, bs, os, h1, h3, h5, rfl⟩
  ·have := List.all_eq_true.1 c3 l hl
   simp at this
   exact this hm
  ·have := List.all_eq_true.1 c4 l hl
   simp at this
   exact this hm
 ·cases hc
theorem Aaj {k : Sk} {n : Nat} {c : Co} (h : Holds F s G vals w) (hc : co k s n = some c) : Holds (FL F s G c.br c.bx c.mB c.mO) c.s (coG G c.mB c.mO) vals w ∧ (∀ j, Live c.s (coG G c.mB c.mO) j → Live s G j) := by
 obtain ⟨hnB, hnO, hdis, hdisB, as, bs, os, hA, hB, hO, hs⟩ := Ii hc
 generalize hbr : c.br = br at *
 generalize hbx : c.bx = bx at *
 generalize hmB : c.mB = mB at *
 generalize hmO : c.mO = mO at *
 obtain ⟨hBl, hBk, hBg⟩ := Mb hB
 obtain ⟨hOl, hOk, hOg⟩ := Ew hO
 have hbox : ∀ b ls, Ae c.s b = some ls → ∃ b' q k', mB[b]? = some b' ∧ Ae s b' = some q ∧ coLs s br bx mB mO k' q = some ls := by
  intro b ls hb
  rw [hs] at hb
  obtain ⟨b', q, ls', k', f1, f2, f3, f4, f5⟩ := hBg b _ (F0 hb)
  cases f5
  exact ⟨b', q, k', f1, f3, f4⟩
 have hown : ∀ l x, Aa c.s l = some x → (∃ l', mO[l]? = some (some l') ∧ Aa s l' = some x) ∨ (mO[l]? = some none ∧ x.xs = [] ∧ 0 < x.t.size) := by
  intro l x hx
  rw [hs] at hx
  exact (hOg l x (F0 hx)).2
 have hGb : ∀ {b b'}, mB[b]? = some b' → (coG G mB mO).bx b = G.bx b' := fun hb => by simp [coG, List.getD, hb]
 have hGo : ∀ {l l'}, mO[l]? = some (some l') → (coG G mB mO).ow l = G.ow l' := fun hl => by simp [coG, List.getD, hl]
 have hGn : ∀ {l}, mO[l]? = some none → (coG G mB mO).ow l = .slice none 0 0 := fun hl => by simp [coG, List.getD, hl]
 have hlive : ∀ j, Live c.s (coG G mB mO) j → Live s G j ∧ KeptB s G br bx mB mO j := by
  rintro j (⟨b, ls, hb, rfl⟩ | ⟨l, x, hx, hj⟩)
  ·obtain ⟨b', q, k', f1, f2, f3⟩ := hbox b ls hb
   rw [hGb f1]
   exact ⟨.inl ⟨b', q, f2, rfl⟩, .inl ⟨b', List.mem_append_left _ (List.mem_of_getElem? f1), q, f2, rfl⟩⟩
  ·rcases hown l x hx with ⟨l', f1, f2⟩ | ⟨f1, f2, f3⟩
   ·rw [hGo f1] at hj
    exact ⟨.inr ⟨l', x, f2, hj⟩, .inr ⟨l', List.mem_append_left _ (E8 f1), x, f2, hj⟩⟩
   ·rw [hGn f1] at hj
    simp [Value.ownBlock] at hj
 have hok : ∀ j, okS F s G w j → okS (FL F s G br bx mB mO) c.s (coG G mB mO) w j ∧ w.heap[j]? = w.heap[j]? := by
  intro j hj
  refine ⟨⟨hj.1, ?_, fun hL => hj.2.2 (hlive j hL).1⟩, rfl⟩
  rintro (h1 | h1)
  ·exact hj.2.1 h1
  ·exact hj.2.2 h1.1
 have hok2 : ∀ l x, l ∈ br → Aa s l = some x → ∀ j, (okS F s G w j ∨ (G.ow l).ownBlock = some j) → okS (FL F s G br bx mB mO) c.s (coG G mB mO) w j ∧ w.heap[j]? = w.heap[j]? := by
  rintro l x hl hx j (hj | hj)
  ·exact hok j hj
  ·have hLj : Live s G j := .inr ⟨l, x, hx, hj⟩
   refine ⟨⟨h.lt hLj, ?_, ?_⟩, rfl⟩
   ·rintro (h1 | h1)
    ·exact h.nF j hLj h1
    ·exact h1.2 (.inr ⟨l, List.mem_append_right _ hl, x, hx, hj⟩)
   ·rintro (⟨b, ls, hb, rfl⟩ | ⟨l2, y, hy, hj2⟩)
    ·obtain ⟨b', q, k', f1, f2, f3⟩ := hbox b ls hb
     rw [hGb f1] at hj
     exact h.bo b' q l x f2 hx hj
    ·rcases hown l2 y hy with ⟨l', f1, f2⟩ | ⟨f1, f2, f3⟩
     ·rw [hGo f1] at hj2
      have := h.oo l l' x y j hx f2 hj hj2
      subst this
      exact hdis l hl (E8 f1)
     ·rw [hGn f1] at hj2
      simp [Value.ownBlock] at hj2
 have hLend : ∀ (b k n : Nat) (ls : List L) (ps : List PL), b ∈ bx → Ae s b = some ls → Er ((ls.drop k).take n) = some ps → RP w (okS (FL F s G br bx mB mO) c.s (coG G mB mO) w) ps (.pointer (some ⟨G.bx b, k, none⟩)) := by
  intro b k n ls ps hmb hls hps
  obtain ⟨cs, et, k1, k2⟩ := h.box b ls hls
  have hLj : Live s G (G.bx b) := .inl ⟨b, ls, hls, rfl⟩
  refine ⟨⟨G.bx b, k, none⟩, (cs.toList.drop k).take n, rfl, rfl, ⟨h.lt hLj, ?_, ?_⟩, (Gp k1 k).take _, ?_⟩
  ·rintro (h1 | h1)
   ·exact h.nF _ hLj h1
   ·exact h1.2 (.inl ⟨b, List.mem_append_right _ hmb, ls, hls, rfl⟩)
  ·rintro (⟨b2, ls2, hb2, e⟩ | ⟨l2, y, hy, e⟩)
   ·obtain ⟨b', q, k', f1, f2, f3⟩ := hbox b2 ls2 hb2
    rw [hGb f1] at e
    have := h.bb b' b q ls f2 hls e
    subst this
    exact hdisB b' hmb (List.mem_of_getElem? f1)
   ·rcases hown l2 y hy with ⟨l', f1, f2⟩ | ⟨f1, f2, f3⟩
    ·rw [hGo f1] at e
     exact h.bo b ls l' y hls f2 e
    ·rw [hGn f1] at e
     simp [Value.ownBlock] at e
  ·exact (Aor (R := HR F s G w) (ok := okS F s G w) (fun _ _ h => h) hps ((k2.drop k).take n)).imp fun _ _ h => h.mono hok
 have hL : ∀ sl l l' v, coL s br bx mB mO sl l = some l' → HR F s G w l v → HR (FL F s G br bx mB mO) c.s (coG G mB mO) w l' v := by
  intro sl l l' v hco hr
  unfold coL at hco
  split at hco
  ·cases hco; exact hr.one
  ·split at hco
   ·cases hco
    exact RepL.mono hok hr
   ·cases hco
  ·rename_i t m
   split at hco
   ·cases hco
   ·rename_i hmem
    obtain ⟨x, hx, h2⟩ := Option.bind_eq_some_iff.1 hco
    split at h2
    ·rename_i et
     cases h2
     exact Rep.mono (hok2 m x (by simpa using hmem) hx) (Hn h hx hr.1)
    ·cases h2
  ·split at hco
   ·cases hco
    rw [show v = _ from hr]
    exact ⟨none, 0, rfl, Nat.le_refl _, Nat.zero_le _, fun hne => absurd rfl hne⟩
   ·cases hco
  ·split at hco
   ·cases hco; exact hr
   ·cases hco
  ·rename_i b q b' q'
   split at hco
   ·rename_i hcond
    cases hco
    simp only [Bool.and_eq_true, beq_iff_eq] at hcond
    obtain ⟨c1, rfl⟩ := hcond
    show v = _
    rw [hGb (Za c1)]
    exact hr
   ·cases hco
  ·split at hco
   ·rename_i hto
    cases hco
    exact ⟨by rw [hGo (Kx hto)]; exact hr.1, hr.2⟩
   ·cases hco
  ·split at hco
   ·rename_i hni
    cases hco
    exact ⟨.inl (by rw [hGn (Bhx hni)]; exact hr), by rw [show v = _ from hr]; rfl⟩
   ·cases hco
  ·rename_i l1 q1 z1 l2 i2 q2 z2
   split at hco
   ·rename_i hcond
    cases hco
    simp only [Bool.and_eq_true, beq_iff_eq] at hcond
    obtain ⟨⟨c1, rfl⟩, rfl⟩ := hcond
    obtain ⟨g, n1, cc, e, e2, e3⟩ := hr
    refine ⟨g, n1, cc, by rw [hGo (Kx c1)]; exact e, e2, fun x hx => ?_⟩
    rcases hown l1 x hx with ⟨l', f1, f2⟩ | ⟨f1, f2, f3⟩
    ·rw [Kx c1] at f1
     cases f1
     exact e3 x f2
    ·rw [Kx c1] at f1
     cases f1
   ·cases hco
  ·split at hco
   ·cases hco
    obtain ⟨ad, cs, e, hs1, ho1, hc1, hr1⟩ := hr
    exact ⟨ad, cs, e, hs1, (hok _ ho1).1, hc1, hr1.imp fun _ _ h => h.mono hok⟩
   ·cases hco
  ·rename_i ts b k
   split at hco
   ·cases hco
   ·rename_i hmem
    obtain ⟨ls, hls, h5⟩ := Option.bind_eq_some_iff.1 hco
    obtain ⟨ps, hps, h6⟩ := Option.bind_eq_some_iff.1 h5
    split at h6
    ·cases h6
     obtain ⟨cs, et, k1, k2⟩ := h.box b ls hls
     have hmb : b ∈ bx := by simpa using hmem
     have hLj : Live s G (G.bx b) := .inl ⟨b, ls, hls, rfl⟩
     refine ⟨⟨G.bx b, k, none⟩, (cs.toList.drop k).take ts.length, hr, rfl, ⟨h.lt hLj, ?_, ?_⟩, (Gp k1 k).take _, ?_⟩
     ·rintro (h1 | h1)
      ·exact h.nF _ hLj h1
      ·exact h1.2 (.inl ⟨b, List.mem_append_right _ hmb, ls, hls, rfl⟩)
     ·rintro (⟨b2, ls2, hb2, e⟩ | ⟨l2, y, hy, e⟩)
      ·obtain ⟨b', q, k', f1, f2, f3⟩ := hbox b2 ls2 hb2
       rw [hGb f1] at e
       have := h.bb b' b q ls f2 hls e
       subst this
       exact hdisB b' hmb (List.mem_of_getElem? f1)
      ·rcases hown l2 y hy with ⟨l', f1, f2⟩ | ⟨f1, f2, f3⟩
       ·rw [hGo f1] at e
        exact h.bo b ls l' y hls f2 e
       ·rw [hGn f1] at e
        simp [Value.ownBlock] at e
     ·exact (Aor (R := HR F s G w) (ok := okS F s G w) (fun _ _ h => h) hps ((k2.drop k).take ts.length)).imp fun _ _ h => h.mono hok
    ·cases h6
  ·rename_i f x y f' x' y'
   split at hco
   ·rename_i hcond
    cases hco
    simp only [Bool.and_eq_true, beq_iff_eq] at hcond
    obtain ⟨⟨rfl, c2⟩, c3⟩ := hcond
    show v = _
    rw [show v = _ from hr, Aot G mB mO _ _ c2, Aot G mB mO _ _ c3]
   ·cases hco
  ·split at hco
   ·rename_i hcond
    cases hco
    simp only [Bool.and_eq_true, beq_iff_eq] at hcond
    obtain ⟨⟨rfl, rfl⟩, _⟩ := hcond
    obtain ⟨cs, hr1, e⟩ := hr
    exact ⟨cs, hr1.imp fun _ _ h => h.mono hok, e⟩
   ·cases hco
  ·cases hco; exact hr
  ·cases hco; exact hr
  ·cases hco
   obtain ⟨cs, hr1, e⟩ := hr
   exact ⟨_, _, e⟩
  ·rename_i b t b' t' z
   split at hco
   ·rename_i hcond
    cases hco
    simp only [Bool.and_eq_true, beq_iff_eq] at hcond
    obtain ⟨c1, rfl⟩ := hcond
    have hmb : mB[b]? = some b' := by
     unfold bTo at c1
     split at c1
     ·rename_i y hy; rw [hy, beq_iff_eq.1 c1]
     ·cases c1
    refine ⟨?_, ?_⟩
    ·rw [hGb hmb]; exact hr.1
    ·show G.et (mB.getD b 0) = t
     rw [List.getD_eq_getElem?_getD, hmb]
     exact hr.2
   ·cases hco
  ·split at hco
   ·rename_i hcond
    cases hco
    simp only [Bool.and_eq_true, beq_iff_eq] at hcond
    obtain ⟨c1, rfl⟩ := hcond
    show v = _
    rw [hGb (Za c1)]
    exact hr
   ·cases hco
  ·split at hco
   ·rename_i hcond
    cases hco
    simp only [Bool.and_eq_true, beq_iff_eq] at hcond
    obtain ⟨⟨c1, rfl⟩, rfl⟩ := hcond
    show v = _
    rw [hGb (Za c1)]
    exact hr
   ·cases hco
  ·rename_i z t' ps
   split at hco
   ·rename_i hcond
    cases hco
    simp only [Bool.and_eq_true, beq_iff_eq] at hcond
    obtain ⟨rfl, _⟩ := hcond
    cases z with
    | true => exact hr
    | false =>
     obtain ⟨u, e, hr1⟩ := hr
     exact ⟨u, e, hr1.mono hok⟩
   ·cases hco
  ·cases hco; exact hr
  ·rename_i t ts t' b k
   split at hco
   ·cases hco
   ·rename_i hmem
    obtain ⟨ls, hls, h5⟩ := Option.bind_eq_some_iff.1 hco
    obtain ⟨ps, hps, h6⟩ := Option.bind_eq_some_iff.1 h5
    simp only [Bool.not_eq_true', Bool.not_eq_false, Bool.and_eq_true, beq_iff_eq] at hmem
    obtain ⟨hmb, rfl⟩ := hmem
    split at h6
    ·cases h6
     exact ⟨_, hr, hLend b k ts.length ls ps (by simpa using hmb) hls hps⟩
    ·cases h6
  ·rename_i z ps
   split at hco
   ·cases hco
    cases z with
    | true => exact hr
    | false => exact RP.mono hok hr
   ·cases hco
  ·cases hco; exact hr
  ·split at hco
   ·rename_i c1
    cases hco
    obtain ⟨g, cs, c, u, hm, e, k1, k2, k3, k4, k5⟩ := hr
    exact ⟨g, cs, c, u, hm, e, k1, k2, k3, by rw [hGo (Kx c1)]; exact k4, k5⟩
   ·cases hco
  ·split at hco
   ·rename_i c1
    cases hco
    obtain ⟨g, cs, i, u, hm, e, k3, k4, k5⟩ := hr
    exact ⟨g, cs, i, u, hm, e, k3, by rw [hGo (Kx c1)]; exact k4, k5⟩
   ·cases hco
  ·cases hco
 have hLs : ∀ (ks : List SL) (ls ls' : List L) (vs : List Value), coLs s br bx mB mO ks ls = some ls' → All2 (HR F s G w) ls vs → All2 (HR (FL F s G br bx mB mO) c.s (coG G mB mO) w) ls' vs := by
  intro ks
  induction ks with
  | nil =>
   intro ls ls' vs hco hv
   cases ls with
   | nil => cases hco; exact (by cases hv; exact .nil)
   | cons l ls => cases hco
  | cons k ks ih =>
   intro ls ls' vs hco hv
   cases ls with
   | nil => cases hco
   | cons l ls =>
    simp only [coLs] at hco
    obtain ⟨x, h1, h2⟩ := Option.bind_eq_some_iff.1 hco
    obtain ⟨y, h3, h4⟩ := Option.bind_eq_some_iff.1 h2
    cases h4
    cases hv with
    | cons hv1 hv2 => exact .cons (hL _ _ _ _ h1 hv1) (ih _ _ _ h3 hv2)
 have hAs : ∀ (ks : List SA) (as as' : List AV) (vs : List Value), coAs s br bx mB mO ks as = some as' → All2 (HA (HR F s G w)) as vs → All2 (HA (HR (FL F s G br bx mB mO) c.s (coG G mB mO) w)) as' vs := by
  intro ks
  induction ks with
  | nil =>
   intro ls ls' vs hco hv
   cases ls with
   | nil => cases hco; exact (by cases hv; exact .nil)
   | cons l ls => cases hco
  | cons k ks ih =>
   intro ls ls' vs hco hv
   cases ls with
   | nil => cases hco
   | cons l ls =>
    simp only [coAs] at hco
    obtain ⟨x, h1, h2⟩ := Option.bind_eq_some_iff.1 hco
    obtain ⟨y, h3, h4⟩ := Option.bind_eq_some_iff.1 h2
    cases h4
    cases hv with
    | cons hv1 hv2 =>
     refine .cons ?_ (ih _ _ _ h3 hv2)
     unfold coA at h1
     split at h1
     ·cases h1; trivial
     ·obtain ⟨z, h5, rfl⟩ := Option.map_eq_some_iff.1 h1
      exact hL _ _ _ _ h5 hv1
     ·obtain ⟨z, h5, rfl⟩ := Option.map_eq_some_iff.1 h1
      obtain ⟨cs, e, h6⟩ := hv1
      exact ⟨cs, e, hLs _ _ _ _ h5 h6⟩
     ·cases h1
 refine ⟨⟨?_, ?_, ?_, ?_, ?_, ?_, ?_, ?_, ?_, h.glOf (fun _ _ _ => rfl) fun j hj => .inl (hlive j hj).1⟩, fun j hj => (hlive j hj).1⟩
 ·have : c.s.slots = as := by rw [hs]
  rw [this]
  exact hAs _ _ _ _ hA h.slots
 ·intro b ls hb
  obtain ⟨b', q, k', f1, f2, f3⟩ := hbox b ls hb
  obtain ⟨cs, et, h1, h2⟩ := h.box b' q f2
  exact ⟨cs, et, by rw [hGb f1]; exact h1, hLs _ _ _ _ f3 h2⟩
 ·intro l x hx
  rcases hown l x hx with ⟨l', f1, f2⟩ | ⟨f1, f2, f3⟩
  ·obtain ⟨h0, cs, h1, h2⟩ := h.own l' x f2
   exact ⟨h0, cs, by rw [hGo f1]; exact h1, h2.mono hok⟩
  ·refine ⟨f3, [], ?_, ?_⟩
   ·rw [hGn f1, f2]
    exact World.ownsRow_nil _ _ _ _
   ·rw [f2]
    exact .nil
 ·intro b b' ls ls' hb hb' e
  obtain ⟨b1, q1, k1, f1, f2, f3⟩ := hbox b ls hb
  obtain ⟨b2, q2, k2, g1, g2, g3⟩ := hbox b' ls' hb'
  rw [hGb f1, hGb g1] at e
  have := h.bb b1 b2 q1 q2 f2 g2 e
  subst this
  exact Wd hnB f1 g1
 ·intro b ls l x hb hx e
  obtain ⟨b1, q1, k1, f1, f2, f3⟩ := hbox b ls hb
  rw [hGb f1] at e
  rcases hown l x hx with ⟨l', g1, g2⟩ | ⟨g1, g2, g3⟩
  ·rw [hGo g1] at e
   exact h.bo b1 q1 l' x f2 g2 e
  ·rw [hGn g1] at e
   simp [Value.ownBlock] at e
 ·intro l l' x x' j hx hx' e e'
  rcases hown l x hx with ⟨m, f1, f2⟩ | ⟨f1, f2, f3⟩
  ·rcases hown l' x' hx' with ⟨m', g1, g2⟩ | ⟨g1, g2, g3⟩
   ·rw [hGo f1] at e
    rw [hGo g1] at e'
    have := h.oo m m' x x' j f2 g2 e e'
    subst this
    exact Aoh hnO f1 g1
   ·rw [hGn g1] at e'
    simp [Value.ownBlock] at e'
  ·rw [hGn f1] at e
   simp [Value.ownBlock] at e
 ·intro j hj hF
  obtain ⟨h1, h2⟩ := hlive j hj
  rcases hF with hF | hF
  ·exact h.nF j h1 hF
  ·exact hF.2 h2
 ·rintro j (hF | hF)
  ·exact h.Flt j hF
  ·exact h.lt hF.1
 ·intro b ls hb
  obtain ⟨b', q, k', f1, f2, f3⟩ := hbox b ls hb
  have e2 : (coG G mB mO).et b = G.et b' := by simp [coG, List.getD, f1]
  rw [hGb f1, e2]
  exact h.ty b' q f2
end
def AV.ls : AV → List L
 | .dead => []
 | .cv c => c.leaves
 | .tup cs => cs.flatMap CV.leaves
theorem HC.imp_ls {R S : L → Value → Prop} {c : CV} {v : Value} (f : ∀ l ∈ c.leaves, ∀ v, R l v → S l v) (h : HC R c v) : HC S c v := by
 cases c with
 | lf l => exact f l (by simp [CV.leaves]) _ h
 | agg ls => obtain ⟨cs, rfl, h⟩ := h; exact ⟨cs, rfl, h.imp_mem fun a b ha hr => f a ha b hr⟩
theorem HA.imp_ls {R S : L → Value → Prop} {a : AV} {v : Value} (f : ∀ l ∈ a.ls, ∀ v, R l v → S l v) (h : HA R a v) : HA S a v := by
 cases a with
 | dead => trivial
 | cv c => exact HC.imp_ls f h
 | tup cs =>
  obtain ⟨vs, rfl, h⟩ := h
  exact ⟨vs, rfl, h.imp_mem fun a b ha hr => HC.imp_ls (fun l hl => f l (List.mem_flatMap.2 ⟨a, ha, hl⟩)) hr⟩
def pos : List Nat → Nat → Option Nat
 | [], _ => none
 | x :: r, b => if x = b then some 0 else (pos r b).map (· + 1)
theorem F7 : ∀ {r : List Nat} {b i : Nat}, pos r b = some i → r[i]? = some b
 | [], _, _, h => by cases h
 | x :: r, b, i, h => by
  unfold pos at h
  split at h
  ·rename_i e; cases h; simp [e]
  ·obtain ⟨j, hj, rfl⟩ := Option.map_eq_some_iff.1 h
   simpa using F7 hj
theorem A5u : ∀ {r : List Nat} {b : Nat}, pos r b = none → ∀ i : Nat, r[i]? ≠ some b
 | [], _, _, i, hi => by simp at hi
 | x :: r, b, h, i, hi => by
  unfold pos at h
  split at h
  ·cases h
  ·rename_i e
   have h2 : pos r b = none := by simpa using h
   cases i with
   | zero => simp at hi; exact e hi
   | succ i => exact A5u h2 i (by simpa using hi)
theorem Aos {r : List Nat} (hn : Bz r = true) {b i : Nat} (h : r[i]? = some b) : pos r b = some i := by
 cases hp : pos r b with
 | none => exact absurd h (A5u hp i)
 | some j => rw [Wd hn (F7 hp) h]
section
variable {P : Program} {F : Nat → Prop} {s s' : St} {G : Gm} {a : Act} {w w' : World} {v : AV} {vals : List Value}
theorem Y2 {p : L → Bool} (h : s.all p = true) : ∀ x ∈ s.slots, ∀ l ∈ x.ls, p l = true := by
 intro x hx l hl
 have h2 := Qq h x hx
 cases x with
 | dead => cases hl
 | cv c => exact List.all_eq_true.1 h2 l hl
 | tup cs =>
  obtain ⟨c, hc, hl⟩ := List.mem_flatMap.1 hl
  exact List.all_eq_true.1 (List.all_eq_true.1 h2 c hc) l hl
theorem Zy : ∀ {oB : List (Option Nat)} {rB : List Nat}, chkB s oB rB = true → oB.length = rB.length ∧ ∀ (i x : Nat), rB[i]? = some x → oB[i]? = some (some x) ∨ (oB[i]? = some none ∧ Bq s x = true ∧ N0 ≤ x)
 | [], [], _ => ⟨rfl, fun i x h => by simp at h⟩
 | some b :: r, y :: q, h => by
  simp only [chkB, Bool.and_eq_true, beq_iff_eq] at h
  obtain ⟨rfl, h2⟩ := h
  obtain ⟨e, f⟩ := Zy h2
  refine ⟨by simp [e], fun i x hi => ?_⟩
  cases i with
  | zero => simp at hi; subst hi; exact .inl (by simp)
  | succ i => simpa using f i x (by simpa using hi)
 | none :: r, y :: q, h => by
  simp only [chkB, Bool.and_eq_true, decide_eq_true_eq] at h
  obtain ⟨⟨h1, h3⟩, h2⟩ := h
  obtain ⟨e, f⟩ := Zy h2
  refine ⟨by simp [e], fun i x hi => ?_⟩
  cases i with
  | zero => simp at hi; subst hi; exact .inr ⟨by simp, h1, h3⟩
  | succ i => simpa using f i x (by simpa using hi)
 | [], _ :: _, h => by cases h
 | some _ :: _, [], h => by cases h
 | none :: _, [], h => by cases h
theorem Z0 : ∀ {oB : List (Option Nat)} {rB : List Nat}, chkO s oB rB = true → oB.length = rB.length ∧ ∀ (i x : Nat), rB[i]? = some x → oB[i]? = some (some x) ∨ (oB[i]? = some none ∧ Ch s x = true ∧ N0 ≤ x)
 | [], [], _ => ⟨rfl, fun i x h => by simp at h⟩
 | some b :: r, y :: q, h => by
  simp only [chkO, Bool.and_eq_true, beq_iff_eq] at h
  obtain ⟨rfl, h2⟩ := h
  obtain ⟨e, f⟩ := Z0 h2
  refine ⟨by simp [e], fun i x hi => ?_⟩
  cases i with
  | zero => simp at hi; subst hi; exact .inl (by simp)
  | succ i => simpa using f i x (by simpa using hi)
 | none :: r, y :: q, h => by
  simp only [chkO, Bool.and_eq_true, decide_eq_true_eq] at h
  obtain ⟨⟨h1, h3⟩, h2⟩ := h
  obtain ⟨e, f⟩ := Z0 h2
  refine ⟨by simp [e], fun i x hi => ?_⟩
  cases i with
  | zero => simp at hi; subst hi; exact .inr ⟨by simp, h1, h3⟩
  | succ i => simpa using f i x (by simpa using hi)
 | [], _ :: _, h => by cases h
 | some _ :: _, [], h => by cases h
 | none :: _, [], h => by cases h
theorem Z2 {o : St} : ∀ {oO : List (Option Nat)} {i0 : Nat}, chkT s o i0 oO = true → ∀ (i l : Nat) (x : Own), oO[i]? = some (some l) → Aa o (i0 + i) = some x → ∃ y, Aa s l = some y ∧ y.t = x.t
 | [], _, _, i, l, x, h, _ => by simp at h
 | some m :: r, i0, hc, i, l, x, h, hx => by
  simp only [chkT, Bool.and_eq_true] at hc
  cases i with
  | zero =>
   simp at h
   subst h
   have h1 := hc.1
   rw [show Aa o i0 = some x from hx] at h1
   simp only at h1
   split at h1
   ·rename_i y hy; exact ⟨y, hy, by simpa using h1⟩
   ·cases h1
  | succ i => exact Z2 hc.2 i l x (by simpa using h) (by rw [Nat.add_assoc, Nat.add_comm 1 i]; exact hx)
 | none :: r, i0, hc, i, l, x, h, hx => by
  simp only [chkT] at hc
  cases i with
  | zero => simp at h
  | succ i => exact Z2 hc i l x (by simpa using h) (by rw [Nat.add_assoc, Nat.add_comm 1 i]; exact hx)
theorem A6g {o : St} {f : L → L} : ∀ {rB : List Nat} {s : St} {i0 b : Nat} {ls : List L}, Bz rB = true → Ae (Bv s o f i0 rB) b = some ls →
  (∃ i q, rB[i]? = some b ∧ Ae o (i0 + i) = some q ∧ ls = q.map f) ∨ ((∀ i : Nat, rB[i]? ≠ some b) ∧ Ae s b = some ls)
 | [], s, i0, b, ls, _, h => .inr ⟨fun i hi => by simp at hi, h⟩
 | x :: r, s, i0, b, ls, hn, h => by
  simp only [Bz, Bool.and_eq_true, Bool.not_eq_true', List.contains_eq_mem, decide_eq_false_iff_not] at hn
  rcases A6g (rB := r) hn.2 h with ⟨i, q, h1, h2, h3⟩ | ⟨h1, h2⟩
  ·exact .inl ⟨i + 1, q, by simpa using h1, by rw [Nat.add_comm i 1, ← Nat.add_assoc]; exact h2, h3⟩
  ·unfold Ae at h2
   simp only [List.getElem?_set] at h2
   split at h2
   ·rename_i e
    subst e
    split at h2
    ·simp only [Option.bind_some, id] at h2
     obtain ⟨q, hq, rfl⟩ := Option.map_eq_some_iff.1 h2
     exact .inl ⟨0, q, by simp, hq, rfl⟩
    ·simp at h2
   ·rename_i e
    refine .inr ⟨fun i hi => ?_, h2⟩
    cases i with
    | zero => simp at hi; exact e hi
    | succ i => exact h1 i (by simpa using hi)
theorem Wx {o : St} {f : L → L} : ∀ {rB : List Nat} {s : St} {i0 : Nat}, (Bv s o f i0 rB).owns = s.owns ∧ (Bv s o f i0 rB).slots = s.slots
 | [], _, _ => ⟨rfl, rfl⟩
 | x :: r, s, i0 => by
  rw [Bv]
  exact Wx (rB := r)
theorem Po {o : St} : ∀ {rO : List Nat} {s : St} {i0 : Nat}, (B7 s o i0 rO).boxes = s.boxes ∧ (B7 s o i0 rO).slots = s.slots
 | [], _, _ => ⟨rfl, rfl⟩
 | x :: r, s, i0 => by
  rw [B7]
  exact Po (rO := r)
theorem A6i {o : St} : ∀ {rO : List Nat} {s : St} {i0 l : Nat} {x : Own}, Bz rO = true → Aa (B7 s o i0 rO) l = some x →
  (∃ i, rO[i]? = some l ∧ Aa o (i0 + i) = some x) ∨ ((∀ i : Nat, rO[i]? ≠ some l) ∧ Aa s l = some x)
 | [], s, i0, b, ls, _, h => .inr ⟨fun i hi => by simp at hi, h⟩
 | m :: r, s, i0, l, x, hn, h => by
  simp only [Bz, Bool.and_eq_true, Bool.not_eq_true', List.contains_eq_mem, decide_eq_false_iff_not] at hn
  rcases A6i (rO := r) hn.2 h with ⟨i, h1, h2⟩ | ⟨h1, h2⟩
  ·exact .inl ⟨i + 1, by simpa using h1, by rw [Nat.add_comm i 1, ← Nat.add_assoc]; exact h2⟩
  ·unfold Aa Al at h2
   simp only [List.getElem?_set] at h2
   split at h2
   ·rename_i e
    subst e
    split at h2
    ·exact .inl ⟨0, by simp, h2⟩
    ·simp at h2
   ·rename_i e
    refine .inr ⟨fun i hi => ?_, h2⟩
    cases i with
    | zero => simp at hi; exact e hi
    | succ i => exact h1 i (by simpa using hi)
theorem So {ok ok' : Nat → Prop} : ∀ {t : Ty} {x : t.den} {cs : List Value}, Cy t = true → Rep w ok t x cs → Rep w ok' t x cs
 | .int _, _, _, _, h => by unfold Rep at h ⊢; exact h
 | .bool, _, _, _, h => by unfold Rep at h ⊢; exact h
 | .str, _, _, _, h => by unfold Rep at h ⊢; exact h
 | .nil, _, _, _, h => by unfold Rep at h ⊢; exact h
 | .any, _, _, _, h => by unfold Rep at h ⊢; exact h
 | .slice e, _, _, hf, _ => by cases hf
 | .cons a b, _, _, hf, h => by
  simp only [Cy, Bool.and_eq_true] at hf
  unfold Rep at h ⊢
  obtain ⟨c0, c1, rfl, h2, h3⟩ := h
  exact ⟨c0, c1, rfl, So hf.1 h2, So hf.2 h3⟩
theorem Ae7 : ∀ {t : Ty} {x : t.den}, Cy t = true → ∀ p ∈ flat t x, Cy p.t = true
 | .int _, _, h, p, hp => by simp [flat] at hp; subst hp; rfl
 | .bool, _, h, p, hp => by simp [flat] at hp; subst hp; rfl
 | .str, _, h, p, hp => by simp [flat] at hp; subst hp; rfl
 | .nil, _, h, p, hp => by simp [flat] at hp
 | .any, _, h, p, hp => by simp [flat] at hp; subst hp; rfl
 | .slice _, _, h, p, hp => by cases h
 | .cons a b, _, h, p, hp => by
  simp only [Cy, Bool.and_eq_true] at h
  simp only [flat, List.mem_append] at hp
  rcases hp with hp | hp
  ·exact Ae7 h.1 p hp
  ·exact Ae7 h.2 p hp
theorem Bek {ok ok' : Nat → Prop} {t : Ty} {xs : List t.den} {cs : List Value} (hf : Cy t = true) (h : RepRow w ok t xs cs) : RepRow w ok' t xs cs := by
 refine All2.imp_mem h fun p v hp hr => ?_
 obtain ⟨x, _, hx⟩ := List.mem_flatMap.1 hp
 exact So (Ae7 hf p hx) hr
def retV (vs : List Value) : Value := match vs with | [v] => v | l => .tuple l.toArray
theorem Bi7 {R : L → Value → Prop} {as : List AV} {vs : List Value} (h : All2 (HA R) as vs) {v : AV} (hv : Gb as = some v) : HA R v (retV vs) := by
 have key : ∀ (as : List AV) (vs : List Value) (cs : List CV), All2 (HA R) as vs → (as.foldr (fun a r => match a with | .cv c => r.map fun q => c :: q | _ => none) (some [])) = some cs → All2 (HC R) cs vs := by
  intro as
  induction as with
  | nil => intro vs cs h1 h2; cases h2; cases h1; exact .nil
  | cons a as ih =>
   intro vs cs h1 h2
   simp only [List.foldr_cons] at h2
   cases h1 with
   | cons h3 h4 =>
    split at h2
    ·obtain ⟨q, hq, rfl⟩ := Option.map_eq_some_iff.1 h2
     exact .cons h3 (ih _ _ h4 hq)
    ·cases h2
 unfold Gb at hv
 split at hv
 ·cases hv
  cases h with
  | cons h1 h2 => cases h2; exact h1
 ·rename_i hne
  obtain ⟨cs, hcs, rfl⟩ := Option.map_eq_some_iff.1 hv
  have h3 := key as vs cs h hcs
  unfold retV
  split
  ·rename_i u
   exfalso
   cases h with
   | cons h1 h2 => cases h2; exact hne _ rfl
  ·exact ⟨_, rfl, by simpa using h3⟩
theorem Aoz {G1 G2 : Gm} {rB : List Nat} (hG : ∀ (b b' : Nat), rB[b]? = some b' → G2.bx b' = G1.bx b) : ∀ {x y : List (Nat × Nat)}, Hr rB x = some y → x.map (ptrV G1) = y.map (ptrV G2)
 | [], y, h => by cases h; rfl
 | p :: r, y, h => by
  simp only [Hr] at h
  obtain ⟨b, hb, h2⟩ := Option.bind_eq_some_iff.1 h
  obtain ⟨q, hq, rfl⟩ := Option.map_eq_some_iff.1 h2
  simp [ptrV, hG _ _ hb, Aoz hG hq]
def Ev (s : St) (G : Gm) (oB oO : List (Option Nat)) (j : Nat) : Prop :=
 (∃ b ls, Ae s b = some ls ∧ (∀ i : Nat, oB[i]? ≠ some (some b)) ∧ G.bx b = j) ∨ (∃ l x, Aa s l = some x ∧ (∀ i : Nat, oO[i]? ≠ some (some l)) ∧ (G.ow l).ownBlock = some j)
theorem own_len {e : TypeId} {e' : TypeId} {sz sz' n n' : Nat} {v : Value} {cs cs' : List Value} {w w' : World} (h : w.ownsRow 0 e sz v n cs) (h' : w'.ownsRow 0 e' sz' v n' cs') : n = n' := by
 rcases h.2 with ⟨e1, e2⟩ | ⟨g, c, cur, e1, _⟩ <;> rcases h'.2 with ⟨f1, f2⟩ | ⟨g', c', cur', f1, _⟩
 ·omega
 ·rw [e1] at f1; cases f1
 ·rw [e1] at f1; cases f1
 ·rw [e1] at f1; cases f1; rfl
theorem A9o (h : Holds F s G a.tmps.toList w) {s0 : St} {G0 : Gm} {F1 : Nat → Prop} {o : St} {G1 : Gm} {rv : List Value} (h1 : Holds F1 o G1 rv w') {nb no : Nat} (hst : Step nb no s0 G0 w o G1 w')
  {oB oO : List (Option Nat)} {rB rO : List Nat} {d : Nat}
  (hA : ∀ (i b : Nat), oB[i]? = some (some b) → i < nb ∧ G0.bx i = G.bx b ∧ G0.et i = G.et b) (hB : ∀ (i l : Nat), oO[i]? = some (some l) → i < no ∧ ∀ x, Aa s0 i = some x → G0.ow i = G.ow l)
  (hL0 : ∀ j, Live s0 G0 j → Live s G j) (hF : ∀ j, F j → F1 j) (hF2 : (∀ j, Ev s G oB oO j → F1 j) ∨ Bj o = true) (hold : ∀ j, Ev s G oB oO j → ¬ Live s0 G0 j)
  (hfx0 : G0.fx = G.fx) (hb : Cl s o d oB oO rB rO = some s') : ∃ G2, Holds F s' G2 (a.put (some d) (retV rv)).tmps.toList w' ∧ Step N0 N0 s G w s' G2 w' := by
 unfold Cl at hb
 split at hb
 ·rename_i hcond
  simp only [Bool.and_eq_true] at hcond
  obtain ⟨⟨⟨⟨hcB, hcO⟩, hcT⟩, hnB⟩, hnO⟩ := hcond
  obtain ⟨hlB, hgB⟩ := Zy hcB
  obtain ⟨hlO, hgO⟩ := Z0 hcO
  have hgT := Z2 (o := o) (i0 := 0) hcT
  simp only [Nat.zero_add] at hgT
  obtain ⟨rvA, hrv, rfl⟩ := Option.map_eq_some_iff.1 hb
  generalize hs3 : B7 (Bv s o (renL o rB rO) 0 rB) o 0 rO = s3
  have hsl : s3.slots = s.slots := by rw [← hs3, Po.2, Wx.2]
  have hbox : ∀ {b ls}, Ae s3 b = some ls → (∃ i q, rB[i]? = some b ∧ Ae o i = some q ∧ ls = q.map (renL o rB rO)) ∨ ((∀ i : Nat, rB[i]? ≠ some b) ∧ Ae s b = some ls) := by
   intro b ls hb2
   rw [← hs3] at hb2
   have e : Ae (B7 (Bv s o (renL o rB rO) 0 rB) o 0 rO) b = Ae (Bv s o (renL o rB rO) 0 rB) b := by unfold Ae; rw [Po.1]
   rw [e] at hb2
   have := A6g hnB hb2
   simpa using this
  have hown : ∀ {l x}, Aa s3 l = some x → (∃ i, rO[i]? = some l ∧ Aa o i = some x) ∨ ((∀ i : Nat, rO[i]? ≠ some l) ∧ Aa s l = some x) := by
   intro l x hx
   rw [← hs3] at hx
   have := A6i hnO hx
   simp only [Nat.zero_add] at this
   rcases this with h2 | ⟨h2, h3⟩
   ·exact .inl h2
   ·refine .inr ⟨h2, ?_⟩
    unfold Aa at h3 ⊢
    rw [Wx.1] at h3
    exact h3
  let G2 : Gm := { bx := fun b => match pos rB b with | some i => G1.bx i | none => G.bx b, ow := fun l => match pos rO l with | some i => if (Aa o i).isSome then G1.ow i else G.ow l | none => G.ow l, et := fun b => match pos rB b with | some i => G1.et i | none => G.et b, fx := G.fx }
  have g2b : ∀ (i b : Nat), rB[i]? = some b → G2.bx b = G1.bx i := fun i b hi => by simp only [G2, Aos hnB hi]
  have g2b' : ∀ b, (∀ i : Nat, rB[i]? ≠ some b) → G2.bx b = G.bx b := fun b hi => by
   simp only [G2]
   split
   ·rename_i i hp; exact absurd (F7 hp) (hi i)
   ·rfl
  have g2o : ∀ (i l : Nat) (x : Own), rO[i]? = some l → Aa o i = some x → G2.ow l = G1.ow i := fun i l x hi hx => by simp only [G2, Aos hnO hi, hx, Option.isSome_some, if_true]
  have g2o' : ∀ l, (∀ i : Nat, rO[i]? ≠ some l) → G2.ow l = G.ow l := fun l hi => by
   simp only [G2]
   split
   ·rename_i i hp; exact absurd (F7 hp) (hi i)
   ·rfl
  have g2bOld : ∀ b, (∀ i : Nat, rB[i]? = some b → oB[i]? = some none → False) → G2.bx b = G.bx b := by
   intro b hb2
   simp only [G2]
   split
   ·rename_i i hp
    have hi := F7 hp
    rcases hgB i b hi with h2 | ⟨h8, h3, _⟩
    ·obtain ⟨h4, h5, _⟩ := hA i b h2
     rw [(hst.gb i h4).1, h5]
    ·exact (hb2 i hi h8).elim
   ·rfl
  have g2e : ∀ (i b : Nat), rB[i]? = some b → G2.et b = G1.et i := fun i b hi => by simp only [G2, Aos hnB hi]
  have g2e' : ∀ b, (∀ i : Nat, rB[i]? ≠ some b) → G2.et b = G.et b := fun b hi => by
   simp only [G2]
   split
   ·rename_i i hp; exact absurd (F7 hp) (hi i)
   ·rfl
  have g2eOld : ∀ b, (∀ i : Nat, rB[i]? = some b → oB[i]? = some none → False) → G2.et b = G.et b := by
   intro b hb2
   simp only [G2]
   split
   ·rename_i i hp
    have hi := F7 hp
    rcases hgB i b hi with h2 | ⟨h8, h3, _⟩
    ·obtain ⟨h4, _, h5⟩ := hA i b h2
     rw [(hst.gb i h4).2, h5]
    ·exact (hb2 i hi h8).elim
   ·rfl
  have g2oOld : ∀ l, (∀ i : Nat, rO[i]? = some l → oO[i]? = some none → False) → G2.ow l = G.ow l := by
   intro l hl
   simp only [G2]
   split
   ·rename_i i hp
    have hi := F7 hp
    rcases hgO i l hi with h2 | ⟨h8, h3, _⟩
    ·split
     ·rename_i hsome
      obtain ⟨x, hx⟩ := Option.isSome_iff_exists.1 hsome
      obtain ⟨h4, h5⟩ := hB i l h2
      obtain ⟨⟨y, hy⟩, h6⟩ := hst.go i h4 x hx
      rw [h6, h5 y hy]
     ·rfl
    ·exact (hl i hi h8).elim
   ·rfl
  have hsz := hst.keeps.size
  have npB : ∀ {b : Nat}, (∀ i : Nat, rB[i]? ≠ some b) → ∀ i : Nat, oB[i]? ≠ some (some b) := by
   intro b f1 i hi
   have hlt : i < rB.length := by rw [← hlB]; exact (List.getElem?_eq_some_iff.1 hi).1
   have hri : rB[i]? = some rB[i] := List.getElem?_eq_getElem hlt
   rcases hgB i _ hri with h2 | ⟨h2, _⟩
   ·rw [hi] at h2; cases h2; exact f1 i hri
   ·rw [hi] at h2; cases h2
  have npO : ∀ {l : Nat}, (∀ i : Nat, rO[i]? ≠ some l) → ∀ i : Nat, oO[i]? ≠ some (some l) := by
   intro b f1 i hi
   have hlt : i < rO.length := by rw [← hlO]; exact (List.getElem?_eq_some_iff.1 hi).1
   have hri : rO[i]? = some rO[i] := List.getElem?_eq_getElem hlt
   rcases hgO i _ hri with h2 | ⟨h2, _⟩
   ·rw [hi] at h2; cases h2; exact f1 i hri
   ·rw [hi] at h2; cases h2
  have hlive : ∀ j, Live s3 G2 j → Ev s G oB oO j ∨ Live o G1 j := by
   rintro j (⟨b, ls, hb2, rfl⟩ | ⟨l, x, hx, hj⟩)
   ·rcases hbox hb2 with ⟨i, q, f1, f2, f3⟩ | ⟨f1, f2⟩
    ·exact .inr (.inl ⟨i, q, f2, (g2b i b f1).symm⟩)
    ·exact .inl (.inl ⟨b, ls, f2, npB f1, (g2b' b f1).symm⟩)
   ·rcases hown hx with ⟨i, f1, f2⟩ | ⟨f1, f2⟩
    ·rw [g2o i l x f1 f2] at hj
     exact .inr (.inr ⟨i, x, f2, hj⟩)
    ·rw [g2o' l f1] at hj
     exact .inl (.inr ⟨l, x, f2, npO f1, hj⟩)
  have holdL : ∀ j, Ev s G oB oO j → Live s G j := by
   rintro j (⟨b, ls, hb2, _, rfl⟩ | ⟨l, x, hx, _, hj⟩)
   ·exact .inl ⟨b, ls, hb2, rfl⟩
   ·exact .inr ⟨l, x, hx, hj⟩
  have hfresh : ∀ j, Live o G1 j → Live s G j ∨ w.heap.size ≤ j := fun j hj => (hst.fresh j hj).imp (hL0 j) id
  have hblk : ∀ j, j < w.heap.size → ¬ Live s0 G0 j → w'.heap[j]? = w.heap[j]? := fun j hj hn => hst.keeps.block j hj hn
  have hapart : ∀ j, Ev s G oB oO j → ¬ Live o G1 j := by
   intro j hj hL
   rcases hst.fresh j hL with h2 | h2
   ·exact hold j hj h2
   ·have := h.lt (holdL j hj); omega
  have hokOld : ∀ j, okS F s G w j → okS F s3 G2 w' j ∧ w'.heap[j]? = w.heap[j]? := by
   intro j hj
   refine ⟨⟨Nat.lt_of_lt_of_le hj.1 hsz, hj.2.1, fun hL => ?_⟩, hblk j hj.1 fun e => hj.2.2 (hL0 j e)⟩
   rcases hlive j hL with h2 | h2
   ·exact hj.2.2 (holdL j h2)
   ·rcases hfresh j h2 with h3 | h3
    ·exact hj.2.2 h3
    ·have := hj.1; omega
  have hlenO : ∀ (q : Nat) (x' : Own), (∀ i : Nat, rO[i]? = some q → oO[i]? = some none → False) → Aa s3 q = some x' → ∃ x : Own, Aa s q = some x ∧ x.xs.length ≤ x'.xs.length ∧ x.t.size = x'.t.size := by
   intro q x' hq hx'
   rcases hown hx' with ⟨i, f1, f2⟩ | ⟨f1, f2⟩
   ·rcases hgO i q f1 with h2 | ⟨h8, h3, _⟩
    ·obtain ⟨y, hy, hyt⟩ := hgT i q x' h2 f2
     obtain ⟨h4, h5⟩ := hB i q h2
     obtain ⟨⟨z, hz⟩, h6⟩ := hst.go i h4 x' f2
     obtain ⟨_, cs1, k1, _⟩ := h.own q y hy
     obtain ⟨_, cs2, k2, _⟩ := h1.own i x' f2
     rw [h6, h5 z hz] at k2
     exact ⟨y, hy, Nat.le_of_eq (own_len k1 k2), by rw [hyt]⟩
    ·exact (hq i f1 h8).elim
   ·exact ⟨x', f2, Nat.le_refl _, rfl⟩
  have hfB : ∀ (i b : Nat), rB[i]? = some b → oB[i]? = some none → Bq s b = true := by
   intro i b hi hn
   rcases hgB i b hi with h2 | ⟨_, h3, _⟩
   ·rw [hn] at h2; cases h2
   ·exact h3
  have hfO : ∀ (i b : Nat), rO[i]? = some b → oO[i]? = some none → Ch s b = true := by
   intro i b hi hn
   rcases hgO i b hi with h2 | ⟨_, h3, _⟩
   ·rw [hn] at h2; cases h2
   ·exact h3
  have hOldLeaf : ∀ l v, (∀ x, Bq s x = true → l.noB x = true) → (∀ x, Ch s x = true → l.noO x = true) → HR F s G w l v → HR F s3 G2 w' l v := by
   intro l v hnb hno hr
   refine HL.tr (G := G) hokOld (fun b hb2 => have hx : ∀ i : Nat, rB[i]? = some b → oB[i]? = some none → False := fun i hi hn => ?_; ⟨g2bOld b hx, g2eOld b hx⟩) (fun q hq => g2oOld q fun i hi hn => ?_) (fun q x' hq hx' => hlenO q x' (fun i hi hn => ?_) hx') hr
   ·rw [hnb b (hfB i b hi hn)] at hb2; cases hb2
   ·rw [hno q (hfO i q hi hn)] at hq; cases hq
   ·rw [hno q (hfO i q hi hn)] at hq; cases hq
  have hpvNew : ∀ {p : PL} {v : Value}, (Bj o = true → Cy p.t = true) → RepL w' (okS F1 o G1 w') p v → RepL w' (okS F s3 G2 w') p v := by
   intro p v hfl hr
   rcases hF2 with hF3 | hF3
   ·refine hr.mono fun j hj => ⟨⟨hj.1, fun e => hj.2.1 (hF j e), fun hL => ?_⟩, rfl⟩
    rcases hlive j hL with h2 | h2
    ·exact hj.2.1 (hF3 j h2)
    ·exact hj.2.2 h2
   ·exact So (hfl hF3) hr
  have hNewLeaf : ∀ l v, (Bj o = true → Nc l = true) → HR F1 o G1 w' l v → HR F s3 G2 w' (renL o rB rO l) v := by
   intro l v hfl hr
   cases l with
   | dead => exact hr
   | pv p => exact hpvNew (fun e => hfl e) hr
   | cst k => exact hr
   | ptr b k =>
    simp only [renL]
    split
    ·rename_i b' hb2
     show v = _
     rw [g2b _ _ hb2]
     exact hr
    ·exact hr.one
   | own l =>
    simp only [renL]
    split
    ·rename_i x l' hx hl
     exact ⟨by rw [g2o _ _ _ hl hx]; exact hr.1, hr.2⟩
    ·exact hr.one
   | ept l i k z =>
    simp only [renL]
    split
    ·rename_i x l' hx hl
     obtain ⟨g, n, c, e, e2, e3⟩ := hr
     refine ⟨g, n, c, by rw [g2o _ _ _ hl hx]; exact e, e2, fun x' hx' => ?_⟩
     rcases hown (show Aa s3 l' = some x' from hx') with ⟨i', f1, f2⟩ | ⟨f1, f2⟩
     ·have := Wd hnO f1 hl
      subst this
      exact e3 x' f2
     ·exact absurd hl (f1 l)
    ·exact hr.one
   | rpt ps =>
    rcases hF2 with hF3 | hF3
    ·obtain ⟨ad, cs, e, hs1, ho1, hc1, hr1⟩ := hr
     have hmv : ∀ j, okS F1 o G1 w' j → okS F s3 G2 w' j ∧ w'.heap[j]? = w'.heap[j]? := fun j hj => ⟨⟨hj.1, fun e => hj.2.1 (hF j e), fun hL => by
      rcases hlive j hL with h2 | h2
      ·exact hj.2.1 (hF3 j h2)
      ·exact hj.2.2 h2⟩, rfl⟩
     exact ⟨ad, cs, e, hs1, (hmv _ ho1).1, hc1, hr1.imp fun _ _ h => h.mono hmv⟩
    ·cases hfl hF3
   | fn f x y =>
    simp only [renL]
    split
    ·rename_i x' y' hx hy
     show v = _
     rw [show v = _ from hr, Aoz g2b hx, Aoz g2b hy]
    ·exact hr.one
   | ifc t ps g =>
    obtain ⟨cs, hr1, e⟩ := hr
    refine ⟨cs, hr1.imp_mem fun p u hp h => hpvNew (fun e => ?_) h, e⟩
    have := hfl e
    simp only [Nc] at this
    exact List.all_eq_true.1 this p hp
   | err b => exact hr
   | bld b t z =>
    simp only [renL]
    split
    ·rename_i b' hb2
     refine ⟨?_, ?_⟩
     ·rw [g2b _ _ hb2]; exact hr.1
     ·rw [g2e _ _ hb2]; exact hr.2
    ·exact hr.one
   | sb b n =>
    simp only [renL]
    split
    ·rename_i b' hb2
     show v = _
     rw [g2b _ _ hb2]
     exact hr
    ·exact hr.one
   | ifp t b k =>
    simp only [renL]
    split
    ·rename_i b' hb2
     show v = _
     rw [g2b _ _ hb2]
     exact hr
    ·exact hr.one
   | erp z t ps => cases z with
    | true => exact hr
    | false =>
     rcases hF2 with hF3 | hF3
     ·have hmv : ∀ j, okS F1 o G1 w' j → okS F s3 G2 w' j ∧ w'.heap[j]? = w'.heap[j]? := fun j hj => ⟨⟨hj.1, fun e => hj.2.1 (hF j e), fun hL => by
       rcases hlive j hL with h2 | h2
       ·exact hj.2.1 (hF3 j h2)
       ·exact hj.2.2 h2⟩, rfl⟩
      obtain ⟨u, e, hr1⟩ := hr
      exact ⟨u, e, hr1.mono hmv⟩
     ·cases hfl hF3
   | orp z ps => cases z with
    | true => exact hr
    | false =>
     rcases hF2 with hF3 | hF3
     ·have hmv : ∀ j, okS F1 o G1 w' j → okS F s3 G2 w' j ∧ w'.heap[j]? = w'.heap[j]? := fun j hj => ⟨⟨hj.1, fun e => hj.2.1 (hF j e), fun hL => by
       rcases hlive j hL with h2 | h2
       ·exact hj.2.1 (hF3 j h2)
       ·exact hj.2.2 h2⟩, rfl⟩
      exact RP.mono hmv hr
     ·cases hfl hF3
   | rro i n l => exact hr.one
   | rrp l => exact hr.one
  have hflS : ∀ x ∈ o.slots, ∀ l ∈ x.ls, Bj o = true → Nc l = true := by
   intro x hx l hl e
   simp only [Bj, Bool.and_eq_true] at e
   exact Y2 e.1 x hx l hl
  have hflB : ∀ {b ls}, Ae o b = some ls → ∀ l ∈ ls, Bj o = true → Nc l = true := by
   intro b ls hb2 l hl e
   simp only [Bj, Bool.and_eq_true] at e
   exact Fi e.1 hb2 l hl
  have hflO : ∀ {l x}, Aa o l = some x → Bj o = true → Cy x.t = true := by
   intro l x hx e
   simp only [Bj, Bool.and_eq_true] at e
   unfold Aa at hx
   cases he : o.owns[l]? with
   | none => simp [he] at hx
   | some y =>
    simp [he] at hx
    subst hx
    have := List.all_eq_true.1 e.2 _ (List.mem_of_getElem? he)
    simpa using this
  have hnoB : ∀ x, Bq s x = true → s.all (L.noB x) = true := fun x hx => (T4 hx).2.2
  have hnoO : ∀ x, Ch s x = true → s.all (L.noO x) = true := fun x hx => (Az8 hx).2.2
  have hx1 : ∀ x ∈ gTab ++ G2.fx, x ∈ gTab ++ G1.fx := fun x hx => by rw [hst.fx, hfx0]; exact hx
  have hH : Holds F s3 G2 a.tmps.toList w' := by
   refine ⟨?_, ?_, ?_, ?_, ?_, ?_, ?_, ?_, ?_, fun x hx => ⟨fun hL => (hlive _ hL).elim (fun h2 => (h.gl x hx).1 (holdL _ h2)) (h1.gl x (hx1 x hx)).1, (h1.gl x (hx1 x hx)).2⟩⟩
   ·rw [hsl]
    exact h.slots.imp_mem fun x u hx ha => HA.imp_ls (fun l hl v hr => hOldLeaf l v (fun y hy => Y2 (hnoB y hy) x hx l hl) (fun y hy => Y2 (hnoO y hy) x hx l hl) hr) ha
   ·intro b ls hb2
    rcases hbox hb2 with ⟨i, q, f1, f2, rfl⟩ | ⟨f1, f2⟩
    ·obtain ⟨cs, et, k1, k2⟩ := h1.box i q f2
     refine ⟨cs, et, by rw [g2b i b f1]; exact k1, All2.map_left (k2.imp_mem fun l u hl hr => hNewLeaf l u (hflB f2 l hl) hr)⟩
    ·obtain ⟨cs, et, k1, k2⟩ := h.box b ls f2
     refine ⟨cs, et, ?_, k2.imp_mem fun l u hl hr => hOldLeaf l u (fun y hy => Fi (hnoB y hy) f2 l hl) (fun y hy => Fi (hnoO y hy) f2 l hl) hr⟩
     have hOL : Ev s G oB oO (G.bx b) := .inl ⟨b, ls, f2, npB f1, rfl⟩
     rw [g2b' b f1, hblk _ (Array.getElem?_eq_some_iff.1 k1).1 (hold _ hOL)]
     exact k1
   ·intro l x hx
    rcases hown hx with ⟨i, f1, f2⟩ | ⟨f1, f2⟩
    ·obtain ⟨h0, cs, k1, k2⟩ := h1.own i x f2
     refine ⟨h0, cs, by rw [g2o i l x f1 f2]; exact k1, ?_⟩
     rcases hF2 with hF3 | hF3
     ·exact All2.imp_mem k2 fun p u hp hr => by
       refine RepL.mono (fun j hj => ⟨⟨hj.1, fun e => hj.2.1 (hF j e), fun hL => ?_⟩, rfl⟩) hr
       rcases hlive j hL with h2 | h2
       ·exact hj.2.1 (hF3 j h2)
       ·exact hj.2.2 h2
     ·exact Bek (hflO f2 hF3) k2
    ·obtain ⟨h0, cs, k1, k2⟩ := h.own l x f2
     refine ⟨h0, cs, ?_, k2.mono hokOld⟩
     rw [g2o' l f1]
     exact Fb k1 fun j hj => hblk j (k1.lt j hj).2 (hold j (.inr ⟨l, x, f2, npO f1, hj⟩))
   ·intro b b' ls ls' hb2 hb2' e
    rcases hbox hb2 with ⟨i, q, f1, f2, f3⟩ | ⟨f1, f2⟩ <;> rcases hbox hb2' with ⟨i', q', g1, g2, g3⟩ | ⟨g1, g2⟩
    ·rw [g2b i b f1, g2b i' b' g1] at e
     have := h1.bb i i' q q' f2 g2 e
     subst this
     rw [f1] at g1
     cases g1
     rfl
    ·rw [g2b i b f1, g2b' b' g1] at e
     exact absurd (.inl ⟨i, q, f2, e⟩) (hapart (G.bx b') (.inl ⟨b', ls', g2, npB g1, rfl⟩))
    ·rw [g2b' b f1, g2b i' b' g1] at e
     exact absurd (.inl ⟨i', q', g2, e.symm⟩) (hapart (G.bx b) (.inl ⟨b, ls, f2, npB f1, rfl⟩))
    ·rw [g2b' b f1, g2b' b' g1] at e
     exact h.bb b b' ls ls' f2 g2 e
   ·intro b ls l x hb2 hx e
    rcases hbox hb2 with ⟨i, q, f1, f2, f3⟩ | ⟨f1, f2⟩ <;> rcases hown hx with ⟨i', g1, g2⟩ | ⟨g1, g2⟩
    ·rw [g2b i b f1, g2o i' l x g1 g2] at e
     exact h1.bo i q i' x f2 g2 e
    ·rw [g2b i b f1, g2o' l g1] at e
     exact hapart (G1.bx i) (.inr ⟨l, x, g2, npO g1, e⟩) (.inl ⟨i, q, f2, rfl⟩)
    ·rw [g2b' b f1, g2o i' l x g1 g2] at e
     exact hapart (G.bx b) (.inl ⟨b, ls, f2, npB f1, rfl⟩) (.inr ⟨i', x, g2, e⟩)
    ·rw [g2b' b f1, g2o' l g1] at e
     exact h.bo b ls l x f2 g2 e
   ·intro l l' x x' j hx hx' e e'
    have hOL : ∀ {l : Nat} {x : Own}, (∀ i : Nat, rO[i]? ≠ some l) → Aa s l = some x → (G.ow l).ownBlock = some j → Ev s G oB oO j := fun {l x} g1 g2 e => .inr ⟨l, x, g2, npO g1, e⟩
    rcases hown hx with ⟨i, f1, f2⟩ | ⟨f1, f2⟩ <;> rcases hown hx' with ⟨i', g1, g2⟩ | ⟨g1, g2⟩
    ·rw [g2o i l x f1 f2] at e
     rw [g2o i' l' x' g1 g2] at e'
     have := h1.oo i i' x x' j f2 g2 e e'
     subst this
     rw [f1] at g1
     cases g1
     rfl
    ·rw [g2o i l x f1 f2] at e
     rw [g2o' l' g1] at e'
     exact absurd (.inr ⟨i, x, f2, e⟩) (hapart j (hOL g1 g2 e'))
    ·rw [g2o' l f1] at e
     rw [g2o i' l' x' g1 g2] at e'
     exact absurd (.inr ⟨i', x', g2, e'⟩) (hapart j (hOL f1 f2 e))
    ·rw [g2o' l f1] at e
     rw [g2o' l' g1] at e'
     exact h.oo l l' x x' j f2 g2 e e'
   ·intro j hj hF'
    rcases hlive j hj with h2 | h2
    ·exact h.nF j (holdL j h2) hF'
    ·exact h1.nF j h2 (hF j hF')
   ·exact fun j hj => Nat.lt_of_lt_of_le (h.Flt j hj) hsz
   ·intro b ls hb2
    rcases hbox hb2 with ⟨i, q, f1, f2, _⟩ | ⟨f1, f2⟩
    ·rw [g2b i b f1, g2e i b f1]
     exact h1.ty i q f2
    ·obtain ⟨cs, et, k1, k2⟩ := h.box b ls f2
     have hOL : Ev s G oB oO (G.bx b) := .inl ⟨b, ls, f2, npB f1, rfl⟩
     rw [g2b' b f1, g2e' b f1]
     intro cs3 et3 fr3 hc3
     rw [hblk _ (Array.getElem?_eq_some_iff.1 k1).1 (hold _ hOL)] at hc3
     exact h.ty b ls f2 cs3 et3 fr3 hc3
  have hrvH : HA (HR F s3 G2 w') rvA (retV rv) := by
   refine Bi7 (All2.map_left (h1.slots.imp_mem fun x u hx ha => ?_)) hrv
   have h7 := HA.imp_ls (S := fun l v => HR F s3 G2 w' (renL o rB rO l) v) (fun l hl v hr => hNewLeaf l v (hflS x hx l hl) hr) ha
   exact HA.map (R := fun l v => HR F s3 G2 w' (renL o rB rO l) v) (S := HR F s3 G2 w') (g := renL o rB rO) (fun _ _ h => h) h7
  refine ⟨G2, hH.put (some d) hrvH, Step.trans (s1 := s3) ⟨⟨hst.keeps.os, hst.keeps.tape, hst.keeps.output, hsz, fun j hj hn => hblk j hj fun e => hn (hL0 j e)⟩, fun j hj => ?_, fun b hb2 => have hx : ∀ i : Nat, rB[i]? = some b → oB[i]? = some none → False := fun i hi hn => ?_; ⟨g2bOld b hx, g2eOld b hx⟩, fun l hl x hx => ?_, rfl⟩ (Step.put _ _)⟩
  ·rcases hlive j hj with h2 | h2
   ·exact .inl (holdL j h2)
   ·exact hfresh j h2
  ·rcases hgB i b hi with h2 | ⟨_, _, h3⟩
   ·rw [hn] at h2; cases h2
   ·omega
  ·have hne : ∀ i : Nat, rO[i]? = some l → oO[i]? = some none → False := by
    intro i hi hn
    rcases hgO i l hi with h2 | ⟨_, _, h3⟩
    ·rw [hn] at h2; cases h2
    ·omega
   obtain ⟨y, hy, _⟩ := hlenO l x hne hx
   exact ⟨⟨y, hy⟩, g2oOld l hne⟩
 ·cases hb
end
theorem Qf : ∀ {ts : List Ty} {ps : List PL}, C9 ts ps = true → ps.length = ts.length
 | [], [], _ => rfl
 | t :: ts, p :: ps, h => by simp only [C9, Bool.and_eq_true] at h; simp [Qf h.2]
 | [], _ :: _, h => by cases h
 | _ :: _, [], h => by cases h
theorem Aoo : ∀ {a b : List (Nat × Nat)}, Pf a b = true → a = b
 | [], [], _ => rfl
 | x :: r, y :: q, h => by
  simp only [Pf, Bool.and_eq_true, beq_iff_eq] at h
  obtain ⟨⟨h1, h2⟩, h3⟩ := h
  rw [Aoo h3]
  congr 1
  exact Prod.ext h1 h2
 | [], _ :: _, h => by cases h
 | _ :: _, [], h => by cases h
theorem Avc {k : SL} {l : L} {ps : List PL} (h : decL k l = some ps) : ps.length = k.tys.length ∧ ∀ r, encL k (ps ++ r) = l := by
 unfold decL at h
 split at h
 ·cases h; exact ⟨rfl, fun r => rfl⟩
 ·split at h
  ·cases h; exact ⟨rfl, fun r => rfl⟩
  ·cases h
 ·split at h
  ·rename_i e; cases h; exact ⟨rfl, fun r => by rw [NilK.of_eqb e]; rfl⟩
  ·cases h
 ·split at h
  ·rename_i e
   cases h
   simp only [Bool.and_eq_true, beq_iff_eq] at e
   exact ⟨rfl, fun r => by rw [e.1, e.2]; rfl⟩
  ·cases h
 ·split at h
  ·rename_i e
   cases h
   simp only [beq_iff_eq] at e
   exact ⟨rfl, fun r => by rw [e]; rfl⟩
  ·cases h
 ·split at h
  ·rename_i e
   cases h
   simp only [Bool.and_eq_true, beq_iff_eq] at e
   obtain ⟨⟨rfl, rfl⟩, rfl⟩ := e
   exact ⟨rfl, fun r => rfl⟩
  ·cases h
 ·split at h
  ·rename_i e
   cases h
   have := Qf e
   exact ⟨this, fun r => by simp [encL, ← this]⟩
  ·cases h
 ·split at h
  ·rename_i e
   cases h
   simp only [Bool.and_eq_true, beq_iff_eq] at e
   obtain ⟨⟨rfl, e2⟩, e3⟩ := e
   exact ⟨rfl, fun r => by rw [Aoo e2, Aoo e3]; rfl⟩
  ·cases h
 ·split at h
  ·rename_i e
   cases h
   simp only [Bool.and_eq_true, beq_iff_eq] at e
   obtain ⟨⟨rfl, rfl⟩, e3⟩ := e
   have := Qf e3
   exact ⟨this, fun r => by simp [encL, ← this]⟩
  ·cases h
 ·cases h; exact ⟨rfl, fun r => rfl⟩
 ·split at h
  ·rename_i e
   cases h
   simp only [Bool.and_eq_true, beq_iff_eq] at e
   exact ⟨rfl, fun r => by rw [e.1, e.2]; rfl⟩
  ·cases h
 ·split at h
  ·rename_i e
   cases h
   simp only [Bool.and_eq_true, beq_iff_eq] at e
   exact ⟨rfl, fun r => by rw [e.1, e.2]; rfl⟩
  ·cases h
 ·split at h
  ·rename_i e
   cases h
   simp only [Bool.and_eq_true, beq_iff_eq] at e
   obtain ⟨⟨rfl, rfl⟩, rfl⟩ := e
   exact ⟨rfl, fun r => rfl⟩
  ·cases h
 ·split at h
  ·rename_i e
   cases h
   simp only [Bool.and_eq_true, beq_iff_eq] at e
   obtain ⟨rfl, e3⟩ := e
   have := Qf e3
   exact ⟨by simp [SL.tys, this], fun r => by simp [encL, ← this]⟩
  ·cases h
 ·split at h
  ·rename_i e
   cases h
   have := Qf e
   exact ⟨by simp [SL.tys, this], fun r => by simp [encL, ← this]⟩
  ·cases h
 ·split at h
  ·rename_i e
   cases h
   rw [beq_iff_eq] at e
   subst e
   exact ⟨rfl, fun r => by simp [encL]⟩
  ·cases h
 ·split at h
  ·rename_i e
   cases h
   rw [beq_iff_eq] at e
   subst e
   exact ⟨rfl, fun r => rfl⟩
  ·cases h
 ·cases h
theorem Ack : ∀ {ks : List SL} {ls : List L} {ps : List PL}, Mm ks ls = some ps → ps.length = (Ff ks).length ∧ ∀ r, Mq ks (ps ++ r) = ls
 | [], [], ps, h => by cases h; exact ⟨rfl, fun r => rfl⟩
 | k :: ks, l :: ls, ps, h => by
  simp only [Mm] at h
  obtain ⟨x, h1, h2⟩ := Option.bind_eq_some_iff.1 h
  obtain ⟨y, h3, h4⟩ := Option.bind_eq_some_iff.1 h2
  cases h4
  obtain ⟨e1, e2⟩ := Avc h1
  obtain ⟨f1, f2⟩ := Ack h3
  refine ⟨by simp [Ff, e1, f1], fun r => ?_⟩
  simp only [Mq, List.append_assoc, e2]
  rw [← e1, List.drop_left, f2]
 | [], _ :: _, _, h => by cases h
 | _ :: _, [], _, h => by cases h
theorem Bcu {k : SA} {l : AV} {ps : List PL} (h : decA k l = some ps) : ps.length = (Ff k.leaves).length ∧ ∀ r, encA k (ps ++ r) = l := by
 unfold decA at h
 split at h
 ·cases h; exact ⟨rfl, fun r => rfl⟩
 ·obtain ⟨e1, e2⟩ := Avc h
  exact ⟨by simp [SA.leaves, Ff, e1], fun r => by simp [encA, e2]⟩
 ·obtain ⟨e1, e2⟩ := Ack h
  exact ⟨e1, fun r => by simp [encA, e2]⟩
 ·cases h
theorem Ava : ∀ {ks : List SA} {ls : List AV} {ps : List PL}, Ru ks ls = some ps → ps.length = (Lg ks).length ∧ ∀ r, B3 ks (ps ++ r) = ls
 | [], [], ps, h => by cases h; exact ⟨rfl, fun r => rfl⟩
 | k :: ks, l :: ls, ps, h => by
  simp only [Ru] at h
  obtain ⟨x, h1, h2⟩ := Option.bind_eq_some_iff.1 h
  obtain ⟨y, h3, h4⟩ := Option.bind_eq_some_iff.1 h2
  cases h4
  obtain ⟨e1, e2⟩ := Bcu h1
  obtain ⟨f1, f2⟩ := Ava h3
  refine ⟨by simp [Lg, e1, f1], fun r => ?_⟩
  simp only [B3, List.append_assoc, e2]
  rw [← e1, List.drop_left, f2]
 | [], _ :: _, _, h => by cases h
 | _ :: _, [], _, h => by cases h
theorem We {α : Type} {l : List (Option α)} (h : l.all Option.isNone = true) (i : Nat) : (l[i]?).bind id = none := by
 cases he : l[i]? with
 | none => rfl
 | some x =>
  have := List.all_eq_true.1 h x (List.mem_of_getElem? he)
  cases x with
  | none => rfl
  | some y => cases this
theorem Avb : ∀ {ks : List (List SL)} {ls : List (Option (List L))} {ps : List PL}, Ml ks ls = some ps → ps.length = (Qe ks).length ∧ ∀ (r : List PL) (n i : Nat), ((Iz ks (ps ++ r) ++ List.replicate n none)[i]?).bind id = (ls[i]?).bind id
 | [], ls, ps, h => by
  unfold Ml at h
  split at h
  ·rename_i e
   cases h
   refine ⟨rfl, fun r n i => ?_⟩
   rw [We (l := ls) e]
   exact We (by simp [Iz]) i
  ·cases h
 | k :: ks, [], ps, h => by cases h
 | k :: ks, none :: ls, ps, h => by cases h
 | k :: ks, some l :: ls, ps, h => by
  simp only [Ml] at h
  obtain ⟨x, h1, h2⟩ := Option.bind_eq_some_iff.1 h
  obtain ⟨y, h3, h4⟩ := Option.bind_eq_some_iff.1 h2
  cases h4
  obtain ⟨e1, e2⟩ := Ack h1
  obtain ⟨f1, f2⟩ := Avb h3
  refine ⟨by simp [Qe, e1, f1], fun r n i => ?_⟩
  simp only [Iz, List.append_assoc, e2]
  rw [← e1, List.drop_left]
  cases i with
  | zero => simp
  | succ i => simpa using f2 r n i
theorem Y9 {t : Ty} {xs : t.den} : asTy t ⟨t, xs⟩ = some xs := by simp [asTy]
theorem Acl : ∀ {ks : List (Option (Nat × Ty))} {ls : List (Option Own)} {ps : List PL}, G4 ks ls = some ps → ps.length = (Lh ks).length ∧ ∀ (r : List PL) (n i : Nat), ((Ek ks (ps ++ r) ++ List.replicate n none)[i]?).bind id = (ls[i]?).bind id
 | [], ls, ps, h => by
  unfold G4 at h
  split at h
  ·rename_i e
   cases h
   refine ⟨rfl, fun r n i => ?_⟩
   rw [We (l := ls) e]
   exact We (by simp [Ek]) i
  ·cases h
 | some k :: ks, [], ps, h => by cases h
 | some k :: ks, none :: ls, ps, h => by cases h
 | some k :: ks, some l :: ls, ps, h => by
  simp only [G4] at h
  split at h
  ·rename_i e
   obtain ⟨y, h3, h4⟩ := Option.bind_eq_some_iff.1 h
   cases h4
   obtain ⟨f1, f2⟩ := Acl h3
   simp only [Bool.and_eq_true, beq_iff_eq, decide_eq_true_eq] at e
   obtain ⟨e1, e2⟩ := e
   refine ⟨by simp [Lh, f1], fun r n i => ?_⟩
   obtain ⟨le, lt, lx⟩ := l
   obtain ⟨k1, k2⟩ := k
   simp only at e1 e2
   subst e1
   subst e2
   have e9 : (asTy (.slice lt) ⟨.slice lt, lx⟩).map (fun xs => (⟨le, lt, xs⟩ : Own)) = some ⟨le, lt, lx⟩ := by
    have := Y9 (t := .slice lt) (xs := lx)
    exact congrArg (Option.map fun xs => (⟨le, lt, xs⟩ : Own)) this
   have e10 : Ek (some (le, lt) :: ks) ((⟨.slice lt, lx⟩ :: y) ++ r) = some ⟨le, lt, lx⟩ :: Ek ks (y ++ r) := by
    show (asTy (.slice lt) ⟨.slice lt, lx⟩).map (fun xs => (⟨le, lt, xs⟩ : Own)) :: _ = _
    rw [e9]
    rfl
   show (((Ek (some (le, lt) :: ks) ((⟨.slice lt, lx⟩ :: y) ++ r)) ++ List.replicate n none)[i]?).bind id = _
   rw [e10]
   cases i with
   | zero => simp
   | succ i => simpa using f2 r n i
  ·cases h
 | none :: ks, [], ps, h => by cases h
 | none :: ks, some l :: ls, ps, h => by cases h
 | none :: ks, none :: ls, ps, h => by
  simp only [G4] at h
  obtain ⟨f1, f2⟩ := Acl h
  refine ⟨by simp [Lh, f1], fun r n i => ?_⟩
  simp only [Ek, List.cons_append]
  cases i with
  | zero => simp
  | succ i => simpa using f2 r n i
theorem Mn {k : Sk} {s : St} {ps : List PL} (h : dec k s = some ps) (n : Nat) : (enc k n ps).slots = s.slots ∧ (∀ b, Ae (enc k n ps) b = Ae s b) ∧ (∀ l, Aa (enc k n ps) l = Aa s l) := by
 unfold dec at h
 obtain ⟨x, h1, h2⟩ := Option.bind_eq_some_iff.1 h
 obtain ⟨y, h3, h4⟩ := Option.bind_eq_some_iff.1 h2
 obtain ⟨z, h5, h6⟩ := Option.bind_eq_some_iff.1 h4
 cases h6
 obtain ⟨a1, a2⟩ := Ava h1
 obtain ⟨b1, b2⟩ := Avb h3
 obtain ⟨c1, c2⟩ := Acl h5
 refine ⟨a2 _, fun b => ?_, fun l => ?_⟩
 ·unfold Ae enc
  simp only
  rw [← a1, List.drop_left]
  exact b2 _ _ _
 ·unfold Aa enc
  simp only
  rw [← a1, ← b1, ← List.length_append, ← List.append_assoc, List.drop_left]
  have := c2 [] (n - k.owns.length) l
  rw [List.append_nil] at this
  exact this
theorem F6 : ∀ {ts : List Ty} {ps : List PL} {y : HLs ts}, ofPL ts ps = some y → toPL ts y = ps
 | [], [], y, h => rfl
 | [], _ :: _, y, h => by cases h
 | [t], [p], y, h => by
  have h' : asTy t p = some y := h
  rw [Ee h']
  rfl
 | [t], [], y, h => by cases h
 | [t], _ :: _ :: _, y, h => by cases h
 | t :: u :: r, [], y, h => by cases h
 | t :: u :: r, p :: ps, y, h => by
  have h' : ((asTy t p).bind fun x => (ofPL (u :: r) ps).bind fun z => some (x, z)) = some y := h
  obtain ⟨x, h1, h2⟩ := Option.bind_eq_some_iff.1 h'
  obtain ⟨z, h3, h4⟩ := Option.bind_eq_some_iff.1 h2
  cases h4
  rw [Ee h1]
  show _ :: toPL (u :: r) z = _
  rw [F6 h3]
theorem A4z : ∀ (ts : List Ty) (y : HLs ts), ofPL ts (toPL ts y) = some y
 | [], y => rfl
 | [t], y => by show asTy t ⟨t, y⟩ = some y; exact Y9
 | t :: u :: r, y => by
  show ((asTy t ⟨t, y.1⟩).bind fun x => (ofPL (u :: r) (toPL (u :: r) y.2)).bind fun z => some (x, z)) = some y
  rw [Y9, A4z (u :: r) y.2]
  rfl
section
variable {P : Program} {F : Nat → Prop} {s s' : St} {G : Gm} {a : Act} {w w' : World} {v : AV} {vals : List Value}
theorem HL.ext {ok : Nat → Prop} {os os' : List (Option Own)} (ho : ∀ l : Nat, (os'[l]?).bind id = (os[l]?).bind id) {l : L} {v : Value} (h : HL G w ok os l v) : HL G w ok os' l v := by
 cases l with
 | ept l i o z =>
  obtain ⟨g, n, c, e, e2, e3⟩ := h
  exact ⟨g, n, c, e, e2, fun x hx => e3 x (by rw [← ho]; exact hx)⟩
 | _ => exact h
theorem Holds.ext (h : Holds F s G vals w) (h1 : s'.slots = s.slots) (h2 : ∀ b, Ae s' b = Ae s b) (h3 : ∀ l, Aa s' l = Aa s l) : Holds F s' G vals w := by
 have hl : Live s' G = Live s G := by funext k; simp [Live, h2, h3]
 have hok : okS F s' G w = okS F s G w := by funext k; simp [okS, hl]
 have htr : ∀ l v, HR F s G w l v → HR F s' G w l v := by
  intro l v hr
  unfold HR at hr ⊢
  rw [hok]
  exact HL.ext h3 hr
 refine ⟨by rw [h1]; exact h.slots.imp fun _ _ ha => ha.imp htr, fun b ls hb => ?_, fun l x hx => ?_, fun b b' ls ls' hb hb' => ?_, fun b ls l x hb hx => ?_, fun l l' x x' k hx hx' => ?_, by rw [hl]; exact h.nF, h.Flt, fun b ls hb => h.ty b ls (by rw [← h2]; exact hb), by rw [hl]; exact h.gl⟩
 ·rw [h2] at hb
  obtain ⟨cs, et, k1, k2⟩ := h.box b ls hb
  exact ⟨cs, et, k1, k2.imp htr⟩
 ·rw [h3] at hx
  obtain ⟨k0, cs, k1, k2⟩ := h.own l x hx
  exact ⟨k0, cs, k1, by rw [hok]; exact k2⟩
 ·rw [h2] at hb hb'
  exact h.bb b b' ls ls' hb hb'
 ·rw [h2] at hb
  rw [h3] at hx
  exact h.bo b ls l x hb hx
 ·rw [h3] at hx hx'
  exact h.oo l l' x x' k hx hx'
def Lj (P : Program) (g : Nat) (nb no : Nat) (si so : St) : Prop :=
 ∀ (F : Nat → Prop) (G : Gm) (vals : List Value) (w : World), Holds F si G vals w →
  Calls P g vals.toArray w fun e w' => ∃ G' rv, e = .returned (retV rv) ∧ Holds F so G' rv w' ∧ Step nb no si G w so G' w'
def szS (k : Sk) : Nat := max k.boxes.length k.owns.length
def PanV (t : Nat) (ps : List PL) (g : Bool) (v : Value) : Prop :=
 ∃ cs : List Value, All2 (fun p u => flat1 p.t = true ∧ ∀ (w : World) (ok : Nat → Prop), RepL w ok p u) ps cs ∧ v = .iface t (if g then .agg cs.toArray else cs.headD undef)
def Aq6 (P : Program) (g : Nat) (nb no : Nat) (si : St) (pan : Way) (kout : Sk) (qs : List PL) : Prop :=
 ∀ (F : Nat → Prop) (G : Gm) (vals : List Value) (w : World), Holds F si G vals w →
  Calls P g vals.toArray w fun e w' =>
   (∃ q G' rv, qs = ⟨.bool, false⟩ :: q ∧ e = .returned (retV rv) ∧ Holds F (enc kout (szS kout) q) G' rv w' ∧ Step nb no si G w (enc kout (szS kout) q) G' w') ∨
   (match pan with
    | .pan pt _ pg => ∃ q v, qs = ⟨.bool, true⟩ :: q ∧ e = .panicked [{ v := v, recovered := false }] ∧ PanV pt q pg v ∧ Keeps (Live si G) w w'
    | .two k2 => ∃ q G' rv, qs = ⟨.bool, true⟩ :: q ∧ e = .returned (retV rv) ∧ Holds F (enc k2 (szS k2) q) G' rv w' ∧ Step nb no si G w (enc k2 (szS k2) q) G' w')
def Af (P : Program) (g : Nat) (sg : Sig) : Prop :=
 (∃ fn, P.funcs[g]? = some fn ∧ (fn.name == "runtime.NumGoroutine") = false ∧ fn.body.isSome = true) ∧
  ∀ ps qs, sg.f.run (List PL) ps some = some qs → match sg.f.pan with
   | none => Lj P g sg.kin.boxes.length sg.kin.owns.length (enc sg.kin (szS sg.kin) ps) (enc sg.kout (szS sg.kout) qs)
   | some p => Aq6 P g sg.kin.boxes.length sg.kin.owns.length (enc sg.kin (szS sg.kin) ps) p sg.kout qs
theorem A0b : ∀ (ms : List Nat) {s : St} {b : Nat} {ls : List L}, Ae s b = some ls → ∃ q, Ae (Bb s ms) b = some q
 | [], _, _, ls, h => ⟨ls, h⟩
 | m :: ms, s, b, ls, h => by
  have : ∃ q, Ae (frz s m) b = some q := by
   cases hx : Aa s m with
   | none =>
    have : frz s m = s := by unfold frz; rw [hx]
    rw [this]
    exact ⟨ls, h⟩
   | some x =>
    rw [Fw hx]
    unfold Ae at h
    cases he : s.boxes[b]? with
    | none => simp [he] at h
    | some y =>
     cases y with
     | none => simp [he] at h
     | some q => exact ⟨q.map (frzL m ⟨.slice x.t, x.xs⟩), by simp [Ae, Al, St.map, he]⟩
  obtain ⟨q, hq⟩ := this
  exact A0b ms hq
theorem An0 {m : List Nat} {n i b : Nat} (h : (m.map some ++ List.replicate n none)[i]? = some (some b)) : m[i]? = some b := by
 rw [List.getElem?_append] at h
 split at h
 ·rw [List.getElem?_map] at h
  cases he : m[i]? with
  | none => simp [he] at h
  | some x => simp [he] at h; rw [h]
 ·rw [List.getElem?_replicate] at h
  split at h <;> simp at h
theorem A3y {m : List (Option Nat)} {n i b : Nat} (h : (m ++ List.replicate n none)[i]? = some (some b)) : m[i]? = some (some b) := by
 rw [List.getElem?_append] at h
 split at h
 ·exact h
 ·rw [List.getElem?_replicate] at h
  split at h <;> simp at h
theorem Lu {d : Nat} {rB rO : List Nat} {args : List AV} {avs : List Value} (h : Holds F s G a.tmps.toList w) (hargs : All2 (HA (HR F s G w)) args avs) {sg : Sig} {c : Co} (hc : co sg.kin { s with slots := args } (max sg.kin.boxes.length sg.kin.owns.length) = some c)
  {ps qs : List PL} (hps : dec sg.kin c.s = some ps) (hbk : backG s c (enc sg.kout (max sg.kout.boxes.length sg.kout.owns.length) qs) d sg.kout.boxes.length sg.kout.owns.length rB rO = some s')
  {G1 : Gm} {rv : List Value} (hR : Holds (FL F { s with slots := args } G c.br c.bx c.mB c.mO) (enc sg.kout (szS sg.kout) qs) G1 rv w')
  (hst : Step sg.kin.boxes.length sg.kin.owns.length (enc sg.kin (szS sg.kin) ps) (coG G c.mB c.mO) w (enc sg.kout (szS sg.kout) qs) G1 w') :
  ∃ G', Holds F s' G' (a.put (some d) (retV rv)).tmps.toList w' ∧ Step N0 N0 s G w s' G' w' := by
 obtain ⟨hnB, hnO, hdis, hdisB, as, bs, os, hA, hB, hO, hs⟩ := Ii hc
 obtain ⟨hBl, hBk, hBg⟩ := Mb hB
 obtain ⟨hOl, hOk, hOg⟩ := Ew hO
 obtain ⟨e1, e2, e3⟩ := Mn hps (szS sg.kin)
 have hcbox : ∀ b ls, Ae (enc sg.kin (szS sg.kin) ps) b = some ls → ∃ b', c.mB[b]? = some b' ∧ ∃ q, Ae s b' = some q := by
  intro b ls hb
  rw [e2, hs] at hb
  obtain ⟨b', q, ls', k', f1, f2, f3, f4, f5⟩ := hBg b _ (F0 hb)
  exact ⟨b', f1, q, f3⟩
 have hcown : ∀ l x, Aa (enc sg.kin (szS sg.kin) ps) l = some x → (∃ l', c.mO[l]? = some (some l') ∧ Aa s l' = some x) ∨ c.mO[l]? = some none := by
  intro l x hx
  rw [e3, hs] at hx
  rcases (hOg l x (F0 hx)).2 with ⟨l', f1, f2⟩ | ⟨f1, _⟩
  ·exact .inl ⟨l', f1, f2⟩
  ·exact .inr f1
 have hGb : ∀ {b b' : Nat}, c.mB[b]? = some b' → (coG G c.mB c.mO).bx b = G.bx b' := fun hb => by simp [coG, List.getD, hb]
 have hGo : ∀ {l l' : Nat}, c.mO[l]? = some (some l') → (coG G c.mB c.mO).ow l = G.ow l' := fun hl => by simp [coG, List.getD, hl]
 have hGn : ∀ {l : Nat}, c.mO[l]? = some none → (coG G c.mB c.mO).ow l = .slice none 0 0 := fun hl => by simp [coG, List.getD, hl]
 have hlen1 : sg.kin.boxes.length = c.mB.length := hBk
 have hlen2 : sg.kin.owns.length = c.mO.length := hOk
 unfold backG at hbk
 simp only at hbk
 split at hbk
 ·cases hbk
 rename_i hbxc
 have hbx : c.bx = [] ∨ Bj (enc sg.kout (szS sg.kout) qs) = true := by
  rcases hcb : c.bx with _ | ⟨x, r⟩
  ·exact .inl rfl
  ·rw [hcb] at hbxc
   simp only [List.isEmpty_cons, Bool.not_false, Bool.true_and, Bool.not_eq_true', Bool.not_eq_false] at hbxc
   exact .inr hbxc
 have key : ∀ s1, Holds F s1 G a.tmps.toList w → Step N0 N0 s G w s1 G w → (∀ b ls, Ae s b = some ls → ∃ q, Ae s1 b = some q) → (∀ b q, Ae s1 b = some q → ∃ ls, Ae s b = some ls) →
   (∀ l x, Aa s l = some x → l ∉ c.br → Aa s1 l = some x) → (∀ l x, Aa s1 l = some x → Aa s l = some x) → ((∀ l x, Aa s1 l = some x → l ∉ c.br) ∨ Bj (enc sg.kout (szS sg.kout) qs) = true) →
   ∀ {oB oO rB rO}, oB = c.mB.map some ++ List.replicate (sg.kout.boxes.length - c.mB.length) none → oO = c.mO ++ List.replicate (sg.kout.owns.length - c.mO.length) none →
   Cl s1 (enc sg.kout (szS sg.kout) qs) d oB oO rB rO = some s' → ∃ G' rv', retV rv = retV rv' ∧ Holds F s' G' (a.put (some d) (retV rv)).tmps.toList w' ∧ Step N0 N0 s G w s' G' w' := by
  intro s1 hs1 hst1 hbf hbb hof hob hbr oB oO rB rO hoB hoO hbw
  subst hoB
  subst hoO
  have holdK : ∀ j, Ev s1 G (c.mB.map some ++ List.replicate (sg.kout.boxes.length - c.mB.length) none) (c.mO ++ List.replicate (sg.kout.owns.length - c.mO.length) none) j →
    Live s G j ∧ (∀ b ∈ c.mB, ∀ ls, Ae s b = some ls → G.bx b ≠ j) ∧ (∀ l ∈ somes c.mO, ∀ x, Aa s l = some x → (G.ow l).ownBlock ≠ some j) := by
   rintro j (⟨b, q, hb, hnb, rfl⟩ | ⟨l, x, hx, hnl, hj⟩)
   ·obtain ⟨ls, hls⟩ := hbb b q hb
    refine ⟨.inl ⟨b, ls, hls, rfl⟩, fun b2 hb2 ls2 hls2 e => ?_, fun l hl x hx => h.bo b ls l x hls hx⟩
    have := h.bb b2 b ls2 ls hls2 hls e
    subst this
    obtain ⟨i, hi, hi2⟩ := List.getElem_of_mem hb2
    refine hnb i ?_
    rw [List.getElem?_append_left (by simpa using hi), List.getElem?_map, List.getElem?_eq_getElem hi, hi2]
    rfl
   ·have hx' := hob l x hx
    refine ⟨.inr ⟨l, x, hx', hj⟩, fun b2 hb2 ls2 hls2 e => h.bo b2 ls2 l x hls2 hx' (by rw [e]; exact hj), fun l2 hl2 x2 hx2 e => ?_⟩
    have := h.oo l2 l x2 x j hx2 hx' e hj
    subst this
    have : ∀ {m : List (Option Nat)}, l2 ∈ somes m → ∃ i : Nat, m[i]? = some (some l2) := by
     intro m
     induction m with
     | nil => intro h; cases h
     | cons y r ih =>
      intro h
      cases y with
      | none => obtain ⟨i, hi⟩ := ih h; exact ⟨i + 1, by simpa using hi⟩
      | some z =>
       simp only [somes, List.mem_cons] at h
       rcases h with rfl | h
       ·exact ⟨0, by simp⟩
       ·obtain ⟨i, hi⟩ := ih h; exact ⟨i + 1, by simpa using hi⟩
    obtain ⟨i, hi⟩ := this hl2
    refine hnl i ?_
    rw [List.getElem?_append_left (List.getElem?_eq_some_iff.1 hi).1]
    exact hi
  obtain ⟨G2, k1, k2⟩ := A9o (s0 := enc sg.kin (szS sg.kin) ps) (G0 := coG G c.mB c.mO) (F1 := FL F { s with slots := args } G c.br c.bx c.mB c.mO) hs1 hR hst
   (fun i b hi => ⟨by rw [hlen1]; exact (List.getElem?_eq_some_iff.1 (An0 hi)).1, hGb (An0 hi), by have hz := An0 hi; simp [coG, List.getD, hz]⟩)
   (fun i l hi => ⟨by rw [hlen2]; exact (List.getElem?_eq_some_iff.1 (A3y hi)).1, fun _ _ => hGo (A3y hi)⟩)
   (by
    rintro j (⟨b, ls, hb, rfl⟩ | ⟨l, x, hx, hj⟩)
    ·obtain ⟨b', f1, q, f2⟩ := hcbox b ls hb
     obtain ⟨q', hq'⟩ := hbf b' q f2
     exact .inl ⟨b', q', hq', (hGb f1).symm⟩
    ·rcases hcown l x hx with ⟨l', f1, f2⟩ | f1
     ·rw [hGo f1] at hj
      exact .inr ⟨l', x, hof l' x f2 (fun e => hdis l' e (E8 f1)), hj⟩
     ·rw [hGn f1] at hj
      simp [Value.ownBlock] at hj)
   (fun j hj => .inl hj)
   (by
    refine hbx.elim (fun hbx => ?_) (fun hbx => .inr hbx)
    rcases hbr with hbr | hbr
    ·refine .inl fun j hj => ?_
     obtain ⟨g1, g2, g3⟩ := holdK j hj
     refine .inr ⟨g1, ?_⟩
     rintro (⟨b, hb, ls, hls, e⟩ | ⟨l, hl, x, hx, e⟩)
     ·rw [hbx, List.append_nil] at hb
      exact g2 b hb ls hls e
     ·rcases List.mem_append.1 hl with hl | hl
      ·exact g3 l hl x hx e
      ·rcases hj with ⟨b, q, hb, hnb, rfl⟩ | ⟨l2, x2, hx2, hnl, hj2⟩
       ·obtain ⟨ls, hls⟩ := hbb b q hb
        exact h.bo b ls l x hls hx e
       ·have := h.oo l l2 x x2 j hx (hob l2 x2 hx2) e hj2
        subst this
        exact hbr l x2 hx2 hl
    ·exact .inr hbr)
   (by
    rintro j hj (⟨b, ls, hb, rfl⟩ | ⟨l, x, hx, hj2⟩)
    ·obtain ⟨b', f1, q, f2⟩ := hcbox b ls hb
     exact (holdK _ hj).2.1 b' (List.mem_of_getElem? f1) q f2 (hGb f1).symm
    ·rcases hcown l x hx with ⟨l', f1, f2⟩ | f1
     ·rw [hGo f1] at hj2
      exact (holdK _ hj).2.2 l' (E8 f1) x f2 hj2
     ·rw [hGn f1] at hj2
      simp [Value.ownBlock] at hj2)
   rfl hbw
  exact ⟨G2, rv, rfl, k1, hst1.trans k2⟩
 have fin : ∃ G' rv', retV rv = retV rv' ∧ Holds F s' G' (a.put (some d) (retV rv)).tmps.toList w' ∧ Step N0 N0 s G w s' G' w' := by
  by_cases hcond : (c.br.isEmpty || Bj (enc sg.kout (szS sg.kout) qs)) = true
  ·have hcond' : (c.br.isEmpty || Bj (enc sg.kout (max sg.kout.boxes.length sg.kout.owns.length) qs)) = true := hcond
   rw [if_pos hcond'] at hbk
   refine key s h (Step.refl _ _ _ _ _) (fun b ls hb => ⟨ls, hb⟩) (fun b ls hb => ⟨ls, hb⟩) (fun l x hx _ => hx) (fun l x hx => hx) ?_ rfl rfl hbk
   simp only [Bool.or_eq_true] at hcond
   rcases hcond with hcond | hcond
   ·exact .inl fun l x _ hl => by
     have : c.br = [] := by simpa using hcond
     rw [this] at hl
     cases hl
   ·exact .inr hcond
  ·have hcond' : ¬ (c.br.isEmpty || Bj (enc sg.kout (max sg.kout.boxes.length sg.kout.owns.length) qs)) = true := hcond
   rw [if_neg hcond'] at hbk
   refine key (Bb s c.br) (T5 _ h) (T6 _ _ _ h) (fun b ls hb => A0b _ hb) (fun b q hb => A0c _ hb) (fun l x hx hn => by rw [N2, if_neg hn]; exact hx) (fun l x hx => ?_) (.inl fun l x hx hl => ?_) rfl rfl hbk
   ·rw [N2] at hx
    split at hx
    ·cases hx
    ·exact hx
   ·rw [N2, if_pos hl] at hx
    cases hx
 obtain ⟨G', rv', _, k1, k2⟩ := fin
 exact ⟨G', k1, k2⟩
theorem Q6 {args : List AV} {avs : List Value} (h : Holds F s G vals w) (hargs : All2 (HA (HR F s G w)) args avs) {sg : Sig} {c : Co} (hc : co sg.kin { s with slots := args } (max sg.kin.boxes.length sg.kin.owns.length) = some c)
  {ps : List PL} (hps : dec sg.kin c.s = some ps) : Holds (FL F { s with slots := args } G c.br c.bx c.mB c.mO) (enc sg.kin (szS sg.kin) ps) (coG G c.mB c.mO) avs w := by
 have h0 : Holds F { s with slots := args } G avs w := ⟨hargs, h.box, h.own, h.bb, h.bo, h.oo, h.nF, h.Flt, h.ty, h.gl⟩
 obtain ⟨hH, hLv⟩ := Aaj h0 hc
 obtain ⟨e1, e2, e3⟩ := Mn hps (szS sg.kin)
 exact hH.ext e1 e2 e3
theorem Q7 {C : Cfg} {g d : Nat} {args : List AV} {avs : List Value} (h : Holds F s G a.tmps.toList w) (hargs : All2 (HA (HR F s G w)) args avs) : ∀ (sgs : List Sig), (∀ sg ∈ sgs, Af C.P g sg) → (Dt s d args sgs).val = some s' →
  (∃ fn, C.P.funcs[g]? = some fn ∧ (fn.name == "runtime.NumGoroutine") = false ∧ fn.body.isSome = true) ∧
  Calls C.P g avs.toArray w fun e w' => ∃ G' rv, e = .returned (retV rv) ∧ Holds F s' G' (a.put (some d) (retV rv)).tmps.toList w' ∧ Step N0 N0 s G w s' G' w'
 | [], _, hv => by cases hv
 | sg :: sgs, hsg, hv => by
  simp only [Dt] at hv
  split at hv
  ·exact Q7 h hargs sgs (fun sg hs => hsg sg (by simp [hs])) hv
  ·rename_i hpan
   have hpan2 : sg.f.pan = none := by simpa using hpan
   split at hv
   ·rename_i c hc
    split at hv
    ·rename_i ps hps
     simp only [Oc.val] at hv
     obtain ⟨qs, hqs, hbk⟩ := Option.bind_eq_some_iff.1 hv
     rw [Oc.val_ofOption] at hbk
     obtain ⟨hfn, hok⟩ := hsg sg (by simp)
     refine ⟨hfn, ?_⟩
     have hok2 := hok ps qs hqs
     rw [hpan2] at hok2
     refine (hok2 _ _ _ _ (Q6 h hargs hc hps)).mono ?_
     rintro e w' ⟨G1, rv, rfl, hR, hst⟩
     obtain ⟨G', k1, k2⟩ := Lu h hargs hc hps hbk hR hst
     exact ⟨G', rv, rfl, k1, k2⟩
    ·exact Q7 h hargs sgs (fun sg hs => hsg sg (by simp [hs])) hv
   ·exact Q7 h hargs sgs (fun sg hs => hsg sg (by simp [hs])) hv
theorem Hh {bs os : List Nat} {b : Nat} {ls : List L} (hb : Ae (B6 s bs os) b = some ls) : ∃ q, Ae s b = some q ∧ ls = q.map (En bs os) ∧ b ∉ bs := by
 unfold Ae B6 at hb
 simp only [List.getElem?_map] at hb
 cases hr : (List.range s.boxes.length)[b]? with
 | none => rw [hr] at hb; cases hb
 | some x =>
  rw [hr] at hb
  have hx : x = b := by
   obtain ⟨_, e⟩ := List.getElem?_eq_some_iff.1 hr
   simpa using e.symm
  subst hx
  simp only [Option.map_some, Option.bind_some, id] at hb
  split at hb
  ·cases hb
  ·rename_i hn
   obtain ⟨q, hq, rfl⟩ := Option.map_eq_some_iff.1 hb
   exact ⟨q, hq, rfl, by simpa using hn⟩
theorem E6 {bs os : List Nat} {l : Nat} {x : Own} (hx : Aa (B6 s bs os) l = some x) : Aa s l = some x ∧ l ∉ os := by
 unfold Aa B6 at hx
 simp only [List.getElem?_map] at hx
 cases hr : (List.range s.owns.length)[l]? with
 | none => rw [hr] at hx; cases hx
 | some y =>
  rw [hr] at hx
  have hy : y = l := by
   obtain ⟨_, e⟩ := List.getElem?_eq_some_iff.1 hr
   simpa using e.symm
  subst hy
  simp only [Option.map_some, Option.bind_some, id] at hx
  split at hx
  ·cases hx
  ·rename_i hn
   exact ⟨hx, by simpa using hn⟩
theorem A4b {bs os : List Nat} {si : St} {Gi : Gm} (h : Holds F s G vals w) (hk : Keeps (Live si Gi) w w') (hsub : ∀ j, Live si Gi j → Live s G j ∧ ((∃ b ∈ bs, ∃ ls, Ae s b = some ls ∧ G.bx b = j) ∨ (∃ l ∈ os, ∃ x, Aa s l = some x ∧ (G.ow l).ownBlock = some j))) :
  Holds F (B6 s bs os) G vals w' ∧ Step N0 N0 s G w (B6 s bs os) G w' := by
 have hlive : ∀ j, Live (B6 s bs os) G j → Live s G j ∧ ¬ Live si Gi j := by
  rintro j (⟨b, ls, hb, rfl⟩ | ⟨l, x, hx, hj⟩)
  ·obtain ⟨q, hq, rfl, hn⟩ := Hh hb
   refine ⟨.inl ⟨b, q, hq, rfl⟩, fun hL => ?_⟩
   rcases (hsub _ hL).2 with ⟨b2, hb2, ls2, hls2, e⟩ | ⟨l2, hl2, x2, hx2, e⟩
   ·exact hn (h.bb b2 b ls2 q hls2 hq e ▸ hb2)
   ·exact h.bo b q l2 x2 hq hx2 e
  ·obtain ⟨hx', hn⟩ := E6 hx
   refine ⟨.inr ⟨l, x, hx', hj⟩, fun hL => ?_⟩
   rcases (hsub _ hL).2 with ⟨b2, hb2, ls2, hls2, e⟩ | ⟨l2, hl2, x2, hx2, e⟩
   ·exact h.bo b2 ls2 l x hls2 hx' (by rw [e]; exact hj)
   ·exact hn (h.oo l2 l x2 x j hx2 hx' e hj ▸ hl2)
 have hok : ∀ j, okS F s G w j → okS F (B6 s bs os) G w' j ∧ w'.heap[j]? = w.heap[j]? := fun j hj =>
  ⟨⟨Nat.lt_of_lt_of_le hj.1 hk.size, hj.2.1, fun hL => hj.2.2 (hlive j hL).1⟩, hk.block j hj.1 fun hL => hj.2.2 (hsub j hL).1⟩
 have hleaf : ∀ l v, HR F s G w l v → HR F (B6 s bs os) G w' (En bs os l) v := by
  intro l v hr
  unfold En
  split
  ·exact HL.keep hok (fun m x hx => ⟨x, (E6 (s := s) (bs := bs) (os := os) hx).1, Nat.le_refl _, rfl⟩) hr
  ·exact hr.one
 have hlt : ∀ {j}, Live s G j → j < w.heap.size := fun hj => h.lt hj
 refine ⟨⟨?_, fun b ls hb => ?_, fun l x hx => ?_, fun b b' ls ls' hb hb' e => ?_, fun b ls l x hb hx => ?_, fun l l' x x' k hx hx' => ?_, fun k hL => h.nF k (hlive k hL).1, fun k hF => Nat.lt_of_lt_of_le (h.Flt k hF) hk.size, fun b ls hb cs et fr hc => ?_, h.glOf (fun k hk2 hn => hk.block k hk2 fun hL => hn (hsub k hL).1) fun k hL => .inl (hlive k hL).1⟩,
  ⟨⟨hk.os, hk.tape, hk.output, hk.size, fun k hk2 hn => hk.block k hk2 fun hL => hn (hsub k hL).1⟩, fun k hL => .inl (hlive k hL).1, fun _ _ => ⟨rfl, rfl⟩, fun l _ x hx => ⟨⟨x, (E6 hx).1⟩, rfl⟩, rfl⟩⟩
 ·show All2 _ (s.slots.map _) vals
  exact All2.map_left (h.slots.imp fun _ _ ha => ha.map hleaf)
 ·have hL : Live (B6 s bs os) G (G.bx b) := .inl ⟨b, ls, hb, rfl⟩
  obtain ⟨q, hq, rfl, hn⟩ := Hh hb
  obtain ⟨cs, et, hc, hl⟩ := h.box b q hq
  refine ⟨cs, et, ?_, All2.map_left (hl.imp hleaf)⟩
  rw [hk.block _ (hlt (hlive _ hL).1) (hlive _ hL).2]
  exact hc
 ·obtain ⟨hx', hn⟩ := E6 hx
  obtain ⟨h0, cs, hr, he⟩ := h.own l x hx'
  refine ⟨h0, cs, Fb hr fun k hk2 => ?_, he.mono hok⟩
  have hL : Live (B6 s bs os) G k := .inr ⟨l, x, hx, hk2⟩
  exact hk.block k (hlt (hlive k hL).1) (hlive k hL).2
 ·obtain ⟨q, hq, _, _⟩ := Hh hb
  obtain ⟨q', hq', _, _⟩ := Hh hb'
  exact h.bb b b' q q' hq hq' e
 ·obtain ⟨q, hq, _, _⟩ := Hh hb
  exact h.bo b q l x hq (E6 hx).1
 ·exact h.oo l l' x x' k (E6 hx).1 (E6 hx').1
 ·have hL : Live (B6 s bs os) G (G.bx b) := .inl ⟨b, ls, hb, rfl⟩
  obtain ⟨q, hq, _, _⟩ := Hh hb
  rw [hk.block _ (hlt (hlive _ hL).1) (hlive _ hL).2] at hc
  exact h.ty b q hq cs et fr hc
theorem Zd {C : Cfg} {g d : Nat} {args : List AV} {avs : List Value} {e : XE} (h : Holds F s G a.tmps.toList w) (hargs : All2 (HA (HR F s G w)) args avs) : ∀ (sgs : List Sig), (∀ sg ∈ sgs, Af C.P g sg) → (Lt s d args sgs).val = some (e, s') →
  (∃ fn, C.P.funcs[g]? = some fn ∧ (fn.name == "runtime.NumGoroutine") = false ∧ fn.body.isSome = true) ∧
  Calls C.P g avs.toArray w fun r w' => (e = .normal ∧ ∃ G' rv, r = .returned (retV rv) ∧ Holds F s' G' (a.put (some d) (retV rv)).tmps.toList w' ∧ Step N0 N0 s G w s' G' w') ∨
   (∃ t ps pg v, e = .pan t ps pg ∧ PanV t ps pg v ∧ r = .panicked [{ v := v, recovered := false }] ∧ Holds F s' G a.tmps.toList w' ∧ Step N0 N0 s G w s' G w')
 | [], _, hv => by cases hv
 | sg :: sgs, hsg, hv => by
  simp only [Lt] at hv
  split at hv
  ·rename_i c hc
   split at hv
   ·rename_i ps hps
    obtain ⟨hfn, hok⟩ := hsg sg (by simp)
    refine ⟨hfn, ?_⟩
    split at hv
    ·rename_i hpan
     simp only [Oc.val] at hv
     obtain ⟨qs, hqs, hbk⟩ := Option.bind_eq_some_iff.1 hv
     rw [Oc.val_bind, Oc.val_ofOption] at hbk
     obtain ⟨s1, hbk, h1⟩ := Option.bind_eq_some_iff.1 hbk
     cases h1
     have hok2 := hok ps qs hqs
     rw [hpan] at hok2
     refine (hok2 _ _ _ _ (Q6 h hargs hc hps)).mono ?_
     rintro r w' ⟨G1, rv, rfl, hR, hst⟩
     obtain ⟨G', k1, k2⟩ := Lu h hargs hc hps hbk hR hst
     exact .inl ⟨rfl, G', rv, rfl, k1, k2⟩
    rotate_left
    ·rename_i k2 hpan
     simp only [Oc.val] at hv
     obtain ⟨qs, hqs, hbk⟩ := Option.bind_eq_some_iff.1 hv
     have hok2 := hok ps qs hqs
     rw [hpan] at hok2
     refine (hok2 _ _ _ _ (Q6 h hargs hc hps)).mono ?_
     rintro r w' (⟨q, G1, rv, rfl, rfl, hR, hst⟩ | ⟨q, G1, rv, rfl, rfl, hR, hst⟩)
     ·simp only at hbk
      rw [Oc.val_bind, Oc.val_ofOption] at hbk
      obtain ⟨s1, hbk, h1⟩ := Option.bind_eq_some_iff.1 hbk
      cases h1
      obtain ⟨G', m1, m2⟩ := Lu h hargs hc hps hbk hR hst
      exact .inl ⟨rfl, G', rv, rfl, m1, m2⟩
     ·simp only at hbk
      rw [Oc.val_bind, Oc.val_ofOption] at hbk
      obtain ⟨s1, hbk, h1⟩ := Option.bind_eq_some_iff.1 hbk
      cases h1
      obtain ⟨G', m1, m2⟩ := Lu (sg := ⟨sg.kin, k2, sg.f⟩) h hargs hc hps hbk hR hst
      exact .inl ⟨rfl, G', rv, rfl, m1, m2⟩
    ·rename_i pt tp pg hpan
     simp only [Oc.val] at hv
     obtain ⟨qs, hqs, hbk⟩ := Option.bind_eq_some_iff.1 hv
     have hok2 := hok ps qs hqs
     rw [hpan] at hok2
     refine (hok2 _ _ _ _ (Q6 h hargs hc hps)).mono ?_
     rintro r w' (⟨q, G1, rv, rfl, rfl, hR, hst⟩ | ⟨q, v, rfl, rfl, hP, hk⟩)
     ·simp only at hbk
      rw [Oc.val_bind, Oc.val_ofOption] at hbk
      obtain ⟨s1, hbk, h1⟩ := Option.bind_eq_some_iff.1 hbk
      cases h1
      obtain ⟨G', k1, k2⟩ := Lu h hargs hc hps hbk hR hst
      exact .inl ⟨rfl, G', rv, rfl, k1, k2⟩
     ·simp only [Oc.val] at hbk
      cases hbk
      obtain ⟨hnB, hnO, hdis, hdisB, as, bs, os, hA, hB, hO, hs⟩ := Ii hc
      obtain ⟨hBl, hBk, hBg⟩ := Mb hB
      obtain ⟨hOl, hOk, hOg⟩ := Ew hO
      obtain ⟨e1, e2, e3⟩ := Mn hps (szS sg.kin)
      obtain ⟨k1, k2⟩ := A4b (bs := c.mB) (os := somes c.mO) h hk (fun j hj => by
       rcases hj with ⟨b, ls, hb, rfl⟩ | ⟨l, x, hx, hj⟩
       ·rw [e2, hs] at hb
        obtain ⟨b', q, ls', k', f1, f2, f3, f4, f5⟩ := hBg b _ (F0 hb)
        have hG : (coG G c.mB c.mO).bx b = G.bx b' := by simp [coG, List.getD, f1]
        exact ⟨.inl ⟨b', q, f3, hG.symm⟩, .inl ⟨b', List.mem_of_getElem? f1, q, f3, hG.symm⟩⟩
       ·rw [e3, hs] at hx
        rcases (hOg l x (F0 hx)).2 with ⟨l', f1, f2⟩ | ⟨f1, _⟩
        ·have hG : (coG G c.mB c.mO).ow l = G.ow l' := by simp [coG, List.getD, f1]
         rw [hG] at hj
         exact ⟨.inr ⟨l', x, f2, hj⟩, .inr ⟨l', E8 f1, x, f2, hj⟩⟩
        ·have hG : (coG G c.mB c.mO).ow l = .slice none 0 0 := by simp [coG, List.getD, f1]
         rw [hG] at hj
         simp [Value.ownBlock] at hj)
      exact .inr ⟨_, _, _, v, rfl, hP, rfl, k1, k2⟩
   ·exact Zd h hargs sgs (fun sg hs => hsg sg (by simp [hs])) hv
  ·exact Zd h hargs sgs (fun sg hs => hsg sg (by simp [hs])) hv
end
def Bp (C : Cfg) : Prop := ∀ g, ∀ sg ∈ C.env g, Af C.P g sg
section
variable {C : Cfg} {F : Nat → Prop} {s s' : St} {G : Gm} {a : Act} {w w' : World} {o : Oper} {v : AV} {vals : List Value}
theorem Ph (h : Holds F s G vals w) : ∀ (xs : List (Nat × Nat)), All2 (HA (HR F s G w)) (xs.map fun x => lf (.ptr x.1 x.2)) (xs.map (ptrV G))
 | [] => .nil
 | x :: xs => .cons (show HR F s G w (.ptr x.1 x.2) (ptrV G x) from rfl) (Ph h xs)
theorem An1 (h : Holds F s G a.tmps.toList w) : ∀ (xs : List Operand), All2 (HA (HR F s G w)) (xs.map s.get) (xs.map a.eval)
 | [] => .nil
 | x :: xs => .cons (Bw h x) (An1 h xs)
theorem A58 {P : Program} {f : FuncId} {fn : Func} (hf : P.funcs[f]? = some fn) (hname : (fn.name == "runtime.NumGoroutine") = false) (hb : fn.body.isSome = true) (args : Array Value) (w : World) : (callFunc f args).run P w = .ok (.enter f args) w := by
 have h1 : fn.name ≠ "runtime.NumGoroutine" := by simpa using hname
 obtain ⟨c, hc⟩ := Option.isSome_iff_exists.1 hb
 simp [callFunc, hf, h1, hc]
theorem Acn (h : Holds F s G a.tmps.toList w) {f : Operand} {as : Array Operand} {ts : Array Nat} {d g : Nat} {first caps : List (Nat × Nat)} {sgs : List Sig} (hsg : ∀ sg ∈ sgs, Af C.P g sg) (ho : o.op = .call { callee := .value f, args := as, argTypes := ts }) (hd : o.dst = some d)
  (hl : Ai (s.get f) = some (.fn g first caps)) (hv : (Dt s d (first.map (fun x => lf (.ptr x.1 x.2)) ++ as.toList.map s.get ++ caps.map (fun x => lf (.ptr x.1 x.2))) sgs).val = some s') : EOK C.P F s G a w o s' := by
 have hfn : a.eval f = _ := As h hl
 have hargs := ((Ph h first).app (An1 h as.toList)).app (Ph h caps)
 obtain ⟨⟨fn, k1, k2, k3⟩, hcall⟩ := Q7 (g := g) h hargs sgs hsg hv
 intro K Q hK
 unfold Oper.wp
 have hrun : (execOp a.eval o).run C.P w = .ok (.enter g (first.map (ptrV G) ++ as.toList.map a.eval ++ caps.map (ptrV G)).toArray) w := by
  have e1 : ((first.map (ptrV G)).toArray ++ as.map a.eval ++ (caps.map (ptrV G)).toArray) = (first.map (ptrV G) ++ as.toList.map a.eval ++ caps.map (ptrV G)).toArray := by
   rw [← Array.toList_inj]; simp
  simp only [execOp, ho, resolve, hfn, Deferred.ofValue, Sem.run_bind, Sem.run_pure, Result.andThen_ok, invoke, e1, A58 k1 k2 k3]
 rw [hrun, Oper.upon_enter]
 refine hcall.mono ?_
 rintro e w' ⟨G', rv, rfl, h2, h3⟩
 rw [← hd] at h2
 exact hK _ _ _ h2 h3 (F9 _ _ _)
theorem e_call (hE : Bp C) (h : Holds F s G a.tmps.toList w) {f : Operand} {as : Array Operand} {ts : Array Nat} {d : Nat} (ho : o.op = .call { callee := .value f, args := as, argTypes := ts }) (hd : o.dst = some d)
  (hv : (opE C s o.dst o.op).val = some s') : EOK C.P F s G a w o s' := by
 rw [ho, hd] at hv
 simp only [opE] at hv
 split at hv
 ·rename_i g first caps hl
  exact Acn h (hE g) ho hd hl hv
 ·cases hv
theorem Hk (hE : Bp C) (h : Holds F s G a.tmps.toList w) (hv : (opE C s o.dst o.op).val = some s') : EOK C.P F s G a w o s' := by
 cases hc : A6 o.op with
 | false => exact Bin h hc hv
 | true =>
  unfold A6 at hc
  split at hc
  ·rename_i f as ts ho
   cases hd : o.dst with
   | some d => exact e_call hE h ho hd hv
   | none =>
    rw [hd, ho] at hv
    simp only [opE, opV, Oc.bind, Oc.val] at hv
    cases hv
  ·cases hc
theorem A5w {g : Nat} {u : Value} (h : a.tmps[g]? = some u) : a.put (some g) u = a := by
 unfold Act.put
 obtain ⟨hlt, e⟩ := Array.getElem?_eq_some_iff.1 h
 obtain ⟨tm, df⟩ := a
 simp only at *
 congr 1
 apply Array.ext
 ·simp
 ·intro i h1 h2
  simp only [Array.getElem_setIfInBounds h2]
  split
  ·rename_i e2; subst e2; exact e.symm
  ·rfl
theorem Acr {g : Nat} {b : Bool} (h : a.eval (.tmp g) = .bool b) : a.tmps[g]? = some (.bool b) := by
 simp only [Act.eval, Array.getD_eq_getD_getElem?] at h
 cases he : a.tmps[g]? with
 | none => rw [he] at h; cases h
 | some u => rw [he] at h; simp at h; rw [h]
theorem Aoy (h : Holds F s G a.tmps.toList w) {g : Nat} {b : Bool} (hb : Cd (s.get (.tmp g)) = some b) : Holds F (s.put (some g) (lf (pvB b))) G a.tmps.toList w := by
 have h1 := Hz h hb
 have h2 := h.put (some g) (v := lf (pvB b)) (u := .bool b) rfl
 rw [A5w (Acr h1)] at h2
 exact h2
def ExR : XE → Exit → Prop
 | .normal, x => x = .normal
 | .exit id, x => x = .exit id
 | .ret, x => x = .ret
 | .pan t ps g, x => ∃ v, PanV t ps g v ∧ x = .panic [{ v := v, recovered := false }]
theorem Bej {p : PL} {u : Value} {ok : Nat → Prop} (hf : flat1 p.t = true) (h : RepL w ok p u) : ∀ (w' : World) (ok' : Nat → Prop), RepL w' ok' p u := by
 obtain ⟨t, x⟩ := p
 intro w' ok'
 cases t with
 | int k => exact h
 | bool => exact h
 | str => exact h
 | slice e => cases hf
 | nil => cases hf
 | cons a b => cases hf
 | any => cases hf
theorem Adl (f : Nat → Option (Nat × Nat)) : ∀ (q : List (Nat × List L)) (z ls : List L), Dw f z q = some ls → ∀ l ∈ ls, l ∈ z ∨ ∃ x ∈ q, l ∈ x.2
 | [], z, ls, h, l, hl => by cases h; exact .inl hl
 | (i, new) :: q, z, ls, h, l, hl => by
  simp only [Dw] at h
  obtain ⟨x, _, h2⟩ := Option.bind_eq_some_iff.1 h
  split at h2
  ·rcases Adl f q _ _ h2 l hl with h3 | ⟨y, hy, h3⟩
   ·unfold splice at h3
    rcases List.mem_append.1 h3 with h3 | h3
    ·rcases List.mem_append.1 h3 with h3 | h3
     ·exact .inl (List.mem_of_mem_take h3)
     ·exact .inr ⟨(i, new), by simp, h3⟩
    ·exact .inl (List.mem_of_mem_drop h3)
   ·exact .inr ⟨y, by simp [hy], h3⟩
  ·cases h2
theorem A5m {n : Nat} (hall : s.all (L.noB n) = true) : ∀ (ps : List (Nat × Operand)) (q : List (Nat × List L)), Bl s ps = some q → ∀ x ∈ q, ∀ l ∈ x.2, l.noB n = true
 | [], q, h, x, hx => by cases h; cases hx
 | (i, y) :: ps, q, h, x, hx => by
  simp only [Bl] at h
  obtain ⟨ls, h1, h2⟩ := Option.bind_eq_some_iff.1 h
  obtain ⟨q', h3, rfl⟩ := Option.map_eq_some_iff.1 h2
  rcases List.mem_cons.1 hx with rfl | hx
  ·exact An9 (Y1 (fun v => Me _ v) (fun f => rfl) hall y) h1
  ·exact A5m hall ps q' h3 x hx
theorem Avg (h : Holds F s G a.tmps.toList w) {t d len : Nat} {ps : Array (Nat × Operand)} (ho : o.op = .buildSlice t len ps) (hd : o.dst = some d) (hv : (Fl C s t len ps.toList d).val = some s') : EOK C.P F s G a w o s' := by
 unfold Fl at hv
 split at hv
 ·rename_i e he
  split at hv
  ·rename_i q z hq hz
   split at hv
   ·rename_i ls hls
    split at hv
    ·rename_i hc
     simp only [Bool.and_eq_true, decide_eq_true_eq] at hc
     obtain ⟨hf, hl1, hl2, hsz⟩ := hc
     simp only [Oc.val] at hv
     cases hv
     obtain ⟨i, zv, hi, hzz, ez, h1⟩ := Ec hz
     have hone : zv.cells.size = 1 := by
      have := congrArg List.length ez
      simp at this
      omega
     have his : i.size = 1 := by
      unfold Ay at hsz
      rw [hi] at hsz
      simpa using hsz
     have hzl : All2 (HR F s G w) [z] zv.cells.toList := by
      rw [ez]
      exact Ey (fun u hu => Ex u hu) _ h1
     have hrep : All2 (HR F s G w) (List.replicate len z) ((Array.range (len * i.size)).map (zv.cells[· % zv.cells.size]!)).toList := by
      have e1 : ((Array.range (len * i.size)).map (zv.cells[· % zv.cells.size]!)).toList = (List.replicate len zv.cells.toList).flatten := by
       have := Pk zv.cells len (by omega)
       rw [hone] at this
       rw [his, ← this]
       simp [hone]
      rw [e1]
      have hgen : ∀ m : Nat, All2 (HR F s G w) (List.replicate m z) (List.replicate m zv.cells.toList).flatten := by
       intro m
       induction m with
       | zero => exact .nil
       | succ n ih => rw [List.replicate_succ, List.replicate_succ, List.flatten_cons]; exact hzl.app ih
      exact hgen len
     obtain ⟨cs, hfill, hrow⟩ := Adm (R := HR F s G w) (fun k => some (k * 1, 1)) q _ (List.replicate len z) ls _ (Wq h ps.toList q hq) hrep hls
     have hall := (T4 hf).2.2
     have hno : ∀ l ∈ ls, l.noB (N0 + d) = true := by
      intro l hl
      rcases Adl _ _ _ _ hls l hl with h3 | ⟨x, hx, h3⟩
      ·rw [List.eq_of_mem_replicate h3]
       have : z ∈ zv.cells.toList.map A0 := by rw [← ez]; simp
       obtain ⟨v, _, rfl⟩ := List.mem_map.1 this
       exact Me _ _
      ·exact A5m hall _ _ hq x hx l h3
     obtain ⟨h2, h3⟩ := Aof h hf (by omega) hno (cs := cs) e hrow none
     have h4 := Holds.put h2 (some d) (v := lf (.sb (N0 + d) len)) (u := .slice (some ⟨w.heap.size, 0, none⟩) len len) (show Value.slice _ _ _ = _ by simp [Gm.setB])
     have h5 : o.dst = some d := hd
     rw [← hd] at h4 ⊢
     refine .value (u := .slice (some ⟨w.heap.size, 0, none⟩) len len) ?_ h4 (h3.trans (Step.put _ _))
     have e1 : (ps.map fun (x : Nat × Operand) => (x.1, a.eval x.2)).toList = ps.toList.map fun (x : Nat × Operand) => (x.1, a.eval x.2) := by simp
     have hrun := run_buildSlice (P := C.P) w t e len (ps.map fun (x : Nat × Operand) => (x.1, a.eval x.2)) cs i zv (Bn he) hi hzz (by rw [his]; omega) (by rw [his]; omega) (by rw [e1, his]; rw [his] at hfill; exact hfill)
     simp only [execOp, ho, Sem.run_bind]
     rw [hrun]
     rfl
    ·cases hv
   ·cases hv
  ·cases hv
 ·cases hv
theorem A44 (hE : Bp C) (h : Holds F s G a.tmps.toList w) {e : XE} (hv : (opP C s o.dst o.op).val = some (e, s')) (K : Act → World → Prop) (Q : Exit → Act → World → Prop)
  (hK : ∀ G' a' w', e = .normal → Holds F s' G' a'.tmps.toList w' → Step N0 N0 s G w s' G' w' → a'.defers = a.defers → K a' w')
  (hP : ∀ G' a' w' x, e ≠ .normal → ExR e x → Holds F s' G' a'.tmps.toList w' → Step N0 N0 s G w s' G' w' → a'.defers = a.defers → Q x a' w') : o.wp C.P a w K Q := by
 unfold opP at hv
 split at hv
 ·rename_i x ho
  split at hv
  ·rename_i t ps g hl
   split at hv
   ·rename_i hf
    simp only [Oc.val] at hv
    cases hv
    obtain ⟨cs, hcs, hx⟩ : HR F s G w (.ifc t ps g) (a.eval x) := As h hl
    unfold Oper.wp
    have hrun : (execOp a.eval o).run C.P w = .halt (.panic (a.eval x)) w := by
     rw [hx]
     simp only [execOp, ho, hx, Sem.run_bind, run_panic_iface]
     rfl
    rw [hrun, Oper.upon_panic]
    exact hP G a w _ (by simp) ⟨_, ⟨cs, hcs.imp_mem fun p u hp hr => ⟨List.all_eq_true.1 hf p hp, Bej (List.all_eq_true.1 hf p hp) hr⟩, hx⟩, rfl⟩ h (Step.refl _ _ _ _ _) rfl
   ·cases hv
  ·cases hv
 ·rename_i f as ts d ho hd
  split at hv
  ·rename_i g first caps hl
   have hfn : a.eval f = _ := As h hl
   have hargs := ((Ph h first).app (An1 h as.toList)).app (Ph h caps)
   obtain ⟨⟨fn, k1, k2, k3⟩, hcall⟩ := Zd (g := g) h hargs (C.env g) (hE g) hv
   unfold Oper.wp
   have hrun : (execOp a.eval o).run C.P w = .ok (.enter g (first.map (ptrV G) ++ as.toList.map a.eval ++ caps.map (ptrV G)).toArray) w := by
    have e1 : ((first.map (ptrV G)).toArray ++ as.map a.eval ++ (caps.map (ptrV G)).toArray) = (first.map (ptrV G) ++ as.toList.map a.eval ++ caps.map (ptrV G)).toArray := by
     rw [← Array.toList_inj]; simp
    simp only [execOp, ho, resolve, hfn, Deferred.ofValue, Sem.run_bind, Sem.run_pure, Result.andThen_ok, invoke, e1, A58 k1 k2 k3]
   rw [hrun, Oper.upon_enter]
   refine hcall.mono ?_
   rintro r w' (⟨he, G', rv, rfl, h2, h3⟩ | ⟨t, ps, pg, v, he, h1, rfl, h2, h3⟩)
   ·rw [← hd] at h2
    exact hK _ _ _ he h2 h3 (F9 _ _ _)
   ·exact hP _ _ _ _ (by rw [he]; simp) (by rw [he]; exact ⟨v, h1, rfl⟩) h2 h3 rfl
  ·cases hv
 ·rename_i t len ps d ho hd
  split at hv
  ·rw [Oc.val_bind] at hv
   obtain ⟨s1, h1, h2⟩ := Option.bind_eq_some_iff.1 hv
   cases h2
   exact Hk hE h h1 K Q fun G' a' w' k1 k2 k3 => hK G' a' w' rfl k1 k2 k3
  ·rw [Oc.val_bind] at hv
   obtain ⟨s1, h1, h2⟩ := Option.bind_eq_some_iff.1 hv
   cases h2
   exact Avg h ho hd h1 K Q fun G' a' w' k1 k2 k3 => hK G' a' w' rfl k1 k2 k3
 ·rw [Oc.val_bind] at hv
  obtain ⟨s1, h1, h2⟩ := Option.bind_eq_some_iff.1 hv
  cases h2
  exact Hk hE h h1 K Q fun G' a' w' k1 k2 k3 => hK G' a' w' rfl k1 k2 k3
def FOK (C : Cfg) (f : St → Option Nat → Op → Oc St) : Prop :=
 ∀ (F : Nat → Prop) (s s' : St) (G : Gm) (a : Act) (w : World) (o : Oper), Holds F s G a.tmps.toList w → (f s o.dst o.op).val = some s' → EOK C.P F s G a w o s'
variable {f : St → Option Nat → Op → Oc St}
theorem Aok (hE : FOK C f) {all : Array Oper} (h : Holds F s G a.tmps.toList w) (hv : (Am f all s o).val = some s') (K : Act → World → Prop) (Q : Exit → Act → World → Prop)
  (hK : ∀ G' a' w', Holds F s' G' a'.tmps.toList w' → Step N0 N0 s G w s' G' w' → a'.defers = a.defers → K a' w') :
  if Region.wanted o (yielded all a.tmps) then o.wp C.P a w K Q else K (a.put o.dst undef) w := by
 unfold Am at hv
 split at hv
 ·rename_i hg
  have : Region.wanted o (yielded all a.tmps) = true := by simp [Region.wanted, hg]
  rw [if_pos this]
  exact hE _ _ _ _ _ _ _ h hv K Q hK
 ·rename_i j want hg
  split at hv
  ·rename_i g hj
   split at hv
   ·rename_i c hc
    have h1 := Hz h hc
    have hy : yielded all a.tmps j = some c := by simp [yielded, hj, Acr h1]
    have hw : Region.wanted o (yielded all a.tmps) = (c == want) := by simp [Region.wanted, hg, hy]
    have h2 := Aoy h hc
    rw [hw]
    have hskip : ∀ {b : Bool}, c = b → s' = (s.put (some g) (lf (pvB b))).put o.dst (.tup []) → K (a.put o.dst undef) w := by
     intro b hcb e
     subst hcb
     subst e
     exact hK G _ w (h2.put o.dst (v := .tup []) ⟨#[], rfl, .nil⟩) ((Step.put _ _).trans (Step.put _ _)) (F9 _ _ _)
    have hdo : ∀ {b : Bool}, c = b → (f (s.put (some g) (lf (pvB b))) o.dst o.op).val = some s' → o.wp C.P a w K Q := by
     intro b hcb e
     subst hcb
     exact hE _ _ _ _ _ _ _ h2 e K Q fun G' a' w' k1 k2 k3 => hK G' a' w' k1 ((Step.put _ _).trans k2) k3
    cases want <;> cases c <;> simp only [Oc.val, if_true, if_false, cond_true, cond_false, Bool.false_eq_true] at hv
    ·rw [if_pos (by rfl)]; exact hdo rfl hv
    ·rw [if_neg (by decide)]; exact hskip rfl (by cases hv; rfl)
    ·rw [if_neg (by decide)]; exact hskip rfl (by cases hv; rfl)
    ·rw [if_pos (by rfl)]; exact hdo rfl hv
   ·split at hv
    ·rename_i hu
     cases hv
     have hg1 : a.eval (.tmp g) = .tuple #[] := by
      have hA := Bw h (.tmp g)
      unfold Ky at hu
      split at hu
      ·rename_i e
       rw [e] at hA
       obtain ⟨vs, e1, e2⟩ := hA
       rw [e1]
       cases hq : vs.toList with
       | nil => rw [show vs = #[] from Array.toList_eq_nil_iff.1 hq]
       | cons u us => rw [hq] at e2; cases e2
      ·cases hu
     have hy : yielded all a.tmps j = none := by
      simp only [yielded, hj, Option.bind_some]
      simp only [Act.eval, Array.getD_eq_getD_getElem?] at hg1
      cases he : a.tmps[g]? with
      | none => rfl
      | some u => rw [he] at hg1; simp at hg1; rw [hg1]
     have hw : Region.wanted o (yielded all a.tmps) = false := by simp [Region.wanted, hg, hy]
     rw [hw, if_neg (by decide)]
     exact hK G _ w (h.put o.dst (v := .tup []) ⟨#[], rfl, .nil⟩) (Step.put _ _) (F9 _ _ _)
    ·cases hv
  ·cases hv
theorem Aol {R : Type} (all : Array Oper) : ∀ (l : List Oper) (s : St) (K : St → Option R) (r : R), opsK f all l s K = some r → ∃ s', K s' = some r ∧ l.foldl (fun x o => x.bind fun s => (Am f all s o).val) (some s) = some s'
 | [], s, K, r, h => ⟨s, h, rfl⟩
 | o :: l, s, K, r, h => by
  simp only [opsK, Oc.runK_eq] at h
  obtain ⟨s1, h1, h2⟩ := Option.bind_eq_some_iff.1 h
  obtain ⟨s', h3, h4⟩ := Aol all l s1 K r h2
  refine ⟨s', h3, ?_⟩
  simp only [List.foldl_cons, Option.bind_some, h1]
  exact h4
theorem Sp (all : Array Oper) : ∀ (l : List Oper), l.foldl (fun x o => x.bind fun s => (Am f all s o).val) none = none
 | [] => rfl
 | o :: l => by simp only [List.foldl_cons, Option.bind_none]; exact Sp all l
theorem A49 (hE : FOK C f) (all : Array Oper) (Q : Exit → Act → World → Prop) : ∀ (l : List Oper) {s : St} {G : Gm} {a : Act} {w : World}, Holds F s G a.tmps.toList w → l.foldl (fun x o => x.bind fun s => (Am f all s o).val) (some s) = some s' →
  (∀ G' a' w', Holds F s' G' a'.tmps.toList w' → Step N0 N0 s G w s' G' w' → a'.defers = a.defers → Q .normal a' w') → wpList C.P all Q l a w
 | [], s, G, a, w, h, hf, hQ => by
  cases hf
  exact hQ G a w h (Step.refl _ _ _ _ _) rfl
 | o :: l, s, G, a, w, h, hf, hQ => by
  simp only [List.foldl_cons, Option.bind_some] at hf
  cases h1 : (Am f all s o).val with
  | none => rw [h1, Sp] at hf; cases hf
  | some s1 =>
   rw [h1] at hf
   refine wpList_step fun K hK => Aok hE h h1 K Q fun G' a' w' k1 k2 k3 => hK _ _ ?_
   exact A49 hE all Q l k1 hf fun G2 a2 w2 m1 m2 m3 => hQ G2 a2 w2 m1 (k2.trans m2) (m3.trans k3)
theorem A46 (hE : Bp C) {all : Array Oper} {e : XE} (h : Holds F s G a.tmps.toList w) (hv : (operP C all s o).val = some (e, s')) (K : Act → World → Prop) (Q : Exit → Act → World → Prop)
  (hK : ∀ G' a' w', e = .normal → Holds F s' G' a'.tmps.toList w' → Step N0 N0 s G w s' G' w' → a'.defers = a.defers → K a' w')
  (hP : ∀ G' a' w' x, e ≠ .normal → ExR e x → Holds F s' G' a'.tmps.toList w' → Step N0 N0 s G w s' G' w' → a'.defers = a.defers → Q x a' w') :
  if Region.wanted o (yielded all a.tmps) then o.wp C.P a w K Q else K (a.put o.dst undef) w := by
 unfold operP at hv
 split at hv
 ·rename_i hg
  have : Region.wanted o (yielded all a.tmps) = true := by simp [Region.wanted, hg]
  rw [if_pos this]
  exact A44 hE h hv K Q hK hP
 ·rename_i j want hg
  split at hv
  ·rename_i g hj
   split at hv
   ·rename_i c hc
    have h1 := Hz h hc
    have hy : yielded all a.tmps j = some c := by simp [yielded, hj, Acr h1]
    have hw : Region.wanted o (yielded all a.tmps) = (c == want) := by simp [Region.wanted, hg, hy]
    have h2 := Aoy h hc
    rw [hw]
    have hskip : ∀ {b : Bool}, c = b → (e, s') = (XE.normal, (s.put (some g) (lf (pvB b))).put o.dst (.tup [])) → K (a.put o.dst undef) w := by
     intro b hcb e
     subst hcb
     cases e
     exact hK G _ w rfl (h2.put o.dst (v := .tup []) ⟨#[], rfl, .nil⟩) ((Step.put _ _).trans (Step.put _ _)) (F9 _ _ _)
    have hdo : ∀ {b : Bool}, c = b → (opP C (s.put (some g) (lf (pvB b))) o.dst o.op).val = some (e, s') → o.wp C.P a w K Q := by
     intro b hcb e
     subst hcb
     exact A44 hE h2 e K Q (fun G' a' w' k0 k1 k2 k3 => hK G' a' w' k0 k1 ((Step.put _ _).trans k2) k3) fun G' a' w' x k0 k1 k2 k3 k4 => hP G' a' w' x k0 k1 k2 ((Step.put _ _).trans k3) k4
    cases want <;> cases c <;> simp only [Oc.val, if_true, if_false, cond_true, cond_false, Bool.false_eq_true] at hv
    ·rw [if_pos (by rfl)]; exact hdo rfl hv
    ·rw [if_neg (by decide)]; exact hskip rfl (by cases hv; rfl)
    ·rw [if_neg (by decide)]; exact hskip rfl (by cases hv; rfl)
    ·rw [if_pos (by rfl)]; exact hdo rfl hv
   ·split at hv
    ·rename_i hu
     simp only [Oc.val] at hv
     cases hv
     have hg1 : a.eval (.tmp g) = .tuple #[] := by
      have hA := Bw h (.tmp g)
      unfold Ky at hu
      split at hu
      ·rename_i e
       rw [e] at hA
       obtain ⟨vs, e1, e2⟩ := hA
       rw [e1]
       cases hq : vs.toList with
       | nil => rw [show vs = #[] from Array.toList_eq_nil_iff.1 hq]
       | cons u us => rw [hq] at e2; cases e2
      ·cases hu
     have hy : yielded all a.tmps j = none := by
      simp only [yielded, hj, Option.bind_some]
      simp only [Act.eval, Array.getD_eq_getD_getElem?] at hg1
      cases he : a.tmps[g]? with
      | none => rfl
      | some u => rw [he] at hg1; simp at hg1; rw [hg1]
     have hw : Region.wanted o (yielded all a.tmps) = false := by simp [Region.wanted, hg, hy]
     rw [hw, if_neg (by decide)]
     exact hK G _ w rfl (h.put o.dst (v := .tup []) ⟨#[], rfl, .nil⟩) (Step.put _ _) (F9 _ _ _)
    ·cases hv
  ·cases hv
theorem A48 {R : Type} (hE : Bp C) (all : Array Oper) : ∀ (l : List Oper) (s : St) (K : XE → St → Option R) (r : R), opsP C all l s K = some r → ∃ e s', K e s' = some r ∧
  ∀ (F : Nat → Prop) (G : Gm) (a : Act) (w : World) (Q : Exit → Act → World → Prop), Holds F s G a.tmps.toList w →
   (∀ G' a' w' x, ExR e x → Holds F s' G' a'.tmps.toList w' → Step N0 N0 s G w s' G' w' → a'.defers = a.defers → Q x a' w') → wpList C.P all Q l a w
 | [], s, K, r, h => ⟨.normal, s, h, fun F G a w Q hH hQ => hQ G a w .normal rfl hH (Step.refl _ _ _ _ _) rfl⟩
 | o :: l, s, K, r, h => by
  have hfr : ∀ s' : St, (bif A6 o.op then T2 s' (fun s' => opsP C all l s' K) else opsP C all l s' K) = opsP C all l s' K := fun s' => by
   cases A6 o.op
   ·rfl
   ·simp only [cond_true, Bfz]
  simp only [opsP, Oc.runK_eq, hfr] at h
  obtain ⟨⟨e1, s1⟩, h1, h2⟩ := Option.bind_eq_some_iff.1 h
  by_cases he : e1 = .normal
  ·subst he
   simp only [goP] at h2
   obtain ⟨e, s', h3, h4⟩ := A48 hE all l s1 K r h2
   refine ⟨e, s', h3, fun F G a w Q hH hQ => wpList_step fun K' hK => A46 hE hH h1 K' Q (fun G1 a1 w1 _ k1 k2 k3 => hK _ _ ?_) fun G1 a1 w1 x k0 => absurd rfl k0⟩
   exact h4 F G1 a1 w1 Q k1 fun G2 a2 w2 x m0 m1 m2 m3 => hQ G2 a2 w2 x m0 m1 (k2.trans m2) (m3.trans k3)
  ·have h5 : K e1 s1 = some r := by
    unfold goP at h2
    cases e1 with
    | normal => exact absurd rfl he
    | _ => exact h2
   exact ⟨e1, s1, h5, fun F G a w Q hH hQ => wpList_step fun K' hK => A46 hE hH h1 K' Q (fun G1 a1 w1 k0 => absurd k0 he) fun G1 a1 w1 x _ k0 k1 k2 k3 => hQ G1 a1 w1 x k0 k1 k2 k3⟩
def Ed (C : Cfg) : Prop := ∀ (ops : Array Oper), commutes C ops = true → ∀ (F : Nat → Prop) (s s' : St) (G : Gm) (a : Act) (w : World) (Q : Exit → Act → World → Prop), Holds F s G a.tmps.toList w →
  ops.toList.foldl (fun x o => x.bind fun s => (Am (opD C) ops s o).val) (some (clean C ops s)) = some s' →
  (∀ G' a' w', Holds F s' G' a'.tmps.toList w' → Step N0 N0 s G w s' G' w' → a'.defers = a.defers → Q .normal a' w') → ∀ id, (Code.region id ops true).wp C.P Q a w
theorem fok_E (hE : Bp C) : FOK C (opE C) := fun F s s' G a w o h hv => Hk hE h hv
theorem Step.le {nb no nb' no' : Nat} {G' : Gm} (h : Step nb no s G w s' G' w') (h1 : nb' ≤ nb) (h2 : no' ≤ no) : Step nb' no' s G w s' G' w' :=
 ⟨h.keeps, h.fresh, fun b hb => h.gb b (by omega), fun l hl => h.go l (by omega), h.fx⟩
theorem Awd {n : Nat} {l : List Nat} (h : fixB n l = true) {i : Nat} (hi : i < n) : l.getD i (i + 1) = i := by
 have := List.all_eq_true.1 h i (List.mem_range.2 hi)
 simpa using this
theorem E9 {R : Type} {c : Code} {K : St → Option R} {r : R} (hn : norm C c s K = some r) : ∃ s', K s' = some r ∧ ∀ (F : Nat → Prop) (G : Gm) (vals : List Value) (w : World), Holds F s G vals w → ∃ G', Holds F s' G' vals w ∧ Step C.npB C.npO s G w s' G' w := by
 unfold norm at hn
 split at hn
 ·exact ⟨s, hn, fun F G vals w h => ⟨G, h, Step.refl _ _ _ _ _⟩⟩
 ·rename_i k hk
  split at hn
  ·rename_i x hx
   split at hn
   ·rename_i hfix
    simp only [Bool.and_eq_true] at hfix
    refine ⟨x.s, hn, fun F G vals w h => ?_⟩
    obtain ⟨hH, hL⟩ := Aaj h hx
    obtain ⟨hnB, hnO, hdis, hdisB, as, bs, os, hA, hB, hO, hs⟩ := Ii hx
    obtain ⟨hOl, hOk, hOg⟩ := Ew hO
    refine ⟨_, hH.weakF (fun j hj => .inl hj), ⟨Keeps.refl _ _, fun j hj => .inl (hL j hj), fun b hb => ?_, fun l hl y hy => ?_, rfl⟩⟩
    ·have h1 := Awd hfix.1 hb
     simp only [coG]
     have h2 : x.mB[b]? = some b := by
      simp only [List.getD] at h1
      cases he : x.mB[b]? with
      | none => rw [he] at h1; simp at h1
      | some z => rw [he] at h1; simp at h1; rw [h1]
     simp [List.getD, h2]
    ·rw [hs] at hy
     obtain ⟨⟨kk, hkk⟩, hor⟩ := hOg l y (F0 hy)
     have h1 := List.all_eq_true.1 hfix.2 l (List.mem_range.2 hl)
     simp only [List.getD, hkk, Option.getD_some] at h1
     rcases hor with ⟨m, f1, f2⟩ | ⟨f1, _⟩
     ·rw [f1] at h1
      simp at h1
      subst h1
      exact ⟨⟨y, f2⟩, by simp [coG, List.getD, f1]⟩
     ·rw [f1] at h1
      simp at h1
   ·cases hn
  ·cases hn
def Eu (C : Cfg) (c : Code) (s : St) (e : XE) (s' : St) : Prop :=
 ∀ (F : Nat → Prop) (G : Gm) (a : Act) (w : World) (Q : Exit → Act → World → Prop), Holds F s G a.tmps.toList w →
  (∀ G' a' w' x, ExR e x → Holds F s' G' a'.tmps.toList w' → Step C.npB C.npO s G w s' G' w' → a'.defers = a.defers → Q x a' w') → c.wp C.P Q a w
theorem A4q {R : Type} {b : Code} {K : XE → St → Option R} {k : Nat} (hb : ∀ (s : St) (K' : XE → St → Option R) (r : R), ev C k b s K' = some r → ∃ e s', K' e s' = some r ∧ Eu C b s e s') :
  ∀ (n : Nat) (s : St) (r : R), Bf (Bh C b (ev C k b) K) n s = some r → ∃ e s', K e s' = some r ∧ e ≠ .normal ∧ ∀ (F : Nat → Prop) (G : Gm) (a : Act) (w : World) (Q : Exit → Act → World → Prop), Holds F s G a.tmps.toList w →
   (∀ G' a' w' x, ExR e x → Holds F s' G' a'.tmps.toList w' → Step C.npB C.npO s G w s' G' w' → a'.defers = a.defers → Q x a' w') → Code.rounds C.P b Q n a w
 | 0, s, r, h => by cases h
 | n + 1, s, r, h => by
  simp only [Bf, Bh] at h
  obtain ⟨e1, s1, h1, h2⟩ := hb s _ r h
  have pass : e1 ≠ .normal → K e1 s1 = some r → ∃ e s', K e s' = some r ∧ e ≠ .normal ∧ ∀ (F : Nat → Prop) (G : Gm) (a : Act) (w : World) (Q : Exit → Act → World → Prop), Holds F s G a.tmps.toList w →
   (∀ G' a' w' x, ExR e x → Holds F s' G' a'.tmps.toList w' → Step C.npB C.npO s G w s' G' w' → a'.defers = a.defers → Q x a' w') → Code.rounds C.P b Q (n + 1) a w := by
   intro hne h1
   refine ⟨e1, s1, h1, hne, fun F G a w Q hH hQ => ?_⟩
   rw [rounds_succ]
   refine h2 F G a w _ hH fun G1 a1 w1 x k0 k1 k2 k3 => ?_
   have hQ1 := hQ G1 a1 w1 x k0 k1 k2 k3
   cases e1 with
   | normal => exact absurd rfl hne
   | exit id => cases k0; exact hQ1
   | ret => cases k0; exact hQ1
   | pan t ps g => obtain ⟨v, _, rfl⟩ := k0; exact hQ1
  cases e1 with
  | normal =>
   simp only [F3] at h1
   obtain ⟨s2, h3, h4⟩ := E9 h1
   obtain ⟨e, s', h5, h6, h7⟩ := A4q hb n s2 r h3
   refine ⟨e, s', h5, h6, fun F G a w Q hH hQ => ?_⟩
   rw [rounds_succ]
   refine h2 F G a w _ hH fun G1 a1 w1 x k0 k1 k2 k3 => ?_
   cases k0
   obtain ⟨G2, k4, k5⟩ := h4 F G1 _ w1 k1
   exact h7 F G2 a1 w1 Q k4 fun G3 a3 w3 x m0 m1 m2 m3 => hQ G3 a3 w3 x m0 m1 ((k2.trans k5).trans m2) (m3.trans k3)
  | exit id => exact pass (by simp) h1
  | ret => exact pass (by simp) h1
  | pan t ps g => exact pass (by simp) h1
theorem Df (hE : Bp C) (hD : Ed C) (hnb : C.npB ≤ N0) (hno : C.npO ≤ N0) (k : Nat) {R : Type} : ∀ (c : Code) (s : St) (K : XE → St → Option R) (r : R), ev C k c s K = some r → ∃ e s', K e s' = some r ∧ Eu C c s e s'
 | .skip, s, K, r, h => ⟨.normal, s, h, fun F G a w Q hH hQ => wp_skip (hQ G a w .normal rfl hH (Step.refl _ _ _ _ _) rfl)⟩
 | .label l, s, K, r, h => ⟨.normal, s, h, fun F G a w Q hH hQ => wp_label (hQ G a w .normal rfl hH (Step.refl _ _ _ _ _) rfl)⟩
 | .ret, s, K, r, h => ⟨.ret, s, h, fun F G a w Q hH hQ => wp_ret (hQ G a w .ret rfl hH (Step.refl _ _ _ _ _) rfl)⟩
 | .exit id, s, K, r, h => ⟨.exit id, s, h, fun F G a w Q hH hQ => wp_exit (hQ G a w (.exit id) rfl hH (Step.refl _ _ _ _ _) rfl)⟩
 | .region id ops draw, s, K, r, h => by
  simp only [ev] at h
  cases draw with
  | false =>
   obtain ⟨e, s', h1, h2⟩ := A48 hE ops ops.toList s K r h
   exact ⟨e, s', h1, fun F G a w Q hH hQ => wp_region_list (h2 F G a w Q hH fun G' a' w' x k0 k1 k2 k3 => hQ G' a' w' x k0 k1 (k2.le hnb hno) k3)⟩
  | true =>
   simp only [if_true] at h
   split at h
   ·rename_i hc
    obtain ⟨s', h1, h2⟩ := Aol ops ops.toList (clean C ops s) (K .normal) r h
    exact ⟨.normal, s', h1, fun F G a w Q hH hQ => hD ops hc F s s' G a w Q hH h2 (fun G' a' w' k1 k2 k3 => hQ G' a' w' .normal rfl k1 (k2.le hnb hno) k3) id⟩
   ·cases h
 | .seq x y, s, K, r, h => by
  simp only [ev] at h
  obtain ⟨e1, s1, h1, h2⟩ := Df hE hD hnb hno k x s _ r h
  cases e1 with
  | normal =>
   simp only [seqK] at h1
   obtain ⟨s2, h3, h4⟩ := E9 h1
   obtain ⟨e, s', h5, h6⟩ := Df hE hD hnb hno k y s2 _ r h3
   refine ⟨e, s', h5, fun F G a w Q hH hQ => wp_seq (h2 F G a w _ hH fun G1 a1 w1 x k0 k1 k2 k3 => ?_)⟩
   cases k0
   obtain ⟨G2, k4, k5⟩ := h4 F G1 _ w1 k1
   exact h6 F G2 a1 w1 Q k4 fun G3 a3 w3 x m0 m1 m2 m3 => hQ G3 a3 w3 x m0 m1 ((k2.trans k5).trans m2) (m3.trans k3)
  | exit id => exact ⟨.exit id, s1, h1, fun F G a w Q hH hQ => wp_seq (h2 F G a w _ hH fun G1 a1 w1 x k0 k1 k2 k3 => by cases k0; exact hQ G1 a1 w1 _ rfl k1 k2 k3)⟩
  | ret => exact ⟨.ret, s1, h1, fun F G a w Q hH hQ => wp_seq (h2 F G a w _ hH fun G1 a1 w1 x k0 k1 k2 k3 => by cases k0; exact hQ G1 a1 w1 _ rfl k1 k2 k3)⟩
  | pan t ps g => exact ⟨.pan t ps g, s1, h1, fun F G a w Q hH hQ => wp_seq (h2 F G a w _ hH fun G1 a1 w1 x k0 k1 k2 k3 => by obtain ⟨v, hv, rfl⟩ := k0; exact hQ G1 a1 w1 _ ⟨v, hv, rfl⟩ k1 k2 k3)⟩
 | .cond c x y, s, K, r, h => by
  simp only [ev] at h
  split at h
  ·rename_i b hb
   have href : ∀ (F : Nat → Prop) (G : Gm) (a : Act) (w : World), Holds F s G a.tmps.toList w → Holds F (refine s c b) G a.tmps.toList w ∧ Step C.npB C.npO s G w (refine s c b) G w := by
    intro F G a w hH
    unfold refine
    split
    ·exact ⟨Aoy hH hb, Step.put _ _⟩
    ·exact ⟨hH, Step.refl _ _ _ _ _⟩
   cases b with
   | true =>
    simp only [cond_true] at h
    obtain ⟨e, s', h1, h2⟩ := Df hE hD hnb hno k x _ _ r h
    refine ⟨e, s', h1, fun F G a w Q hH hQ => ?_⟩
    obtain ⟨k1, k2⟩ := href F G a w hH
    exact wp_cond_true (Hz hH hb) (h2 F G a w Q k1 fun G1 a1 w1 x m0 m1 m2 m3 => hQ G1 a1 w1 x m0 m1 (k2.trans m2) m3)
   | false =>
    simp only [cond_false] at h
    obtain ⟨e, s', h1, h2⟩ := Df hE hD hnb hno k y _ _ r h
    refine ⟨e, s', h1, fun F G a w Q hH hQ => ?_⟩
    obtain ⟨k1, k2⟩ := href F G a w hH
    exact wp_cond_false (Hz hH hb) (h2 F G a w Q k1 fun G1 a1 w1 x m0 m1 m2 m3 => hQ G1 a1 w1 x m0 m1 (k2.trans m2) m3)
  ·cases h
 | .block id b, s, K, r, h => by
  simp only [ev] at h
  obtain ⟨e1, s1, h1, h2⟩ := Df hE hD hnb hno k b s _ r h
  cases e1 with
  | normal => exact ⟨.normal, s1, h1, fun F G a w Q hH hQ => wp_block (h2 F G a w _ hH fun G1 a1 w1 x k0 k1 k2 k3 => by cases k0; exact hQ G1 a1 w1 _ rfl k1 k2 k3)⟩
  | exit i =>
   simp only [blkK] at h1
   split at h1
   ·rename_i e
    exact ⟨.normal, s1, h1, fun F G a w Q hH hQ => wp_block (h2 F G a w _ hH fun G1 a1 w1 x k0 k1 k2 k3 => by
     cases k0
     simp only [Exit.inBlock, e, if_true]
     exact hQ G1 a1 w1 _ rfl k1 k2 k3)⟩
   ·rename_i e
    exact ⟨.exit i, s1, h1, fun F G a w Q hH hQ => wp_block (h2 F G a w _ hH fun G1 a1 w1 x k0 k1 k2 k3 => by
     cases k0
     simp only [Exit.inBlock, e, if_false]
     exact hQ G1 a1 w1 _ rfl k1 k2 k3)⟩
  | ret => exact ⟨.ret, s1, h1, fun F G a w Q hH hQ => wp_block (h2 F G a w _ hH fun G1 a1 w1 x k0 k1 k2 k3 => by cases k0; exact hQ G1 a1 w1 _ rfl k1 k2 k3)⟩
  | pan t ps g => exact ⟨.pan t ps g, s1, h1, fun F G a w Q hH hQ => wp_block (h2 F G a w _ hH fun G1 a1 w1 x k0 k1 k2 k3 => by obtain ⟨v, hv, rfl⟩ := k0; exact hQ G1 a1 w1 _ ⟨v, hv, rfl⟩ k1 k2 k3)⟩
 | .loop b, s, K, r, h => by
  simp only [ev] at h
  obtain ⟨s1, h1, h2⟩ := E9 h
  obtain ⟨e, s', h3, h4, h5⟩ := A4q (fun s K' r h => Df hE hD hnb hno k b s K' r h) k s1 r h1
  refine ⟨e, s', h3, fun F G a w Q hH hQ => wp_loop_rounds k ?_⟩
  obtain ⟨G1, k1, k2⟩ := h2 F G _ w hH
  exact h5 F G1 a w Q k1 fun G2 a2 w2 x m0 m1 m2 m3 => hQ G2 a2 w2 x m0 m1 (k2.trans m2) m3
 | .scope b, s, K, r, h => by cases h
 | .goto l, s, K, r, h => by cases h
 | .refuse y, s, K, r, h => by cases h
 | .rangeFunc f p x y, s, K, r, h => by cases h
end
end Go.Proofs.YtgmpjapnhdilaaaGreatV
