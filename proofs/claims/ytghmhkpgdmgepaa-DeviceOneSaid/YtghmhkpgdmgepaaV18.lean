import Derived.Test.YtghmhkpgdmgepaaV17
import Derived.Lib.SlBytesConst
/-! The V engine, 18: a mark in a block; all operations but calls. -/
set_option linter.unusedVariables false
set_option linter.unusedSimpArgs false
namespace Go.Proofs.YtghmhkpgdmgepaaV
open Go Go.RowKit

section
variable {P : Program} {F : Nat → Prop} {s s' : St} {G : Gm} {a : Act} {w w' : World} {o : Oper} {v : AV} {vals : List Value}

/-- A block's cells are the same. -/
def SameC (w w' : World) (k : Nat) : Prop := ∀ ad : Addr, ad.block = k → w'.cell? ad = w.cell? ad
theorem Cells.moveC {ad : Addr} {cs : List Value} (h : Cells w ad cs) (hb : SameC w w' ad.block) : Cells w' ad cs := by
  intro j v hv
  rw [hb (ad.add j) (add_block ad j)]
  exact h j v hv
theorem Rep.monoC {ok : Nat → Prop} (h1 : ∀ k, ok k → SameC w w' k) : ∀ {t : Ty} {x : t.den} {cs : List Value}, Rep w ok t x cs → Rep w' ok t x cs
  | .int _, _, _, h => by unfold Rep at h ⊢; exact h
  | .bool, _, _, h => by unfold Rep at h ⊢; exact h
  | .str, _, _, h => by unfold Rep at h ⊢; exact h
  | .nil, _, _, h => by unfold Rep at h ⊢; exact h
  | .slice e, xs, _, h => by
    unfold Rep at h ⊢
    obtain ⟨A, c, rfl, hl, hc, hx⟩ := h
    refine ⟨A, c, rfl, hl, hc, fun hne => ?_⟩
    obtain ⟨a, rfl, hs, hok, hel⟩ := hx hne
    refine ⟨a, rfl, hs, hok, fun i x hi => ?_⟩
    obtain ⟨es, hr, hcs⟩ := hel i x hi
    exact ⟨es, hr.monoC h1, hcs.moveC (by rw [add_block]; exact h1 _ hok)⟩
  | .cons a b, _, _, h => by
    unfold Rep at h ⊢
    obtain ⟨c0, c1, rfl, h2, h3⟩ := h
    exact ⟨c0, c1, rfl, h2.monoC h1, h3.monoC h1⟩

theorem HL.keepC {ok : Nat → Prop} {os : List (Option Own)} (h1 : ∀ k, ok k → SameC w w' k) {l : L} {v : Value} (h : HL G w ok os l v) : HL G w' ok os l v := by
  cases l with
  | pv p => exact Rep.monoC h1 h
  | rpt ps =>
    obtain ⟨a, cs, e, hs, ho, hc, hr⟩ := h
    exact ⟨a, cs, e, hs, ho, hc.moveC (h1 _ ho), hr.imp fun _ _ h => Rep.monoC h1 h⟩
  | ifc t ps g =>
    obtain ⟨cs, hr, e⟩ := h
    exact ⟨cs, hr.imp fun _ _ h => Rep.monoC h1 h, e⟩
  | _ => exact h

/-- A mark in a block that is no box's and no row's. -/
theorem Holds.mark (h : Holds F s G vals w) {g : Nat} (hg : ¬ Live s G g) (hs : w'.heap.size = w.heap.size) (hc : SameC w w' g) (hb : ∀ k, k ≠ g → w'.heap[k]? = w.heap[k]?) : Holds F s G vals w' := by
  have hsame : ∀ k, SameC w w' k := by
    intro k
    by_cases e : k = g
    · subst e; exact hc
    · rintro ad rfl
      exact World.cell?_of_block (w := w) (hb _ e)
  have hok : okS F s G w' = okS F s G w := by funext k; simp [okS, hs]
  have htr : ∀ l v, HR F s G w l v → HR F s G w' l v := by
    intro l v hr
    unfold HR at hr ⊢
    rw [hok]
    exact HL.keepC (fun k _ => hsame k) hr
  refine ⟨?_, ?_, ?_, h.bb, h.bo, h.oo, h.nF, fun k hk => by rw [hs]; exact h.Flt k hk, fun b ls hb2 cs et fr hc2 => h.ty b ls hb2 cs et fr (by rw [hb _ fun e => hg (.inl ⟨b, ls, hb2, e⟩)] at hc2; exact hc2)⟩
  · exact h.slots.imp fun _ _ ha => ha.imp htr
  · intro b ls hb2
    obtain ⟨cs, et, h1, h2⟩ := h.box b ls hb2
    exact ⟨cs, et, by rw [hb _ fun e => hg (.inl ⟨b, ls, hb2, e⟩)]; exact h1, h2.imp htr⟩
  · intro l x hx
    obtain ⟨h0, cs, h1, h2⟩ := h.own l x hx
    refine ⟨h0, cs, ownsRow_block h1 fun k hk => hb k fun e => hg (.inr ⟨l, x, hx, by rw [← e]; exact hk⟩), ?_⟩
    rw [hok]
    exact All2.imp h2 fun _ _ hr => Rep.monoC (fun k _ => hsame k) hr

theorem e_mark (h : Holds F s G a.tmps.toList w) {t d e : Nat} {x : Operand} (ho : o.op = .convert t t x) (hd : o.dst = some d) {l : Nat} (hl : leaf1 (s.get x) = some (.own l)) (he : elemOfSl P t = some e) (hu : isU8 P e = true)
    {q : Own} (hq : ownAt s l = some q) (hn : 0 < q.xs.length) : EOK P F s G a w o ((frz s l).put (some d) (lf (pvL q.t q.xs))) := by
  have e1 : a.eval x = G.ow l := (leaf_holds h hl).1
  have hrep := own_rep h hq
  obtain ⟨h0, cs, hr, hel⟩ := h.own l q hq
  rcases hr.2 with ⟨_, e2⟩ | ⟨g, cap, cur, e2, _, e3, e4, e5, e6, e7⟩
  · omega
  · have hgl : Live s G g := .inr ⟨l, q, hq, by rw [e2]; rfl⟩
    have hng : ¬ Live (frz s l) G g := fun hL => (frz_live h hL).2 q hq (by rw [e2]; rfl)
    have hsh : w.shape? g = some (q.e, cur.size) := by simp [World.shape?, e3]
    have hrun : (convert t t (G.ow l)).run P w = .ok (G.ow l) (w.freeze ⟨g, cur.size, none⟩ 1) := by
      rw [e2]
      simp [convert, run_underlying (elemOfSl_some he), run_underlying (uOf hu), markStringish, hsh]
    have hw : w.freeze ⟨g, cur.size, none⟩ 1 = { w with heap := w.heap.modify g fun ob => match ob with
        | .cells c elem (lo, hi) => .cells c elem (if lo == hi then (cur.size, cur.size + 1) else (min lo cur.size, max hi (cur.size + 1)))
        | ob => ob } := by
      unfold World.freeze
      rw [if_neg (by decide)]
      rfl
    generalize hw' : w.freeze ⟨g, cur.size, none⟩ 1 = w2 at hrun hw
    have hs2 : w2.heap.size = w.heap.size := by rw [hw]; simp
    have hb2 : ∀ k, k ≠ g → w2.heap[k]? = w.heap[k]? := by
      intro k hk
      rw [hw]
      simp only [Array.getElem?_modify]
      rw [if_neg (fun e => hk e.symm)]
    have hc2 : SameC w w2 g := by
      intro ad had
      rw [hw]
      simp only [World.cell?, Array.getElem?_modify, had, if_true, e3, Option.map_some]
    have h5 := (frz_holds h l).mark hng hs2 hc2 hb2
    have h6 : HR F (frz s l) G w2 (pvL q.t q.xs) (G.ow l) := by
      have h7 : Rep w (okS F (frz s l) G w) (.slice q.t) q.xs [G.ow l] := Rep.mono (fun k hk => ⟨frz_ok h hq hk, rfl⟩) hrep
      have h8 : okS F (frz s l) G w2 = okS F (frz s l) G w := by funext k; simp [okS, hs2]
      show Rep w2 (okS F (frz s l) G w2) (.slice q.t) q.xs [G.ow l]
      rw [h8]
      refine Rep.monoC (fun k hk => ?_) h7
      by_cases ek : k = g
      · subst ek; exact hc2
      · rintro ad rfl
        exact World.cell?_of_block (w := w) (hb2 _ ek)
    have h9 := h5.put (some d) (v := lf (pvL q.t q.xs)) h6
    rw [← hd] at h9 ⊢
    refine .value (u := G.ow l) ?_ h9 (Step.trans (s1 := frz s l) (G1 := G) (w1 := w2) ⟨⟨by rw [hw], by rw [hw], by rw [hw], by rw [hs2]; exact Nat.le_refl _, fun k _ hk => hb2 k fun e => hk (by rw [e]; exact hgl)⟩, fun k hk => .inl (frz_live h hk).1, fun _ _ => ⟨rfl, rfl⟩, (frz_step h l N0 N0).go⟩ (Step.put _ _))
    simp [execOp, ho, e1, hrun]

theorem opE_sound {C : Cfg} (h : Holds F s G a.tmps.toList w) (hn : isCall o.op = false) (hv : (opE C s o.dst o.op).val = some s') : EOK C.P F s G a w o s' := by
  unfold opE at hv
  split at hv
  · rename_i t d ho hd
    split at hv
    · rename_i ls hz
      exact e_alloc h ho hd hz hv
    · cases hv
  · rename_i t x d ho hd
    split at hv
    · rename_i ls hl
      exact e_box h ho hd hl hv
    · cases hv
  · rename_i t x y ho hd
    split at hv
    · rename_i b k new n hp hnew hz
      split at hv
      · rename_i ls hb
        split at hv
        · rename_i hc
          cases hv
          exact e_store_box h ho hd hp hnew hz hb hc
        · cases hv
      · cases hv
    · rename_i l i k z new n hp hnew hz
      split at hv
      · rename_i q hq
        split at hv
        · rename_i hc
          split at hv
          · rename_i ps hps
            split at hv
            · rename_i x' hu
              split at hv
              · cases hv
              · rename_i hno
                cases hv
                exact e_store_elem h ho hd hp hnew hz hq hc hps hu (by simpa using hno)
            · cases hv
          · cases hv
        · cases hv
      · cases hv
    · cases hv
  · rename_i t len ps d ho hd
    split at hv
    · rename_i e he
      split at hv
      · rename_i te q z hte hq hz
        split at hv
        · rename_i x hx
          split at hv
          · rename_i xs hxs
            split at hv
            · rename_i hl
              exact e_build h ho hd he hte hz hx hq hxs hl hv
            · cases hv
          · cases hv
        · cases hv
      · cases hv
    · cases hv
  · rename_i t x y d ho hd
    split at hv
    · rename_i e n m he hn1 hm1
      split at hv
      · rename_i te z hte hz
        split at hv
        · rename_i q hq
          simp only [Oc.val] at hv
          cases hc : (decide (0 ≤ n) && decide (n = m) && decide ((bytesT C.P e : Int) * n ≤ 140737488355328) && decide (n ≤ 9223372036854775807)) with
          | false => rw [hc] at hv; cases hv
          | true =>
            rw [hc] at hv
            exact e_make h ho hd he hn1 hm1 hte hz hq hc hv
        · cases hv
      · cases hv
    · cases hv
  · rename_i T x lo hi d ho hd
    split at hv
    · rename_i l hl
      split at hv
      · rename_i e q he hq
        split at hv
        · rename_i p r hp hr
          split at hv
          · rename_i hz
            split at hv
            · split at hv
              · simp only [Oc.val] at hv
                cases hb : cutB p r q.xs.length with
                | false => rw [hb] at hv; cases hv
                | true =>
                  rw [hb] at hv
                  obtain rfl : p = 0 := by simpa [optInt] using hp.symm
                  exact e_pop h ho hd hl he hq hr hz hb hv
              · cases hv
            · simp only [Oc.val] at hv
              cases hb : cutB p r q.xs.length with
              | false => rw [hb] at hv; cases hv
              | true =>
                rw [hb] at hv
                cases hv
                exact e_cut h ho hd hl he hq hp hr hz hb
          · cases hv
        · cases hv
      · cases hv
    · exact e_value h hv
  · rename_i t1 t2 x d ho hd
    split at hv
    · rename_i l hl
      split at hv
      · rename_i e12
        subst e12
        split at hv
        · rename_i e q he hq
          split at hv
          · rename_i hu
            simp only [Oc.val] at hv
            cases hb : decide (0 < q.xs.length) with
            | false => rw [hb] at hv; cases hv
            | true =>
              rw [hb] at hv
              cases hv
              exact e_mark h ho hd hl he hu hq (by simpa using hb)
          · cases hv
        · cases hv
      · exact e_value h hv
    · exact e_value h hv
  · rename_i as ts d ho hd
    split at hv
    · rename_i x y t u has hts
      split at hv
      · rename_i etu
        subst etu
        split at hv
        · rename_i la lb e hla hlb he
          obtain rfl : as = #[x, y] := by rw [← Array.toList_inj]; exact has
          obtain rfl : ts = #[t, t] := by rw [← Array.toList_inj]; exact hts
          exact e_append h ho hd hla hlb he hv
        · cases hv
      · split at hv
        · rename_i hus
          split at hv
          · rename_i la z e hla hlb he
            split at hv
            · rename_i hu8
              obtain rfl : as = #[x, y] := by rw [← Array.toList_inj]; exact has
              obtain rfl : ts = #[t, u] := by rw [← Array.toList_inj]; exact hts
              exact e_appendS h ho hd hla hlb he hus hu8 hv
            · cases hv
          · cases hv
        · cases hv
    · cases hv
  · rename_i f as ts d ho hd
    rw [ho] at hn
    cases hn
  · exact e_value h hv

end
end Go.Proofs.YtghmhkpgdmgepaaV
