import Derived.Test.YtgmpjapnhdilaaaGreatB4
import Derived.Test.YtgmpjapnhdilaaaGreatProg
import Derived.Lib.SliceRun
/-! Joined, names shortened: VH, VK, XC, XD, XD2, XD3, XD4, XS, XS2, XS3, XS4, XS5. -/
set_option linter.unusedVariables false
set_option linter.unusedSimpArgs false
namespace Go.Proofs.YtgmpjapnhdilaaaGreatV
open Go Go.RowKit
theorem Aw9 {C : Cfg} {g : Nat} {fn : Func} {c : Code} (hf : C.P.funcs[g]? = some fn) (hname : (fn.name == "runtime.NumGoroutine") = false) (hb : fn.body = some c) (kin kout : Sk)
  (hnB : C.npB = kin.boxes.length) (hnO : C.npO = kin.owns.length) (f : HLs kin.tys → Option (HLs kout.tys))
  (h : ∀ x y, f x = some y → ∃ e s', retK C fn.results kout e s' = some y ∧ Eu C c (st0 C fn kin x) e s') : Af C.P g (Ab kin kout f) := by
 refine ⟨⟨fn, hf, hname, by rw [hb]; rfl⟩, fun ps qs hrun => ?_⟩
 show Lj _ _ _ _ _ _
 intro F G vals w hH
 have hrun' := hrun
 simp only [Ab, Ck] at hrun'
 split at hrun'
 ·rename_i x hx
  obtain ⟨y, hy, hq⟩ := Option.bind_eq_some_iff.1 hrun'
  cases hq
  have hps := F6 hx
  subst hps
  obtain ⟨e, s1, h1, h2⟩ := h x y hy
  refine calls_of_wp hf hb (h2 F G _ w _ (Qc hH) fun G1 a1 w1 ex k0 k1 k2 k3 => ?_)
  have fin : ∀ (hfin : finish C fn.results kout s1 = some y), ∃ v, (results fn a1.tmps).run C.P w1 = .ok v w1 ∧ ∃ G' rv, Ending.returned v = .returned (retV rv) ∧ Holds F (enc kout (szS kout) (toPL kout.tys y)) G' rv w1 ∧
    Step kin.boxes.length kin.owns.length (enc kin (szS kin) (toPL kin.tys x)) G w (enc kout (szS kout) (toPL kout.tys y)) G' w1 := fun hfin => by
   obtain ⟨rv, G', r1, r2, r3⟩ := K8 hnB hnO k1 k2 hfin
   exact ⟨_, r1, G', rv, rfl, r2, r3⟩
  cases e with
  | normal => cases k0; exact ⟨k3, fin h1⟩
  | ret => cases k0; exact ⟨k3, fin h1⟩
  | exit i => cases h1
  | pan t ps g => cases h1
 ·cases hrun'
abbrev SF := (R : Type) → St → (XE → St → Option R) → Option R
def Snd (C : Cfg) (c : Code) (f : SF) : Prop := ∀ (R : Type) (s : St) (K : XE → St → Option R) (r : R), f R s K = some r → ∃ e s', K e s' = some r ∧ Eu C c s e s'
def evF (C : Cfg) (k : Nat) (c : Code) : SF := fun R s K => ev C k c s K
def seqF (C : Cfg) (b : Code) (f g : SF) : SF := fun R s K => f R s (seqK C b (g R) K)
def blkF (id : Nat) (f : SF) : SF := fun R s K => f R s (blkK id K)
def loopF (C : Cfg) (b : Code) (f : SF) (n : Nat) : SF := fun R s K => norm C b s (Bf (Bh C b (f R) K) n)
def Aop (kI kO : Sk) (n : Nat) (f : HLs kI.tys → Option (HLs kO.tys)) : SF := fun R s K => (dec kI s).bind fun ps => (ofPL kI.tys ps).bind fun x => (f x).bind fun y => K .normal (stOf kO n y)
def fnF (C : Cfg) (fn : Func) (kin kout : Sk) (f : SF) (x : HLs kin.tys) : Option (HLs kout.tys) := f _ (st0 C fn kin x) (retK C fn.results kout)
section
variable {C : Cfg} {a b c : Code} {f g : SF}
theorem A80 (hE : Bp C) (hD : Ed C) (hnb : C.npB ≤ N0) (hno : C.npO ≤ N0) (k : Nat) (c : Code) : Snd C c (evF C k c) := fun R s K r h => Df hE hD hnb hno k c s K r h
theorem B0 (ha : Snd C a f) (hb : Snd C b g) : Snd C (.seq a b) (seqF C b f g) := by
 intro R s K r h
 obtain ⟨e1, s1, h1, h2⟩ := ha R s _ r h
 cases e1 with
 | normal =>
  simp only [seqK] at h1
  obtain ⟨s2, h3, h4⟩ := E9 h1
  obtain ⟨e, s', h5, h6⟩ := hb R s2 _ r h3
  refine ⟨e, s', h5, fun F G a w Q hH hQ => wp_seq (h2 F G a w _ hH fun G1 a1 w1 x k0 k1 k2 k3 => ?_)⟩
  cases k0
  obtain ⟨G2, k4, k5⟩ := h4 F G1 _ w1 k1
  exact h6 F G2 a1 w1 Q k4 fun G3 a3 w3 x m0 m1 m2 m3 => hQ G3 a3 w3 x m0 m1 ((k2.trans k5).trans m2) (m3.trans k3)
 | exit id => exact ⟨.exit id, s1, h1, fun F G a w Q hH hQ => wp_seq (h2 F G a w _ hH fun G1 a1 w1 x k0 k1 k2 k3 => by cases k0; exact hQ G1 a1 w1 _ rfl k1 k2 k3)⟩
 | ret => exact ⟨.ret, s1, h1, fun F G a w Q hH hQ => wp_seq (h2 F G a w _ hH fun G1 a1 w1 x k0 k1 k2 k3 => by cases k0; exact hQ G1 a1 w1 _ rfl k1 k2 k3)⟩
 | pan t ps g => exact ⟨.pan t ps g, s1, h1, fun F G a w Q hH hQ => wp_seq (h2 F G a w _ hH fun G1 a1 w1 x k0 k1 k2 k3 => by obtain ⟨v, hv, rfl⟩ := k0; exact hQ G1 a1 w1 _ ⟨v, hv, rfl⟩ k1 k2 k3)⟩
theorem Aqz {id : Nat} (ha : Snd C b f) : Snd C (.block id b) (blkF id f) := by
 intro R s K r h
 obtain ⟨e1, s1, h1, h2⟩ := ha R s _ r h
 cases e1 with
 | normal => exact ⟨.normal, s1, h1, fun F G a w Q hH hQ => wp_block (h2 F G a w _ hH fun G1 a1 w1 x k0 k1 k2 k3 => by cases k0; exact hQ G1 a1 w1 _ rfl k1 k2 k3)⟩
 | exit i =>
  simp only [blkK] at h1
  split at h1
  ·rename_i e
   exact ⟨.normal, s1, h1, fun F G a w Q hH hQ => wp_block (h2 F G a w _ hH fun G1 a1 w1 x k0 k1 k2 k3 => by
    cases k0
    simp only [Exit.inBlock, e, if_true]
    exact hQ G1 a1 w1 _ rfl k1 k2 k3)⟩
  ·rename_i e
   exact ⟨.exit i, s1, h1, fun F G a w Q hH hQ => wp_block (h2 F G a w _ hH fun G1 a1 w1 x k0 k1 k2 k3 => by
    cases k0
    simp only [Exit.inBlock, e, if_false]
    exact hQ G1 a1 w1 _ rfl k1 k2 k3)⟩
 | ret => exact ⟨.ret, s1, h1, fun F G a w Q hH hQ => wp_block (h2 F G a w _ hH fun G1 a1 w1 x k0 k1 k2 k3 => by cases k0; exact hQ G1 a1 w1 _ rfl k1 k2 k3)⟩
 | pan t ps g => exact ⟨.pan t ps g, s1, h1, fun F G a w Q hH hQ => wp_block (h2 F G a w _ hH fun G1 a1 w1 x k0 k1 k2 k3 => by obtain ⟨v, hv, rfl⟩ := k0; exact hQ G1 a1 w1 _ ⟨v, hv, rfl⟩ k1 k2 k3)⟩
theorem A4p {R : Type} {K : XE → St → Option R} (hb : Snd C b f) :
  ∀ (n : Nat) (s : St) (r : R), Bf (Bh C b (f R) K) n s = some r → ∃ e s', K e s' = some r ∧ e ≠ .normal ∧ ∀ (F : Nat → Prop) (G : Gm) (a : Act) (w : World) (Q : Exit → Act → World → Prop), Holds F s G a.tmps.toList w →
   (∀ G' a' w' x, ExR e x → Holds F s' G' a'.tmps.toList w' → Step C.npB C.npO s G w s' G' w' → a'.defers = a.defers → Q x a' w') → Code.rounds C.P b Q n a w
 | 0, s, r, h => by cases h
 | n + 1, s, r, h => by
  simp only [Bf, Bh] at h
  obtain ⟨e1, s1, h1, h2⟩ := hb R s _ r h
  have pass : e1 ≠ .normal → K e1 s1 = some r → ∃ e s', K e s' = some r ∧ e ≠ .normal ∧ ∀ (F : Nat → Prop) (G : Gm) (a : Act) (w : World) (Q : Exit → Act → World → Prop), Holds F s G a.tmps.toList w →
   (∀ G' a' w' x, ExR e x → Holds F s' G' a'.tmps.toList w' → Step C.npB C.npO s G w s' G' w' → a'.defers = a.defers → Q x a' w') → Code.rounds C.P b Q (n + 1) a w := by
   intro hne h1
   refine ⟨e1, s1, h1, hne, fun F G a w Q hH hQ => ?_⟩
   rw [rounds_succ]
   refine h2 F G a w _ hH fun G1 a1 w1 x k0 k1 k2 k3 => ?_
   have hQ1 := hQ G1 a1 w1 x k0 k1 k2 k3
   cases e1 with
   | normal => exact absurd rfl hne
   | exit id => cases k0; exact hQ1
   | ret => cases k0; exact hQ1
   | pan t ps g => obtain ⟨v, _, rfl⟩ := k0; exact hQ1
  cases e1 with
  | normal =>
   simp only [F3] at h1
   obtain ⟨s2, h3, h4⟩ := E9 h1
   obtain ⟨e, s', h5, h6, h7⟩ := A4p hb n s2 r h3
   refine ⟨e, s', h5, h6, fun F G a w Q hH hQ => ?_⟩
   rw [rounds_succ]
   refine h2 F G a w _ hH fun G1 a1 w1 x k0 k1 k2 k3 => ?_
   cases k0
   obtain ⟨G2, k4, k5⟩ := h4 F G1 _ w1 k1
   exact h7 F G2 a1 w1 Q k4 fun G3 a3 w3 x m0 m1 m2 m3 => hQ G3 a3 w3 x m0 m1 ((k2.trans k5).trans m2) (m3.trans k3)
  | exit id => exact pass (by simp) h1
  | ret => exact pass (by simp) h1
  | pan t ps g => exact pass (by simp) h1
theorem A81 (n : Nat) (hb : Snd C b f) : Snd C (.loop b) (loopF C b f n) := by
 intro R s K r h
 obtain ⟨s1, h1, h2⟩ := E9 h
 obtain ⟨e, s', h3, h4, h5⟩ := A4p hb n s1 r h1
 refine ⟨e, s', h3, fun F G a w Q hH hQ => wp_loop_rounds n ?_⟩
 obtain ⟨G1, k1, k2⟩ := h2 F G _ w hH
 exact h5 F G1 a w Q k1 fun G2 a2 w2 x m0 m1 m2 m3 => hQ G2 a2 w2 x m0 m1 (k2.trans m2) m3
theorem Bh8 {s s' : St} (h2 : ∀ b, Ae s' b = Ae s b) (h3 : ∀ l, Aa s' l = Aa s l) (G : Gm) : Live s' G = Live s G := by
 funext k; simp only [Live, h2, h3]
theorem A82 {kI kO : Sk} {n : Nat} {f : HLs kI.tys → Option (HLs kO.tys)} (h : ∀ x y, f x = some y → Eu C c (stOf kI n x) .normal (stOf kO n y)) : Snd C c (Aop kI kO n f) := by
 intro R s K r hr
 obtain ⟨ps, h1, hr1⟩ := Option.bind_eq_some_iff.1 hr
 obtain ⟨x, h2, hr2⟩ := Option.bind_eq_some_iff.1 hr1
 obtain ⟨y, h3, hr3⟩ := Option.bind_eq_some_iff.1 hr2
 clear hr hr1 hr2
 have hps := F6 h2
 subst hps
 obtain ⟨e1, e2, e3⟩ := Mn h1 n
 refine ⟨_, _, hr3, fun F G a w Q hH hQ => h x y h3 F G a w Q (hH.ext e1 e2 e3) fun G' a' w' z k0 k1 k2 k3 => hQ G' a' w' z k0 k1 ?_ k3⟩
 have hL := Bh8 (s := s) (s' := stOf kI n x) e2 e3 G
 refine ⟨by rw [← hL]; exact k2.keeps, fun k hk => by rw [← hL]; exact k2.fresh k hk, k2.gb, fun l hl o ho => ?_, k2.fx⟩
 obtain ⟨⟨o', ho'⟩, e⟩ := k2.go l hl o ho
 exact ⟨⟨o', (e3 l).symm.trans ho'⟩, e⟩
end
def L.noR : L → Bool
 | .rro _ _ _ => false
 | .rrp _ => false
 | _ => true
def Hi (R i n N : Nat) : L → L
 | .own l => if l = R then .rro i n N else .own l
 | .ept l j o z => if l = R then .dead else .ept l j o z
 | .rro j m l => if l = R then .dead else .rro j m l
 | .rrp l => if l = R then .dead else .rrp l
 | l => l
def C6 (s : St) (R i n N : Nat) : St := Al (s.map (Hi R i n N)) R none
section
variable {F : Nat → Prop} {s : St} {G : Gm} {w w' : World} {vals : List Value}
theorem HL.fxAny {ok : Nat → Prop} {os : List (Option Own)} {fx : List (Nat × Array Value)} {l : L} {v : Value} (hn : l.noR = true) (h : HL G w ok os l v) : HL { G with fx := fx } w ok os l v := by
 cases l with
 | rro i n l => cases hn
 | rrp l => cases hn
 | _ => exact h
theorem Bh7 (h : Holds F s G vals w) (hnr : s.all L.noR = true) {R N i e eN : Nat} {t : Ty} {xs : List (Ty.slice t).den} {ys : List t.den}
  (hR : Aa s R = some ⟨e, .slice t, xs⟩) (hN : Aa s N = some ⟨eN, t, ys⟩) (hne : N ≠ R) (hi : i < List.length xs) {v : Value} (hv : OwV (G.ow N) v) (hv1 : v.oneCell' = true) :
  ∃ g cap cur, G.ow R = .slice (some ⟨g, 0, none⟩) (List.length xs) cap ∧ List.length xs ≤ cap ∧ cap ≤ maxLen ∧ cur.size = cap ∧ w.heap[g]? = some (.cells cur e (0, 0)) ∧ RepRow w (okS F s G w) (.slice t) xs (cur.toList.take (List.length xs)) ∧ Live s G g ∧
   (∀ k, Live (C6 s R i (List.length xs) N) { G with fx := [(g, cur.setIfInBounds i v)] } k → Live s G k ∧ k ≠ g) ∧
   (∀ k, okS F s G w k → okS (fun k => F k ∨ k = g) (C6 s R i (List.length xs) N) { G with fx := [(g, cur.setIfInBounds i v)] } (w.setRow g (cur.setIfInBounds i v)) k ∧ (w.setRow g (cur.setIfInBounds i v)).heap[k]? = w.heap[k]?) ∧
   Holds (fun k => F k ∨ k = g) (C6 s R i (List.length xs) N) { G with fx := [(g, cur.setIfInBounds i v)] } vals (w.setRow g (cur.setIfInBounds i v)) := by
 obtain ⟨h0, cs, hr, hrr⟩ := h.own R _ hR
 rcases hr.2 with ⟨_, e0⟩ | ⟨g, cap, cur, hG, _, hh, hnc, hm, hcur, htk⟩
 ·exact absurd e0 (by show ¬ List.length xs = 0; omega)
 have hcur' : cur.size = cap := by rw [hcur]; show cap * 1 = cap; omega
 have htk' : cur.toList.take (List.length xs) = cs := by
  rw [← htk]
  show _ = List.take (List.length xs * 1) _
  rw [Nat.mul_one]
 have hnc' : List.length xs ≤ cap := hnc
 have hgl : Live s G g := .inr ⟨R, _, hR, by rw [hG]; rfl⟩
 refine ⟨g, cap, cur, hG, hnc', hm, hcur', hh, by rw [htk']; exact hrr, hgl, ?_⟩
 generalize hcur2 : cur.setIfInBounds i v = cur2
 have hs2 : cur2.size = cap := by rw [← hcur2, Array.size_setIfInBounds]; exact hcur'
 have hc2 : cur2[i]? = some v := by
  rw [← hcur2, Array.getElem?_setIfInBounds_self_of_lt (by omega)]
 generalize hw : w.setRow g cur2 = w2
 have hsz : w2.heap.size = w.heap.size := by rw [← hw]; simp
 have hoth : ∀ j, j ≠ g → w2.heap[j]? = w.heap[j]? := fun j hj => by rw [← hw]; exact setRow_other w _ _ _ hj
 have hself : w2.heap[g]? = some (.cells cur2 e (0, 0)) := by rw [← hw]; exact setRow_heap w _ cur _ e _ hh
 have hbx : ∀ {b ls}, Ae (C6 s R i (List.length xs) N) b = some ls → ∃ q, Ae s b = some q ∧ ls = q.map (Hi R i (List.length xs) N) := by
  intro b ls hb
  exact Aob (f := Hi R i (List.length xs) N) hb
 have how : ∀ {l o}, Aa (C6 s R i (List.length xs) N) l = some o → l ≠ R ∧ Aa s l = some o := by
  intro l o ho
  unfold C6 at ho
  by_cases e1 : l = R
  ·subst e1
   simp only [Aa, Al, St.map] at ho
   rw [List.getElem?_set] at ho
   split at ho
   ·split at ho <;> simp at ho
   ·rename_i h5; exact absurd rfl h5
  ·rw [Pn e1] at ho
   exact ⟨e1, ho⟩
 have hRb : (G.ow R).ownBlock = some g := by rw [hG]; rfl
 have hlive : ∀ k, Live (C6 s R i (List.length xs) N) { G with fx := [(g, cur2)] } k → Live s G k ∧ k ≠ g := by
  rintro k (⟨b, ls, hb, rfl⟩ | ⟨l, o, ho, hk⟩)
  ·obtain ⟨q, hq, _⟩ := hbx hb
   exact ⟨.inl ⟨b, q, hq, rfl⟩, fun e1 => h.bo b q R _ hq hR (by rw [hRb]; exact congrArg some e1.symm)⟩
  ·obtain ⟨h1, h2⟩ := how ho
   exact ⟨.inr ⟨l, o, h2, hk⟩, fun e1 => h1 (h.oo l R o _ g h2 hR (by rw [← e1]; exact hk) hRb)⟩
 have hok : ∀ k, okS F s G w k → okS (fun k => F k ∨ k = g) (C6 s R i (List.length xs) N) { G with fx := [(g, cur2)] } w2 k ∧ w2.heap[k]? = w.heap[k]? := by
  intro k hk
  have hkg : k ≠ g := fun e1 => hk.2.2 (by rw [e1]; exact hgl)
  exact ⟨⟨by rw [hsz]; exact hk.1, fun e1 => e1.elim hk.2.1 hkg, fun hL => hk.2.2 (hlive k hL).1⟩, hoth k hkg⟩
 have htr : ∀ l u, l.noR = true → HR F s G w l u → HR (fun k => F k ∨ k = g) (C6 s R i (List.length xs) N) { G with fx := [(g, cur2)] } w2 (Hi R i (List.length xs) N l) u := by
  intro l u hn hl
  have gen : l.noO R = true → HR (fun k => F k ∨ k = g) (C6 s R i (List.length xs) N) { G with fx := [(g, cur2)] } w2 l u := fun hno =>
   HL.fxAny hn (HL.tr (G := G) hok (fun _ _ => ⟨rfl, rfl⟩) (fun _ _ => rfl) (fun q x' _ hx' => ⟨x', (how hx').2, Nat.le_refl _, rfl⟩) hl)
  unfold Hi
  split
  ·rename_i l'
   split
   ·rename_i e1
    subst e1
    have hu : u = G.ow l' := by
     rcases hl.1 with e2 | ⟨e2, _⟩
     ·exact e2
     ·rw [hG] at e2; cases e2
    exact ⟨g, cur2, cap, v, List.mem_singleton.2 rfl, hu.trans hG, hi, hs2, hc2, hv, hv1⟩
   ·rename_i e1
    exact gen (by simpa [L.noO] using e1)
  ·rename_i l' j o z
   split
   ·exact hl.one
   ·rename_i e1
    exact gen (by simpa [L.noO] using e1)
  ·cases hn
  ·cases hn
  ·rename_i h1 h2 h3 h4
   refine gen ?_
   cases l <;> first | rfl | exact absurd rfl (h1 _) | exact absurd rfl (h2 _ _ _ _) | exact absurd rfl (h3 _ _ _) | exact absurd rfl (h4 _)
 simp only [St.all, Bool.and_eq_true, List.all_eq_true] at hnr
 have hav : ∀ (a : AV) (u : Value), a.all L.noR = true → HA (HR F s G w) a u → HA (HR (fun k => F k ∨ k = g) (C6 s R i (List.length xs) N) { G with fx := [(g, cur2)] } w2) (a.map (Hi R i (List.length xs) N)) u := by
  intro a u ha hu
  have hcv : ∀ (c : CV) (u : Value), c.leaves.all L.noR = true → HC (HR F s G w) c u → HC (HR (fun k => F k ∨ k = g) (C6 s R i (List.length xs) N) { G with fx := [(g, cur2)] } w2) (c.map (Hi R i (List.length xs) N)) u := by
   intro c u hc hu
   cases c with
   | lf l => exact htr _ _ (by simpa [CV.leaves] using hc) hu
   | agg ls =>
    obtain ⟨cs, rfl, h5⟩ := hu
    exact ⟨cs, rfl, All2.map_left (h5.imp_mem fun l v hl hr => htr l v (List.all_eq_true.1 hc l hl) hr)⟩
  cases a with
  | dead => trivial
  | cv c => exact hcv c u ha hu
  | tup cs =>
   obtain ⟨vs, rfl, h5⟩ := hu
   exact ⟨vs, rfl, All2.map_left (h5.imp_mem fun c v hc hr => hcv c v (List.all_eq_true.1 ha c hc) hr)⟩
 refine ⟨hlive, hok, ?_⟩
 refine ⟨?_, ?_, ?_, ?_, ?_, ?_, ?_, ?_, ?_, ?_⟩
 ·exact All2.map_left (h.slots.imp_mem fun a u ha hu => hav a u (hnr.1 a ha) hu)
 ·intro b ls hb
  obtain ⟨q, hq, rfl⟩ := hbx hb
  obtain ⟨cs2, et, k1, k2⟩ := h.box b q hq
  have hne2 : G.bx b ≠ g := fun e1 => h.bo b q R _ hq hR (by rw [hRb]; exact congrArg some e1.symm)
  refine ⟨cs2, et, by rw [hoth _ hne2]; exact k1, All2.map_left (k2.imp_mem fun l v hl hr => htr l v ?_ hr)⟩
  have hb2 : s.boxes[b]? = some (some q) := by
   unfold Ae at hq
   cases he : s.boxes[b]? with
   | none => simp [he] at hq
   | some y => simp [he] at hq; rw [hq]
  exact List.all_eq_true.1 (hnr.2 _ (List.mem_of_getElem? hb2)) l hl
 ·intro l o ho
  obtain ⟨h1, h2⟩ := how ho
  obtain ⟨k0, cs2, k1, k2⟩ := h.own l o h2
  refine ⟨k0, cs2, Fb k1 (fun k hk => hoth k fun e1 => h1 (h.oo l R o _ g h2 hR (by rw [← e1]; exact hk) hRb)), k2.mono hok⟩
 ·intro b b' ls ls' hb hb' e1
  obtain ⟨q, hq, _⟩ := hbx hb
  obtain ⟨q', hq', _⟩ := hbx hb'
  exact h.bb b b' q q' hq hq' e1
 ·intro b ls l o hb ho
  obtain ⟨q, hq, _⟩ := hbx hb
  exact h.bo b q l o hq (how ho).2
 ·intro l l' o o' k ho ho' hk hk'
  exact h.oo l l' o o' k (how ho).2 (how ho').2 hk hk'
 ·intro k hL hF
  obtain ⟨h1, h2⟩ := hlive k hL
  exact hF.elim (h.nF k h1) h2
 ·intro k hF
  rw [hsz]
  rcases hF with hF | rfl
  ·exact h.Flt k hF
  ·exact h.lt hgl
 ·intro b ls hb cs2 et fr hc
  obtain ⟨q, hq, _⟩ := hbx hb
  have hne2 : G.bx b ≠ g := fun e1 => h.bo b q R _ hq hR (by rw [hRb]; exact congrArg some e1.symm)
  have hc' : w2.heap[G.bx b]? = some (.cells cs2 et fr) := hc
  rw [hoth _ hne2] at hc'
  exact h.ty b q hq cs2 et fr hc'
 ·intro x hx
  rcases List.mem_append.1 hx with hx | hx
  ·obtain ⟨k1, et, fr, k2⟩ := h.gl x (List.mem_append_left _ hx)
   refine ⟨fun hL => k1 (hlive _ hL).1, et, fr, ?_⟩
   rw [hoth _ fun e1 => k1 (by rw [e1]; exact hgl)]
   exact k2
  ·rw [List.mem_singleton.1 hx]
   exact ⟨fun hL => (hlive _ hL).2 rfl, e, (0, 0), hself⟩
theorem step_ok {nb no : Nat} {s' : St} {G' : Gm} (h : Step nb no s G w s' G' w') {k : Nat} (hk : okS F s G w k) : okS F s' G' w' k ∧ w'.heap[k]? = w.heap[k]? :=
 ⟨⟨Nat.lt_of_lt_of_le hk.1 h.keeps.size, hk.2.1, fun hL => (h.fresh k hL).elim hk.2.2 fun h2 => absurd hk.1 (by omega)⟩, h.keeps.block k hk.1 hk.2.2⟩
theorem Aom {C : Cfg} {f : St → Option Nat → Op → Oc St} (hE : FOK C f) (all : Array Oper) (Q : Exit → Act → World → Prop) {rest : List Oper} {s' : St} : ∀ (l : List Oper) {s : St} {G : Gm} {a : Act} {w : World}, Holds F s G a.tmps.toList w → l.foldl (fun x o => x.bind fun s => (Am f all s o).val) (some s) = some s' →
  (∀ G' a' w', Holds F s' G' a'.tmps.toList w' → Step N0 N0 s G w s' G' w' → a'.defers = a.defers → wpList C.P all Q rest a' w') → wpList C.P all Q (l ++ rest) a w
 | [], s, G, a, w, h, hf, hQ => by
  cases hf
  exact hQ G a w h (Step.refl _ _ _ _ _) rfl
 | o :: l, s, G, a, w, h, hf, hQ => by
  simp only [List.foldl_cons, Option.bind_some] at hf
  cases h1 : (Am f all s o).val with
  | none => rw [h1, Sp] at hf; cases hf
  | some s1 =>
   rw [h1] at hf
   refine wpList_step fun K hK => Aok hE h h1 K Q fun G' a' w' k1 k2 k3 => hK _ _ ?_
   exact Aom hE all Q l k1 hf fun G2 a2 w2 m1 m2 m3 => hQ G2 a2 w2 m1 (k2.trans m2) (m3.trans k3)
theorem Pa {α : Type} (l : List α) (i : Nat) (a : α) : (List.set l i a).length = l.length := by simp
theorem Bho {α : Type} (l : List α) (a : α) {i : Nat} (h : i < l.length) : (List.set l i a)[i]? = some a := by simp [h]
theorem Bhn {α : Type} (l : List α) (a : α) {i j : Nat} (h : j ≠ i) : (List.set l i a)[j]? = l[j]? := by rw [List.getElem?_set_ne (fun e => h e.symm)]
theorem A52 {ok : Nat → Prop} {t : Ty} (hf : ∀ x, flat t x = [⟨t, x⟩]) : ∀ {zs : List t.den} {cs : List Value}, zs.length = cs.length → (∀ (j : Nat) (x : t.den) (v : Value), zs[j]? = some x → cs[j]? = some v → RepL w ok ⟨t, x⟩ v) → RepRow w ok t zs cs
 | [], [], _, _ => .nil
 | [], _ :: _, h, _ => by simp at h
 | _ :: _, [], h, _ => by simp at h
 | z :: zs, c :: cs, hl, h => by
  unfold RepRow
  rw [List.flatMap_cons, hf]
  exact .cons (h 0 z c rfl rfl) (A52 hf (by simpa using hl) fun j x v h1 h2 => h (j + 1) x v (by simpa using h1) (by simpa using h2))
theorem Bj4 {g : Nat} {cs : Array Value} (h : Holds (fun k => F k ∨ k = g) s G vals w) (hgF : ¬ F g) {N R i e eN cap : Nat} {t : Ty} {ys : List t.den} {xs : List (Ty.slice t).den} (hN : Aa s N = some ⟨eN, t, ys⟩) (hRl : R < s.owns.length)
  (hR : Aa s R = none) (hRn : (frz s N).all (L.noO R) = true) (hnr : (frz s N).all L.noR = true) (hh : w.heap[g]? = some (.cells cs e (0, 0))) (hcap : cs.size = cap) (hle : List.length xs ≤ cap) (hm : cap ≤ maxLen) (hi : i < List.length xs)
  {u : Value} (hu : cs[i]? = some u) (huN : OwV (G.ow N) u) (hrow : ∀ (j : Nat) (x : List t.den) (v : Value), j ≠ i → xs[j]? = some x → cs[j]? = some v → RepL w (okS (fun k => F k ∨ k = g) s G w) ⟨.slice t, x⟩ v)
  {fx : List (Nat × Array Value)} (hgt : ∀ x ∈ gTab, x.1 ≠ g) (hfx : ∀ x ∈ fx, ¬ Live s G x.1 ∧ x.1 ≠ g ∧ ∃ et fr, w.heap[x.1]? = some (.cells x.2 et fr)) :
  Holds F (Al (frz s N) R (some ⟨e, .slice t, List.set xs i ys⟩)) { G with ow := fun l => if l = R then .slice (some ⟨g, 0, none⟩) (List.length xs) cap else G.ow l, fx := fx } vals w := by
 have h1 := Jz h N
 generalize hG2 : ({ G with ow := fun l => if l = R then .slice (some ⟨g, 0, none⟩) (List.length xs) cap else G.ow l, fx := fx } : Gm) = G2
 have gow : G2.ow R = .slice (some ⟨g, 0, none⟩) (List.length xs) cap := by rw [← hG2]; simp
 have gow' : ∀ l, l ≠ R → G2.ow l = G.ow l := fun l hl => by rw [← hG2]; simp [hl]
 have gbx : ∀ b, G2.bx b = G.bx b := fun b => by rw [← hG2]
 have get' : ∀ b, G2.et b = G.et b := fun b => by rw [← hG2]
 have gfx : G2.fx = fx := by rw [← hG2]
 have hNR : N ≠ R := fun e1 => by rw [e1, hR] at hN; cases hN
 have hR1 : Aa (frz s N) R = none := by rw [El, if_neg hNR.symm]; exact hR
 have hlen : R < (frz s N).owns.length := by rw [Fw hN]; simpa [Al, St.map] using hRl
 have how : ∀ {l o}, Aa (Al (frz s N) R (some ⟨e, .slice t, List.set xs i ys⟩)) l = some o → (l = R ∧ o = ⟨e, .slice t, List.set xs i ys⟩) ∨ (l ≠ R ∧ Aa (frz s N) l = some o) := by
  intro l o ho
  by_cases e1 : l = R
  ·subst e1
   simp only [Aa, Al] at ho
   rw [List.getElem?_set_self hlen] at ho
   exact .inl ⟨rfl, by simpa using ho.symm⟩
  ·rw [Pn e1] at ho
   exact .inr ⟨e1, ho⟩
 have hlive : ∀ k, Live (Al (frz s N) R (some ⟨e, .slice t, List.set xs i ys⟩)) G2 k → (Live (frz s N) G k ∧ k ≠ g) ∨ k = g := by
  rintro k (⟨b, ls, hb, rfl⟩ | ⟨l, o, ho, hk⟩)
  ·have hL : Live (frz s N) G (G.bx b) := .inl ⟨b, ls, hb, rfl⟩
   rw [gbx]
   exact .inl ⟨hL, fun e1 => h1.nF _ hL (.inr e1)⟩
  ·rcases how ho with ⟨rfl, rfl⟩ | ⟨h2, h3⟩
   ·rw [gow] at hk
    cases hk
    exact .inr rfl
   ·rw [gow' l h2] at hk
    have hL : Live (frz s N) G k := .inr ⟨l, o, h3, hk⟩
    exact .inl ⟨hL, fun e1 => h1.nF _ hL (.inr e1)⟩
 have hok : ∀ k, okS (fun k => F k ∨ k = g) (frz s N) G w k → okS F (Al (frz s N) R (some ⟨e, .slice t, List.set xs i ys⟩)) G2 w k ∧ w.heap[k]? = w.heap[k]? := by
  intro k hk
  refine ⟨⟨hk.1, fun e1 => hk.2.1 (.inl e1), fun hL => ?_⟩, rfl⟩
  rcases hlive k hL with ⟨h2, _⟩ | h2
  ·exact hk.2.2 h2
  ·exact hk.2.1 (.inr h2)
 have htr : ∀ l v, l.noR = true → l.noO R = true → HR (fun k => F k ∨ k = g) (frz s N) G w l v → HR F (Al (frz s N) R (some ⟨e, .slice t, List.set xs i ys⟩)) G2 w l v := by
  intro l v hn hno hl
  have h5 : HL { G2 with fx := G.fx } w (okS F (Al (frz s N) R (some ⟨e, .slice t, List.set xs i ys⟩)) G2 w) (Al (frz s N) R (some ⟨e, .slice t, List.set xs i ys⟩)).owns l v :=
   HL.tr (G := G) (G' := { G2 with fx := G.fx }) hok (fun b _ => ⟨gbx b, get' b⟩) (fun q hq => gow' q fun e1 => by rw [e1, hno] at hq; cases hq) (fun q x' hq hx' => by
    have hx2 : Aa (Al (frz s N) R (some ⟨e, .slice t, List.set xs i ys⟩)) q = some x' := hx'
    rcases how hx2 with ⟨rfl, _⟩ | ⟨_, h3⟩
    ·rw [hno] at hq; cases hq
    ·exact ⟨x', h3, Nat.le_refl _, rfl⟩) hl rfl
  have := HL.fxAny (fx := G2.fx) hn h5
  exact this
 have hnr' := hnr
 have hRn' := hRn
 simp only [St.all, Bool.and_eq_true, List.all_eq_true] at hnr' hRn'
 have hav : ∀ (a : AV) (u : Value), a.all L.noR = true → a.all (L.noO R) = true → HA (HR (fun k => F k ∨ k = g) (frz s N) G w) a u → HA (HR F (Al (frz s N) R (some ⟨e, .slice t, List.set xs i ys⟩)) G2 w) a u := by
  intro a u ha ha2 hu
  have hcv : ∀ (c : CV) (u : Value), c.leaves.all L.noR = true → c.leaves.all (L.noO R) = true → HC (HR (fun k => F k ∨ k = g) (frz s N) G w) c u → HC (HR F (Al (frz s N) R (some ⟨e, .slice t, List.set xs i ys⟩)) G2 w) c u := by
   intro c u hc hc2 hu
   cases c with
   | lf l => exact htr _ _ (by simpa [CV.leaves] using hc) (by simpa [CV.leaves] using hc2) hu
   | agg ls =>
    obtain ⟨cs, rfl, h5⟩ := hu
    exact ⟨cs, rfl, h5.imp_mem fun l v hl hr => htr l v (List.all_eq_true.1 hc l hl) (List.all_eq_true.1 hc2 l hl) hr⟩
  cases a with
  | dead => trivial
  | cv c => exact hcv c u ha ha2 hu
  | tup cs =>
   obtain ⟨vs, rfl, h5⟩ := hu
   exact ⟨vs, rfl, h5.imp_mem fun c v hc hr => hcv c v (List.all_eq_true.1 ha c hc) (List.all_eq_true.1 ha2 c hc) hr⟩
 have hct : (cs.toList.take (List.length xs)).length = List.length xs := List.length_take.trans (Nat.min_eq_left (by have : cs.toList.length = cs.size := Array.length_toList; omega))
 have hRow : RepRow w (okS F (Al (frz s N) R (some ⟨e, .slice t, List.set xs i ys⟩)) G2 w) (.slice t) (List.set xs i ys) (cs.toList.take (List.length xs)) := by
  refine A52 (fun x => rfl) ((Pa xs i ys).trans hct.symm) fun j z v hz hv => ?_
  rw [List.getElem?_take] at hv
  split at hv
  rotate_left
  ·cases hv
  have hv' : cs[j]? = some v := by simpa using hv
  by_cases ej : j = i
  ·subst ej
   have hz2 := (Bho xs ys hi).symm.trans hz
   cases hz2
   rw [hu] at hv'
   cases hv'
   have h6 := Hn h hN huN
   exact Rep.mono (fun k hk => by
    rcases hk with hk | hk
    ·exact hok k (N3 h hN (.inl hk))
    ·exact hok k (N3 h hN (.inr hk))) h6
  ·have hz2 := (Bhn xs ys ej).symm.trans hz
   exact (hrow j z v ej hz2 hv').mono fun k hk => hok k (N3 h hN (.inl hk))
 refine ⟨?_, ?_, ?_, ?_, ?_, ?_, ?_, ?_, ?_, ?_⟩
 ·exact h1.slots.imp_mem fun a u ha hu => hav a u (hnr'.1 a ha) (hRn'.1 a ha) hu
 ·intro b ls hb
  have hb' : Ae (frz s N) b = some ls := hb
  obtain ⟨cs2, et, k1, k2⟩ := h1.box b ls hb'
  have hb2 : (frz s N).boxes[b]? = some (some ls) := by
   unfold Ae at hb'
   cases he : (frz s N).boxes[b]? with
   | none => simp [he] at hb'
   | some y => simp [he] at hb'; rw [hb']
  exact ⟨cs2, et, by rw [gbx]; exact k1, k2.imp_mem fun l v hl hr => htr l v (List.all_eq_true.1 (hnr'.2 _ (List.mem_of_getElem? hb2)) l hl) (List.all_eq_true.1 (hRn'.2 _ (List.mem_of_getElem? hb2)) l hl) hr⟩
 ·intro l o ho
  rcases how ho with ⟨rfl, rfl⟩ | ⟨h2, h3⟩
  ·refine ⟨Nat.one_pos, cs.toList.take (List.length xs), ⟨?_, .inr ⟨g, cap, cs, ?_, Nat.zero_le _, hh, ?_, hm, ?_, ?_⟩⟩, hRow⟩
   ·have e1 : (cs.toList.take (List.length xs)).length = List.length xs * 1 := hct.trans (Nat.mul_one _).symm
    exact e1.trans (congrArg (· * 1) (Pa xs i ys).symm)
   ·exact gow.trans (congrArg (fun n => Value.slice (some ⟨g, 0, none⟩) n cap) (Pa xs i ys).symm)
   ·exact Nat.le_trans (Nat.le_of_eq (Pa xs i ys)) hle
   ·show cs.size = cap * 1
    omega
   ·exact congrArg (fun n => cs.toList.take n) ((congrArg (· * 1) (Pa xs i ys)).trans (Nat.mul_one _))
  ·obtain ⟨k0, cs2, k1, k2⟩ := h1.own l o h3
   exact ⟨k0, cs2, by rw [gow' l h2]; exact k1, k2.mono hok⟩
 ·intro b b' ls ls' hb hb' e1
  rw [gbx, gbx] at e1
  exact h1.bb b b' ls ls' hb hb' e1
 ·intro b ls l o hb ho
  have hL : Live (frz s N) G (G.bx b) := .inl ⟨b, ls, hb, rfl⟩
  rw [gbx]
  rcases how ho with ⟨rfl, rfl⟩ | ⟨h2, h3⟩
  ·rw [gow]
   intro e1
   exact h1.nF _ hL (.inr (Option.some.inj e1).symm)
  ·rw [gow' l h2]
   exact h1.bo b ls l o hb h3
 ·intro l l' o o' k ho ho' hk hk'
  have hx : ∀ {q o}, q ≠ R → Aa (frz s N) q = some o → (G2.ow q).ownBlock = some g → False := fun {q o} h2 h3 h4 => by
   rw [gow' q h2] at h4
   exact h1.nF g (.inr ⟨q, o, h3, h4⟩) (.inr rfl)
  rcases how ho with ⟨rfl, rfl⟩ | ⟨h2, h3⟩
  ·rw [gow] at hk
   cases hk
   rcases how ho' with ⟨rfl, rfl⟩ | ⟨h4, h5⟩
   ·rfl
   ·exact (hx h4 h5 hk').elim
  ·rcases how ho' with ⟨rfl, rfl⟩ | ⟨h4, h5⟩
   ·rw [gow] at hk'
    cases hk'
    exact (hx h2 h3 hk).elim
   ·rw [gow' l h2] at hk
    rw [gow' l' h4] at hk'
    exact h1.oo l l' o o' k h3 h5 hk hk'
 ·intro k hL hF
  rcases hlive k hL with ⟨h2, _⟩ | rfl
  ·exact h1.nF k h2 (.inl hF)
  ·exact hgF hF
 ·exact fun k hF => h1.Flt k (.inl hF)
 ·intro b ls hb cs2 et fr hc
  rw [gbx] at hc
  rw [get']
  exact h1.ty b ls hb cs2 et fr hc
 ·intro x hx
  rw [gfx] at hx
  rcases List.mem_append.1 hx with hx | hx
  ·obtain ⟨k1, k2⟩ := h1.gl x (List.mem_append_left _ hx)
   exact ⟨fun hL => (hlive _ hL).elim (fun h2 => k1 h2.1) (hgt x hx), k2⟩
  ·obtain ⟨k1, k2, k3⟩ := hfx x hx
   exact ⟨fun hL => (hlive _ hL).elim (fun h2 => k1 (E4 h h2.1).1) k2, k3⟩
end
set_option maxHeartbeats 1000000
set_option maxRecDepth 100000
theorem K6 {P : Program} {ops : Array Oper} {Q : Exit → Act → World → Prop} {a : Act} {w w1 : World} {rest : List Oper} {o : Oper} {v : Value} (hg : o.guard = none) (h : (execOp a.eval o).run P w = .ok (.value v) w1) (hr : wpList P ops Q rest (a.put o.dst v) w1) : wpList P ops Q (o :: rest) a w :=
 wpList_plain hg fun K hK => by unfold Oper.wp; rw [h]; exact hK _ _ hr
def clI (t : Ty) : Sk := ⟨[.lf (.pv (.slice t))], [], []⟩
def clO (e : Nat) (t : Ty) : Sk := ⟨[.lf (.own 0)], [], [some (e, t)]⟩
def clF (sz : Nat) (t : Ty) (x : List t.den) : Option (List t.den) := bif appB sz 0 (List.length x) then some x else none
def clS (n : Nat) (t : Ty) (x : List t.den) (b : Bool) : St := { enc (clI t) n (toPL (clI t).tys x) with slots := [lf (.pv ⟨.slice t, x⟩), .dead, lf (.cst .sl), lf (.pv ⟨.slice t, x⟩), lf (.pv ⟨.bool, b⟩), .dead, .dead, .dead] }
def clK (C : Cfg) (rs : Array ResultVar) (e : Nat) (t : Ty) (x : XE) (s : St) : Option (List t.den) := match x with
 | .ret => finish C rs (clO e t) s
 | _ => none
def clR0 (T : Nat) : Oper := { dst := some 2, op := .assign (.const (.slice none 0 0)), type := T, pos := "slices.go:355", after := #[], guard := none }
def clR1 (T : Nat) : Oper := { dst := some 3, op := .move (.tmp 0), type := T, pos := "slices.go:357", after := #[], guard := none }
def clR2 (T b : Nat) : Oper := { dst := some 4, op := .binOp .eql T (.tmp 3) (.const (.slice none 0 0)) T, type := b, pos := "slices.go:357", after := #[{ on := 0, ground := .data }], guard := none }
theorem De {C : Cfg} (hE : Bp C) (hD : Ed C) (hB0 : C.npB = 0) (hO0 : C.npO = 0) {f : Nat} {fn : Func} {T e bt sz : Nat} {t : Ty} {A B : Code}
  (hf : C.P.funcs[f]? = some fn) (hname : (fn.name == "runtime.NumGoroutine") = false)
  (hb : fn.body = some (.seq (.region 0 #[clR0 T] false) (.seq (.seq (.region 1 #[clR1 T, clR2 T bt] false) (.cond (.tmp 4) A .skip)) B))) (ht : fn.ntmps = 8) (hu : C.P.underlying T = some (.slice e))
  (hA : ∀ x, ev C 0 A (clS C.n t x true) (clK C fn.results e t) = some []) (hB : ∀ x, ev C 0 B (clS C.n t x false) (clK C fn.results e t) = clF sz t x) :
  Af C.P f ⟨clI t, clO e t, Ck (clI t).tys (clO e t).tys (clF sz t)⟩ := by
 refine ⟨⟨fn, hf, hname, by rw [hb]; rfl⟩, fun ps qs hrun => ?_⟩
 show Lj _ _ _ _ _ _
 intro F G vals w hH
 simp only [Ck] at hrun
 split at hrun
 rotate_left
 ·cases hrun
 rename_i x hx
 obtain ⟨y, hy, hq⟩ := Option.bind_eq_some_iff.1 hrun
 cases hq
 have hps := F6 hx
 subst hps
 have hst := Qc (C := C) (fn := fn) (kin := clI t) (x := x) hH
 have hsl : All2 (HA (HR F (enc (clI t) (szS (clI t)) (toPL (clI t).tys x)) G w)) [lf (.pv ⟨.slice t, x⟩)] vals := hH.slots
 cases hsl with
 | cons h0 hsl =>
 cases hsl
 rename_i v
 obtain ⟨ad, c, e1, hl1, hc1, hx1⟩ := pvSl (G := G) (os := []) h0
 have e2 : v = .slice ad (List.length x) c := List.singleton_inj.1 e1
 subst e2
 have hv0 : ∀ b, HA (HR F (clS C.n t x b) G w) (lf (.pv ⟨.slice t, x⟩)) (.slice ad (List.length x) c) := fun b => by
  have h3 := hst.slots
  rw [ht] at h3
  simp only [List.size_toArray, List.length_cons, List.length_nil] at h3
  have h4 : All2 (HA (HR F (clS C.n t x b) G w)) ([lf (.pv ⟨.slice t, x⟩)] ++ List.replicate (8 - 1) AV.dead) (.slice ad (List.length x) c :: List.replicate 7 undef) := h3
  cases h4 with
  | cons a _ => exact a
 have main : ∀ (b : Bool) (y : List t.den) (D : Code), ev C 0 D (clS C.n t x b) (clK C fn.results e t) = some y → ∀ (a : Act), a.tmps = #[.slice ad (List.length x) c, undef, .slice none 0 0, .slice ad (List.length x) c, .bool b, undef, undef, undef] → a.defers = [] →
   ∀ Q : Exit → Act → World → Prop, (∀ a' w', bodyPost C.P fn (fun e' w' => ∃ G' rv, e' = .returned (retV rv) ∧ Holds F (enc (clO e t) (szS (clO e t)) (toPL (clO e t).tys y)) G' rv w' ∧ Step 0 0 (enc (clI t) (szS (clI t)) (toPL (clI t).tys x)) G w (enc (clO e t) (szS (clO e t)) (toPL (clO e t).tys y)) G' w') .ret a' w' → Q .ret a' w') → D.wp C.P Q a w := by
  intro b y D hev a ha hd Q hQ
  obtain ⟨x1, s1, h1, h2⟩ := Df hE hD (by omega) (by omega) 0 D _ _ y hev
  have hHold : Holds F (clS C.n t x b) G a.tmps.toList w := by
   rw [ha]
   refine ⟨?_, hst.box, hst.own, hst.bb, hst.bo, hst.oo, hst.nF, hst.Flt, hst.ty, hst.gl⟩
   refine .cons (hv0 b) (.cons trivial (.cons ?_ (.cons (hv0 b) (.cons ?_ (.cons trivial (.cons trivial (.cons trivial .nil)))))))
   ·exact rfl
   ·exact rfl
  refine h2 F G a w _ hHold fun G1 a1 w1 ex k0 k1 k2 k3 => ?_
  cases x1 with
  | ret =>
   cases k0
   obtain ⟨rv, G', r1, r2, r3⟩ := K8 (fn := fn) (kin := clI t) (kout := clO e t) (x := x) hB0 hO0 k1 ⟨k2.keeps, k2.fresh, k2.gb, k2.go, k2.fx⟩ h1
   exact hQ _ _ ⟨k3.trans hd, _, r1, G', rv, rfl, r2, r3⟩
  | normal => cases h1
  | exit i => cases h1
  | pan t ps g => cases h1
 refine calls_of_wp hf hb ?_
 rw [ht]
 refine wp_seq (wp_region_list (K6 (v := .slice none 0 0) (w1 := w) rfl ?_ (wpList_nil ?_)))
 ·simp [execOp, clR0, Act.eval, go_sem]
 show Exit.then _ _ .normal _ _
 simp only [Exit.then]
 refine wp_seq (wp_seq (wp_region_list (K6 (v := .slice ad (List.length x) c) (w1 := w) rfl ?_ (K6 (v := .bool ad.isNone) (w1 := w) rfl ?_ (wpList_nil ?_)))))
 ·simp [execOp, clR1, clR0, Act.eval, Act.put, go_sem]
 ·have hq := Lib.run_eql_slice_nil (P := C.P) w T e ad (List.length x) c 0 0 hu
  simp [execOp, clR2, clR1, clR0, Act.eval, Act.put, hq, eqGuard]
 show Exit.then _ _ .normal _ _
 simp only [Exit.then]
 cases ad with
 | none =>
  have hx0 : x = [] := Classical.byContradiction fun hne => by
   obtain ⟨a0, h, _⟩ := hx1 hne
   cases h
  have hy0 : y = [] := by
   unfold clF at hy
   cases hg : appB sz 0 (List.length x) <;> rw [hg] at hy
   ·cases hy
   ·cases hy; exact hx0
  subst hy0
  refine wp_cond_true rfl ?_
  exact main true [] A (hA x) _ rfl rfl _ fun a' w' h => h
 | some a0 =>
  refine wp_cond_false rfl (wp_skip ?_)
  show Exit.then _ _ .normal _ _
  simp only [Exit.then]
  exact main false y B ((hB x).trans hy) _ rfl rfl _ fun a' w' h => h
def clP (t : Ty) : Sk := ⟨[.lf (.pv (.slice t))], [], []⟩
def clKP (C : Cfg) (rs : Array ResultVar) (t : Ty) (x : XE) (s : St) : Option (List t.den) := match x with
 | .ret => finish C rs (clP t) s
 | _ => none
theorem Aaf {C : Cfg} (hE : Bp C) (hD : Ed C) (hB0 : C.npB = 0) (hO0 : C.npO = 0) {f : Nat} {fn : Func} {T e bt sz : Nat} {t : Ty} {A B : Code}
  (hf : C.P.funcs[f]? = some fn) (hname : (fn.name == "runtime.NumGoroutine") = false)
  (hb : fn.body = some (.seq (.region 0 #[clR0 T] false) (.seq (.seq (.region 1 #[clR1 T, clR2 T bt] false) (.cond (.tmp 4) A .skip)) B))) (ht : fn.ntmps = 8) (hu : C.P.underlying T = some (.slice e))
  (hA : ∀ x, ev C 0 A (clS C.n t x true) (clKP C fn.results t) = some []) (hB : ∀ x, ev C 0 B (clS C.n t x false) (clKP C fn.results t) = clF sz t x) :
  Af C.P f ⟨clI t, clP t, Ck (clI t).tys (clP t).tys (clF sz t)⟩ := by
 refine ⟨⟨fn, hf, hname, by rw [hb]; rfl⟩, fun ps qs hrun => ?_⟩
 show Lj _ _ _ _ _ _
 intro F G vals w hH
 simp only [Ck] at hrun
 split at hrun
 rotate_left
 ·cases hrun
 rename_i x hx
 obtain ⟨y, hy, hq⟩ := Option.bind_eq_some_iff.1 hrun
 cases hq
 have hps := F6 hx
 subst hps
 have hst := Qc (C := C) (fn := fn) (kin := clI t) (x := x) hH
 have hsl : All2 (HA (HR F (enc (clI t) (szS (clI t)) (toPL (clI t).tys x)) G w)) [lf (.pv ⟨.slice t, x⟩)] vals := hH.slots
 cases hsl with
 | cons h0 hsl =>
 cases hsl
 rename_i v
 obtain ⟨ad, c, e1, hl1, hc1, hx1⟩ := pvSl (G := G) (os := []) h0
 have e2 : v = .slice ad (List.length x) c := List.singleton_inj.1 e1
 subst e2
 have hv0 : ∀ b, HA (HR F (clS C.n t x b) G w) (lf (.pv ⟨.slice t, x⟩)) (.slice ad (List.length x) c) := fun b => by
  have h3 := hst.slots
  rw [ht] at h3
  simp only [List.size_toArray, List.length_cons, List.length_nil] at h3
  have h4 : All2 (HA (HR F (clS C.n t x b) G w)) ([lf (.pv ⟨.slice t, x⟩)] ++ List.replicate (8 - 1) AV.dead) (.slice ad (List.length x) c :: List.replicate 7 undef) := h3
  cases h4 with
  | cons a _ => exact a
 have main : ∀ (b : Bool) (y : List t.den) (D : Code), ev C 0 D (clS C.n t x b) (clKP C fn.results t) = some y → ∀ (a : Act), a.tmps = #[.slice ad (List.length x) c, undef, .slice none 0 0, .slice ad (List.length x) c, .bool b, undef, undef, undef] → a.defers = [] →
   ∀ Q : Exit → Act → World → Prop, (∀ a' w', bodyPost C.P fn (fun e' w' => ∃ G' rv, e' = .returned (retV rv) ∧ Holds F (enc (clP t) (szS (clP t)) (toPL (clP t).tys y)) G' rv w' ∧ Step 0 0 (enc (clI t) (szS (clI t)) (toPL (clI t).tys x)) G w (enc (clP t) (szS (clP t)) (toPL (clP t).tys y)) G' w') .ret a' w' → Q .ret a' w') → D.wp C.P Q a w := by
  intro b y D hev a ha hd Q hQ
  obtain ⟨x1, s1, h1, h2⟩ := Df hE hD (by omega) (by omega) 0 D _ _ y hev
  have hHold : Holds F (clS C.n t x b) G a.tmps.toList w := by
   rw [ha]
   refine ⟨?_, hst.box, hst.own, hst.bb, hst.bo, hst.oo, hst.nF, hst.Flt, hst.ty, hst.gl⟩
   refine .cons (hv0 b) (.cons trivial (.cons ?_ (.cons (hv0 b) (.cons ?_ (.cons trivial (.cons trivial (.cons trivial .nil)))))))
   ·exact rfl
   ·exact rfl
  refine h2 F G a w _ hHold fun G1 a1 w1 ex k0 k1 k2 k3 => ?_
  cases x1 with
  | ret =>
   cases k0
   obtain ⟨rv, G', r1, r2, r3⟩ := K8 (fn := fn) (kin := clI t) (kout := clP t) (x := x) hB0 hO0 k1 ⟨k2.keeps, k2.fresh, k2.gb, k2.go, k2.fx⟩ h1
   exact hQ _ _ ⟨k3.trans hd, _, r1, G', rv, rfl, r2, r3⟩
  | normal => cases h1
  | exit i => cases h1
  | pan t ps g => cases h1
 refine calls_of_wp hf hb ?_
 rw [ht]
 refine wp_seq (wp_region_list (K6 (v := .slice none 0 0) (w1 := w) rfl ?_ (wpList_nil ?_)))
 ·simp [execOp, clR0, Act.eval, go_sem]
 show Exit.then _ _ .normal _ _
 simp only [Exit.then]
 refine wp_seq (wp_seq (wp_region_list (K6 (v := .slice ad (List.length x) c) (w1 := w) rfl ?_ (K6 (v := .bool ad.isNone) (w1 := w) rfl ?_ (wpList_nil ?_)))))
 ·simp [execOp, clR1, clR0, Act.eval, Act.put, go_sem]
 ·have hq := Lib.run_eql_slice_nil (P := C.P) w T e ad (List.length x) c 0 0 hu
  simp [execOp, clR2, clR1, clR0, Act.eval, Act.put, hq, eqGuard]
 show Exit.then _ _ .normal _ _
 simp only [Exit.then]
 cases ad with
 | none =>
  have hx0 : x = [] := Classical.byContradiction fun hne => by
   obtain ⟨a0, h, _⟩ := hx1 hne
   cases h
  have hy0 : y = [] := by
   unfold clF at hy
   cases hg : appB sz 0 (List.length x) <;> rw [hg] at hy
   ·cases hy
   ·cases hy; exact hx0
  subst hy0
  refine wp_cond_true rfl ?_
  exact main true [] A (hA x) _ rfl rfl _ fun a' w' h => h
 | some a0 =>
  refine wp_cond_false rfl (wp_skip ?_)
  show Exit.then _ _ .normal _ _
  simp only [Exit.then]
  exact main false y B ((hB x).trans hy) _ rfl rfl _ fun a' w' h => h
def clA (c : Code) : Code := match c with | .seq _ (.seq (.seq _ (.cond _ a _)) _) => a | _ => .skip
def clB (c : Code) : Code := match c with | .seq _ (.seq _ b) => b | _ => .skip
noncomputable def clC : Cfg := { P := Tryz.prog, env := fun _ => [], n := 56, npB := 0, npO := 0, hint := fun _ => none, pops := [] }
theorem clE : Bp clC := fun g sg h => by cases h
theorem clD : Ed clC := Mo (by kernel_rfl) clE
theorem none_ok {P : Program} {f : Nat} {ki ko : Sk} (h : ∃ fn, P.funcs[f]? = some fn ∧ (fn.name == "runtime.NumGoroutine") = false ∧ fn.body.isSome = true) : Af P f ⟨ki, ko, Ck ki.tys ko.tys (fun _ => none)⟩ :=
 ⟨h, fun ps qs h => by
  simp only [Ck] at h
  split at h <;> cases h⟩
set_option maxHeartbeats 4000000
noncomputable section
abbrev tyW : Ty := .cons .str (.cons (.int .i64) (.cons (.int .i64) .nil))
abbrev tySl : Ty := .cons .str (.cons (.int .i64) (.cons (.int .i64) (.cons (.int .i64) (.cons (.slice tyW) .nil))))
abbrev tySp : Ty := .cons (.slice (.slice tySl)) .nil
abbrev DW : Type := (List Int) × (Int × (Int × Unit))
abbrev DSl : Type := (List Int) × (Int × (Int × (Int × ((List DW) × Unit))))
abbrev DSp : Type := (List (List DSl)) × Unit
def zSl : DSl := ([], ((0 : Int), ((0 : Int), ((0 : Int), (([] : List DW), ())))))
noncomputable def sgW : Sig := Ab (clI tyW) (clP tyW) (clF 32 tyW)
noncomputable def sgS : Sig := Ab (clI tySl) (clO 103 tySl) (clF 64 tySl)
noncomputable def sgR : Sig := Ab (clI (.slice tySl)) (clO 98 (.slice tySl)) (clF 24 (.slice tySl))
noncomputable def sgP : Sig := Ab (clI tySp) (clO 72 tySp) (clF 24 tySp)
theorem sgW_ok : Af Tryz.prog 60 sgW := Aaf (C := clC) clE clD rfl rfl (fn := Tryz.f60) (T := 101) (e := 109) (bt := 4) (sz := 32) (t := tyW) (A := clA (Au Tryz.f60)) (B := clB (Au Tryz.f60)) Tryz.func60 (by kernel_rfl) (by kernel_rfl) rfl Tryz.underlying101 (fun x => by kernel_rfl) (fun x => by kernel_rfl)
theorem sgS_ok : Af Tryz.prog 59 sgS := De (C := clC) clE clD rfl rfl (fn := Tryz.f59) (T := 98) (e := 103) (bt := 4) (sz := 64) (t := tySl) (A := clA (Au Tryz.f59)) (B := clB (Au Tryz.f59)) Tryz.func59 (by kernel_rfl) (by kernel_rfl) rfl Tryz.underlying98 (fun x => by kernel_rfl) (fun x => by kernel_rfl)
theorem sgR_ok : Af Tryz.prog 63 sgR := De (C := clC) clE clD rfl rfl (fn := Tryz.f63) (T := 70) (e := 98) (bt := 4) (sz := 24) (t := .slice tySl) (A := clA (Au Tryz.f63)) (B := clB (Au Tryz.f63)) Tryz.func63 (by kernel_rfl) (by kernel_rfl) rfl Tryz.underlying70 (fun x => by kernel_rfl) (fun x => by kernel_rfl)
theorem sgP_ok : Af Tryz.prog 62 sgP := De (C := clC) clE clD rfl rfl (fn := Tryz.f62) (T := 29) (e := 72) (bt := 4) (sz := 24) (t := tySp) (A := clA (Au Tryz.f62)) (B := clB (Au Tryz.f62)) Tryz.func62 (by kernel_rfl) (by kernel_rfl) rfl Tryz.underlying29 (fun x => by kernel_rfl) (fun x => by kernel_rfl)
def qT0 : List SL := [.pv .str, .pv (.int .i64), .own 0, .pv (.int .i64), .pv (.int .i64)]
def qT1 : List SL := [.pv .str, .pv (.int .i64), .nil .sl, .pv (.int .i64), .pv (.int .i64)]
def qT2 : List SL := [.pv .str, .pv (.int .i64), .own 1, .pv (.int .i64), .pv (.int .i64)]
def k3 : Sk := ⟨sparse 71 [(1, .lf (.ptr 0 0)), (2, .lf (.ptr 1 0)), (13, .lf (.pv (.int .i64))), (14, .lf (.pv (.int .i64)))], [qT0, qT1], [some (72, tySp)]⟩
def k7 : Sk := ⟨sparse 71 [(1, .lf (.ptr 0 0)), (2, .lf (.ptr 1 0)), (3, .lf (.pv (.int .i64))), (4, .lf (.own 0)), (13, .lf (.pv (.int .i64))), (14, .lf (.pv (.int .i64))), (25, .lf (.pv (.int .i64))), (26, .lf (.pv (.int .i64)))], [qT2, qT1], [some (98, .slice tySl), some (72, tySp)]⟩
def k11 : Sk := ⟨sparse 71 [(1, .lf (.ptr 0 0)), (2, .lf (.ptr 1 0)), (3, .lf (.pv (.int .i64))), (4, .lf (.rro 0)), (5, .lf (.pv (.int .i64))), (13, .lf (.pv (.int .i64))), (14, .lf (.pv (.int .i64))), (25, .lf (.pv (.int .i64))), (26, .lf (.pv (.int .i64))), (41, .lf (.pv (.int .i64))), (42, .lf (.pv (.int .i64)))], [qT2, qT1], [some (103, tySl), some (72, tySp)]⟩
structure Bx where
 (b0 : List Int) (b1 b2 b3 : Int) (c0 : List Int) (c1 c2 c3 : Int)
noncomputable def S3 (n i : Int) (b : Bx) (sp : List DSp) : St := stOf k3 120 (n, i, b.b0, b.b1, b.b2, b.b3, b.c0, b.c1, b.c2, b.c3, sp)
noncomputable def S7 (a n i m k : Int) (b : Bx) (rs : List (List DSl)) (sp : List DSp) : St := stOf k7 120 (a, n, i, m, k, b.b0, b.b1, b.b2, b.b3, b.c0, b.c1, b.c2, b.c3, rs, sp)
noncomputable def S11 (r q : Nat) (a n i m k l s : Int) (b : Bx) (ys : List DSl) (sp : List DSp) : St := stOf k11 120 (a, Int.ofNat r, Int.ofNat q, k, n, i, m, k, l, s, b.b0, b.b1, b.b2, b.b3, b.c0, b.c1, b.c2, b.c3, ys, sp)
noncomputable def cpC : Cfg := { P := Tryz.prog, env := Dn [(60, [sgW]), (59, [sgS]), (63, [sgR]), (62, [sgP])], n := 120, npB := 0, npO := 0, hint := fun i => look none [(3, some k3), (7, some k7), (8, some k7), (11, some k11)] i, pops := [] }
theorem cpE : Bp cpC := fun g sg h => Ll (P := Tryz.prog) (l := [(60, [sgW]), (59, [sgS]), (63, [sgR]), (62, [sgP])]) ⟨⟨sgW_ok, trivial⟩, ⟨sgS_ok, trivial⟩, ⟨sgR_ok, trivial⟩, ⟨sgP_ok, trivial⟩, trivial⟩ g sg h
theorem cpD : Ed cpC := Mo (by kernel_rfl) cpE
noncomputable def cpB : Code := Au Tryz.f29
noncomputable def cB3 : Code := Ad cpB [.r, .r, .l, .r, .b, .b, .r, .r, .l, .b, .r, .r, .l, .r, .b, .b, .r, .r, .l]
noncomputable def cP : Code := Ad cB3 [.b]
def opsOf : Code → Array Oper
 | .region _ o _ => o
 | _ => #[]
noncomputable def ops8 : Array Oper := opsOf (Ad cP [.l])
noncomputable def ops9 : Array Oper := opsOf (Ad cP [.r, .l])
noncomputable def Lr : Code := Ad cP [.r, .r]
noncomputable def Ef : Code := Ad Lr [.r, .b, .b]
theorem cB3_eq : cB3 = .block 3 cP := by kernel_rfl
theorem cP_eq : cP = .seq (.region 8 ops8 false) (.seq (.region 9 ops9 false) Lr) := by kernel_rfl
noncomputable def o98 : Oper := (ops9.toList.drop 8).headD default
theorem ops9_eq : ops9.toList = ops9.toList.take 8 ++ [o98] := by kernel_rfl
noncomputable def S8a (a n i m k : Int) (b : Bx) (rs : List (List DSl)) (sp : List DSp) : St := ((S7 a n i m k b rs sp).put (some 28) (lf (pvI .i64 k))).put (some 5) (lf (pvI .i64 k))
noncomputable def S8 (a n i m k : Int) (b : Bx) (rs : List (List DSl)) (sp : List DSp) : St :=
 Al (((((((((S8a a n i m k b rs sp).put (some 29) (lf (.own 0))).put (some 30) (lf (pvI .i64 k))).put (some 31) (lf (.own 0))).put (some 32) (lf (pvI .i64 k))).put (some 33) (lf (.ept 0 (Int.toNat k) 0 1))).put (some 34) (lf (.pv ⟨.slice tySl, rdA [] rs (Int.toNat k)⟩))).put (some 35) (lf (.own 83))).put (some 36) (lf (.ept 0 (Int.toNat k) 0 1))) 83 (some ⟨103, tySl, rdA [] rs (Int.toNat k)⟩)
theorem r8_run (a n i m k : Int) (b : Bx) (rs : List (List DSl)) (sp : List DSp) : ops8.toList.foldl (fun x o => x.bind fun s => (Am (opE cpC) ops8 s o).val) (some (S7 a n i m k b rs sp)) = some (S8a a n i m k b rs sp) := by kernel_rfl
theorem r9_run (a n i m k : Int) (b : Bx) (rs : List (List DSl)) (sp : List DSp) : opsK (opE cpC) ops9 (ops9.toList.take 8) (S8a a n i m k b rs sp) some =
  (bif inB k (List.length rs) then (clF 64 tySl (rdA [] rs (Int.toNat k))).bind fun y => bif inB k (List.length rs) then some (Al (S8 a n i m k b rs sp) 83 (some ⟨103, tySl, y⟩)) else none else none) := by kernel_rfl
noncomputable def S9 (a n i m k : Int) (b : Bx) (rs : List (List DSl)) (sp : List DSp) : St := C6 (S8 a n i m k b rs sp) 0 (Int.toNat k) (List.length rs) 83
noncomputable def KX : XE → St → Option St := fun e s => match e with
 | .normal => norm cpC (.region 11 #[] false) s some
 | _ => none
noncomputable def KL : XE → St → Option St := blkK 4 KX
theorem Bjw (f : Nat) (a n i m k : Int) (b : Bx) (rs : List (List DSl)) (sp : List DSp) : ev cpC f Lr (S9 a n i m k b rs sp) KX =
  (bif decide (k = ((Int.toNat k : Nat) : Int)) then Bf (Bh cpC Ef (ev cpC f Ef) KL) f (S11 (Int.toNat k) (List.length rs) a n i m k ((List.length (rdA [] rs (Int.toNat k)) : Nat) : Int) 0 b (rdA [] rs (Int.toNat k)) sp) else none) := by kernel_rfl
theorem Bid (f j : Nat) (r q : Nat) (a n i m k l s : Int) (b : Bx) (ys : List DSl) (sp : List DSp) : Bf (Bh cpC Ef (ev cpC f Ef) KL) (j + 1) (S11 r q a n i m k l s b ys sp) =
  (bif decide (s < l) then
   (bif decide (k = ((r : Nat) : Int)) then bif decide (k = ((r : Nat) : Int)) then bif inB s (List.length ys) then
    (clF 32 tyW (rdA zSl ys (Int.toNat s)).2.2.2.2.1).bind fun y => bif inB s (List.length ys) then
     Bf (Bh cpC Ef (ev cpC f Ef) KL) j (S11 r q a n i m k l (IntKind.wrap .i64 (s + 1)) b (List.set ys (Int.toNat s) ((rdA zSl ys (Int.toNat s)).1, (rdA zSl ys (Int.toNat s)).2.1, (rdA zSl ys (Int.toNat s)).2.2.1, (rdA zSl ys (Int.toNat s)).2.2.2.1, y, ())) sp) else none else none else none else none)
  else some (S11 r q a n i m k l s b ys sp)) := by kernel_rfl
end
noncomputable section
theorem Ao3 {α : Type} (d : α) (l : List α) (s : Nat) (h : s < l.length) : List.set l s (rdA d l s) = l := by
 unfold rdA
 rw [List.getD_eq_getElem?_getD, List.getElem?_eq_getElem h]
 exact List.set_getElem_self h
theorem Aow {α : Type} (d : α) (l : List α) (s : Nat) (h : s < l.length) : rdA d l s ∈ l := by
 unfold rdA
 rw [List.getD_eq_getElem?_getD, List.getElem?_eq_getElem h]
 exact List.getElem_mem h
theorem Ma {sz : Nat} {t : Ty} {x : List t.den} (h : appB sz 0 (List.length x) = true) : clF sz t x = some x := by unfold clF; rw [h]; rfl
def okW (ys : List DSl) : Bool := ys.all fun x => appB 32 0 (List.length x.2.2.2.2.1)
theorem A4o (f r q : Nat) (a n i m : Int) (b : Bx) (ys : List DSl) (sp : List DSp) (hw : okW ys = true) (hl : ys.length < 4611686018427387904) : ∀ (j s : Nat), s ≤ ys.length → ys.length - s < j →
  Bf (Bh cpC Ef (ev cpC f Ef) KL) j (S11 r q a n i m (r : Int) ((List.length ys : Nat) : Int) (s : Int) b ys sp) = some (S11 r q a n i m (r : Int) ((List.length ys : Nat) : Int) ((List.length ys : Nat) : Int) b ys sp)
 | 0, s, hs, hj => by omega
 | j + 1, s, hs, hj => by
  rw [Bid]
  by_cases hlt : s < ys.length
  ·rw [show decide ((s : Int) < ((List.length ys : Nat) : Int)) = true by simp; omega, show decide ((r : Int) = ((r : Nat) : Int)) = true by simp, show inB (s : Int) (List.length ys) = true by simp [inB]; omega]
   simp only [cond_true, Int.toNat_natCast]
   have hm := List.all_eq_true.1 hw _ (Aow zSl ys s hlt)
   refine (congrArg (fun z => Option.bind z _) (Ma (t := tyW) (x := (rdA zSl ys s).2.2.2.2.1) hm)).trans ?_
   show Bf (Bh cpC Ef (ev cpC f Ef) KL) j (S11 r q a n i m (r : Int) ((List.length ys : Nat) : Int) (IntKind.wrap .i64 ((s : Int) + 1)) b (List.set ys s ((rdA zSl ys s).1, (rdA zSl ys s).2.1, (rdA zSl ys s).2.2.1, (rdA zSl ys s).2.2.2.1, (rdA zSl ys s).2.2.2.2.1, ())) sp) = _
   have hset : List.set ys s ((rdA zSl ys s).1, (rdA zSl ys s).2.1, (rdA zSl ys s).2.2.1, (rdA zSl ys s).2.2.2.1, (rdA zSl ys s).2.2.2.2.1, ()) = ys := Ao3 zSl ys s hlt
   rw [hset]
   have hwr : IntKind.wrap .i64 ((s : Int) + 1) = ((s + 1 : Nat) : Int) := by
    rw [w64 (by omega)]; rfl
   rw [hwr]
   exact A4o f r q a n i m b ys sp hw hl j (s + 1) (by omega) (by omega)
  ·have e : s = ys.length := by omega
   subst e
   rw [show decide (((List.length ys : Nat) : Int) < ((List.length ys : Nat) : Int)) = false by simp]
   simp only [cond_false]
theorem Bji (cur : Array Value) (i : Nat) (v : Value) (h : i < cur.size) : (cur.toList.take (i + 0) ++ [v] ++ cur.toList.drop (i + 0 + [v].length)).toArray = cur.setIfInBounds i v := by
 rw [← Array.toList_inj, Array.toList_setIfInBounds, List.set_eq_take_append_cons_drop, if_pos (by simpa using h)]
 simp
theorem Bit (f : Nat) (a n i m : Int) (k : Nat) (b : Bx) (rs : List (List DSl)) (sp : List DSp) (hk : k < rs.length) (h1 : appB 64 0 (List.length (rdA [] rs k)) = true) (hw : okW (rdA [] rs k) = true) (hf : (rdA [] rs k).length < f)
  (hb : (rdA [] rs k).length < 4611686018427387904) : Eu cpC cB3 (S7 a n i m (k : Int) b rs sp) .normal (S7 a n i m (k : Int) b rs sp) := by
 rw [cB3_eq]
 intro F G act w Q hH hQ
 refine wp_block ?_
 rw [cP_eq]
 refine wp_seq (wp_region_list (A49 (fok_E cpE) ops8 _ ops8.toList hH (r8_run a n i m (k : Int) b rs sp) fun G1 a1 w1 k1 k2 k3 => ?_))
 show Exit.then _ _ .normal _ _
 simp only [Exit.then]
 refine wp_seq (wp_region_list ?_)
 rw [ops9_eq]
 have hin : inB (k : Int) (List.length rs) = true := by simp [inB]; omega
 have hr9 : opsK (opE cpC) ops9 (ops9.toList.take 8) (S8a a n i m (k : Int) b rs sp) some = some (S8 a n i m (k : Int) b rs sp) := by
  rw [r9_run, hin]
  simp only [cond_true, Int.toNat_natCast]
  refine (congrArg (fun z => Option.bind z _) (Ma (t := tySl) (x := rdA [] rs k) h1)).trans ?_
  show some (Al (S8 a n i m (k : Int) b rs sp) 83 (some ⟨103, tySl, rdA [] rs k⟩)) = _
  congr 1
 obtain ⟨s8, e1, e2⟩ := Aol ops9 _ _ _ _ hr9
 cases e1
 refine Aom (fok_E cpE) ops9 _ (ops9.toList.take 8) k1 e2 fun G8 a8 w8 m1 m2 m3 => ?_
 have hl36 : Ai ((S8 a n i m (k : Int) b rs sp).get (.tmp 36)) = some (.ept 0 k 0 1) := by kernel_rfl
 have hl35 : Ai ((S8 a n i m (k : Int) b rs sp).get (.tmp 35)) = some (.own 83) := by kernel_rfl
 have hR : Aa (S8 a n i m (k : Int) b rs sp) 0 = some ⟨98, .slice tySl, rs⟩ := by kernel_rfl
 have hN : Aa (S8 a n i m (k : Int) b rs sp) 83 = some ⟨103, tySl, rdA [] rs k⟩ := by kernel_rfl
 have hp36 := As m1 hl36
 have hv35 := As m1 hl35
 generalize hv : a8.eval (.tmp 35) = v at hv35
 obtain ⟨g, cap, cur, hG, hle, hm, hcs, hh, hrow, hLg, hlive, hok, hH9⟩ := Bh7 m1 (by kernel_rfl) hR hN (by decide) (i := k) hk hv35.1 hv35.2
 have hptr : a8.eval (.tmp 36) = .pointer (some ⟨g, k, none⟩) := by
  obtain ⟨g', n', c', q1, q2, _⟩ := hp36
  rw [hG] at q1
  cases q1
  rw [q2]
  simp
 have ho : o98.op = .store 98 (.tmp 36) (.tmp 35) := by kernel_rfl
 have hsz : Ay Tryz.prog 98 = some 1 := by kernel_rfl
 have hv1 : v.cells = #[v] := Asa hv35.2
 have hle' : rs.length ≤ cap := hle
 have hkc : k < cur.size := by omega
 have hrun : (execOp a8.eval o98).run cpC.P w8 = .ok .skip (w8.setRow g (cur.setIfInBounds k v)) := by
  have hst := run_storeCells_at Tryz.prog g k 98 [v] 0 cur w8 hh (by simp only [List.length_cons, List.length_nil]; omega) (fun u hu => by rw [List.mem_singleton.1 hu]; exact hv35.2)
  rw [Bji cur k v hkc] at hst
  show (execOp a8.eval o98).run Tryz.prog w8 = _
  simp only [execOp, ho, Instr.storeAt, hptr, Instr.sureAddr, Sem.run_bind, Sem.run_pure, Result.andThen_ok, storeVar, Ca hsz, hv, hv1]
  simp [hst]
 refine wpList_plain (by kernel_rfl) fun K hK => ?_
 unfold Oper.wp
 rw [hrun]
 refine hK _ _ (wpList_nil ?_)
 show Exit.then _ _ .normal _ _
 simp only [Exit.then]
 have htail : ev cpC f Lr (S9 a n i m (k : Int) b rs sp) KX = some (S11 k rs.length a n i m (k : Int) ((List.length (rdA [] rs k) : Nat) : Int) ((List.length (rdA [] rs k) : Nat) : Int) b (rdA [] rs k) sp) := by
  rw [Bjw]
  rw [show decide ((k : Int) = ((Int.toNat (k : Int) : Nat) : Int)) = true by simp]
  simp only [cond_true, Int.toNat_natCast]
  exact A4o f k rs.length a n i m b (rdA [] rs k) sp hw hb f 0 (Nat.zero_le _) (by omega)
 obtain ⟨e, s', t1, t2⟩ := Df cpE cpD (by decide) (by decide) f Lr _ KX _ htail
 have hen : e = .normal := by cases e <;> first | rfl | cases t1
 subst hen
 obtain ⟨s11, t3, t4⟩ := E9 (show norm cpC (.region 11 #[] false) s' some = some _ from t1)
 cases t3
 have hg0 : ¬ F g := m1.nF g hLg
 refine t2 _ _ a8 _ _ hH9 fun G10 a10 w10 x k0 k1' k2' k3' => ?_
 cases k0
 obtain ⟨G11, n1, n2⟩ := t4 _ G10 _ w10 k1'
 have st := k2'.trans n2
 have hl4 : Ai ((S11 k rs.length a n i m (k : Int) ((List.length (rdA [] rs k) : Nat) : Int) ((List.length (rdA [] rs k) : Nat) : Int) b (rdA [] rs k) sp).get (.tmp 4)) = some (.rro k rs.length 0) := by kernel_rfl
 obtain ⟨g', cs', c', u, hm4, hv4, hlt4, hsz4, hu4, huN, hu1⟩ := As n1 hl4
 rw [st.fx] at hm4
 have hm4' : (g', cs') = (g, cur.setIfInBounds k v) := List.mem_singleton.1 hm4
 cases hm4'
 have hheap : w10.heap[g]? = some (.cells (cur.setIfInBounds k v) 98 (0, 0)) := by
  have hgn : ¬ Live (S9 a n i m (k : Int) b rs sp) { G8 with fx := [(g, cur.setIfInBounds k v)] } g := fun hL => (hlive g hL).2 rfl
  rw [st.keeps.block g (by simp; exact m1.lt hLg) hgn]
  exact setRow_heap w8 g cur _ 98 _ hh
 have hc' : c' = cap := by rw [← hsz4, Array.size_setIfInBounds]; exact hcs
 subst hc'
 have hcells : ∀ (j : Nat) (x : List DSl) (u' : Value), j ≠ k → rs[j]? = some x → (cur.setIfInBounds k v)[j]? = some u' → RepL w10 (okS (fun q => F q ∨ q = g) (S11 k rs.length a n i m (k : Int) ((List.length (rdA [] rs k) : Nat) : Int) ((List.length (rdA [] rs k) : Nat) : Int) b (rdA [] rs k) sp) G11 w10) ⟨.slice tySl, x⟩ u' := by
  intro j x u' hj hx hu'
  rw [Array.getElem?_setIfInBounds_ne (fun e => hj e.symm)] at hu'
  have hrep := hrow.get (i := j) (x := x) hx
  have hjl : j < rs.length := (List.getElem?_eq_some_iff.1 hx).1
  have e5 : (((cur.toList.take (List.length rs)).drop (j * 1)).take 1) = [u'] := by
   rw [Nat.mul_one]
   have e6 : (cur.toList.take (List.length rs))[j]? = some u' := by
    rw [List.getElem?_take, if_pos hjl]
    simpa using hu'
   obtain ⟨h5, h6⟩ := List.getElem?_eq_some_iff.1 e6
   rw [List.drop_eq_getElem_cons h5, h6]
   rfl
  have hrep2 : Rep w8 (okS F (S8 a n i m (k : Int) b rs sp) G8 w8) (.slice tySl) x [u'] := by rw [← e5]; exact hrep
  refine Rep.mono (fun q hq => ?_) hrep2
  obtain ⟨h7, h8⟩ := hok q hq
  obtain ⟨h9, h10⟩ := step_ok st h7
  exact ⟨h9, h10.trans h8⟩
 have hfx8 : ∀ x ∈ gTab ++ G8.fx, ¬ Live (S8 a n i m (k : Int) b rs sp) G8 x.1 ∧ ∃ et fr, w8.heap[x.1]? = some (.cells x.2 et fr) := m1.gl
 have hne8 : ∀ x ∈ gTab ++ G8.fx, x.1 ≠ g := fun x hx e => (hfx8 x hx).1 (by rw [e]; exact hLg)
 have hnl9 : ∀ q, ¬ Live (S8 a n i m (k : Int) b rs sp) G8 q → ¬ Live (S9 a n i m (k : Int) b rs sp) { G8 with fx := [(g, cur.setIfInBounds k v)] } q := fun q h hL => h (hlive q hL).1
 have hsame : ∀ q, q < w8.heap.size → ¬ Live (S8 a n i m (k : Int) b rs sp) G8 q → w10.heap[q]? = w8.heap[q]? := fun q hq hL => by
  rw [st.keeps.block q (by simpa using hq) (hnl9 q hL)]
  exact setRow_other w8 _ _ _ fun e => hL (by rw [e]; exact hLg)
 have hUn := Bj4 (R := 2) (eN := 103) (e := 98) (t := tySl) (xs := rs) (ys := rdA [] rs k) n1 hg0 (N := 0) (by kernel_rfl) (by rw [show (S11 k rs.length a n i m (k : Int) ((List.length (rdA [] rs k) : Nat) : Int) ((List.length (rdA [] rs k) : Nat) : Int) b (rdA [] rs k) sp).owns.length = 120 by kernel_rfl]; omega) (by kernel_rfl) (by kernel_rfl) (by kernel_rfl) hheap (by rw [Array.size_setIfInBounds]; exact hcs) hle hm hk hu4 huN hcells (fx := G8.fx)
  (fun x hx => hne8 x (List.mem_append_left _ hx)) (fun x hx => by
   obtain ⟨q1, et, fr, q2⟩ := hfx8 x (List.mem_append_right _ hx)
   have hlt : x.1 < w8.heap.size := (Array.getElem?_eq_some_iff.1 q2).1
   refine ⟨fun hL => ?_, hne8 x (List.mem_append_right _ hx), et, fr, by rw [hsame _ hlt q1]; exact q2⟩
   rcases st.fresh _ hL with h5 | h5
   ·exact hnl9 _ q1 h5
   ·simp at h5; omega)
 have hset : List.set rs k (rdA [] rs k) = rs := Ao3 _ _ _ hk
 have e7 : (⟨98, .slice tySl, List.set (α := (Ty.slice tySl).den) rs k (rdA [] rs k)⟩ : Own) = ⟨98, .slice tySl, rs⟩ := congrArg (fun z => (⟨98, .slice tySl, z⟩ : Own)) hset
 generalize hG12 : ({ G11 with ow := fun l => if l = 2 then .slice (some ⟨g, 0, none⟩) (List.length (α := (Ty.slice tySl).den) rs) c' else G11.ow l, fx := G8.fx } : Gm) = G12 at hUn
 have hUn2 := Eq.mp (congrArg (fun o => Holds F (Al (frz (S11 k rs.length a n i m (k : Int) ((List.length (rdA [] rs k) : Nat) : Int) ((List.length (rdA [] rs k) : Nat) : Int) b (rdA [] rs k) sp) 0) 2 (some o)) G12 a10.tmps.toList w10) e7) hUn
 have g2 : G12.ow 2 = .slice (some ⟨g, 0, none⟩) rs.length c' := by rw [← hG12]; rfl
 have hput := hUn2.put (some 4) (v := lf (.own 2)) (u := a10.eval (.tmp 4)) (show OwV (G12.ow 2) (a10.eval (.tmp 4)) ∧ (a10.eval (.tmp 4)).oneCell' = true from ⟨.inl (hv4.trans g2.symm), by rw [hv4]; rfl⟩)
 have hsize : a10.tmps.size = 71 := by
  have h5 := n1.slots.len
  rw [show (S11 k rs.length a n i m (k : Int) ((List.length (rdA [] rs k) : Nat) : Int) ((List.length (rdA [] rs k) : Nat) : Int) b (rdA [] rs k) sp).slots.length = 71 by kernel_rfl] at h5
  simpa using h5.symm
 have hsame4 : a10.put (some 4) (a10.eval (.tmp 4)) = a10 := A5w (by
  show a10.tmps[4]? = some (a10.tmps.getD 4 undef)
  rw [Array.getD_eq_getD_getElem?, Array.getElem?_eq_getElem (by omega)]
  rfl)
 rw [hsame4] at hput
 have hnm : norm cpC (.region 7 #[] false) ((Al (frz (S11 k rs.length a n i m (k : Int) ((List.length (rdA [] rs k) : Nat) : Int) ((List.length (rdA [] rs k) : Nat) : Int) b (rdA [] rs k) sp) 0) 2 (some ⟨98, .slice tySl, rs⟩)).put (some 4) (lf (.own 2))) some = some (S7 a n i m (k : Int) b rs sp) := by kernel_rfl
 obtain ⟨s7, q1, q2⟩ := E9 hnm
 cases q1
 obtain ⟨G13, p1, p2⟩ := q2 F G12 _ w10 hput
 have hst : Step 0 0 (S8 a n i m (k : Int) b rs sp) G8 w8 ((Al (frz (S11 k rs.length a n i m (k : Int) ((List.length (rdA [] rs k) : Nat) : Int) ((List.length (rdA [] rs k) : Nat) : Int) b (rdA [] rs k) sp) 0) 2 (some ⟨98, .slice tySl, rs⟩)).put (some 4) (lf (.own 2))) G12 w10 := by
  refine ⟨⟨st.keeps.os, st.keeps.tape, st.keeps.output, by simpa using st.keeps.size, hsame⟩, fun q hq => ?_, fun b hb => absurd hb (Nat.not_lt_zero _), fun l hl => absurd hl (Nat.not_lt_zero _), by rw [← hG12]⟩
  rw [put_Live] at hq
  have back : Live (S11 k rs.length a n i m (k : Int) ((List.length (rdA [] rs k) : Nat) : Int) ((List.length (rdA [] rs k) : Nat) : Int) b (rdA [] rs k) sp) G11 q → Live (S8 a n i m (k : Int) b rs sp) G8 q ∨ w8.heap.size ≤ q := fun h5 => by
   rcases st.fresh q h5 with h6 | h6
   ·exact .inl (hlive q h6).1
   ·exact .inr (by simpa using h6)
  rcases hq with ⟨b', ls, hb', rfl⟩ | ⟨l, o, ho2, hq⟩
  ·have hb2 : Ae (frz (S11 k rs.length a n i m (k : Int) ((List.length (rdA [] rs k) : Nat) : Int) ((List.length (rdA [] rs k) : Nat) : Int) b (rdA [] rs k) sp) 0) b' = some ls := hb'
   obtain ⟨q0, h5⟩ := Aik hb2
   exact back (.inl ⟨b', q0, h5, by rw [← hG12]⟩)
  ·by_cases e1 : l = 2
   ·subst e1
    rw [g2] at hq
    cases hq
    exact .inl hLg
   ·rw [Pn e1, El] at ho2
    split at ho2
    ·cases ho2
    ·refine back (.inr ⟨l, o, ho2, ?_⟩)
     rw [← hG12] at hq
     simpa [e1] using hq
 refine hQ G13 a10 w10 .normal rfl p1 ?_ (k3'.trans (m3.trans k3))
 exact (((k2.trans m2).le (by decide) (by decide)).trans hst).trans p2
end
noncomputable section
def tmI : Sk := ⟨[.agg [.pv .str, .pv (.int .i64), .pv (.slice tySp), .pv (.int .i64), .pv (.int .i64)]], [], []⟩
abbrev DTm : Type := (List Int) × Int × (List DSp) × Int × Int
abbrev T7 : Type := Int × Int × Int × Int × Int × (List Int) × Int × Int × Int × (List Int) × Int × Int × Int × (List (List DSl)) × (List DSp)
def okR (f : Nat) (r : List DSl) : Bool := appB 64 0 (List.length r) && (okW r && (decide (r.length < f) && decide (r.length < 4611686018427387904)))
def okx (f : Nat) : T7 → Bool
 | (_, _, _, _, k, _, _, _, _, _, _, _, _, rs, _) => decide (0 ≤ k) && (decide (k.toNat < rs.length) && okR f (rdA [] rs k.toNat))
def P7 (f : Nat) : SF := Aop k7 k7 120 (fun x : T7 => bif okx f x then some x else none)
theorem V7 {α : Type} {c : Bool} {x y : α} (h : (bif c then some x else none) = some y) : c = true ∧ x = y := by
 cases c with
 | false => cases h
 | true => exact ⟨rfl, Option.some.inj h⟩
theorem P7_pt (f : Nat) (a n i m k : Int) (b : Bx) (rs : List (List DSl)) (sp : List DSp) (hx' : (decide (0 ≤ k) && (decide (k.toNat < rs.length) && okR f (rdA [] rs k.toNat))) = true) : Eu cpC cB3 (S7 a n i m k b rs sp) .normal (S7 a n i m k b rs sp) := by
 simp only [okR, Bool.and_eq_true, decide_eq_true_eq] at hx'
 obtain ⟨h0, h1, h2, h3, h4, h5⟩ := hx'
 obtain ⟨q, rfl⟩ : ∃ q : Nat, k = (q : Int) := ⟨k.toNat, by omega⟩
 rw [Int.toNat_natCast] at h1 h2 h3 h4 h5
 exact Bit f a n i m q b rs sp h1 h2 h3 h4 h5
theorem P7_ok (f : Nat) : Snd cpC cB3 (P7 f) := A82 (kI := k7) (kO := k7) fun x y h => by
 obtain ⟨hx, he⟩ := V7 (α := T7) (c := okx f x) (x := x) (y := y) h
 obtain rfl : x = y := he
 obtain ⟨a, n, i, m, k, b0, b1, b2, b3, c0, c1, c2, c3, rs, sp⟩ := x
 exact P7_pt f a n i m k ⟨b0, b1, b2, b3, c0, c1, c2, c3⟩ rs sp hx
def b1L : Code := Ad cpB [.r, .r, .l, .r, .b, .b]
def b2L : Code := Ad cpB [.r, .r, .l, .r, .b, .b, .r, .r, .l, .b, .r, .r, .l, .r, .b, .b]
def FB2 (f : Nat) : SF := seqF cpC (Ad b2L [.r]) (evF cpC f (Ad b2L [.l])) (seqF cpC (Ad b2L [.r, .r]) (evF cpC f (Ad b2L [.r, .l])) (seqF cpC (Ad b2L [.r, .r, .r]) (P7 f) (evF cpC f (Ad b2L [.r, .r, .r]))))
theorem b2_eq : b2L = .seq (Ad b2L [.l]) (.seq (Ad b2L [.r, .l]) (.seq cB3 (Ad b2L [.r, .r, .r]))) := by kernel_rfl
theorem b2_r : Ad b2L [.r] = .seq (Ad b2L [.r, .l]) (.seq cB3 (Ad b2L [.r, .r, .r])) := by kernel_rfl
theorem b2_rr : Ad b2L [.r, .r] = .seq cB3 (Ad b2L [.r, .r, .r]) := by kernel_rfl
theorem sev (f : Nat) (c : Code) : Snd cpC c (evF cpC f c) := A80 cpE cpD (by decide) (by decide) f c
theorem FB2_ok (f : Nat) : Snd cpC b2L (FB2 f) := by
 have h : Snd cpC (.seq (Ad b2L [.l]) (.seq (Ad b2L [.r, .l]) (.seq cB3 (Ad b2L [.r, .r, .r])))) (FB2 f) := by
  unfold FB2
  rw [b2_r, b2_rr]
  exact B0 (sev f _) (B0 (sev f _) (B0 (P7_ok f) (sev f _)))
 rw [b2_eq]; exact h
def xL : Code := Ad b1L [.r, .r, .l, .b]
def yL : Code := Ad xL [.r, .r, .l]
def FX (f : Nat) : SF := seqF cpC (Ad xL [.r]) (evF cpC f (Ad xL [.l])) (seqF cpC (Ad xL [.r, .r]) (evF cpC f (Ad xL [.r, .l])) (seqF cpC (Ad xL [.r, .r, .r]) (seqF cpC (Ad yL [.r]) (evF cpC f (Ad yL [.l])) (blkF 2 (loopF cpC b2L (FB2 f) f))) (evF cpC f (Ad xL [.r, .r, .r]))))
theorem x_eq : xL = .seq (Ad xL [.l]) (.seq (Ad xL [.r, .l]) (.seq (.seq (Ad yL [.l]) (.block 2 (.loop b2L))) (Ad xL [.r, .r, .r]))) := by kernel_rfl
theorem x_r : Ad xL [.r] = .seq (Ad xL [.r, .l]) (.seq (.seq (Ad yL [.l]) (.block 2 (.loop b2L))) (Ad xL [.r, .r, .r])) := by kernel_rfl
theorem x_rr : Ad xL [.r, .r] = .seq (.seq (Ad yL [.l]) (.block 2 (.loop b2L))) (Ad xL [.r, .r, .r]) := by kernel_rfl
theorem y_r : Ad yL [.r] = .block 2 (.loop b2L) := by kernel_rfl
theorem FX_ok (f : Nat) : Snd cpC xL (FX f) := by
 have h : Snd cpC (.seq (Ad xL [.l]) (.seq (Ad xL [.r, .l]) (.seq (.seq (Ad yL [.l]) (.block 2 (.loop b2L))) (Ad xL [.r, .r, .r])))) (FX f) := by
  unfold FX
  rw [x_r, x_rr, y_r]
  exact B0 (sev f _) (B0 (sev f _) (B0 (B0 (sev f _) (Aqz (A81 f (FB2_ok f)))) (sev f _)))
 rw [x_eq]; exact h
def FB1 (f : Nat) : SF := seqF cpC (Ad b1L [.r]) (evF cpC f (Ad b1L [.l])) (seqF cpC (Ad b1L [.r, .r]) (evF cpC f (Ad b1L [.r, .l])) (seqF cpC (Ad b1L [.r, .r, .r]) (blkF 1 (FX f)) (evF cpC f (Ad b1L [.r, .r, .r]))))
theorem b1_eq : b1L = .seq (Ad b1L [.l]) (.seq (Ad b1L [.r, .l]) (.seq (.block 1 xL) (Ad b1L [.r, .r, .r]))) := by kernel_rfl
theorem b1_r : Ad b1L [.r] = .seq (Ad b1L [.r, .l]) (.seq (.block 1 xL) (Ad b1L [.r, .r, .r])) := by kernel_rfl
theorem b1_rr : Ad b1L [.r, .r] = .seq (.block 1 xL) (Ad b1L [.r, .r, .r]) := by kernel_rfl
theorem FB1_ok (f : Nat) : Snd cpC b1L (FB1 f) := by
 have h : Snd cpC (.seq (Ad b1L [.l]) (.seq (Ad b1L [.r, .l]) (.seq (.block 1 xL) (Ad b1L [.r, .r, .r])))) (FB1 f) := by
  unfold FB1
  rw [b1_r, b1_rr]
  exact B0 (sev f _) (B0 (sev f _) (B0 (Aqz (FX_ok f)) (sev f _)))
 rw [b1_eq]; exact h
def zL : Code := Ad cpB [.r, .r, .l]
def FA (f : Nat) : SF := seqF cpC (Ad cpB [.r]) (evF cpC f (Ad cpB [.l])) (seqF cpC (Ad cpB [.r, .r]) (evF cpC f (Ad cpB [.r, .l])) (seqF cpC (Ad cpB [.r, .r, .r]) (seqF cpC (Ad zL [.r]) (evF cpC f (Ad zL [.l])) (blkF 0 (loopF cpC b1L (FB1 f) f))) (evF cpC f (Ad cpB [.r, .r, .r]))))
theorem c_eq : cpB = .seq (Ad cpB [.l]) (.seq (Ad cpB [.r, .l]) (.seq (.seq (Ad zL [.l]) (.block 0 (.loop b1L))) (Ad cpB [.r, .r, .r]))) := by kernel_rfl
theorem c_r : Ad cpB [.r] = .seq (Ad cpB [.r, .l]) (.seq (.seq (Ad zL [.l]) (.block 0 (.loop b1L))) (Ad cpB [.r, .r, .r])) := by kernel_rfl
theorem c_rr : Ad cpB [.r, .r] = .seq (.seq (Ad zL [.l]) (.block 0 (.loop b1L))) (Ad cpB [.r, .r, .r]) := by kernel_rfl
theorem z_r : Ad zL [.r] = .block 0 (.loop b1L) := by kernel_rfl
theorem FA_ok (f : Nat) : Snd cpC cpB (FA f) := by
 have h : Snd cpC (.seq (Ad cpB [.l]) (.seq (Ad cpB [.r, .l]) (.seq (.seq (Ad zL [.l]) (.block 0 (.loop b1L))) (Ad cpB [.r, .r, .r])))) (FA f) := by
  unfold FA
  rw [c_r, c_rr, z_r]
  exact B0 (sev f _) (B0 (sev f _) (B0 (B0 (sev f _) (Aqz (A81 f (FB1_ok f)))) (sev f _)))
 rw [c_eq]; exact h
def KE : XE → St → Option DTm := retK cpC Tryz.f29.results tmI
def K1 (f : Nat) : XE → St → Option DTm := blkK 0 (seqK cpC (Ad cpB [.r, .r, .r]) (evF cpC f (Ad cpB [.r, .r, .r]) DTm) KE)
def I1 (f j : Nat) : St → Option DTm := Bf (Bh cpC b1L (FB1 f DTm) (K1 f)) j
def K2 (f j : Nat) : XE → St → Option DTm := blkK 2 (seqK cpC (Ad xL [.r, .r, .r]) (evF cpC f (Ad xL [.r, .r, .r]) DTm) (blkK 1 (seqK cpC (Ad b1L [.r, .r, .r]) (evF cpC f (Ad b1L [.r, .r, .r]) DTm) (F3 cpC b1L (I1 f j) (K1 f)))))
def I2 (f j l : Nat) : St → Option DTm := Bf (Bh cpC b2L (FB2 f DTm) (K2 f j)) l
theorem run0 (f : Nat) (x : DTm) : FA f DTm (st0 cpC Tryz.f29 tmI x) KE = (clF 24 tySp x.2.2.1).bind fun y => I1 f f (S3 ((List.length y : Nat) : Int) 0 ⟨x.1, x.2.1, x.2.2.2.1, x.2.2.2.2, [], 0, 0, 0⟩ y) := by kernel_rfl
theorem run1 (f j : Nat) (n i : Int) (b : Bx) (sp : List DSp) : I1 f (j + 1) (S3 n i b sp) =
  (bif decide (i < n) then bif inB i (List.length sp) then (clF 24 (.slice tySl) (rdA ([], ()) sp (Int.toNat i)).1).bind fun y => I2 f j f (S7 i n i ((List.length y : Nat) : Int) 0 b y sp) else none
  else some (b.b0, b.b1, sp, b.b2, b.b3)) := by kernel_rfl
theorem run2 (f j l : Nat) (a n i m k : Int) (b : Bx) (rs : List (List DSl)) (sp : List DSp) : I2 f j (l + 1) (S7 a n i m k b rs sp) =
  (bif decide (k < m) then (bif okx f (a, n, i, m, k, b.b0, b.b1, b.b2, b.b3, b.c0, b.c1, b.c2, b.c3, rs, sp) then some (a, n, i, m, k, b.b0, b.b1, b.b2, b.b3, b.c0, b.c1, b.c2, b.c3, rs, sp) else none : Option T7).bind fun y =>
   I2 f j l (S7 y.1 y.2.1 y.2.2.1 y.2.2.2.1 (IntKind.wrap .i64 (y.2.2.2.2.1 + 1)) ⟨y.2.2.2.2.2.1, y.2.2.2.2.2.2.1, y.2.2.2.2.2.2.2.1, y.2.2.2.2.2.2.2.2.1, y.2.2.2.2.2.2.2.2.2.1, y.2.2.2.2.2.2.2.2.2.2.1, y.2.2.2.2.2.2.2.2.2.2.2.1, y.2.2.2.2.2.2.2.2.2.2.2.2.1⟩ y.2.2.2.2.2.2.2.2.2.2.2.2.2.1 y.2.2.2.2.2.2.2.2.2.2.2.2.2.2)
  else bif inB a (List.length sp) then I1 f j (S3 n (IntKind.wrap .i64 (i + 1)) b (List.set sp (Int.toNat a) (rs, ()))) else none) := by kernel_rfl
end
noncomputable section
def okP (f : Nat) (p : DSp) : Bool := appB 24 0 (List.length p.1) && (decide (p.1.length < f) && (decide (p.1.length < 4611686018427387904) && List.all p.1 (okR f)))
def okT (f : Nat) (x : DTm) : Bool := appB 24 0 (List.length x.2.2.1) && (decide (x.2.2.1.length < f) && (decide (x.2.2.1.length < 4611686018427387904) && List.all x.2.2.1 (okP f)))
theorem Lo {α : Type} {c : Bool} {x y : α} (h : c = true) : (bif c then x else y) = x := by rw [h]; rfl
theorem Arw {α : Type} {c : Bool} {x y : α} (h : c = false) : (bif c then x else y) = y := by rw [h]; rfl
theorem Aq8 (f j : Nat) (a : Nat) (n i m : Int) (b : Bx) (rs : List (List DSl)) (sp : List DSp) (ha : a < sp.length) (hsp : rdA ([], ()) sp a = (rs, ())) (hr : List.all rs (okR f) = true) (hl : rs.length < 4611686018427387904) : ∀ (l k : Nat), k ≤ rs.length → rs.length - k < l →
  I2 f j l (S7 (a : Int) n i ((List.length rs : Nat) : Int) (k : Int) b rs sp) = I1 f j (S3 n (IntKind.wrap .i64 (i + 1)) b sp)
 | 0, k, hk, hl => by omega
 | l + 1, k, hk, hkl => by
  refine (run2 f j l (a : Int) n i ((List.length rs : Nat) : Int) (k : Int) b rs sp).trans ?_
  by_cases hlt : k < rs.length
  ·refine (Lo (by simp; omega)).trans ?_
   have ho : okx f ((a : Int), n, i, ((List.length rs : Nat) : Int), (k : Int), b.b0, b.b1, b.b2, b.b3, b.c0, b.c1, b.c2, b.c3, rs, sp) = true := by
    show (decide ((0 : Int) ≤ (k : Int)) && (decide ((k : Int).toNat < rs.length) && okR f (rdA [] rs (k : Int).toNat))) = true
    rw [Int.toNat_natCast, List.all_eq_true.1 hr _ (Aow [] rs k hlt)]
    simp [hlt]
   refine (congrArg (fun z => Option.bind z _) (Lo (α := Option T7) ho)).trans ?_
   show I2 f j l (S7 (a : Int) n i ((List.length rs : Nat) : Int) (IntKind.wrap .i64 ((k : Int) + 1)) b rs sp) = _
   have hwr : IntKind.wrap .i64 ((k : Int) + 1) = ((k + 1 : Nat) : Int) := by rw [w64 (by omega)]; rfl
   rw [hwr]
   exact Aq8 f j a n i m b rs sp ha hsp hr hl l (k + 1) (by omega) (by omega)
  ·have e : k = rs.length := by omega
   subst e
   refine (Arw (by simp)).trans ((Lo (by simp [inB]; omega)).trans ?_)
   have hs : List.set sp (Int.toNat (a : Int)) (rs, ()) = sp := by rw [Int.toNat_natCast, ← hsp]; exact Ao3 _ sp a ha
   rw [hs]
theorem Aq7 (f : Nat) (b : Bx) (sp : List DSp) (hs : List.all sp (okP f) = true) (hl : sp.length < 4611686018427387904) : ∀ (j i : Nat), i ≤ sp.length → sp.length - i < j →
  I1 f j (S3 ((List.length sp : Nat) : Int) (i : Int) b sp) = some (b.b0, b.b1, sp, b.b2, b.b3)
 | 0, i, hk, hl => by omega
 | j + 1, i, hk, hkl => by
  refine (run1 f j ((List.length sp : Nat) : Int) (i : Int) b sp).trans ?_
  by_cases hlt : i < sp.length
  ·have hp := List.all_eq_true.1 hs _ (Aow ([], ()) sp i hlt)
   simp only [okP, Bool.and_eq_true, decide_eq_true_eq] at hp
   obtain ⟨h1, h2, h3, h4⟩ := hp
   refine (Lo (by simp; omega)).trans ((Lo (by simp [inB]; omega)).trans ?_)
   rw [Int.toNat_natCast]
   refine (congrArg (fun z => Option.bind z _) (Ma (t := .slice tySl) (x := (rdA ([], ()) sp i).1) h1)).trans ?_
   show I2 f j f (S7 (i : Int) ((List.length sp : Nat) : Int) (i : Int) ((List.length (rdA ([], ()) sp i).1 : Nat) : Int) ((0 : Nat) : Int) b (rdA ([], ()) sp i).1 sp) = _
   rw [Aq8 f j i ((List.length sp : Nat) : Int) (i : Int) 0 b (rdA ([], ()) sp i).1 sp hlt rfl h4 h3 f 0 (Nat.zero_le _) (by omega)]
   have hwr : IntKind.wrap .i64 ((i : Int) + 1) = ((i + 1 : Nat) : Int) := by rw [w64 (by omega)]; rfl
   rw [hwr]
   exact Aq7 f b sp hs hl j (i + 1) (by omega) (by omega)
  ·have e : i = sp.length := by omega
   subst e
   exact Arw (by simp)
theorem FA_all (f : Nat) (x : DTm) (h : okT f x = true) : fnF cpC Tryz.f29 tmI tmI (FA f) x = some x := by
 simp only [okT, Bool.and_eq_true, decide_eq_true_eq] at h
 obtain ⟨h1, h2, h3, h4⟩ := h
 refine (run0 f x).trans ?_
 refine (congrArg (fun z => Option.bind z _) (Ma (t := tySp) (x := x.2.2.1) h1)).trans ?_
 exact Aq7 f ⟨x.1, x.2.1, x.2.2.2.1, x.2.2.2.2, [], 0, 0, 0⟩ x.2.2.1 h4 h3 f 0 (Nat.zero_le _) (by omega)
def cpF (f : Nat) (x : DTm) : Option DTm := bif okT f x then some x else none
theorem cpF_ok (f : Nat) : Af Tryz.prog 29 (Ab tmI tmI (cpF f)) := Aw9 (C := cpC) (c := cpB) Tryz.func29 (by kernel_rfl) (by kernel_rfl) tmI tmI rfl rfl (cpF f) fun x y h => by
 obtain ⟨h1, h2⟩ := V7 (α := DTm) (c := okT f x) (x := x) (y := y) h
 have h3 := FA_all f x h1
 obtain ⟨e, s', k1, k2⟩ := FA_ok f DTm (st0 cpC Tryz.f29 tmI x) (retK cpC Tryz.f29.results tmI) x h3
 exact ⟨e, s', k1.trans (congrArg some h2), k2⟩
end
noncomputable section
def qS : List SL := [.pv .str, .pv (.int .i64), .pv (.int .i64), .pv (.int .i64), .pv (.slice tyW)]
def rgI : Sk := ⟨[.lf (.pv .str), .lf (.ptr 0 0)], [qS], []⟩
def rgO : Sk := ⟨[.lf (.pv .bool)], [qS], []⟩
noncomputable def rgC : Cfg := { P := Tryz.prog, env := Dn [], n := 120, npB := 1, npO := 0, hint := fun _ => none, pops := [] }
theorem mixS : Tryz.prog.follows .mixedOrders = true := by kernel_rfl
noncomputable def rgF : HLs rgI.tys → Option (HLs rgO.tys) := Ac rgC 0 Tryz.f86 rgI rgO
noncomputable def sgRg : Sig := Ab rgI rgO rgF
theorem A6k : Af Tryz.prog 86 sgRg := fn_ok (C := rgC) (l := []) rfl trivial mixS 0 Tryz.func86 (by kernel_rfl) (by kernel_rfl) rgI rgO rfl rfl (by decide) (by decide)
def ixI : Sk := ⟨[.lf (.own 0), .lf (.fn 86 [] [(0, 0)])], [qS], [some (9, .str)]⟩
def ixO : Sk := ⟨[.lf (.pv (.int .i64))], [qS], [some (9, .str)]⟩
abbrev DI : Type := (List Int) × Int × Int × Int × (List DW) × (List (List Int))
def kx2 : Sk := ⟨sparse 19 [(0, .lf (.own 0)), (1, .lf (.fn 86 [] [(0, 0)])), (7, .lf (.pv (.int .i64))), (8, .lf (.pv (.int .i64)))], [qS], [some (9, .str)]⟩
noncomputable def ixC : Cfg := { P := Tryz.prog, env := Dn [(86, [sgRg])], n := 120, npB := 1, npO := 1, hint := fun i => look none [(2, some kx2)] i, pops := [] }
noncomputable def ixF (f : Nat) : HLs ixI.tys → Option (HLs ixO.tys) := Ac ixC f Tryz.f102 ixI ixO
noncomputable def sgIx (f : Nat) : Sig := Ab ixI ixO (ixF f)
theorem sgIx_ok (f : Nat) : Af Tryz.prog 102 (sgIx f) := fn_ok (C := ixC) (l := [(86, [sgRg])]) rfl ⟨⟨A6k, trivial⟩, trivial⟩ mixS f Tryz.func102 (by kernel_rfl) (by kernel_rfl) ixI ixO rfl rfl (by decide) (by decide)
structure Sx where
 (p : List Int) (a b c : Int) (w : List DW)
noncomputable def ixB : Code := Au Tryz.f102
noncomputable def ixL : Code := Ad ixB [.r, .l, .r, .b, .b]
noncomputable def ixT (f j : Nat) (n i : Int) (x : Sx) (xs : List (List Int)) : Option (Int × DI) := Bf (Bh ixC ixL (ev ixC f ixL) (Be ixC f ixB [.r, .l, .r, .b] [] (retK ixC Tryz.f102.results ixO))) j (stOf kx2 120 (n, i, x.p, x.a, x.b, x.c, x.w, xs))
theorem ix0 (f : Nat) (x : Sx) (xs : List (List Int)) : ixF f (x.p, x.a, x.b, x.c, x.w, xs) = ixT f f ((List.length xs : Nat) : Int) 0 x xs := by kernel_rfl
theorem ix1 (f j : Nat) (n i : Int) (x : Sx) (xs : List (List Int)) : ixT f (j + 1) n i x xs =
  (bif decide (i < n) then bif inB i (List.length xs) then bif rdA [] xs (Int.toNat i) == x.p then some (i, x.p, x.a, x.b, x.c, x.w, xs) else ixT f j n (IntKind.wrap .i64 (i + 1)) x xs else none
  else some (-1, x.p, x.a, x.b, x.c, x.w, xs)) := by kernel_rfl
theorem A38 (f : Nat) (x : Sx) (xs : List (List Int)) (hl : xs.length < 4611686018427387904) : ∀ (j i : Nat), i ≤ xs.length → xs.length - i < j → (∀ y ∈ xs.take i, (y == x.p) = false) →
  (∃ k, k < xs.length ∧ (rdA [] xs k == x.p) = true ∧ (∀ y ∈ xs.take k, (y == x.p) = false) ∧ ixT f j ((List.length xs : Nat) : Int) (i : Int) x xs = some ((k : Int), x.p, x.a, x.b, x.c, x.w, xs)) ∨
  ((∀ y ∈ xs, (y == x.p) = false) ∧ ixT f j ((List.length xs : Nat) : Int) (i : Int) x xs = some (-1, x.p, x.a, x.b, x.c, x.w, xs))
 | 0, i, h1, h2, h3 => by omega
 | j + 1, i, h1, h2, h3 => by
  rw [ix1]
  by_cases hlt : i < xs.length
  ·rw [show decide ((i : Int) < ((List.length xs : Nat) : Int)) = true by simp; omega, show inB (i : Int) (List.length xs) = true by simp [inB]; omega]
   simp only [cond_true, Int.toNat_natCast]
   cases he : (rdA [] xs i == x.p) with
   | true => exact .inl ⟨i, hlt, he, h3, rfl⟩
   | false =>
    simp only [cond_false]
    have hwr : IntKind.wrap .i64 ((i : Int) + 1) = ((i + 1 : Nat) : Int) := by rw [w64 (by omega)]; rfl
    rw [hwr]
    refine A38 f x xs hl j (i + 1) (by omega) (by omega) fun y hy => ?_
    rw [List.take_succ_eq_append_getElem hlt, List.mem_append, List.mem_singleton] at hy
    rcases hy with hy | rfl
    ·exact h3 y hy
    ·have : rdA [] xs i = xs[i] := by unfold rdA; rw [List.getD_eq_getElem?_getD, List.getElem?_eq_getElem hlt]; rfl
     rw [← this]; exact he
  ·have e : i = xs.length := by omega
   subst e
   rw [show decide (((List.length xs : Nat) : Int) < ((List.length xs : Nat) : Int)) = false by simp]
   simp only [cond_false]
   exact .inr ⟨fun y hy => h3 y (by simpa using hy), trivial⟩
end
noncomputable section
theorem Bav {P : Program} {F : Nat → Prop} {s : St} {G : Gm} {vals : List Value} {w : World} (h : Holds F s G vals w) {l e T i : Nat} {te : Ty} {qx : List te.den} {z : List L} {xd : te.den} (hq : Aa s l = some ⟨e, te, qx⟩)
  (hte : Bi P e = some te) (hz : Bo P e = some z) (hxd : datum s te z = some xd) (he : A1 P T = some e) (h1 : te.size = 1) (hi : i ≤ List.length qx) (hn : 0 < List.length qx) (ty : Nat) :
  ∃ g cap, G.ow l = .slice (some ⟨g, 0, none⟩) (List.length qx) cap ∧ List.length qx ≤ cap ∧ ∃ w', (Builtin.clear_ #[T] ty #[.slice (if cap = i then some ⟨g, 0, none⟩ else some ⟨g, i, none⟩) (List.length qx - i) (cap - i)]).run P w = .ok (.tuple #[]) w' ∧
   Holds F (Al s l (some ⟨e, te, List.take i qx ++ List.replicate (List.length qx - i) xd⟩)) G vals w' ∧ ∀ nb no, Step nb no s G w (Al s l (some ⟨e, te, List.take i qx ++ List.replicate (List.length qx - i) xd⟩)) G w' := by
 obtain ⟨ii, zv, hii, hzv, hs1, hs2, hs3⟩ := Ft hte
 obtain ⟨i', zv', hi', hzv', rfl, hone⟩ := Ec hz
 rw [hii] at hi'
 cases hi'
 rw [hzv] at hzv'
 cases hzv'
 have hrep := Mk h [] hxd (Ey (fun u hu => Ex u hu) _ hone) (fun m hm => by
  exfalso
  have : ∀ l : List Value, A7 (l.map A0) = [] := by
   intro l
   induction l with
   | nil => rfl
   | cons u l ih =>
    simp only [List.map_cons]
    have : ∀ k, A0 u ≠ .own k := fun k e => by have := Rb k u; rw [e] at this; simp [L.noO] at this
    unfold A7
    split
    ·rename_i e; cases e
    ·rename_i k r e; injection e with e1 e2; exact absurd e1 (this k)
    ·rename_i r e1 e2; injection e2 with e3 e4; subst e4; exact ih
  rw [this] at hm
  cases hm)
 obtain ⟨h0, cs, hr, hrr⟩ := h.own l _ hq
 rcases hr.2 with ⟨_, e5⟩ | ⟨g, cap, cur, hG, _, hh, hnc, hm, hcur, htk⟩
 ·exact absurd e5 (by show List.length qx ≠ 0; omega)
 refine ⟨g, cap, hG, hnc, ?_⟩
 have hnc' : List.length qx ≤ cap := hnc
 by_cases hlt : i < List.length qx
 ·have hzs : (Builtin.zeroCells zv.cells (List.length qx - i)).toList = (List.replicate (List.length qx - i) zv.cells.toList).flatten := by
   rw [← Pk _ _ (by omega)]
   simp [Builtin.zeroCells]
  have hzl : (Builtin.zeroCells zv.cells (List.length qx - i)).toList.length = List.length qx - i := by
   simp [Builtin.zeroCells, hs2, h1]
  have hone2 : ∀ v ∈ (Builtin.zeroCells zv.cells (List.length qx - i)).toList, v.oneCell' = true := by
   intro v hv
   rw [hzs] at hv
   obtain ⟨y, hy, hv2⟩ := List.mem_flatten.1 hv
   rw [List.eq_of_mem_replicate hy] at hv2
   exact hone v hv2
  have hcs : List.length qx ≤ cur.size := by
   have e6 : List.length qx ≤ cap := hnc
   have e7 : cur.size = cap * te.size := hcur
   rw [h1] at e7; omega
  have hst := run_storeCells_at P g i e (Builtin.zeroCells zv.cells (List.length qx - i)).toList 0 cur w hh (by rw [hzl]; omega) hone2
  have hlen : (List.take i qx ++ List.replicate (List.length qx - i) xd).length = List.length qx := by simp; omega
  obtain ⟨h2, h3⟩ := Yt (xs' := List.take i qx ++ List.replicate (List.length qx - i) xd) (cur' := (cur.toList.take (i + 0) ++ (Builtin.zeroCells zv.cells (List.length qx - i)).toList ++ cur.toList.drop (i + 0 + (Builtin.zeroCells zv.cells (List.length qx - i)).toList.length)).toArray) h hq hG hh
   (by simp only [List.size_toArray, List.length_append, List.length_take, List.length_drop, hzl, Array.length_toList]; omega) hlen (by
    rw [hlen, h1, Nat.mul_one]
    simp only [Nat.add_zero]
    have e8 : (List.take i cur.toList).length = i := by simp; omega
    rw [List.take_left' (by rw [List.length_append, e8, hzl]; omega), hzs]
    have hA : RepRow w (okS F s G w) te (List.take i qx) (List.take i cur.toList) := by
     have e9 : cs = cur.toList.take (List.length qx) := by
      have e10 : cs = cur.toList.take (List.length qx * te.size) := Eq.symm htk
      rw [e10, h1, Nat.mul_one]
     have h7 : All2 (RepL w (okS F s G w)) (qx.flatMap (flat te)) cs := hrr
     have h8 : qx.flatMap (flat te) = (List.take i qx).flatMap (flat te) ++ (List.drop i qx).flatMap (flat te) := by rw [← List.flatMap_append, List.take_append_drop]
     have hfl : ∀ zs : List te.den, (zs.flatMap (flat te)).length = zs.length := fun zs => by
      induction zs with
      | nil => rfl
      | cons y zs ih => rw [List.flatMap_cons, List.length_append, ih, Dx, h1, List.length_cons]; omega
     have h10 := h7.take i
     rw [h8, List.take_left' (by rw [hfl]; simp; omega), e9, List.take_take, Nat.min_eq_left hi] at h10
     exact h10
    show All2 (RepL w (okS F s G w)) ((List.take i qx ++ List.replicate (List.length qx - i) xd).flatMap (flat te)) _
    rw [List.flatMap_append]
    exact All2.app hA (Pj hrep _))
  refine ⟨_, ?_, h2, h3⟩
  obtain ⟨m, hm⟩ : ∃ m, List.length qx - i = m + 1 := ⟨List.length qx - i - 1, by omega⟩
  rw [if_neg (show ¬ cap = i by omega)]
  rw [hm] at hst ⊢
  simp [Builtin.clear_, run_underlying (Bn he), zeroValue, typeInfo, hii, hzv, hst]
 ·have e9 : i = List.length qx := by omega
  have e10 : List.take i qx ++ List.replicate (List.length qx - i) xd = qx := by rw [e9]; simp
  have e11 : Al s l (some ⟨e, te, List.take i qx ++ List.replicate (List.length qx - i) xd⟩) = s := by rw [e10]; exact Wy hq
  rw [e11]
  refine ⟨w, ?_, h, fun nb no => Step.refl _ _ _ _ _⟩
  rw [show List.length qx - i = 0 by omega]
  split <;> simp [Builtin.clear_, run_underlying (Bn he)]
end
noncomputable section
def dlI : Sk := ⟨[.lf (.own 0), .lf (.fn 86 [] [(0, 0)])], [qS], [some (9, .str)]⟩
def dlO : Sk := ⟨[.lf (.own 1)], [qS], [none, some (9, .str)]⟩
def kd5 : Sk := ⟨sparse 42 [(0, .lf (.own 0)), (1, .lf (.fn 86 [] [(0, 0)])), (5, .lf (.pv (.int .i64))), (6, .lf (.pv (.int .i64)))], [qS], [some (9, .str)]⟩
def kd11 : Sk := ⟨sparse 42 [(0, .lf (.own 0)), (1, .lf (.fn 86 [] [(0, 0)])), (5, .lf (.pv (.int .i64)))], [qS], [some (9, .str)]⟩
noncomputable def dlC (f : Nat) : Cfg := { P := Tryz.prog, env := Dn [(102, [sgIx f]), (86, [sgRg])], n := 120, npB := 1, npO := 1, hint := fun i => look none [(5, some kd5), (11, some kd11)] i, pops := [41] }
theorem dlE (f : Nat) : Bp (dlC f) := fun g sg h => Ll (P := Tryz.prog) (l := [(102, [sgIx f]), (86, [sgRg])]) ⟨⟨sgIx_ok f, trivial⟩, ⟨A6k, trivial⟩, trivial⟩ g sg h
theorem dlD (f : Nat) : Ed (dlC f) := Mo mixS (dlE f)
noncomputable def D5 (i j : Int) (x : Sx) (xs : List (List Int)) : St := stOf kd5 120 (i, j, x.p, x.a, x.b, x.c, x.w, xs)
noncomputable def D11 (i : Int) (x : Sx) (xs : List (List Int)) : St := stOf kd11 120 (i, x.p, x.a, x.b, x.c, x.w, xs)
noncomputable def dB : Code := Au Tryz.f85
noncomputable def d11 : Code := Ad dB [.r, .r, .r, .r, .l]
noncomputable def o11 : Array Oper := opsOf d11
theorem d11_eq : d11 = .region 11 o11 false := by kernel_rfl
noncomputable def oSl : Oper := (o11.toList.drop 2).headD default
noncomputable def oCl : Oper := (o11.toList.drop 3).headD default
theorem o11_eq : o11.toList = o11.toList.take 2 ++ [oSl, oCl] := by kernel_rfl
noncomputable def D11a (i : Int) (x : Sx) (xs : List (List Int)) : St := ((D11 i x xs).put (some 36) (lf (.own 0))).put (some 37) (lf (pvI .i64 i))
theorem d11_run (f : Nat) (i : Int) (x : Sx) (xs : List (List Int)) : (o11.toList.take 2).foldl (fun z o => z.bind fun s => (Am (opE (dlC f)) o11 s o).val) (some (D11 i x xs)) = some (D11a i x xs) := by kernel_rfl
def cutZ (i : Nat) (xs : List (List Int)) : List (List Int) := List.take i xs ++ List.replicate (List.length xs - i) []
theorem zStr : ∃ z, Bo Tryz.prog 9 = some z ∧ ∀ s : St, datum s .str z = some ([] : List Int) := ⟨[.pv ⟨.str, ([] : List Int)⟩], by kernel_rfl, fun s => by kernel_rfl⟩
theorem del_ok (f : Nat) (i : Nat) (x : Sx) (xs : List (List Int)) (hi : i ≤ xs.length) (hn : 0 < xs.length) : Eu (dlC f) d11 (D11 (i : Int) x xs) .normal (D11 (i : Int) x (cutZ i xs)) := by
 rw [d11_eq]
 intro F G act w Q hH hQ
 refine wp_region_list ?_
 rw [o11_eq]
 refine Aom (fok_E (dlE f)) o11 _ (o11.toList.take 2) hH (d11_run f (i : Int) x xs) fun G1 a1 w1 k1 k2 k3 => ?_
 have hq : Aa (D11a (i : Int) x xs) 0 = some ⟨9, .str, xs⟩ := by kernel_rfl
 have hl36 : Ai ((D11a (i : Int) x xs).get (.tmp 36)) = some (.own 0) := by kernel_rfl
 have hl37 : int1 ((D11a (i : Int) x xs).get (.tmp 37)) = some (i : Int) := by kernel_rfl
 have hv36 := Hl k1 hq (As k1 hl36).1 (by show 0 < List.length xs; exact hn)
 obtain ⟨kd, e37, _⟩ := Dl k1 hl37
 obtain ⟨z, hz, hxd⟩ := zStr
 have hte : Bi Tryz.prog 9 = some .str := by kernel_rfl
 have hel : A1 Tryz.prog 45 = some 9 := by kernel_rfl
 have hsz : Ay Tryz.prog 9 = some 1 := by kernel_rfl
 have hput := fun u : Value => k1.put (some 38) (v := AV.dead) (u := u) trivial
 have hop : oSl.op = .slice 45 (.tmp 36) (some (.tmp 37)) none none := by kernel_rfl
 have hoc : oCl.op = .call { callee := .builtin .clear, args := #[.tmp 38], argTypes := #[45] } := by kernel_rfl
 have hin : cutB (i : Int) ((List.length xs : Nat) : Int) (List.length xs) = true := by simp [cutB]; omega
 obtain ⟨h0, cs, hr, hrr⟩ := k1.own 0 _ hq
 rcases hr.2 with ⟨_, e5⟩ | ⟨g, cap, cur, hG, _, hh, hnc, hm, hcur, htk⟩
 ·exact absurd e5 (by show List.length xs ≠ 0; omega)
 have hnc' : List.length xs ≤ cap := hnc
 replace hG : G1.ow 0 = .slice (some ⟨g, 0, none⟩) (List.length xs) cap := hG
 generalize hv : (Value.slice (if cap = i then some ⟨g, 0, none⟩ else some ⟨g, i, none⟩) (List.length xs - i) (cap - i)) = v
 obtain ⟨g', cap', hG', _, w2, hcl, hH2, hst2⟩ := Bav (T := 45) (hput v) (l := 0) (i := i) (te := .str) (e := 9) (qx := xs) (by kernel_rfl) hte hz (hxd _) hel rfl hi hn oCl.type
 rw [hG] at hG'
 cases hG'
 replace hcl : (Builtin.clear_ #[45] oCl.type #[v]).run Tryz.prog w1 = .ok (.tuple #[]) w2 := by rw [← hv]; exact hcl
 have hrun1 : (execOp a1.eval oSl).run Tryz.prog w1 = .ok (.value v) w1 := by
  have hb := Pm (P := Tryz.prog) (lo := some (.tmp 37)) (hi := none) k1 true (p := (i : Int)) (q := ((List.length xs : Nat) : Int)) (len := List.length xs) (cap := cap) hl37 rfl hin hnc'
  simp only [Int.toNat_natCast, Option.map_some, Option.map_none] at hb
  have ha : (⟨g, 0, none⟩ : Addr).add i = ⟨g, i, none⟩ := by simp [Addr.add]; intro h; exact h.symm
  simp [execOp, hop, hv36, hG, Instr.sliceAt, Instr.slice, run_underlying (Bn hel), hb, Ca hsz, ha]
  rw [← hv]
 replace hrun1 : (execOp a1.eval oSl).run (dlC f).P w1 = .ok (.value v) w1 := hrun1
 have hd1 : oSl.dst = some 38 := by kernel_rfl
 refine wpList_plain (by kernel_rfl) fun K hK => ?_
 unfold Oper.wp
 rw [hrun1]
 refine hK _ _ ?_
 rw [hd1]
 have hv38 : (a1.put (some 38) v).eval (.tmp 38) = v := by
  show (a1.tmps.setIfInBounds 38 v).getD 38 undef = v
  have h42 : a1.tmps.size = 42 := by
   have h5 := k1.slots.len
   rw [show (D11a (i : Int) x xs).slots.length = 42 by kernel_rfl] at h5
   simpa using h5.symm
  simp [h42]
 have hrun2 : (execOp (a1.put (some 38) v).eval oCl).run Tryz.prog w1 = .ok (.value (.tuple #[])) w2 := by
  simp only [execOp, hoc, resolve, invoke, builtin, Sem.run_bind, Sem.run_pure, Result.andThen_ok, List.map_toArray, List.map_cons, List.map_nil, hv38]
  simp [hcl]
 replace hrun2 : (execOp (a1.put (some 38) v).eval oCl).run (dlC f).P w1 = .ok (.value (.tuple #[])) w2 := hrun2
 have hd2 : oCl.dst = none := by kernel_rfl
 refine wpList_plain (by kernel_rfl) fun K2 hK2 => ?_
 unfold Oper.wp
 rw [hrun2]
 refine hK2 _ _ (wpList_nil ?_)
 rw [hd2]
 have hnm : norm (dlC f) (.region 11 #[] false) (Al ((D11a (i : Int) x xs).put (some 38) AV.dead) 0 (some ⟨9, .str, List.take i xs ++ List.replicate (List.length xs - i) []⟩)) some = some (D11 (i : Int) x (cutZ i xs)) := by kernel_rfl
 obtain ⟨s7, q1, q2⟩ := E9 hnm
 cases q1
 obtain ⟨G13, p1, p2⟩ := q2 F G1 _ w2 hH2
 have hst0 := Step.put (nb := 1) (no := 1) (s := D11a (i : Int) x xs) (G := G1) (w := w1) (some 38) AV.dead
 refine hQ G13 _ w2 .normal rfl p1 ?_ k3
 exact ((k2.le (by decide) (by decide)).trans (hst0.trans (hst2 _ _))).trans p2
theorem del_pt (f : Nat) (i : Int) (x : Sx) (xs : List (List Int)) (h : (decide (0 ≤ i) && (decide (i.toNat ≤ xs.length) && decide (0 < xs.length))) = true) : Eu (dlC f) d11 (D11 i x xs) .normal (D11 i x (cutZ i.toNat xs)) := by
 simp only [Bool.and_eq_true, decide_eq_true_eq] at h
 obtain ⟨h0, h1, h2⟩ := h
 obtain ⟨q, rfl⟩ : ∃ q : Nat, i = (q : Int) := ⟨i.toNat, by omega⟩
 rw [Int.toNat_natCast] at h1 ⊢
 exact del_ok f q x xs h1 h2
end
noncomputable section
abbrev D11T : Type := Int × (List Int) × Int × Int × Int × (List DW) × (List (List Int))
def okE : D11T → Bool | (i, _, _, _, _, _, xs) => decide (0 ≤ i) && (decide (i.toNat ≤ xs.length) && decide (0 < xs.length))
def outE : D11T → D11T | (i, p, a, b, c, w, xs) => (i, p, a, b, c, w, cutZ i.toNat xs)
def PD (f : Nat) : SF := Aop kd11 kd11 120 (fun x : D11T => bif okE x then some (outE x) else none)
theorem PD_ok (f : Nat) : Snd (dlC f) d11 (PD f) := A82 (kI := kd11) (kO := kd11) fun x y h => by
 obtain ⟨hx, he⟩ := V7 (α := D11T) (c := okE x) (x := outE x) (y := y) h
 obtain rfl : outE x = y := he
 obtain ⟨i, p, a, b, c, w, xs⟩ := x
 exact del_pt f i ⟨p, a, b, c, w⟩ xs hx
theorem sevD (f : Nat) (c : Code) : Snd (dlC f) c (evF (dlC f) f c) := A80 (dlE f) (dlD f) (show (1 : Nat) ≤ N0 by decide) (show (1 : Nat) ≤ N0 by decide) f c
def FD (f : Nat) : SF := seqF (dlC f) (Ad dB [.r]) (evF (dlC f) f (Ad dB [.l])) (seqF (dlC f) (Ad dB [.r, .r]) (evF (dlC f) f (Ad dB [.r, .l])) (seqF (dlC f) (Ad dB [.r, .r, .r]) (evF (dlC f) f (Ad dB [.r, .r, .l])) (seqF (dlC f) (Ad dB [.r, .r, .r, .r]) (evF (dlC f) f (Ad dB [.r, .r, .r, .l])) (seqF (dlC f) (Ad dB [.r, .r, .r, .r, .r]) (PD f) (evF (dlC f) f (Ad dB [.r, .r, .r, .r, .r]))))))
theorem dB_eq : dB = .seq (Ad dB [.l]) (.seq (Ad dB [.r, .l]) (.seq (Ad dB [.r, .r, .l]) (.seq (Ad dB [.r, .r, .r, .l]) (.seq d11 (Ad dB [.r, .r, .r, .r, .r]))))) := by kernel_rfl
theorem dB_1 : Ad dB [.r] = .seq (Ad dB [.r, .l]) (.seq (Ad dB [.r, .r, .l]) (.seq (Ad dB [.r, .r, .r, .l]) (.seq d11 (Ad dB [.r, .r, .r, .r, .r])))) := by kernel_rfl
theorem dB_2 : Ad dB [.r, .r] = .seq (Ad dB [.r, .r, .l]) (.seq (Ad dB [.r, .r, .r, .l]) (.seq d11 (Ad dB [.r, .r, .r, .r, .r]))) := by kernel_rfl
theorem dB_3 : Ad dB [.r, .r, .r] = .seq (Ad dB [.r, .r, .r, .l]) (.seq d11 (Ad dB [.r, .r, .r, .r, .r])) := by kernel_rfl
theorem dB_4 : Ad dB [.r, .r, .r, .r] = .seq d11 (Ad dB [.r, .r, .r, .r, .r]) := by kernel_rfl
theorem FD_ok (f : Nat) : Snd (dlC f) dB (FD f) := by
 have h : Snd (dlC f) (.seq (Ad dB [.l]) (.seq (Ad dB [.r, .l]) (.seq (Ad dB [.r, .r, .l]) (.seq (Ad dB [.r, .r, .r, .l]) (.seq d11 (Ad dB [.r, .r, .r, .r, .r])))))) (FD f) := by
  unfold FD
  rw [dB_1, dB_2, dB_3, dB_4]
  exact B0 (sevD f _) (B0 (sevD f _) (B0 (sevD f _) (B0 (sevD f _) (B0 (PD_ok f) (sevD f _)))))
 rw [dB_eq]; exact h
abbrev DL : Type := (List Int) × Int × Int × Int × (List DW) × (List (List Int))
def KD5 (f : Nat) : XE → St → Option DL := blkK 0 (seqK (dlC f) (Ad dB [.r, .r, .r, .r]) (seqF (dlC f) (Ad dB [.r, .r, .r, .r, .r]) (PD f) (evF (dlC f) f (Ad dB [.r, .r, .r, .r, .r])) DL) (retK (dlC f) Tryz.f85.results dlO))
def dL : Code := Ad dB [.r, .r, .r, .l, .r, .b, .b]
def DT5 (f j : Nat) (i k : Int) (x : Sx) (xs : List (List Int)) : Option DL := Bf (Bh (dlC f) dL (ev (dlC f) f dL) (KD5 f)) j (D5 i k x xs)
def DEnd (i : Int) (x : Sx) (xs : List (List Int)) : Option DL :=
 (bif okE (i, x.p, x.a, x.b, x.c, x.w, xs) then some (outE (i, x.p, x.a, x.b, x.c, x.w, xs)) else none : Option D11T).bind fun y =>
  bif cutB 0 y.1 (List.length y.2.2.2.2.2.2) && decide (0 < List.length y.2.2.2.2.2.2) then some (y.2.1, y.2.2.1, y.2.2.2.1, y.2.2.2.2.1, y.2.2.2.2.2.1, List.take (Int.toNat y.1) y.2.2.2.2.2.2) else none
theorem dl0 (f : Nat) (x : Sx) (xs : List (List Int)) : FD f DL (st0 (dlC f) Tryz.f85 dlI (x.p, x.a, x.b, x.c, x.w, xs)) (retK (dlC f) Tryz.f85.results dlO) =
  Option.bind (α := Int × DI) (ixF f (x.p, x.a, x.b, x.c, x.w, xs)) fun y => bif decide (y.1 = -1) then some y.2 else DT5 f f y.1 (IntKind.wrap .i64 (y.1 + 1)) ⟨y.2.1, y.2.2.1, y.2.2.2.1, y.2.2.2.2.1, y.2.2.2.2.2.1⟩ y.2.2.2.2.2.2 := by kernel_rfl
theorem dl1 (f j : Nat) (i k : Int) (x : Sx) (xs : List (List Int)) : DT5 f (j + 1) i k x xs =
  (bif decide (k < ((List.length xs : Nat) : Int)) then bif inB k (List.length xs) then
   (bif !(rdA [] xs (Int.toNat k) == x.p) then bif inB i (List.length xs) then DT5 f j (IntKind.wrap .i64 (i + 1)) (IntKind.wrap .i64 (k + 1)) x (List.set xs (Int.toNat i) (rdA [] xs (Int.toNat k))) else none
   else DT5 f j i (IntKind.wrap .i64 (k + 1)) x xs) else none
  else DEnd i x xs) := by kernel_rfl
end
noncomputable section
def B9 (p : List Int) (xs : List (List Int)) : List (List Int) := xs.filter fun y => !(y == p)
theorem Bhy {p v : List Int} (l : List (List Int)) (h : (v == p) = true) : B9 p (l ++ [v]) = B9 p l := by
 unfold B9
 rw [List.filter_append]
 simp [h]
theorem Bhz {p v : List Int} (l : List (List Int)) (h : (v == p) = false) : B9 p (l ++ [v]) = B9 p l ++ [v] := by
 unfold B9
 rw [List.filter_append]
 simp [h]
theorem Bcj (i : Nat) (xs : List (List Int)) (h : i ≤ xs.length) : (cutZ i xs).length = xs.length := by simp [cutZ]; omega
theorem Bck (i : Nat) (xs : List (List Int)) (h : i ≤ xs.length) : (cutZ i xs).take i = xs.take i := by
 unfold cutZ
 rw [List.take_left' (by simp; omega)]
theorem dEnd_eq (i : Nat) (x : Sx) (xs : List (List Int)) (hi : i ≤ xs.length) (hn : 0 < xs.length) : DEnd (i : Int) x xs = some (x.p, x.a, x.b, x.c, x.w, xs.take i) := by
 unfold DEnd
 have h1 : okE ((i : Int), x.p, x.a, x.b, x.c, x.w, xs) = true := by simp [okE]; omega
 rw [h1]
 show (bif cutB 0 (i : Int) (List.length (cutZ (Int.toNat (i : Int)) xs)) && decide (0 < List.length (cutZ (Int.toNat (i : Int)) xs)) then some (x.p, x.a, x.b, x.c, x.w, List.take (Int.toNat (i : Int)) (cutZ (Int.toNat (i : Int)) xs)) else none) = _
 rw [Int.toNat_natCast, Bcj i xs hi, Bck i xs hi]
 have h2 : (cutB 0 (i : Int) (List.length xs) && decide (0 < List.length xs)) = true := by simp [cutB]; omega
 rw [h2]; rfl
theorem Acm (f : Nat) (x : Sx) (xs0 : List (List Int)) (hl : xs0.length < 4611686018427387904) : ∀ (j k i : Nat) (xs : List (List Int)), xs.length = xs0.length → i ≤ k → k ≤ xs0.length → 0 < xs0.length → xs0.length - k < j →
  xs.take i = B9 x.p (xs0.take k) → xs.drop k = xs0.drop k → i ≤ xs.length →
  DT5 f j (i : Int) (k : Int) x xs = some (x.p, x.a, x.b, x.c, x.w, B9 x.p xs0)
 | 0, k, i, xs, h1, h2, h3, h4, h5, h6, h7, h8 => by omega
 | j + 1, k, i, xs, h1, h2, h3, h4, h5, h6, h7, h8 => by
  rw [dl1]
  by_cases hlt : k < xs0.length
  ·have hkx : k < xs.length := by omega
   rw [show decide ((k : Int) < ((List.length xs : Nat) : Int)) = true by simp; omega, show inB (k : Int) (List.length xs) = true by simp [inB]; omega, show inB (i : Int) (List.length xs) = true by simp [inB]; omega]
   simp only [cond_true, Int.toNat_natCast]
   have hv : rdA [] xs k = xs0[k] := by
    unfold rdA
    rw [List.getD_eq_getElem?_getD, List.getElem?_eq_getElem hkx]
    have e1 := congrArg (fun l => l[0]?) h7
    simp only [List.getElem?_drop, Nat.add_zero] at e1
    rw [List.getElem?_eq_getElem hkx, List.getElem?_eq_getElem hlt] at e1
    exact Option.some.inj e1
   have hwk : IntKind.wrap .i64 ((k : Int) + 1) = ((k + 1 : Nat) : Int) := by rw [w64 (by omega)]; rfl
   have hwi : IntKind.wrap .i64 ((i : Int) + 1) = ((i + 1 : Nat) : Int) := by rw [w64 (by omega)]; rfl
   have htk : xs0.take (k + 1) = xs0.take k ++ [xs0[k]] := List.take_succ_eq_append_getElem hlt
   have hdr : xs.drop (k + 1) = xs0.drop (k + 1) := by
    have := congrArg (List.drop 1) h7
    simpa [List.drop_drop, Nat.add_comm] using this
   rw [hwk, hwi, hv]
   cases he : (xs0[k] == x.p) with
   | true =>
    simp only [Bool.not_true, cond_false]
    refine Acm f x xs0 hl j (k + 1) i xs h1 (by omega) (by omega) h4 (by omega) ?_ hdr h8
    rw [h6, htk, Bhy _ he]
   | false =>
    simp only [Bool.not_false, cond_true]
    refine Acm f x xs0 hl j (k + 1) (i + 1) (List.set xs i xs0[k]) (by simpa using h1) (by omega) (by omega) h4 (by omega) ?_ ?_ (by simp; omega)
    ·have e2 : (List.set xs i xs0[k]).take (i + 1) = xs.take i ++ [xs0[k]] := by
      rw [List.take_succ_eq_append_getElem (by simp; omega), List.take_set_of_le (Nat.le_refl i)]
      simp
     rw [e2, h6, htk, Bhz _ he]
    ·rw [List.drop_set_of_lt (by omega)]; exact hdr
  ·have e : k = xs0.length := by omega
   subst e
   rw [show decide (((List.length xs0 : Nat) : Int) < ((List.length xs : Nat) : Int)) = false by simp; omega]
   simp only [cond_false]
   rw [dEnd_eq i x xs h8 (by omega), h6, List.take_length]
theorem FD_all (f : Nat) (x : Sx) (xs : List (List Int)) (hf : xs.length < f) (hl : xs.length < 4611686018427387904) : FD f DL (st0 (dlC f) Tryz.f85 dlI (x.p, x.a, x.b, x.c, x.w, xs)) (retK (dlC f) Tryz.f85.results dlO) = some (x.p, x.a, x.b, x.c, x.w, B9 x.p xs) := by
 rw [dl0, ix0]
 rcases A38 f x xs hl f 0 (Nat.zero_le _) (by omega) (by simp) with ⟨k, h1, h2, h3, h4⟩ | ⟨h1, h2⟩
 ·rw [show (0 : Int) = ((0 : Nat) : Int) from rfl, h4]
  show (bif decide ((k : Int) = -1) then some (x.p, x.a, x.b, x.c, x.w, xs) else DT5 f f (k : Int) (IntKind.wrap .i64 ((k : Int) + 1)) x xs) = _
  have hwk : IntKind.wrap .i64 ((k : Int) + 1) = ((k + 1 : Nat) : Int) := by rw [w64 (by omega)]; rfl
  rw [hwk, show decide ((k : Int) = -1) = false by simp]
  refine Acm f x xs hl f (k + 1) k xs rfl (by omega) (by omega) (by omega) (by omega) ?_ rfl (by omega)
  have hv : rdA [] xs k = xs[k] := by unfold rdA; rw [List.getD_eq_getElem?_getD, List.getElem?_eq_getElem h1]; rfl
  rw [hv] at h2
  rw [List.take_succ_eq_append_getElem h1]
  unfold B9
  rw [List.filter_append, List.filter_eq_self.2 (fun y hy => by rw [h3 y hy]; rfl)]
  simp [h2]
 ·rw [show (0 : Int) = ((0 : Nat) : Int) from rfl, h2]
  show some (x.p, x.a, x.b, x.c, x.w, xs) = _
  unfold B9
  rw [List.filter_eq_self.2 (fun y hy => by rw [h1 y hy]; rfl)]
def dlF (f : Nat) : DL → Option DL | (p, a, b, c, w, xs) => bif decide (xs.length < f) && decide (xs.length < 4611686018427387904) then some (p, a, b, c, w, B9 p xs) else none
theorem dlF_ok (f : Nat) : Af Tryz.prog 85 (Ab dlI dlO (dlF f)) := Aw9 (C := dlC f) (c := dB) Tryz.func85 (by kernel_rfl) (by kernel_rfl) dlI dlO rfl rfl (dlF f) fun x y h => by
 obtain ⟨p, a, b, c, w, xs⟩ := x
 obtain ⟨h1, h2⟩ := V7 (α := DL) (c := decide (List.length (α := List Int) xs < f) && decide (List.length (α := List Int) xs < 4611686018427387904)) (x := (p, a, b, c, w, B9 p xs)) (y := y) h
 simp only [Bool.and_eq_true, decide_eq_true_eq] at h1
 have h3 := FD_all f ⟨p, a, b, c, w⟩ xs h1.1 h1.2
 obtain ⟨e, s', k1, k2⟩ := FD_ok f DL _ _ _ h3
 exact ⟨e, s', k1.trans (congrArg some h2), k2⟩
end
end Go.Proofs.YtgmpjapnhdilaaaGreatV
