import Derived.Test.YtghmhkpgdmgepaaDevP
/-! Device: the reader's structures. -/
set_option linter.unusedVariables false
set_option linter.unusedSimpArgs false
namespace Go.Proofs.YtghmhkpgdmgepaaV
open Go Go.RowKit

theorem count_g (K : Nat) (hK : 100 ≤ K) (lim : Int) (b : List Int) (hb : Bytes b) (i : Nat) (hi : i ≤ b.length) : Good (c34 K (lim, b, (i : Int))) b.length fun o => NumS b i o ∧ o.1 ≤ lim := by
  unfold c34
  rw [f34_e, f34_t]
  refine Good.bind (num_g K hK b hb i hi) fun o ho => ?_
  rw [cd]
  by_cases h : o.1 > lim
  · rw [if_pos h]; exact .err (by decide) (by omega) (by omega)
  · rw [if_neg h]; exact .ok ⟨ho, by omega⟩

def NameS (b : List Int) (i : Nat) (o : List Int × List Int × Int) : Prop := ∃ j : Nat, o.2 = (b, (j : Int)) ∧ i ≤ j ∧ j ≤ b.length ∧ nameE o.1 = some (seg b i j) ∧ o.1.length ≤ 24
theorem name_g (K : Nat) (hK : 100 ≤ K) (b : List Int) (hb : Bytes b) (i : Nat) (hi : i ≤ b.length) : Good (c35 K (b, (i : Int))) b.length (NameS b i) := by
  have hlen := hb.2
  have loop : ∀ (m p t j : Nat) (n : Nat), n ≤ 24 → t ≤ n → n - t = m → m < j → p + t ≤ b.length → Good (f35_l4 K (c34 K) (c26 K) j (p : Int) (n : Int) (t : Int) b ((p + t : Nat) : Int)) b.length fun o => o = (seg b p (p + n), b, ((p + n : Nat) : Int)) ∧ p + n ≤ b.length := by
    intro m
    induction m with
    | zero =>
      intro p t j n hn ht hm hj hp
      obtain ⟨j, rfl⟩ : ∃ t, j = t + 1 := ⟨j - 1, by omega⟩
      obtain rfl : t = n := by omega
      rw [f35_el4, f35_tl4, cd, if_neg (by omega), ccutB, if_pos (by omega), cutL_nat]
      exact .ok ⟨rfl, hp⟩
    | succ m ih =>
      intro p t j n hn ht hm hj hp
      obtain ⟨j, rfl⟩ : ∃ t, j = t + 1 := ⟨j - 1, by omega⟩
      rw [f35_el4, f35_tl4, cd, if_pos (by omega)]
      refine Good.bind (next_g K b hb (p + t) hp) fun o ho => ?_
      obtain ⟨hlt, rfl⟩ := ho
      simp only []
      rw [suc_nat, w64 (by omega)]
      exact ih p (t + 1) j n hn (by omega) (by omega) (by omega) (by omega)
  unfold c35
  rw [f35_e, f35_t]
  refine Good.bind (count_g K hK 24 b hb i hi) fun o ho => ?_
  obtain ⟨⟨p, h1, h2, h3, h4, h5, h6⟩, h7⟩ := ho
  obtain ⟨v, d, q⟩ := o
  simp only [Prod.mk.injEq] at h1 h4 h5 h6 h7 ⊢
  obtain ⟨hd, hq⟩ := h1
  have hd' := hd.symm
  have hq' := hq.symm
  clear hd hq
  subst hd' hq'
  have hv : ((v.toNat : Nat) : Int) = v := by omega
  have := loop v.toNat p 0 K v.toNat (by omega) (by omega) (by omega) (by omega) h3
  rw [hv] at this
  rcases this with ⟨o, g1, g2, g3⟩ | ⟨c, a, g1, g2⟩
  · subst g2
    refine .inl ⟨_, g1, p + v.toNat, rfl, by omega, g3, ?_, ?_⟩
    · have hl := seg_len (b := b) (i := p) (j := p + v.toNat) g3
      have e : (seg b p (p + v.toNat)).length = v.toNat := by omega
      show nameE (seg b p (p + v.toNat)) = _
      unfold nameE
      rw [if_neg (by omega), e, h6, seg_app h2 (by omega) g3]
    · show (seg b p (p + v.toNat)).length ≤ 24
      rw [seg_len g3]; omega
  · exact .inr ⟨c, a, g1, g2⟩

theorem seqE_snoc {X : Type} (e : X → Option (List Int)) : ∀ (l : List X) (x : X), seqE e (l ++ [x]) = app2 (seqE e l) (e x)
  | [], x => by cases h : e x <;> simp [seqE, app2, h]
  | y :: r, x => by
    simp only [List.cons_append, seqE, seqE_snoc e r x]
    cases e y <;> cases seqE e r <;> cases e x <;> simp [app2]

def TakeS {X : Type} (e : X → Option (List Int)) (ok : X → Prop) (lim : Nat) (b : List Int) (i : Nat) (o : List Int × Int × List X) : Prop :=
  ∃ j : Nat, o.1 = b ∧ o.2.1 = (j : Int) ∧ i ≤ j ∧ j ≤ b.length ∧ putE lim e o.2.2 = some (seg b i j) ∧ ∀ x ∈ o.2.2, ok x
theorem take_g {X O : Type} (K : Nat) (hK : 100 ≤ K) (b : List Int) (hb : Bytes b) (lim : Nat) (hlim : lim ≤ 12) (sz : Nat) (hsz : sz ≤ 100) (e : X → Option (List Int)) (ok : X → Prop)
    (L : Nat → Int → Int → List Int → Int → List X → Option ((List Int × Int × List X) ⊕ (Int × Int))) (f : List Int → Int → Option (O ⊕ (Int × Int))) (mk : O → X) (nd : O → List Int) (nx : O → Int)
    (hL : ∀ j c t d p acc, L (j + 1) c t d p acc = bif decide (t < c) then ((f d p).bind (orP (fun o => bif appB sz acc.length (List.length [mk o]) then L j c (IntKind.wrap .i64 (t + 1)) (nd o) (nx o) (acc ++ [mk o]) else none) (fun o2 => some (.inr (o2.1, o2.2))))) else some (.inl (d, p, acc)))
    (hf : ∀ i : Nat, i ≤ b.length → Good (f b (i : Int)) b.length fun o => ∃ j : Nat, nd o = b ∧ nx o = (j : Int) ∧ i ≤ j ∧ j ≤ b.length ∧ e (mk o) = some (seg b i j) ∧ ok (mk o))
    (i : Nat) (hi : i ≤ b.length) :
    Good ((c34 K ((lim : Int), b, (i : Int))).bind (orP (fun o1 => L K o1.1 0 o1.2.1 o1.2.2 []) (fun o2 => some (.inr (o2.1, o2.2))))) b.length (TakeS e ok lim b i) := by
  refine Good.bind (count_g K hK lim b hb i hi) fun o ho => ?_
  obtain ⟨⟨p, h1, h2, h3, h4, h5, h6⟩, h7⟩ := ho
  obtain ⟨v, d, q⟩ := o
  simp only [Prod.mk.injEq] at h1 h4 h5 h6 h7 ⊢
  obtain ⟨hd, hq⟩ := h1
  have hd' := hd.symm
  have hq' := hq.symm
  clear hd hq
  subst hd' hq'
  have hv : ((v.toNat : Nat) : Int) = v := by omega
  have loop : ∀ (m : Nat) (acc : List X) (q j : Nat), v.toNat - acc.length = m → acc.length ≤ v.toNat → m < j → p ≤ q → q ≤ b.length → seqE e acc = some (seg b p q) → (∀ x ∈ acc, ok x) →
      Good (L j v (acc.length : Int) b (q : Int) acc) b.length (TakeS e ok lim b i) := by
    intro m
    induction m with
    | zero =>
      intro acc q j hm ha hj hpq hq hs hok
      obtain ⟨j, rfl⟩ : ∃ t, j = t + 1 := ⟨j - 1, by omega⟩
      rw [hL, cd, if_neg (by omega)]
      refine .ok ⟨q, rfl, rfl, by omega, hq, ?_, hok⟩
      unfold putE
      have e1 : acc.length = v.toNat := by omega
      rw [if_neg (by simp only []; omega)]
      simp only []
      rw [one_count, hs, e1, h6, app2_some, seg_app h2 hpq hq]
    | succ m ih =>
      intro acc q j hm ha hj hpq hq hs hok
      obtain ⟨j, rfl⟩ : ∃ t, j = t + 1 := ⟨j - 1, by omega⟩
      rw [hL, cd, if_pos (by omega)]
      refine Good.bind (hf q hq) fun o ho => ?_
      obtain ⟨j2, g1, g2, g3, g4, g5, g6⟩ := ho
      have hb2 : (acc.length + 1) * sz ≤ 13 * 100 := Nat.mul_le_mul (by omega) hsz
      rw [cappB, if_pos (by simp only [List.length_singleton]; omega), suc_nat, w64 (by omega), g1, g2]
      have := ih (acc ++ [mk o]) j2 j (by simp; omega) (by simp; omega) (by omega) (by omega) g4 (by rw [seqE_snoc, hs, g5, app2_some, seg_app hpq g3 g4]) (fun x hx => by
        rcases List.mem_append.1 hx with hx | hx
        · exact hok x hx
        · simp at hx; subst hx; exact g6)
      rw [List.length_append, List.length_singleton] at this
      exact this
  exact loop v.toNat [] p K (by simp) (by simp) (by omega) (by omega) h3 (by rw [seg_self]; rfl) (by simp)
end Go.Proofs.YtghmhkpgdmgepaaV
