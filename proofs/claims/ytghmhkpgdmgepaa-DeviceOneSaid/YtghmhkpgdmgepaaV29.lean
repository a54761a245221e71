import Derived.Test.YtghmhkpgdmgepaaV28
/-! The V engine, 29: from a root's contract to a walk; what came in as data. -/
set_option linter.unusedVariables false
set_option linter.unusedSimpArgs false
namespace Go.Proofs.YtghmhkpgdmgepaaV
open Go Go.RowKit

section
variable {P : Program} {F : Nat → Prop} {s s' : St} {G : Gm} {W w w' : World} {vals : List Value}

theorem cell_at {a : Addr} {v : Value} (h : W.cell? a = some v) : a.spot = none ∧ a.block < W.heap.size := by
  unfold World.cell? at h
  split at h
  · rename_i hb
    refine ⟨?_, (Array.getElem?_eq_some_iff.1 hb).1⟩
    split at h
    · cases h
    · rename_i hz; simpa using hz
  · cases h

/-- A slice of whole numbers that came in. -/
theorem rep_ints {k : IntKind} {ok : Nat → Prop} {a : Option Addr} {len cap : Nat} {zs : List Int}
    (h : (a = none ∧ len = 0 ∧ cap = 0 ∧ zs = []) ∨ ∃ x, a = some x ∧ len ≤ cap ∧ cap ≤ maxLen ∧ zs.length = cap ∧ (∀ i, i < zs.length → W.cell? (x.add i) = some (.int k (zs.getD i 0))) ∧ ∀ n ∈ zs, (Lit.int k n).wf = true)
    (hok : ∀ b, b < W.heap.size → ok b) : Rep W ok (.slice (.int k)) (zs.take len) [.slice a len cap] := by
  show RepSl (α := Int) W ok (fun (x : Int) es => es = [.int k x] ∧ (Lit.int k x).wf = true) 1 (zs.take len) _
  rcases h with ⟨rfl, rfl, rfl, rfl⟩ | ⟨x, rfl, h1, h2, h3, h4, h5⟩
  · exact ⟨none, 0, rfl, Nat.le_refl _, Nat.zero_le _, fun e => absurd rfl e⟩
  · have hl : (zs.take len).length = len := by rw [List.length_take]; omega
    refine ⟨some x, cap, by rw [hl], by rw [hl]; exact h1, h2, fun hne => ?_⟩
    have h0 : 0 < len := by
      rcases Nat.eq_zero_or_pos len with e | e
      · subst e; exact absurd rfl hne
      · exact e
    have hc := h4 0 (by omega)
    obtain ⟨c1, c2⟩ := cell_at hc
    refine ⟨x, rfl, c1, hok _ c2, fun i y hy => ⟨[.int k y], ?_, ?_⟩⟩
    · have hi : i < zs.length := by
        have := (List.getElem?_eq_some_iff.1 hy).1
        rw [hl] at this
        omega
      have hy2 : zs[i]? = some y := by
        rw [List.getElem?_take] at hy
        split at hy
        · exact hy
        · cases hy
      exact ⟨rfl, h5 y (List.mem_of_getElem? hy2)⟩
    · intro j v hv
      have hj : j = 0 := by
        cases j with
        | zero => rfl
        | succ n => simp at hv
      subst hj
      simp at hv
      subst hv
      have hy2 : zs[i]? = some y := by
        rw [List.getElem?_take] at hy
        split at hy
        · exact hy
        · cases hy
      have hi : i < zs.length := (List.getElem?_eq_some_iff.1 hy2).1
      have := h4 i hi
      rw [List.getD_eq_getElem?_getD, hy2] at this
      simpa [Addr.add] using this

theorem ints_wf {k : IntKind} {a : Option Addr} {len cap : Nat} {zs : List Int}
    (h : (a = none ∧ len = 0 ∧ cap = 0 ∧ zs = []) ∨ ∃ x, a = some x ∧ len ≤ cap ∧ cap ≤ maxLen ∧ zs.length = cap ∧ (∀ i, i < zs.length → W.cell? (x.add i) = some (.int k (zs.getD i 0))) ∧ ∀ n ∈ zs, (Lit.int k n).wf = true) :
    ∀ n ∈ zs.take len, (Lit.int k n).wf = true := by
  intro n hn
  rcases h with ⟨rfl, rfl, rfl, rfl⟩ | ⟨x, rfl, h1, h2, h3, h4, h5⟩
  · simp at hn
  · exact h5 n (List.mem_of_mem_take hn)
theorem ints_len {k : IntKind} {a : Option Addr} {len cap : Nat} {zs : List Int}
    (h : (a = none ∧ len = 0 ∧ cap = 0 ∧ zs = []) ∨ ∃ x, a = some x ∧ len ≤ cap ∧ cap ≤ maxLen ∧ zs.length = cap ∧ (∀ i, i < zs.length → W.cell? (x.add i) = some (.int k (zs.getD i 0))) ∧ ∀ n ∈ zs, (Lit.int k n).wf = true) :
    (zs.take len).length ≤ maxLen := by
  rw [List.length_take]
  rcases h with ⟨rfl, rfl, rfl, rfl⟩ | ⟨x, rfl, h1, h2, h3, h4, h5⟩
  · simp
  · omega

theorem ha_slice_mk {t : Ty} {xs : List t.den} {v : Value} (h : Rep w (okS F s G w) (.slice t) xs [v]) : HA (HR F s G w) (lf (.pv ⟨.slice t, xs⟩)) v := h

def boolO : Sk := ⟨[.lf (.pv .bool)], [], []⟩
/-- The walk of a law out of its contract. -/
theorem root_walk {g : Nat} {kin : Sk} {f : HLs kin.tys → Option Bool} (h : SigOK P g ⟨kin, boolO, mkFun kin.tys boolO.tys f⟩) (h1 : kin.boxes = []) (h2 : kin.owns = []) {x : HLs kin.tys} (hx : f x = some true)
    (hv : ∀ (G : Gm) (s : St), s.boxes = [] → s.owns = [] → All2 (HA (HR (fun _ => False) s G W)) (encAs kin.slots (toPL kin.tys x)) vals) :
    Calls P g vals.toArray W fun e W' => e = .returned (.bool true) ∧ Below W.heap.size W W' := by
  have z1 : szS kin = 0 := by simp [szS, h1, h2]
  have hrun : (mkFun kin.tys boolO.tys f).run (List PL) (toPL kin.tys x) some = some [⟨.bool, true⟩] := by
    simp only [mkFun]
    rw [ofPL_toPL]
    simp only [hx]
    rfl
  have hH : Holds (fun _ => False) (enc kin 0 (toPL kin.tys x)) ⟨fun _ => 0, fun _ => .slice none 0 0, fun _ => 0⟩ vals W :=
    holds_data (enc_boxes0 h1) (enc_owns0 h2) (fun k hk => hk.elim) (hv _ _ (enc_boxes0 h1) (enc_owns0 h2))
  have hc := h.2 _ _ hrun (fun _ => False) ⟨fun _ => 0, fun _ => .slice none 0 0, fun _ => 0⟩ vals W (by simp only [z1]; exact hH)
  refine hc.mono fun e W' he => ?_
  obtain ⟨G', rv, e1, e2, e3⟩ := he
  refine ⟨?_, e3.keeps.os, e3.keeps.tape, e3.keeps.output, e3.keeps.size, fun k hk => e3.keeps.block k hk ?_⟩
  · have hs := e2.slots
    have hs2 : All2 (HA (HR (fun _ => False) (enc boolO (szS boolO) [⟨.bool, true⟩]) G' W')) [lf (.pv ⟨.bool, true⟩)] rv := hs
    cases hs2 with
    | cons a b =>
      cases b
      have := ha_bool a
      subst this
      exact e1
  · simp only [z1]
    exact not_live (enc_boxes0 h1) (enc_owns0 h2)
end
end Go.Proofs.YtghmhkpgdmgepaaV
