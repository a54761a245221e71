import Derived.Test.YtghmhkpgdmgepaaDevE
/-! Device: the writer's functions write the plain bytes. -/
set_option linter.unusedVariables false
set_option linter.unusedSimpArgs false
namespace Go.Proofs.YtghmhkpgdmgepaaV
open Go Go.RowKit

theorem wr_app2 (b : List Int) (x y : Option (List Int)) : wr b (app2 x y) = (wr b x).bind (orP (fun o => wr o y) (fun _ => some (.inr ()))) := by
  cases x with
  | none => rfl
  | some c => cases y <;> simp [wr, app2, orP]
theorem wr_end (x : Option (List Int ⊕ Unit)) : x.bind (orP (fun o => some (.inl o)) (fun _ => some (.inr ()))) = x := by
  cases x with
  | none => rfl
  | some y => cases y <;> rfl
theorem wr_bind {β : Type} {b : List Int} {x : Option (List Int)} {f f' : List Int → Option β} {g : Unit → Option β} (h : ∀ c, x = some c → f (b ++ c) = f' (b ++ c)) : (wr b x).bind (orP f g) = (wr b x).bind (orP f' g) := by
  cases x with
  | none => rfl
  | some c => simp only [wr, Option.bind_some, orP]; exact h c rfl

theorem name_w (k : Nat) (hk : 20 ≤ k) (s : List Int) (hs : s.length ≤ maxLen) (b : List Int) (hb : b.length ≤ 900000) : c21 k (s, b) = wr b (nameE s) := by
  unfold c21
  rw [f21_e, f21_t, cd]
  unfold nameE
  by_cases h : 24 < s.length
  · rw [if_pos (by omega), if_pos h]; rfl
  · rw [if_neg (by omega), if_neg h, f21_ej2, f21_tj2, num_w k hk _ (by intro x hx; simp at hx; subst hx; unfold I64; omega) (by simp) _ (by simp; omega)]
    have hv : (vi s.length).length = 1 := by rw [vi_small (by omega)]; rfl
    simp only [numE, show ¬ ((s.length : Int) < 0) by omega, if_false, Option.map_some, wr, Option.bind_some, orP, Int.toNat_natCast, List.append_nil, cappB]
    rw [if_pos (by simp only [List.length_append]; omega), List.append_assoc]

def OkW (x : YT0) : Prop := x.1.length ≤ maxLen ∧ I64 x.2.1 ∧ I64 x.2.2.1
theorem i64s2 {a b : Int} (ha : I64 a) (hb : I64 b) : ∀ x ∈ [a, b], I64 x := by
  intro x hx; simp at hx; rcases hx with rfl | rfl <;> assumption
theorem i64s3 {a b c : Int} (ha : I64 a) (hb : I64 b) (hc : I64 c) : ∀ x ∈ [a, b, c], I64 x := by
  intro x hx; simp at hx; rcases hx with rfl | rfl | rfl <;> assumption
theorem walk_w (k : Nat) (hk : 20 ≤ k) (x : YT0) (hx : OkW x) (b : List Int) (hb : b.length ≤ 800000) : c43 k (x.1, x.2.1, x.2.2.1, b) = wr b (walkE x) := by
  unfold c43
  rw [f43_e, f43_t, name_w k hk _ hx.1 _ (by omega)]
  unfold walkE
  rw [wr_app2]
  refine wr_bind fun c hc => ?_
  have := nameE_len hc
  rw [wr_end, num_w k hk _ (i64s2 hx.2.1 hx.2.2) (by simp) _ (by simp only [List.length_append, List.length_cons, List.length_nil]; omega)]
theorem walk_len {x : YT0} (hx : OkW x) (c : List Int) (h : walkE x = some c) : c.length ≤ 43 := by
  exact app2_len h (fun c hc => nameE_len hc) (fun c hc => numE_len (i64s2 hx.2.1 hx.2.2) hc)

/-- The loop of a row's elements. -/
theorem put_loop {X : Type} (z : X) (L : Nat → List X → Int → Int → List Int → Option (List Int ⊕ Unit)) (f : X → List Int → Option (List Int ⊕ Unit)) (e : X → Option (List Int)) (B cap : Nat)
    (hL : ∀ j l n i b, L (j + 1) l n i b = bif decide (i < n) then (bif inB i l.length then (f (rdA z l i.toNat) b).bind (orP (fun o1 => L j l n (IntKind.wrap .i64 (i + 1)) o1) (fun _ => some (.inr ()))) else none) else some (.inl b))
    (l : List X) (hlen : l.length ≤ 100) (hf : ∀ x ∈ l, ∀ b : List Int, b.length ≤ cap → f x b = wr b (e x)) (hB : ∀ x ∈ l, ∀ c, e x = some c → c.length ≤ B) :
    ∀ (r p : List X) (b : List Int) (j : Nat), l = p ++ r → r.length < j → b.length + r.length * B ≤ cap → L j l (l.length : Int) (p.length : Int) b = wr b (seqE e r) := by
  intro r
  induction r with
  | nil =>
    intro p b j e hj hb
    obtain ⟨j, rfl⟩ : ∃ t, j = t + 1 := ⟨j - 1, by simp at hj; omega⟩
    have : l.length = p.length := by rw [e]; simp
    rw [hL, cd, if_neg (by omega)]
    simp [wr, seqE]
  | cons x r ih =>
    intro p b j el hj hb
    obtain ⟨j, rfl⟩ : ∃ t, j = t + 1 := ⟨j - 1, by simp at hj; omega⟩
    have hl2 : l.length = p.length + r.length + 1 := by rw [el]; simp; omega
    simp only [List.length_cons, Nat.succ_mul] at hj hb
    rw [hL, cd, if_pos (by omega), cinB, if_pos (by omega), rdA_nat]
    have hg : l.getD p.length z = x := by rw [el, getD_mid]
    rw [hg, hf x (by rw [el]; simp) b (by omega)]
    unfold seqE
    rw [wr_app2]
    refine wr_bind fun c hc => ?_
    have h1 := hB x (by rw [el]; simp) c hc
    have := ih (p ++ [x]) (b ++ c) j (by rw [el]; simp) (by omega) (by simp only [List.length_append]; omega)
    rw [show ((p ++ [x]).length : Int) = ((p.length + 1 : Nat) : Int) by simp] at this
    rw [suc_nat, w64 (by omega), this]

theorem count_w (k : Nat) (hk : 20 ≤ k) (n : Nat) (hn : n ≤ 100) (b : List Int) (hb : b.length ≤ 900000) : c12 k ([(n : Int)], b) = wr b (numE [(n : Int)]) :=
  num_w k hk _ (by intro x hx; simp at hx; subst hx; unfold I64; omega) (by simp) _ (by simp; omega)
theorem count_len {n : Nat} (hn : n ≤ 100) {c : List Int} (h : numE [(n : Int)] = some c) : c.length = 1 := by
  simp only [numE] at h
  split at h
  · cases h
  · cases h; rw [vi_small (by omega)]; rfl

theorem putWalk_w (k : Nat) (hk : 120 ≤ k) (l : List YT0) (hl : ∀ x ∈ l, OkW x) (b : List Int) (hb : b.length ≤ 700000) : c42 k (l, (8 : Int), b) = wr b (putE 8 walkE l) := by
  unfold c42
  rw [f42_e, f42_t, cd]
  unfold putE
  by_cases h : 8 < l.length
  · rw [if_pos (by omega), if_pos h]; rfl
  · rw [if_neg (by omega), if_neg h, f42_ej2, f42_tj2, count_w k (by omega) _ (by omega) _ (by omega), wr_app2]
    refine wr_bind fun c hc => ?_
    have hc1 := count_len (by omega) hc
    have hm : l.length * 43 ≤ 8 * 43 := Nat.mul_le_mul_right _ (by omega)
    exact put_loop zt0 (f42_l4 k (c12 k) (c43 k)) (fun x b => c43 k (x.1, x.2.1, x.2.2.1, b)) walkE 43 800000 (fun j l n i b => by rw [f42_el4, f42_tl4]) l (by omega)
      (fun x hx b hb => walk_w k (by omega) x (hl x hx) b hb) (fun x hx => walk_len (hl x hx)) l [] (b ++ c) k rfl (by omega) (by simp only [List.length_append]; omega)

def OkS (x : YT1) : Prop := x.1.length ≤ maxLen ∧ I64 x.2.1 ∧ I64 x.2.2.1 ∧ I64 x.2.2.2.1 ∧ ∀ y ∈ x.2.2.2.2.1, OkW y
theorem slot_w (k : Nat) (hk : 120 ≤ k) (x : YT1) (hx : OkS x) (b : List Int) (hb : b.length ≤ 600000) : c39 k (x.1, x.2.1, x.2.2.1, x.2.2.2.1, x.2.2.2.2.1, b) = wr b (slotE x) := by
  unfold c39
  rw [f39_e, f39_t, name_w k (by omega) _ hx.1 _ (by omega)]
  unfold slotE
  rw [wr_app2]
  refine wr_bind fun c hc => ?_
  have := nameE_len hc
  rw [num_w k (by omega) _ (i64s3 hx.2.1 hx.2.2.1 hx.2.2.2.1) (by simp) _ (by simp only [List.length_append, List.length_cons, List.length_nil]; omega), wr_app2]
  refine wr_bind fun d hd => ?_
  have h2 := numE_len (i64s3 hx.2.1 hx.2.2.1 hx.2.2.2.1) hd
  simp only [List.length_cons, List.length_nil] at h2
  rw [wr_end, putWalk_w k hk _ hx.2.2.2.2 _ (by simp only [List.length_append]; omega)]
theorem slot_len {x : YT1} (hx : OkS x) (c : List Int) (h : slotE x = some c) : c.length ≤ 400 := by
  have := app2_len (m := 25) (n := 27 + (1 + 8 * 43)) h (fun c hc => nameE_len hc) (fun c hc => app2_len hc (fun c hc => numE_len (i64s3 hx.2.1 hx.2.2.1 hx.2.2.2.1) hc) (fun c hc => putE_len (by omega) (fun x2 hx2 => walk_len (hx.2.2.2.2 x2 hx2)) hc))
  omega
def OkR (l : List YT1) : Prop := ∀ x ∈ l, OkS x
theorem ring_w (k : Nat) (hk : 120 ≤ k) (l : List YT1) (hl : OkR l) (b : List Int) (hb : b.length ≤ 500000) : c33 k (l, b) = wr b (ringE l) := by
  unfold c33
  rw [f33_e, f33_t, wr_end]
  unfold c38
  rw [f38_e, f38_t, cd]
  unfold ringE putE
  by_cases h : 4 < l.length
  · rw [if_pos (by omega), if_pos h]; rfl
  · rw [if_neg (by omega), if_neg h, f38_ej2, f38_tj2, count_w k (by omega) _ (by omega) _ (by omega), wr_app2]
    refine wr_bind fun c hc => ?_
    have hc1 := count_len (by omega) hc
    have hm : l.length * 400 ≤ 4 * 400 := Nat.mul_le_mul_right _ (by omega)
    exact put_loop zt1 (f38_l4 k (c12 k) (c39 k)) (fun x b => c39 k (x.1, x.2.1, x.2.2.1, x.2.2.2.1, x.2.2.2.2.1, b)) slotE 400 600000 (fun j l n i b => by rw [f38_el4, f38_tl4]) l (by omega)
      (fun x hx b hb => slot_w k (by omega) x (hl x hx) b hb) (fun x hx => slot_len (hl x hx)) l [] (b ++ c) k rfl (by omega) (by simp only [List.length_append]; omega)
theorem ring_len {l : List YT1} (hl : OkR l) (c : List Int) (h : ringE l = some c) : c.length ≤ 1700 := by
  have := putE_len (lim := 4) (by omega) (fun x hx => slot_len (hl x hx)) h
  omega
def OkP (x : (List (List YT1)) × Unit) : Prop := ∀ r ∈ x.1, OkR r
theorem span_w (k : Nat) (hk : 120 ≤ k) (x : (List (List YT1)) × Unit) (hl : OkP x) (b : List Int) (hb : b.length ≤ 400000) : c23 k (x.1, b) = wr b (spanE x) := by
  unfold c23
  rw [f23_e, f23_t, wr_end]
  unfold c32
  rw [f32_e, f32_t, cd]
  unfold spanE putE
  obtain ⟨l, u⟩ := x
  simp only []
  by_cases h : 2 < l.length
  · rw [if_pos (by omega), if_pos h]; rfl
  · rw [if_neg (by omega), if_neg h, f32_ej2, f32_tj2, count_w k (by omega) _ (by omega) _ (by omega), wr_app2]
    refine wr_bind fun c hc => ?_
    have hc1 := count_len (by omega) hc
    have hm : l.length * 1700 ≤ 2 * 1700 := Nat.mul_le_mul_right _ (by omega)
    exact put_loop [] (f32_l4 k (c12 k) (c33 k)) (fun x b => c33 k (x, b)) ringE 1700 500000 (fun j l n i b => by rw [f32_el4, f32_tl4]) l (by omega)
      (fun x hx b hb => ring_w k (by omega) x (hl x hx) b hb) (fun x hx => ring_len (hl x hx)) l [] (b ++ c) k rfl (by omega) (by simp only [List.length_append]; omega)
theorem span_len {x : (List (List YT1)) × Unit} (hl : OkP x) (c : List Int) (h : spanE x = some c) : c.length ≤ 3500 := by
  have := putE_len (lim := 2) (by omega) (fun y hy => ring_len (hl y hy)) h
  omega
theorem spans_w (k : Nat) (hk : 120 ≤ k) (l : List ((List (List YT1)) × Unit)) (hl : ∀ x ∈ l, OkP x) (b : List Int) (hb : b.length ≤ 350000) : c22 k (l, (4 : Int), b) = wr b (putE 4 spanE l) := by
  unfold c22
  rw [f22_e, f22_t, cd]
  unfold putE
  by_cases h : 4 < l.length
  · rw [if_pos (by omega), if_pos h]; rfl
  · rw [if_neg (by omega), if_neg h, f22_ej2, f22_tj2, count_w k (by omega) _ (by omega) _ (by omega), wr_app2]
    refine wr_bind fun c hc => ?_
    have hc1 := count_len (by omega) hc
    have hm : l.length * 3500 ≤ 4 * 3500 := Nat.mul_le_mul_right _ (by omega)
    exact put_loop ([], ()) (f22_l4 k (c12 k) (c23 k)) (fun x b => c23 k (x.1, b)) spanE 3500 400000 (fun j l n i b => by rw [f22_el4, f22_tl4]) l (by omega)
      (fun x hx b hb => span_w k (by omega) x (hl x hx) b hb) (fun x hx => span_len (hl x hx)) l [] (b ++ c) k rfl (by omega) (by simp only [List.length_append]; omega)
def OkT (x : YT3) : Prop := x.1.length ≤ maxLen ∧ I64 x.2.1 ∧ I64 x.2.2.2.1.1 ∧ I64 x.2.2.2.1.2.1 ∧ ∀ y ∈ x.2.2.1, OkP y
theorem timing_w (k : Nat) (hk : 120 ≤ k) (x : YT3) (hx : OkT x) (b : List Int) (hb : b.length ≤ 300000) : c14 k (x.1, x.2.1, x.2.2.1, x.2.2.2.1.1, x.2.2.2.1.2.1, b) = wr b (timingE x) := by
  unfold c14
  rw [f14_e, f14_t, name_w k (by omega) _ hx.1 _ (by omega)]
  unfold timingE
  rw [wr_app2]
  refine wr_bind fun c hc => ?_
  have := nameE_len hc
  rw [num_w k (by omega) _ (i64s3 hx.2.1 hx.2.2.1 hx.2.2.2.1) (by simp) _ (by simp only [List.length_append, List.length_cons, List.length_nil]; omega), wr_app2]
  refine wr_bind fun d hd => ?_
  have h2 := numE_len (i64s3 hx.2.1 hx.2.2.1 hx.2.2.2.1) hd
  simp only [List.length_cons, List.length_nil] at h2
  rw [wr_end, spans_w k hk _ hx.2.2.2.2 _ (by simp only [List.length_append]; omega)]
theorem timing_len {x : YT3} (hx : OkT x) (c : List Int) (h : timingE x = some c) : c.length ≤ 15000 := by
  have := app2_len (m := 25) (n := 27 + (1 + 4 * 3500)) h (fun c hc => nameE_len hc) (fun c hc => app2_len hc (fun c hc => numE_len (i64s3 hx.2.1 hx.2.2.1 hx.2.2.2.1) hc) (fun c hc => putE_len (by omega) (fun x2 hx2 => span_len (hx.2.2.2.2 x2 hx2)) hc))
  omega
theorem timings_w (k : Nat) (hk : 120 ≤ k) (l : List YT3) (hl : ∀ x ∈ l, OkT x) (b : List Int) (hb : b.length ≤ 1000) : c13 k (l, (12 : Int), b) = wr b (putE 12 timingE l) := by
  unfold c13
  rw [f13_e, f13_t, cd]
  unfold putE
  by_cases h : 12 < l.length
  · rw [if_pos (by omega), if_pos h]; rfl
  · rw [if_neg (by omega), if_neg h, f13_ej2, f13_tj2, count_w k (by omega) _ (by omega) _ (by omega), wr_app2]
    refine wr_bind fun c hc => ?_
    have hc1 := count_len (by omega) hc
    have hm : l.length * 15000 ≤ 12 * 15000 := Nat.mul_le_mul_right _ (by omega)
    exact put_loop zt3 (f13_l4 k (c12 k) (c14 k)) (fun x b => c14 k (x.1, x.2.1, x.2.2.1, x.2.2.2.1.1, x.2.2.2.1.2.1, b)) timingE 15000 300000 (fun j l n i b => by rw [f13_el4, f13_tl4]) l (by omega)
      (fun x hx b hb => timing_w k (by omega) x (hl x hx) b hb) (fun x hx => timing_len (hl x hx)) l [] (b ++ c) k rfl (by omega) (by simp only [List.length_append]; omega)
theorem timings_len {l : List YT3} (hl : ∀ x ∈ l, OkT x) (c : List Int) (h : putE 12 timingE l = some c) : c.length ≤ 181000 := by
  have := putE_len (lim := 12) (by omega) (fun x hx => timing_len (hl x hx)) h
  omega
end Go.Proofs.YtghmhkpgdmgepaaV
