import Derived.Test.YtnhnckhkfdoadaaBase
namespace Go.Proofs.Ytnhnckhkfdoadaa.Ha
open Go.RowKit Go.Proofs.YtnhnckhkfdoadaaW.PrintWords Go.Proofs.YtnhnckhkfdoadaaW.PrintLast Go.Proofs.YtnhnckhkfdoadaaW.PrintMore

def outB (lo hi n : Int) : Bool := decide (n < lo) || decide (hi < n)

/-- The closure of clear.within. -/
theorem within1 (lo hi n : Int) (b1 b2 : Nat) (W : World) (h1 : W.cell? ⟨b1, 0, none⟩ = some (.int .i64 lo)) (h2 : W.cell? ⟨b2, 0, none⟩ = some (.int .i64 hi)) :
    Calls Try.prog 38 #[.int .i64 n, .pointer (some ⟨b1, 0, none⟩), .pointer (some ⟨b2, 0, none⟩)] W fun e w' => e = .returned (.bool (outB lo hi n)) ∧ Below W.heap.size W w' := by
  by_cases h : n < lo
  · have hb : decide (n < lo) = true := decide_eq_true h
    go_enter Try.func38, Try.ntmps38
    go_wp2
    go_ret
    exact ⟨by simp [outB, h], Below.refl _ _⟩
  · have hb : decide (n < lo) = false := decide_eq_false h
    go_enter Try.func38, Try.ntmps38
    go_wp2
    go_ret
    exact ⟨by simp only [outB, hb, Bool.false_or]; rfl, Below.refl _ _⟩

theorem drop_rd (l : List Int) (k : Nat) (h : k < l.length) : l.drop k = rd l k :: l.drop (k + 1) := by
  rw [List.drop_eq_getElem_cons h]
  simp [rd, h]

def idxL (p : Int → Bool) : List Int → Int → Int
  | [], _ => -1
  | x :: l, i => if p x then i else idxL p l (i + 1)

/-- slices.IndexFunc over int64. -/
theorem indexFunc (g : Nat) (lb : Array Value) (p : Int → Bool) (eg : ∀ args w, (callFunc g args).run Try.prog w = .ok (.enter g args) w)
    (A : Option Addr) (c : Nat) (l : List Int) (w : World) (hr : Kd.C (Kd.int .i64) w A l.length l) (hl : l.length ≤ 9223372036854775807)
    (hp : ∀ W x, Below w.heap.size w W → Calls Try.prog g (#[.int .i64 x] ++ lb) W fun e w' => e = .returned (.bool (p x)) ∧ Below W.heap.size W w') :
    Calls Try.prog 42 #[.slice A l.length c, .func (.func g) #[] lb] w fun e w' => e = .returned (.int .i64 (idxL p l 0)) ∧ Below w.heap.size w w' := by
  have HP := Aside0.mk hp
  clear hp
  have HR := Aside0.mk hr
  clear hr
  go_enter Try.func42, Try.ntmps42
  go_wp2
  go_loopg [5, 8] l.length (fun gg _ s8 wr => ∃ kk : Nat, kk ≤ l.length ∧ l.length - kk ≤ gg ∧ s8 = .int .i64 kk ∧ Below w.heap.size w wr ∧ Aside0 (idxL p l 0 = idxL p (l.drop kk) kk))
  case atStart => exact ⟨0, Nat.zero_le _, by omega, rfl, Below.refl _ _, ⟨rfl⟩⟩
  case round =>
    obtain ⟨kk, hkk, hg, rfl, hb, A'⟩ := hrel
    by_cases hlt : kk < l.length
    · have hltz : (kk : Int) < (l.length : Int) := by omega
      have HB := Aside0.mk hb
      obtain ⟨ad, e, hx⟩ := Kd.at_int (HR.out) kk (by omega) hltz
      cases e
      have hx' := pw_cell_below hb hx
      simp only [Int.toNat_natCast] at hx'
      clear hx
      have HD : Aside0 (l.drop kk = rd l kk :: l.drop (kk + 1)) := ⟨drop_rd l kk hlt⟩
      have hcall := HP.out wr (rd l kk) hb
      generalize rd l kk = x at hx' hcall HD
      clear hb
      cases hq : p x with
      | true =>
        rw [hq] at hcall
        have HQ := Aside0.mk hq
        clear hq
        go_wp2_with (go_at_fn g; refine hcall.mono ?_; rintro e w' ⟨rfl, hb2⟩)
        go_ret
        exact ⟨(show Ending.returned (Value.int .i64 kk) = .returned (.int .i64 (idxL p l 0)) from by rw [A'.out, HD.out, idxL, if_pos HQ.out]), below_then HB.out HB.out.size hb2⟩
      | false =>
        rw [hq] at hcall
        have HQ := Aside0.mk hq
        clear hq
        go_wp2_with (go_at_fn g; refine hcall.mono ?_; rintro e w' ⟨rfl, hb2⟩)
        go_roundg (l.length - (kk + 1))
        case measure => omega
        case rel => exact ⟨kk + 1, by omega, by omega, by go_num, below_then HB.out HB.out.size hb2, ⟨by rw [A'.out, HD.out, idxL, if_neg (by simp [HQ.out])]; rfl⟩⟩
    · have hltz : ¬ (kk : Int) < (l.length : Int) := by omega
      have HB := Aside0.mk hb
      clear hb
      go_wp2
      go_ret
      exact ⟨(show Ending.returned (Value.int .i64 (-1)) = .returned (.int .i64 (idxL p l 0)) from by rw [A'.out, List.drop_of_length_le (by omega)]; rfl), HB.out⟩
theorem idxL_any (p : Int → Bool) : ∀ (l : List Int) (i : Int), 0 ≤ i → decide (0 ≤ idxL p l i) = l.any p
  | [], i, h => by simp [idxL]
  | x :: l, i, h => by
    rw [idxL, List.any_cons]
    by_cases hp : p x = true
    · simp [hp, h]
    · have := idxL_any p l (i + 1) (by omega)
      simp only [Bool.not_eq_true] at hp
      simp [hp, this]

/-- slices.ContainsFunc over int64. -/
theorem containsFunc (g : Nat) (lb : Array Value) (p : Int → Bool) (eg : ∀ args w, (callFunc g args).run Try.prog w = .ok (.enter g args) w)
    (A : Option Addr) (c : Nat) (l : List Int) (w : World) (hr : Kd.C (Kd.int .i64) w A l.length l) (hl : l.length ≤ 9223372036854775807)
    (hp : ∀ W x, Below w.heap.size w W → Calls Try.prog g (#[.int .i64 x] ++ lb) W fun e w' => e = .returned (.bool (p x)) ∧ Below W.heap.size W w') :
    Calls Try.prog 37 #[.slice A l.length c, .func (.func g) #[] lb] w fun e w' => e = .returned (.bool (l.any p)) ∧ Below w.heap.size w w' := by
  have H := indexFunc g lb p eg A c l w hr hl hp
  have E := Aside0.mk (idxL_any p l 0 (by omega))
  clear hp hr
  generalize idxL p l 0 = r at H E
  go_enter Try.func37, Try.ntmps37
  go_wp2_with (go_at_call 42; refine H.mono ?_; rintro e w' ⟨rfl, hb⟩)
  go_ret
  exact ⟨(show Ending.returned (Value.bool (decide (0 ≤ r))) = .returned (.bool (l.any p)) from by rw [E.out]), hb⟩

/-- clear.within: are all numbers from one to another? -/
theorem within_calls (lo hi : Int) (A : Option Addr) (c : Nat) (l : List Int) (w : World) (hr : Kd.C (Kd.int .i64) w A l.length l) (hl : l.length ≤ 9223372036854775807) :
    Calls Try.prog 25 #[.int .i64 lo, .int .i64 hi, .slice A l.length c] w fun e w' => e = .returned (.bool (!(l.any (outB lo hi)))) ∧ Below w.heap.size w w' := by
  have eg : ∀ args w, (callFunc 38 args).run Try.prog w = .ok (.enter 38 args) w := enters_of Try.func38 (by kernel_rfl) rfl
  have hb0 : Below w.heap.size w ((w.alloc (.cells #[.int .i64 lo] 2 (0, 0))).alloc (.cells #[.int .i64 hi] 2 (0, 0))) := ((Below.refl _ _).alloc (Nat.le_refl _) _).alloc (by simp) _
  have H := containsFunc 38 #[.pointer (some ⟨w.heap.size, 0, none⟩), .pointer (some ⟨w.heap.size + 1, 0, none⟩)] (outB lo hi) eg A c l ((w.alloc (.cells #[.int .i64 lo] 2 (0, 0))).alloc (.cells #[.int .i64 hi] 2 (0, 0))) (Kd.C_below hr hb0) hl
    (fun W x hb => within1 lo hi x w.heap.size (w.heap.size + 1) W ((hb.cell (p := ⟨w.heap.size, 0, none⟩) (by simp; omega)).trans (by simp)) ((hb.cell (p := ⟨w.heap.size + 1, 0, none⟩) (by simp)).trans (by simp)))
  have HB := Aside0.mk hb0
  clear hr hb0
  go_enter Try.func25, Try.ntmps25
  go_wp2_with (go_at_call 37; refine H.mono ?_; rintro e w' ⟨rfl, hb⟩)
  go_ret
  exact ⟨rfl, below_then HB.out HB.out.size hb⟩
end Go.Proofs.Ytnhnckhkfdoadaa.Ha
