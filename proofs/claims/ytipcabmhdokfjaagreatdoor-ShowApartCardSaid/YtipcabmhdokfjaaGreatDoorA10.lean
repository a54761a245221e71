import Derived.Test.YtipcabmhdokfjaaGreatDoorA9
/-! Texts of the proof, joined: PR, PS, PT, PU, PV, PW, PX. -/
/-! net: reading the tokens of a text, 2: the parts of the grammar give what was shown. -/
set_option linter.unusedVariables false
set_option linter.unusedSimpArgs false
namespace Go.Proofs.YtipcabmhdokfjaaGreatDoorV
open Go Go.RowKit

def erH (h : YT1) : YT1 := (h.1, h.2.1, h.2.2.1, h.2.2.2.1, h.2.2.2.2.1, h.2.2.2.2.2.1, h.2.2.2.2.2.2.1, h.2.2.2.2.2.2.2.1, h.2.2.2.2.2.2.2.2.1, 0, ())
def erP (p : YT2) : YT2 := (p.1, p.2.1, p.2.2.1, p.2.2.2.1, p.2.2.2.2.1, 0, ())
def erX (x : YT3) : YT3 := (x.1, x.2.1, 0, ())
def erF (f : YT5) : YT5 := (f.1, f.2.1, 0, ())
def erS (s : YT7) : YT7 := (s.1, s.2.1, s.2.2.1, s.2.2.2.1, s.2.2.2.2.1, 0, ())
def erN (n : YT6) : YT6 := (n.1, n.2.1.map erH, n.2.2.1.map erP, n.2.2.2.1.map erX, n.2.2.2.2.1, n.2.2.2.2.2.1.map erF, 0, ())
def erNet (n : NetT) : NetT := (n.1, n.2.1, n.2.2.1, n.2.2.2.1, n.2.2.2.2.1, n.2.2.2.2.2.1.map erN, n.2.2.2.2.2.2.1.map erS, n.2.2.2.2.2.2.2.1, n.2.2.2.2.2.2.2.2)
theorem num_pos {n : Int} (h : numB n = true) : 0 ≤ n := by
  unfold numB at h; simp at h; omega
theorem listK_cons (x : List Int) : ∀ r : List (List Int), listK (x :: r) = wd x :: r.flatMap (fun y => [sg ([44] : List Int), wd y])
  | [] => rfl
  | y :: r => by
    rw [listK, listK_cons y r, List.flatMap_cons]
    rfl
theorem namesL_at (most : Nat) : ∀ (r : List (List Int)) (f : Nat) (x : RS) (o : List (List Int)) {A : List T3}, (∀ w ∈ r, nameB w = true) → r.length < f → o.length + r.length ≤ most → At x (r.flatMap (fun y => [sg ([44] : List Int), wd y]) ++ sg ([59] : List Int) :: A) →
    (namesL (most : Int) f x o).1 = o ++ r ∧ At (namesL (most : Int) f x o).2 A
  | _, 0, _, _, _, _, h, _, _ => by omega
  | [], f + 1, x, o, A, hw, hf, hm, h => by
    have h : At x (sg ([59] : List Int) :: A) := h
    rw [namesL, sees_at h, show ((sg ([59] : List Int)).1 != 2 && ((sg ([59] : List Int)).1 != 0 && (sg ([59] : List Int)).2.1 == ([44] : List Int))) = false by decide]
    exact ⟨by simp, want_at ([59] : List Int) h (by decide)⟩
  | y :: r, f + 1, x, o, A, hw, hf, hm, h => by
    rw [List.length_cons] at hf hm
    have h : At x (sg ([44] : List Int) :: wd y :: (r.flatMap (fun y => [sg ([44] : List Int), wd y]) ++ sg ([59] : List Int) :: A)) := h
    have h1 := next_at h (by decide)
    obtain ⟨e2, h2⟩ := name_at (hw y (by simp)) h1
    rw [namesL, sees_at h, show ((sg ([44] : List Int)).1 != 2 && ((sg ([44] : List Int)).1 != 0 && (sg ([44] : List Int)).2.1 == ([44] : List Int))) = true by decide, cond_true]
    have hne : (((o.length : Nat) : Int) == (most : Int)) = false := by simp; omega
    simp only [hne, Bool.false_and, cond_false]
    rw [e2]
    obtain ⟨e3, h3⟩ := namesL_at most r f (nameR (nextR x)).2 (o ++ [y]) (fun w hw2 => hw w (List.mem_cons_of_mem _ hw2)) (by omega) (by rw [List.length_append, List.length_singleton]; omega) h2
    exact ⟨by rw [e3, List.append_assoc]; rfl, h3⟩
theorem names_at {most : Nat} {l : List (List Int)} {x : RS} {A : List T3} (hb : rowB most l = true) (h : At x (listK l ++ sg ([59] : List Int) :: A)) : (namesR (most : Int) x).1 = l ∧ At (namesR (most : Int) x).2 A := by
  obtain ⟨⟨h1, h2⟩, hw⟩ := row_names hb
  cases l with
  | nil => simp at h1
  | cons y r =>
    rw [listK_cons] at h
    obtain ⟨e1, g1⟩ := name_at (hw y (by simp)) h
    have g1 : At (nameR x).2 (r.flatMap (fun y => [sg ([44] : List Int), wd y]) ++ sg ([59] : List Int) :: A) := g1
    unfold namesR
    rw [e1]
    refine namesL_at most r _ (nameR x).2 [y] (fun w hw2 => hw w (List.mem_cons_of_mem _ hw2)) ?_ (by rw [List.length_singleton]; rw [List.length_cons] at h2; omega) g1
    have e := congrArg List.length g1.t
    rw [List.length_map, List.length_append] at e
    have : ∀ m : List (List Int), m.length ≤ (m.flatMap (fun y => [sg ([44] : List Int), wd y])).length := by
      intro m
      induction m with
      | nil => simp
      | cons y r ih => rw [List.flatMap_cons, List.length_append, List.length_cons, List.length_cons]; omega
    have := this r
    omega
theorem phase_at {a : YT3} (hb : phaseB a = true) {x : RS} {A : List T3} (h : At x (wd a.1 :: sg ([58] : List Int) :: (listK a.2.1 ++ [sg ([59] : List Int)]) ++ A)) : erX (phaseR x).1 = erX a ∧ At (phaseR x).2 A := by
  unfold phaseB at hb
  simp only [Bool.and_eq_true] at hb
  simp only [List.append_assoc, List.cons_append, List.nil_append] at h
  obtain ⟨e1, h1⟩ := name_at hb.1 h
  have h2 := want_at ([58] : List Int) h1 (by decide)
  obtain ⟨e3, h3⟩ := names_at (most := 16) hb.2.1 h2
  refine ⟨?_, h3⟩
  show ((nameR x).1, (namesR 16 (wantR ([58] : List Int) (nameR x).2)).1, (0 : Int), ()) = _
  rw [e1]
  exact congrArg (fun z => (a.1, z, (0 : Int), ())) e3
theorem foe_at {a : YT5} (hb : foeB a = true) {x : RS} {A : List T3} (h : At x ([wd a.1, wd a.2.1, sg ([59] : List Int)] ++ A)) : erF (foeR x).1 = erF a ∧ At (foeR x).2 A := by
  unfold foeB at hb
  simp only [Bool.and_eq_true] at hb
  simp only [List.cons_append, List.nil_append] at h
  obtain ⟨e1, h1⟩ := name_at hb.1 h
  obtain ⟨e2, h2⟩ := name_at hb.2.1 h1
  refine ⟨?_, want_at ([59] : List Int) h2 (by decide)⟩
  show ((nameR x).1, (nameR (nameR x).2).1, (0 : Int), ()) = _
  rw [e1, e2]
  rfl
theorem ped_at {a : YT2} (hb : pedB a = true) {x : RS} {A : List T3} (h : At x (wd a.1 :: wd ([119, 105, 116, 104] : List Int) :: wd a.2.1 :: wd ([108, 111, 110, 103] : List Int) :: (numK a.2.2.1 ++ (wd ([112, 97, 99, 101] : List Int) :: (numK a.2.2.2.1 ++ (wd ([108, 101, 97, 115, 116] : List Int) :: (numK a.2.2.2.2.1 ++ [sg ([59] : List Int)])))))  ++ A)) :
    erP (walkR x).1 = erP a ∧ At (walkR x).2 A := by
  unfold pedB at hb
  simp only [Bool.and_eq_true] at hb
  obtain ⟨n1, n2, q1, q2, q3, -⟩ := hb
  simp only [List.append_assoc, List.cons_append, List.nil_append] at h
  obtain ⟨e1, h1⟩ := name_at n1 h
  have h2 := want_at ([119, 105, 116, 104] : List Int) h1 (by decide)
  obtain ⟨e3, h3⟩ := name_at n2 h2
  obtain ⟨e4, h4⟩ := num_at (by decide) (num_pos q1) h3
  obtain ⟨e5, h5⟩ := num_at (by decide) (num_pos q2) h4
  obtain ⟨e6, h6⟩ := num_at (by decide) (num_pos q3) h5
  refine ⟨?_, want_at ([59] : List Int) h6 (by decide)⟩
  unfold walkR erP
  simp only
  rw [e1, e3, e4, e5, e6]
theorem stop_at {a : YT7} (hb : stopB a = true) {x : RS} {A : List T3} (h : At x (wd a.1 :: wd ([111, 117, 116] : List Int) :: wd a.2.1 :: wd ([105, 110] : List Int) :: wd a.2.2.1 :: wd ([97, 104, 101, 97, 100] : List Int) :: (numK a.2.2.2.1 ++ (wd ([98, 97, 99, 107] : List Int) :: (numK a.2.2.2.2.1 ++ [sg ([59] : List Int)]))) ++ A)) :
    erS (stopR x).1 = erS a ∧ At (stopR x).2 A := by
  unfold stopB at hb
  simp only [Bool.and_eq_true] at hb
  obtain ⟨n1, n2, n3, q1, q2, -⟩ := hb
  simp only [List.append_assoc, List.cons_append, List.nil_append] at h
  obtain ⟨e1, h1⟩ := name_at n1 h
  have h2 := want_at ([111, 117, 116] : List Int) h1 (by decide)
  obtain ⟨e3, h3⟩ := name_at n2 h2
  have h4 := want_at ([105, 110] : List Int) h3 (by decide)
  obtain ⟨e5, h5⟩ := name_at n3 h4
  obtain ⟨e6, h6⟩ := num_at (by decide) (num_pos q1) h5
  obtain ⟨e7, h7⟩ := num_at (by decide) (num_pos q2) h6
  refine ⟨?_, want_at ([59] : List Int) h7 (by decide)⟩
  unfold stopR erS
  simp only
  rw [e1, e3, e5, e6, e7]
theorem ring_at {a : YT4} (hb : ringB a = true) {x : RS} {A : List T3} (h : At x ((bif a.1 then [wd ([102, 114, 101, 101] : List Int)] else []) ++ (listK a.2.1 ++ [sg ([59] : List Int)]) ++ A)) : id (ringR x).1 = id a ∧ At (ringR x).2 A := by
  unfold ringB at hb
  obtain ⟨a0, a1, ⟨⟩⟩ := a
  obtain ⟨⟨h1, h2⟩, hw⟩ := row_names hb
  cases a0
  · simp only [cond_false, List.append_assoc, List.cons_append, List.nil_append] at h
    have hs : seesR ([102, 114, 101, 101] : List Int) x = false := by
      cases a1 with
      | nil => simp at h1
      | cons y r =>
        rw [listK_cons] at h
        rw [sees_at h]
        have hy := hw y (by simp)
        have : (y == ([102, 114, 101, 101] : List Int)) = false := by
          cases hyf : y == ([102, 114, 101, 101] : List Int)
          · rfl
          · have : y = ([102, 114, 101, 101] : List Int) := by simpa using hyf
            subst this
            have : nameB ([102, 114, 101, 101] : List Int) = false := by rfl
            rw [this] at hy
            cases hy
        simp only [wd]
        rw [this]
        simp
    obtain ⟨e3, h3⟩ := names_at (most := 4) hb h
    unfold ringR
    rw [hs]
    simp only [cond_false]
    exact ⟨congrArg (fun z => (false, z, ())) e3, h3⟩
  · simp only [cond_true, List.append_assoc, List.cons_append, List.nil_append] at h
    have hs : seesR ([102, 114, 101, 101] : List Int) x = true := by rw [sees_at h]; decide
    obtain ⟨e3, h3⟩ := names_at (most := 4) hb (next_at h (by decide))
    unfold ringR
    rw [hs]
    simp only [cond_true]
    exact ⟨congrArg (fun z => (true, z, ())) e3, h3⟩
end Go.Proofs.YtipcabmhdokfjaaGreatDoorV

/-! net: reading the tokens of a text, 3: heads, groups, nodes, the whole. -/
set_option linter.unusedVariables false
set_option linter.unusedSimpArgs false
namespace Go.Proofs.YtipcabmhdokfjaaGreatDoorV
open Go Go.RowKit

theorem head_at {a : YT1} (hb : headB a = true) {x : RS} {A : List T3} (h : At x ((headK a).tail ++ A)) : erH (headR x).1 = erH a ∧ At (headR x).2 A := by
  have sp := head_spec hb
  unfold headB at hb
  simp only [Bool.and_eq_true] at hb
  obtain ⟨n0, q1, q2, ⟨q3, q4⟩, q5, -, -, q8, q9, q10, -⟩ := hb
  have hg := sp.2.2.2.2.2.2.1
  unfold headK at h
  simp only [List.tail_cons, List.append_assoc, List.cons_append, List.nil_append] at h
  obtain ⟨e1, h1⟩ := name_at n0 h
  obtain ⟨e2, h2⟩ := num_at (by decide) (num_pos q1) h1
  obtain ⟨e3, h3⟩ := num_at (by decide) (num_pos q2) h2
  obtain ⟨e4, h4⟩ := frac_at (by decide) (num_pos q3) (num_pos q4) h3
  obtain ⟨e5, h5⟩ := num_at (by decide) (num_pos q5) h4
  have h6 := want_at ([103, 114, 97, 100, 101] : List Int) h5 (by decide)
  unfold headR erH
  simp only
  generalize nameR x = n at *
  generalize numR ([118, 111, 108, 117, 109, 101] : List Int) n.2 = v at *
  generalize numR ([102, 108, 111, 119] : List Int) v.2 = s at *
  generalize fracR ([117, 115, 101] : List Int) s.2 = u at *
  generalize numR ([115, 112, 101, 101, 100] : List Int) u.2 = p at *
  generalize wantR ([103, 114, 97, 100, 101] : List Int) p.2 = q at *
  have rest : ∀ {g : Int × RS}, At g.2 (wd ([119, 105, 100, 116, 104] : List Int) :: (numK a.2.2.2.2.2.2.1 ++ (wd ([108, 101, 110, 103, 116, 104] : List Int) :: (numK a.2.2.2.2.2.2.2.1 ++ (wd ([103, 114, 101, 101, 110] : List Int) :: (numK a.2.2.2.2.2.2.2.2.1 ++ sg ([59] : List Int) :: A)))))) →
      (numR ([119, 105, 100, 116, 104] : List Int) g.2).1 = a.2.2.2.2.2.2.1 ∧ (numR ([108, 101, 110, 103, 116, 104] : List Int) (numR ([119, 105, 100, 116, 104] : List Int) g.2).2).1 = a.2.2.2.2.2.2.2.1 ∧ (numR ([103, 114, 101, 101, 110] : List Int) (numR ([108, 101, 110, 103, 116, 104] : List Int) (numR ([119, 105, 100, 116, 104] : List Int) g.2).2).2).1 = a.2.2.2.2.2.2.2.2.1 ∧ At (wantR ([59] : List Int) (numR ([103, 114, 101, 101, 110] : List Int) (numR ([108, 101, 110, 103, 116, 104] : List Int) (numR ([119, 105, 100, 116, 104] : List Int) g.2).2).2).2) A := by
    intro g hg
    obtain ⟨f1, g1⟩ := num_at (by decide) (num_pos q8) hg
    obtain ⟨f2, g2⟩ := num_at (by decide) (num_pos q9) g1
    obtain ⟨f3, g3⟩ := num_at (by decide) (num_pos q10) g2
    exact ⟨f1, f2, f3, want_at ([59] : List Int) g3 (by decide)⟩
  by_cases hneg : a.2.2.2.2.2.1 < 0
  · have hk : numK a.2.2.2.2.2.1 = [(3, ([45] : List Int), 0), (2, digN 18 (a.2.2.2.2.2.1).natAbs, -a.2.2.2.2.2.1)] := by
      unfold numK
      rw [show decide (a.2.2.2.2.2.1 < 0) = true by simpa using hneg]
      rfl
    rw [hk] at h6
    have h6 : At q ((3, ([45] : List Int), 0) :: (2, digN 18 (a.2.2.2.2.2.1).natAbs, -a.2.2.2.2.2.1) :: _) := h6
    have hs : seesR ([45] : List Int) q = true := by rw [sees_at h6]; decide
    have h7 := next_at h6 (by decide)
    obtain ⟨e7, h8⟩ := numC_at h7
    have e7 : (numR [] (nextR q)).1 = -a.2.2.2.2.2.1 := e7
    have h8 : At (numR [] (nextR q)).2 _ := h8
    obtain ⟨f1, f2, f3, h9⟩ := rest h8
    rw [hs]
    simp only [cond_true]
    refine ⟨?_, h9⟩
    have en : negI .i64 (numR [] (nextR q)).1 = a.2.2.2.2.2.1 := by
      rw [e7]
      unfold negI
      rw [w64 (by unfold inM at hg; omega)]
      omega
    rw [e1, e2, e3, e5, en, f1, f2, f3, e4]
  · rw [numK_pos (by omega)] at h6
    have h6 : At q ((2, digN 18 (a.2.2.2.2.2.1).natAbs, a.2.2.2.2.2.1) :: _) := h6
    have hs : seesR ([45] : List Int) q = false := by rw [sees_at h6]; rfl
    obtain ⟨e7, h8⟩ := numC_at h6
    have e7 : (numR [] q).1 = a.2.2.2.2.2.1 := e7
    have h8 : At (numR [] q).2 _ := h8
    obtain ⟨f1, f2, f3, h9⟩ := rest h8
    rw [hs]
    simp only [cond_false]
    refine ⟨?_, h9⟩
    rw [e1, e2, e3, e5, e7, f1, f2, f3, e4]
theorem flat_wd {α : Type} {w : List Int} {g : α → List T3} {f : α → List T3} (h : ∀ a, f a = wd w :: g a) (l : List α) : l.flatMap f = l.flatMap (fun a => wd w :: g a) := by
  congr 1
  funext a
  exact h a
theorem group_at {a : List YT4 × Unit} (hb : groupB a = true) {x : RS} {A : List T3} (h : At x (sg ([123] : List Int) :: (a.1.flatMap ringK ++ [sg ([125] : List Int)]) ++ A)) : id (groupR x).1 = id a ∧ At (groupR x).2 A := by
  unfold groupB at hb
  simp only [Bool.and_eq_true, Bool.not_eq_true', decide_eq_false_iff_not, List.all_eq_true] at hb
  simp only [List.append_assoc, List.cons_append, List.nil_append] at h
  have h1 := want_at ([123] : List Int) h (by decide)
  obtain ⟨l, ⟨⟩⟩ := a
  have hs : seesR ([114, 105, 110, 103] : List Int) (wantR ([123] : List Int) x) = true := by
    cases l with
    | nil => simp at hb
    | cons r l =>
      have h1 : At (wantR ([123] : List Int) x) (wd ([114, 105, 110, 103] : List Int) :: _) := h1
      rw [sees_at h1]
      decide
  unfold groupR
  simp only
  rw [hs]
  simp only [cond_true]
  obtain ⟨e2, h2⟩ := many_at id (w := ([114, 105, 110, 103] : List Int)) (most := 2) (item := ringR) (g := fun r => (bif r.1 then [wd ([102, 114, 101, 101] : List Int)] else []) ++ (listK r.2.1 ++ [sg ([59] : List Int)])) (t := sg ([125] : List Int)) (l := l) (by decide) (fun r hr {x A} hx => ring_at (hb.2.2 r hr) hx) (by have := hb.2.1; simp only at this; omega) h1
  rw [List.map_id, List.map_id] at e2
  refine ⟨congrArg (fun z => (z, ())) e2, want_at ([125] : List Int) h2 (by decide)⟩
end Go.Proofs.YtipcabmhdokfjaaGreatDoorV

/-! net: reading the tokens of a text, 4: nodes, the artery, the whole. -/
set_option linter.unusedVariables false
set_option linter.unusedSimpArgs false
namespace Go.Proofs.YtipcabmhdokfjaaGreatDoorV
open Go Go.RowKit

/-- Tokens that do not begin with a word. -/
def Stops (w : List Int) (A : List T3) : Prop := ∃ t B, A = t :: B ∧ (t.1 != 2 && (t.1 != 0 && t.2.1 == w)) = false
theorem stops_flat {α : Type} {w v : List Int} {g : α → List T3} {A : List T3} (hv : (v == w) = false) (h : Stops w A) : ∀ l : List α, Stops w (l.flatMap (fun a => wd v :: g a) ++ A)
  | [] => h
  | a :: l => ⟨wd v, _, rfl, by simp [wd, hv]⟩
theorem many_to {α β : Type} (er : α → β) {w : List Int} {most : Nat} {item : RS → α × RS} {g : α → List T3} {A : List T3} {l : List α} {x : RS} (ht : Stops w A)
    (hi : ∀ a ∈ l, ∀ {x A}, At x (g a ++ A) → er (item x).1 = er a ∧ At (item x).2 A) (hm : l.length ≤ most) (h : At x (l.flatMap (fun a => wd w :: g a) ++ A)) :
    (manyR w (most : Int) item x).1.map er = l.map er ∧ At (manyR w (most : Int) item x).2 A := by
  obtain ⟨t, B, rfl, hc⟩ := ht
  exact many_at er hc hi hm h
theorem node_at {a : YT6} (hb : nodeB a = true) {x : RS} {A : List T3} (h : At x ((nodeK a).tail ++ A)) : erN (nodeR x).1 = erN a ∧ At (nodeR x).2 A := by
  unfold nodeB at hb
  simp only [Bool.and_eq_true, List.all_eq_true] at hb
  obtain ⟨n0, h1, h2, h3, h4, h5, p1, p2, p3, p4, p5⟩ := hb
  have h1 := le_of h1
  have h2 := le_of h2
  have h3 := le_of h3
  have h4 := le_of h4
  have h5 := le_of h5
  unfold nodeK at h
  simp only [List.tail_cons, List.append_assoc, List.cons_append, List.nil_append] at h
  obtain ⟨e0, g0⟩ := name_at n0 h
  have g1 := want_at ([123] : List Int) g0 (by decide)
  have sE : ∀ w, ((([125] : List Int) : List Int) == w) = false → Stops w (sg ([125] : List Int) :: A) := fun w hw => ⟨_, _, rfl, by simp [sg, hw]⟩
  obtain ⟨r1, g2⟩ := many_to erH (w := ([104, 101, 97, 100] : List Int)) (most := 16) (item := headR) (g := fun a => (headK a).tail) (l := a.2.1) (stops_flat (v := ([119, 97, 108, 107] : List Int)) (g := fun a => (pedK a).tail) (by decide) (stops_flat (v := ([112, 104, 97, 115, 101] : List Int)) (g := fun a => (phaseK a).tail) (by decide) (stops_flat (v := ([103, 114, 111, 117, 112] : List Int)) (g := fun a => (groupK a).tail) (by decide) (stops_flat (v := ([102, 111, 101] : List Int)) (g := fun a => (foeK a).tail) (by decide) (sE _ (by decide)) a.2.2.2.2.2.1) a.2.2.2.2.1) a.2.2.2.1) a.2.2.1) (fun y hy {x A} hx => head_at (p1 y hy) hx) (by omega) g1
  obtain ⟨r2, g3⟩ := many_to erP (w := ([119, 97, 108, 107] : List Int)) (most := 8) (item := walkR) (g := fun a => (pedK a).tail) (l := a.2.2.1) (stops_flat (v := ([112, 104, 97, 115, 101] : List Int)) (g := fun a => (phaseK a).tail) (by decide) (stops_flat (v := ([103, 114, 111, 117, 112] : List Int)) (g := fun a => (groupK a).tail) (by decide) (stops_flat (v := ([102, 111, 101] : List Int)) (g := fun a => (foeK a).tail) (by decide) (sE _ (by decide)) a.2.2.2.2.2.1) a.2.2.2.2.1) a.2.2.2.1) (fun y hy {x A} hx => ped_at (p2 y hy) hx) (by omega) g2
  obtain ⟨r3, g4⟩ := many_to erX (w := ([112, 104, 97, 115, 101] : List Int)) (most := 16) (item := phaseR) (g := fun a => (phaseK a).tail) (l := a.2.2.2.1) (stops_flat (v := ([103, 114, 111, 117, 112] : List Int)) (g := fun a => (groupK a).tail) (by decide) (stops_flat (v := ([102, 111, 101] : List Int)) (g := fun a => (foeK a).tail) (by decide) (sE _ (by decide)) a.2.2.2.2.2.1) a.2.2.2.2.1) (fun y hy {x A} hx => phase_at (p3 y hy) hx) (by omega) g3
  obtain ⟨r4, g5⟩ := many_to id (w := ([103, 114, 111, 117, 112] : List Int)) (most := 4) (item := groupR) (g := fun a => (groupK a).tail) (l := a.2.2.2.2.1) (stops_flat (v := ([102, 111, 101] : List Int)) (g := fun a => (foeK a).tail) (by decide) (sE _ (by decide)) a.2.2.2.2.2.1) (fun y hy {x A} hx => group_at (p4 y hy) hx) (by omega) g4
  obtain ⟨r5, g6⟩ := many_to erF (w := ([102, 111, 101] : List Int)) (most := 64) (item := foeR) (g := fun a => (foeK a).tail) (l := a.2.2.2.2.2.1) (sE _ (by decide)) (fun y hy {x A} hx => foe_at (p5 y hy) hx) (by omega) g5
  rw [List.map_id, List.map_id] at r4
  refine ⟨?_, want_at ([125] : List Int) g6 (by decide)⟩
  unfold nodeR erN
  simp only
  exact Prod.ext e0 (Prod.ext r1 (Prod.ext r2 (Prod.ext r3 (Prod.ext r4 (Prod.ext r5 rfl)))))
end Go.Proofs.YtipcabmhdokfjaaGreatDoorV

/-! net: reading the tokens of a text, 5: the whole; a text tells its network, places aside. -/
set_option linter.unusedVariables false
set_option linter.unusedSimpArgs false
namespace Go.Proofs.YtipcabmhdokfjaaGreatDoorV
open Go Go.RowKit

theorem net_at {n : NetT} (hb : netB n = true) {x : RS} (h : At x (netK n)) : erNet (netR x).1 = erNet n ∧ At (netR x).2 [(0, [], 0)] := by
  unfold netB at hb
  simp only [Bool.and_eq_true, List.all_eq_true] at hb
  obtain ⟨q0, q1, q2, ⟨q3, q4⟩, q7, q8, h1, h2, p1, p2⟩ := hb
  have h1 := le_of h1
  have h2 := le_of h2
  unfold netK at h
  obtain ⟨e1, g1⟩ := num_at (by decide) (num_pos q0) h
  obtain ⟨e2, g2⟩ := num_at (by decide) (num_pos q1) g1
  obtain ⟨e3, g3⟩ := num_at (by decide) (num_pos q2) g2
  have g4 := want_at ([59] : List Int) g3 (by decide)
  obtain ⟨e5, g5⟩ := frac_at (by decide) (num_pos q3) (num_pos q4) g4
  have g6 := want_at ([59] : List Int) g5 (by decide)
  have sA : Stops ([110, 111, 100, 101] : List Int) (artK n ++ [(0, [], 0)]) := by
    unfold artK
    cases artB n
    · exact ⟨_, _, rfl, by decide⟩
    · exact ⟨_, _, rfl, by decide⟩
  obtain ⟨r1, g7⟩ := many_to erN (w := ([110, 111, 100, 101] : List Int)) (most := 12) (item := nodeR) (g := fun a => (nodeK a).tail) (l := n.2.2.2.2.2.1) sA (fun y hy {x A} hx => node_at (p1 y hy) hx) (by omega) g6
  unfold netR
  simp only
  generalize numR ([99, 121, 99, 108, 101] : List Int) x = c1 at *
  generalize numR ([116, 111] : List Int) c1.2 = c2 at *
  generalize numR ([98, 121] : List Int) c2.2 = c3 at *
  generalize fracR ([112, 101, 97, 107] : List Int) (wantR ([59] : List Int) c3.2) = c4 at *
  have r1 : (manyR ([110, 111, 100, 101] : List Int) 12 nodeR (wantR ([59] : List Int) c4.2)).1.map erN = _ := r1
  have g7 : At (manyR ([110, 111, 100, 101] : List Int) 12 nodeR (wantR ([59] : List Int) c4.2)).2 _ := g7
  generalize manyR ([110, 111, 100, 101] : List Int) 12 nodeR (wantR ([59] : List Int) c4.2) = m at *
  have fin : ∀ {t : (List YT7 × Int × Int) × RS}, t.1.1.map erS = n.2.2.2.2.2.2.1.map erS → t.1.2.1 = n.2.2.2.2.2.2.2.1 → t.1.2.2 = n.2.2.2.2.2.2.2.2 → At t.2 [(0, [], 0)] →
      erNet (c1.1, c2.1, c3.1, c4.1.1, c4.1.2, m.1, t.1.1, t.1.2.1, t.1.2.2) = erNet n ∧ At (bif (hd t.2.1).1 != 0 then failR 50 t.2 else t.2) [(0, [], 0)] := by
    intro t f1 f2 f3 f4
    have hk : (hd t.2.1).1 = 0 := (at_hd f4).1
    rw [hk]
    refine ⟨?_, f4⟩
    unfold erNet
    simp only
    rw [e1, e2, e3, e5, r1, f1, f2, f3]
  cases hA : artB n
  · have hK : artK n = [] := by unfold artK; rw [hA]; rfl
    rw [hK] at g7
    have g7 : At m.2 [(0, [], 0)] := g7
    rw [show seesR ([97, 114, 116, 101, 114, 121] : List Int) m.2 = false by rw [sees_at g7]; decide]
    unfold artB at hA
    simp only [Bool.or_eq_false_iff, decide_eq_false_iff_not, bne_eq_false_iff_eq] at hA
    have h0 : n.2.2.2.2.2.2.1 = [] := List.eq_nil_of_length_eq_zero (by omega)
    exact fin (t := (([], 0, 0), m.2)) (by rw [h0]) hA.1.2.symm hA.2.symm g7
  · unfold artK at g7
    rw [hA] at g7
    simp only [cond_true, List.append_assoc, List.cons_append, List.nil_append] at g7
    rw [show seesR ([97, 114, 116, 101, 114, 121] : List Int) m.2 = true by rw [sees_at g7]; rfl]
    have k1 := next_at g7 (by decide)
    have k2 := want_at ([123] : List Int) k1 (by decide)
    obtain ⟨s1, k3⟩ := many_to erS (w := ([115, 116, 111, 112] : List Int)) (most := 12) (item := stopR) (g := fun a => (stopK a).tail) (l := n.2.2.2.2.2.2.1) ⟨_, _, rfl, by decide⟩ (fun y hy {x A} hx => stop_at (p2 y hy) hx) (by omega) k2
    obtain ⟨s2, k4⟩ := num_at (by decide) (num_pos q7) k3
    obtain ⟨s3, k5⟩ := num_at0 (num_pos q8) k4
    have k6 := want_at ([59] : List Int) k5 (by decide)
    have k7 := want_at ([125] : List Int) k6 (by decide)
    exact fin (t := arteryR (nextR m.2)) s1 s2 s3 k7
end Go.Proofs.YtipcabmhdokfjaaGreatDoorV

/-! show: a text tells its network, places aside. -/
set_option linter.unusedVariables false
set_option linter.unusedSimpArgs false
namespace Go.Proofs.YtipcabmhdokfjaaGreatDoorV
open Go Go.RowKit

theorem net_of_text {m n : NetT} (hm : netB m = true) (hn : netB n = true) (h : netT m = netT n) : erNet m = erNet n := by
  have l1 := lexes_net hm (netT m).length ((netT m).length + 1) (by omega)
  have l2 := lexes_net hn (netT m).length ((netT m).length + 1) (by rw [h]; omega)
  rw [← h] at l2
  have a1 : At ((lx (netT m).length ((netT m).length + 1) (netT m)).2.2, 0, 0) (netK m) := ⟨rfl, l1.2⟩
  have a2 : At ((lx (netT m).length ((netT m).length + 1) (netT m)).2.2, 0, 0) (netK n) := ⟨rfl, l2.2⟩
  exact (net_at hm a1).1.symm.trans (net_at hn a2).1
end Go.Proofs.YtipcabmhdokfjaaGreatDoorV

/-! show: a network's text hangs on the network alone, places aside; the reference's Same. -/
set_option linter.unusedVariables false
set_option linter.unusedSimpArgs false
namespace Go.Proofs.YtipcabmhdokfjaaGreatDoorV
open Go Go.RowKit

noncomputable instance dec1 : DecidableEq YT1 := fun _ _ => Classical.propDecidable _
noncomputable instance dec2 : DecidableEq YT2 := fun _ _ => Classical.propDecidable _
noncomputable instance dec7 : DecidableEq YT7 := fun _ _ => Classical.propDecidable _
noncomputable instance decG : DecidableEq (List YT4 × Unit) := fun _ _ => Classical.propDecidable _
noncomputable instance dec6 : DecidableEq YT6 := fun _ _ => Classical.propDecidable _
noncomputable instance decN : DecidableEq NetT := fun _ _ => Classical.propDecidable _
theorem flatMap_er {α : Type} (er : α → α) (f : α → List Int) (h : ∀ x, f (er x) = f x) (l : List α) : (l.map er).flatMap f = l.flatMap f := by
  rw [List.flatMap_map]
  simp only [h]
theorem headT_er (h : YT1) : headT (erH h) = headT h := rfl
theorem pedT_er (h : YT2) : pedT (erP h) = pedT h := rfl
theorem phaseT_er (h : YT3) : phaseT (erX h) = phaseT h := rfl
theorem foeT_er (h : YT5) : foeT (erF h) = foeT h := rfl
theorem stopT_er (h : YT7) : stopT (erS h) = stopT h := rfl
theorem nodeT_er (n : YT6) : nodeT (erN n) = nodeT n := by
  unfold nodeT partsT erN
  simp only [flatMap_er erH headT headT_er, flatMap_er erP pedT pedT_er, flatMap_er erX phaseT phaseT_er, flatMap_er erF foeT foeT_er]
theorem netT_er (n : NetT) : netT (erNet n) = netT n := by
  unfold netT artT artB erNet
  simp only [flatMap_er erN nodeT nodeT_er, flatMap_er erS stopT stopT_er, List.length_map]
theorem text_iff {m n : NetT} (hm : netB m = true) (hn : netB n = true) : netT m = netT n ↔ erNet m = erNet n :=
  ⟨net_of_text hm hn, fun h => by rw [← netT_er m, ← netT_er n, h]⟩

section
variable {α β R : Type} [DecidableEq β] (er : α → β) (a b : List α)
theorem zip_all : ∀ (a b : List α), a.length = b.length → ((a.zip b).all (fun x => decide (er x.1 = er x.2)) = true ↔ a.map er = b.map er)
  | [], [], _ => by simp
  | x :: a, y :: b, h => by
    have := zip_all a b (by simpa using h)
    rw [List.zip_cons_cons, List.all_cons, Bool.and_eq_true, this]
    simp
  | [], _ :: _, h => by simp at h
  | _ :: _, [], h => by simp at h
theorem two_loop (F : Nat → Int → Option R) (hl : a.length = b.length) {r e : Option R}
    (h1 : ∀ j i x y, a[i]? = some x → b[i]? = some y → F (j + 1) ((i : Nat) : Int) = if er x = er y then F j ((i + 1 : Nat) : Int) else e) (h0 : ∀ j, F (j + 1) ((a.length : Nat) : Int) = r) (j : Nat) (hj : a.length < j) :
    F j 0 = if a.map er = b.map er then r else e := by
  have hz : (a.zip b).length = a.length := by rw [List.length_zip]; omega
  have L := all_loop0 (a.zip b) (fun x => decide (er x.1 = er x.2)) F e r (fun j i x hx => ?_) (fun j => by rw [hz]; exact h0 j) j (by rw [hz]; exact hj)
  · rw [L]
    have := zip_all er a b hl
    by_cases hc : a.map er = b.map er
    · rw [if_pos hc, if_pos (this.2 hc)]
    · rw [if_neg hc, if_neg (fun h => hc (this.1 h))]
  · obtain ⟨hx1, hx2⟩ := List.getElem?_zip_eq_some.1 hx
    rw [h1 j i x.1 x.2 hx1 hx2]
    simp
theorem rows_if {c r e : Option R} (h : a.length = b.length → c = if a.map er = b.map er then r else e) : (bif (((List.length a : Nat) : Int) != ((List.length b : Nat) : Int)) then e else c) = if a.map er = b.map er then r else e := by
  by_cases hl : a.length = b.length
  · rw [h hl, hl]
    simp
  · have h2 : ¬ a.map er = b.map er := fun h => hl (by have := congrArg List.length h; simpa using this)
    rw [if_neg h2]
    have h3 : (((List.length a : Nat) : Int) != ((List.length b : Nat) : Int)) = true := by simp; omega
    rw [h3]
    rfl
end
theorem bif_same {R : Type} {B : Bool} {p : Prop} [Decidable p] {X e : Option R} (h : B = true ↔ p) : (bif !B then e else X) = if p then X else e := by
  by_cases hp : p
  · rw [if_pos hp, h.2 hp]; rfl
  · rw [if_neg hp]
    cases B with
    | false => rfl
    | true => exact absurd (h.1 rfl) hp
theorem if_and {R : Type} {p q : Prop} [Decidable p] [Decidable q] {X e : R} : (if p then (if q then X else e) else e) = if p ∧ q then X else e := by
  by_cases hp : p <;> by_cases hq : q <;> simp [hp, hq]
theorem bind_same {R : Type} {p : Prop} [Decidable p] {X e : Option R} : ((if p then some true else some false).bind fun o => bif !o then e else X) = if p then X else e := by
  by_cases hp : p <;> simp [hp]
section
variable (k : Nat) (hk : 1000 ≤ k)
include hk
theorem heads_same (a b : List YT1) (ha : a.length < 1000) : cr05heads k (a, b, false) = if a.map erH = b.map erH then some true else some false := by
  rw [fr05heads_e, fr05heads_t]
  refine rows_if erH a b fun hl => two_loop erH a b (fun j i => (fr05heads k).L 4 [] j (fr05heads_s4 (a, b, false, i))) hl (fun j i x y hx hy => ?_) (fun j => ?_) k (by omega)
  · rw [fr05heads_el4, fr05heads_tl4, lt_at hx, idx_at hx, idx_at hy, suc_at hx (by omega)]
    simp only [Bool.not_false, cond_true]
    refine bif_same ?_
    simp [eqS, eqI, erH, Prod.ext_iff]
  · rw [fr05heads_el4, fr05heads_tl4, lt_end]
theorem peds_same (a b : List YT2) (ha : a.length < 1000) : cr05peds k (a, b, false) = if a.map erP = b.map erP then some true else some false := by
  rw [fr05peds_e, fr05peds_t]
  refine rows_if erP a b fun hl => two_loop erP a b (fun j i => (fr05peds k).L 4 [] j (fr05peds_s4 (a, b, false, i))) hl (fun j i x y hx hy => ?_) (fun j => ?_) k (by omega)
  · rw [fr05peds_el4, fr05peds_tl4, lt_at hx, idx_at hx, idx_at hy, suc_at hx (by omega)]
    simp only [Bool.not_false, cond_true]
    refine bif_same ?_
    simp [eqS, eqI, erP, Prod.ext_iff]
  · rw [fr05peds_el4, fr05peds_tl4, lt_end]
theorem foes_same (a b : List YT5) (ha : a.length < 1000) : cr05foes k (a, b, false) = if a.map erF = b.map erF then some true else some false := by
  rw [fr05foes_e, fr05foes_t]
  refine rows_if erF a b fun hl => two_loop erF a b (fun j i => (fr05foes k).L 4 [] j (fr05foes_s4 (a, b, false, i))) hl (fun j i x y hx hy => ?_) (fun j => ?_) k (by omega)
  · rw [fr05foes_el4, fr05foes_tl4, lt_at hx, idx_at hx, idx_at hy, suc_at hx (by omega)]
    simp only [Bool.not_false, cond_true]
    refine bif_same ?_
    simp [eqS, eqI, erF, Prod.ext_iff]
  · rw [fr05foes_el4, fr05foes_tl4, lt_end]
theorem stops_same (a b : List YT7) (ha : a.length < 1000) : cr05stops k (a, b, false) = if a.map erS = b.map erS then some true else some false := by
  rw [fr05stops_e, fr05stops_t]
  refine rows_if erS a b fun hl => two_loop erS a b (fun j i => (fr05stops k).L 4 [] j (fr05stops_s4 (a, b, false, i))) hl (fun j i x y hx hy => ?_) (fun j => ?_) k (by omega)
  · rw [fr05stops_el4, fr05stops_tl4, lt_at hx, idx_at hx, idx_at hy, suc_at hx (by omega)]
    simp only [Bool.not_false, cond_true]
    refine bif_same ?_
    simp [eqS, eqI, erS, Prod.ext_iff]
  · rw [fr05stops_el4, fr05stops_tl4, lt_end]
theorem names_same (a b : List (List Int)) (ha : a.length < 1000) : cr05Names k (a, b) = if a = b then some true else some false := by
  rw [fr05Names_e, fr05Names_t]
  have h := rows_if (c := (fr05Names k).L 4 [] k (fr05Names_s4 (a, b, (0 : Int)))) (r := some true) (e := some false) (id : List Int → List Int) a b fun hl => two_loop id a b (fun j i => (fr05Names k).L 4 [] j (fr05Names_s4 (a, b, i))) hl (fun j i x y hx hy => ?_) (fun j => ?_) k (by omega)
  · rw [List.map_id, List.map_id] at h
    exact h
  · rw [fr05Names_el4, fr05Names_tl4, lt_at hx, idx_at hx, idx_at hy, suc_at hx (by omega)]
    refine bif_same ?_
    simp
  · rw [fr05Names_el4, fr05Names_tl4, lt_end]
theorem phases_same (a b : List YT3) (ha : a.length < 1000) (hx : ∀ x ∈ a, x.2.1.length < 1000) : cr05phases k (a, b, false) = if a.map erX = b.map erX then some true else some false := by
  rw [fr05phases_e, fr05phases_t]
  refine rows_if erX a b fun hl => two_loop erX a b (fun j i => (fr05phases k).L 4 [] j (fr05phases_s4 (a, b, false, i))) hl (fun j i x y hx' hy => ?_) (fun j => ?_) k (by omega)
  · rw [fr05phases_el4, fr05phases_tl4, lt_at hx']
    simp only [idx_at hx', idx_at hy]
    rw [suc_at hx' (by omega), names_same k hk _ _ (hx x (at_mem hx'))]
    simp only [cond_false, bind_same]
    rw [bif_same (p := x.1 = y.1) (by simp), if_and]
    simp [erX, Prod.ext_iff]
  · rw [fr05phases_el4, fr05phases_tl4, lt_end]
theorem rings_same (a b : List (List YT4 × Unit)) (i j : Nat) (x y : List YT4 × Unit) (hx : a[i]? = some x) (hy : b[i]? = some y) (hl : a.length < 1000) (h1 : x.1.length < 1000) (h2 : ∀ r ∈ x.1, r.2.1.length < 1000) (hlen : x.1.length = y.1.length) :
    (fr05Groups k).L 9 [j] k (fr05Groups_s9 (a, b, (i : Int), (0 : Int))) = if x.1.map id = y.1.map id then (fr05Groups k).L 4 [] j (fr05Groups_s4 (a, b, ((i + 1 : Nat) : Int))) else some false := by
  refine two_loop id x.1 y.1 (fun j' i' => (fr05Groups k).L 9 [j] j' (fr05Groups_s9 (a, b, (i : Int), i'))) hlen (fun j' i' r s hr hs => ?_) (fun j' => ?_) k (by omega)
  · rw [fr05Groups_el9, fr05Groups_tl9]
    simp only [idx_at hx, idx_at hy, idx_at hr, idx_at hs]
    rw [lt_at hr, suc_at hr (by omega), names_same k hk _ _ (h2 r (at_mem hr)), bind_same, bif_same (p := r.1 = s.1) (by simp), if_and]
    simp [Prod.ext_iff]
  · rw [fr05Groups_el9, fr05Groups_tl9]
    simp only [idx_at hx, idx_at hy]
    rw [lt_end, suc_at hx (by omega)]
theorem groups_same (a b : List (List YT4 × Unit)) (ha : a.length < 1000) (hx : ∀ x ∈ a, x.1.length < 1000 ∧ ∀ r ∈ x.1, r.2.1.length < 1000) : cr05Groups k (a, b) = if a = b then some true else some false := by
  rw [fr05Groups_e, fr05Groups_t]
  have h := rows_if (c := (fr05Groups k).L 4 [] k (fr05Groups_s4 (a, b, (0 : Int)))) (r := some true) (e := some false) (id : (List YT4 × Unit) → (List YT4 × Unit)) a b fun hl => two_loop id a b (fun j i => (fr05Groups k).L 4 [] j (fr05Groups_s4 (a, b, i))) hl (fun j i x y hx' hy => ?_) (fun j => ?_) k (by omega)
  · rw [List.map_id, List.map_id] at h
    exact h
  · rw [fr05Groups_el4, fr05Groups_tl4, lt_at hx', idx_at hx', idx_at hy]
    rw [rows_if id x.1 y.1 fun hl2 => rings_same k hk a b i j x y hx' hy ha (hx x (at_mem hx')).1 (hx x (at_mem hx')).2 hl2]
    simp only [List.map_id, id]
    obtain ⟨x, ⟨⟩⟩ := x
    obtain ⟨y, ⟨⟩⟩ := y
    simp
  · rw [fr05Groups_el4, fr05Groups_tl4, lt_end]
theorem same_some (m n : NetT) (hS : NetS m) : cr05Same k (m.1, m.2.1, m.2.2.1, m.2.2.2.1, m.2.2.2.2.1, m.2.2.2.2.2.1, m.2.2.2.2.2.2.1, m.2.2.2.2.2.2.2.1, m.2.2.2.2.2.2.2.2, n.1, n.2.1, n.2.2.1, n.2.2.2.1, n.2.2.2.2.1, n.2.2.2.2.2.1, n.2.2.2.2.2.2.1, n.2.2.2.2.2.2.2.1, n.2.2.2.2.2.2.2.2, false) = some (decide (erNet m = erNet n)) := by
  obtain ⟨a0, a1, a2, a3, a4, a5, a6, a7, a8⟩ := m
  obtain ⟨b0, b1, b2, b3, b4, b5, b6, b7, b8⟩ := n
  obtain ⟨s1, s2, s3, s4⟩ := hS
  simp only at s1 s2 s3 s4
  have hN : ∀ hl : a5.length = b5.length, (fr05Same k).L 4 [] k (fr05Same_s4 (false, (0 : Int), a0, a1, a2, a3, a4, a5, a6, a7, a8, b0, b1, b2, b3, b4, b5, b6, b7, b8)) = if a5.map erN = b5.map erN then some true else some false := by
    intro hl
    refine two_loop erN a5 b5 (fun j i => (fr05Same k).L 4 [] j (fr05Same_s4 (false, i, a0, a1, a2, a3, a4, a5, a6, a7, a8, b0, b1, b2, b3, b4, b5, b6, b7, b8))) hl (fun j i x y hx hy => ?_) (fun j => ?_) k (by omega)
    · have hS := s2 x (at_mem hx)
      obtain ⟨-, h1, -, h3, -, h5, h6, h7, h8, h9, -⟩ := hS
      rw [fr05Same_el4, fr05Same_tl4, lt_at hx, idx_at hx, idx_at hy, suc_at hx (by omega)]
      simp only [cond_false]
      rw [heads_same k hk _ _ (by omega), peds_same k hk _ _ (by omega), phases_same k hk _ _ (by omega) (fun z hz => by have := (h6 z hz).2.1; omega),
        groups_same k hk _ _ (by omega) (fun z hz => ⟨by have := (h8 z hz).1; omega, fun r hr => by have := ((h8 z hz).2 r hr).1; omega⟩), foes_same k hk _ _ (by omega)]
      simp only [bind_same]
      rw [bif_same (p := x.1 = y.1) (by simp)]
      simp only [if_and]
      simp [erN, Prod.ext_iff]
    · rw [fr05Same_el4, fr05Same_tl4, lt_end]
  rw [fr05Same_e, fr05Same_t]
  simp only
  rw [stops_same k hk _ _ (by omega), bind_same]
  have hb : ∀ (x y : Int) (X e : Option Bool), (bif x != y then e else X) = if x = y then X else e := by
    intro x y X e
    by_cases h : x = y
    · simp [h]
    · have : (x != y) = true := by simpa using h
      rw [this, if_neg h]
      rfl
  rw [bif_same (p := a3 = b3 ∧ a4 = b4) (by simp [eqI])]
  simp only [hb]
  by_cases hl : a5.length = b5.length
  · rw [hN hl, hl]
    simp only [if_and, erNet, Prod.ext_iff]
    by_cases h5 : a5.map erN = b5.map erN <;> by_cases h6 : a6.map erS = b6.map erS <;> simp [h5, h6] <;> (try (by_cases q0 : a0 = b0 <;> by_cases q1 : a1 = b1 <;> by_cases q2 : a2 = b2 <;> by_cases q3 : a3 = b3 <;> by_cases q4 : a4 = b4 <;> by_cases q7 : a7 = b7 <;> by_cases q8 : a8 = b8 <;> simp [q0, q1, q2, q3, q4, q7, q8]))
  · have hd : decide (erNet (a0, a1, a2, a3, a4, a5, a6, a7, a8) = erNet (b0, b1, b2, b3, b4, b5, b6, b7, b8)) = false := by
      rw [decide_eq_false_iff_not]
      intro h
      simp only [erNet, Prod.mk.injEq] at h
      exact hl (by have := congrArg List.length h.2.2.2.2.2.1; simpa using this)
    rw [hd]
    have hl2 : ¬ ((a5.length : Nat) : Int) = ((b5.length : Nat) : Int) := by omega
    simp only [if_neg hl2, ite_self]
end
end Go.Proofs.YtipcabmhdokfjaaGreatDoorV

/-! show: ShowApart, the plain law. -/
set_option linter.unusedVariables false
set_option linter.unusedSimpArgs false
namespace Go.Proofs.YtipcabmhdokfjaaGreatDoorV
open Go Go.RowKit

theorem awake1_some (k : Nat) (hk : 200000 ≤ k) : cw06awake'1 k () = some true := by
  have h := awChk_true
  unfold awChk at h
  simp only [Bool.and_eq_true, beq_iff_eq] at h
  obtain ⟨h1, h2, h3, h4⟩ := h
  have hS := netS_of h2
  have s1 := show_some k (by omega) _ hS h3
  have s2 := right_net k (by omega) _ hS
  rw [h4] at s1
  rw [h3] at s2
  have s3 := right_net k (by omega) _ (noNet_S (-1))
  have e3 : netB (-1, 0, 0, 0, 0, [], [], 0, 0) = false := rfl
  rw [e3] at s3
  rw [fw06awake'1_e, fw06awake'1_t, sample_some, Option.bind_some, parse_some k hk sampleT (of_decide_eq_true (by kernel_rfl)), Option.bind_some]
  simp only
  generalize parseR sampleT = o at *
  rw [s1, s2, s3, h1]
  simp only [Option.bind_some, beq_self_eq_true, cond_true, Bool.not_false]
theorem show_no (k : Nat) (hk : 200000 ≤ k) (n : NetT) (hS : NetS n) (hB : netB n = false) : cshowShow k n = some ([], 1) := by
  have := right_net k (by omega) n hS
  rw [fshowShow_e]
  obtain ⟨a0, a1, a2, a3, a4, a5, a6, a7, a8⟩ := n
  rw [fshowShow_t, this, hB]
  rfl
theorem showApart_p (m n : NetT) : ∃ k, cw06ShowApart k (m.1, m.2.1, m.2.2.1, m.2.2.2.1, m.2.2.2.2.1, m.2.2.2.2.2.1, m.2.2.2.2.2.2.1, m.2.2.2.2.2.2.2.1, m.2.2.2.2.2.2.2.2, n) = some true := by
  obtain ⟨k, hk⟩ : ∃ k : Nat, k = 200000 := ⟨_, rfl⟩
  refine ⟨k, ?_⟩
  have hk : 200000 ≤ k := by omega
  obtain ⟨b, e, hb⟩ := few_gives k (by omega) m
  obtain ⟨c, f, hc⟩ := few_gives k (by omega) n
  rw [fw06ShowApart_e]
  obtain ⟨a0, a1, a2, a3, a4, a5, a6, a7, a8⟩ := m
  obtain ⟨b0, b1, b2, b3, b4, b5, b6, b7, b8⟩ := n
  rw [fw06ShowApart_t]
  simp only
  rw [e, Option.bind_some]
  cases b with
  | false => rfl
  | true =>
    simp only [Bool.not_true, cond_false]
    rw [f, Option.bind_some]
    cases c with
    | false => rfl
    | true =>
      simp only [Bool.not_true, cond_false]
      have hm := hb rfl
      have hn := hc rfl
      rw [awake1_some k hk, same_some k (by omega) (a0, a1, a2, a3, a4, a5, a6, a7, a8) (b0, b1, b2, b3, b4, b5, b6, b7, b8) hm]
      cases hB : netB (a0, a1, a2, a3, a4, a5, a6, a7, a8)
      · rw [show_no k hk _ hm hB, Option.bind_some]
        cases hC : netB (b0, b1, b2, b3, b4, b5, b6, b7, b8)
        · rw [show_no k hk _ hn hC]
          rfl
        · rw [show_some k (by omega) _ hn hC]
          rfl
      · rw [show_some k (by omega) _ hm hB, Option.bind_some]
        cases hC : netB (b0, b1, b2, b3, b4, b5, b6, b7, b8)
        · rw [show_no k hk _ hn hC]
          rfl
        · rw [show_some k (by omega) _ hn hC]
          have ht := text_iff hB hC
          have h2 : (netT (a0, a1, a2, a3, a4, a5, a6, a7, a8) == netT (b0, b1, b2, b3, b4, b5, b6, b7, b8)) = decide (erNet (a0, a1, a2, a3, a4, a5, a6, a7, a8) = erNet (b0, b1, b2, b3, b4, b5, b6, b7, b8)) := by
            rw [Bool.eq_iff_iff, beq_iff_eq, decide_eq_true_eq]
            exact ht
          simp only [Option.bind_some, h2, beq_self_eq_true, cond_true, cond_false, bne_self_eq_false]
theorem showApart_pure (x : fw06ShowApartT) : ∃ k, cw06ShowApart k x = some true := by
  obtain ⟨a0, a1, a2, a3, a4, a5, a6, a7, a8, a9, a10, a11, a12, a13, a14, a15, a16, a17⟩ := x
  exact showApart_p (a0, a1, a2, a3, a4, a5, a6, a7, a8) (a9, a10, a11, a12, a13, a14, a15, a16, a17)
end Go.Proofs.YtipcabmhdokfjaaGreatDoorV
