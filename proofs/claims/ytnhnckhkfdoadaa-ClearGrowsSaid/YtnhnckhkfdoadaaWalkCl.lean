import Derived.Test.YtnhnckhkfdoadaaPClx
/-! The plain laws of layer 8, and the walks of its three statements. -/
namespace Go.Proofs.Ytnhnckhkfdoadaa.Walk
open Go.RowKit Go.Proofs.YtnhnckhkfdoadaaW.PrintWords Go.Proofs.YtnhnckhkfdoadaaW.PrintLast Go.Proofs.YtnhnckhkfdoadaaW.PrintMore Go.Proofs.Ytnhnckhkfdoadaa.PCl

theorem w64 (x : Int) (h1 : -9223372036854775808 ≤ x) (h2 : x ≤ 9223372036854775807) : wrap64 x = x := by unfold wrap64; omega

/-- n / d, rounded up. -/
def cd (n d : Int) : Int := if n % d = 0 then n / d else n / d + 1
theorem cd_spec (n d : Int) (hd : 1 ≤ d) : n ≤ cd n d * d ∧ (cd n d - 1) * d < n := by
  have h1 := Int.emod_add_mul_ediv n d
  have h2 := Int.emod_nonneg n (show d ≠ 0 by omega)
  have h3 := Int.emod_lt_of_pos n (show 0 < d by omega)
  unfold cd
  rw [Int.mul_comm d] at h1
  split
  · rw [Int.sub_mul]; omega
  · rw [Int.add_mul, Int.sub_mul, Int.add_mul]; omega
theorem cd_le (n d k : Int) (hd : 1 ≤ d) (h : n ≤ k * d) : cd n d ≤ k := by
  have h2 := (cd_spec n d hd).2
  have : (cd n d - 1) * d < k * d := by omega
  have := Int.lt_of_mul_lt_mul_right this (by omega)
  omega
theorem cd_nonneg (n d : Int) (hd : 1 ≤ d) (hn : 0 ≤ n) : 0 ≤ cd n d := by
  have := Int.ediv_nonneg hn (show 0 ≤ d by omega)
  unfold cd; split <;> omega
theorem cd_top (n d : Int) (hd : 1 ≤ d) (hn : 0 ≤ n) : cd n d ≤ n := by
  apply cd_le n d n hd
  have := Int.mul_le_mul_of_nonneg_left hd hn
  omega

theorem ceil_f (n d : Int) (hn : 0 ≤ n) (hn2 : n ≤ 1000000000) (hd : 1 ≤ d) : whole_Ceil.f n d = some (cd n d, 0) := by
  unfold whole_Ceil.f cd
  rw [if_neg (by omega), if_neg (by omega)]
  rw [Int.tmod_eq_emod_of_nonneg hn, Int.tdiv_eq_ediv_of_nonneg hn]
  have h1 := Int.ediv_nonneg hn (show 0 ≤ d by omega)
  have h2 := Int.ediv_le_self d hn
  have h3 := Int.emod_nonneg n (show d ≠ 0 by omega)
  rw [w64 (n / d) (by omega) (by omega), w64 (n / d + 1) (by omega) (by omega)]
  by_cases h : n % d = 0
  · rw [if_pos h, if_pos h]
  · rw [if_neg h, if_neg h]
    have e1 : decide (n % d < 0) = false := decide_eq_false (by omega)
    have e2 : decide (d < 0) = false := decide_eq_false (by omega)
    rw [e1, e2]; rfl
theorem up_f (n d : Int) (hn : 0 ≤ n) (hn2 : n ≤ 1000000000) (hd : 1 ≤ d) : carrefourref08_up.f n d = some (cd n d) := by
  unfold carrefourref08_up.f cd
  rw [if_neg (by omega), Int.tdiv_eq_ediv_of_nonneg hn]
  have h1 := Int.ediv_nonneg hn (show 0 ≤ d by omega)
  have h2 := Int.ediv_le_self d hn
  have h3 := Int.emod_nonneg n (show d ≠ 0 by omega)
  have h4 := Int.emod_add_mul_ediv n d
  rw [Int.mul_comm d] at h4
  have h5 := Int.mul_nonneg h1 (show 0 ≤ d by omega)
  rw [w64 (n / d) (by omega) (by omega), w64 (n / d + 1) (by omega) (by omega), w64 (n / d * d) (by omega) (by omega)]
  by_cases h : n % d = 0
  · rw [if_pos h, if_neg (by omega)]
  · rw [if_neg h, if_pos (by omega)]

theorem within1 (lo hi a : Int) : clear_within.f lo hi [a] = some (decide (lo ≤ a ∧ a ≤ hi)) := by
  unfold clear_within.f Ha.outB
  by_cases h : a < lo <;> by_cases h' : hi < a <;> simp [h, h'] <;> omega
theorem within2 (lo hi a b : Int) : clear_within.f lo hi [a, b] = some (decide ((lo ≤ a ∧ a ≤ hi) ∧ (lo ≤ b ∧ b ≤ hi))) := by
  unfold clear_within.f Ha.outB
  by_cases h : a < lo <;> by_cases h' : hi < a <;> by_cases k : b < lo <;> by_cases k' : hi < b <;> simp [h, h', k, k'] <;> omega

abbrev okY (s g : Int) : Prop := (1 ≤ s ∧ s ≤ 10000) ∧ (-200 ≤ g ∧ g ≤ 200)
abbrev okR (a b s : Int) : Prop := ((0 ≤ a ∧ a ≤ 100000) ∧ (0 ≤ b ∧ b ≤ 100000)) ∧ (1 ≤ s ∧ s ≤ 10000)
abbrev okF (a p : Int) : Prop := (1 ≤ a ∧ a ≤ 100000) ∧ (1 ≤ p ∧ p ≤ 10000)
def yel (s g : Int) : Int := 10 + cd (10000 * s) (610000 + 1962 * g)
def red (a b s : Int) : Int := cd (10 * (a + b)) s
def fla (a p : Int) : Int := cd (10 * a) p

theorem yellow_f (s g : Int) : clear_Yellow.f s g = if okY s g then some (yel s g, 0) else some (0, 1) := by
  unfold clear_Yellow.f yel
  rw [within1, within1]; simp only [Option.bind_some]
  by_cases h : 1 ≤ s ∧ s ≤ 10000
  · rw [if_pos (by simpa using h)]
    by_cases k : -200 ≤ g ∧ g ≤ 200
    · rw [if_pos (by simpa using k), if_pos ⟨h, k⟩]
      rw [w64 (10000 * s) (by omega) (by omega), w64 (981 * g) (by omega) (by omega), w64 (305000 + 981 * g) (by omega) (by omega), w64 _ (by omega) (by omega)]
      rw [ceil_f _ _ (by omega) (by omega) (by omega)]
      have e : 2 * (305000 + 981 * g) = 610000 + 1962 * g := by omega
      have := cd_nonneg (10000 * s) (610000 + 1962 * g) (by omega) (by omega)
      have := cd_top (10000 * s) (610000 + 1962 * g) (by omega) (by omega)
      rw [e]; simp only [Option.bind_some]
      rw [w64 _ (by omega) (by omega)]
    · rw [if_neg (by simpa using k), if_neg (fun x => k x.2)]
  · rw [if_neg (by simpa using h), if_neg (fun x => h x.1)]
theorem yellow_r (s g : Int) : carrefourref08_Yellow.f s g = if okY s g then some (yel s g, 0) else some (0, 1) := by
  unfold carrefourref08_Yellow.f yel
  by_cases h : okY s g
  · rw [if_pos h]
    rw [if_neg (by omega), if_neg (by omega), if_neg (by omega), if_neg (by omega)]
    rw [w64 (10000 * s) (by omega) (by omega), w64 (1962 * g) (by omega) (by omega), w64 (610000 + _) (by omega) (by omega)]
    rw [up_f _ _ (by omega) (by omega) (by omega)]
    have := cd_nonneg (10000 * s) (610000 + 1962 * g) (by omega) (by omega)
    have := cd_top (10000 * s) (610000 + 1962 * g) (by omega) (by omega)
    simp only [Option.bind_some]
    rw [w64 _ (by omega) (by omega)]
  · rw [if_neg h]
    (repeat' split) <;> first | rfl | (exfalso; omega)
theorem red_f (a b s : Int) : clear_Red.f a b s = if okR a b s then some (red a b s, 0) else some (0, 1) := by
  unfold clear_Red.f red
  rw [within2, within1]; simp only [Option.bind_some]
  by_cases h : (0 ≤ a ∧ a ≤ 100000) ∧ (0 ≤ b ∧ b ≤ 100000)
  · rw [if_pos (by simpa using h)]
    by_cases k : 1 ≤ s ∧ s ≤ 10000
    · rw [if_pos (by simpa using k), if_pos ⟨h, k⟩]
      rw [w64 (a + b) (by omega) (by omega), w64 (10 * (a + b)) (by omega) (by omega), ceil_f _ _ (by omega) (by omega) (by omega)]; rfl
    · rw [if_neg (by simpa using k), if_neg (fun x => k x.2)]
  · rw [if_neg (by simpa using h), if_neg (fun x => h x.1)]
theorem red_r (a b s : Int) : carrefourref08_Red.f a b s = if okR a b s then some (red a b s, 0) else some (0, 1) := by
  unfold carrefourref08_Red.f red
  by_cases h : okR a b s
  · rw [if_pos h]
    rw [if_neg (by omega), if_neg (by omega), if_neg (by omega), if_neg (by omega), if_neg (by omega), if_neg (by omega)]
    rw [w64 (a + b) (by omega) (by omega), w64 (10 * (a + b)) (by omega) (by omega), up_f _ _ (by omega) (by omega) (by omega)]; rfl
  · rw [if_neg h]
    (repeat' split) <;> first | rfl | (exfalso; omega)
theorem flash_f (a p : Int) : clear_Flash.f a p = if okF a p then some (fla a p, 0) else some (0, 1) := by
  unfold clear_Flash.f fla
  rw [within1, within1]; simp only [Option.bind_some]
  by_cases h : 1 ≤ a ∧ a ≤ 100000
  · rw [if_pos (by simpa using h)]
    by_cases k : 1 ≤ p ∧ p ≤ 10000
    · rw [if_pos (by simpa using k), if_pos ⟨h, k⟩]
      rw [w64 (10 * a) (by omega) (by omega), ceil_f _ _ (by omega) (by omega) (by omega)]; rfl
    · rw [if_neg (by simpa using k), if_neg (fun x => k x.2)]
  · rw [if_neg (by simpa using h), if_neg (fun x => h x.1)]
theorem flash_r (a p : Int) : carrefourref08_Flash.f a p = if okF a p then some (fla a p, 0) else some (0, 1) := by
  unfold carrefourref08_Flash.f fla
  by_cases h : okF a p
  · rw [if_pos h]
    rw [if_neg (by omega), if_neg (by omega), if_neg (by omega), if_neg (by omega)]
    rw [w64 (10 * a) (by omega) (by omega), up_f _ _ (by omega) (by omega) (by omega)]; rfl
  · rw [if_neg h]
    (repeat' split) <;> first | rfl | (exfalso; omega)
theorem awake_f : carrefourlaw08_awake.f = some true := by decide +kernel

theorem yellow_both (s g : Int) : ∃ y, clear_Yellow.f s g = some y ∧ carrefourref08_Yellow.f s g = some y := by
  rw [yellow_f, yellow_r]; split <;> exact ⟨_, rfl, rfl⟩
theorem red_both (a b s : Int) : ∃ y, clear_Red.f a b s = some y ∧ carrefourref08_Red.f a b s = some y := by
  rw [red_f, red_r]; split <;> exact ⟨_, rfl, rfl⟩
theorem flash_both (a p : Int) : ∃ y, clear_Flash.f a p = some y ∧ carrefourref08_Flash.f a p = some y := by
  rw [flash_f, flash_r]; split <;> exact ⟨_, rfl, rfl⟩
theorem times_f (s g a b c d : Int) : carrefourlaw08_ClearTimes.f s g a b c d = some true := by
  unfold carrefourlaw08_ClearTimes.f
  obtain ⟨y, h1, h2⟩ := yellow_both s g
  obtain ⟨r, h3, h4⟩ := red_both a b s
  obtain ⟨f, h5, h6⟩ := flash_both c d
  rw [h1, h2, h3, h4, h5, h6, awake_f]; simp

theorem prod_top (c d n : Int) (h : (c - 1) * d < n) : c * d < n + d := by rw [Int.sub_mul] at h; omega

theorem enough_j1 (k : Nat) (a b c d : Int) : carrefourlaw08_ClearEnough.j1 (k + 1) false a b c d = some true := by
  simp only [carrefourlaw08_ClearEnough.j1]
  rw [if_neg (by simp), flash_f, awake_f]
  by_cases h : okF c d
  · rw [if_pos h]; simp only [Option.bind_some]
    have h1 := cd_spec (10 * c) d (by omega)
    have h2 := prod_top _ _ _ h1.2
    have h3 := cd_nonneg (10 * c) d (by omega) (by omega)
    have h4 := cd_top (10 * c) d (by omega) (by omega)
    have h5 : (cd (10 * c) d - 1) * d ≥ -d := by rw [Int.sub_mul]; have := Int.mul_nonneg h3 (show 0 ≤ d by omega); omega
    unfold fla
    rw [if_pos trivial, w64 (10 * c) (by omega) (by omega), w64 (cd (10 * c) d * d) (by omega) (by omega), if_neg (by omega), w64 (cd (10 * c) d - 1) (by omega) (by omega), w64 ((cd (10 * c) d - 1) * d) (by omega) (by omega), if_neg (by omega)]
  · rw [if_neg h]; rfl

theorem enough_j0 (k : Nat) (s a b c d : Int) : carrefourlaw08_ClearEnough.j0 (k + 2) s a b c d = some true := by
  simp only [carrefourlaw08_ClearEnough.j0]
  rw [red_f]
  by_cases h : okR a b s
  · rw [if_pos h]; simp only [Option.bind_some]
    have h1 := cd_spec (10 * (a + b)) s (by omega)
    have h2 := prod_top _ _ _ h1.2
    have h3 := cd_nonneg (10 * (a + b)) s (by omega) (by omega)
    have h4 := cd_top (10 * (a + b)) s (by omega) (by omega)
    have h5 : (cd (10 * (a + b)) s - 1) * s ≥ -s := by rw [Int.sub_mul]; have := Int.mul_nonneg h3 (show 0 ≤ s by omega); omega
    unfold red
    rw [if_pos trivial, w64 (a + b) (by omega) (by omega), w64 (10 * (a + b)) (by omega) (by omega), w64 (cd (10 * (a + b)) s * s) (by omega) (by omega), if_neg (by omega), w64 (cd (10 * (a + b)) s - 1) (by omega) (by omega), w64 ((cd (10 * (a + b)) s - 1) * s) (by omega) (by omega), if_neg (by omega)]
    exact enough_j1 k a b c d
  · rw [if_neg h]; exact enough_j1 k a b c d

theorem enough_f (s g a b c d : Int) : carrefourlaw08_ClearEnough.f 2 s g a b c d = some true := by
  unfold carrefourlaw08_ClearEnough.f
  rw [yellow_f]
  by_cases h : okY s g
  · rw [if_pos h]; simp only [Option.bind_some]
    have hd : 1 ≤ 610000 + 1962 * g := by omega
    have hD : 610000 + 1962 * g ≤ 1100000 := by omega
    have h1 := cd_spec (10000 * s) (610000 + 1962 * g) hd
    have h2 := prod_top _ _ _ h1.2
    have h3 := cd_nonneg (10000 * s) (610000 + 1962 * g) hd (by omega)
    have h4 := cd_top (10000 * s) (610000 + 1962 * g) hd (by omega)
    have h5 : (cd (10000 * s) (610000 + 1962 * g) - 1) * (610000 + 1962 * g) ≥ -(610000 + 1962 * g) := by rw [Int.sub_mul]; have := Int.mul_nonneg h3 (show 0 ≤ 610000 + 1962 * g by omega); omega
    have e1 : wrap64 (1962 * g) = 1962 * g := w64 _ (by omega) (by omega)
    have e2 : wrap64 (610000 + 1962 * g) = 610000 + 1962 * g := w64 _ (by omega) (by omega)
    have e3 : wrap64 (10000 * s) = 10000 * s := w64 _ (by omega) (by omega)
    unfold yel
    have e4 : wrap64 (10 + cd (10000 * s) (610000 + 1962 * g) - 10) = cd (10000 * s) (610000 + 1962 * g) := by rw [w64 _ (by omega) (by omega)]; omega
    have e5 : wrap64 (10 + cd (10000 * s) (610000 + 1962 * g) - 11) = cd (10000 * s) (610000 + 1962 * g) - 1 := by rw [w64 _ (by omega) (by omega)]; omega
    rw [if_pos trivial, e1, e2, e3, e4, e5]
    generalize 610000 + 1962 * g = D at *
    generalize cd (10000 * s) D = C at *
    rw [w64 (C * D) (by omega) (by omega), if_neg (by omega), w64 ((C - 1) * D) (by omega) (by omega), if_neg (by omega)]
    exact enough_j0 0 s a b c d
  · rw [if_neg h]; exact enough_j0 0 s a b c d

theorem cd_mono (n m d : Int) (hd : 1 ≤ d) (h : n ≤ m) : cd n d ≤ cd m d := cd_le n d _ hd (by have := (cd_spec m d hd).1; omega)
theorem cd_anti (n d e : Int) (hn : 0 ≤ n) (hd : 1 ≤ d) (h : d ≤ e) : cd n e ≤ cd n d := by
  apply cd_le n e _ (by omega)
  have h1 := (cd_spec n d hd).1
  have h2 := Int.mul_le_mul_of_nonneg_left h (cd_nonneg n d hd hn)
  omega

theorem grows_j0 (s g : Int) (x : Bool) (a b : Int) (h : x = false → (1 ≤ s ∧ s < 10000) ∧ (-200 ≤ g ∧ g < 200) ∧ (1 ≤ a ∧ a < 100000) ∧ 0 ≤ b ∧ b ≤ 100000) : carrefourlaw08_ClearGrows.j0 1 s g x a b = some true := by
  simp only [carrefourlaw08_ClearGrows.j0]
  rw [awake_f]
  cases x with
  | true => rfl
  | false =>
    obtain ⟨hs, hg, ha, hb⟩ := h rfl
    rw [if_neg (by simp), w64 (s + 1) (by omega) (by omega), w64 (g + 1) (by omega) (by omega), w64 (a + 1) (by omega) (by omega)]
    rw [yellow_f, yellow_f, yellow_f, red_f, red_f, red_f, flash_f, flash_f, flash_f]
    rw [if_pos (by omega), if_pos (by omega), if_pos (by omega), if_pos (by omega), if_pos (by omega), if_pos (by omega), if_pos (by omega), if_pos (by omega), if_pos (by omega)]
    simp only [Option.bind_some, yel, red, fla]
    have h1 := cd_mono (10000 * s) (10000 * (s + 1)) (610000 + 1962 * g) (by omega) (by omega)
    have h2 := cd_anti (10000 * s) (610000 + 1962 * g) (610000 + 1962 * (g + 1)) (by omega) (by omega) (by omega)
    have h3 := cd_anti (10 * (a + b)) s (s + 1) (by omega) (by omega) (by omega)
    have h4 := cd_mono (10 * (a + b)) (10 * (a + 1 + b)) s (by omega) (by omega)
    have h5 := cd_mono (10 * a) (10 * (a + 1)) s (by omega) (by omega)
    have h6 := cd_anti (10 * a) s (s + 1) (by omega) (by omega) (by omega)
    rw [if_pos (by omega), if_pos (by omega), if_pos (by omega), if_pos (by omega), if_pos (by omega), if_pos (by omega)]

theorem grows_f (s g a b : Int) : carrefourlaw08_ClearGrows.f 1 s g a b = some true := by
  unfold carrefourlaw08_ClearGrows.f
  (repeat' split) <;> apply grows_j0 <;> simp <;> omega

/-- For every input ClearTimes returns true, and lays memory of its own alone. -/
theorem ClearTimes (s g a b c d : Int) (w : World) (_ : (Lit.int .i64 s).wf = true) (_ : (Lit.int .i64 g).wf = true) (_ : (Lit.int .i64 a).wf = true) (_ : (Lit.int .i64 b).wf = true) (_ : (Lit.int .i64 c).wf = true) (_ : (Lit.int .i64 d).wf = true) :
    Calls Try.prog 3 #[.int .i64 s, .int .i64 g, .agg #[.int .i64 a, .int .i64 b, .int .i64 c, .int .i64 d]] w fun e w' => e = .returned (.bool true) ∧ Below w.heap.size w w' :=
  carrefourlaw08_ClearTimes.calls s g a b c d true w (times_f s g a b c d)
/-- For every input ClearEnough returns true. -/
theorem ClearEnough (s g a b c d : Int) (w : World) (_ : (Lit.int .i64 s).wf = true) (_ : (Lit.int .i64 g).wf = true) (_ : (Lit.int .i64 a).wf = true) (_ : (Lit.int .i64 b).wf = true) (_ : (Lit.int .i64 c).wf = true) (_ : (Lit.int .i64 d).wf = true) :
    Calls Try.prog 4 #[.int .i64 s, .int .i64 g, .agg #[.int .i64 a, .int .i64 b, .int .i64 c, .int .i64 d]] w fun e w' => e = .returned (.bool true) ∧ Below w.heap.size w w' :=
  carrefourlaw08_ClearEnough.calls 2 s g a b c d true w (enough_f s g a b c d)
/-- For every input ClearGrows returns true. -/
theorem ClearGrows (s g a b : Int) (w : World) (_ : (Lit.int .i64 s).wf = true) (_ : (Lit.int .i64 g).wf = true) (_ : (Lit.int .i64 a).wf = true) (_ : (Lit.int .i64 b).wf = true) :
    Calls Try.prog 5 #[.int .i64 s, .int .i64 g, .agg #[.int .i64 a, .int .i64 b]] w fun e w' => e = .returned (.bool true) ∧ Below w.heap.size w w' :=
  carrefourlaw08_ClearGrows.calls 1 s g a b true w (grows_f s g a b)
end Go.Proofs.Ytnhnckhkfdoadaa.Walk
