import Derived.Test.YtghmhkpgdmgepaaV6
import Derived.OpenShut
import Derived.Laws.Strings
import Derived.Lib.ConvBytes
/-! The V engine, 7: the data's laws: numbers, strings, rows. -/
set_option linter.unusedVariables false
set_option linter.unusedSimpArgs false
namespace Go.Proofs.YtghmhkpgdmgepaaV
open Go Go.RowKit

theorem wf_bounds {k : IntKind} {n : Int} : (Lit.int k n).wf = true ↔ k.min ≤ n ∧ n ≤ k.max := by simp [Lit.wf]
theorem kmin_le (k : IntKind) : k.min ≤ 0 := by cases k <;> decide
theorem kmax_ge (k : IntKind) : 0 ≤ k.max := by cases k <;> decide

theorem wf_fdiv {k : IntKind} {x : Int} (h : (Lit.int k x).wf = true) (n : Nat) : (Lit.int k (x.fdiv (2 ^ n))).wf = true := by
  rw [wf_bounds] at h ⊢
  have hp : (1 : Int) ≤ 2 ^ n := by
    have : 0 < (2 : Int) ^ n := Int.pow_pos (by decide)
    omega
  rw [Int.fdiv_eq_ediv_of_nonneg _ (by omega)]
  have h1 := kmin_le k
  have h2 := kmax_ge k
  generalize hd : (2 : Int) ^ n = d at hp
  by_cases hx : 0 ≤ x
  · have h3 : 0 ≤ x / d := Int.ediv_nonneg hx (by omega)
    have h4 : x / d ≤ x := Int.ediv_le_self _ hx
    omega
  · have h3 : x / d < 0 := Int.ediv_neg_of_neg_of_pos (by omega) (by omega)
    have h4 : x ≤ x / d := by
      rw [Int.le_ediv_iff_mul_le (by omega)]
      have := Int.mul_le_mul_of_nonpos_left (a := x) (b := d) (c := 1) (by omega) (by omega)
      omega
    omega
theorem wf_tmod {k : IntKind} {x : Int} (y : Int) (h : (Lit.int k x).wf = true) : (Lit.int k (x.tmod y)).wf = true := by
  rw [wf_bounds] at h ⊢
  have h1 := kmin_le k
  have h2 := kmax_ge k
  by_cases hx : 0 ≤ x
  · have h3 : 0 ≤ x.tmod y := Int.tmod_nonneg y hx
    have h4 : x.tmod y ≤ x := by
      have e := Int.tmod_add_mul_tdiv x y
      have : 0 ≤ y * x.tdiv y := by
        by_cases hy : 0 ≤ y
        · exact Int.mul_nonneg hy (Int.tdiv_nonneg hx hy)
        · have : x.tdiv y ≤ 0 := Int.tdiv_nonpos_of_nonneg_of_nonpos hx (by omega)
          exact Int.mul_nonneg_of_nonpos_of_nonpos (by omega) this
      omega
    omega
  · have h3 : (-x).tmod y = - x.tmod y := Int.neg_tmod x y
    have h5 : 0 ≤ (-x).tmod y := Int.tmod_nonneg y (by omega)
    have h4 : (-x).tmod y ≤ -x := by
      have e := Int.tmod_add_mul_tdiv (-x) y
      have : 0 ≤ y * (-x).tdiv y := by
        by_cases hy : 0 ≤ y
        · exact Int.mul_nonneg hy (Int.tdiv_nonneg (by omega) hy)
        · have : (-x).tdiv y ≤ 0 := Int.tdiv_nonpos_of_nonneg_of_nonpos (by omega) (by omega)
          exact Int.mul_nonneg_of_nonpos_of_nonpos (by omega) this
      omega
    omega

theorem rep_int {w : World} {ok : Nat → Prop} {k : IntKind} {n : Int} {cs : List Value} (h : Rep w ok (.int k) n cs) : cs = [.int k n] ∧ (Lit.int k n).wf = true := h
/-! #### strings -/
theorem bs_app (x y : ByteArray) : bs (x ++ y) = bs x ++ bs y := by simp [bs, ByteArray.data_append]
theorem u8_inj : ∀ (x y : List UInt8), (x.map fun b => (b.toNat : Int)) = (y.map fun b => (b.toNat : Int)) → x = y
  | [], [], _ => rfl
  | [], _ :: _, h => by simp at h
  | _ :: _, [], h => by simp at h
  | a :: x, b :: y, h => by
    simp only [List.map_cons, List.cons.injEq] at h
    have h1 : a.toNat = b.toNat := by omega
    rw [u8_inj x y h.2, UInt8.toNat_inj.1 h1]
theorem bs_beq (x y : ByteArray) : (x.toList == y.toList) = (bs x == bs y) := by
  rw [ByteArray.toList_eq, ByteArray.toList_eq, Bool.eq_iff_iff, beq_iff_eq, beq_iff_eq]
  exact ⟨fun h => by rw [bs, bs, h], fun h => u8_inj _ _ h⟩
theorem u8_lt (a b : UInt8) : decide (a < b) = decide ((a.toNat : Int) < (b.toNat : Int)) := by
  rw [Bool.eq_iff_iff]; simp [UInt8.lt_iff_toNat_lt]
theorem u8_beq (a b : UInt8) : (a == b) = ((a.toNat : Int) == (b.toNat : Int)) := by
  rw [Bool.eq_iff_iff, beq_iff_eq, beq_iff_eq]
  exact ⟨fun h => by rw [h], fun h => UInt8.toNat_inj.1 (by omega)⟩
theorem bytesLess_eq : ∀ (x y : List UInt8), Op.bytesLess x y = ltS (x.map fun b => (b.toNat : Int)) (y.map fun b => (b.toNat : Int))
  | [], [] => rfl
  | _ :: _, [] => rfl
  | [], _ :: _ => rfl
  | a :: x, b :: y => by simp [Op.bytesLess, ltS, bytesLess_eq x y, u8_lt, u8_beq]
theorem bs_lt (x y : ByteArray) : Op.bytesLess x.toList y.toList = ltS (bs x) (bs y) := by
  rw [ByteArray.toList_eq, ByteArray.toList_eq, bytesLess_eq]; rfl
theorem bs_get (y : ByteArray) (i : Nat) (h : i < y.size) : rdI (bs y) i = (y[i].toNat : Int) := by
  have h2 : i < y.data.toList.length := h
  have h3 : y.data[i]? = some y[i] := Array.getElem?_eq_getElem h
  simp [rdI, bs, List.getD, h3]
theorem bs_extract (y : ByteArray) (a b : Nat) : bs (y.extract a b) = ((bs y).take b).drop a := by
  simp only [bs, ByteArray.data_extract, Array.toList_extract, List.extract_eq_take_drop, List.map_drop, List.map_take, List.drop_take]
theorem bs_mk (l : List UInt8) : bs ⟨l.toArray⟩ = l.map fun b => (b.toNat : Int) := by simp [bs]
/-- Bytes as whole numbers are bytes. -/
theorem bytes_of {ok : Nat → Prop} {w : World} {a : Addr} (hs : a.spot = none) : ∀ (xs : List Int) (a : Addr), a.spot = none → (∀ (i : Nat) (x : Int), xs[i]? = some x → ∃ es, Rep w ok (.int .u8) x es ∧ Cells w (a.add (i * 1)) es) →
    ∃ l : List UInt8, (l.map fun b => (b.toNat : Int)) = xs ∧ ∀ j (hj : j < l.length), w.cell? (a.add j) = some (.int .u8 (l[j].toNat : Int)) := by
  intro xs a hs h
  have hx : ∀ x ∈ xs, 0 ≤ x ∧ x < 256 := by
    intro x hx
    obtain ⟨i, hi, rfl⟩ := List.getElem_of_mem hx
    obtain ⟨es, hr, _⟩ := h i _ (List.getElem?_eq_getElem hi)
    have := wf_bounds.1 (rep_int hr).2
    simp [IntKind.min, IntKind.max, IntKind.signed, IntKind.bits] at this
    omega
  have hm : ((xs.map fun x => UInt8.ofNat x.toNat).map fun b => (b.toNat : Int)) = xs := by
    rw [List.map_map]
    conv => rhs; rw [← List.map_id xs]
    apply List.map_congr_left
    intro x hx'
    have := hx x hx'
    simp only [Function.comp, UInt8.toNat_ofNat', id]
    omega
  refine ⟨xs.map fun x => UInt8.ofNat x.toNat, hm, fun j hj => ?_⟩
  have hj' : j < xs.length := by simpa using hj
  obtain ⟨es, hr, hc⟩ := h j _ (List.getElem?_eq_getElem hj')
  have h2 := hc 0 (.int .u8 xs[j]) (by rw [(rep_int hr).1]; rfl)
  have h3 : (List.map (fun b => (b.toNat : Int)) (xs.map fun x => UInt8.ofNat x.toNat))[j]? = some xs[j] := by rw [hm]; exact List.getElem?_eq_getElem hj'
  rw [List.getElem?_map, List.getElem?_eq_getElem hj] at h3
  simp only [Option.map_some, Option.some.injEq] at h3
  rw [h3]
  simpa [Addr.add] using h2

/-- string(b), of a row that is read. -/
theorem run_toString {P : Program} {w : World} {ok : Nat → Prop} {src dst e : Nat} (hs : P.underlying src = some (.slice e)) (he : P.underlying e = some (.int .u8)) (hd : P.underlying dst = some .string)
    {xs : List Int} {v : Value} (h : Rep w ok (.slice (.int .u8)) xs [v]) : ∃ y : ByteArray, (convert src dst v).run P w = .ok (.string y) w ∧ bs y = xs ∧ y.size ≤ maxLen := by
  have h' : RepSl w ok (fun x es => Rep w ok (.int .u8) x es) 1 xs [v] := h
  obtain ⟨A, c, e1, hl, hc, hx⟩ := h'
  obtain rfl : v = .slice A xs.length c := List.singleton_inj.1 e1
  by_cases hn : xs = []
  · subst hn
    cases A with
    | none => exact ⟨ByteArray.empty, run_convert_bytes_nil w src e hs he _ _ dst hd, rfl, Nat.zero_le _⟩
    | some ad => exact ⟨⟨#[]⟩, run_convert_bytes_back w src dst e ad c [] hs he hd (fun j hj => by simp at hj), rfl, Nat.zero_le _⟩
  · obtain ⟨ad, rfl, hsp, _, hel⟩ := hx hn
    obtain ⟨l, rfl, hcl⟩ := bytes_of (ok := ok) hsp xs ad hsp hel
    refine ⟨⟨l.toArray⟩, ?_, bs_mk l, ?_⟩
    · have := run_convert_bytes_back (P := P) w src dst e ad c l hs he hd hcl
      simpa using this
    · have := bs_len ⟨l.toArray⟩
      rw [bs_mk] at this
      have h5 : (⟨l.toArray⟩ : ByteArray).size = (l.map fun b => (b.toNat : Int)).length := this.symm
      rw [h5]
      exact Nat.le_trans hl hc

/-- A row of the call's own, read. -/
theorem own_rep {F : Nat → Prop} {s : St} {G : Gm} {w : World} {vals : List Value} (h : Holds F s G vals w) {l : Nat} {o : Own} (ho : ownAt s l = some o) :
    Rep w (fun k => okS F s G w k ∨ (G.ow l).ownBlock = some k) (.slice o.t) o.xs [G.ow l] := by
  obtain ⟨h0, cs, hr, he⟩ := h.own l o ho
  have he' : RepRow w (fun k => okS F s G w k ∨ (G.ow l).ownBlock = some k) o.t o.xs cs := he.mono fun k hk => ⟨.inl hk, rfl⟩
  rcases hr.2 with ⟨hv, hn⟩ | ⟨g, cap, cur, hv, _, hh, hnc, hm, hs, htk⟩
  · have hx : o.xs = [] := List.length_eq_zero_iff.1 hn
    rw [hv, hx]
    exact ⟨none, 0, rfl, Nat.le_refl _, Nat.zero_le _, fun h => absurd rfl h⟩
  · have h7 := rep_slice_mk (a := ⟨g, 0, none⟩) (c := cap) he' (w := w) ?_ rfl (.inr (by rw [hv]; rfl)) hnc hm
    · rw [hv] at h7 ⊢
      exact h7
    rw [← htk]
    have := cells_block hh 0
    simp only [List.drop_zero] at this
    exact this.take _

end Go.Proofs.YtghmhkpgdmgepaaV
