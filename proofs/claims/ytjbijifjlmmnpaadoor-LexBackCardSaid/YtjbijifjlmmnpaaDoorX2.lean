import Derived.Test.YtjbijifjlmmnpaaDoorX1
/-! Contracts of the library's functions, by the shelf: strings.Join. -/
set_option linter.unusedVariables false
set_option linter.unusedSimpArgs false
namespace Go.Proofs.YtjbijifjlmmnpaaDoorV
open Go Go.RowKit

def toBy (l : List Int) : ByteArray := ⟨(u8s l).toArray⟩
theorem toBy_bs (y : ByteArray) : toBy (bs y) = y := by
  unfold toBy
  rw [u8s_bs]
def joinB (x : List (List Int) × List Int) : List UInt8 := Lib.join ((x.1.map toBy).map (·.data.toList)) (toBy x.2).data.toList
def joI : Sk := ⟨[.lf (.pv (.slice .str)), .lf (.pv .str)], [], []⟩
def joO : Sk := ⟨[.lf (.pv .str)], [], []⟩
def joinS (x : List (List Int) × List Int) : Option (List Int) :=
  if (joinB x).length ≤ 140737488355328 ∧ x.1.length ≤ 140737488355328 ∧ (joinB x).length ≤ maxLen then some (bs ⟨(joinB x).toArray⟩) else none

theorem join_run {ok : Nat → Prop} {w : World} {s : ByteArray} {a0 : List (List Int)} {v0 : Value} (hok : ∀ b, ok b → b < w.heap.size)
    (hR : RepSl (α := List Int) w ok (fun (x : List Int) es => ∃ y : ByteArray, es = [.string y] ∧ bs y = x ∧ y.size ≤ maxLen) 1 a0 [v0])
    (c1 : (joinB (a0, bs s)).length ≤ 140737488355328) (c2 : a0.length ≤ 140737488355328) :
    Calls Tryd.prog 23 #[v0, .string s] w fun e w' => e = .returned (.string ⟨(joinB (a0, bs s)).toArray⟩) ∧ Below w.heap.size w w' := by
  obtain ⟨A, c, e1, h2, h3, h4⟩ := hR
  cases e1
  have hsep : (toBy (bs s)).data.toList = s.data.toList := by rw [toBy_bs]
  cases a0 with
  | nil =>
    refine (Tryd.strings_Join_none A c s w).mono fun e w' he => ⟨?_, he.2 ▸ Below.refl _ _⟩
    rw [he.1]
    rfl
  | cons z zs =>
    obtain ⟨ad, rfl, hsp, hokb, hel⟩ := h4 (by simp)
    obtain ⟨b, o, sp⟩ := ad
    simp only at hsp
    subst hsp
    have hlen : ((z :: zs).map toBy).length = (z :: zs).length := List.length_map _
    have hj := Tryd.strings_Join b o c ((z :: zs).map toBy) s w (fun j q hq => ?_) (hok _ hokb) (by rw [hlen]; exact c2) (by rw [hlen]; exact h2) (by rw [← hsep]; exact c1)
    · rw [hlen] at hj
      refine hj.mono fun e w' he => ⟨?_, he.2⟩
      rw [he.1, ← hsep]
      rfl
    · rw [List.getElem?_map] at hq
      obtain ⟨x, hx, rfl⟩ := Option.map_eq_some_iff.1 hq
      obtain ⟨es, ⟨y, rfl, hy, _⟩, hcl⟩ := hel j x hx
      subst hy
      rw [toBy_bs]
      have := hcl 0 (.string y) rfl
      simp [Addr.add] at this
      split at this
      · rename_i e; subst e; simpa using this
      · exact this

theorem joinS_ok : SigOK Tryd.prog 23 ⟨joI, joO, mkFun joI.tys joO.tys joinS⟩ := by
  refine sig_data (kin := joI) (kout := joO) rfl rfl rfl rfl joinS ⟨Tryd.f23, by kernel_rfl, by kernel_rfl, by kernel_rfl⟩ fun x y hxy F G vals w hH => ?_
  obtain ⟨a0, a1⟩ := x
  have hs : All2 (HA (HR F (enc joI 0 (toPL joI.tys (a0, a1))) G w)) [lf (.pv ⟨.slice .str, a0⟩), lf (.pv ⟨.str, a1⟩)] vals := hH.slots
  cases hs with
  | cons h0 hs => cases hs with
    | cons h1 hs =>
      cases hs
      obtain ⟨s, rfl, e0, hmax⟩ := ha_str h1
      subst e0
      unfold joinS at hxy
      split at hxy
      · rename_i hc
        cases hxy
        exact (join_run (ok := okS F (enc joI 0 (toPL joI.tys (a0, bs s))) G w) (fun b hb => hb.1) h0 hc.1 hc.2.1).mono fun e w' he => ⟨[_], he.1, grew_of_below he.2, .cons (ha_str_mk hc.2.2) .nil⟩
      · cases hxy
end Go.Proofs.YtjbijifjlmmnpaaDoorV
