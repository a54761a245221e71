import Derived.Test.YtjbijifjlmmnpaaDoorV28
import Derived.Test.YtjbijifjlmmnpaaDoorShelf
import Derived.Test.YtjbijifjlmmnpaaDoorWWords
/-! Contracts of the library's functions, by the shelf: strconv.ParseInt. -/
set_option linter.unusedVariables false
set_option linter.unusedSimpArgs false
namespace Go.Proofs.YtjbijifjlmmnpaaDoorV
open Go Go.RowKit
abbrev piX := List Int × Int × Int

def u8s (l : List Int) : List UInt8 := l.map fun n => UInt8.ofNat n.toNat
theorem u8s_bs (y : ByteArray) : u8s (bs y) = y.data.toList := by
  unfold u8s bs
  rw [List.map_map]
  conv => rhs; rw [← List.map_id y.data.toList]
  apply List.map_congr_left
  intro b _
  simp

def piI : Sk := ⟨[.lf (.pv .str), .lf (.pv (.int .i64)), .lf (.pv (.int .i64))], [], []⟩
def piO : Sk := ⟨[.lf (.pv (.int .i64)), .lf (.err)], [], []⟩
def parseInt (x : List Int × Int × Int) : Option (Int × Bool) :=
  if x.2.1 = 10 ∧ x.2.2 = 64 ∧ x.1.length ≤ 9223372036854775806 then
    (match Lib.parseIntB 64 (u8s x.1) with
    | .ok v => if (Lit.int .i64 v).wf then some (v, true) else none
    | _ => none)
  else none

theorem parseInt_ok : SigOK Tryd.prog 37 ⟨piI, piO, mkFun piI.tys piO.tys parseInt⟩ := by
  refine sig_data (kin := piI) (kout := piO) rfl rfl rfl rfl parseInt ⟨Tryd.f37, by kernel_rfl, by kernel_rfl, by kernel_rfl⟩ fun x y hxy F G vals w hH => ?_
  obtain ⟨a0, a1, a2⟩ := x
  have hs : All2 (HA (HR F (enc piI 0 (toPL piI.tys (a0, a1, a2))) G w)) [lf (.pv ⟨.str, a0⟩), lf (.pv ⟨.int .i64, a1⟩), lf (.pv ⟨.int .i64, a2⟩)] vals := hH.slots
  cases hs with
  | cons h0 hs => cases hs with
    | cons h1 hs => cases hs with
      | cons h2 hs =>
        cases hs
        obtain ⟨s, rfl, e0, hmax⟩ := ha_str h0
        have e1 := (ha_int h1).1
        have e2 := (ha_int h2).1
        subst e0
        subst e1
        subst e2
        unfold parseInt at hxy
        split at hxy
        · rename_i hc
          obtain ⟨c1, c2, c3⟩ := hc
          simp only at c1 c2 c3 hxy
          subst c1 c2
          split at hxy
          · rename_i v hv
            split at hxy
            case isFalse => cases hxy
            rename_i hwf
            cases hxy
            rw [u8s_bs] at hv
            have hl : s.size ≤ 9223372036854775806 := by
              have e : (bs s).length = s.size := by
                unfold bs
                rw [List.length_map]
                rfl
              rw [← e]
              exact c3
            refine (Tryd.strconv_ParseInt_10_at64_ok s hl v hv w).mono fun e w' he => ?_
            refine ⟨[.int .i64 v, .nilIface], he.1, ?_, .cons ?_ (.cons ?_ .nil)⟩
            · rcases he.2 with rfl | ⟨t, rfl⟩
              · exact Grew.refl _
              · exact grew_of_below (Go.Proofs.YtjbijifjlmmnpaaDoorW.PrintWords.bytes_below (Below.refl _ _) (Nat.le_refl _) _ t)
            · exact ha_int_mk hwf
            · exact ha_nil_mk
          · cases hxy
        · cases hxy
end Go.Proofs.YtjbijifjlmmnpaaDoorV
