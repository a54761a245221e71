import Derived.Test.YtghmhkpgdmgepaaV26
/-! The V engine, 27: contracts in a row; words for equations. -/
set_option linter.unusedVariables false
set_option linter.unusedSimpArgs false
namespace Go.Proofs.YtghmhkpgdmgepaaV
open Go Go.RowKit

def lookS : List (Nat × List Sig) → Nat → List Sig
  | [], _ => []
  | x :: r, i => if x.1 = i then x.2 else lookS r i
def AllS (P : Program) (g : Nat) : List Sig → Prop
  | [] => True
  | s :: r => SigOK P g s ∧ AllS P g r
def AllSig (P : Program) : List (Nat × List Sig) → Prop
  | [] => True
  | x :: r => AllS P x.1 x.2 ∧ AllSig P r
theorem allS_mem {P : Program} {g : Nat} : ∀ {l : List Sig}, AllS P g l → ∀ s ∈ l, SigOK P g s
  | s :: r, h, x, hx => by
    rcases List.mem_cons.1 hx with rfl | hx
    · exact h.1
    · exact allS_mem h.2 x hx
theorem allSig_look {P : Program} : ∀ {l : List (Nat × List Sig)}, AllSig P l → ∀ g, ∀ s ∈ lookS l g, SigOK P g s
  | [], h, g, s, hs => by cases hs
  | (n, l) :: r, h, g, s, hs => by
    simp only [lookS] at hs
    split at hs
    · rename_i e; subst e; exact allS_mem h.1 s hs
    · exact allSig_look h.2 g s hs
theorem fn_ok {C : Cfg} {l : List (Nat × List Sig)} (he : C.env = lookS l) (hl : AllSig C.P l) (hm : C.P.follows .mixedOrders = true) (k : Nat) {g : Nat} {fn : Func} (hf : C.P.funcs[g]? = some fn) (hname : (fn.name == "runtime.NumGoroutine") = false)
    (hb : fn.body = some (bodyOf fn)) (kin kout : Sk) (hnB : C.npB = kin.boxes.length) (hnO : C.npO = kin.owns.length) (hlB : C.npB ≤ N0) (hlO : C.npO ≤ N0) : SigOK C.P g ⟨kin, kout, mkFun kin.tys kout.tys (fnOf C k fn kin kout)⟩ := by
  have hE : EnvOK C := by
    intro g s hs
    rw [he] at hs
    exact allSig_look hl g s hs
  exact fn_sound hE (draw_ok hm hE) k hf hname hb kin kout hnB hnO hlB hlO
theorem fnP_ok {C : Cfg} {l : List (Nat × List Sig)} (he : C.env = lookS l) (hl : AllSig C.P l) (hm : C.P.follows .mixedOrders = true) (k : Nat) {g : Nat} {fn : Func} (hf : C.P.funcs[g]? = some fn) (hname : (fn.name == "runtime.NumGoroutine") = false)
    (hb : fn.body = some (bodyOf fn)) (kin kout : Sk) (pt : Nat) (tp : List Ty) (pg : Bool) (hnB : C.npB = kin.boxes.length) (hnO : C.npO = kin.owns.length) (hlB : C.npB ≤ N0) (hlO : C.npO ≤ N0) : SigOK C.P g ⟨kin, kout, mkFunP kin.tys kout.tys pt tp pg (fnOfP C k fn kin kout pt tp pg)⟩ := by
  have hE : EnvOK C := by
    intro g s hs
    rw [he] at hs
    exact allSig_look hl g s hs
  exact fnP_sound hE (draw_ok hm hE) k hf hname hb kin kout pt tp pg hnB hnO hlB hlO

def rdA {α : Type} (d : α) (xs : List α) (i : Nat) : α := xs.getD i d
def appB (b m n : Nat) : Bool := decide ((m + n) * b ≤ 140737488355328) && decide (m + n ≤ maxLen)
end Go.Proofs.YtghmhkpgdmgepaaV
