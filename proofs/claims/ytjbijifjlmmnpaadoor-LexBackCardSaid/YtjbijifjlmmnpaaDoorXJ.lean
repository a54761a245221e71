import Derived.Test.YtjbijifjlmmnpaaDoorX2
/-! strings.Join over rows of bytes as whole numbers. -/
set_option linter.unusedVariables false
set_option linter.unusedSimpArgs false
namespace Go.Proofs.YtjbijifjlmmnpaaDoorV
open Go Go.RowKit

def byB (l : List Int) : Prop := ∀ x ∈ l, 0 ≤ x ∧ x ≤ 255
/-- Rows with a separator between. -/
def joinI (sep : List Int) : List (List Int) → List Int
  | [] => []
  | [x] => x
  | x :: y :: r => x ++ (sep ++ joinI sep (y :: r))
def u8n (l : List UInt8) : List Int := l.map fun b => (b.toNat : Int)
theorem u8n_u8s {l : List Int} (h : byB l) : u8n (u8s l) = l := by
  unfold u8n u8s
  rw [List.map_map]
  conv => rhs; rw [← List.map_id l]
  apply List.map_congr_left
  intro x hx
  have := h x hx
  simp only [Function.comp, id]
  rw [UInt8.toNat_ofNat']
  omega
theorem u8n_app (a b : List UInt8) : u8n (a ++ b) = u8n a ++ u8n b := List.map_append
theorem join_two (sep x y : List UInt8) (r : List (List UInt8)) : Lib.join (x :: y :: r) sep = x ++ (sep ++ Lib.join (y :: r) sep) := by
  rw [Lib.join_cons, Lib.join_cons]
  simp [Lib.joinTail]
theorem u8n_join (sep : List Int) (hs : byB sep) : ∀ (ws : List (List Int)), (∀ w ∈ ws, byB w) → u8n (Lib.join (ws.map u8s) (u8s sep)) = joinI sep ws
  | [], _ => rfl
  | [x], h => by
    rw [List.map_cons, List.map_nil, Lib.join_one, u8n_u8s (h x (by simp))]; rfl
  | x :: y :: r, h => by
    have IH := u8n_join sep hs (y :: r) fun w hw => h w (by simp [hw])
    rw [List.map_cons] at IH
    rw [List.map_cons, List.map_cons, join_two, u8n_app, u8n_app, IH, u8n_u8s (h x (by simp)), u8n_u8s hs]
    rfl
theorem joinS_eq (sep : List Int) (ws : List (List Int)) (hs : byB sep) (hw : ∀ w ∈ ws, byB w) (hl : (joinI sep ws).length ≤ 140737488355328) (hn : ws.length ≤ 140737488355328) : joinS (ws, sep) = some (joinI sep ws) := by
  have e1 : joinB (ws, sep) = Lib.join (ws.map u8s) (u8s sep) := by
    unfold joinB
    simp only [List.map_map]
    rfl
  have e2 := u8n_join sep hs ws hw
  have e3 : (joinB (ws, sep)).length = (joinI sep ws).length := by
    rw [e1, ← e2]
    unfold u8n
    rw [List.length_map]
  unfold joinS
  have hm : maxLen = 9223372036854775807 := rfl
  rw [if_pos ⟨by omega, hn, by omega⟩]
  refine congrArg some ?_
  rw [e1, ← e2]
  rfl
theorem joinI_len (sep : List Int) (m : Nat) : ∀ (ws : List (List Int)), (∀ w ∈ ws, w.length ≤ m) → (joinI sep ws).length ≤ ws.length * (m + sep.length)
  | [], _ => Nat.zero_le _
  | [x], h => by
    have := h x (by simp)
    show x.length ≤ _
    simp
    omega
  | x :: y :: r, h => by
    have IH := joinI_len sep m (y :: r) fun w hw => h w (by simp [hw])
    have := h x (by simp)
    show (x ++ (sep ++ joinI sep (y :: r))).length ≤ _
    rw [List.length_append, List.length_append, List.length_cons (a := x), Nat.add_mul]
    omega
theorem joinI_by (sep : List Int) (hs : byB sep) : ∀ (ws : List (List Int)), (∀ w ∈ ws, byB w) → byB (joinI sep ws)
  | [], _ => fun x hx => by cases hx
  | [x], h => h x (by simp)
  | x :: y :: r, h => by
    have IH := joinI_by sep hs (y :: r) fun w hw => h w (by simp [hw])
    intro z hz
    rcases List.mem_append.1 hz with hz | hz
    · exact h x (by simp) z hz
    · rcases List.mem_append.1 hz with hz | hz
      · exact hs z hz
      · exact IH z hz
end Go.Proofs.YtjbijifjlmmnpaaDoorV
