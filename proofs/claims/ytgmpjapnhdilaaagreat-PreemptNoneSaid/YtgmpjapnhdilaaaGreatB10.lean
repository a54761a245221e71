import Derived.Test.YtgmpjapnhdilaaaGreatB9
/-! Joined, names shortened: QX. -/
set_option linter.unusedVariables false
set_option linter.unusedSimpArgs false
set_option maxRecDepth 1000000
set_option maxHeartbeats 4000000
namespace Go.Proofs.YtgmpjapnhdilaaaGreatV
open Go Go.RowKit
noncomputable section
def xHD : List YT1 := ([(([97] : List Int), (0, (0, ((0, (0, ())), (0, (0, (0, (0, (0, (0, ())))))))))), (([98] : List Int), (0, (0, ((0, (0, ())), (0, (0, (0, (0, (0, (0, ()))))))))))] : List YT1)
def xPH : List YT3 := ([(([112] : List Int), (([([97] : List Int)] : List (List Int)), (0, ()))), (([113] : List Int), (([([98] : List Int)] : List (List Int)), (0, ())))] : List YT3)
def xGR : List ((List YT4) × Unit) := ([(([(false, (([([112] : List Int), ([113] : List Int)] : List (List Int)), ()))] : List YT4), ())] : List ((List YT4) × Unit))
def xSL : List YT6 := ([(([112] : List Int), (10, (3, (2, ([], ()))))), (([113] : List Int), (10, (2, (0, ([], ())))))] : List YT6)
def xSP : List ((List (List YT6)) × Unit) := [([xSL], ())]
def xR (n : Int) : List YT11 := [((0, (n, ())), (xSL, ()))]
theorem Bkb : Aa5 (fun _ x => x) 10000 ([], xHD, [], xPH, xGR, [], 0, [], 0, xSP, 0, 0) = some (.inr (0, [], xHD, [], xPH, xGR, [], 0, [], 0, xSP, 0, 0, 20, 0, 0, [], 0, 0, 0, 0, [], xHD, [], xPH, 0, [], 0, xSP, 0, 0, 20, 0, 0, [0, 0], xR 0)) := by kernel_rfl
theorem xnew : Ej 10000 ([], xHD, [], xPH, xGR, [], 0, [], 0, xSP, 0, 0) = some (.inr (0, [], xHD, [], xPH, xGR, [], 0, [], 0, xSP, 0, 0, 20, 0, 0, [], 0, 0, 0, 0, [], xHD, [], xPH, 0, [], 0, xSP, 0, 0, 20, 0, 0, [0, 0], xR 0)) := by rw [Bbl, E5]; exact Bkb
end
end Go.Proofs.YtgmpjapnhdilaaaGreatV
