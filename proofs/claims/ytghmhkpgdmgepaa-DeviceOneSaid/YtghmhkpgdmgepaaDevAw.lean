import Derived.Test.YtghmhkpgdmgepaaDevJ
set_option linter.unusedVariables false
namespace Go.Proofs.YtghmhkpgdmgepaaV
open Go Go.RowKit
theorem aw_true : c8 130 () = some true := by kernel_rfl
end Go.Proofs.YtghmhkpgdmgepaaV
