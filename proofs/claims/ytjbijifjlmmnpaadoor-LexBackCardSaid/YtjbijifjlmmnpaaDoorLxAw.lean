import Derived.Test.YtjbijifjlmmnpaaDoorG
set_option linter.unusedVariables false
namespace Go.Proofs.YtjbijifjlmmnpaaDoorV
open Go Go.RowKit
set_option maxRecDepth 100000 in
theorem awake_true : c9 70000 () = some true := by kernel_rfl
end Go.Proofs.YtjbijifjlmmnpaaDoorV
