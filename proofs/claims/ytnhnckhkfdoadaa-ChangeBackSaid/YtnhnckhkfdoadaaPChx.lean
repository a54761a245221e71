-- By a program of this session, after the kit's print.
import Derived.Test.YtnhnckhkfdoadaaPChx0
import Derived.Test.YtnhnckhkfdoadaaPChx1
import Derived.Test.YtnhnckhkfdoadaaPChx2
import Derived.Test.YtnhnckhkfdoadaaPChx3
import Derived.Test.YtnhnckhkfdoadaaPChx4
import Derived.Test.YtnhnckhkfdoadaaPChx5
namespace Go.Proofs.Ytnhnckhkfdoadaa.PCh
open Go.RowKit Go.Proofs.YtnhnckhkfdoadaaW.PrintWords Go.Proofs.YtnhnckhkfdoadaaW.PrintLast Go.Proofs.YtnhnckhkfdoadaaW.PrintMore
attribute [local go_sem] max2_int min2_int max_two min_two max_three min_three max_four min_four   -- for this text's walks alone
set_option linter.unusedVariables false
set_option linter.unusedSimpArgs false

end Go.Proofs.Ytnhnckhkfdoadaa.PCh
