-- Written by a program of this session (wip/tools/mkprint2.py over the kit's print); texts of functions that the print does not take are the session's own (ext.py).
import Derived.Test.YtbapnhdmhbkbpaaPFnExactInRowy0
import Derived.Test.YtbapnhdmhbkbpaaPFnExactInRowy1
import Derived.Test.YtbapnhdmhbkbpaaPFnExactInRowy2
import Derived.Test.YtbapnhdmhbkbpaaPFnExactInRowy3
import Derived.Test.YtbapnhdmhbkbpaaPFnExactInRowy4
import Derived.Test.YtbapnhdmhbkbpaaPFnExactInRowy5
namespace Go.Proofs.Ytbapnhdmhbkbpaa.PFnExactInRow
open Go.RowKit Go.Proofs.YtbapnhdmhbkbpaaW.PrintWords Go.Proofs.YtbapnhdmhbkbpaaW.PrintLast Go.Proofs.YtbapnhdmhbkbpaaW.PrintMore
attribute [local go_sem] max2_int min2_int max_two min_two max_three min_three max_four min_four   -- for this text's walks alone
set_option linter.unusedVariables false
set_option linter.unusedSimpArgs false

end Go.Proofs.Ytbapnhdmhbkbpaa.PFnExactInRow
