-- Written by a program of this session (wip/tools/mkprint2.py over the kit's print); texts of functions that the print does not take are the session's own (ext.py).
import Derived.Test.YtimlccgpeoaigaaPFnExactScanOpsy0
import Derived.Test.YtimlccgpeoaigaaPFnExactScanOpsy1
import Derived.Test.YtimlccgpeoaigaaPFnExactScanOpsy2
import Derived.Test.YtimlccgpeoaigaaPFnExactScanOpsy3
import Derived.Test.YtimlccgpeoaigaaPFnExactScanOpsy4
import Derived.Test.YtimlccgpeoaigaaPFnExactScanOpsy5
import Derived.Test.YtimlccgpeoaigaaPFnExactScanOpsy6
import Derived.Test.YtimlccgpeoaigaaPFnExactScanOpsy7
namespace Go.Proofs.Ytimlccgpeoaigaa.PFnExactScanOps
open Go.RowKit Go.Proofs.YtimlccgpeoaigaaW.PrintWords Go.Proofs.YtimlccgpeoaigaaW.PrintLast Go.Proofs.YtimlccgpeoaigaaW.PrintMore
attribute [local go_sem] max2_int min2_int max_two min_two max_three min_three max_four min_four   -- for this text's walks alone
set_option linter.unusedVariables false
set_option linter.unusedSimpArgs false

end Go.Proofs.Ytimlccgpeoaigaa.PFnExactScanOps
