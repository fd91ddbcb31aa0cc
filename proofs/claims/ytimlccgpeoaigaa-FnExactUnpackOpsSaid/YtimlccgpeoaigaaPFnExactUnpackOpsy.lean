-- Written by a program of this session (wip/tools/mkprint2.py over the kit's print); texts of functions that the print does not take are the session's own (ext.py).
import Derived.Test.YtimlccgpeoaigaaPFnExactUnpackOpsy0
import Derived.Test.YtimlccgpeoaigaaPFnExactUnpackOpsy1
import Derived.Test.YtimlccgpeoaigaaPFnExactUnpackOpsy2
import Derived.Test.YtimlccgpeoaigaaPFnExactUnpackOpsy3
import Derived.Test.YtimlccgpeoaigaaPFnExactUnpackOpsy4
import Derived.Test.YtimlccgpeoaigaaPFnExactUnpackOpsy5
import Derived.Test.YtimlccgpeoaigaaPFnExactUnpackOpsy6
import Derived.Test.YtimlccgpeoaigaaPFnExactUnpackOpsy7
import Derived.Test.YtimlccgpeoaigaaPFnExactUnpackOpsy8
import Derived.Test.YtimlccgpeoaigaaPFnExactUnpackOpsy9
namespace Go.Proofs.Ytimlccgpeoaigaa.PFnExactUnpackOps
open Go.RowKit Go.Proofs.YtimlccgpeoaigaaW.PrintWords Go.Proofs.YtimlccgpeoaigaaW.PrintLast Go.Proofs.YtimlccgpeoaigaaW.PrintMore
attribute [local go_sem] max2_int min2_int max_two min_two max_three min_three max_four min_four   -- for this text's walks alone
set_option linter.unusedVariables false
set_option linter.unusedSimpArgs false

end Go.Proofs.Ytimlccgpeoaigaa.PFnExactUnpackOps
