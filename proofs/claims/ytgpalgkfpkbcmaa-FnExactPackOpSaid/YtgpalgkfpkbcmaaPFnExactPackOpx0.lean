-- PRINTED BY print.sh 35421559b90ae4d0a3588c463048766b98c2df88dd9212a6774a882060cdf62d: not written by this session
import Derived.Test.YtgpalgkfpkbcmaaProg
import Derived.Below
import Derived.Deep.Draws
import Derived.Deep.AppendLies
import Derived.Maps.AppendAt
import Derived.OwnWalk
import Derived.Laws.BytesArg
import Derived.Laws.MakeOwn
import Derived.Laws.OwnMore
import Derived.Deep.OwnRows
import Derived.Tactics
import Derived.Lib.ConvBytes
import Derived.Laws.Slices
import Derived.WalkKit
import Derived.KernelRfl
import Derived.RowKit3
import Derived.Deep.LoopGhost
import Derived.Deep.QuietTactic
import Derived.BigQuiet
import Derived.WideLaws
import Derived.Deep.DeepCutAuto
import Derived.Deep.CutBlock
import Derived.Deep.RegionHeld3
import Derived.Laws.Rows
import Derived.Lib.AppendStr
import Derived.ArgAppend
import Derived.Laws.IdiomCopy
import Derived.OrdersHeld
import Derived.Laws.BitsLemmas
import Derived.RowKit
import Derived.Test.YtgpalgkfpkbcmaaWWords
import Derived.Test.YtgpalgkfpkbcmaaWLast
import Derived.Test.YtgpalgkfpkbcmaaWTab
import Derived.Test.YtgpalgkfpkbcmaaWFour
import Derived.Test.YtgpalgkfpkbcmaaWQPut
import Derived.Test.YtgpalgkfpkbcmaaWApart
import Derived.Test.YtgpalgkfpkbcmaaWArr
import Derived.Test.YtgpalgkfpkbcmaaWZeros
import Derived.Test.YtgpalgkfpkbcmaaWFoot
import Derived.Test.YtgpalgkfpkbcmaaWKept
import Derived.Test.YtgpalgkfpkbcmaaWShare
import Derived.Test.YtgpalgkfpkbcmaaWN
import Derived.Test.YtgpalgkfpkbcmaaWFootNe
import Derived.Test.YtgpalgkfpkbcmaaWAt
import Derived.Test.YtgpalgkfpkbcmaaWEqStruct
import Derived.Test.YtgpalgkfpkbcmaaWRepsOne
import Derived.Test.YtgpalgkfpkbcmaaWInv
import Derived.Test.YtgpalgkfpkbcmaaWInvWords
import Derived.Test.YtgpalgkfpkbcmaaWGuard
import Derived.Test.YtgpalgkfpkbcmaaWNEv
import Derived.Test.YtgpalgkfpkbcmaaWMore
namespace Go.Proofs.Ytgpalgkfpkbcmaa.PFnExactPackOp
open Go.RowKit Go.Proofs.YtgpalgkfpkbcmaaW.PrintWords Go.Proofs.YtgpalgkfpkbcmaaW.PrintLast Go.Proofs.YtgpalgkfpkbcmaaW.PrintMore
attribute [local go_sem] max2_int min2_int max_two min_two max_three min_three max_four min_four   -- for this text's walks alone
set_option linter.unusedVariables false
set_option linter.unusedSimpArgs false



def errW : Option Int → Value
  | none => .nilIface
  | some c => .iface 0 (.int .i64 c)
theorem errW_none : errW none = .nilIface := rfl
theorem errW_some (c : Int) : errW (some c) = .iface 0 (.int .i64 c) := rfl

theorem info5 : (Try.prog.info? 5).map (fun i => (i.zero, i.size, i.bytes)) = some (some (.int .u8 0), 1, 1) := by kernel_rfl
-- the values' own types

end Go.Proofs.Ytgpalgkfpkbcmaa.PFnExactPackOp
