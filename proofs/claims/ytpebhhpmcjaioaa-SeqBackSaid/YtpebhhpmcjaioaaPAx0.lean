-- Written by a session's program (wip/tools/myprint.py) out of the translation, by way of the kit's printer. Lean checks it.
import Derived.Test.YtpebhhpmcjaioaaProg
import Derived.Below
import Derived.Deep.Draws
import Derived.Deep.AppendLies
import Derived.Maps.AppendAt
import Derived.OwnWalk
import Derived.Laws.BytesArg
import Derived.Laws.MakeOwn
import Derived.Laws.OwnMore
import Derived.Deep.OwnRows
import Derived.Tactics
import Derived.Lib.ConvBytes
import Derived.Laws.Slices
import Derived.WalkKit
import Derived.KernelRfl
import Derived.RowKit3
import Derived.Deep.LoopGhost
import Derived.Deep.QuietTactic
import Derived.BigQuiet
import Derived.WideLaws
import Derived.Deep.DeepCutAuto
import Derived.Deep.CutBlock
import Derived.Deep.RegionHeld3
import Derived.Laws.Rows
import Derived.Lib.AppendStr
import Derived.ArgAppend
import Derived.Laws.IdiomCopy
import Derived.OrdersHeld
import Derived.Laws.BitsLemmas
import Derived.RowKit
import Derived.Test.YtpebhhpmcjaioaaWWords
import Derived.Test.YtpebhhpmcjaioaaWLast
import Derived.Test.YtpebhhpmcjaioaaWTab
import Derived.Test.YtpebhhpmcjaioaaWFour
import Derived.Test.YtpebhhpmcjaioaaWQPut
import Derived.Test.YtpebhhpmcjaioaaWApart
import Derived.Test.YtpebhhpmcjaioaaWArr
import Derived.Test.YtpebhhpmcjaioaaWZeros
import Derived.Test.YtpebhhpmcjaioaaWFoot
import Derived.Test.YtpebhhpmcjaioaaWKept
import Derived.Test.YtpebhhpmcjaioaaWShare
import Derived.Test.YtpebhhpmcjaioaaWN
import Derived.Test.YtpebhhpmcjaioaaWFootNe
import Derived.Test.YtpebhhpmcjaioaaWAt
import Derived.Test.YtpebhhpmcjaioaaWEqStruct
import Derived.Test.YtpebhhpmcjaioaaWRepsOne
import Derived.Test.YtpebhhpmcjaioaaWInv
import Derived.Test.YtpebhhpmcjaioaaWInvWords
import Derived.Test.YtpebhhpmcjaioaaWGuard
import Derived.Test.YtpebhhpmcjaioaaWNEv
import Derived.Test.YtpebhhpmcjaioaaWMore
namespace Go.Proofs.Ytpebhhpmcjaioaa.PA
open Go.RowKit Go.Proofs.YtpebhhpmcjaioaaW.PrintWords Go.Proofs.YtpebhhpmcjaioaaW.PrintLast Go.Proofs.YtpebhhpmcjaioaaW.PrintMore
attribute [local go_sem] max2_int min2_int max_two min_two max_three min_three max_four min_four   -- for this text's walks alone
set_option linter.unusedVariables false
set_option linter.unusedSimpArgs false



def errW : Option Int → Value
  | none => .nilIface
  | some c => .iface 0 (.int .i64 c)
theorem errW_none : errW none = .nilIface := rfl
theorem errW_some (c : Int) : errW (some c) = .iface 0 (.int .i64 c) := rfl

-- the values' own types

end Go.Proofs.Ytpebhhpmcjaioaa.PA
