-- Written by a session's program (wip/tools/myprint.py) out of the translation, by way of the kit's printer. Lean checks it.
import Derived.Test.YtpebhhpmcjaioaaPAx0
import Derived.Test.YtpebhhpmcjaioaaPAx1
import Derived.Test.YtpebhhpmcjaioaaPAx2
import Derived.Test.YtpebhhpmcjaioaaPAx3
import Derived.Test.YtpebhhpmcjaioaaPAx4
import Derived.Test.YtpebhhpmcjaioaaPAx5
namespace Go.Proofs.Ytpebhhpmcjaioaa.PA
open Go.RowKit Go.Proofs.YtpebhhpmcjaioaaW.PrintWords Go.Proofs.YtpebhhpmcjaioaaW.PrintLast Go.Proofs.YtpebhhpmcjaioaaW.PrintMore
attribute [local go_sem] max2_int min2_int max_two min_two max_three min_three max_four min_four   -- for this text's walks alone
set_option linter.unusedVariables false
set_option linter.unusedSimpArgs false

end Go.Proofs.Ytpebhhpmcjaioaa.PA
