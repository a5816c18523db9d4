-- Written by a session's program (wip/tools/myprint.py) out of the translation, by way of the kit's printer. Lean checks it.
import Derived.Test.YtpebhhpmcjaioaaPAx4
import Derived.Test.YtpebhhpmcjaioaaOpen
set_option linter.unusedVariables false
namespace Go.Proofs.Ytpebhhpmcjaioaa.PA
open Go.RowKit Go.Proofs.YtpebhhpmcjaioaaW.PrintWords Go.Proofs.YtpebhhpmcjaioaaW.PrintLast Go.Proofs.Ytpebhhpmcjaioaa.Open
namespace SeqTurns

/-- What is left of the law: over numbers and rows alone. -/
def tidewaylaw01_SeqTurns.PureSaid : Prop := ∀ (M : Nat) (a0 : Int) (a1 : Int), (Rng .u32 a0) → (Rng .u32 a1) → ∃ k, tidewaylaw01_SeqTurns.f k a0 a1 = some true
end SeqTurns
end Go.Proofs.Ytpebhhpmcjaioaa.PA
