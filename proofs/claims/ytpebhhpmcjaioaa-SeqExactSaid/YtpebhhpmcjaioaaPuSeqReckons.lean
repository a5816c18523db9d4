-- Written by a session's program (wip/tools/myprint.py) out of the translation, by way of the kit's printer. Lean checks it.
import Derived.Test.YtpebhhpmcjaioaaPAx3
import Derived.Test.YtpebhhpmcjaioaaOpen
set_option linter.unusedVariables false
namespace Go.Proofs.Ytpebhhpmcjaioaa.PA
open Go.RowKit Go.Proofs.YtpebhhpmcjaioaaW.PrintWords Go.Proofs.YtpebhhpmcjaioaaW.PrintLast Go.Proofs.Ytpebhhpmcjaioaa.Open
namespace SeqReckons

/-- What is left of the law: over numbers and rows alone. -/
def tidewaylaw01_SeqReckons.PureSaid : Prop := ∀ (M : Nat) (a0 : Int) (a1 : Int) (a2 : Int), (Rng .i64 a0) → (Rng .i64 a1) → (Rng .i64 a2) → ∃ k, tidewaylaw01_SeqReckons.f k a0 a1 a2 = some true
end SeqReckons
end Go.Proofs.Ytpebhhpmcjaioaa.PA
