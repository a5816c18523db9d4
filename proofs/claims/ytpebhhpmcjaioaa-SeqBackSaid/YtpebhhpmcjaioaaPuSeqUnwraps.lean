-- Written by a session's program (wip/tools/myprint.py) out of the translation, by way of the kit's printer. Lean checks it.
import Derived.Test.YtpebhhpmcjaioaaPAx5
import Derived.Test.YtpebhhpmcjaioaaOpen
set_option linter.unusedVariables false
namespace Go.Proofs.Ytpebhhpmcjaioaa.PA
open Go.RowKit Go.Proofs.YtpebhhpmcjaioaaW.PrintWords Go.Proofs.YtpebhhpmcjaioaaW.PrintLast Go.Proofs.Ytpebhhpmcjaioaa.Open
namespace SeqUnwraps

/-- What is left of the law: over numbers and rows alone. -/
def tidewaylaw01_SeqUnwraps.PureSaid : Prop := ∀ (M : Nat) (a0 : Int) (a1 : Int) (a2 : Int) (a3 : Int), (Rng .i64 a0) → (Rng .u32 a1) → (Rng .i64 a2) → (Rng .i64 a3) → ∃ k, tidewaylaw01_SeqUnwraps.f k a0 a1 a2 a3 = some true
end SeqUnwraps
end Go.Proofs.Ytpebhhpmcjaioaa.PA
