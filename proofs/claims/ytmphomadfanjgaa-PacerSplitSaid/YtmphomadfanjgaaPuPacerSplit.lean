-- Written by a session's program (wip/tools/myprint.py) out of the translation, by way of the kit's printer. Lean checks it.
import Derived.Test.YtmphomadfanjgaaPAx5
import Derived.Test.YtmphomadfanjgaaOpen
set_option linter.unusedVariables false
namespace Go.Proofs.Ytmphomadfanjgaa.PA
open Go.RowKit Go.Proofs.YtmphomadfanjgaaW.PrintWords Go.Proofs.YtmphomadfanjgaaW.PrintLast Go.Proofs.Ytmphomadfanjgaa.Open
namespace PacerSplit

/-- What is left of the law: over numbers and rows alone. -/
def tidewaylaw20_PacerSplit.PureSaid : Prop := ∀ (M : Nat) (a0_0 : Int) (a0_1 : Int) (a0_2 : Int) (a0_3 : Int) (a1 : Int) (a2 : Int), (Rng .i64 a0_0) → (Rng .i64 a0_1) → (Rng .i64 a0_2) → (Rng .i64 a0_3) → (Rng .i64 a1) → (Rng .i64 a2) → ∃ k, tidewaylaw20_PacerSplit.f k a0_0 a0_1 a0_2 a0_3 a1 a2 = some true
end PacerSplit
end Go.Proofs.Ytmphomadfanjgaa.PA
