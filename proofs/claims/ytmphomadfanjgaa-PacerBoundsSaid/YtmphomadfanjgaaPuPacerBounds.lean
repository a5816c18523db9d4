-- Written by a session's program (wip/tools/myprint.py) out of the translation, by way of the kit's printer. Lean checks it.
import Derived.Test.YtmphomadfanjgaaPAx6
import Derived.Test.YtmphomadfanjgaaOpen
set_option linter.unusedVariables false
namespace Go.Proofs.Ytmphomadfanjgaa.PA
open Go.RowKit Go.Proofs.YtmphomadfanjgaaW.PrintWords Go.Proofs.YtmphomadfanjgaaW.PrintLast Go.Proofs.Ytmphomadfanjgaa.Open
namespace PacerBounds
/-- What is given of an element of this type. -/
def In33 (M : Nat) (x : S33) : Prop := (Rng .i64 x.f0) ∧ (Rng .i64 x.f1)
/-- What is left of the law: over numbers and rows alone. -/
def tidewaylaw20_PacerBounds.PureSaid : Prop := ∀ (M : Nat) (a0 : Int) (a1 : Int) (l2 : List (S33)), (Rng .i64 a0) → (Rng .i64 a1) → (l2.length ≤ 9223372036854775807 ∧ l2.length * 16 ≤ 140737488351232 ∧ l2.length ≤ M ∧ ∀ y ∈ l2, In33 M y) → ∃ k, tidewaylaw20_PacerBounds.f k a0 a1 l2 = some true
end PacerBounds
end Go.Proofs.Ytmphomadfanjgaa.PA
