-- Printed by a session's program (wip/tools/mg3.py) out of the translation. Lean checks it.
import Derived.Test.YtilmdmjhdidoiaaBG0
import Derived.Test.YtilmdmjhdidoiaaMachY
set_option linter.unusedVariables false
namespace Go.Proofs.Ytilmdmjhdidoiaa.M
open Go
namespace LawRecvBegins

/-- What is left of the law: over numbers and rows alone. -/
def Pure : Prop := ∀ (M : Nat) (a0 : Int) (a1 : Int) (a2 : Int) (a3 : Bool), (Rng .i64 a0) → (Rng .i64 a1) → (Rng .u32 a2) → ∃ n, ∀ (R : Type) (k : Bool → Option R), G_law08_RecvBegins capB n a0 a1 a2 a3 k = k true
end LawRecvBegins
end Go.Proofs.Ytilmdmjhdidoiaa.M
