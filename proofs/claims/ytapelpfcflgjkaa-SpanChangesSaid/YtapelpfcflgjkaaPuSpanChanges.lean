-- Printed by a session's program (wip/tools/mg3.py) out of the translation. Lean checks it.
import Derived.Test.YtapelpfcflgjkaaCG0
import Derived.Test.YtapelpfcflgjkaaMachY
set_option linter.unusedVariables false
namespace Go.Proofs.Ytapelpfcflgjkaa.M
open Go
namespace LawSpanChanges
/-- What is given of a value of this type. -/
def InSpan (M : Nat) (x : SSpan) : Prop := (Rng .i64 x.xFrom) ∧ (Rng .i64 x.xTo)
/-- What is left of the law: over numbers and rows alone. -/
def Pure : Prop := ∀ (M : Nat) (a0 : (List SSpan)) (a1 : SSpan), (a0.length ≤ 9223372036854775807 ∧ a0.length * 16 ≤ 140737488351232 ∧ a0.length ≤ M ∧ ∀ y ∈ a0, InSpan M y) → (InSpan M a1) → ∃ n, ∀ (R : Type) (k : Bool → Option R), G_law06_SpanChanges capB n a0 a1 k = k true
end LawSpanChanges
end Go.Proofs.Ytapelpfcflgjkaa.M
