-- Printed by a session's program (wip/tools/mg3.py) out of the translation. Lean checks it.
import Derived.Test.YtgnoidblkenglaaSG0
import Derived.Test.YtgnoidblkenglaaMachY
set_option linter.unusedVariables false
namespace Go.Proofs.Ytgnoidblkenglaa.M
open Go
namespace LawCcStays
/-- What is given of a value of this type. -/
def InSample (M : Nat) (x : SSample) : Prop := (Rng .i64 x.xNow) ∧ (Rng .i64 x.xAcked) ∧ (Rng .i64 x.xRtt) ∧ (Rng .i64 x.xRate) ∧ (True) ∧ (Rng .i64 x.xGiven) ∧ (Rng .i64 x.xBefore) ∧ (Rng .i64 x.xFlight)
/-- What is left of the law: over numbers and rows alone. -/
def Pure : Prop := ∀ (M : Nat) (a0 : Int) (a1 : Int) (a2 : (List SSample)) (a3 : (List Int)), (Rng .i64 a0) → (Rng .i64 a1) → (a2.length ≤ 9223372036854775807 ∧ a2.length * 64 ≤ 140737488351232 ∧ a2.length ≤ M ∧ ∀ y ∈ a2, InSample M y) → (a3.length ≤ 9223372036854775807 ∧ a3.length * 8 ≤ 140737488351232 ∧ a3.length ≤ M ∧ ∀ y ∈ a3, Rng .i64 y) → ∃ n, ∀ (R : Type) (k : Bool → Option R), G_law19_CcStays capB n a0 a1 a2 a3 k = k true
end LawCcStays
end Go.Proofs.Ytgnoidblkenglaa.M
