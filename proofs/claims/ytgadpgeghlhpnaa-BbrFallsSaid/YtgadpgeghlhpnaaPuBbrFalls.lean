-- Printed by a session's program (wip/tools/mg3.py) out of the translation. Lean checks it.
import Derived.Test.YtgadpgeghlhpnaaFG0
import Derived.Test.YtgadpgeghlhpnaaMachY
set_option linter.unusedVariables false
namespace Go.Proofs.Ytgadpgeghlhpnaa.M
open Go
namespace LawBbrFalls
/-- What is given of a value of this type. -/
def InEntry (M : Nat) (x : SEntry) : Prop := (Rng .i64 x.xAt) ∧ (Rng .i64 x.xV)
/-- What is given of a value of this type. -/
def InCc (M : Nat) (x : SCc) : Prop := (Rng .i64 x.xKind) ∧ (Rng .i64 x.xMss) ∧ (Rng .i64 x.xCwnd) ∧ (Rng .i64 x.xSsthresh) ∧ (Rng .i64 x.xAcc) ∧ (Rng .i64 x.xWmax) ∧ (Rng .i64 x.xEpoch) ∧ (Rng .i64 x.xK) ∧ (Rng .i64 x.xWest) ∧ (Rng .i64 x.xStart) ∧ (Rng .i64 x.xMode) ∧ (x.xBw.length ≤ 9223372036854775807 ∧ x.xBw.length * 16 ≤ 140737488351232 ∧ x.xBw.length ≤ M ∧ ∀ y ∈ x.xBw, InEntry M y) ∧ (Rng .i64 x.xMinRtt) ∧ (Rng .i64 x.xMinAt) ∧ (Rng .i64 x.xRound) ∧ (Rng .i64 x.xNextAt) ∧ (Rng .i64 x.xFull) ∧ (Rng .i64 x.xFullN) ∧ (Rng .i64 x.xPhase) ∧ (Rng .i64 x.xPhaseAt) ∧ (Rng .i64 x.xDoneAt) ∧ (Rng .i64 x.xPrior)
/-- What is left of the law: over numbers and rows alone. -/
def Pure : Prop := ∀ (M : Nat) (a0 : SCc) (a1 : Int) (a2 : Int), (InCc M a0) → (Rng .i64 a1) → (Rng .i64 a2) → ∃ n, ∀ (R : Type) (k : Bool → Option R), G_law18_BbrFalls capB n a0 a1 a2 k = k true
end LawBbrFalls
end Go.Proofs.Ytgadpgeghlhpnaa.M
