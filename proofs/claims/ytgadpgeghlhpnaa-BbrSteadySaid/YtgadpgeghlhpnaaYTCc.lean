/- Controllers: the same controller is the same; what Reno's and the document's tests say, in plain words. -/
import Derived.Test.YtgadpgeghlhpnaaYTKit
set_option linter.unusedVariables false
set_option linter.unusedSimpArgs false
namespace Go.Proofs.Ytgadpgeghlhpnaa.M
open Go Go.RowKit
/-- Has a controller nothing that Reno has not? (but for what Cubic has, and what Bbr has) -/
abbrev NoCub (c : SCc) : Prop := c.xWmax = 0 ∧ c.xEpoch = 0 ∧ c.xK = 0 ∧ c.xWest = 0 ∧ c.xStart = 0
abbrev NoBbr (c : SCc) : Prop := c.xMode = 0 ∧ (c.xBw.length : Int) = 0 ∧ c.xMinRtt = 0 ∧ c.xMinAt = 0 ∧ c.xRound = 0 ∧ c.xNextAt = 0 ∧ c.xFull = 0 ∧ c.xFullN = 0 ∧ c.xPhase = 0 ∧ c.xPhaseAt = 0 ∧ c.xDoneAt = 0 ∧ c.xPrior = 0
/-- What all controllers have. -/
abbrev Com (c : SCc) : Prop := 1 ≤ c.xMss ∧ c.xMss ≤ 65000 ∧ c.xMss ≤ c.xCwnd ∧ c.xCwnd ≤ 1073741824 ∧ 2 * c.xMss ≤ c.xSsthresh ∧ c.xSsthresh ≤ 1073741824 ∧ 0 ≤ c.xAcc ∧ c.xAcc ≤ 1073741824
section
variable {R : Type} (cp : Nat → Nat → Bool) (n : Nat)
end
end Go.Proofs.Ytgadpgeghlhpnaa.M
