/- Controllers: the same controller is the same; what Reno's and the document's tests say, in plain words. -/
import Derived.Test.YtgnoidblkenglaaSTKit
set_option linter.unusedVariables false
set_option linter.unusedSimpArgs false
namespace Go.Proofs.Ytgnoidblkenglaa.M
open Go Go.RowKit
/-- Has a controller nothing that Reno has not? (but for what Cubic has, and what Bbr has) -/
abbrev NoCub (c : SCc) : Prop := c.xWmax = 0 ∧ c.xEpoch = 0 ∧ c.xK = 0 ∧ c.xWest = 0 ∧ c.xStart = 0
abbrev NoBbr (c : SCc) : Prop := c.xMode = 0 ∧ (c.xBw.length : Int) = 0 ∧ c.xMinRtt = 0 ∧ c.xMinAt = 0 ∧ c.xRound = 0 ∧ c.xNextAt = 0 ∧ c.xFull = 0 ∧ c.xFullN = 0 ∧ c.xPhase = 0 ∧ c.xPhaseAt = 0 ∧ c.xDoneAt = 0 ∧ c.xPrior = 0
/-- What all controllers have. -/
abbrev Com (c : SCc) : Prop := 1 ≤ c.xMss ∧ c.xMss ≤ 65000 ∧ c.xMss ≤ c.xCwnd ∧ c.xCwnd ≤ 1073741824 ∧ 2 * c.xMss ≤ c.xSsthresh ∧ c.xSsthresh ≤ 1073741824 ∧ 0 ≤ c.xAcc ∧ c.xAcc ≤ 1073741824
section
variable {R : Type} (cp : Nat → Nat → Bool) (n : Nat)
theorem rsize_k (x : Int) (k : Bool → Option R) : G_reno_size cp (n + 1) x k = k (decide (0 ≤ x ∧ x ≤ 1073741824)) := by
  simp only [G_reno_size]
  exact cdk k
theorem rplain_k (q : Sctl) (k : Bool → Sctl → Option R) : G_reno_ctl_plain cp (n + 1) q k = k (decide (q.xCc_Wmax = 0 ∧ q.xCc_Epoch = 0 ∧ q.xCc_K = 0 ∧ q.xCc_West = 0 ∧ q.xCc_Start = 0 ∧ q.xCc_Mode = 0 ∧ (q.xCc_Bw.length : Int) = 0 ∧ q.xCc_MinRtt = 0 ∧ q.xCc_MinAt = 0 ∧ q.xCc_Round = 0 ∧ q.xCc_NextAt = 0 ∧ q.xCc_Full = 0 ∧ q.xCc_FullN = 0 ∧ q.xCc_Phase = 0 ∧ q.xCc_PhaseAt = 0 ∧ q.xCc_DoneAt = 0 ∧ q.xCc_Prior = 0)) q := by
  simp only [G_reno_ctl_plain, s_reno_ctl_plain_1, s_reno_ctl_plain_3, s_reno_ctl_plain_5, s_reno_ctl_plain_7, s_reno_ctl_plain_9]
  iterate 16 rw [cdk (fun b => k b q)]
theorem rCheck_k (c : SCc) (k : Int → Option R) (h0 : -9223372036854775808 ≤ c.xMss) (h1 : c.xMss ≤ 9223372036854775807) : G_reno_Check cp (n + 2) c k = k (if c.xKind = 1 ∧ Com c ∧ NoCub c ∧ NoBbr c then 0 else 230) := by
  have neg : ∀ (p : Prop) [Decidable p] (x : Option R), cond (decide p) (k 230) x = cond (decide (¬ p)) x (k 230) := fun p _ x => cneg
  rw [← kif k]
  simp only [G_reno_Check, rsize_k, rplain_k, cnn]
  simp only [neg, cdd]
  refine ciff ?_
  rw [wi64]
  omega
end
end Go.Proofs.Ytgnoidblkenglaa.M
