/- heads() of chapter 8 holds, by evaluation. -/
import Derived.Test.YtilmdmjhdidoiaaDTKit
set_option linter.unusedVariables false
namespace Go.Proofs.Ytilmdmjhdidoiaa.M
open Go Go.RowKit
noncomputable section
theorem heads08 {R : Type} (n : Nat) (k : Bool → Option R) : G11 capB (n + 40) k = k true := by
 have : G11 capD (n + 40) k = k true := by kernel_rfl
 rwa [capB_eq]
end
end Go.Proofs.Ytilmdmjhdidoiaa.M
