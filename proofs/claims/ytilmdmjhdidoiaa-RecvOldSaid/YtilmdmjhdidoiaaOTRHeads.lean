/- heads() of chapter 8 holds, by evaluation. -/
import Derived.Test.YtilmdmjhdidoiaaOTKit
set_option linter.unusedVariables false
namespace Go.Proofs.Ytilmdmjhdidoiaa.M
open Go Go.RowKit
noncomputable section
theorem heads08 {R : Type} (n : Nat) (k : Bool → Option R) : G_law08_heads capB (n + 40) k = k true := by
  have : G_law08_heads capD (n + 40) k = k true := by kernel_rfl
  rwa [capB_eq]
end
end Go.Proofs.Ytilmdmjhdidoiaa.M
