/- heads() of chapter 22 holds, by evaluation. -/
import Derived.Test.YtafnmkbehjbkdaaATKit
set_option linter.unusedVariables false
namespace Go.Proofs.Ytafnmkbehjbkdaa.M
open Go Go.RowKit
noncomputable section
theorem heads22 {R : Type} (n : Nat) (k : Bool → Option R) : G4 capB (n + 40) k = k true := by
 have : G4 capD (n + 40) k = k true := by kernel_rfl
 rwa [capB_eq]
end
end Go.Proofs.Ytafnmkbehjbkdaa.M
