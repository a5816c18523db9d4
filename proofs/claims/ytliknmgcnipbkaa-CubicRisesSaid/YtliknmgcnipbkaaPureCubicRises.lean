/- The law CubicRises holds: for every input that its own guards let in, it answers true (no acknowledgement lowers the window, nor makes it more than half as large again at once for a window acknowledged); nothing else is asked. -/
import Derived.Test.YtliknmgcnipbkaaRLCubicRises
namespace Go.Proofs.Ytliknmgcnipbkaa.Pure
theorem CubicRises : Go.Proofs.Ytliknmgcnipbkaa.M.LawCubicRises.Pure := Go.Proofs.Ytliknmgcnipbkaa.M.law_CubicRises
end Go.Proofs.Ytliknmgcnipbkaa.Pure
