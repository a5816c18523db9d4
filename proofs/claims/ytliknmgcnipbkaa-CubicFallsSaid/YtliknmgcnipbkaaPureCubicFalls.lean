/- The law CubicFalls holds: for every input that its own guards let in, it answers true (what it is behind losses, timeouts, and at first); nothing else is asked. -/
import Derived.Test.YtliknmgcnipbkaaFLCubicFalls
namespace Go.Proofs.Ytliknmgcnipbkaa.Pure
theorem CubicFalls : Go.Proofs.Ytliknmgcnipbkaa.M.LawCubicFalls.Pure := Go.Proofs.Ytliknmgcnipbkaa.M.law_CubicFalls
end Go.Proofs.Ytliknmgcnipbkaa.Pure
