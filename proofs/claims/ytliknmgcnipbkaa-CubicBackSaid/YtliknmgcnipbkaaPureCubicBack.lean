/- The law CubicBack holds: for every input that its own guards let in, it answers true (that, once the time K is over, the window has come back to where it was at the loss, if enough is acknowledged); nothing else is asked. -/
import Derived.Test.YtliknmgcnipbkaaBLCubicBack
namespace Go.Proofs.Ytliknmgcnipbkaa.Pure
theorem CubicBack : Go.Proofs.Ytliknmgcnipbkaa.M.LawCubicBack.Pure := Go.Proofs.Ytliknmgcnipbkaa.M.law_CubicBack
end Go.Proofs.Ytliknmgcnipbkaa.Pure
