/- The law CubicGrows holds: for every input that its own guards let in, it answers true (what a controller is behind an acknowledgement); nothing else is asked. -/
import Derived.Test.YtliknmgcnipbkaaGLCubicGrows
namespace Go.Proofs.Ytliknmgcnipbkaa.Pure
theorem CubicGrows : Go.Proofs.Ytliknmgcnipbkaa.M.LawCubicGrows.Pure := Go.Proofs.Ytliknmgcnipbkaa.M.law_CubicGrows
end Go.Proofs.Ytliknmgcnipbkaa.Pure
