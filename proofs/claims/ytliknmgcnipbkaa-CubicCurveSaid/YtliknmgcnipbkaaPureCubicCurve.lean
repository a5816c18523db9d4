/- The law CubicCurve holds: for every input that its own guards let in, it answers true (the curve does not fall with time, and is Wmax at K); nothing else is asked. -/
import Derived.Test.YtliknmgcnipbkaaVLCubicCurve
namespace Go.Proofs.Ytliknmgcnipbkaa.Pure
theorem CubicCurve : Go.Proofs.Ytliknmgcnipbkaa.M.LawCubicCurve.Pure := Go.Proofs.Ytliknmgcnipbkaa.M.law_CubicCurve
end Go.Proofs.Ytliknmgcnipbkaa.Pure
