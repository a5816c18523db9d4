/- The law BbrSteady holds: for every input that its own guards let in, it answers true (on an even path startup ends, and the window becomes twice what the path holds (or four segments)); nothing else is asked. -/
import Derived.Test.YtgadpgeghlhpnaaYLBbrSteady
namespace Go.Proofs.Ytgadpgeghlhpnaa.Pure
theorem BbrSteady : Go.Proofs.Ytgadpgeghlhpnaa.M.LawBbrSteady.Pure := Go.Proofs.Ytgadpgeghlhpnaa.M.law_BbrSteady
end Go.Proofs.Ytgadpgeghlhpnaa.Pure
