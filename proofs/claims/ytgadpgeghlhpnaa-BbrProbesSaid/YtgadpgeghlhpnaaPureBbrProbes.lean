/- The law BbrProbes holds: for every input that its own guards let in, it answers true (an old shortest time is asked anew); nothing else is asked. -/
import Derived.Test.YtgadpgeghlhpnaaPLBbrProbes
namespace Go.Proofs.Ytgadpgeghlhpnaa.Pure
theorem BbrProbes : Go.Proofs.Ytgadpgeghlhpnaa.M.LawBbrProbes.Pure := Go.Proofs.Ytgadpgeghlhpnaa.M.law_BbrProbes
end Go.Proofs.Ytgadpgeghlhpnaa.Pure
