/- The law BbrFalls holds: for every input that its own guards let in, it answers true (what it is behind a timeout, and at first); nothing else is asked. -/
import Derived.Test.YtgadpgeghlhpnaaFLBbrFalls
namespace Go.Proofs.Ytgadpgeghlhpnaa.Pure
theorem BbrFalls : Go.Proofs.Ytgadpgeghlhpnaa.M.LawBbrFalls.Pure := Go.Proofs.Ytgadpgeghlhpnaa.M.law_BbrFalls
end Go.Proofs.Ytgadpgeghlhpnaa.Pure
