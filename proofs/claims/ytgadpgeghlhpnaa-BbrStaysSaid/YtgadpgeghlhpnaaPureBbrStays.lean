/- The law BbrStays holds: for every input that its own guards let in, it answers true (a controller that may be stays one, whatever samples come); nothing else is asked. -/
import Derived.Test.YtgadpgeghlhpnaaSLBbrStays
namespace Go.Proofs.Ytgadpgeghlhpnaa.Pure
theorem BbrStays : Go.Proofs.Ytgadpgeghlhpnaa.M.LawBbrStays.Pure := Go.Proofs.Ytgadpgeghlhpnaa.M.law_BbrStays
end Go.Proofs.Ytgadpgeghlhpnaa.Pure
