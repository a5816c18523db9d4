/- The law AckPlain holds: for every input that its own guards let in, it answers true (without selective acknowledgements no block counts, and that else nothing depends on them but what they tell); nothing else is asked, but that what comes in is of bulk at most 1048576. -/
import Derived.Test.YtfdopmobhphdbaaLAckPlain
namespace Go.Proofs.Ytfdopmobhphdbaa.Pure
theorem AckPlainU : Go.Proofs.Ytfdopmobhphdbaa.M.LawAckPlainu.Pure := Go.Proofs.Ytfdopmobhphdbaa.M.law_AckPlainU
end Go.Proofs.Ytfdopmobhphdbaa.Pure
