/- The law CcRests holds: for every input that its own guards let in, it answers true (what a time without sending makes of it, a limit, and how fast it paces); nothing else is asked. -/
import Derived.Test.YtgnoidblkenglaaRLCcRests
namespace Go.Proofs.Ytgnoidblkenglaa.Pure
theorem CcRests : Go.Proofs.Ytgnoidblkenglaa.M.LawCcRests.Pure := Go.Proofs.Ytgnoidblkenglaa.M.law_CcRests
end Go.Proofs.Ytgnoidblkenglaa.Pure
