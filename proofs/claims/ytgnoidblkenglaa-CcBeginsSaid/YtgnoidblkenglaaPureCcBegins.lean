/- The law CcBegins holds: for every input that its own guards let in, it answers true (what fresh controllers are); nothing else is asked. -/
import Derived.Test.YtgnoidblkenglaaNLCcBegins
namespace Go.Proofs.Ytgnoidblkenglaa.Pure
theorem CcBegins : Go.Proofs.Ytgnoidblkenglaa.M.LawCcBegins.Pure := Go.Proofs.Ytgnoidblkenglaa.M.law_CcBegins
end Go.Proofs.Ytgnoidblkenglaa.Pure
