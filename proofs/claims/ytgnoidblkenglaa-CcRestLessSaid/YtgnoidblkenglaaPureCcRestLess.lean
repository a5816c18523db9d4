/- The law CcRestLess holds: for every input that its own guards let in, it answers true (a time without sending raises no window, and takes no more than is used); nothing else is asked. -/
import Derived.Test.YtgnoidblkenglaaLLCcRestLess
namespace Go.Proofs.Ytgnoidblkenglaa.Pure
theorem CcRestLess : Go.Proofs.Ytgnoidblkenglaa.M.LawCcRestLess.Pure := Go.Proofs.Ytgnoidblkenglaa.M.law_CcRestLess
end Go.Proofs.Ytgnoidblkenglaa.Pure
