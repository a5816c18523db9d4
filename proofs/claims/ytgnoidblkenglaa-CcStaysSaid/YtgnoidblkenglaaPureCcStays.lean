/- The law CcStays holds: for every input that its own guards let in, it answers true (whatever happens a controller may be, and its window is a segment at least); nothing else is asked. -/
import Derived.Test.YtgnoidblkenglaaSLCcStays
namespace Go.Proofs.Ytgnoidblkenglaa.Pure
theorem CcStays : Go.Proofs.Ytgnoidblkenglaa.M.LawCcStays.Pure := Go.Proofs.Ytgnoidblkenglaa.M.law_CcStays
end Go.Proofs.Ytgnoidblkenglaa.Pure
