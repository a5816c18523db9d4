/- The law RecvBegins holds: for every input that its own guards let in, it answers true (what a fresh receiver is); nothing else is asked. -/
import Derived.Test.YtilmdmjhdidoiaaBLRecvBegins
namespace Go.Proofs.Ytilmdmjhdidoiaa.Pure
theorem RecvBegins : Go.Proofs.Ytilmdmjhdidoiaa.M.LawRecvBegins.Pure := Go.Proofs.Ytilmdmjhdidoiaa.M.law_RecvBegins
end Go.Proofs.Ytilmdmjhdidoiaa.Pure
