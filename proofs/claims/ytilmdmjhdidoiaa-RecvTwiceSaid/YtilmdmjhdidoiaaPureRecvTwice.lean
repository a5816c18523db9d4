/- The law RecvTwice holds: for every input that its own guards let in, it answers true (the same segment again changes nothing but what is told); nothing else is asked. -/
import Derived.Test.YtilmdmjhdidoiaaTLRecvTwice
namespace Go.Proofs.Ytilmdmjhdidoiaa.Pure
theorem RecvTwice : Go.Proofs.Ytilmdmjhdidoiaa.M.LawRecvTwice.Pure := Go.Proofs.Ytilmdmjhdidoiaa.M.law_RecvTwice
end Go.Proofs.Ytilmdmjhdidoiaa.Pure
