/- The law RecvReads holds: for every input that its own guards let in, it answers true (what is read, and told then); nothing else is asked. -/
import Derived.Test.YtilmdmjhdidoiaaDLRecvReads
namespace Go.Proofs.Ytilmdmjhdidoiaa.Pure
theorem RecvReads : Go.Proofs.Ytilmdmjhdidoiaa.M.LawRecvReads.Pure := Go.Proofs.Ytilmdmjhdidoiaa.M.law_RecvReads
end Go.Proofs.Ytilmdmjhdidoiaa.Pure
