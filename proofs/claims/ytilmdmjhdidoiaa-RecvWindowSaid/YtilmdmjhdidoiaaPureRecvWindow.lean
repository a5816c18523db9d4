/- The law RecvWindow holds: for every input that its own guards let in, it answers true (a receiver never tells more than it has room for, and that reading makes room); nothing else is asked. -/
import Derived.Test.YtilmdmjhdidoiaaWLRecvWindow
namespace Go.Proofs.Ytilmdmjhdidoiaa.Pure
theorem RecvWindow : Go.Proofs.Ytilmdmjhdidoiaa.M.LawRecvWindow.Pure := Go.Proofs.Ytilmdmjhdidoiaa.M.law_RecvWindow
end Go.Proofs.Ytilmdmjhdidoiaa.Pure
