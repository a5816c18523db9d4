/- The law RecvOrders holds: for every input that its own guards let in, it answers true (that, whatever parts of a text come, in whatever order, twice or not, what is handed over is a beginning of the text, and all of it once all has come (IN ORDER)); nothing else is asked. -/
import Derived.Test.YtilmdmjhdidoiaaSLRecvOrders
namespace Go.Proofs.Ytilmdmjhdidoiaa.Pure
theorem RecvOrders : Go.Proofs.Ytilmdmjhdidoiaa.M.LawRecvOrders.Pure := Go.Proofs.Ytilmdmjhdidoiaa.M.law_RecvOrders
end Go.Proofs.Ytilmdmjhdidoiaa.Pure
