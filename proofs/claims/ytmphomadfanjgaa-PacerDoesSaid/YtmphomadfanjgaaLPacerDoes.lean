/- The law PacerDoes of the pacer, over numbers alone. -/
import Derived.Test.YtmphomadfanjgaaPAx0
import Derived.Test.YtmphomadfanjgaaPAx4
import Derived.Test.YtmphomadfanjgaaPAx10
import Derived.Test.YtmphomadfanjgaaPacerRef
import Derived.Test.YtmphomadfanjgaaPuPacerDoes
set_option linter.unusedVariables false
set_option linter.unusedSimpArgs false
namespace Go.Proofs.Ytmphomadfanjgaa.Pure
open Go Go.RowKit Go.Proofs.Ytmphomadfanjgaa.PA Go.Proofs.YtmphomadfanjgaaW.PrintWords Go.Proofs.Ytmphomadfanjgaa.Open Go.Proofs.Ytmphomadfanjgaa.Seq Go.Proofs.Ytmphomadfanjgaa.Math Go.Proofs.Ytmphomadfanjgaa.Div Go.Proofs.Ytmphomadfanjgaa.Pacer

theorem heads_ok (k : Nat) (hk : 500 ≤ k) : tidewaylaw20_heads.f k = some true := at_rounds tidewaylaw20_heads.mono (show 500 ≤ k from hk) (by decide +kernel)

theorem law_PacerDoes : Go.Proofs.Ytmphomadfanjgaa.PA.PacerDoes.tidewaylaw20_PacerDoes.PureSaid := by
  intro M r b t l n now hr hb ht hl hn hnow
  refine ⟨600, ?_⟩
  unfold tidewaylaw20_PacerDoes.f
  have fin := heads_ok 600 (by omega)
  simp only [Fill_eq _ _ _ _ _ 600 (by omega), rFill_eq _ _ _ _ _ 600 (by omega), Take_eq, rTake_eq, When_eq, rWhen_eq, May_eq, rMay_eq, Check_eq, rCheck_eq, Set_eq, rSet_eq, New_eq, rNew_eq, Option.bind_some, beq_self_eq_true, Bool.not_true, Bool.or_self, Bool.and_self, Bool.false_eq_true, if_false, if_true, bne_self_eq_false, fin]
end Go.Proofs.Ytmphomadfanjgaa.Pure
