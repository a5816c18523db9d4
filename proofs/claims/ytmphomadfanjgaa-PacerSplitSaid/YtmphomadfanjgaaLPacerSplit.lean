/- The law PacerSplit of the pacer, over numbers alone. -/
import Derived.Test.YtmphomadfanjgaaPAx0
import Derived.Test.YtmphomadfanjgaaPAx4
import Derived.Test.YtmphomadfanjgaaPAx5
import Derived.Test.YtmphomadfanjgaaPacer
import Derived.Test.YtmphomadfanjgaaPuPacerSplit
set_option linter.unusedVariables false
set_option linter.unusedSimpArgs false
namespace Go.Proofs.Ytmphomadfanjgaa.Pure
open Go Go.RowKit Go.Proofs.Ytmphomadfanjgaa.PA Go.Proofs.YtmphomadfanjgaaW.PrintWords Go.Proofs.Ytmphomadfanjgaa.Open Go.Proofs.Ytmphomadfanjgaa.Seq Go.Proofs.Ytmphomadfanjgaa.Math Go.Proofs.Ytmphomadfanjgaa.Div Go.Proofs.Ytmphomadfanjgaa.Pacer

theorem heads_ok (k : Nat) (hk : 500 ≤ k) : tidewaylaw20_heads.f k = some true := at_rounds tidewaylaw20_heads.mono (show 500 ≤ k from hk) (by decide +kernel)

theorem law_PacerSplit : Go.Proofs.Ytmphomadfanjgaa.PA.PacerSplit.tidewaylaw20_PacerSplit.PureSaid := by
  intro M r b t l a c hr hb ht hl ha hc
  refine ⟨600 + 1, ?_⟩
  unfold tidewaylaw20_PacerSplit.f
  have fin := heads_ok 600 (by omega)
  rw [Fill_eq r b t l a 601 (by omega), Option.bind_some, Fill_eq _ _ _ _ c 601 (by omega), Option.bind_some, Fill_eq r b t l c 601 (by omega), Option.bind_some]
  have key : ∀ x z1 z2 z3 z4 z5 z6 z7 z8, tidewaylaw20_PacerSplit.j0 (600 + 1) x true z1 z2 z3 z4 z5 z6 z7 z8 = some true := by
    intros; simp only [tidewaylaw20_PacerSplit.j0]; rw [if_pos trivial, fin]; rfl
  by_cases h : OKP r b t l
  · rw [if_pos h, if_pos h]
    by_cases g : l ≤ a ∧ a ≤ 1125899906842624
    · obtain ⟨h2, h3⟩ := fillT_OK h g.1 g.2
      rw [if_pos g, if_pos h2]
      simp only
      rw [if_pos trivial]
      by_cases g2 : a ≤ c ∧ c ≤ 1125899906842624
      · rw [if_pos g2, if_pos (show l ≤ c ∧ c ≤ 1125899906842624 by omega)]
        simp only [tidewaylaw20_PacerSplit.j0]
        rw [if_neg (by decide), if_pos trivial, if_pos, fin]; rfl
        have e : fillT r b (fillT r b t l a) a c = fillT r b t l c := by
          unfold fillT
          have e1 : r * (c - l) = r * (c - a) + r * (a - l) := by rw [← Int.mul_add]; congr 1; omega
          have p : 0 ≤ r * (c - a) := Int.mul_nonneg (by unfold OKP at h; omega) (by omega)
          rw [e1]; generalize r * (c - a) = z1 at *; generalize r * (a - l) = z2 at *; omega
        rw [e]; simp
      · rw [if_neg g2]; exact key _ _ _ _ _ _ _ _ _
    · rw [if_neg g]
      simp only
      rw [if_neg (by decide)]; exact key _ _ _ _ _ _ _ _ _
  · rw [if_neg h]
    simp only
    rw [if_neg (by decide)]; exact key _ _ _ _ _ _ _ _ _
end Go.Proofs.Ytmphomadfanjgaa.Pure
