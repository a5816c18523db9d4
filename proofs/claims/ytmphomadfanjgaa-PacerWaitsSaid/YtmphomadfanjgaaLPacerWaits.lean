/- The law PacerWaits of the pacer, over numbers alone. -/
import Derived.Test.YtmphomadfanjgaaPAx0
import Derived.Test.YtmphomadfanjgaaPAx4
import Derived.Test.YtmphomadfanjgaaPAx7
import Derived.Test.YtmphomadfanjgaaPacer
import Derived.Test.YtmphomadfanjgaaPuPacerWaits
set_option linter.unusedVariables false
set_option linter.unusedSimpArgs false
namespace Go.Proofs.Ytmphomadfanjgaa.Pure
open Go Go.RowKit Go.Proofs.Ytmphomadfanjgaa.PA Go.Proofs.YtmphomadfanjgaaW.PrintWords Go.Proofs.Ytmphomadfanjgaa.Open Go.Proofs.Ytmphomadfanjgaa.Seq Go.Proofs.Ytmphomadfanjgaa.Math Go.Proofs.Ytmphomadfanjgaa.Div Go.Proofs.Ytmphomadfanjgaa.Pacer

theorem heads_ok (k : Nat) (hk : 500 ≤ k) : tidewaylaw20_heads.f k = some true := at_rounds tidewaylaw20_heads.mono (show 500 ≤ k from hk) (by decide +kernel)

theorem law_PacerWaits : Go.Proofs.Ytmphomadfanjgaa.PA.PacerWaits.tidewaylaw20_PacerWaits.PureSaid := by
  intro M r b t l n hr hb ht hl hn
  refine ⟨600 + 2, ?_⟩
  unfold tidewaylaw20_PacerWaits.f
  rw [When_eq, Option.bind_some]
  have fin := heads_ok 600 (by omega)
  have fin1 := heads_ok 601 (by omega)
  have key : ∀ x, tidewaylaw20_PacerWaits.j0 (600 + 2) n x true r b t l = some true := by
    intros; simp only [tidewaylaw20_PacerWaits.j0]; rw [if_pos trivial, fin1]; rfl
  by_cases h : OKP r b t l
  · rw [if_pos h]
    by_cases g : 0 ≤ n ∧ n ≤ 1073741824
    · rw [if_pos g]
      simp only
      rw [if_pos trivial]
      by_cases g2 : whenT r b t l n ≥ 1125899906842624
      · rw [decide_eq_true g2]; exact key _
      · rw [decide_eq_false g2]
        have h' := h; unfold OKP at h'
        -- the wait, and what it fills
        have hw0 : whenT r b t l n = min 1125899906842624 (l + (max 0 (min n b * 1000000 - t) + r - 1) / r) := rfl
        generalize hm : max 0 (min n b * 1000000 - t) = m at *
        have hw : whenT r b t l n = l + (m + r - 1) / r := by omega
        rw [hw] at g2 ⊢
        have hr0 : 0 < r := by omega
        have q0 : 0 ≤ (m + r - 1) / r := Int.ediv_nonneg (by omega) (by omega)
        have q1 := quot_mul_le (n := m + r - 1) hr0
        have q2 := lt_quot_mul (n := m + r - 1) hr0
        rw [Int.add_mul, Int.one_mul] at q2
        generalize (m + r - 1) / r = d at *
        simp only [tidewaylaw20_PacerWaits.j0]
        rw [if_neg (by decide), Fill_eq r b t l _ 601 (by omega), Option.bind_some, if_pos h, if_pos (show l ≤ l + d ∧ l + d ≤ 1125899906842624 by omega)]
        simp only
        obtain ⟨h2, h3⟩ := fillT_OK h (show l ≤ l + d by omega) (by omega)
        have ef : fillT r b t l (l + d) = min (b * 1000000) (t + d * r) := by unfold fillT; rw [show l + d - l = d by omega, Int.mul_comm r d]
        rw [if_pos trivial, May_eq, Option.bind_some, decide_eq_true (show may r b (fillT r b t l (l + d)) (l + d) n from ⟨h2, g.1, g.2, by rw [ef]; generalize d * r = z at *; omega⟩), if_pos rfl, decide_eq_false (by omega)]
        simp only [tidewaylaw20_PacerWaits.j1]
        rw [if_neg (by decide)]
        by_cases c : l + d = l
        · rw [if_pos c, fin]; rfl
        · rw [if_neg c, w64_id (n := l + d - 1) (by omega) (by omega), Fill_eq r b t l _ 600 (by omega), Option.bind_some, if_pos h, if_pos (show l ≤ l + d - 1 ∧ l + d - 1 ≤ 1125899906842624 by omega)]
          simp only
          have ef2 : fillT r b t l (l + d - 1) = min (b * 1000000) (t + (d * r - r)) := by unfold fillT; rw [show l + d - 1 - l = d - 1 by omega, Int.mul_comm r (d - 1), Int.sub_mul, Int.one_mul]
          rw [if_pos trivial, May_eq, Option.bind_some, decide_eq_false, if_neg (by decide), fin]; rfl
          rintro ⟨_, _, _, g5⟩
          rw [ef2] at g5
          have g6 : 1 * r ≤ d * r := Int.mul_le_mul_of_nonneg_right (by omega) (by omega)
          generalize d * r = z at *; omega
    · rw [if_neg g]
      simp only
      rw [if_neg (by decide)]; exact key _
  · rw [if_neg h]
    simp only
    rw [if_neg (by decide)]; exact key _
end Go.Proofs.Ytmphomadfanjgaa.Pure
