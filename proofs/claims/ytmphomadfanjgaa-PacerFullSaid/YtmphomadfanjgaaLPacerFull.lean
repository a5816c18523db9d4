/- The law PacerFull of the pacer, over numbers alone. -/
import Derived.Test.YtmphomadfanjgaaPAx0
import Derived.Test.YtmphomadfanjgaaPAx4
import Derived.Test.YtmphomadfanjgaaPAx7
import Derived.Test.YtmphomadfanjgaaPacer
import Derived.Test.YtmphomadfanjgaaPuPacerFull
set_option linter.unusedVariables false
set_option linter.unusedSimpArgs false
namespace Go.Proofs.Ytmphomadfanjgaa.Pure
open Go Go.RowKit Go.Proofs.Ytmphomadfanjgaa.PA Go.Proofs.YtmphomadfanjgaaW.PrintWords Go.Proofs.Ytmphomadfanjgaa.Open Go.Proofs.Ytmphomadfanjgaa.Seq Go.Proofs.Ytmphomadfanjgaa.Math Go.Proofs.Ytmphomadfanjgaa.Div Go.Proofs.Ytmphomadfanjgaa.Pacer

theorem heads_ok (k : Nat) (hk : 500 ≤ k) : tidewaylaw20_heads.f k = some true := at_rounds tidewaylaw20_heads.mono (show 500 ≤ k from hk) (by decide +kernel)

theorem law_PacerFull : Go.Proofs.Ytmphomadfanjgaa.PA.PacerFull.tidewaylaw20_PacerFull.PureSaid := by
  intro M r b t l n hr hb ht hl hn
  have hn := hn.i64
  refine ⟨600 + 1, ?_⟩
  unfold tidewaylaw20_PacerFull.f
  rw [Check_eq, Option.bind_some]
  have fin := heads_ok 600 (by omega)
  have key : tidewaylaw20_PacerFull.j0 (600 + 1) n true r b t l = some true := by
    simp only [tidewaylaw20_PacerFull.j0]; rw [if_pos trivial, fin]; rfl
  by_cases h : OKP r b t l
  · rw [if_pos h, if_pos rfl]
    have h' := h; unfold OKP at h'
    by_cases c1 : n < 0
    · rw [if_pos c1, key]
    rw [if_neg c1]
    by_cases c2 : n > 1125899906842624
    · rw [if_pos c2, key]
    rw [if_neg c2, w64_id (n := l + n) (by omega) (by omega)]
    by_cases c3 : l + n > 1125899906842624
    · rw [decide_eq_true c3, key]
    rw [decide_eq_false c3]
    simp only [tidewaylaw20_PacerFull.j0]
    obtain ⟨h2, h3⟩ := fillT_OK h (show l ≤ l + n by omega) (by omega)
    rw [if_neg (by decide), w64_id (n := l + n) (by omega) (by omega), Fill_eq r b t l _ 600 (by omega), Option.bind_some, if_pos h, if_pos (show l ≤ l + n ∧ l + n ≤ 1125899906842624 by omega)]
    simp only
    have h2' := h2; unfold OKP at h2'
    rw [if_pos trivial, if_neg (by omega), w64_id (n := b * 1000000) (by omega) (by omega), if_neg (by omega), Check_eq, Option.bind_some, if_pos h2, if_pos rfl, if_neg (by omega), w64_id (n := b * 1000000 - t) (by omega) (by omega), Int.tdiv_eq_ediv_of_nonneg (by omega)]
    have q0 : 0 ≤ (b * 1000000 - t) / r := Int.ediv_nonneg (by omega) (by omega)
    have q1 : (b * 1000000 - t) / r ≤ b * 1000000 - t := Int.ediv_le_self _ (by omega)
    rw [w64_id (n := (b * 1000000 - t) / r) (by omega) (by omega), w64_id (n := (b * 1000000 - t) / r + 1) (by omega) (by omega)]
    by_cases c4 : n < (b * 1000000 - t) / r + 1
    · rw [if_pos c4, fin]; rfl
    · rw [if_neg c4, if_pos, fin]; rfl
      have q2 := lt_quot_mul (n := b * 1000000 - t) (show 0 < r by omega)
      have q3 : ((b * 1000000 - t) / r + 1) * r ≤ n * r := Int.mul_le_mul_of_nonneg_right (by omega) (by omega)
      unfold fillT
      have q4 := Int.lt_of_lt_of_le q2 q3
      rw [show l + n - l = n by omega, Int.mul_comm r n]
      generalize n * r = z at *; omega
  · rw [if_neg h, if_neg (by decide), key]
end Go.Proofs.Ytmphomadfanjgaa.Pure
