/- What the document's pacer answers, in plain numbers. -/
import Derived.Test.YtmphomadfanjgaaPAx0
import Derived.Test.YtmphomadfanjgaaPAx7
import Derived.Test.YtmphomadfanjgaaPAx8
import Derived.Test.YtmphomadfanjgaaPAx9
import Derived.Test.YtmphomadfanjgaaSeqRef
import Derived.Test.YtmphomadfanjgaaPacer
set_option linter.unusedVariables false
set_option linter.unusedSimpArgs false
namespace Go.Proofs.Ytmphomadfanjgaa.Pacer
open Go Go.RowKit Go.Proofs.Ytmphomadfanjgaa.PA Go.Proofs.YtmphomadfanjgaaW.PrintWords Go.Proofs.Ytmphomadfanjgaa.Math Go.Proofs.Ytmphomadfanjgaa.Seq Go.Proofs.Ytmphomadfanjgaa.Div

/-! The document's own. -/
theorem rrate_eq (n : Int) : tidewayref20_rate.f n = some (decide (1 ≤ n ∧ n ≤ 1099511627776)) := by
  unfold tidewayref20_rate.f
  split
  · congr 1; apply decide_eq_decide.2; omega
  · congr 1; symm; apply decide_eq_false; omega
theorem rsize_eq (n : Int) : tidewayref20_size.f n = some (decide (0 ≤ n ∧ n ≤ 1073741824)) := by
  unfold tidewayref20_size.f
  split
  · congr 1; apply decide_eq_decide.2; omega
  · congr 1; symm; apply decide_eq_false; omega
theorem rCheck_eq (r b t l : Int) : tidewayref20_Check.f r b t l = some (if OKP r b t l then 0 else 230) := by
  unfold tidewayref20_Check.f
  rw [rrate_eq, Option.bind_some]
  by_cases h : OKP r b t l
  · have h' := h; unfold OKP at h'
    rw [if_pos h, decide_eq_true (by omega), if_pos rfl, w64_id (n := b * 1000000) (by omega) (by omega)]
    repeat' split
    all_goals first | rfl | (exfalso; omega)
  · rw [if_neg h]
    unfold OKP at h
    by_cases c : 1 ≤ r ∧ r ≤ 1099511627776
    · rw [decide_eq_true c, if_pos rfl]
      by_cases c2 : 1 ≤ b ∧ b ≤ 1073741824
      · rw [w64_id (n := b * 1000000) (by omega) (by omega)]
        repeat' split
        all_goals first | rfl | (exfalso; omega)
      · repeat' split
        all_goals first | rfl | (exfalso; omega)
    · rw [decide_eq_false c, if_neg (by simp)]
theorem rNew_eq (r b l : Int) : tidewayref20_New.f r b l = some (if 1 ≤ r ∧ r ≤ 1099511627776 ∧ 1 ≤ b ∧ b ≤ 1073741824 ∧ 0 ≤ l ∧ l ≤ 1125899906842624 then (r, b, b * 1000000, l, 0) else (0, 0, 0, 0, 2)) := by
  unfold tidewayref20_New.f
  rw [rrate_eq, Option.bind_some]
  by_cases h : 1 ≤ r ∧ r ≤ 1099511627776 ∧ 1 ≤ b ∧ b ≤ 1073741824 ∧ 0 ≤ l ∧ l ≤ 1125899906842624
  · have h' := h
    rw [if_pos h, decide_eq_true (by omega), if_pos rfl, if_neg (by omega), if_neg (by omega), if_neg (by omega), if_neg (by omega), w64_id (by omega) (by omega)]
  · rw [if_neg h]
    by_cases c : 1 ≤ r ∧ r ≤ 1099511627776
    · rw [decide_eq_true c, if_pos rfl]
      repeat' split
      all_goals first | rfl | (exfalso; omega)
    · rw [decide_eq_false c, if_neg (by simp)]
theorem rFill_eq (r b t l now : Int) (k : Nat) (hk : 400 ≤ k) : tidewayref20_Fill.f k r b t l now = some (if OKP r b t l then (if l ≤ now ∧ now ≤ 1125899906842624 then (r, b, fillT r b t l now, now, 0) else (0, 0, 0, 0, 2)) else (0, 0, 0, 0, 230)) := by
  unfold tidewayref20_Fill.f
  rw [rCheck_eq, Option.bind_some]
  by_cases h : OKP r b t l
  · have h' := h; unfold OKP at h'
    rw [if_pos h, if_pos h, if_pos rfl]
    by_cases c : l ≤ now ∧ now ≤ 1125899906842624
    · have p0 : 0 ≤ r * (now - l) := Int.mul_nonneg (by omega) (by omega)
      rw [if_pos c, if_neg (by omega), if_neg (by omega), w64_id (n := now - l) (by omega) (by omega), rMulDiv_eq _ _ _ k (by omega) (by omega) (by omega) (by omega) (by omega) (by omega) (by omega), Option.bind_some]
      simp only
      rw [Int.ediv_one, w64_id (n := b * 1000000) (by omega) (by omega), w64_id (n := b * 1000000 - t) (by omega) (by omega), mn_min]
      unfold fillT
      generalize r * (now - l) = z at *
      rw [w64_id (by omega) (by omega)]
      congr 1; simp only [Prod.mk.injEq, and_true, true_and]; omega
    · rw [if_neg c]
      by_cases c2 : now < l
      · rw [if_pos c2]
      · rw [if_neg c2, if_pos (by omega)]
  · rw [if_neg h, if_neg h, if_neg (by decide)]
theorem rMay_eq (r b t l n : Int) : tidewayref20_May.f r b t l n = some (decide (may r b t l n)) := by
  unfold tidewayref20_May.f
  rw [rCheck_eq, Option.bind_some, rsize_eq, Option.bind_some]
  by_cases h : OKP r b t l
  · have h' := h; unfold OKP at h'
    rw [if_pos h, if_pos rfl]
    by_cases c : 0 ≤ n ∧ n ≤ 1073741824
    · rw [decide_eq_true c, if_pos rfl, w64_id (n := n * 1000000) (by omega) (by omega), w64_id (n := b * 1000000) (by omega) (by omega)]
      by_cases c2 : t ≥ n * 1000000
      · rw [if_pos c2, decide_eq_true (show may r b t l n from ⟨h, c.1, c.2, by omega⟩)]
      · rw [if_neg c2]
        congr 1
        by_cases c3 : t = b * 1000000
        · rw [decide_eq_true (show may r b t l n from ⟨h, c.1, c.2, by omega⟩)]; simpa using c3
        · rw [decide_eq_false (show ¬may r b t l n by rintro ⟨_, _, _, g⟩; omega)]; simpa using c3
    · rw [decide_eq_false c, if_neg (by simp)]
      congr 1; symm; apply decide_eq_false; unfold may; omega
  · rw [if_neg h, if_neg (by decide)]
    congr 1; symm; apply decide_eq_false; unfold may; exact fun g => h g.1
theorem rTake_eq (r b t l n : Int) : tidewayref20_Take.f r b t l n = some (if OKP r b t l then (if may r b t l n then (r, b, t - n * 1000000, l, 0) else (0, 0, 0, 0, 2)) else (0, 0, 0, 0, 230)) := by
  unfold tidewayref20_Take.f
  rw [rCheck_eq, Option.bind_some, rMay_eq, Option.bind_some]
  by_cases h : OKP r b t l
  · have h' := h; unfold OKP at h'
    rw [if_pos h, if_pos h, if_pos rfl]
    by_cases c : may r b t l n
    · have c' := c; unfold may at c'
      rw [if_pos c, decide_eq_true c, if_pos rfl, w64_id (n := n * 1000000) (by omega) (by omega), w64_id (by omega) (by omega)]
    · rw [if_neg c, decide_eq_false c, if_neg (by simp)]
  · rw [if_neg h, if_neg h, if_neg (by decide)]
theorem rWhen_eq (r b t l n : Int) : tidewayref20_When.f r b t l n = some (if OKP r b t l then (if 0 ≤ n ∧ n ≤ 1073741824 then (whenT r b t l n, 0) else (0, 2)) else (0, 230)) := by
  unfold tidewayref20_When.f
  rw [rCheck_eq, Option.bind_some, rsize_eq, Option.bind_some]
  by_cases h : OKP r b t l
  · have h' := h; unfold OKP at h'
    rw [if_pos h, if_pos h, if_pos rfl]
    by_cases c : 0 ≤ n ∧ n ≤ 1073741824
    · rw [if_pos c, decide_eq_true c, if_pos rfl, mn_min, w64_id (n := min n b * 1000000) (by omega) (by omega), w64_id (n := min n b * 1000000 - t) (by omega) (by omega)]
      unfold whenT
      by_cases c2 : min n b * 1000000 - t ≤ 0
      · rw [if_pos c2, show max 0 (min n b * 1000000 - t) = 0 by omega, Int.ediv_eq_zero_of_lt (by omega) (by omega)]
        congr 2; omega
      · rw [if_neg c2, if_neg (by omega), show max 0 (min n b * 1000000 - t) = min n b * 1000000 - t by omega, w64_id (n := min n b * 1000000 - t + r) (by omega) (by omega), w64_id (n := min n b * 1000000 - t + r - 1) (by omega) (by omega), Int.tdiv_eq_ediv_of_nonneg (by omega)]
        have q0 : 0 ≤ (min n b * 1000000 - t + r - 1) / r := Int.ediv_nonneg (by omega) (by omega)
        have q1 : (min n b * 1000000 - t + r - 1) / r ≤ min n b * 1000000 - t + r - 1 := Int.ediv_le_self _ (by omega)
        rw [w64_id (n := (min n b * 1000000 - t + r - 1) / r) (by omega) (by omega), w64_id (n := l + _) (by omega) (by omega), mn_min, Int.min_comm]
    · rw [if_neg c, decide_eq_false c, if_neg (by simp)]
  · rw [if_neg h, if_neg h, if_neg (by decide)]
theorem rSet_eq (r b t l n : Int) : tidewayref20_Set.f r b t l n = some (if OKP r b t l then (if 1 ≤ n ∧ n ≤ 1099511627776 then (n, b, t, l, 0) else (0, 0, 0, 0, 2)) else (0, 0, 0, 0, 230)) := by
  unfold tidewayref20_Set.f
  rw [rCheck_eq, Option.bind_some, rrate_eq, Option.bind_some]
  by_cases h : OKP r b t l
  · rw [if_pos h, if_pos h, if_pos rfl]
    by_cases c : 1 ≤ n ∧ n ≤ 1099511627776
    · rw [if_pos c, decide_eq_true c, if_pos rfl]
    · rw [if_neg c, decide_eq_false c, if_neg (by simp)]
  · rw [if_neg h, if_neg h, if_neg (by decide)]
end Go.Proofs.Ytmphomadfanjgaa.Pacer
