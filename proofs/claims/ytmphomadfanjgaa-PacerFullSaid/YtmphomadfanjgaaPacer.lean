/- What the program's pacer and the document's answer, in plain numbers. -/
import Derived.Test.YtmphomadfanjgaaPAx0
import Derived.Test.YtmphomadfanjgaaPAx2
import Derived.Test.YtmphomadfanjgaaPAx4
import Derived.Test.YtmphomadfanjgaaPAx9
import Derived.Test.YtmphomadfanjgaaSeq
set_option linter.unusedVariables false
set_option linter.unusedSimpArgs false
namespace Go.Proofs.Ytmphomadfanjgaa.Pacer
open Go Go.RowKit Go.Proofs.Ytmphomadfanjgaa.PA Go.Proofs.YtmphomadfanjgaaW.PrintWords Go.Proofs.Ytmphomadfanjgaa.Math Go.Proofs.Ytmphomadfanjgaa.Seq Go.Proofs.Ytmphomadfanjgaa.Div

/-- A bucket that may be. -/
def OKP (r b t l : Int) : Prop := 1 ≤ r ∧ r ≤ 1099511627776 ∧ 1 ≤ b ∧ b ≤ 1073741824 ∧ -1073741824000000 ≤ t ∧ t ≤ b * 1000000 ∧ 0 ≤ l ∧ l ≤ 1125899906842624
instance (r b t l : Int) : Decidable (OKP r b t l) := by unfold OKP; infer_instance

/-- A number of an int. -/
def I64 (n : Int) : Prop := -9223372036854775808 ≤ n ∧ n ≤ 9223372036854775807

theorem bool_or {a b : Bool} : ((a || b) = true) ↔ (a = true ∨ b = true) := by simp
theorem New_eq (r b l : Int) : pacer_New.f r b l = some (if 1 ≤ r ∧ r ≤ 1099511627776 ∧ 1 ≤ b ∧ b ≤ 1073741824 ∧ 0 ≤ l ∧ l ≤ 1125899906842624 then (r, b, b * 1000000, l, 0) else (0, 0, 0, 0, 2)) := by
  unfold pacer_New.f
  by_cases h : 1 ≤ r ∧ r ≤ 1099511627776 ∧ 1 ≤ b ∧ b ≤ 1073741824 ∧ 0 ≤ l ∧ l ≤ 1125899906842624
  · rw [if_pos h, if_neg (by omega), if_neg (by omega), if_neg (by omega), if_neg (by omega), if_neg (by omega), if_neg (by omega), w64_id (by omega) (by omega)]
  · rw [if_neg h]
    repeat' split
    all_goals first | rfl | (exfalso; omega)
theorem Check_eq (r b t l : Int) : pacer_Check.f r b t l = some (if OKP r b t l then 0 else 230) := by
  unfold pacer_Check.f
  rw [New_eq, Option.bind_some, Clamp_eq, Option.bind_some]
  by_cases h : 1 ≤ r ∧ r ≤ 1099511627776 ∧ 1 ≤ b ∧ b ≤ 1073741824 ∧ 0 ≤ l ∧ l ≤ 1125899906842624
  · rw [if_pos h]
    simp only [if_true, beq_self_eq_true, Bool.not_true, Bool.false_or, Bool.or_false]
    by_cases c : OKP r b t l
    · have c' := c; unfold OKP at c'
      rw [if_pos c, if_neg]
      simp only [Bool.not_eq_true', beq_eq_false_iff_ne, ne_eq, Bool.not_eq_true, Bool.not_eq_false', beq_iff_eq, Classical.not_not]
      first | omega | (simp; omega)
    · rw [if_neg c, if_pos]
      unfold OKP at c
      simp only [Bool.not_eq_true', beq_eq_false_iff_ne, ne_eq]
      omega
  · rw [if_neg h, if_neg (show ¬OKP r b t l by unfold OKP; omega)]
    simp
/-- The tokens behind a filling. -/
def fillT (r b t l now : Int) : Int := min (b * 1000000) (t + r * (now - l))
theorem Fill_eq (r b t l now : Int) (k : Nat) (hk : 40 ≤ k) : pacer_Fill.f k r b t l now = some (if OKP r b t l then (if l ≤ now ∧ now ≤ 1125899906842624 then (r, b, fillT r b t l now, now, 0) else (0, 0, 0, 0, 2)) else (0, 0, 0, 0, 230)) := by
  obtain ⟨k, rfl⟩ : ∃ m, k = m + 1 := ⟨k - 1, by omega⟩
  unfold pacer_Fill.f
  rw [Check_eq, Option.bind_some]
  by_cases h : OKP r b t l
  · have h' := h; unfold OKP at h'
    rw [if_pos h, if_pos h, if_pos rfl]
    simp only [pacer_Fill.j0]
    by_cases c : l ≤ now ∧ now ≤ 1125899906842624
    · have p0 : 0 ≤ (now - l) * r := Int.mul_nonneg (by omega) (by omega)
      have e : (now - l) * r = r * (now - l) := Int.mul_comm _ _
      rw [if_pos c, if_neg (by omega), decide_eq_false (by omega), if_neg (by simp), w64_id (n := now - l) (by omega) (by omega), muldiv_eq _ _ _ k (by omega) (by omega) (by omega) (by omega) (by omega) (by omega) (by omega), Option.bind_some, Sum_eq _ _ k (by omega) (by omega) (by omega) (by simp only; omega) (by simp only; omega), Option.bind_some]
      simp only
      rw [Int.ediv_one, e, w64_id (n := b * 1000000) (by omega) (by omega), mn_min]
      unfold fillT satw
      rw [e] at p0
      generalize r * (now - l) = z at *
      congr 1; simp only [Prod.mk.injEq, and_true, true_and]; omega
    · rw [if_neg c]
      by_cases c2 : now < l
      · rw [if_pos c2, if_pos trivial]
      · rw [if_neg c2, decide_eq_true (by omega), if_pos rfl]
  · rw [if_neg h, if_neg h, if_neg (by decide)]
theorem fillT_OK {r b t l now : Int} (h : OKP r b t l) (h1 : l ≤ now) (h2 : now ≤ 1125899906842624) : OKP r b (fillT r b t l now) now ∧ t ≤ fillT r b t l now := by
  unfold OKP at *
  have p0 : 0 ≤ r * (now - l) := Int.mul_nonneg (by omega) (by omega)
  unfold fillT; generalize r * (now - l) = z at *; omega
theorem size_eq (n : Int) : pacer_size.f n = some (decide (0 ≤ n ∧ n ≤ 1073741824)) := by
  unfold pacer_size.f
  split
  · congr 1; apply decide_eq_decide.2; omega
  · congr 1; symm; apply decide_eq_false; omega
/-- May bytes leave? -/
def may (r b t l n : Int) : Prop := OKP r b t l ∧ 0 ≤ n ∧ n ≤ 1073741824 ∧ min n b * 1000000 ≤ t
instance (r b t l n : Int) : Decidable (may r b t l n) := by unfold may; infer_instance
theorem May_eq (r b t l n : Int) : pacer_May.f r b t l n = some (decide (may r b t l n)) := by
  unfold pacer_May.f
  rw [Check_eq, Option.bind_some, size_eq, Option.bind_some]
  by_cases h : OKP r b t l
  · have h' := h; unfold OKP at h'
    rw [if_pos h, if_pos rfl]
    by_cases c : 0 ≤ n ∧ n ≤ 1073741824
    · rw [decide_eq_true c, if_pos rfl, mn_min, w64_id (by omega) (by omega)]
      congr 1; apply decide_eq_decide.2; unfold may; constructor
      · intro g; exact ⟨h, c.1, c.2, by omega⟩
      · intro g; exact g.2.2.2
    · rw [decide_eq_false c, if_neg (by simp)]
      congr 1; symm; apply decide_eq_false; unfold may; omega
  · rw [if_neg h, if_neg (by decide)]
    congr 1; symm; apply decide_eq_false; unfold may; exact fun g => h g.1
theorem Take_eq (r b t l n : Int) : pacer_Take.f r b t l n = some (if OKP r b t l then (if may r b t l n then (r, b, t - n * 1000000, l, 0) else (0, 0, 0, 0, 2)) else (0, 0, 0, 0, 230)) := by
  unfold pacer_Take.f
  rw [Check_eq, Option.bind_some, May_eq, Option.bind_some]
  by_cases h : OKP r b t l
  · have h' := h; unfold OKP at h'
    rw [if_pos h, if_pos h, if_pos rfl]
    by_cases c : may r b t l n
    · have c' := c; unfold may at c'
      rw [if_pos c, decide_eq_true c, if_pos rfl, w64_id (n := n * 1000000) (by omega) (by omega), w64_id (by omega) (by omega)]
    · rw [if_neg c, decide_eq_false c, if_neg (by simp)]
  · rw [if_neg h, if_neg h, if_neg (by decide)]
/-- When bytes may leave. -/
def whenT (r b t l n : Int) : Int := min 1125899906842624 (l + (max 0 (min n b * 1000000 - t) + r - 1) / r)
theorem When_eq (r b t l n : Int) : pacer_When.f r b t l n = some (if OKP r b t l then (if 0 ≤ n ∧ n ≤ 1073741824 then (whenT r b t l n, 0) else (0, 2)) else (0, 230)) := by
  unfold pacer_When.f
  rw [Check_eq, Option.bind_some, size_eq, Option.bind_some]
  by_cases h : OKP r b t l
  · have h' := h; unfold OKP at h'
    rw [if_pos h, if_pos h, if_pos rfl]
    by_cases c : 0 ≤ n ∧ n ≤ 1073741824
    · rw [if_pos c, decide_eq_true c, if_pos rfl, if_neg (by omega), mn_min n b, w64_id (n := min n b * 1000000) (by omega) (by omega), w64_id (n := min n b * 1000000 - t) (by omega) (by omega), mx_max, w64_id (n := max 0 _ + r) (by omega) (by omega), w64_id (n := max 0 _ + r - 1) (by omega) (by omega), Int.tdiv_eq_ediv_of_nonneg (by omega)]
      have q0 : 0 ≤ (max 0 (min n b * 1000000 - t) + r - 1) / r := Int.ediv_nonneg (by omega) (by omega)
      have q1 : (max 0 (min n b * 1000000 - t) + r - 1) / r ≤ max 0 (min n b * 1000000 - t) + r - 1 := Int.ediv_le_self _ (by omega)
      rw [w64_id (n := (max 0 _ + r - 1) / r) (by omega) (by omega), w64_id (n := l + _) (by omega) (by omega), mn_min]
      rfl
    · rw [if_neg c, decide_eq_false c, if_neg (by simp)]
  · rw [if_neg h, if_neg h, if_neg (by decide)]
theorem Set_eq (r b t l n : Int) : pacer_Set.f r b t l n = some (if OKP r b t l then (if 1 ≤ n ∧ n ≤ 1099511627776 then (n, b, t, l, 0) else (0, 0, 0, 0, 2)) else (0, 0, 0, 0, 230)) := by
  unfold pacer_Set.f
  rw [Check_eq, Option.bind_some]
  by_cases h : OKP r b t l
  · rw [if_pos h, if_pos h, if_pos rfl]
    repeat' split
    all_goals first | rfl | (exfalso; omega)
  · rw [if_neg h, if_neg h, if_neg (by decide)]

end Go.Proofs.Ytmphomadfanjgaa.Pacer
