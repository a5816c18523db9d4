/- What the program's sequence numbers and safe whole numbers, and the document's, answer, in plain numbers. -/
import Derived.Test.YtmphomadfanjgaaPAx0
import Derived.Test.YtmphomadfanjgaaPAx2
import Derived.Test.YtmphomadfanjgaaPAx4
import Derived.Test.YtmphomadfanjgaaMath
import Derived.Test.YtmphomadfanjgaaDiv
set_option linter.unusedVariables false
set_option linter.unusedSimpArgs false
namespace Go.Proofs.Ytmphomadfanjgaa.Seq
open Go Go.RowKit Go.Proofs.Ytmphomadfanjgaa.PA Go.Proofs.YtmphomadfanjgaaW.PrintWords Go.Proofs.Ytmphomadfanjgaa.Math

theorem tmod_pos {a b : Int} (h : 0 ≤ a) : Int.tmod a b = a % b := Int.tmod_eq_emod_of_nonneg h
theorem tmod_neg {a b : Int} (h : a ≤ 0) : Int.tmod a b = -((-a) % b) := by
  obtain ⟨c, rfl⟩ : ∃ c, a = -c := ⟨-a, by omega⟩
  rw [Int.neg_tmod, tmod_pos (by omega), Int.neg_neg]

/-- How far a number is ahead. -/
def diff (a b : Int) : Int := (b - a + 2147483648) % 4294967296 - 2147483648

theorem Sum_eq (a b : Int) (k : Nat) (hk : 1 ≤ k) (a0 : -9223372036854775808 ≤ a) (a1 : a ≤ 9223372036854775807) (b0 : -9223372036854775808 ≤ b) (b1 : b ≤ 9223372036854775807) : seq_Sum.f k a b = some (satw (a + b)) := by
  obtain ⟨k, rfl⟩ : ∃ m, k = m + 1 := ⟨k - 1, by omega⟩
  unfold seq_Sum.f
  simp only [seq_Sum.j0]
  have hw : wrap64 (a + b) = (a + b + 9223372036854775808) % 18446744073709551616 - 9223372036854775808 := by unfold wrap64; rfl
  have hs : satw (a + b) = max (-9223372036854775808) (min (a + b) 9223372036854775807) := rfl
  generalize wrap64 (a + b) = z at *
  generalize satw (a + b) = q at *
  repeat' split
  all_goals (try simp only [decide_eq_true_eq] at *)
  all_goals first | (congr 1; omega) | (exfalso; omega) | (exfalso; simp_all; done)
theorem Clamp_eq (x lo hi : Int) : seq_Clamp.f x lo hi = some (max lo (min x hi)) := by
  unfold seq_Clamp.f; rw [mx_max, mn_min]

/-! Cube roots. -/
structure IsCbrt (n r : Int) : Prop where
  r0 : 0 ≤ r
  r1 : r ≤ 2097151
  le : r = 0 ∨ r * r * r ≤ n
  lt : r = 2097151 ∨ n < (r + 1) * (r + 1) * (r + 1)

theorem cube_le {a b : Int} (h0 : 0 ≤ a) (h : a ≤ b) : a * a * a ≤ b * b * b := mul_le (Int.mul_nonneg h0 h0) (mul_le h0 h h0 h) h0 h
theorem cube_max {a : Int} (h0 : 0 ≤ a) (h : a ≤ 2097151) : 0 ≤ a * a ∧ a * a ≤ 4398042316801 ∧ 0 ≤ a * a * a ∧ a * a * a ≤ 9223358842721533951 := by
  have h1 := mul_le h0 h h0 h
  have h2 := cube_le h0 h
  exact ⟨Int.mul_nonneg h0 h0, by omega, Int.mul_nonneg (Int.mul_nonneg h0 h0) h0, by omega⟩
theorem IsCbrt.unique {n r s : Int} (h : IsCbrt n r) (g : IsCbrt n s) : r = s := by
  rcases Int.lt_trichotomy r s with hl | he | hl
  · have := cube_le (show 0 ≤ r + 1 by have := h.r0; omega) (show r + 1 ≤ s by omega)
    have := h.lt; have := g.le; have := g.r1; have := h.r0; omega
  · exact he
  · have := cube_le (show 0 ≤ s + 1 by have := g.r0; omega) (show s + 1 ≤ r by omega)
    have := g.lt; have := h.le; have := h.r1; have := g.r0; omega

end Go.Proofs.Ytmphomadfanjgaa.Seq
