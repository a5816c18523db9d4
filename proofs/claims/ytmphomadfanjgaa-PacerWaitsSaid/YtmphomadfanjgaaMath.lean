/- Plain facts on whole numbers: products, quotients, the long division of Go's math/bits. -/
import Derived.RowKit
import Derived.IntWalk
import Derived.Laws.BitsLemmas
import Derived.Test.YtmphomadfanjgaaWMore
namespace Go.Proofs.Ytmphomadfanjgaa.Math
set_option linter.unusedVariables false
open Go Go.RowKit Go.Proofs.YtmphomadfanjgaaW.PrintWords

theorem w64_id {n : Int} (h0 : -9223372036854775808 ≤ n) (h1 : n ≤ 9223372036854775807) : wrap64 n = n := by unfold wrap64; omega
theorem u64_eq (n : Int) : IntKind.u64.wrap n = n % 18446744073709551616 := by simp [IntKind.wrap, IntKind.bits, IntKind.signed]
theorem u64_id {n : Int} (h0 : 0 ≤ n) (h1 : n < 18446744073709551616) : IntKind.u64.wrap n = n := by rw [u64_eq]; omega
theorem wraps_u64 (n : Int) (h₀ : 0 ≤ n) (h₁ : n < 2 ^ 64) : IntKind.u64.wrap n = n := u64_id h₀ (by simpa using h₁)
theorem and_mask {x : Int} (h0 : 0 ≤ x) (h1 : x < 18446744073709551616) : Go.bits .and .u64 x 4294967295 = x % 4294967296 := by
  have := bits_mask .u64 64 (by decide) wraps_u64 32 (by decide) x h0 (by simpa using h1)
  simpa using this
theorem mn_le {a b : Int} (h : a ≤ b) : mn a b = a := by unfold mn; rw [if_neg (by omega)]
theorem mn_ge {a b : Int} (h : b ≤ a) : mn a b = b := by unfold mn; split <;> omega
theorem mn_min (a b : Int) : mn a b = min a b := by unfold mn; split <;> omega
theorem mx_max (a b : Int) : mx a b = max a b := by unfold mx; split <;> omega

/-- What a sum within an int is. -/
def satw (n : Int) : Int := max (-9223372036854775808) (min n 9223372036854775807)

theorem mul_le {a b c d : Int} (ha : 0 ≤ a) (hb : a ≤ b) (hc : 0 ≤ c) (hd : c ≤ d) : a * c ≤ b * d :=
  Int.mul_le_mul hb hd hc (Int.le_trans ha hb)

/-- The high word of a product. -/
theorem mul_hi (x y : Int) (hx0 : 0 ≤ x) (hx1 : x < 18446744073709551616) (hy0 : 0 ≤ y) (hy1 : y < 18446744073709551616) :
    let x0 := x % 4294967296
    let x1 := x / 4294967296
    let y0 := y % 4294967296
    let y1 := y / 4294967296
    let w0 := x0 * y0
    let t := x1 * y0 + w0 / 4294967296
    let w1 := t % 4294967296 + x0 * y1
    x1 * y1 + t / 4294967296 + w1 / 4294967296 = x * y / 18446744073709551616 ∧ x0 * y0 < 18446744073709551616 ∧ t < 18446744073709551616 ∧ w1 < 18446744073709551616 ∧ 0 ≤ w0 ∧ 0 ≤ t ∧ 0 ≤ w1 ∧ 0 ≤ x1 * y1 ∧ x1 * y1 + t / 4294967296 + w1 / 4294967296 < 18446744073709551616 ∧ 0 ≤ x0 * y1 ∧ x0 * y1 < 18446744073709551616 ∧ 0 ≤ x1 * y0 ∧ x1 * y0 < 18446744073709551616 ∧ x1 * y1 < 18446744073709551616 := by
  intro x0 x1 y0 y1 w0 t w1
  have hx : x = x1 * 4294967296 + x0 := by omega
  have hy : y = y1 * 4294967296 + y0 := by omega
  have a0 : 0 ≤ x0 := by omega
  have a1 : x0 ≤ 4294967295 := by omega
  have a2 : 0 ≤ x1 := by omega
  have a3 : x1 ≤ 4294967295 := by omega
  have b0 : 0 ≤ y0 := by omega
  have b1 : y0 ≤ 4294967295 := by omega
  have b2 : 0 ≤ y1 := by omega
  have b3 : y1 ≤ 4294967295 := by omega
  have p00 : 0 ≤ x0 * y0 := Int.mul_nonneg a0 b0
  have p01 : 0 ≤ x0 * y1 := Int.mul_nonneg a0 b2
  have p10 : 0 ≤ x1 * y0 := Int.mul_nonneg a2 b0
  have p11 : 0 ≤ x1 * y1 := Int.mul_nonneg a2 b2
  have q00 : x0 * y0 ≤ 4294967295 * 4294967295 := mul_le a0 a1 b0 b1
  have q01 : x0 * y1 ≤ 4294967295 * 4294967295 := mul_le a0 a1 b2 b3
  have q10 : x1 * y0 ≤ 4294967295 * 4294967295 := mul_le a2 a3 b0 b1
  have q11 : x1 * y1 ≤ 4294967295 * 4294967295 := mul_le a2 a3 b2 b3
  have hxy : x * y = x1 * y1 * 18446744073709551616 + x1 * y0 * 4294967296 + x0 * y1 * 4294967296 + x0 * y0 := by
    rw [hx, hy]
    have e1 : (x1 * 4294967296 + x0) * (y1 * 4294967296 + y0) = x1 * 4294967296 * (y1 * 4294967296) + x1 * 4294967296 * y0 + (x0 * (y1 * 4294967296) + x0 * y0) := by
      rw [Int.add_mul, Int.mul_add, Int.mul_add]
    rw [e1]
    have e2 : x1 * 4294967296 * (y1 * 4294967296) = x1 * y1 * 18446744073709551616 := by
      rw [Int.mul_assoc, Int.mul_left_comm 4294967296 y1 4294967296, ← Int.mul_assoc]; rfl
    have e3 : x1 * 4294967296 * y0 = x1 * y0 * 4294967296 := Int.mul_right_comm _ _ _
    have e4 : x0 * (y1 * 4294967296) = x0 * y1 * 4294967296 := (Int.mul_assoc _ _ _).symm
    rw [e2, e3, e4]; omega
  rw [hxy]
  have hw0 : w0 = x0 * y0 := rfl
  have ht : t = x1 * y0 + w0 / 4294967296 := rfl
  have hw1 : w1 = t % 4294967296 + x0 * y1 := rfl
  clear_value w1 t w0 x0 x1 y0 y1
  generalize x0 * y0 = a at *
  generalize x0 * y1 = b at *
  generalize x1 * y0 = c at *
  generalize x1 * y1 = d at *
  clear hx hy hxy a0 a1 a2 a3 b0 b1 b2 b3
  refine ⟨?_, ?_, ?_, ?_, ?_, ?_, ?_, ?_, ?_, ?_, ?_, ?_, ?_, ?_⟩ <;> omega

/-- One digit of a long division: what the guess comes down to. b = 2^32. -/
theorem digit_upper {u v b yh yl q : Int} (hb : 0 < b) (hyl0 : 0 ≤ yl) (hyh : 0 < yh) (hv0 : 0 ≤ v) (hv : v < b) (hq0 : 0 ≤ q) (hq : q * (yh * b + yl) ≤ u * b + v) : q ≤ u / yh := by
  have h1 : q * yh * b ≤ u * b + v := by
    have : q * (yh * b + yl) = q * yh * b + q * yl := by rw [Int.mul_add, Int.mul_assoc]
    have : 0 ≤ q * yl := Int.mul_nonneg hq0 hyl0
    omega
  have h2 : q * yh * b < (u + 1) * b := by rw [Int.add_mul]; omega
  have h3 : q * yh < u + 1 := Int.lt_of_mul_lt_mul_right h2 (by omega)
  exact (Int.le_ediv_iff_mul_le hyh).2 (by omega)

theorem quot_unique {n y q r : Int} (hy : 0 < y) (h : n = q * y + r) (h0 : 0 ≤ r) (h1 : r < y) : n / y = q ∧ n % y = r := by
  have hd : n / y = q := by
    rw [h, Int.add_comm, Int.add_mul_ediv_right _ _ (by omega), Int.ediv_eq_zero_of_lt h0 h1]; omega
  refine ⟨hd, ?_⟩
  have := Int.emod_def n y
  rw [hd, Int.mul_comm] at this
  omega

/-- A quotient is the greatest number whose product is not too much. -/
theorem le_quot {n y q : Int} (hy : 0 < y) (h : q * y ≤ n) : q ≤ n / y := (Int.le_ediv_iff_mul_le hy).2 h
theorem quot_mul_le {n y : Int} (hy : 0 < y) : n / y * y ≤ n := by
  have := Int.emod_nonneg n (show y ≠ 0 by omega); have := Int.emod_add_mul_ediv n y
  have e := Int.mul_comm y (n / y)
  omega
theorem lt_quot_mul {n y : Int} (hy : 0 < y) : n < (n / y + 1) * y := by
  have := Int.emod_lt_of_pos n hy; have := Int.emod_add_mul_ediv n y
  have e := Int.mul_comm y (n / y)
  rw [Int.add_mul]; omega
end Go.Proofs.Ytmphomadfanjgaa.Math
