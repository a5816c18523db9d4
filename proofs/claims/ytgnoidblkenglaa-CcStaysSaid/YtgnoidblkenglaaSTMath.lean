/- Plain facts on whole numbers: products, quotients, the long division of Go's math/bits. -/
import Derived.Test.YtgnoidblkenglaaSTKit
import Derived.IntWalk
import Derived.Laws.BitsLemmas
set_option linter.unusedVariables false
set_option linter.unusedSimpArgs false
namespace Go.Proofs.Ytgnoidblkenglaa.M
open Go Go.RowKit

theorem u64_id {n : Int} (h0 : 0 ≤ n) (h1 : n < 18446744073709551616) : wr .u64 n = n := by rw [wu64]; omega
theorem i64_eq (n : Int) : wr .i64 n = IntKind.i64.wrap n := by rw [IntKind.wrap_i64, wi64]
theorem u64_wrap (n : Int) : wr .u64 n = IntKind.u64.wrap n := rfl
theorem wraps_u64 (n : Int) (h₀ : 0 ≤ n) (h₁ : n < 2 ^ 64) : IntKind.u64.wrap n = n := u64_id h₀ (by simpa using h₁)
theorem and_mask {x : Int} (h0 : 0 ≤ x) (h1 : x < 18446744073709551616) : bits .and .u64 x 4294967295 = x % 4294967296 := by
  have := bits_mask .u64 64 (by decide) wraps_u64 32 (by decide) x h0 (by simpa using h1)
  simpa using this
theorem shr_eq (k : IntKind) (x y : Int) : shr k x y = x / 2 ^ (min y.toNat k.bits) := by
  unfold shr
  rw [Int.fdiv_eq_ediv_of_nonneg _ (Int.le_of_lt (Int.pow_pos (by decide)))]
theorem shr32 (x : Int) : shr .u64 x 32 = x / 4294967296 := by rw [shr_eq]; rfl
theorem shr16 (x : Int) : shr .u64 x 16 = x / 65536 := by rw [shr_eq]; rfl
theorem shr8 (x : Int) : shr .u64 x 8 = x / 256 := by rw [shr_eq]; rfl
theorem tmod_pos {a b : Int} (h : 0 ≤ a) : Int.tmod a b = a % b := Int.tmod_eq_emod_of_nonneg h
theorem tdiv_pos {a b : Int} (h : 0 ≤ a) : Int.tdiv a b = a / b := Int.tdiv_eq_ediv_of_nonneg h
theorem wrap_sub_mod {a b m : Int} (hm : 0 ≤ a - b) (hl : a - b < 18446744073709551616) : wr .u64 (wr .u64 a - wr .u64 b) = a - b := by
  simp only [wu64]; omega

theorem mul_le {a b c d : Int} (ha : 0 ≤ a) (hb : a ≤ b) (hc : 0 ≤ c) (hd : c ≤ d) : a * c ≤ b * d :=
  Int.mul_le_mul hb hd hc (Int.le_trans ha hb)

/-- The high word of a product. -/
theorem mul_hi (x y : Int) (hx0 : 0 ≤ x) (hx1 : x < 18446744073709551616) (hy0 : 0 ≤ y) (hy1 : y < 18446744073709551616) :
    let x0 := x % 4294967296
    let x1 := x / 4294967296
    let y0 := y % 4294967296
    let y1 := y / 4294967296
    let w0 := x0 * y0
    let t := x1 * y0 + w0 / 4294967296
    let w1 := t % 4294967296 + x0 * y1
    x1 * y1 + t / 4294967296 + w1 / 4294967296 = x * y / 18446744073709551616 ∧ x0 * y0 < 18446744073709551616 ∧ t < 18446744073709551616 ∧ w1 < 18446744073709551616 ∧ 0 ≤ w0 ∧ 0 ≤ t ∧ 0 ≤ w1 ∧ 0 ≤ x1 * y1 ∧ x1 * y1 + t / 4294967296 + w1 / 4294967296 < 18446744073709551616 ∧ 0 ≤ x0 * y1 ∧ x0 * y1 < 18446744073709551616 ∧ 0 ≤ x1 * y0 ∧ x1 * y0 < 18446744073709551616 ∧ x1 * y1 < 18446744073709551616 := by
  intro x0 x1 y0 y1 w0 t w1
  have hx : x = x1 * 4294967296 + x0 := by omega
  have hy : y = y1 * 4294967296 + y0 := by omega
  have a0 : 0 ≤ x0 := by omega
  have a1 : x0 ≤ 4294967295 := by omega
  have a2 : 0 ≤ x1 := by omega
  have a3 : x1 ≤ 4294967295 := by omega
  have b0 : 0 ≤ y0 := by omega
  have b1 : y0 ≤ 4294967295 := by omega
  have b2 : 0 ≤ y1 := by omega
  have b3 : y1 ≤ 4294967295 := by omega
  have p00 : 0 ≤ x0 * y0 := Int.mul_nonneg a0 b0
  have p01 : 0 ≤ x0 * y1 := Int.mul_nonneg a0 b2
  have p10 : 0 ≤ x1 * y0 := Int.mul_nonneg a2 b0
  have p11 : 0 ≤ x1 * y1 := Int.mul_nonneg a2 b2
  have q00 : x0 * y0 ≤ 4294967295 * 4294967295 := mul_le a0 a1 b0 b1
  have q01 : x0 * y1 ≤ 4294967295 * 4294967295 := mul_le a0 a1 b2 b3
  have q10 : x1 * y0 ≤ 4294967295 * 4294967295 := mul_le a2 a3 b0 b1
  have q11 : x1 * y1 ≤ 4294967295 * 4294967295 := mul_le a2 a3 b2 b3
  have hxy : x * y = x1 * y1 * 18446744073709551616 + x1 * y0 * 4294967296 + x0 * y1 * 4294967296 + x0 * y0 := by
    rw [hx, hy]
    have e1 : (x1 * 4294967296 + x0) * (y1 * 4294967296 + y0) = x1 * 4294967296 * (y1 * 4294967296) + x1 * 4294967296 * y0 + (x0 * (y1 * 4294967296) + x0 * y0) := by
      rw [Int.add_mul, Int.mul_add, Int.mul_add]
    rw [e1]
    have e2 : x1 * 4294967296 * (y1 * 4294967296) = x1 * y1 * 18446744073709551616 := by
      rw [Int.mul_assoc, Int.mul_left_comm 4294967296 y1 4294967296, ← Int.mul_assoc]; rfl
    have e3 : x1 * 4294967296 * y0 = x1 * y0 * 4294967296 := Int.mul_right_comm _ _ _
    have e4 : x0 * (y1 * 4294967296) = x0 * y1 * 4294967296 := (Int.mul_assoc _ _ _).symm
    rw [e2, e3, e4]; omega
  rw [hxy]
  have hw0 : w0 = x0 * y0 := rfl
  have ht : t = x1 * y0 + w0 / 4294967296 := rfl
  have hw1 : w1 = t % 4294967296 + x0 * y1 := rfl
  clear_value w1 t w0 x0 x1 y0 y1
  generalize x0 * y0 = a at *
  generalize x0 * y1 = b at *
  generalize x1 * y0 = c at *
  generalize x1 * y1 = d at *
  clear hx hy hxy a0 a1 a2 a3 b0 b1 b2 b3
  refine ⟨?_, ?_, ?_, ?_, ?_, ?_, ?_, ?_, ?_, ?_, ?_, ?_, ?_, ?_⟩ <;> omega

/-- One digit of a long division: what the guess comes down to. b = 2^32. -/
theorem digit_upper {u v b yh yl q : Int} (hb : 0 < b) (hyl0 : 0 ≤ yl) (hyh : 0 < yh) (hv0 : 0 ≤ v) (hv : v < b) (hq0 : 0 ≤ q) (hq : q * (yh * b + yl) ≤ u * b + v) : q ≤ u / yh := by
  have h1 : q * yh * b ≤ u * b + v := by
    have : q * (yh * b + yl) = q * yh * b + q * yl := by rw [Int.mul_add, Int.mul_assoc]
    have : 0 ≤ q * yl := Int.mul_nonneg hq0 hyl0
    omega
  have h2 : q * yh * b < (u + 1) * b := by rw [Int.add_mul]; omega
  have h3 : q * yh < u + 1 := Int.lt_of_mul_lt_mul_right h2 (by omega)
  exact (Int.le_ediv_iff_mul_le hyh).2 (by omega)

theorem quot_unique {n y q r : Int} (hy : 0 < y) (h : n = q * y + r) (h0 : 0 ≤ r) (h1 : r < y) : n / y = q ∧ n % y = r := by
  have hd : n / y = q := by
    rw [h, Int.add_comm, Int.add_mul_ediv_right _ _ (by omega), Int.ediv_eq_zero_of_lt h0 h1]; omega
  refine ⟨hd, ?_⟩
  have := Int.emod_def n y
  rw [hd, Int.mul_comm] at this
  omega

/-- A quotient is the greatest number whose product is not too much. -/
theorem le_quot {n y q : Int} (hy : 0 < y) (h : q * y ≤ n) : q ≤ n / y := (Int.le_ediv_iff_mul_le hy).2 h
theorem quot_mul_le {n y : Int} (hy : 0 < y) : n / y * y ≤ n := by
  have := Int.emod_nonneg n (show y ≠ 0 by omega); have := Int.emod_add_mul_ediv n y
  have e := Int.mul_comm y (n / y)
  omega
theorem lt_quot_mul {n y : Int} (hy : 0 < y) : n < (n / y + 1) * y := by
  have := Int.emod_lt_of_pos n hy; have := Int.emod_add_mul_ediv n y
  have e := Int.mul_comm y (n / y)
  rw [Int.add_mul]; omega
/-! One digit of the long division. -/
theorem dig_test {q yh yl r u v : Int} (h : q * yh + r = u) : q * (yh * 4294967296 + yl) = u * 4294967296 + v - (4294967296 * r + v - q * yl) := by
  have e : q * (yh * 4294967296 + yl) = q * yh * 4294967296 + q * yl := by rw [Int.mul_add, Int.mul_assoc]
  rw [e]; generalize q * yh = p at *; generalize q * yl = z at *; omega

theorem dig_le {q Y U : Int} (hY : 0 < Y) (h : q * Y ≤ U) : q ≤ U / Y := le_quot hY h
theorem dig_gt {q Y U : Int} (hY : 0 < Y) (h : U < q * Y) : U / Y < q := by
  rcases Int.lt_or_le (U / Y) q with h1 | h1
  · exact h1
  · have h2 : q * Y ≤ U / Y * Y := Int.mul_le_mul_of_nonneg_right h1 (by omega)
    have := quot_mul_le (n := U) hY
    omega

structure Dig (Y yh yl u v q r : Int) : Prop where
  hY : Y = yh * 4294967296 + yl
  yh0 : 2147483648 ≤ yh
  yh1 : yh < 4294967296
  yl0 : 0 ≤ yl
  yl1 : yl < 4294967296
  v0 : 0 ≤ v
  v1 : v < 4294967296
  u0 : 0 ≤ u
  u1 : u < Y
  hq : q * yh + r = u
  q1 : q ≤ 4294967298
  r0 : 0 ≤ r
  r1 : r < 4294967296
  up : (u * 4294967296 + v) / Y ≤ q

theorem Dig.pos {Y yh yl u v q r : Int} (h : Dig Y yh yl u v q r) : 0 < Y := by have := h.hY; have := h.yh0; have := h.yl0; omega
theorem Dig.lt {Y yh yl u v q r : Int} (h : Dig Y yh yl u v q r) : 0 ≤ (u * 4294967296 + v) / Y ∧ (u * 4294967296 + v) / Y < 4294967296 := by
  have hp := h.pos
  have := h.u0; have := h.v0; have := h.u1; have := h.v1
  refine ⟨Int.ediv_nonneg (by omega) (by omega), Int.ediv_lt_of_lt_mul hp ?_⟩
  omega

/-- The first guess. -/
theorem Dig.start {Y yh yl u v : Int} (hY : Y = yh * 4294967296 + yl) (yh0 : 2147483648 ≤ yh) (yh1 : yh < 4294967296) (yl0 : 0 ≤ yl) (yl1 : yl < 4294967296) (v0 : 0 ≤ v) (v1 : v < 4294967296) (u0 : 0 ≤ u) (u1 : u < Y) :
    Dig Y yh yl u v (u / yh) (u - u / yh * yh) := by
  have hp : 0 < yh := by omega
  have hYp : 0 < Y := by omega
  have a := quot_mul_le (n := u) hp
  have b := lt_quot_mul (n := u) hp
  have c : (u / yh + 1) * yh = u / yh * yh + yh := by rw [Int.add_mul]; omega
  refine ⟨hY, yh0, yh1, yl0, yl1, v0, v1, u0, u1, by omega, ?_, by omega, by omega, ?_⟩
  · have : u / yh < 4294967299 := Int.ediv_lt_of_lt_mul hp (by omega)
    omega
  · have q0 : 0 ≤ (u * 4294967296 + v) / Y := Int.ediv_nonneg (by omega) (by omega)
    refine digit_upper (b := 4294967296) (v := v) (by omega) yl0 hp v0 v1 q0 ?_
    have := quot_mul_le (n := u * 4294967296 + v) hYp
    rw [← hY]; exact this

/-- The test as the code makes it. -/
theorem Dig.test {Y yh yl u v q r : Int} (h : Dig Y yh yl u v q r) (hq0 : 0 ≤ q) (hq : q < 4294967296) :
    wr .u64 (q * yl) = q * yl ∧ wr .u64 (wr .u64 (4294967296 * r) + v) = 4294967296 * r + v := by
  have := h.yl0; have := h.yl1; have := h.r0; have := h.r1; have := h.v0; have := h.v1
  have p0 : 0 ≤ q * yl := Int.mul_nonneg hq0 h.yl0
  have p1 : q * yl ≤ 4294967295 * 4294967295 := mul_le hq0 (by omega) h.yl0 (by omega)
  refine ⟨u64_id p0 (by omega), ?_⟩
  rw [u64_id (n := 4294967296 * r) (by omega) (by omega), u64_id (by omega) (by omega)]
theorem Dig.q0 {Y yh yl u v q r : Int} (h : Dig Y yh yl u v q r) : 0 ≤ q := Int.le_trans h.lt.1 h.up
/-- Not too much: it is the digit. -/
theorem Dig.done {Y yh yl u v q r : Int} (h : Dig Y yh yl u v q r) (ht : q * yl ≤ 4294967296 * r + v) : q = (u * 4294967296 + v) / Y := by
  have e := dig_test (yl := yl) (v := v) h.hq
  rw [← h.hY] at e
  have := dig_le h.pos (show q * Y ≤ u * 4294967296 + v by omega)
  have := h.up
  omega
theorem Dig.over {Y yh yl u v q r : Int} (h : Dig Y yh yl u v q r) (ht : 4294967296 ≤ q ∨ 4294967296 * r + v < q * yl) : (u * 4294967296 + v) / Y ≤ q - 1 := by
  rcases ht with ht | ht
  · have := h.lt.2; omega
  · have e := dig_test (yl := yl) (v := v) h.hq
    rw [← h.hY] at e
    have := dig_gt h.pos (show u * 4294967296 + v < q * Y by omega)
    omega
theorem Dig.next {Y yh yl u v q r : Int} (h : Dig Y yh yl u v q r) (ht : 4294967296 ≤ q ∨ 4294967296 * r + v < q * yl) (hr : r + yh < 4294967296) : Dig Y yh yl u v (q - 1) (r + yh) := by
  have a := h.over ht
  have := h.yh0; have := h.r0; have := h.q1
  refine ⟨h.hY, h.yh0, h.yh1, h.yl0, h.yl1, h.v0, h.v1, h.u0, h.u1, ?_, by omega, by omega, hr, a⟩
  rw [Int.sub_mul]; have := h.hq; omega
theorem Dig.last {Y yh yl u v q r : Int} (h : Dig Y yh yl u v q r) (ht : 4294967296 ≤ q ∨ 4294967296 * r + v < q * yl) (hr : 4294967296 ≤ r + yh) : q - 1 = (u * 4294967296 + v) / Y := by
  have a := h.over ht
  have hl := h.lt
  have hq : (q - 1) * yh + (r + yh) = u := by rw [Int.sub_mul]; have := h.hq; omega
  have e := dig_test (yl := yl) (v := v) hq
  rw [← h.hY] at e
  have := h.q1; have := h.yl0; have := h.yl1; have := h.v0
  have p1 : (q - 1) * yl ≤ 4294967297 * 4294967295 := mul_le (by omega) (by omega) h.yl0 (by omega)
  have := dig_le h.pos (show (q - 1) * Y ≤ u * 4294967296 + v by omega)
  omega

end Go.Proofs.Ytgnoidblkenglaa.M
