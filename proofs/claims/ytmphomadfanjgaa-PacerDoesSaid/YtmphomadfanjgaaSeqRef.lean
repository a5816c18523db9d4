/- What the document's sequence numbers and safe whole numbers answer, in plain numbers. -/
import Derived.Test.YtmphomadfanjgaaPAx0
import Derived.Test.YtmphomadfanjgaaPAx8
import Derived.Test.YtmphomadfanjgaaSeq
set_option linter.unusedVariables false
set_option linter.unusedSimpArgs false
namespace Go.Proofs.Ytmphomadfanjgaa.Seq
open Go Go.RowKit Go.Proofs.Ytmphomadfanjgaa.PA Go.Proofs.YtmphomadfanjgaaW.PrintWords Go.Proofs.Ytmphomadfanjgaa.Math

/-! The document's own. -/

/-! The document's product by a number: bit by bit. -/
theorem bit_step (a : Int) (i : Nat) (h0 : 0 ≤ a) : a / 2 ^ i = 2 * (a / 2 ^ (i + 1)) + a / 2 ^ i % 2 := by
  have : a / 2 ^ (i + 1) = a / 2 ^ i / 2 := by
    rw [Int.pow_succ, ← Int.ediv_ediv_of_nonneg (Int.le_of_lt (Int.pow_pos (by decide)))]
  omega
theorem and_one {x : Int} (h0 : 0 ≤ x) (h1 : x < 9223372036854775808) : Go.bits .and .i64 x 1 = x % 2 := by
  have := bits_mask .i64 63 (by decide) (fun n a b => by rw [IntKind.wrap_i64]; omega) 1 (by decide) x h0 (by simpa using h1)
  simpa using this

/-- The head of a round: what of a has been read, times b, by c. -/
structure At (b c A q r : Int) : Prop where
  eq : A * b = q * c + r
  r0 : 0 ≤ r
  r1 : r < c
  q0 : 0 ≤ q
  q1 : q ≤ 9223372036854775807

theorem At.quot {b c A q r : Int} (h : At b c A q r) (hc : 0 < c) : A * b / c = q := (quot_unique hc h.eq h.r0 h.r1).1

theorem too_much {a b c A q r : Int} {i : Nat} (hc : 0 < c) (hb : 0 ≤ b) (ha : 0 ≤ a) (hA : A = a / 2 ^ i) (he : A * b = q * c + r) (hr : 0 ≤ r) (hq : 9223372036854775807 < q) : min (a * b / c) 9223372036854775807 = 9223372036854775807 := by
  have hp : 0 < (2 : Int) ^ i := Int.pow_pos (by decide)
  have h1 : A ≤ a := by rw [hA]; exact Int.ediv_le_self _ ha
  have h2 : A * b ≤ a * b := Int.mul_le_mul_of_nonneg_right h1 hb
  have h3 : q ≤ a * b / c := le_quot hc (by omega)
  omega

theorem rMul_loop (a b c : Int) (a0 : 0 ≤ a) (a1 : a ≤ 9223372036854775807) (b0 : 0 ≤ b) (b1 : b ≤ 9223372036854775807) (c0 : 0 < c) (c1 : c ≤ 9223372036854775807) :
    ∀ (d k : Nat) (q r : Int), d ≤ 63 → At b c (a / 2 ^ d) q r → 4 * d + 1 ≤ k →
    tidewayref01_MulDiv.l0 k a c q r false (b / c) (b % c) ((d : Int) - 1) = some (min (a * b / c) 9223372036854775807, 0) := by
  have bc : b = b / c * c + b % c := by
    have := Int.emod_add_mul_ediv b c; have e := Int.mul_comm c (b / c); omega
  have m0 := Int.emod_nonneg b (show c ≠ 0 by omega)
  have m1 := Int.emod_lt_of_pos b c0
  have n0 : 0 ≤ b / c := Int.ediv_nonneg b0 (by omega)
  have n1 : b / c ≤ b := Int.ediv_le_self _ b0
  generalize hbq : b / c = bq at *
  generalize hbr : b % c = br at *
  intro d
  induction d with
  | zero =>
    intro k q r _ h hk
    obtain ⟨k, rfl⟩ : ∃ m, k = m + 1 := ⟨k - 1, by omega⟩
    simp only [tidewayref01_MulDiv.l0]
    have hA := h.quot c0
    simp only [Int.pow_zero, Int.ediv_one] at hA
    rw [if_neg (by omega), hA, w64_id (by have := h.q0; omega) h.q1]
    have := h.q1; congr 2; omega
  | succ d ih =>
    intro k q r hd h hk
    obtain ⟨k, rfl⟩ : ∃ m, k = m + 4 := ⟨k - 4, by omega⟩
    have hq0 := h.q0; have hq1 := h.q1; have hr0 := h.r0; have hr1 := h.r1
    have hw : wrap64 (((d + 1 : Nat) : Int) - 1 - 1) = (d : Int) - 1 := by rw [w64_id (by omega) (by omega)]; omega
    have hx : ((d + 1 : Nat) : Int) - 1 = d := by omega
    simp only [tidewayref01_MulDiv.l0]
    rw [hx] at hw ⊢
    rw [if_pos (by omega), if_neg (by simp)]
    have hcu : IntKind.u64.wrap c = c := u64_id (by omega) (by omega)
    have hdu : IntKind.u64.wrap (d : Int) = d := u64_id (by omega) (by omega)
    have h2r : IntKind.u64.wrap (2 * r) = 2 * r := u64_id (by omega) (by omega)
    have h2q : IntKind.u64.wrap (2 * q) = 2 * q := u64_id (by omega) (by omega)
    have h2q1 : IntKind.u64.wrap (2 * q + 1) = 2 * q + 1 := u64_id (by omega) (by omega)
    -- twice
    obtain ⟨q2, r2, e2, s2, s3, s4, s5⟩ : ∃ q2 r2, tidewayref01_MulDiv.j2 (k + 3) a c q r (decide (q ≥ 4611686018427387904)) bq br d = tidewayref01_MulDiv.j3 (k + 2) a c q2 r2 (decide (q ≥ 4611686018427387904)) bq br d ∧ 2 * q * c + 2 * r = q2 * c + r2 ∧ 0 ≤ r2 ∧ r2 < c ∧ (q2 = 2 * q ∨ q2 = 2 * q + 1) := by
      simp only [tidewayref01_MulDiv.j2]
      rw [h2r, hcu, h2q, h2q1]
      by_cases hc : 2 * r ≥ c
      · rw [if_pos hc, u64_id (n := 2 * r - c) (by omega) (by omega)]
        exact ⟨_, _, rfl, by rw [Int.add_mul]; omega, by omega, by omega, .inr rfl⟩
      · rw [if_neg hc]
        exact ⟨_, _, rfl, rfl, by omega, by omega, .inl rfl⟩
    rw [e2]
    have hA := bit_step a d a0
    have dbl : 2 * (a / 2 ^ (d + 1)) * b = q2 * c + r2 := by
      rw [Int.mul_assoc, h.eq, ← s2, Int.mul_add, Int.mul_assoc]
    have hsh : shr .i64 a (d : Int) = a / 2 ^ d := by
      unfold shr; rw [show min (d : Int).toNat IntKind.i64.bits = d by simp [IntKind.bits]; omega]
    have hp : 0 < (2 : Int) ^ d := Int.pow_pos (by decide)
    have x0 : 0 ≤ a / 2 ^ d := Int.ediv_nonneg a0 (by omega)
    have x1 : a / 2 ^ d ≤ a := Int.ediv_le_self _ a0
    simp only [tidewayref01_MulDiv.j3]
    rw [hdu, if_pos (by omega), hsh, and_one x0 (by omega)]
    by_cases hbit : a / 2 ^ d % 2 = 1
    · rw [if_pos hbit]
      have full : a / 2 ^ d * b = (q2 + bq) * c + (r2 + br) := by
        rw [hA, hbit, Int.add_mul, dbl, Int.one_mul, Int.add_mul]; omega
      rw [u64_id (n := 9223372036854775807 - bq) (by omega) (by omega)]
      have j4 : tidewayref01_MulDiv.j4 (k + 1) a c q2 r2 (decide (q ≥ 4611686018427387904 ∨ q2 > 9223372036854775807 - bq)) bq br d = some (min (a * b / c) 9223372036854775807, 0) := by
        simp only [tidewayref01_MulDiv.j4]
        rw [hcu, u64_id (n := r2 + br) (by omega) (by omega)]
        by_cases over : q ≥ 4611686018427387904 ∨ q2 > 9223372036854775807 - bq
        · have tm := too_much (q := q2 + bq) (r := r2 + br) (i := d) c0 b0 a0 rfl full (by omega) (by omega)
          rw [decide_eq_true over, if_pos rfl, if_pos rfl, ite_self, tm]
        · rw [decide_eq_false over]
          simp only [Bool.false_eq_true, if_false]
          rw [u64_id (n := q2 + bq) (by omega) (by omega), u64_id (n := q2 + bq + 1) (by omega) (by omega)]
          by_cases hc : r2 + br ≥ c
          · rw [if_pos hc]
            have full2 : a / 2 ^ d * b = (q2 + bq + 1) * c + (r2 + br - c) := by rw [full, Int.add_mul _ 1]; omega
            by_cases big : q2 + bq + 1 > 9223372036854775807
            · rw [if_pos big, too_much (i := d) c0 b0 a0 rfl full2 (by omega) (by omega)]
            · rw [if_neg big, u64_id (n := r2 + br - c) (by omega) (by omega), hw]
              exact ih k _ _ (by omega) ⟨full2, by omega, by omega, by omega, by omega⟩ (by omega)
          · rw [if_neg hc]
            by_cases big : q2 + bq > 9223372036854775807
            · rw [if_pos big, too_much (i := d) c0 b0 a0 rfl full (by omega) (by omega)]
            · rw [if_neg big, hw]
              exact ih k _ _ (by omega) ⟨full, by omega, by omega, by omega, by omega⟩ (by omega)
      by_cases o1 : q ≥ 4611686018427387904
      · rw [if_pos (by simpa using o1)]
        rw [decide_eq_true (Or.inl o1)] at j4; exact j4
      · rw [if_neg (by simpa using o1)]
        rw [← j4]; congr 1
        by_cases o2 : q2 > 9223372036854775807 - bq
        · rw [decide_eq_true o2, decide_eq_true (Or.inr o2)]
        · rw [decide_eq_false o2, decide_eq_false (by omega)]
    · rw [if_neg hbit]
      have full : a / 2 ^ d * b = q2 * c + r2 := by
        rw [hA, show a / 2 ^ d % 2 = 0 by omega, Int.add_zero]; exact dbl
      by_cases o1 : q ≥ 4611686018427387904
      · rw [if_pos (by simpa using o1), too_much (i := d) c0 b0 a0 rfl full (by omega) (by omega)]
      · rw [if_neg (by simpa using o1), if_neg (by omega), hw, decide_eq_false o1]
        exact ih (k + 1) _ _ (by omega) ⟨full, by omega, by omega, by omega, by omega⟩ (by omega)

theorem rMulDiv_eq (a b c : Int) (k : Nat) (hk : 300 ≤ k) (a0 : 0 ≤ a) (a1 : a ≤ 9223372036854775807) (b0 : 0 ≤ b) (b1 : b ≤ 9223372036854775807) (c0 : 0 < c) (c1 : c ≤ 9223372036854775807) :
    tidewayref01_MulDiv.f k a b c = some (min (a * b / c) 9223372036854775807, 0) := by
  obtain ⟨k, rfl⟩ : ∃ m, k = m + 1 := ⟨k - 1, by omega⟩
  unfold tidewayref01_MulDiv.f
  rw [if_neg (by omega), if_neg (by omega), decide_eq_false (by omega)]
  simp only [tidewayref01_MulDiv.j0]
  have n0 : 0 ≤ b / c := Int.ediv_nonneg b0 (by omega)
  have n1 : b / c ≤ b := Int.ediv_le_self _ b0
  rw [if_neg (by simp), u64_id (n := c) (by omega) (by omega), if_neg (by omega), u64_id (n := b) b0 (by omega), Int.tdiv_eq_ediv_of_nonneg b0, tmod_pos b0, u64_id n0 (by omega)]
  have z : a / 2 ^ 63 = 0 := Int.ediv_eq_zero_of_lt a0 (by have : (2 : Int) ^ 63 = 9223372036854775808 := by decide
                                                           omega)
  have := rMul_loop a b c a0 a1 b0 b1 c0 c1 63 k 0 0 (by omega) (by rw [z]; exact ⟨by simp, by omega, by omega, by omega, by omega⟩) (by omega)
  exact this
theorem rMulDiv_bad (a b c : Int) (k : Nat) (hk : 1 ≤ k) (h : a < 0 ∨ b < 0 ∨ c ≤ 0) : tidewayref01_MulDiv.f k a b c = some (0, 2) := by
  obtain ⟨k, rfl⟩ : ∃ m, k = m + 1 := ⟨k - 1, by omega⟩
  unfold tidewayref01_MulDiv.f
  by_cases h1 : a < 0
  · rw [if_pos h1]; simp [tidewayref01_MulDiv.j0]
  · by_cases h2 : b < 0
    · rw [if_neg h1, if_pos h2]; simp [tidewayref01_MulDiv.j0]
    · rw [if_neg h1, if_neg h2, decide_eq_true (by omega)]; simp [tidewayref01_MulDiv.j0]

end Go.Proofs.Ytmphomadfanjgaa.Seq
