/- Clamps, cube roots, and the document's sums and products, in plain numbers. -/
import Derived.Test.YtgnoidblkenglaaRTSeq
import Derived.Test.YtgnoidblkenglaaRTDiv
set_option linter.unusedVariables false
set_option linter.unusedSimpArgs false
namespace Go.Proofs.Ytgnoidblkenglaa.M
open Go Go.RowKit
section
variable {R : Type} (cp : Nat → Nat → Bool) (n : Nat)
/-! Cube roots. -/
structure IsCbrt (n r : Int) : Prop where
  r0 : 0 ≤ r
  r1 : r ≤ 2097151
  le : r = 0 ∨ r * r * r ≤ n
  lt : r = 2097151 ∨ n < (r + 1) * (r + 1) * (r + 1)

theorem cube_le {a b : Int} (h0 : 0 ≤ a) (h : a ≤ b) : a * a * a ≤ b * b * b := mul_le (Int.mul_nonneg h0 h0) (mul_le h0 h h0 h) h0 h
theorem cube_max {a : Int} (h0 : 0 ≤ a) (h : a ≤ 2097151) : 0 ≤ a * a ∧ a * a ≤ 4398042316801 ∧ 0 ≤ a * a * a ∧ a * a * a ≤ 9223358842721533951 := by
  have h1 := mul_le h0 h h0 h
  have h2 := cube_le h0 h
  exact ⟨Int.mul_nonneg h0 h0, by omega, Int.mul_nonneg (Int.mul_nonneg h0 h0) h0, by omega⟩
theorem IsCbrt.unique {n r s : Int} (h : IsCbrt n r) (g : IsCbrt n s) : r = s := by
  rcases Int.lt_trichotomy r s with hl | he | hl
  · have := cube_le (show 0 ≤ r + 1 by have := h.r0; omega) (show r + 1 ≤ s by omega)
    have := h.lt; have := g.le; have := g.r1; have := h.r0; omega
  · exact he
  · have := cube_le (show 0 ≤ s + 1 by have := g.r0; omega) (show s + 1 ≤ r by omega)
    have := g.lt; have := h.le; have := h.r1; have := g.r0; omega

/-! The document's product by a number: bit by bit. -/
theorem bit_step (a : Int) (i : Nat) (h0 : 0 ≤ a) : a / 2 ^ i = 2 * (a / 2 ^ (i + 1)) + a / 2 ^ i % 2 := by
  have : a / 2 ^ (i + 1) = a / 2 ^ i / 2 := by
    rw [Int.pow_succ, ← Int.ediv_ediv_of_nonneg (Int.le_of_lt (Int.pow_pos (by decide)))]
  omega
theorem and_one {x : Int} (h0 : 0 ≤ x) (h1 : x < 9223372036854775808) : bits .and .i64 x 1 = x % 2 := by
  have := bits_mask .i64 63 (by decide) (fun n a b => by rw [IntKind.wrap_i64]; omega) 1 (by decide) x h0 (by simpa using h1)
  simpa using this

/-- The head of a round: what of a has been read, times b, by c. -/
structure At (b c A q r : Int) : Prop where
  eq : A * b = q * c + r
  r0 : 0 ≤ r
  r1 : r < c
  q0 : 0 ≤ q
  q1 : q ≤ 9223372036854775807

theorem At.quot {b c A q r : Int} (h : At b c A q r) (hc : 0 < c) : A * b / c = q := (quot_unique hc h.eq h.r0 h.r1).1

theorem too_much {a b c A q r : Int} {i : Nat} (hc : 0 < c) (hb : 0 ≤ b) (ha : 0 ≤ a) (hA : A = a / 2 ^ i) (he : A * b = q * c + r) (hr : 0 ≤ r) (hq : 9223372036854775807 < q) : min (a * b / c) 9223372036854775807 = 9223372036854775807 := by
  have hp : 0 < (2 : Int) ^ i := Int.pow_pos (by decide)
  have h1 : A ≤ a := by rw [hA]; exact Int.ediv_le_self _ ha
  have h2 : A * b ≤ a * b := Int.mul_le_mul_of_nonneg_right h1 hb
  have h3 : q ≤ a * b / c := le_quot hc (by omega)
  omega


theorem rMul_loop (a b c : Int) (a0 : 0 ≤ a) (a1 : a ≤ 9223372036854775807) (b0 : 0 ≤ b) (b1 : b ≤ 9223372036854775807) (c0 : 0 < c) (c1 : c ≤ 9223372036854775807) (kr : Option R) (ke : Int → Option R) (K : Int → Option R)
    (hkr : kr = K 9223372036854775807) (hke : ∀ q, 0 ≤ q → q ≤ 9223372036854775807 → ke q = K q) :
    ∀ (d k : Nat) (q r : Int), d ≤ 63 → At b c (a / 2 ^ d) q r → d + 1 ≤ k →
    l_ref01_MulDiv_25 cp n k a c (b / c) (b % c) q r false ((d : Int) - 1) kr ke = K (min (a * b / c) 9223372036854775807) := by
  have bc : b = b / c * c + b % c := by
    have := Int.emod_add_mul_ediv b c; have e := Int.mul_comm c (b / c); omega
  have m0 := Int.emod_nonneg b (show c ≠ 0 by omega)
  have m1 := Int.emod_lt_of_pos b c0
  have n0 : 0 ≤ b / c := Int.ediv_nonneg b0 (by omega)
  have n1 : b / c ≤ b := Int.ediv_le_self _ b0
  generalize hbq : b / c = bq at *
  generalize hbr : b % c = br at *
  intro d
  induction d with
  | zero =>
    intro k q r _ h hk
    obtain ⟨k, rfl⟩ : ∃ m, k = m + 1 := ⟨k - 1, by omega⟩
    simp only [l_ref01_MulDiv_25, G_ref01_MulDiv, s_ref01_MulDiv_1, s_ref01_MulDiv_4, s_ref01_MulDiv_6, s_ref01_MulDiv_9, s_ref01_MulDiv_11, s_ref01_MulDiv_15, s_ref01_MulDiv_17, s_ref01_MulDiv_18, s_ref01_MulDiv_21, s_ref01_MulDiv_23, s_ref01_MulDiv_26, s_ref01_MulDiv_28, s_ref01_MulDiv_30, s_ref01_MulDiv_31, s_ref01_MulDiv_34, s_ref01_MulDiv_36]
    have hA := h.quot c0
    simp only [Int.pow_zero, Int.ediv_one] at hA
    rw [cf (by omega), hA, hke q h.q0 h.q1]
    have := h.q1; congr 1; omega
  | succ d ih =>
    intro k q r hd h hk
    obtain ⟨k, rfl⟩ : ∃ m, k = m + 1 := ⟨k - 1, by omega⟩
    have hq0 := h.q0; have hq1 := h.q1; have hr0 := h.r0; have hr1 := h.r1
    have hw : wr .i64 (((d + 1 : Nat) : Int) - 1 - 1) = (d : Int) - 1 := by rw [w64_id (by omega) (by omega)]; omega
    have hx : ((d + 1 : Nat) : Int) - 1 = d := by omega
    rw [l_ref01_MulDiv_25]
    simp only [G_ref01_MulDiv, s_ref01_MulDiv_1, s_ref01_MulDiv_4, s_ref01_MulDiv_6, s_ref01_MulDiv_9, s_ref01_MulDiv_11, s_ref01_MulDiv_15, s_ref01_MulDiv_17, s_ref01_MulDiv_18, s_ref01_MulDiv_21, s_ref01_MulDiv_23, s_ref01_MulDiv_26, s_ref01_MulDiv_28, s_ref01_MulDiv_30, s_ref01_MulDiv_31, s_ref01_MulDiv_34, s_ref01_MulDiv_36]
    rw [hx] at hw ⊢
    have hcu : wr .u64 c = c := u64_id (by omega) (by omega)
    have hdu : wr .u64 (d : Int) = d := u64_id (by omega) (by omega)
    have h2r : wr .u64 (2 * r) = 2 * r := u64_id (by omega) (by omega)
    have h2q : wr .u64 (2 * q) = 2 * q := u64_id (by omega) (by omega)
    have h2q1 : wr .u64 (2 * q + 1) = 2 * q + 1 := u64_id (by omega) (by omega)
    rw [ct (by omega)]
    simp only [cond_false]
    have hA := bit_step a d a0
    have hsh : shr .i64 a (d : Int) = a / 2 ^ d := by
      rw [shr_eq, show min (d : Int).toNat IntKind.i64.bits = d by simp [IntKind.bits]; omega]
    have hp : 0 < (2 : Int) ^ d := Int.pow_pos (by decide)
    have x0 : 0 ≤ a / 2 ^ d := Int.ediv_nonneg a0 (by omega)
    have x1 : a / 2 ^ d ≤ a := Int.ediv_le_self _ a0
    rw [h2r, hcu, h2q, h2q1]
    have twice : ∀ q2 r2, 2 * q * c + 2 * r = q2 * c + r2 → 2 * (a / 2 ^ (d + 1)) * b = q2 * c + r2 := fun q2 r2 s2 => by
      rw [Int.mul_assoc, h.eq, ← s2, Int.mul_add, Int.mul_assoc]
    rcases Int.lt_or_le (2 * r) c with hc2 | hc2
    rw [cf (by omega)]
    have dbl := twice (2 * q) (2 * r) rfl
    have s3 : 0 ≤ 2 * r := by omega
    revert dbl s3 hc2
    generalize 2 * r = r2
    generalize hq2 : 2 * q = q2
    rintro hc2 dbl s3
    rotate_left
    rw [ct hc2, u64_id (n := 2 * r - c) (by omega) (by omega)]
    have dbl := twice (2 * q + 1) (2 * r - c) (by rw [Int.add_mul]; omega)
    have s3 : 0 ≤ 2 * r - c := by omega
    have s4 : 2 * r - c < c := by omega
    revert dbl s3 s4
    generalize 2 * r - c = r2
    generalize hq2 : 2 * q + 1 = q2
    rintro dbl s3 hc2
    all_goals rw [hdu, cf (by omega), hsh, and_one x0 (by omega)]
    all_goals
      by_cases hbit : a / 2 ^ d % 2 = 1
      · rw [ct hbit]
        have full : a / 2 ^ d * b = (q2 + bq) * c + (r2 + br) := by
          rw [hA, hbit, Int.add_mul, dbl, Int.one_mul, Int.add_mul]; omega
        rw [u64_id (n := 9223372036854775807 - bq) (by omega) (by omega), u64_id (n := r2 + br) (by omega) (by omega)]
        have tm : (4611686018427387904 ≤ q ∨ 9223372036854775807 - bq < q2) → min (a * b / c) 9223372036854775807 = 9223372036854775807 := fun over => too_much (q := q2 + bq) (r := r2 + br) (i := d) c0 b0 a0 rfl full (by omega) (by omega)
        by_cases o1 : 4611686018427387904 ≤ q
        · rw [ct o1, tm (.inl o1), hkr]
          by_cases hc : c ≤ r2 + br
          · rw [ct hc]
          · rw [cf hc]
        · rw [cf o1]
          by_cases hc : c ≤ r2 + br
          · rw [ct hc]
            by_cases o2 : 9223372036854775807 - bq < q2
            · rw [ct o2, tm (.inr o2), hkr]
            rw [cf o2, u64_id (n := q2 + bq) (by omega) (by omega), u64_id (n := q2 + bq + 1) (by omega) (by omega)]
            have full2 : a / 2 ^ d * b = (q2 + bq + 1) * c + (r2 + br - c) := by rw [full, Int.add_mul _ 1]; omega
            by_cases big : 9223372036854775807 < q2 + bq + 1
            · rw [ct big, too_much (i := d) c0 b0 a0 rfl full2 (by omega) (by omega), hkr]
            · rw [cf big, u64_id (n := r2 + br - c) (by omega) (by omega), hw, decide_eq_false o2]
              exact ih k _ _ (by omega) ⟨full2, by omega, by omega, by omega, by omega⟩ (by omega)
          · rw [cf hc]
            by_cases o2 : 9223372036854775807 - bq < q2
            · rw [ct o2, tm (.inr o2), hkr]
            rw [cf o2, u64_id (n := q2 + bq) (by omega) (by omega)]
            by_cases big : 9223372036854775807 < q2 + bq
            · rw [ct big, too_much (i := d) c0 b0 a0 rfl full (by omega) (by omega), hkr]
            · rw [cf big, hw, decide_eq_false o2]
              exact ih k _ _ (by omega) ⟨full, by omega, by omega, by omega, by omega⟩ (by omega)
      · rw [cf hbit]
        have full : a / 2 ^ d * b = q2 * c + r2 := by
          rw [hA, show a / 2 ^ d % 2 = 0 by omega, Int.add_zero]; exact dbl
        by_cases o1 : 4611686018427387904 ≤ q
        · rw [ct o1, too_much (i := d) c0 b0 a0 rfl full (by omega) (by omega), hkr]
        · rw [cf o1, cf (by omega), hw, decide_eq_false o1]
          exact ih k _ _ (by omega) ⟨full, by omega, by omega, by omega, by omega⟩ (by omega)
theorem rMulDiv_k (a b c : Int) (k : Int → Int → Option R) (hn : 64 ≤ n) (a1 : a ≤ 9223372036854775807) (b1 : b ≤ 9223372036854775807) (c1 : c ≤ 9223372036854775807) :
    G_ref01_MulDiv cp (n + 1) a b c k = k (mdv a b c) (mde a b c) := by
  unfold mdv mde
  simp only [G_ref01_MulDiv, s_ref01_MulDiv_1, s_ref01_MulDiv_4, s_ref01_MulDiv_6, s_ref01_MulDiv_9, s_ref01_MulDiv_11, s_ref01_MulDiv_15, s_ref01_MulDiv_17, s_ref01_MulDiv_18, s_ref01_MulDiv_21, s_ref01_MulDiv_23, s_ref01_MulDiv_26, s_ref01_MulDiv_28, s_ref01_MulDiv_30, s_ref01_MulDiv_31, s_ref01_MulDiv_34, s_ref01_MulDiv_36]
  by_cases a0 : a < 0
  · rw [ct a0, if_pos (.inl a0), if_pos (.inl a0)]
  rw [cf a0]
  by_cases b0 : b < 0
  · rw [ct b0, if_pos (.inr (.inl b0)), if_pos (.inr (.inl b0))]
  rw [cf b0]
  by_cases c0 : c ≤ 0
  · rw [ct c0, if_pos (.inr (.inr c0)), if_pos (.inr (.inr c0))]
  rw [cf c0, if_neg (by omega), if_neg (by omega)]
  have n0 : 0 ≤ b / c := Int.ediv_nonneg (by omega) (by omega)
  have n1 : b / c ≤ b := Int.ediv_le_self _ (by omega)
  rw [u64_id (n := b) (by omega) (by omega), u64_id (n := c) (by omega) (by omega), cf (by omega), cf (by omega), tdiv_pos (by omega), tmod_pos (by omega), u64_id n0 (by omega)]
  have z : a / 2 ^ 63 = 0 := Int.ediv_eq_zero_of_lt (by omega) (by have : (2 : Int) ^ 63 = 9223372036854775808 := by decide
                                                                   omega)
  exact rMul_loop cp n a b c (by omega) a1 (by omega) b1 (by omega) c1 _ _ (fun q => k q 0) rfl (fun q h0 h1 => by rw [w64_id (by omega) h1]) 63 n 0 0 (by omega) (by rw [z]; exact ⟨by simp, by omega, by omega, by omega, by omega⟩) (by omega)
end
end Go.Proofs.Ytgnoidblkenglaa.M
