/- What the program's sequence numbers and safe whole numbers, and the document's, answer, in plain numbers. -/
import Derived.Test.YtpebhhpmcjaioaaPAx2
import Derived.Test.YtpebhhpmcjaioaaPAx3
import Derived.Test.YtpebhhpmcjaioaaPAx4
import Derived.Test.YtpebhhpmcjaioaaPAx5
import Derived.Test.YtpebhhpmcjaioaaMath
import Derived.Test.YtpebhhpmcjaioaaDiv
set_option linter.unusedVariables false
set_option linter.unusedSimpArgs false
namespace Go.Proofs.Ytpebhhpmcjaioaa.Seq
open Go Go.RowKit Go.Proofs.Ytpebhhpmcjaioaa.PA Go.Proofs.YtpebhhpmcjaioaaW.PrintWords Go.Proofs.Ytpebhhpmcjaioaa.Math

theorem tmod_pos {a b : Int} (h : 0 ≤ a) : Int.tmod a b = a % b := Int.tmod_eq_emod_of_nonneg h
theorem tmod_neg {a b : Int} (h : a ≤ 0) : Int.tmod a b = -((-a) % b) := by
  obtain ⟨c, rfl⟩ : ∃ c, a = -c := ⟨-a, by omega⟩
  rw [Int.neg_tmod, tmod_pos (by omega), Int.neg_neg]

/-- How far a number is ahead. -/
def diff (a b : Int) : Int := (b - a + 2147483648) % 4294967296 - 2147483648

theorem Diff_eq (a b : Int) : seq_Diff.f a b = some (diff a b) := by
  unfold seq_Diff.f diff
  congr 1
  unfold wrap32 wrap64; omega
theorem Less_eq (a b : Int) : seq_Less.f a b = some (decide (diff a b > 0)) := by
  unfold seq_Less.f; rw [Diff_eq]; rfl
theorem Add_eq (a n : Int) : seq_Add.f a n = some ((a + n) % 4294967296) := by
  unfold seq_Add.f; congr 1; omega
theorem Within_eq (a b c : Int) : seq_Within.f a b c = some (decide ((a - b) % 4294967296 < c)) := rfl
theorem Sum_eq (a b : Int) (k : Nat) (hk : 1 ≤ k) (a0 : -9223372036854775808 ≤ a) (a1 : a ≤ 9223372036854775807) (b0 : -9223372036854775808 ≤ b) (b1 : b ≤ 9223372036854775807) : seq_Sum.f k a b = some (satw (a + b)) := by
  obtain ⟨k, rfl⟩ : ∃ m, k = m + 1 := ⟨k - 1, by omega⟩
  unfold seq_Sum.f
  simp only [seq_Sum.j0]
  have hw : wrap64 (a + b) = (a + b + 9223372036854775808) % 18446744073709551616 - 9223372036854775808 := by unfold wrap64; rfl
  have hs : satw (a + b) = max (-9223372036854775808) (min (a + b) 9223372036854775807) := rfl
  generalize wrap64 (a + b) = z at *
  generalize satw (a + b) = q at *
  repeat' split
  all_goals (try simp only [decide_eq_true_eq] at *)
  all_goals first | (congr 1; omega) | (exfalso; omega) | (exfalso; simp_all; done)
theorem Unwrap_eq (a s : Int) (k : Nat) (hk : 1 ≤ k) (a0 : -9223372036854775808 ≤ a) (a1 : a ≤ 9223372036854775807) : seq_Unwrap.f k a s = some (satw (a + diff (a % 4294967296) s)) := by
  unfold seq_Unwrap.f
  rw [Diff_eq, Option.bind_some, Sum_eq _ _ k hk a0 a1 (by unfold diff; omega) (by unfold diff; omega)]
  rfl
theorem Clamp_eq (x lo hi : Int) : seq_Clamp.f x lo hi = some (max lo (min x hi)) := by
  unfold seq_Clamp.f; rw [mx_max, mn_min]

/-! The document's own. -/
theorem rDiff_eq (a b : Int) (a0 : 0 ≤ a) (a1 : a ≤ 4294967295) (b0 : 0 ≤ b) (b1 : b ≤ 4294967295) : tidewayref01_Diff.f a b = some (diff a b) := by
  unfold tidewayref01_Diff.f diff
  rw [w64_id (n := b) (by omega) (by omega), w64_id (n := a) (by omega) (by omega), w64_id (n := b - a) (by omega) (by omega), w64_id (n := b - a + 4294967296) (by omega) (by omega), tmod_pos (by omega)]
  split
  · rw [w64_id (by omega) (by omega)]; congr 1; omega
  · congr 1; omega
theorem rLess_eq (a b : Int) (a0 : 0 ≤ a) (a1 : a ≤ 4294967295) (b0 : 0 ≤ b) (b1 : b ≤ 4294967295) : tidewayref01_Less.f a b = some (decide (diff a b > 0)) := by
  unfold tidewayref01_Less.f; rw [rDiff_eq a b a0 a1 b0 b1]; rfl
theorem rmod_eq (a : Int) : tidewayref01_mod.f a = some (a % 4294967296) := by
  unfold tidewayref01_mod.f
  rcases Int.le_total 0 a with h | h
  · rw [tmod_pos h, if_neg (by omega)]
  · rw [tmod_neg h]
    split
    · rw [w64_id (by omega) (by omega)]; congr 1; omega
    · congr 1; omega
theorem rAdd_eq (a n : Int) (a0 : 0 ≤ a) (a1 : a ≤ 4294967295) : tidewayref01_Add.f a n = some ((a + n) % 4294967296) := by
  unfold tidewayref01_Add.f
  rw [rmod_eq, Option.bind_some, rmod_eq, Option.bind_some, w64_id (n := a) (by omega) (by omega), w64_id (by omega) (by omega)]
  congr 1; omega
theorem rWithin_eq (a b c : Int) (a0 : 0 ≤ a) (a1 : a ≤ 4294967295) (b0 : 0 ≤ b) (b1 : b ≤ 4294967295) (c0 : 0 ≤ c) (c1 : c ≤ 4294967295) : tidewayref01_Within.f a b c = some (decide ((a - b) % 4294967296 < c)) := by
  unfold tidewayref01_Within.f
  rw [rmod_eq, Option.bind_some, w64_id (n := a) (by omega) (by omega), w64_id (n := b) (by omega) (by omega), w64_id (n := a - b) (by omega) (by omega), w64_id (n := c) (by omega) (by omega)]
theorem rSum_eq (a b : Int) (k : Nat) (hk : 1 ≤ k) (a0 : -9223372036854775808 ≤ a) (a1 : a ≤ 9223372036854775807) (b0 : -9223372036854775808 ≤ b) (b1 : b ≤ 9223372036854775807) : tidewayref01_Sum.f k a b = some (satw (a + b)) := by
  obtain ⟨k, rfl⟩ : ∃ m, k = m + 1 := ⟨k - 1, by omega⟩
  unfold tidewayref01_Sum.f
  simp only [tidewayref01_Sum.j0]
  have hs : satw (a + b) = max (-9223372036854775808) (min (a + b) 9223372036854775807) := rfl
  have h1 : wrap64 (a + b) = (a + b + 9223372036854775808) % 18446744073709551616 - 9223372036854775808 := by unfold wrap64; rfl
  generalize wrap64 (a + b) = z at *
  generalize satw (a + b) = q at *
  by_cases c : b > 0
  · rw [if_pos c, w64_id (n := 9223372036854775807 - b) (by omega) (by omega)]
    by_cases c2 : a > 9223372036854775807 - b
    · rw [decide_eq_true c2, if_pos rfl]; congr 1; omega
    · rw [decide_eq_false c2, if_neg (by simp), if_neg (by omega)]; congr 1; omega
  · rw [if_neg c, if_neg (by simp)]
    by_cases c2 : b < 0
    · rw [if_pos c2, w64_id (n := -9223372036854775808 - b) (by omega) (by omega)]
      split <;> (congr 1; omega)
    · rw [if_neg c2]; congr 1; omega
theorem rUnwrap_eq (a s : Int) (k : Nat) (hk : 1 ≤ k) (a0 : -9223372036854775808 ≤ a) (a1 : a ≤ 9223372036854775807) (s0 : 0 ≤ s) (s1 : s ≤ 4294967295) : tidewayref01_Unwrap.f k a s = some (satw (a + diff (a % 4294967296) s)) := by
  unfold tidewayref01_Unwrap.f
  rw [rmod_eq, Option.bind_some, show a % 4294967296 % 4294967296 = a % 4294967296 by omega, rDiff_eq _ _ (by omega) (by omega) s0 s1, Option.bind_some, rSum_eq _ _ k hk a0 a1 (by unfold diff; omega) (by unfold diff; omega)]
  rfl
theorem rClamp_eq (x lo hi : Int) : tidewayref01_Clamp.f x lo hi = some (max lo (min x hi)) := by
  unfold tidewayref01_Clamp.f
  repeat' split
  all_goals (congr 1; omega)

/-! The document's product by a number: bit by bit. -/
theorem bit_step (a : Int) (i : Nat) (h0 : 0 ≤ a) : a / 2 ^ i = 2 * (a / 2 ^ (i + 1)) + a / 2 ^ i % 2 := by
  have : a / 2 ^ (i + 1) = a / 2 ^ i / 2 := by
    rw [Int.pow_succ, ← Int.ediv_ediv_of_nonneg (Int.le_of_lt (Int.pow_pos (by decide)))]
  omega
theorem and_one {x : Int} (h0 : 0 ≤ x) (h1 : x < 9223372036854775808) : Go.bits .and .i64 x 1 = x % 2 := by
  have := bits_mask .i64 63 (by decide) (fun n a b => by rw [IntKind.wrap_i64]; omega) 1 (by decide) x h0 (by simpa using h1)
  simpa using this

/-- The head of a round: what of a has been read, times b, by c. -/
structure At (b c A q r : Int) : Prop where
  eq : A * b = q * c + r
  r0 : 0 ≤ r
  r1 : r < c
  q0 : 0 ≤ q
  q1 : q ≤ 9223372036854775807

theorem At.quot {b c A q r : Int} (h : At b c A q r) (hc : 0 < c) : A * b / c = q := (quot_unique hc h.eq h.r0 h.r1).1

theorem too_much {a b c A q r : Int} {i : Nat} (hc : 0 < c) (hb : 0 ≤ b) (ha : 0 ≤ a) (hA : A = a / 2 ^ i) (he : A * b = q * c + r) (hr : 0 ≤ r) (hq : 9223372036854775807 < q) : min (a * b / c) 9223372036854775807 = 9223372036854775807 := by
  have hp : 0 < (2 : Int) ^ i := Int.pow_pos (by decide)
  have h1 : A ≤ a := by rw [hA]; exact Int.ediv_le_self _ ha
  have h2 : A * b ≤ a * b := Int.mul_le_mul_of_nonneg_right h1 hb
  have h3 : q ≤ a * b / c := le_quot hc (by omega)
  omega

theorem rMul_loop (a b c : Int) (a0 : 0 ≤ a) (a1 : a ≤ 9223372036854775807) (b0 : 0 ≤ b) (b1 : b ≤ 9223372036854775807) (c0 : 0 < c) (c1 : c ≤ 9223372036854775807) :
    ∀ (d k : Nat) (q r : Int), d ≤ 63 → At b c (a / 2 ^ d) q r → 4 * d + 1 ≤ k →
    tidewayref01_MulDiv.l0 k a c q r false (b / c) (b % c) ((d : Int) - 1) = some (min (a * b / c) 9223372036854775807, 0) := by
  have bc : b = b / c * c + b % c := by
    have := Int.emod_add_mul_ediv b c; have e := Int.mul_comm c (b / c); omega
  have m0 := Int.emod_nonneg b (show c ≠ 0 by omega)
  have m1 := Int.emod_lt_of_pos b c0
  have n0 : 0 ≤ b / c := Int.ediv_nonneg b0 (by omega)
  have n1 : b / c ≤ b := Int.ediv_le_self _ b0
  generalize hbq : b / c = bq at *
  generalize hbr : b % c = br at *
  intro d
  induction d with
  | zero =>
    intro k q r _ h hk
    obtain ⟨k, rfl⟩ : ∃ m, k = m + 1 := ⟨k - 1, by omega⟩
    simp only [tidewayref01_MulDiv.l0]
    have hA := h.quot c0
    simp only [Int.pow_zero, Int.ediv_one] at hA
    rw [if_neg (by omega), hA, w64_id (by have := h.q0; omega) h.q1]
    have := h.q1; congr 2; omega
  | succ d ih =>
    intro k q r hd h hk
    obtain ⟨k, rfl⟩ : ∃ m, k = m + 4 := ⟨k - 4, by omega⟩
    have hq0 := h.q0; have hq1 := h.q1; have hr0 := h.r0; have hr1 := h.r1
    have hw : wrap64 (((d + 1 : Nat) : Int) - 1 - 1) = (d : Int) - 1 := by rw [w64_id (by omega) (by omega)]; omega
    have hx : ((d + 1 : Nat) : Int) - 1 = d := by omega
    simp only [tidewayref01_MulDiv.l0]
    rw [hx] at hw ⊢
    rw [if_pos (by omega), if_neg (by simp)]
    have hcu : IntKind.u64.wrap c = c := u64_id (by omega) (by omega)
    have hdu : IntKind.u64.wrap (d : Int) = d := u64_id (by omega) (by omega)
    have h2r : IntKind.u64.wrap (2 * r) = 2 * r := u64_id (by omega) (by omega)
    have h2q : IntKind.u64.wrap (2 * q) = 2 * q := u64_id (by omega) (by omega)
    have h2q1 : IntKind.u64.wrap (2 * q + 1) = 2 * q + 1 := u64_id (by omega) (by omega)
    -- twice
    obtain ⟨q2, r2, e2, s2, s3, s4, s5⟩ : ∃ q2 r2, tidewayref01_MulDiv.j2 (k + 3) a c q r (decide (q ≥ 4611686018427387904)) bq br d = tidewayref01_MulDiv.j3 (k + 2) a c q2 r2 (decide (q ≥ 4611686018427387904)) bq br d ∧ 2 * q * c + 2 * r = q2 * c + r2 ∧ 0 ≤ r2 ∧ r2 < c ∧ (q2 = 2 * q ∨ q2 = 2 * q + 1) := by
      simp only [tidewayref01_MulDiv.j2]
      rw [h2r, hcu, h2q, h2q1]
      by_cases hc : 2 * r ≥ c
      · rw [if_pos hc, u64_id (n := 2 * r - c) (by omega) (by omega)]
        exact ⟨_, _, rfl, by rw [Int.add_mul]; omega, by omega, by omega, .inr rfl⟩
      · rw [if_neg hc]
        exact ⟨_, _, rfl, rfl, by omega, by omega, .inl rfl⟩
    rw [e2]
    have hA := bit_step a d a0
    have dbl : 2 * (a / 2 ^ (d + 1)) * b = q2 * c + r2 := by
      rw [Int.mul_assoc, h.eq, ← s2, Int.mul_add, Int.mul_assoc]
    have hsh : shr .i64 a (d : Int) = a / 2 ^ d := by
      unfold shr; rw [show min (d : Int).toNat IntKind.i64.bits = d by simp [IntKind.bits]; omega]
    have hp : 0 < (2 : Int) ^ d := Int.pow_pos (by decide)
    have x0 : 0 ≤ a / 2 ^ d := Int.ediv_nonneg a0 (by omega)
    have x1 : a / 2 ^ d ≤ a := Int.ediv_le_self _ a0
    simp only [tidewayref01_MulDiv.j3]
    rw [hdu, if_pos (by omega), hsh, and_one x0 (by omega)]
    by_cases hbit : a / 2 ^ d % 2 = 1
    · rw [if_pos hbit]
      have full : a / 2 ^ d * b = (q2 + bq) * c + (r2 + br) := by
        rw [hA, hbit, Int.add_mul, dbl, Int.one_mul, Int.add_mul]; omega
      rw [u64_id (n := 9223372036854775807 - bq) (by omega) (by omega)]
      have j4 : tidewayref01_MulDiv.j4 (k + 1) a c q2 r2 (decide (q ≥ 4611686018427387904 ∨ q2 > 9223372036854775807 - bq)) bq br d = some (min (a * b / c) 9223372036854775807, 0) := by
        simp only [tidewayref01_MulDiv.j4]
        rw [hcu, u64_id (n := r2 + br) (by omega) (by omega)]
        by_cases over : q ≥ 4611686018427387904 ∨ q2 > 9223372036854775807 - bq
        · have tm := too_much (q := q2 + bq) (r := r2 + br) (i := d) c0 b0 a0 rfl full (by omega) (by omega)
          rw [decide_eq_true over, if_pos rfl, if_pos rfl, ite_self, tm]
        · rw [decide_eq_false over]
          simp only [Bool.false_eq_true, if_false]
          rw [u64_id (n := q2 + bq) (by omega) (by omega), u64_id (n := q2 + bq + 1) (by omega) (by omega)]
          by_cases hc : r2 + br ≥ c
          · rw [if_pos hc]
            have full2 : a / 2 ^ d * b = (q2 + bq + 1) * c + (r2 + br - c) := by rw [full, Int.add_mul _ 1]; omega
            by_cases big : q2 + bq + 1 > 9223372036854775807
            · rw [if_pos big, too_much (i := d) c0 b0 a0 rfl full2 (by omega) (by omega)]
            · rw [if_neg big, u64_id (n := r2 + br - c) (by omega) (by omega), hw]
              exact ih k _ _ (by omega) ⟨full2, by omega, by omega, by omega, by omega⟩ (by omega)
          · rw [if_neg hc]
            by_cases big : q2 + bq > 9223372036854775807
            · rw [if_pos big, too_much (i := d) c0 b0 a0 rfl full (by omega) (by omega)]
            · rw [if_neg big, hw]
              exact ih k _ _ (by omega) ⟨full, by omega, by omega, by omega, by omega⟩ (by omega)
      by_cases o1 : q ≥ 4611686018427387904
      · rw [if_pos (by simpa using o1)]
        rw [decide_eq_true (Or.inl o1)] at j4; exact j4
      · rw [if_neg (by simpa using o1)]
        rw [← j4]; congr 1
        by_cases o2 : q2 > 9223372036854775807 - bq
        · rw [decide_eq_true o2, decide_eq_true (Or.inr o2)]
        · rw [decide_eq_false o2, decide_eq_false (by omega)]
    · rw [if_neg hbit]
      have full : a / 2 ^ d * b = q2 * c + r2 := by
        rw [hA, show a / 2 ^ d % 2 = 0 by omega, Int.add_zero]; exact dbl
      by_cases o1 : q ≥ 4611686018427387904
      · rw [if_pos (by simpa using o1), too_much (i := d) c0 b0 a0 rfl full (by omega) (by omega)]
      · rw [if_neg (by simpa using o1), if_neg (by omega), hw, decide_eq_false o1]
        exact ih (k + 1) _ _ (by omega) ⟨full, by omega, by omega, by omega, by omega⟩ (by omega)

theorem rMulDiv_eq (a b c : Int) (k : Nat) (hk : 300 ≤ k) (a0 : 0 ≤ a) (a1 : a ≤ 9223372036854775807) (b0 : 0 ≤ b) (b1 : b ≤ 9223372036854775807) (c0 : 0 < c) (c1 : c ≤ 9223372036854775807) :
    tidewayref01_MulDiv.f k a b c = some (min (a * b / c) 9223372036854775807, 0) := by
  obtain ⟨k, rfl⟩ : ∃ m, k = m + 1 := ⟨k - 1, by omega⟩
  unfold tidewayref01_MulDiv.f
  rw [if_neg (by omega), if_neg (by omega), decide_eq_false (by omega)]
  simp only [tidewayref01_MulDiv.j0]
  have n0 : 0 ≤ b / c := Int.ediv_nonneg b0 (by omega)
  have n1 : b / c ≤ b := Int.ediv_le_self _ b0
  rw [if_neg (by simp), u64_id (n := c) (by omega) (by omega), if_neg (by omega), u64_id (n := b) b0 (by omega), Int.tdiv_eq_ediv_of_nonneg b0, tmod_pos b0, u64_id n0 (by omega)]
  have z : a / 2 ^ 63 = 0 := Int.ediv_eq_zero_of_lt a0 (by have : (2 : Int) ^ 63 = 9223372036854775808 := by decide
                                                           omega)
  have := rMul_loop a b c a0 a1 b0 b1 c0 c1 63 k 0 0 (by omega) (by rw [z]; exact ⟨by simp, by omega, by omega, by omega, by omega⟩) (by omega)
  exact this
theorem rMulDiv_bad (a b c : Int) (k : Nat) (hk : 1 ≤ k) (h : a < 0 ∨ b < 0 ∨ c ≤ 0) : tidewayref01_MulDiv.f k a b c = some (0, 2) := by
  obtain ⟨k, rfl⟩ : ∃ m, k = m + 1 := ⟨k - 1, by omega⟩
  unfold tidewayref01_MulDiv.f
  by_cases h1 : a < 0
  · rw [if_pos h1]; simp [tidewayref01_MulDiv.j0]
  · by_cases h2 : b < 0
    · rw [if_neg h1, if_pos h2]; simp [tidewayref01_MulDiv.j0]
    · rw [if_neg h1, if_neg h2, decide_eq_true (by omega)]; simp [tidewayref01_MulDiv.j0]

/-! Cube roots. -/
structure IsCbrt (n r : Int) : Prop where
  r0 : 0 ≤ r
  r1 : r ≤ 2097151
  le : r = 0 ∨ r * r * r ≤ n
  lt : r = 2097151 ∨ n < (r + 1) * (r + 1) * (r + 1)

theorem cube_le {a b : Int} (h0 : 0 ≤ a) (h : a ≤ b) : a * a * a ≤ b * b * b := mul_le (Int.mul_nonneg h0 h0) (mul_le h0 h h0 h) h0 h
theorem cube_max {a : Int} (h0 : 0 ≤ a) (h : a ≤ 2097151) : 0 ≤ a * a ∧ a * a ≤ 4398042316801 ∧ 0 ≤ a * a * a ∧ a * a * a ≤ 9223358842721533951 := by
  have h1 := mul_le h0 h h0 h
  have h2 := cube_le h0 h
  exact ⟨Int.mul_nonneg h0 h0, by omega, Int.mul_nonneg (Int.mul_nonneg h0 h0) h0, by omega⟩
theorem IsCbrt.unique {n r s : Int} (h : IsCbrt n r) (g : IsCbrt n s) : r = s := by
  rcases Int.lt_trichotomy r s with hl | he | hl
  · have := cube_le (show 0 ≤ r + 1 by have := h.r0; omega) (show r + 1 ≤ s by omega)
    have := h.lt; have := g.le; have := g.r1; have := h.r0; omega
  · exact he
  · have := cube_le (show 0 ≤ s + 1 by have := g.r0; omega) (show s + 1 ≤ r by omega)
    have := g.lt; have := h.le; have := h.r1; have := g.r0; omega

theorem Cbrt_loop (n : Int) : ∀ (d k : Nat) (x : Int), d ≤ 21 → 0 ≤ x → x + 2 ^ d ≤ 2097152 → x % 2 ^ d = 0 → (x = 0 ∨ x * x * x ≤ n) → (x + 2 ^ d = 2097152 ∨ n < (x + 2 ^ d) * (x + 2 ^ d) * (x + 2 ^ d)) → d + 1 ≤ k →
    ∃ r, seq_Cbrt.l0 k n x (21 - d) = some r ∧ IsCbrt n r := by
  intro d
  induction d with
  | zero =>
    intro k x _ h0 h1 _ hle hlt hk
    obtain ⟨k, rfl⟩ : ∃ m, k = m + 1 := ⟨k - 1, by omega⟩
    refine ⟨x, ?_, h0, by simpa using (show x ≤ 2097151 by simp at h1; omega), hle, ?_⟩
    · simp only [seq_Cbrt.l0]; rw [if_neg (by omega)]
    · simp at hlt; rcases hlt with hlt | hlt
      · exact .inl (by omega)
      · exact .inr hlt
  | succ d ih =>
    intro k x hd h0 h1 hm hle hlt hk
    obtain ⟨k, rfl⟩ : ∃ m, k = m + 1 := ⟨k - 1, by omega⟩
    have hp : 0 < (2 : Int) ^ d := Int.pow_pos (by decide)
    have e2 : (2 : Int) ^ (d + 1) = 2 * 2 ^ d := by rw [Int.pow_succ]; omega
    have hsh : shl .i64 1 (wrap64 (20 - (21 - ((d + 1 : Nat) : Int)))) = 2 ^ d := by
      rw [w64_id (by omega) (by omega), show 20 - (21 - ((d + 1 : Nat) : Int)) = d by omega]
      unfold shl
      rw [show min (d : Int).toNat IntKind.i64.bits = d by simp [IntKind.bits]; omega, Int.one_mul, IntKind.wrap_i64]
      have : (2 : Int) ^ d ≤ 1048576 := by omega
      omega
    have hor : Go.bits .or .i64 x (2 ^ d) = x + 2 ^ d := by
      refine bits_join .i64 63 (by decide) (fun n a b => by rw [IntKind.wrap_i64]; omega) (d + 1) x _ h0 hm ?_ (by omega) (by omega) ?_
      · have : (2 : Int) ^ 63 = 9223372036854775808 := by decide
        omega
      · have : (2 : Int) ^ 63 = 9223372036854775808 := by decide
        omega
    obtain ⟨c1, c2, c3, c4⟩ := cube_max (a := x + 2 ^ d) (by omega) (by omega)
    simp only [seq_Cbrt.l0]
    rw [if_pos (by omega), hsh, hor, w64_id (n := (x + 2 ^ d) * (x + 2 ^ d)) (by omega) (by omega), w64_id (n := (x + 2 ^ d) * (x + 2 ^ d) * (x + 2 ^ d)) (by omega) (by omega), w64_id (n := 20 - (21 - ((d + 1 : Nat) : Int))) (by omega) (by omega), if_pos (by omega), w64_id (n := 21 - ((d + 1 : Nat) : Int) + 1) (by omega) (by omega), show 21 - ((d + 1 : Nat) : Int) + 1 = 21 - (d : Int) by omega]
    have hm' : x % 2 ^ d = 0 := by
      have hdv : (2 : Int) ^ d ∣ x := Int.dvd_trans ⟨2, by rw [e2]; omega⟩ (Int.dvd_of_emod_eq_zero hm)
      exact Int.emod_eq_zero_of_dvd hdv
    by_cases c : (x + 2 ^ d) * (x + 2 ^ d) * (x + 2 ^ d) ≤ n
    · rw [if_pos c]
      refine ih k _ (by omega) (by omega) (by omega) ?_ (.inr c) ?_ (by omega)
      · rw [Int.add_emod_right]; exact hm'
      · rw [e2] at hlt
        rw [show x + 2 ^ d + 2 ^ d = x + 2 * 2 ^ d by omega]; exact hlt
    · rw [if_neg c]
      exact ih k _ (by omega) h0 (by omega) hm' hle (.inr (by omega)) (by omega)
theorem Cbrt_eq (n : Int) (k : Nat) (hk : 22 ≤ k) (n1 : n ≤ 9223372036854775807) : ∃ r, seq_Cbrt.f k n = some r ∧ IsCbrt n r := by
  unfold seq_Cbrt.f
  have := Cbrt_loop n 21 k 0 (by omega) (by omega) (by decide) (by decide) (.inl rfl) (.inl (by decide)) (by omega)
  exact this
theorem rCbrt_loop (n : Int) : ∀ (d k : Nat) (lo hi : Int), 0 ≤ lo → lo ≤ hi → hi ≤ 2097151 → hi - lo < 2 ^ d → (lo = 0 ∨ lo * lo * lo ≤ n) → (hi = 2097151 ∨ n < (hi + 1) * (hi + 1) * (hi + 1)) → d + 1 ≤ k →
    ∃ r, tidewayref01_Cbrt.l0 k n lo hi = some r ∧ IsCbrt n r := by
  intro d
  induction d with
  | zero =>
    intro k lo hi h0 h1 h2 h3 hle hlt hk
    obtain ⟨k, rfl⟩ : ∃ m, k = m + 1 := ⟨k - 1, by omega⟩
    obtain rfl : lo = hi := by simp at h3; omega
    exact ⟨lo, by simp only [tidewayref01_Cbrt.l0]; rw [if_neg (by omega)], h0, h2, hle, hlt⟩
  | succ d ih =>
    intro k lo hi h0 h1 h2 h3 hle hlt hk
    obtain ⟨k, rfl⟩ : ∃ m, k = m + 1 := ⟨k - 1, by omega⟩
    have e2 : (2 : Int) ^ (d + 1) = 2 * 2 ^ d := by rw [Int.pow_succ]; omega
    simp only [tidewayref01_Cbrt.l0]
    by_cases c : lo < hi
    · rw [if_pos c, w64_id (n := lo + hi) (by omega) (by omega), w64_id (n := lo + hi + 1) (by omega) (by omega), Int.tdiv_eq_ediv_of_nonneg (show 0 ≤ lo + hi + 1 by omega), w64_id (n := (lo + hi + 1) / 2) (by omega) (by omega)]
      obtain ⟨c1, c2, c3, c4⟩ := cube_max (a := (lo + hi + 1) / 2) (by omega) (by omega)
      rw [w64_id (n := (lo + hi + 1) / 2 * ((lo + hi + 1) / 2)) (by omega) (by omega), w64_id (n := (lo + hi + 1) / 2 * ((lo + hi + 1) / 2) * ((lo + hi + 1) / 2)) (by omega) (by omega), w64_id (n := (lo + hi + 1) / 2 - 1) (by omega) (by omega)]
      generalize hmid : (lo + hi + 1) / 2 = mid at *
      by_cases c5 : mid * mid * mid ≤ n
      · rw [if_pos c5]
        exact ih k _ _ (by omega) (by omega) h2 (by omega) (.inr c5) hlt (by omega)
      · rw [if_neg c5]
        refine ih k _ _ h0 (by omega) (by omega) (by omega) hle (.inr ?_) (by omega)
        rw [show mid - 1 + 1 = mid by omega]; omega
    · rw [if_neg c]
      obtain rfl : lo = hi := by omega
      exact ⟨lo, rfl, h0, h2, hle, hlt⟩
theorem rCbrt_eq (n : Int) (k : Nat) (hk : 22 ≤ k) : ∃ r, tidewayref01_Cbrt.f k n = some r ∧ IsCbrt n r := by
  unfold tidewayref01_Cbrt.f
  exact rCbrt_loop n 21 k 0 2097151 (by omega) (by omega) (by omega) (by decide) (.inl rfl) (.inl rfl) (by omega)
end Go.Proofs.Ytpebhhpmcjaioaa.Seq
