/- What Go's math/bits.Mul64 and Div64 and the program's MulDiv answer, in plain numbers. -/
import Derived.Test.YtgnoidblkenglaaSTMath
set_option linter.unusedVariables false
set_option linter.unusedSimpArgs false
namespace Go.Proofs.Ytgnoidblkenglaa.M
open Go Go.RowKit
section
variable {R : Type} (cp : Nat → Nat → Bool) (n : Nat)
theorem Mul64_k (x y : Int) (k : Int → Int → Option R) (hx0 : 0 ≤ x) (hx1 : x < 18446744073709551616) (hy0 : 0 ≤ y) (hy1 : y < 18446744073709551616) :
    G_math_bits_Mul64 cp (n + 1) x y k = k (x * y / 18446744073709551616) (x * y % 18446744073709551616) := by
  have h := mul_hi x y hx0 hx1 hy0 hy1
  simp only at h
  obtain ⟨h1, h2, h3, h4, h5, h6, h7, h8, h9, h10, h11, h12, h13, h14⟩ := h
  simp only [G_math_bits_Mul64, shr32]
  rw [and_mask hx0 hx1, and_mask hy0 hy1, u64_id h5 h2, u64_id h12 h13, u64_id h6 h3, and_mask h6 h3, u64_id h10 h11, u64_id h7 h4, u64_id h8 h14]
  rw [wu64 (x * y)]
  rw [u64_id (n := x / 4294967296 * (y / 4294967296) + _) (by omega) (by omega), u64_id (by omega) h9, h1]

/-! ### how many bits a number has -/
set_option maxRecDepth 100000 in
theorem tab_all : ∀ j : _root_.Fin 256, 0 < j.val → (1 ≤ (tab256_2793.data.getD j.val 0).toNat ∧ (tab256_2793.data.getD j.val 0).toNat ≤ 8 ∧ 2 ^ ((tab256_2793.data.getD j.val 0).toNat - 1) ≤ j.val ∧ j.val < 2 * 2 ^ ((tab256_2793.data.getD j.val 0).toNat - 1)) := by decide +kernel
theorem tab_at {i : Int} (h0 : 0 < i) (h1 : i < 256) : ∃ t : Int, ((tab256_2793.data.getD i.toNat 0).toNat : Int) = t ∧ 1 ≤ t ∧ t ≤ 8 ∧ (2 : Int) ^ (t.toNat - 1) ≤ i ∧ i < 2 * (2 : Int) ^ (t.toNat - 1) := by
  obtain ⟨m, rfl⟩ := Int.eq_ofNat_of_zero_le (Int.le_of_lt h0)
  obtain ⟨a, b, c, d⟩ := tab_all ⟨m, by omega⟩ (show 0 < m by omega)
  simp only at a b c d
  simp only [Int.toNat_natCast]
  generalize (tab256_2793.data.getD m 0).toNat = u at *
  refine ⟨(u : Int), rfl, by omega, by omega, ?_⟩
  rw [Int.toNat_natCast]
  have e : ((2 ^ (u - 1) : Nat) : Int) = (2 : Int) ^ (u - 1) := by simp
  rw [← e]; omega
theorem tab_sz : (ByteArray.size tab256_2793 : Int) = 256 := by kernel_rfl
theorem pow_up {t : Int} (e : Nat) (h : 1 ≤ t) : (2 : Int) ^ ((t + e).toNat - 1) = 2 ^ (t.toNat - 1) * 2 ^ e := by
  rw [show (t + (e : Int)).toNat - 1 = (t.toNat - 1) + e by omega, Int.pow_add]
theorem u8_id {x : Int} (h0 : 0 ≤ x) (h1 : x < 256) : wr .u8 x = x := by
  show IntKind.u8.wrap x = x; simp [IntKind.wrap, IntKind.bits, IntKind.signed]; omega
/-- How many bits a number has. -/
def IsLen (y t : Int) : Prop := 1 ≤ t ∧ t ≤ 64 ∧ (2 : Int) ^ (t.toNat - 1) ≤ y ∧ y < 2 * (2 : Int) ^ (t.toNat - 1)
theorem isLen_up {i y t : Int} (e : Nat) (he : e ≤ 56) (h : 1 ≤ t ∧ t ≤ 8 ∧ (2 : Int) ^ (t.toNat - 1) ≤ i ∧ i < 2 * (2 : Int) ^ (t.toNat - 1)) (hi : i * 2 ^ e ≤ y) (hy : y < (i + 1) * 2 ^ e) : IsLen y (t + e) := by
  obtain ⟨t0, t1, t2, t3⟩ := h
  refine ⟨by omega, by omega, ?_, ?_⟩ <;> rw [pow_up e t0]
  · have := Int.mul_le_mul_of_nonneg_right t2 (Int.le_of_lt (show (0 : Int) < 2 ^ e from Int.pow_pos (by decide))); omega
  · have := Int.mul_le_mul_of_nonneg_right (show i + 1 ≤ 2 * (2 : Int) ^ (t.toNat - 1) by omega) (Int.le_of_lt (show (0 : Int) < 2 ^ e from Int.pow_pos (by decide)))
    rw [Int.mul_assoc] at this; omega
theorem Len64_k (y : Int) (h0 : 0 < y) (h1 : y < 18446744073709551616) : ∃ t, IsLen y t ∧ ∀ k : Int → Option R, G_math_bits_Len64 cp (n + 1) y k = k t := by
  simp only [G_math_bits_Len64, shr32, shr16, shr8, tab_sz, cite]
  have fin : ∀ (a b i : Int), a = b → 0 < i → i < 256 → ∀ e : Nat, e ≤ 56 → wr .i64 a = (e : Int) → i * 2 ^ e ≤ y → y < (i + 1) * 2 ^ e → ∃ t, IsLen y t ∧ wr .i64 (wr .i64 b + wr .i64 ((tab256_2793.data.getD (wr .u8 i).toNat 0).toNat : Int)) = t := by
    rintro a b i rfl i0 i1 e he ea hi hy
    obtain ⟨t, ht, hh⟩ := tab_at i0 i1
    refine ⟨t + e, isLen_up e he hh hi hy, ?_⟩
    rw [u8_id (by omega) i1, ht, ea, w64_id (n := t) (by omega) (by omega), w64_id (by omega) (by omega)]; omega
  have u8 : ∀ i : Int, 0 < i → i < 256 → 0 ≤ wr .u8 i ∧ wr .u8 i < 256 := fun i i0 i1 => by rw [u8_id (by omega) i1]; omega
  by_cases c : 4294967296 ≤ y
  · simp only [if_pos c]
    by_cases c2 : 65536 ≤ y / 4294967296
    · simp only [if_pos c2]
      by_cases c3 : 256 ≤ y / 4294967296 / 65536
      · obtain ⟨t, ht, e⟩ := fin (wr .i64 (32 + 16) + 8) _ (y / 4294967296 / 65536 / 256) rfl (by omega) (by omega) 56 (by omega) (by simp only [wi64]; omega) (by omega) (by omega)
        obtain ⟨a, b⟩ := u8 (y / 4294967296 / 65536 / 256) (by omega) (by omega)
        exact ⟨t, ht, fun k => by rw [if_pos c3, if_pos a, if_pos b, e]⟩
      · obtain ⟨t, ht, e⟩ := fin (32 + 16) _ (y / 4294967296 / 65536) rfl (by omega) (by omega) 48 (by omega) (by simp only [wi64]; omega) (by omega) (by omega)
        obtain ⟨a, b⟩ := u8 (y / 4294967296 / 65536) (by omega) (by omega)
        exact ⟨t, ht, fun k => by rw [if_neg c3, if_pos a, if_pos b, e]⟩
    · simp only [if_neg c2]
      by_cases c3 : 256 ≤ y / 4294967296
      · obtain ⟨t, ht, e⟩ := fin (32 + 8) _ (y / 4294967296 / 256) rfl (by omega) (by omega) 40 (by omega) (by simp only [wi64]; omega) (by omega) (by omega)
        obtain ⟨a, b⟩ := u8 (y / 4294967296 / 256) (by omega) (by omega)
        exact ⟨t, ht, fun k => by rw [if_pos c3, if_pos a, if_pos b, e]⟩
      · obtain ⟨t, ht, e⟩ := fin 32 _ (y / 4294967296) rfl (by omega) (by omega) 32 (by omega) (by simp only [wi64]; omega) (by omega) (by omega)
        obtain ⟨a, b⟩ := u8 (y / 4294967296) (by omega) (by omega)
        exact ⟨t, ht, fun k => by rw [if_neg c3, if_pos a, if_pos b, show (32 : Int) = wr .i64 32 by rw [wi64]; omega, e]⟩
  · simp only [if_neg c]
    by_cases c2 : 65536 ≤ y
    · simp only [if_pos c2]
      by_cases c3 : 256 ≤ y / 65536
      · obtain ⟨t, ht, e⟩ := fin (wr .i64 (0 + 16) + 8) _ (y / 65536 / 256) rfl (by omega) (by omega) 24 (by omega) (by simp only [wi64]; omega) (by omega) (by omega)
        obtain ⟨a, b⟩ := u8 (y / 65536 / 256) (by omega) (by omega)
        exact ⟨t, ht, fun k => by rw [if_pos c3, if_pos a, if_pos b, e]⟩
      · obtain ⟨t, ht, e⟩ := fin (0 + 16) _ (y / 65536) rfl (by omega) (by omega) 16 (by omega) (by simp only [wi64]; omega) (by omega) (by omega)
        obtain ⟨a, b⟩ := u8 (y / 65536) (by omega) (by omega)
        exact ⟨t, ht, fun k => by rw [if_neg c3, if_pos a, if_pos b, e]⟩
    · simp only [if_neg c2]
      by_cases c3 : 256 ≤ y
      · obtain ⟨t, ht, e⟩ := fin (0 + 8) _ (y / 256) rfl (by omega) (by omega) 8 (by omega) (by simp only [wi64]; omega) (by omega) (by omega)
        obtain ⟨a, b⟩ := u8 (y / 256) (by omega) (by omega)
        exact ⟨t, ht, fun k => by rw [if_pos c3, if_pos a, if_pos b, e]⟩
      · obtain ⟨t, ht, e⟩ := fin 0 _ y rfl (by omega) (by omega) 0 (by omega) (by simp only [wi64]; omega) (by omega) (by omega)
        obtain ⟨a, b⟩ := u8 y (by omega) (by omega)
        exact ⟨t, ht, fun k => by rw [if_neg c3, if_pos a, if_pos b, show (0 : Int) = wr .i64 0 by rw [wi64]; omega, e]⟩
theorem Lead_k (y : Int) (h0 : 0 < y) (h1 : y < 18446744073709551616) :
    ∃ s, (0 ≤ s ∧ s ≤ 63 ∧ 9223372036854775808 ≤ y * 2 ^ s.toNat ∧ y * 2 ^ s.toNat < 18446744073709551616) ∧ ∀ k : Int → Option R, G_math_bits_LeadingZeros64 cp (n + 2) y k = k s := by
  obtain ⟨t, ⟨t0, t1, t2, t3⟩, e⟩ := Len64_k (R := R) cp n y h0 h1
  refine ⟨64 - t, ⟨by omega, by omega, ?_⟩, fun k => ?_⟩
  · have hp : (2 : Int) ^ (t.toNat - 1) * 2 ^ (64 - t).toNat = 9223372036854775808 := by
      rw [← Int.pow_add, show t.toNat - 1 + (64 - t).toNat = 63 by omega]; rfl
    have hpos : 0 < (2 : Int) ^ (64 - t).toNat := Int.pow_pos (by decide)
    constructor
    · have := Int.mul_le_mul_of_nonneg_right t2 (Int.le_of_lt hpos); omega
    · have := Int.mul_lt_mul_of_pos_right t3 hpos
      rw [Int.mul_assoc, hp] at this; omega
  · simp only [G_math_bits_LeadingZeros64]
    rw [e, w64_id (by omega) (by omega)]

/-! ### the long division -/
theorem stage_l1 (Y s yh yl u v w : Int) (ke : Int → Option R) : ∀ (d k : Nat) (q r : Int), Dig Y yh yl u v q r → 4294967296 ≤ r + d * 2147483648 → d ≤ k →
    l_math_bits_Div64_9 cp n k Y s yh yl u v w q r ke = ke ((u * 4294967296 + v) / Y) := by
  intro d
  induction d with
  | zero => intro k q r h hr hk; have := h.r1; omega
  | succ d ih =>
    intro k q r h hr hk
    obtain ⟨k, rfl⟩ : ∃ m, k = m + 1 := ⟨k - 1, by omega⟩
    have hq0 := h.q0
    have hrw : wr .u64 (r + yh) = r + yh := u64_id (by have := h.r0; have := h.yh0; omega) (by have := h.r1; have := h.yh1; omega)
    have key : ∀ (P : Prop) [Decidable P] (kn ko : Option R), (4294967296 ≤ q ∨ 4294967296 * r + v < q * yl) → (4294967296 ≤ r + yh → ko = ke ((u * 4294967296 + v) / Y)) → (¬ 4294967296 ≤ r + yh → kn = ke ((u * 4294967296 + v) / Y)) → cond (decide (4294967296 ≤ r + yh)) ko kn = ke ((u * 4294967296 + v) / Y) := by
      intro P _ kn ko _ h1 h2
      by_cases c : 4294967296 ≤ r + yh
      · rw [ct c, h1 c]
      · rw [cf c, h2 c]
    have over : (4294967296 ≤ q ∨ 4294967296 * r + v < q * yl) → cond (decide (4294967296 ≤ wr .u64 (r + yh))) (ke (wr .u64 (q - 1))) (l_math_bits_Div64_9 cp n k Y s yh yl u v w (wr .u64 (q - 1)) (wr .u64 (r + yh)) ke) = ke ((u * 4294967296 + v) / Y) := by
      intro ht
      have hq1 : wr .u64 (q - 1) = q - 1 := by
        have := h.over ht; have := h.lt.1
        exact u64_id (by omega) (by have := h.q1; omega)
      rw [hrw, hq1]
      refine key True _ _ ht (fun c => by rw [h.last ht c]) (fun c => ?_)
      exact ih k (q - 1) (r + yh) (h.next ht (by omega)) (by have := h.yh0; omega) (by omega)
    simp only [l_math_bits_Div64_9, G_math_bits_Div64, s_math_bits_Div64_1, s_math_bits_Div64_4, s_math_bits_Div64_10, s_math_bits_Div64_12, s_math_bits_Div64_13, s_math_bits_Div64_15, s_math_bits_Div64_21, s_math_bits_Div64_23, s_math_bits_Div64_24, s_math_bits_Div64_27, s_math_bits_Div64_29, s_math_bits_Div64_31, s_math_bits_Div64_33]
    by_cases hb : 4294967296 ≤ q
    · rw [ct hb]; exact over (.inl hb)
    · obtain ⟨e1, e2⟩ := h.test hq0 (by omega)
      rw [cf hb, e1, e2]
      by_cases hc : 4294967296 * r + v < q * yl
      · rw [ct hc]; exact over (.inr hc)
      · rw [cf hc, ← h.done (by omega)]
theorem stage_l2 (Y s yh yl u v w x : Int) (ke : Int → Option R) : ∀ (d k : Nat) (r q : Int), Dig Y yh yl u v q r → 4294967296 ≤ r + d * 2147483648 → d ≤ k →
    l_math_bits_Div64_20 cp n k Y s yh yl v x u r q ke = ke ((u * 4294967296 + v) / Y) := by
  intro d
  induction d with
  | zero => intro k r q h hr hk; have := h.r1; omega
  | succ d ih =>
    intro k r q h hr hk
    obtain ⟨k, rfl⟩ : ∃ m, k = m + 1 := ⟨k - 1, by omega⟩
    have hq0 := h.q0
    have hrw : wr .u64 (r + yh) = r + yh := u64_id (by have := h.r0; have := h.yh0; omega) (by have := h.r1; have := h.yh1; omega)
    have over : (4294967296 ≤ q ∨ 4294967296 * r + v < q * yl) → cond (decide (4294967296 ≤ wr .u64 (r + yh))) (ke (wr .u64 (q - 1))) (l_math_bits_Div64_20 cp n k Y s yh yl v x u (wr .u64 (r + yh)) (wr .u64 (q - 1)) ke) = ke ((u * 4294967296 + v) / Y) := by
      intro ht
      have hq1 : wr .u64 (q - 1) = q - 1 := by
        have := h.over ht; have := h.lt.1
        exact u64_id (by omega) (by have := h.q1; omega)
      rw [hrw, hq1]
      by_cases c : 4294967296 ≤ r + yh
      · rw [ct c, h.last ht c]
      · rw [cf c]
        exact ih k (r + yh) (q - 1) (h.next ht (by omega)) (by have := h.yh0; omega) (by omega)
    simp only [l_math_bits_Div64_20, G_math_bits_Div64, s_math_bits_Div64_1, s_math_bits_Div64_4, s_math_bits_Div64_10, s_math_bits_Div64_12, s_math_bits_Div64_13, s_math_bits_Div64_15, s_math_bits_Div64_21, s_math_bits_Div64_23, s_math_bits_Div64_24, s_math_bits_Div64_27, s_math_bits_Div64_29, s_math_bits_Div64_31, s_math_bits_Div64_33]
    by_cases hb : 4294967296 ≤ q
    · rw [ct hb]; exact over (.inl hb)
    · obtain ⟨e1, e2⟩ := h.test hq0 (by omega)
      rw [cf hb, e1, e2]
      by_cases hc : 4294967296 * r + v < q * yl
      · rw [ct hc]; exact over (.inr hc)
      · rw [cf hc, ← h.done (by omega)]
/-- What both digits make. -/
theorem two_digits (Y yh yl u v w : Int) (hY : Y = yh * 4294967296 + yl) (yh0 : 2147483648 ≤ yh) (yh1 : yh < 4294967296) (yl0 : 0 ≤ yl) (yl1 : yl < 4294967296)
    (v0 : 0 ≤ v) (v1 : v < 4294967296) (w0 : 0 ≤ w) (w1 : w < 4294967296) (u0 : 0 ≤ u) (u1 : u < Y) :
    (wr .u64 (wr .u64 (wr .u64 (u * 4294967296) + v) - wr .u64 ((u * 4294967296 + v) / Y * Y)) = (u * 4294967296 + v) % Y) ∧ 0 ≤ (u * 4294967296 + v) % Y ∧ (u * 4294967296 + v) % Y < Y ∧
    (wr .u64 (wr .u64 ((u * 4294967296 + v) / Y * 4294967296) + ((u * 4294967296 + v) % Y * 4294967296 + w) / Y) = (u * 18446744073709551616 + v * 4294967296 + w) / Y) ∧
    (wr .u64 (wr .u64 (wr .u64 ((u * 4294967296 + v) % Y * 4294967296) + w) - wr .u64 (((u * 4294967296 + v) % Y * 4294967296 + w) / Y * Y)) = (u * 18446744073709551616 + v * 4294967296 + w) % Y) := by
  have hp : 0 < Y := by omega
  have hlt : Y < 18446744073709551616 := by omega
  have D := (Dig.start hY yh0 yh1 yl0 yl1 v0 v1 u0 u1).lt
  have hm0 := Int.emod_nonneg (u * 4294967296 + v) (show Y ≠ 0 by omega)
  have hm1 := Int.emod_lt_of_pos (u * 4294967296 + v) hp
  have hm : u * 4294967296 + v = (u * 4294967296 + v) / Y * Y + (u * 4294967296 + v) % Y := by
    have := Int.emod_add_mul_ediv (u * 4294967296 + v) Y
    have e := Int.mul_comm Y ((u * 4294967296 + v) / Y)
    omega
  generalize hq1 : (u * 4294967296 + v) / Y = q1 at *
  generalize hrr : (u * 4294967296 + v) % Y = un21 at *
  have L := (Dig.start (v := w) hY yh0 yh1 yl0 yl1 w0 w1 hm0 hm1).lt
  have hn0 := Int.emod_nonneg (un21 * 4294967296 + w) (show Y ≠ 0 by omega)
  have hn1 := Int.emod_lt_of_pos (un21 * 4294967296 + w) hp
  have hn : un21 * 4294967296 + w = (un21 * 4294967296 + w) / Y * Y + (un21 * 4294967296 + w) % Y := by
    have := Int.emod_add_mul_ediv (un21 * 4294967296 + w) Y
    have e := Int.mul_comm Y ((un21 * 4294967296 + w) / Y)
    omega
  generalize (un21 * 4294967296 + w) / Y = q2 at *
  generalize (un21 * 4294967296 + w) % Y = rem at *
  have tot : u * 18446744073709551616 + v * 4294967296 + w = (q1 * 4294967296 + q2) * Y + rem := by
    have e : (q1 * 4294967296 + q2) * Y = q1 * Y * 4294967296 + q2 * Y := by rw [Int.add_mul, Int.mul_right_comm]
    rw [e]; generalize q1 * Y = z at *; generalize q2 * Y = z2 at *; omega
  obtain ⟨t1, t2⟩ := quot_unique hp tot hn0 hn1
  rw [t1, t2]
  refine ⟨?_, hm0, hm1, ?_, ?_⟩
  · generalize hz : q1 * Y = z at *
    simp only [wu64]; omega
  · rw [u64_id (n := q1 * 4294967296) (by omega) (by omega), u64_id (n := q1 * 4294967296 + q2) (by omega) (by omega)]
  · generalize hz : q2 * Y = z at *
    simp only [wu64]; omega
theorem Div64_k (hi lo y : Int) (k : Int → Int → Option R) (hn : 3 ≤ n) (h0 : 0 ≤ hi) (h1 : hi < y) (l0 : 0 ≤ lo) (l1 : lo < 18446744073709551616) (y1 : y < 18446744073709551616) :
    G_math_bits_Div64 cp (n + 1) hi lo y k = k ((hi * 18446744073709551616 + lo) / y) ((hi * 18446744073709551616 + lo) % y) := by
  simp only [G_math_bits_Div64, s_math_bits_Div64_1, s_math_bits_Div64_4, s_math_bits_Div64_10, s_math_bits_Div64_12, s_math_bits_Div64_13, s_math_bits_Div64_15, s_math_bits_Div64_21, s_math_bits_Div64_23, s_math_bits_Div64_24, s_math_bits_Div64_27, s_math_bits_Div64_29, s_math_bits_Div64_31, s_math_bits_Div64_33]
  rw [cf (by omega), cf (by omega)]
  by_cases c : hi = 0
  · subst c
    rw [ct rfl, cf (by omega), cf (by omega), tdiv_pos l0, tmod_pos l0]
    have := Int.ediv_nonneg l0 (show 0 ≤ y by omega)
    have := Int.ediv_le_self y l0
    rw [u64_id (by omega) (by omega)]
    simp
  · rw [cf c]
    obtain ⟨m, rfl⟩ : ∃ m, n = m + 2 := ⟨n - 2, by omega⟩
    obtain ⟨s, ⟨s0, s1, n0, n1⟩, es⟩ := Lead_k (R := R) cp m y (by omega) y1
    rw [es]
    have hpos : 0 < (2 : Int) ^ s.toNat := Int.pow_pos (by decide)
    have hps : (2 : Int) ^ s.toNat * 2 ^ (64 - s).toNat = 18446744073709551616 := by
      rw [← Int.pow_add, show s.toNat + (64 - s).toNat = 64 by omega]; rfl
    have hpos2 : 0 < (2 : Int) ^ (64 - s).toNat := Int.pow_pos (by decide)
    have hs64 : min s.toNat IntKind.u64.bits = s.toNat := by simp [IntKind.bits]; omega
    have hs64b : min (64 - s).toNat IntKind.u64.bits = (64 - s).toNat := by simp [IntKind.bits]; omega
    have eY : shl .u64 y s = y * 2 ^ s.toNat := by
      unfold shl; rw [hs64]; exact u64_id (by omega) n1
    have hihi : hi * 2 ^ s.toNat + 2 ^ s.toNat ≤ y * 2 ^ s.toNat := by
      have := Int.mul_le_mul_of_nonneg_right (show hi + 1 ≤ y by omega) (Int.le_of_lt hpos)
      rw [Int.add_mul] at this; omega
    have hihi0 : 0 ≤ hi * 2 ^ s.toNat := Int.mul_nonneg h0 (by omega)
    have eH : shl .u64 hi s = hi * 2 ^ s.toNat := by
      unfold shl; rw [hs64]; exact u64_id hihi0 (by omega)
    have eL : shl .u64 lo s = lo * 2 ^ s.toNat % 18446744073709551616 := by
      unfold shl; rw [hs64]; exact wu64 _
    have eR : shr .u64 lo (64 - s) = lo / 2 ^ (64 - s).toNat := by rw [shr_eq, hs64b]
    have lr0 : 0 ≤ lo / 2 ^ (64 - s).toNat := Int.ediv_nonneg l0 (by omega)
    have lr1 : lo / 2 ^ (64 - s).toNat < 2 ^ s.toNat := Int.ediv_lt_of_lt_mul hpos2 (by omega)
    have eU : bits .or .u64 (hi * 2 ^ s.toNat) (lo / 2 ^ (64 - s).toNat) = hi * 2 ^ s.toNat + lo / 2 ^ (64 - s).toNat := by
      refine bits_join .u64 64 (by decide) wraps_u64 s.toNat _ _ hihi0 (Int.mul_emod_left _ _) ?_ lr0 lr1 ?_
      · have : (2 : Int) ^ 64 = 18446744073709551616 := by decide
        omega
      · have : (2 : Int) ^ 64 = 18446744073709551616 := by decide
        omega
    have ws : wr .u64 s = s := u64_id s0 (by omega)
    have ws2 : wr .u64 (64 - s) = 64 - s := u64_id (by omega) (by omega)
    have tot : lo * 2 ^ s.toNat = lo / 2 ^ (64 - s).toNat * 18446744073709551616 + lo * 2 ^ s.toNat % 18446744073709551616 := by
      have e1 : lo * 2 ^ s.toNat / 18446744073709551616 = lo / 2 ^ (64 - s).toNat := by
        rw [← hps, Int.mul_comm lo, Int.mul_ediv_mul_of_pos _ _ hpos]
      rw [← e1]; omega
    have main : (hi * 18446744073709551616 + lo) * 2 ^ s.toNat = (hi * 2 ^ s.toNat + lo / 2 ^ (64 - s).toNat) * 18446744073709551616 + lo * 2 ^ s.toNat % 18446744073709551616 := by
      rw [Int.add_mul, Int.mul_right_comm]; generalize hi * 2 ^ s.toNat = z1 at *; omega
    rw [ws, ws2, eY, eH, eL, eR, eU]
    rw [cf (by omega), cf (by omega), cf (by omega), cf (by omega)]
    simp only [shr32]
    generalize hU : hi * 2 ^ s.toNat + lo / 2 ^ (64 - s).toNat = U at *
    generalize hV : lo * 2 ^ s.toNat % 18446744073709551616 = V at *
    have hV0 : 0 ≤ V := by omega
    have hV1 : V < 18446744073709551616 := by omega
    have hUY : U < y * 2 ^ s.toNat := by omega
    have hU0 : 0 ≤ U := by omega
    have hD : ∀ P : Int, P = (2 : Int) ^ s.toNat → (hi * 18446744073709551616 + lo) * P / (y * P) = (hi * 18446744073709551616 + lo) / y ∧ (hi * 18446744073709551616 + lo) * P % (y * P) / P = (hi * 18446744073709551616 + lo) % y := by
      rintro P rfl
      refine ⟨Int.mul_ediv_mul_of_pos_left _ _ hpos, ?_⟩
      rw [Int.mul_comm _ ((2 : Int) ^ s.toNat), Int.mul_comm y, Int.mul_emod_mul_of_pos _ _ hpos, Int.mul_ediv_cancel_left _ (by omega)]
    obtain ⟨hD1, hD2⟩ := hD _ rfl
    generalize hYY : y * 2 ^ s.toNat = Y at *
    rw [and_mask (by omega) n1, and_mask hV0 hV1, cf (by omega)]
    have hd := Dig.start (Y := Y) (yh := Y / 4294967296) (yl := Y % 4294967296) (u := U) (v := V / 4294967296) (by omega) (by omega) (by omega) (by omega) (by omega) (by omega) (by omega) hU0 hUY
    have b1 : 0 ≤ U / (Y / 4294967296) := Int.ediv_nonneg hU0 (by omega)
    have b2 : U / (Y / 4294967296) ≤ U := Int.ediv_le_self _ hU0
    have b3 := quot_mul_le (n := U) (show 0 < Y / 4294967296 by omega)
    have b4 : 0 ≤ U / (Y / 4294967296) * (Y / 4294967296) := Int.mul_nonneg b1 (by omega)
    rw [tdiv_pos hU0, u64_id b1 (by omega), u64_id b4 (by omega), u64_id (n := U - _) (by omega) (by omega)]
    rw [stage_l1 cp (m + 2) Y s _ _ U (V / 4294967296) (V % 4294967296) _ 2 (m + 2) _ _ hd (by have := hd.r0; omega) (by omega)]
    obtain ⟨d1, d2, d3, d4, d5⟩ := two_digits Y (Y / 4294967296) (Y % 4294967296) U (V / 4294967296) (V % 4294967296) (by omega) (by omega) (by omega) (by omega) (by omega) (by omega) (by omega) (by omega) (by omega) hU0 hUY
    rw [cf (by omega), d1]
    generalize hW : (U * 4294967296 + V / 4294967296) % Y = W at *
    generalize hQ : (U * 4294967296 + V / 4294967296) / Y = Q at *
    have ge := Dig.start (Y := Y) (yh := Y / 4294967296) (yl := Y % 4294967296) (u := W) (v := V % 4294967296) (by omega) (by omega) (by omega) (by omega) (by omega) (by omega) (by omega) d2 d3
    have f1 : 0 ≤ W / (Y / 4294967296) := Int.ediv_nonneg d2 (by omega)
    have f2 : W / (Y / 4294967296) ≤ W := Int.ediv_le_self _ d2
    have f3 := quot_mul_le (n := W) (show 0 < Y / 4294967296 by omega)
    have f4 : 0 ≤ W / (Y / 4294967296) * (Y / 4294967296) := Int.mul_nonneg f1 (by omega)
    rw [tdiv_pos d2, u64_id f1 (by omega), u64_id f4 (by omega), u64_id (n := W - _) (by omega) (by omega)]
    rw [stage_l2 cp (m + 2) Y s _ _ W (V % 4294967296) (V / 4294967296) Q _ 2 (m + 2) _ _ ge (by have := ge.r0; omega) (by omega)]
    rw [cf (by omega), d4, d5]
    have e2 : U * 18446744073709551616 + V / 4294967296 * 4294967296 + V % 4294967296 = U * 18446744073709551616 + V := by omega
    rw [e2, ← main, hD1, shr_eq, hs64, hD2]

/-- What a product by a number is. -/
def mdv (a b c : Int) : Int := if a < 0 ∨ b < 0 ∨ c ≤ 0 then 0 else min (a * b / c) 9223372036854775807
def mde (a b c : Int) : Int := if a < 0 ∨ b < 0 ∨ c ≤ 0 then 2 else 0
theorem MulDiv_k (a b c : Int) (k : Int → Int → Option R) (hn : 4 ≤ n) (a1 : a ≤ 9223372036854775807) (b1 : b ≤ 9223372036854775807) (c1 : c ≤ 9223372036854775807) :
    G_seq_MulDiv cp (n + 1) a b c k = k (mdv a b c) (mde a b c) := by
  unfold mdv mde
  simp only [G_seq_MulDiv]
  by_cases a0 : a < 0
  · rw [ct a0, if_pos (.inl a0), if_pos (.inl a0)]
  rw [cf a0]
  by_cases b0 : b < 0
  · rw [ct b0, if_pos (.inr (.inl b0)), if_pos (.inr (.inl b0))]
  rw [cf b0]
  by_cases c0 : c ≤ 0
  · rw [ct c0, if_pos (.inr (.inr c0)), if_pos (.inr (.inr c0))]
  rw [cf c0, if_neg (by omega), if_neg (by omega)]
  obtain ⟨m, rfl⟩ : ∃ m, n = m + 1 := ⟨n - 1, by omega⟩
  rw [u64_id (n := a) (by omega) (by omega), u64_id (n := b) (by omega) (by omega), u64_id (n := c) (by omega) (by omega), Mul64_k cp m a b _ (by omega) (by omega) (by omega) (by omega)]
  have hp : 0 ≤ a * b := Int.mul_nonneg (by omega) (by omega)
  by_cases h : c ≤ a * b / 18446744073709551616
  · rw [ct h]
    have : c * 18446744073709551616 ≤ a * b := by omega
    have h2 : 18446744073709551616 ≤ a * b / c := le_quot (by omega) (by omega)
    congr 1; omega
  · rw [cf h]
    rw [Div64_k cp m _ _ c _ (by omega) (by omega) (by omega) (by omega) (by omega) (by omega)]
    rw [show a * b / 18446744073709551616 * 18446744073709551616 + a * b % 18446744073709551616 = a * b by omega]
    have := Int.ediv_nonneg hp (show 0 ≤ c by omega)
    rw [mn_min, w64_id (by omega) (by omega)]
end
end Go.Proofs.Ytgnoidblkenglaa.M
