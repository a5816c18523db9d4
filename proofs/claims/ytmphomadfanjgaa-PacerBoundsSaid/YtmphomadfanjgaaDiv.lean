/- What Go's math/bits.Mul64 and Div64 and the program's MulDiv answer, in plain numbers. -/
import Derived.Test.YtmphomadfanjgaaPAx0
import Derived.Test.YtmphomadfanjgaaPAx2
import Derived.Test.YtmphomadfanjgaaPAx3
import Derived.Test.YtmphomadfanjgaaMath
set_option linter.unusedVariables false
set_option linter.unusedSimpArgs false
namespace Go.Proofs.Ytmphomadfanjgaa.Div
open Go Go.RowKit Go.Proofs.Ytmphomadfanjgaa.PA Go.Proofs.YtmphomadfanjgaaW.PrintWords Go.Proofs.Ytmphomadfanjgaa.Math

theorem mul64_eq (x y : Int) (hx0 : 0 ≤ x) (hx1 : x < 18446744073709551616) (hy0 : 0 ≤ y) (hy1 : y < 18446744073709551616) :
    bits_Mul64.f x y = some (x * y / 18446744073709551616, x * y % 18446744073709551616) := by
  have h := mul_hi x y hx0 hx1 hy0 hy1
  simp only at h
  obtain ⟨h1, h2, h3, h4, h5, h6, h7, h8, h9, h10, h11, h12, h13, h14⟩ := h
  have p00 : 0 ≤ x % 4294967296 * (y % 4294967296) := h5
  unfold bits_Mul64.f
  rw [and_mask hx0 hx1, and_mask hy0 hy1, u64_id p00 h2, u64_id h12 h13, u64_id h6 h3, and_mask h6 h3, u64_id h10 h11, u64_id h7 h4, u64_id h8 h14]
  rw [u64_eq (x * y)]
  rw [u64_id (n := x / 4294967296 * (y / 4294967296) + _) (by omega) (by omega), u64_id (by omega) h9, h1]

/-! One digit of the long division. -/
theorem dig_test {q yh yl r u v : Int} (h : q * yh + r = u) : q * (yh * 4294967296 + yl) = u * 4294967296 + v - (4294967296 * r + v - q * yl) := by
  have e : q * (yh * 4294967296 + yl) = q * yh * 4294967296 + q * yl := by rw [Int.mul_add, Int.mul_assoc]
  rw [e]; generalize q * yh = p at *; generalize q * yl = z at *; omega

theorem dig_le {q Y U : Int} (hY : 0 < Y) (h : q * Y ≤ U) : q ≤ U / Y := le_quot hY h
theorem dig_gt {q Y U : Int} (hY : 0 < Y) (h : U < q * Y) : U / Y < q := by
  rcases Int.lt_or_le (U / Y) q with h1 | h1
  · exact h1
  · have h2 : q * Y ≤ U / Y * Y := Int.mul_le_mul_of_nonneg_right h1 (by omega)
    have := quot_mul_le (n := U) hY
    omega

structure Dig (Y yh yl u v q r : Int) : Prop where
  hY : Y = yh * 4294967296 + yl
  yh0 : 2147483648 ≤ yh
  yh1 : yh < 4294967296
  yl0 : 0 ≤ yl
  yl1 : yl < 4294967296
  v0 : 0 ≤ v
  v1 : v < 4294967296
  u0 : 0 ≤ u
  u1 : u < Y
  hq : q * yh + r = u
  q1 : q ≤ 4294967298
  r0 : 0 ≤ r
  r1 : r < 4294967296
  up : (u * 4294967296 + v) / Y ≤ q

theorem Dig.pos {Y yh yl u v q r : Int} (h : Dig Y yh yl u v q r) : 0 < Y := by have := h.hY; have := h.yh0; have := h.yl0; omega
theorem Dig.lt {Y yh yl u v q r : Int} (h : Dig Y yh yl u v q r) : 0 ≤ (u * 4294967296 + v) / Y ∧ (u * 4294967296 + v) / Y < 4294967296 := by
  have hp := h.pos
  have := h.u0; have := h.v0; have := h.u1; have := h.v1
  refine ⟨Int.ediv_nonneg (by omega) (by omega), Int.ediv_lt_of_lt_mul hp ?_⟩
  omega

/-- The first guess. -/
theorem Dig.start {Y yh yl u v : Int} (hY : Y = yh * 4294967296 + yl) (yh0 : 2147483648 ≤ yh) (yh1 : yh < 4294967296) (yl0 : 0 ≤ yl) (yl1 : yl < 4294967296) (v0 : 0 ≤ v) (v1 : v < 4294967296) (u0 : 0 ≤ u) (u1 : u < Y) :
    Dig Y yh yl u v (u / yh) (u - u / yh * yh) := by
  have hp : 0 < yh := by omega
  have hYp : 0 < Y := by omega
  have a := quot_mul_le (n := u) hp
  have b := lt_quot_mul (n := u) hp
  have c : (u / yh + 1) * yh = u / yh * yh + yh := by rw [Int.add_mul]; omega
  refine ⟨hY, yh0, yh1, yl0, yl1, v0, v1, u0, u1, by omega, ?_, by omega, by omega, ?_⟩
  · have : u / yh < 4294967299 := Int.ediv_lt_of_lt_mul hp (by omega)
    omega
  · have q0 : 0 ≤ (u * 4294967296 + v) / Y := Int.ediv_nonneg (by omega) (by omega)
    refine digit_upper (b := 4294967296) (v := v) (by omega) yl0 hp v0 v1 q0 ?_
    have := quot_mul_le (n := u * 4294967296 + v) hYp
    rw [← hY]; exact this

/-- The test as the code makes it. -/
theorem Dig.test {Y yh yl u v q r : Int} (h : Dig Y yh yl u v q r) (hq0 : 0 ≤ q) (hq : q < 4294967296) :
    IntKind.u64.wrap (q * yl) = q * yl ∧ IntKind.u64.wrap (IntKind.u64.wrap (4294967296 * r) + v) = 4294967296 * r + v := by
  have := h.yl0; have := h.yl1; have := h.r0; have := h.r1; have := h.v0; have := h.v1
  have p0 : 0 ≤ q * yl := Int.mul_nonneg hq0 h.yl0
  have p1 : q * yl ≤ 4294967295 * 4294967295 := mul_le hq0 (by omega) h.yl0 (by omega)
  refine ⟨u64_id p0 (by omega), ?_⟩
  rw [u64_id (n := 4294967296 * r) (by omega) (by omega), u64_id (by omega) (by omega)]
theorem Dig.q0 {Y yh yl u v q r : Int} (h : Dig Y yh yl u v q r) : 0 ≤ q := Int.le_trans h.lt.1 h.up
/-- Not too much: it is the digit. -/
theorem Dig.done {Y yh yl u v q r : Int} (h : Dig Y yh yl u v q r) (ht : q * yl ≤ 4294967296 * r + v) : q = (u * 4294967296 + v) / Y := by
  have e := dig_test (yl := yl) (v := v) h.hq
  rw [← h.hY] at e
  have := dig_le h.pos (show q * Y ≤ u * 4294967296 + v by omega)
  have := h.up
  omega
theorem Dig.over {Y yh yl u v q r : Int} (h : Dig Y yh yl u v q r) (ht : 4294967296 ≤ q ∨ 4294967296 * r + v < q * yl) : (u * 4294967296 + v) / Y ≤ q - 1 := by
  rcases ht with ht | ht
  · have := h.lt.2; omega
  · have e := dig_test (yl := yl) (v := v) h.hq
    rw [← h.hY] at e
    have := dig_gt h.pos (show u * 4294967296 + v < q * Y by omega)
    omega
theorem Dig.next {Y yh yl u v q r : Int} (h : Dig Y yh yl u v q r) (ht : 4294967296 ≤ q ∨ 4294967296 * r + v < q * yl) (hr : r + yh < 4294967296) : Dig Y yh yl u v (q - 1) (r + yh) := by
  have a := h.over ht
  have := h.yh0; have := h.r0; have := h.q1
  refine ⟨h.hY, h.yh0, h.yh1, h.yl0, h.yl1, h.v0, h.v1, h.u0, h.u1, ?_, by omega, by omega, hr, a⟩
  rw [Int.sub_mul]; have := h.hq; omega
theorem Dig.last {Y yh yl u v q r : Int} (h : Dig Y yh yl u v q r) (ht : 4294967296 ≤ q ∨ 4294967296 * r + v < q * yl) (hr : 4294967296 ≤ r + yh) : q - 1 = (u * 4294967296 + v) / Y := by
  have a := h.over ht
  have hl := h.lt
  have hq : (q - 1) * yh + (r + yh) = u := by rw [Int.sub_mul]; have := h.hq; omega
  have e := dig_test (yl := yl) (v := v) hq
  rw [← h.hY] at e
  have := h.q1; have := h.yl0; have := h.yl1; have := h.v0
  have p1 : (q - 1) * yl ≤ 4294967297 * 4294967295 := mul_le (by omega) (by omega) h.yl0 (by omega)
  have := dig_le h.pos (show (q - 1) * Y ≤ u * 4294967296 + v by omega)
  omega

/-- What is answered behind the second digit. -/
def fin (Y s un0 q1 un21 q : Int) : Option (Int × Int) :=
  some (IntKind.u64.wrap (IntKind.u64.wrap (q1 * 4294967296) + q), shr .u64 (IntKind.u64.wrap (IntKind.u64.wrap (IntKind.u64.wrap (un21 * 4294967296) + un0) - IntKind.u64.wrap (q * Y))) s)

theorem stage2 (Y s yh yl un0 q1 un21 : Int) (hs : 0 ≤ s) : ∀ (d k : Nat) (r q : Int), Dig Y yh yl un21 un0 q r → 4294967296 ≤ r + d * 2147483648 → 2 * d + 2 ≤ k →
    bits_Div64.l1 k Y s yh yl un0 q1 r un21 q = fin Y s un0 q1 un21 ((un21 * 4294967296 + un0) / Y) := by
  intro d
  induction d with
  | zero => intro k r q h hr hk; have := h.r1; omega
  | succ d ih =>
    intro k r q h hr hk
    obtain ⟨k, rfl⟩ : ∃ m, k = m + 2 := ⟨k - 2, by omega⟩
    have hq0 := h.q0
    have hw : IntKind.u64.wrap (q - 1) = q - 1 ∨ q = 0 := by
      rcases Int.lt_or_le 0 q with h0 | h0
      · exact .inl (u64_id (by omega) (by have := h.q1; omega))
      · exact .inr (by omega)
    have key : bits_Div64.l1 (k + 2) Y s yh yl un0 q1 r un21 q = bits_Div64.j4 (k + 1) Y s yh yl un0 q1 r un21 q (decide (4294967296 ≤ q ∨ 4294967296 * r + un0 < q * yl)) := by
      simp only [bits_Div64.l1]
      by_cases hb : q ≥ 4294967296
      · rw [if_pos hb, decide_eq_true (Or.inl hb)]
      · obtain ⟨e1, e2⟩ := h.test hq0 (by omega)
        rw [if_neg hb, e1, e2]
        congr 1
        by_cases hc : 4294967296 * r + un0 < q * yl
        · rw [decide_eq_true (Or.inr hc), decide_eq_true hc]
        · rw [decide_eq_false (by omega), decide_eq_false (by omega)]
    rw [key]
    have hrw : IntKind.u64.wrap (r + yh) = r + yh := u64_id (by have := h.r0; have := h.yh0; omega) (by have := h.r1; have := h.yh1; omega)
    simp only [bits_Div64.j4]
    by_cases ht : 4294967296 ≤ q ∨ 4294967296 * r + un0 < q * yl
    · have hq1 : IntKind.u64.wrap (q - 1) = q - 1 := by
        have := h.over ht; have := h.lt.1
        exact u64_id (by omega) (by have := h.q1; omega)
      rw [if_pos (by simpa using ht), hrw, hq1]
      by_cases hr2 : r + yh ≥ 4294967296
      · rw [if_pos hr2, if_pos hs, ← h.last ht hr2]; rfl
      · rw [if_neg hr2]
        exact ih k (r + yh) (q - 1) (h.next ht (by omega)) (by have := h.yh0; omega) (by omega)
    · rw [if_neg (by simpa using ht), if_pos hs, ← h.done (by omega)]; rfl

theorem wrap_sub_mod {a b m : Int} (hm : 0 ≤ a - b) (hl : a - b < 18446744073709551616) : IntKind.u64.wrap (IntKind.u64.wrap a - IntKind.u64.wrap b) = a - b := by
  simp only [u64_eq]; omega

theorem stage1_out (Y s yh yl un32 un1 un0 : Int) (hY : Y = yh * 4294967296 + yl) (yh0 : 2147483648 ≤ yh) (yh1 : yh < 4294967296) (yl0 : 0 ≤ yl) (yl1 : yl < 4294967296)
    (v0 : 0 ≤ un1) (v1 : un1 < 4294967296) (w0 : 0 ≤ un0) (w1 : un0 < 4294967296) (u0 : 0 ≤ un32) (u1 : un32 < Y) (hs : 0 ≤ s) (k : Nat) (hk : 12 ≤ k) :
    bits_Div64.j2 k Y s yh yl un32 un1 un0 ((un32 * 4294967296 + un1) / Y) = some ((un32 * 18446744073709551616 + un1 * 4294967296 + un0) / Y, (un32 * 18446744073709551616 + un1 * 4294967296 + un0) % Y / 2 ^ min s.toNat 64) := by
  obtain ⟨k, rfl⟩ : ∃ m, k = m + 1 := ⟨k - 1, by omega⟩
  have hp : 0 < Y := by omega
  have hlt : Y < 18446744073709551616 := by omega
  have D := (Dig.start hY yh0 yh1 yl0 yl1 v0 v1 u0 u1).lt
  have hm0 := Int.emod_nonneg (un32 * 4294967296 + un1) (show Y ≠ 0 by omega)
  have hm1 := Int.emod_lt_of_pos (un32 * 4294967296 + un1) hp
  have hm : un32 * 4294967296 + un1 = (un32 * 4294967296 + un1) / Y * Y + (un32 * 4294967296 + un1) % Y := by
    have := Int.emod_add_mul_ediv (un32 * 4294967296 + un1) Y
    have e := Int.mul_comm Y ((un32 * 4294967296 + un1) / Y)
    omega
  generalize hq1 : (un32 * 4294967296 + un1) / Y = q1 at *
  generalize hrr : (un32 * 4294967296 + un1) % Y = un21 at *
  have hun : IntKind.u64.wrap (IntKind.u64.wrap (IntKind.u64.wrap (un32 * 4294967296) + un1) - IntKind.u64.wrap (q1 * Y)) = un21 := by
    generalize hz : q1 * Y = z at *
    simp only [u64_eq]; omega
  simp only [bits_Div64.j2]
  rw [if_neg (by omega), hun]
  have hd := Dig.start (v := un0) hY yh0 yh1 yl0 yl1 w0 w1 hm0 hm1
  have e1 : Int.tdiv un21 yh = un21 / yh := Int.tdiv_eq_ediv_of_nonneg hm0
  have b1 : 0 ≤ un21 / yh := Int.ediv_nonneg hm0 (by omega)
  have b2 : un21 / yh ≤ un21 := Int.ediv_le_self _ hm0
  have b3 := quot_mul_le (n := un21) (show 0 < yh by omega)
  have b4 : 0 ≤ un21 / yh * yh := Int.mul_nonneg b1 (by omega)
  rw [e1, u64_id b1 (by omega), u64_id b4 (by omega), u64_id (n := un21 - un21 / yh * yh) (by omega) (by omega)]
  rw [stage2 Y s yh yl un0 q1 un21 hs 2 k _ _ hd (by have := hd.r0; omega) (by omega)]
  have L := hd.lt
  have hn0 := Int.emod_nonneg (un21 * 4294967296 + un0) (show Y ≠ 0 by omega)
  have hn1 := Int.emod_lt_of_pos (un21 * 4294967296 + un0) hp
  have hn : un21 * 4294967296 + un0 = (un21 * 4294967296 + un0) / Y * Y + (un21 * 4294967296 + un0) % Y := by
    have := Int.emod_add_mul_ediv (un21 * 4294967296 + un0) Y
    have e := Int.mul_comm Y ((un21 * 4294967296 + un0) / Y)
    omega
  generalize (un21 * 4294967296 + un0) / Y = q2 at *
  generalize (un21 * 4294967296 + un0) % Y = rem at *
  have tot : un32 * 18446744073709551616 + un1 * 4294967296 + un0 = (q1 * 4294967296 + q2) * Y + rem := by
    have e : (q1 * 4294967296 + q2) * Y = q1 * Y * 4294967296 + q2 * Y := by rw [Int.add_mul, Int.mul_right_comm]
    rw [e]; generalize q1 * Y = z at *; generalize q2 * Y = z2 at *; omega
  obtain ⟨t1, t2⟩ := quot_unique hp tot hn0 hn1
  rw [t1, t2]
  unfold fin shr
  rw [u64_id (n := q1 * 4294967296) (by omega) (by omega), u64_id (n := q1 * 4294967296 + q2) (by omega) (by omega)]
  have hrem : IntKind.u64.wrap (IntKind.u64.wrap (IntKind.u64.wrap (un21 * 4294967296) + un0) - IntKind.u64.wrap (q2 * Y)) = rem := by
    generalize hz : q2 * Y = z at *
    simp only [u64_eq]; omega
  rw [hrem]; rfl

theorem stage1 (Y s yh yl un32 un1 un0 : Int) (w0 : 0 ≤ un0) (w1 : un0 < 4294967296) (hs : 0 ≤ s) : ∀ (d k : Nat) (r q : Int), Dig Y yh yl un32 un1 q r → 4294967296 ≤ r + d * 2147483648 → 2 * d + 14 ≤ k →
    bits_Div64.l0 k Y s yh yl un32 un1 un0 q r = some ((un32 * 18446744073709551616 + un1 * 4294967296 + un0) / Y, (un32 * 18446744073709551616 + un1 * 4294967296 + un0) % Y / 2 ^ min s.toNat 64) := by
  intro d
  induction d with
  | zero => intro k r q h hr hk; have := h.r1; omega
  | succ d ih =>
    intro k r q h hr hk
    obtain ⟨k, rfl⟩ : ∃ m, k = m + 2 := ⟨k - 2, by omega⟩
    have hq0 := h.q0
    have key : bits_Div64.l0 (k + 2) Y s yh yl un32 un1 un0 q r = bits_Div64.j1 (k + 1) Y s yh yl un32 un1 un0 q r (decide (4294967296 ≤ q ∨ 4294967296 * r + un1 < q * yl)) := by
      simp only [bits_Div64.l0]
      by_cases hb : q ≥ 4294967296
      · rw [if_pos hb, decide_eq_true (Or.inl hb)]
      · obtain ⟨e1, e2⟩ := h.test hq0 (by omega)
        rw [if_neg hb, e1, e2]
        congr 1
        by_cases hc : 4294967296 * r + un1 < q * yl
        · rw [decide_eq_true (Or.inr hc), decide_eq_true hc]
        · rw [decide_eq_false (by omega), decide_eq_false (by omega)]
    rw [key]
    have hrw : IntKind.u64.wrap (r + yh) = r + yh := u64_id (by have := h.r0; have := h.yh0; omega) (by have := h.r1; have := h.yh1; omega)
    have out := fun q' (e : q' = (un32 * 4294967296 + un1) / Y) (k' : Nat) (hk' : 12 ≤ k') => e ▸ stage1_out Y s yh yl un32 un1 un0 h.hY h.yh0 h.yh1 h.yl0 h.yl1 h.v0 h.v1 w0 w1 h.u0 h.u1 hs k' hk'
    simp only [bits_Div64.j1]
    by_cases ht : 4294967296 ≤ q ∨ 4294967296 * r + un1 < q * yl
    · have hq1 : IntKind.u64.wrap (q - 1) = q - 1 := by
        have := h.over ht; have := h.lt.1
        exact u64_id (by omega) (by have := h.q1; omega)
      rw [if_pos (by simpa using ht), hrw, hq1]
      by_cases hr2 : r + yh ≥ 4294967296
      · rw [if_pos hr2]
        exact out _ (h.last ht hr2) k (by omega)
      · rw [if_neg hr2]
        exact ih k (r + yh) (q - 1) (h.next ht (by omega)) (by have := h.yh0; omega) (by omega)
    · rw [if_neg (by simpa using ht)]
      exact out _ (h.done (by omega)) k (by omega)


/-! How many bits a number has. -/
theorem tab_all : ∀ j : Fin 256, 0 < j.val → (1 ≤ bt (⟨#[0, 1, 2, 2, 3, 3, 3, 3, 4, 4, 4, 4, 4, 4, 4, 4, 5, 5, 5, 5, 5, 5, 5, 5, 5, 5, 5, 5, 5, 5, 5, 5, 6, 6, 6, 6, 6, 6, 6, 6, 6, 6, 6, 6, 6, 6, 6, 6, 6, 6, 6, 6, 6, 6, 6, 6, 6, 6, 6, 6, 6, 6, 6, 6, 7, 7, 7, 7, 7, 7, 7, 7, 7, 7, 7, 7, 7, 7, 7, 7, 7, 7, 7, 7, 7, 7, 7, 7, 7, 7, 7, 7, 7, 7, 7, 7, 7, 7, 7, 7, 7, 7, 7, 7, 7, 7, 7, 7, 7, 7, 7, 7, 7, 7, 7, 7, 7, 7, 7, 7, 7, 7, 7, 7, 7, 7, 7, 7, 8, 8, 8, 8, 8, 8, 8, 8, 8, 8, 8, 8, 8, 8, 8, 8, 8, 8, 8, 8, 8, 8, 8, 8, 8, 8, 8, 8, 8, 8, 8, 8, 8, 8, 8, 8, 8, 8, 8, 8, 8, 8, 8, 8, 8, 8, 8, 8, 8, 8, 8, 8, 8, 8, 8, 8, 8, 8, 8, 8, 8, 8, 8, 8, 8, 8, 8, 8, 8, 8, 8, 8, 8, 8, 8, 8, 8, 8, 8, 8, 8, 8, 8, 8, 8, 8, 8, 8, 8, 8, 8, 8, 8, 8, 8, 8, 8, 8, 8, 8, 8, 8, 8, 8, 8, 8, 8, 8, 8, 8, 8, 8, 8, 8, 8, 8, 8, 8, 8, 8, 8, 8, 8, 8, 8, 8, 8, 8]⟩ : ByteArray) (j.val : Int) ∧ bt (⟨#[0, 1, 2, 2, 3, 3, 3, 3, 4, 4, 4, 4, 4, 4, 4, 4, 5, 5, 5, 5, 5, 5, 5, 5, 5, 5, 5, 5, 5, 5, 5, 5, 6, 6, 6, 6, 6, 6, 6, 6, 6, 6, 6, 6, 6, 6, 6, 6, 6, 6, 6, 6, 6, 6, 6, 6, 6, 6, 6, 6, 6, 6, 6, 6, 7, 7, 7, 7, 7, 7, 7, 7, 7, 7, 7, 7, 7, 7, 7, 7, 7, 7, 7, 7, 7, 7, 7, 7, 7, 7, 7, 7, 7, 7, 7, 7, 7, 7, 7, 7, 7, 7, 7, 7, 7, 7, 7, 7, 7, 7, 7, 7, 7, 7, 7, 7, 7, 7, 7, 7, 7, 7, 7, 7, 7, 7, 7, 7, 8, 8, 8, 8, 8, 8, 8, 8, 8, 8, 8, 8, 8, 8, 8, 8, 8, 8, 8, 8, 8, 8, 8, 8, 8, 8, 8, 8, 8, 8, 8, 8, 8, 8, 8, 8, 8, 8, 8, 8, 8, 8, 8, 8, 8, 8, 8, 8, 8, 8, 8, 8, 8, 8, 8, 8, 8, 8, 8, 8, 8, 8, 8, 8, 8, 8, 8, 8, 8, 8, 8, 8, 8, 8, 8, 8, 8, 8, 8, 8, 8, 8, 8, 8, 8, 8, 8, 8, 8, 8, 8, 8, 8, 8, 8, 8, 8, 8, 8, 8, 8, 8, 8, 8, 8, 8, 8, 8, 8, 8, 8, 8, 8, 8, 8, 8, 8, 8, 8, 8, 8, 8, 8, 8, 8, 8, 8, 8]⟩ : ByteArray) (j.val : Int) ≤ 8 ∧ (2 : Int) ^ ((bt (⟨#[0, 1, 2, 2, 3, 3, 3, 3, 4, 4, 4, 4, 4, 4, 4, 4, 5, 5, 5, 5, 5, 5, 5, 5, 5, 5, 5, 5, 5, 5, 5, 5, 6, 6, 6, 6, 6, 6, 6, 6, 6, 6, 6, 6, 6, 6, 6, 6, 6, 6, 6, 6, 6, 6, 6, 6, 6, 6, 6, 6, 6, 6, 6, 6, 7, 7, 7, 7, 7, 7, 7, 7, 7, 7, 7, 7, 7, 7, 7, 7, 7, 7, 7, 7, 7, 7, 7, 7, 7, 7, 7, 7, 7, 7, 7, 7, 7, 7, 7, 7, 7, 7, 7, 7, 7, 7, 7, 7, 7, 7, 7, 7, 7, 7, 7, 7, 7, 7, 7, 7, 7, 7, 7, 7, 7, 7, 7, 7, 8, 8, 8, 8, 8, 8, 8, 8, 8, 8, 8, 8, 8, 8, 8, 8, 8, 8, 8, 8, 8, 8, 8, 8, 8, 8, 8, 8, 8, 8, 8, 8, 8, 8, 8, 8, 8, 8, 8, 8, 8, 8, 8, 8, 8, 8, 8, 8, 8, 8, 8, 8, 8, 8, 8, 8, 8, 8, 8, 8, 8, 8, 8, 8, 8, 8, 8, 8, 8, 8, 8, 8, 8, 8, 8, 8, 8, 8, 8, 8, 8, 8, 8, 8, 8, 8, 8, 8, 8, 8, 8, 8, 8, 8, 8, 8, 8, 8, 8, 8, 8, 8, 8, 8, 8, 8, 8, 8, 8, 8, 8, 8, 8, 8, 8, 8, 8, 8, 8, 8, 8, 8, 8, 8, 8, 8, 8, 8]⟩ : ByteArray) (j.val : Int)).toNat - 1) ≤ (j.val : Int) ∧ (j.val : Int) < 2 * (2 : Int) ^ ((bt (⟨#[0, 1, 2, 2, 3, 3, 3, 3, 4, 4, 4, 4, 4, 4, 4, 4, 5, 5, 5, 5, 5, 5, 5, 5, 5, 5, 5, 5, 5, 5, 5, 5, 6, 6, 6, 6, 6, 6, 6, 6, 6, 6, 6, 6, 6, 6, 6, 6, 6, 6, 6, 6, 6, 6, 6, 6, 6, 6, 6, 6, 6, 6, 6, 6, 7, 7, 7, 7, 7, 7, 7, 7, 7, 7, 7, 7, 7, 7, 7, 7, 7, 7, 7, 7, 7, 7, 7, 7, 7, 7, 7, 7, 7, 7, 7, 7, 7, 7, 7, 7, 7, 7, 7, 7, 7, 7, 7, 7, 7, 7, 7, 7, 7, 7, 7, 7, 7, 7, 7, 7, 7, 7, 7, 7, 7, 7, 7, 7, 8, 8, 8, 8, 8, 8, 8, 8, 8, 8, 8, 8, 8, 8, 8, 8, 8, 8, 8, 8, 8, 8, 8, 8, 8, 8, 8, 8, 8, 8, 8, 8, 8, 8, 8, 8, 8, 8, 8, 8, 8, 8, 8, 8, 8, 8, 8, 8, 8, 8, 8, 8, 8, 8, 8, 8, 8, 8, 8, 8, 8, 8, 8, 8, 8, 8, 8, 8, 8, 8, 8, 8, 8, 8, 8, 8, 8, 8, 8, 8, 8, 8, 8, 8, 8, 8, 8, 8, 8, 8, 8, 8, 8, 8, 8, 8, 8, 8, 8, 8, 8, 8, 8, 8, 8, 8, 8, 8, 8, 8, 8, 8, 8, 8, 8, 8, 8, 8, 8, 8, 8, 8, 8, 8, 8, 8, 8, 8]⟩ : ByteArray) (j.val : Int)).toNat - 1)) := by decide +kernel
theorem tab_at {i : Int} (h0 : 0 < i) (h1 : i < 256) : ∃ t, bt (⟨#[0, 1, 2, 2, 3, 3, 3, 3, 4, 4, 4, 4, 4, 4, 4, 4, 5, 5, 5, 5, 5, 5, 5, 5, 5, 5, 5, 5, 5, 5, 5, 5, 6, 6, 6, 6, 6, 6, 6, 6, 6, 6, 6, 6, 6, 6, 6, 6, 6, 6, 6, 6, 6, 6, 6, 6, 6, 6, 6, 6, 6, 6, 6, 6, 7, 7, 7, 7, 7, 7, 7, 7, 7, 7, 7, 7, 7, 7, 7, 7, 7, 7, 7, 7, 7, 7, 7, 7, 7, 7, 7, 7, 7, 7, 7, 7, 7, 7, 7, 7, 7, 7, 7, 7, 7, 7, 7, 7, 7, 7, 7, 7, 7, 7, 7, 7, 7, 7, 7, 7, 7, 7, 7, 7, 7, 7, 7, 7, 8, 8, 8, 8, 8, 8, 8, 8, 8, 8, 8, 8, 8, 8, 8, 8, 8, 8, 8, 8, 8, 8, 8, 8, 8, 8, 8, 8, 8, 8, 8, 8, 8, 8, 8, 8, 8, 8, 8, 8, 8, 8, 8, 8, 8, 8, 8, 8, 8, 8, 8, 8, 8, 8, 8, 8, 8, 8, 8, 8, 8, 8, 8, 8, 8, 8, 8, 8, 8, 8, 8, 8, 8, 8, 8, 8, 8, 8, 8, 8, 8, 8, 8, 8, 8, 8, 8, 8, 8, 8, 8, 8, 8, 8, 8, 8, 8, 8, 8, 8, 8, 8, 8, 8, 8, 8, 8, 8, 8, 8, 8, 8, 8, 8, 8, 8, 8, 8, 8, 8, 8, 8, 8, 8, 8, 8, 8, 8]⟩ : ByteArray) i = t ∧ 1 ≤ t ∧ t ≤ 8 ∧ (2 : Int) ^ (t.toNat - 1) ≤ i ∧ i < 2 * (2 : Int) ^ (t.toNat - 1) := by
  obtain ⟨n, rfl⟩ := Int.eq_ofNat_of_zero_le (Int.le_of_lt h0)
  exact ⟨_, rfl, tab_all ⟨n, by omega⟩ (show 0 < n by omega)⟩
theorem pow_up {t : Int} (e : Nat) (h : 1 ≤ t) : (2 : Int) ^ ((t + e).toNat - 1) = 2 ^ (t.toNat - 1) * 2 ^ e := by
  rw [show (t + (e : Int)).toNat - 1 = (t.toNat - 1) + e by omega, Int.pow_add]

set_option maxRecDepth 100000 in
theorem len_j0 (x n : Int) (k : Nat) (hx0 : 0 < x) (hx1 : x < 4294967296) (hn0 : 0 ≤ n) (hn1 : n ≤ 32) :
    ∃ t, bits_Len64.j0 (k + 1) x n = some (n + t) ∧ 1 ≤ t ∧ t ≤ 32 ∧ (2 : Int) ^ (t.toNat - 1) ≤ x ∧ x < 2 * (2 : Int) ^ (t.toNat - 1) := by
  rw [bits_Len64.j0.eq_2]
  by_cases c1 : x ≥ 65536
  · rw [if_pos c1]
    by_cases c2 : x / 65536 ≥ 256
    · rw [if_pos c2]
      obtain ⟨t, ht, t0, t1, t2, t3⟩ := tab_at (i := x / 65536 / 256 % 256) (by omega) (by omega)
      rw [if_pos (by omega), if_pos (by omega), ht]
      refine ⟨t + (24 : Nat), ?_, by omega, by omega, ?_⟩
      · rw [w64_id (n := n + 16) (by omega) (by omega), w64_id (n := n + 16 + 8) (by omega) (by omega), w64_id (n := t) (by omega) (by omega), w64_id (by omega) (by omega)]
        congr 1; omega
      · rw [pow_up 24 t0]; generalize (2 : Int) ^ (t.toNat - 1) = m at *; omega
    · rw [if_neg c2]
      obtain ⟨t, ht, t0, t1, t2, t3⟩ := tab_at (i := x / 65536 % 256) (by omega) (by omega)
      rw [if_pos (by omega), if_pos (by omega), ht]
      refine ⟨t + (16 : Nat), ?_, by omega, by omega, ?_⟩
      · rw [w64_id (n := n + 16) (by omega) (by omega), w64_id (n := t) (by omega) (by omega), w64_id (by omega) (by omega)]
        congr 1; omega
      · rw [pow_up 16 t0]; generalize (2 : Int) ^ (t.toNat - 1) = m at *; omega
  · rw [if_neg c1]
    by_cases c2 : x ≥ 256
    · rw [if_pos c2]
      obtain ⟨t, ht, t0, t1, t2, t3⟩ := tab_at (i := x / 256 % 256) (by omega) (by omega)
      rw [if_pos (by omega), if_pos (by omega), ht]
      refine ⟨t + (8 : Nat), ?_, by omega, by omega, ?_⟩
      · rw [w64_id (n := n + 8) (by omega) (by omega), w64_id (n := t) (by omega) (by omega), w64_id (by omega) (by omega)]
        congr 1; omega
      · rw [pow_up 8 t0]; generalize (2 : Int) ^ (t.toNat - 1) = m at *; omega
    · rw [if_neg c2]
      obtain ⟨t, ht, t0, t1, t2, t3⟩ := tab_at (i := x % 256) (by omega) (by omega)
      rw [if_pos (by omega), if_pos (by omega), ht]
      refine ⟨t, ?_, by omega, by omega, by omega, by omega⟩
      rw [w64_id (n := t) (by omega) (by omega), w64_id (by omega) (by omega)]

theorem lead_eq (y : Int) (k : Nat) (h0 : 0 < y) (h1 : y < 18446744073709551616) :
    ∃ s, bits_LeadingZeros64.f (k + 1) y = some s ∧ 0 ≤ s ∧ s ≤ 63 ∧ 9223372036854775808 ≤ y * 2 ^ s.toNat ∧ y * 2 ^ s.toNat < 18446744073709551616 := by
  have key : ∃ t, bits_Len64.f (k + 1) y = some t ∧ 1 ≤ t ∧ t ≤ 64 ∧ (2 : Int) ^ (t.toNat - 1) ≤ y ∧ y < 2 * (2 : Int) ^ (t.toNat - 1) := by
    unfold bits_Len64.f
    by_cases c : y ≥ 4294967296
    · rw [if_pos c]
      obtain ⟨t, e, t0, t1, t2, t3⟩ := len_j0 (y / 4294967296) 32 k (by omega) (by omega) (by omega) (by omega)
      refine ⟨t + (32 : Nat), by rw [e]; congr 1; omega, by omega, by omega, ?_⟩
      rw [pow_up 32 t0]; generalize (2 : Int) ^ (t.toNat - 1) = m at *; omega
    · rw [if_neg c]
      obtain ⟨t, e, t0, t1, t2, t3⟩ := len_j0 y 0 k (by omega) (by omega) (by omega) (by omega)
      exact ⟨t, by rw [e]; congr 1; omega, by omega, by omega, t2, t3⟩
  obtain ⟨t, e, t0, t1, t2, t3⟩ := key
  refine ⟨64 - t, ?_, by omega, by omega, ?_⟩
  · unfold bits_LeadingZeros64.f
    rw [e, Option.bind_some, w64_id (by omega) (by omega)]
  · have hp : (2 : Int) ^ (t.toNat - 1) * 2 ^ (64 - t).toNat = 9223372036854775808 := by
      rw [← Int.pow_add, show t.toNat - 1 + (64 - t).toNat = 63 by omega]; rfl
    have hpos : 0 < (2 : Int) ^ (64 - t).toNat := Int.pow_pos (by decide)
    constructor
    · have := Int.mul_le_mul_of_nonneg_right t2 (Int.le_of_lt hpos); omega
    · have := Int.mul_lt_mul_of_pos_right t3 hpos
      rw [Int.mul_assoc, hp] at this; omega

theorem div64_eq (hi lo y : Int) (k : Nat) (h0 : 0 ≤ hi) (h1 : hi < y) (l0 : 0 ≤ lo) (l1 : lo < 18446744073709551616) (y1 : y < 18446744073709551616) (hk : 30 ≤ k) :
    bits_Div64.f k hi lo y = some ((hi * 18446744073709551616 + lo) / y, (hi * 18446744073709551616 + lo) % y) := by
  unfold bits_Div64.f
  rw [if_neg (by omega), if_neg (by omega)]
  by_cases c : hi = 0
  · subst c
    rw [if_pos rfl, Int.tdiv_eq_ediv_of_nonneg l0, Int.tmod_eq_emod_of_nonneg l0]
    have := Int.ediv_nonneg l0 (show 0 ≤ y by omega)
    have := Int.ediv_le_self y l0
    rw [u64_id (by omega) (by omega)]
    simp
  · rw [if_neg c]
    obtain ⟨k, rfl⟩ : ∃ m, k = m + 1 := ⟨k - 1, by omega⟩
    obtain ⟨s, es, s0, s1, n0, n1⟩ := lead_eq y k (by omega) y1
    rw [es, Option.bind_some, u64_id (n := s) s0 (by omega), if_pos s0, u64_id (n := 64 - s) (by omega) (by omega), if_pos (by omega)]
    have hpos : 0 < (2 : Int) ^ s.toNat := Int.pow_pos (by decide)
    have hps : (2 : Int) ^ s.toNat * 2 ^ (64 - s).toNat = 18446744073709551616 := by
      rw [← Int.pow_add, show s.toNat + (64 - s).toNat = 64 by omega]; rfl
    have hpos2 : 0 < (2 : Int) ^ (64 - s).toNat := Int.pow_pos (by decide)
    have hs64 : min s.toNat IntKind.u64.bits = s.toNat := by simp [IntKind.bits]; omega
    have hs64b : min (64 - s).toNat IntKind.u64.bits = (64 - s).toNat := by simp [IntKind.bits]; omega
    have eY : shl .u64 y s = y * 2 ^ s.toNat := by
      unfold shl; rw [hs64, u64_id (by omega) n1]
    have hihi : hi * 2 ^ s.toNat + 2 ^ s.toNat ≤ y * 2 ^ s.toNat := by
      have := Int.mul_le_mul_of_nonneg_right (show hi + 1 ≤ y by omega) (Int.le_of_lt hpos)
      rw [Int.add_mul] at this; omega
    have hihi0 : 0 ≤ hi * 2 ^ s.toNat := Int.mul_nonneg h0 (by omega)
    have eH : shl .u64 hi s = hi * 2 ^ s.toNat := by
      unfold shl; rw [hs64, u64_id hihi0 (by omega)]
    have eL : shl .u64 lo s = lo * 2 ^ s.toNat % 18446744073709551616 := by
      unfold shl; rw [hs64, u64_eq]
    have eR : shr .u64 lo (64 - s) = lo / 2 ^ (64 - s).toNat := by
      unfold shr; rw [hs64b]
    have lr0 : 0 ≤ lo / 2 ^ (64 - s).toNat := Int.ediv_nonneg l0 (by omega)
    have lr1 : lo / 2 ^ (64 - s).toNat < 2 ^ s.toNat := Int.ediv_lt_of_lt_mul hpos2 (by omega)
    have eU : Go.bits .or .u64 (hi * 2 ^ s.toNat) (lo / 2 ^ (64 - s).toNat) = hi * 2 ^ s.toNat + lo / 2 ^ (64 - s).toNat := by
      refine bits_join .u64 64 (by decide) wraps_u64 s.toNat _ _ hihi0 (Int.mul_emod_left _ _) ?_ lr0 lr1 ?_
      · have : (2 : Int) ^ 64 = 18446744073709551616 := by decide
        omega
      · have : (2 : Int) ^ 64 = 18446744073709551616 := by decide
        omega
    rw [eY, eH, eL, eR, eU]
    have tot : lo * 2 ^ s.toNat = lo / 2 ^ (64 - s).toNat * 18446744073709551616 + lo * 2 ^ s.toNat % 18446744073709551616 := by
      have e1 : lo * 2 ^ s.toNat / 18446744073709551616 = lo / 2 ^ (64 - s).toNat := by
        rw [← hps, Int.mul_comm lo, Int.mul_ediv_mul_of_pos _ _ hpos]
      rw [← e1]; omega
    have main : (hi * 18446744073709551616 + lo) * 2 ^ s.toNat = (hi * 2 ^ s.toNat + lo / 2 ^ (64 - s).toNat) * 18446744073709551616 + lo * 2 ^ s.toNat % 18446744073709551616 := by
      rw [Int.add_mul, Int.mul_right_comm]; generalize hi * 2 ^ s.toNat = z1 at *; omega
    generalize hU : hi * 2 ^ s.toNat + lo / 2 ^ (64 - s).toNat = U at *
    generalize hV : lo * 2 ^ s.toNat % 18446744073709551616 = V at *
    have hV0 : 0 ≤ V := by omega
    have hV1 : V < 18446744073709551616 := by omega
    have hUY : U < y * 2 ^ s.toNat := by omega
    have hU0 : 0 ≤ U := by omega
    have hD : ∀ P : Int, P = (2 : Int) ^ s.toNat → (hi * 18446744073709551616 + lo) * P / (y * P) = (hi * 18446744073709551616 + lo) / y ∧ (hi * 18446744073709551616 + lo) * P % (y * P) / P = (hi * 18446744073709551616 + lo) % y := by
      rintro P rfl
      refine ⟨Int.mul_ediv_mul_of_pos_left _ _ hpos, ?_⟩
      rw [Int.mul_comm _ ((2 : Int) ^ s.toNat), Int.mul_comm y, Int.mul_emod_mul_of_pos _ _ hpos, Int.mul_ediv_cancel_left _ (by omega)]
    obtain ⟨hD1, hD2⟩ := hD _ rfl
    generalize hYY : y * 2 ^ s.toNat = Y at *
    rw [if_neg (by omega), and_mask (by omega) n1, and_mask hV0 hV1]
    have hd := Dig.start (Y := Y) (yh := Y / 4294967296) (yl := Y % 4294967296) (u := U) (v := V / 4294967296) (by omega) (by omega) (by omega) (by omega) (by omega) (by omega) (by omega) hU0 hUY
    have b1 : 0 ≤ U / (Y / 4294967296) := Int.ediv_nonneg hU0 (by omega)
    have b2 : U / (Y / 4294967296) ≤ U := Int.ediv_le_self _ hU0
    have b3 := quot_mul_le (n := U) (show 0 < Y / 4294967296 by omega)
    have b4 : 0 ≤ U / (Y / 4294967296) * (Y / 4294967296) := Int.mul_nonneg b1 (by omega)
    rw [Int.tdiv_eq_ediv_of_nonneg hU0, u64_id b1 (by omega), u64_id b4 (by omega), u64_id (n := U - _) (by omega) (by omega)]
    rw [stage1 Y s _ _ U (V / 4294967296) (V % 4294967296) (by omega) (by omega) s0 2 (k + 1) _ _ hd (by have := hd.r0; omega) (by omega)]
    have e2 : U * 18446744073709551616 + V / 4294967296 * 4294967296 + V % 4294967296 = U * 18446744073709551616 + V := by omega
    rw [e2, ← main, hD1, show min s.toNat 64 = s.toNat by omega, hD2]

/-- What a product by a number is. -/
theorem muldiv_eq (a b c : Int) (k : Nat) (hk : 31 ≤ k) (a0 : 0 ≤ a) (a1 : a ≤ 9223372036854775807) (b0 : 0 ≤ b) (b1 : b ≤ 9223372036854775807) (c0 : 0 < c) (c1 : c ≤ 9223372036854775807) :
    seq_MulDiv.f k a b c = some (min (a * b / c) 9223372036854775807, 0) := by
  obtain ⟨k, rfl⟩ : ∃ m, k = m + 1 := ⟨k - 1, by omega⟩
  unfold seq_MulDiv.f
  rw [if_neg (by omega), if_neg (by omega), decide_eq_false (by omega)]
  simp only [seq_MulDiv.j0]
  rw [if_neg (by simp), u64_id a0 (by omega), u64_id b0 (by omega), u64_id (n := c) (by omega) (by omega), mul64_eq a b a0 (by omega) b0 (by omega)]
  simp only [Option.bind_some]
  have hp : 0 ≤ a * b := Int.mul_nonneg a0 b0
  by_cases h : a * b / 18446744073709551616 ≥ c
  · rw [if_pos h]
    have : c * 18446744073709551616 ≤ a * b := by omega
    have h2 : 18446744073709551616 ≤ a * b / c := le_quot c0 (by omega)
    congr 2; omega
  · rw [if_neg h]
    rw [div64_eq _ _ c k (by omega) (by omega) (by omega) (by omega) (by omega) (by omega)]
    simp only [Option.bind_some]
    rw [show a * b / 18446744073709551616 * 18446744073709551616 + a * b % 18446744073709551616 = a * b by omega]
    have := Int.ediv_nonneg hp (show 0 ≤ c by omega)
    rw [mn_min, w64_id (by omega) (by omega)]
theorem muldiv_bad (a b c : Int) (k : Nat) (hk : 1 ≤ k) (h : a < 0 ∨ b < 0 ∨ c ≤ 0) : seq_MulDiv.f k a b c = some (0, 2) := by
  obtain ⟨k, rfl⟩ : ∃ m, k = m + 1 := ⟨k - 1, by omega⟩
  unfold seq_MulDiv.f
  by_cases h1 : a < 0
  · rw [if_pos h1]; simp [seq_MulDiv.j0]
  · by_cases h2 : b < 0
    · rw [if_neg h1, if_pos h2]; simp [seq_MulDiv.j0]
    · rw [if_neg h1, if_neg h2, decide_eq_true (by omega)]; simp [seq_MulDiv.j0]
end Go.Proofs.Ytmphomadfanjgaa.Div
