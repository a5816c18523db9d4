/- Clamps, cube roots, and the document's sums and products, in plain numbers. -/
import Derived.Test.YtgnoidblkenglaaSTSeq
import Derived.Test.YtgnoidblkenglaaSTDiv
set_option linter.unusedVariables false
set_option linter.unusedSimpArgs false
namespace Go.Proofs.Ytgnoidblkenglaa.M
open Go Go.RowKit
section
variable {R : Type} (cp : Nat → Nat → Bool) (n : Nat)
theorem Clamp_k (x lo hi : Int) (k : Int → Option R) : G_seq_Clamp cp (n + 1) x lo hi k = k (max lo (min x hi)) := by
  simp only [G_seq_Clamp]; rw [mx_max, mn_min]
/-! Cube roots. -/
structure IsCbrt (n r : Int) : Prop where
  r0 : 0 ≤ r
  r1 : r ≤ 2097151
  le : r = 0 ∨ r * r * r ≤ n
  lt : r = 2097151 ∨ n < (r + 1) * (r + 1) * (r + 1)

theorem cube_le {a b : Int} (h0 : 0 ≤ a) (h : a ≤ b) : a * a * a ≤ b * b * b := mul_le (Int.mul_nonneg h0 h0) (mul_le h0 h h0 h) h0 h
theorem cube_max {a : Int} (h0 : 0 ≤ a) (h : a ≤ 2097151) : 0 ≤ a * a ∧ a * a ≤ 4398042316801 ∧ 0 ≤ a * a * a ∧ a * a * a ≤ 9223358842721533951 := by
  have h1 := mul_le h0 h h0 h
  have h2 := cube_le h0 h
  exact ⟨Int.mul_nonneg h0 h0, by omega, Int.mul_nonneg (Int.mul_nonneg h0 h0) h0, by omega⟩
theorem IsCbrt.unique {n r s : Int} (h : IsCbrt n r) (g : IsCbrt n s) : r = s := by
  rcases Int.lt_trichotomy r s with hl | he | hl
  · have := cube_le (show 0 ≤ r + 1 by have := h.r0; omega) (show r + 1 ≤ s by omega)
    have := h.lt; have := g.le; have := g.r1; have := h.r0; omega
  · exact he
  · have := cube_le (show 0 ≤ s + 1 by have := g.r0; omega) (show s + 1 ≤ r by omega)
    have := g.lt; have := h.le; have := h.r1; have := g.r0; omega

theorem Cbrt_loop (N : Int) : ∀ (d k : Nat) (x : Int), d ≤ 21 → 0 ≤ x → x + 2 ^ d ≤ 2097152 → x % 2 ^ d = 0 → (x = 0 ∨ x * x * x ≤ N) → (x + 2 ^ d = 2097152 ∨ N < (x + 2 ^ d) * (x + 2 ^ d) * (x + 2 ^ d)) → d + 1 ≤ k →
    ∃ r, IsCbrt N r ∧ ∀ ke : Int → Option R, l_seq_Cbrt_10 cp n k N x (21 - d) ke = ke r := by
  intro d
  induction d with
  | zero =>
    intro k x _ h0 h1 _ hle hlt hk
    obtain ⟨k, rfl⟩ : ∃ m, k = m + 1 := ⟨k - 1, by omega⟩
    refine ⟨x, ⟨h0, by simpa using (show x ≤ 2097151 by simp at h1; omega), hle, ?_⟩, fun ke => ?_⟩
    · simp at hlt; rcases hlt with hlt | hlt
      · exact .inl (by omega)
      · exact .inr hlt
    · simp only [l_seq_Cbrt_10, G_seq_Cbrt, s_seq_Cbrt_1, s_seq_Cbrt_3, s_seq_Cbrt_5, s_seq_Cbrt_11, s_seq_Cbrt_13, s_seq_Cbrt_15, s_seq_Cbrt_16, s_seq_Cbrt_19, s_seq_Cbrt_21]; rw [cf (by omega)]
  | succ d ih =>
    intro k x hd h0 h1 hm hle hlt hk
    obtain ⟨k, rfl⟩ : ∃ m, k = m + 1 := ⟨k - 1, by omega⟩
    have hp : 0 < (2 : Int) ^ d := Int.pow_pos (by decide)
    have e2 : (2 : Int) ^ (d + 1) = 2 * 2 ^ d := by rw [Int.pow_succ]; omega
    have hw : wr .i64 (20 - (21 - ((d + 1 : Nat) : Int))) = d := by rw [w64_id (by omega) (by omega)]; omega
    have hw2 : wr .i64 (21 - ((d + 1 : Nat) : Int) + 1) = 21 - d := by rw [w64_id (by omega) (by omega)]; omega
    have hsh : shl .i64 1 (d : Int) = 2 ^ d := by
      unfold shl
      rw [show min (d : Int).toNat IntKind.i64.bits = d by simp [IntKind.bits]; omega, Int.one_mul, IntKind.wrap_i64]
      have : (2 : Int) ^ d ≤ 1048576 := by omega
      omega
    have hor : bits .or .i64 x (2 ^ d) = x + 2 ^ d := by
      refine bits_join .i64 63 (by decide) (fun n a b => by rw [IntKind.wrap_i64]; omega) (d + 1) x _ h0 hm ?_ (by omega) (by omega) ?_
      · have : (2 : Int) ^ 63 = 9223372036854775808 := by decide
        omega
      · have : (2 : Int) ^ 63 = 9223372036854775808 := by decide
        omega
    obtain ⟨c1, c2, c3, c4⟩ := cube_max (a := x + 2 ^ d) (by omega) (by omega)
    have hm' : x % 2 ^ d = 0 := by
      have hdv : (2 : Int) ^ d ∣ x := Int.dvd_trans ⟨2, by rw [e2]; omega⟩ (Int.dvd_of_emod_eq_zero hm)
      exact Int.emod_eq_zero_of_dvd hdv
    have one : ∀ ke : Int → Option R, l_seq_Cbrt_10 cp n (k + 1) N x (21 - ((d + 1 : Nat) : Int)) ke = if (x + 2 ^ d) * (x + 2 ^ d) * (x + 2 ^ d) ≤ N then l_seq_Cbrt_10 cp n k N (x + 2 ^ d) (21 - d) ke else l_seq_Cbrt_10 cp n k N x (21 - d) ke := fun ke => by
      rw [l_seq_Cbrt_10]
      simp only [G_seq_Cbrt, s_seq_Cbrt_1, s_seq_Cbrt_3, s_seq_Cbrt_5, s_seq_Cbrt_11, s_seq_Cbrt_13, s_seq_Cbrt_15, s_seq_Cbrt_16, s_seq_Cbrt_19, s_seq_Cbrt_21]
      rw [ct (by omega), hw, hw2, cf (by omega), hsh, hor, w64_id (n := (x + 2 ^ d) * (x + 2 ^ d)) (by omega) (by omega), w64_id (n := (x + 2 ^ d) * (x + 2 ^ d) * (x + 2 ^ d)) (by omega) (by omega), cite]
    by_cases c : (x + 2 ^ d) * (x + 2 ^ d) * (x + 2 ^ d) ≤ N
    · obtain ⟨r, h, e⟩ := ih k (x + 2 ^ d) (by omega) (by omega) (by omega) (by rw [Int.add_emod_right]; exact hm') (.inr c) (by rw [e2] at hlt; rw [show x + 2 ^ d + 2 ^ d = x + 2 * 2 ^ d by omega]; exact hlt) (by omega)
      exact ⟨r, h, fun ke => by rw [one, if_pos c, e]⟩
    · obtain ⟨r, h, e⟩ := ih k x (by omega) h0 (by omega) hm' hle (.inr (by omega)) (by omega)
      exact ⟨r, h, fun ke => by rw [one, if_neg c, e]⟩
theorem Cbrt_k (N : Int) (hn : 22 ≤ n) : ∃ r, IsCbrt N r ∧ ∀ k : Int → Option R, G_seq_Cbrt cp (n + 1) N k = k r := by
  obtain ⟨r, h, e⟩ := Cbrt_loop (R := R) cp n N 21 n 0 (by omega) (by omega) (by decide) (by decide) (.inl rfl) (.inl (by decide)) (by omega)
  refine ⟨r, h, fun k => ?_⟩
  simp only [G_seq_Cbrt, s_seq_Cbrt_1, s_seq_Cbrt_3, s_seq_Cbrt_5, s_seq_Cbrt_11, s_seq_Cbrt_13, s_seq_Cbrt_15, s_seq_Cbrt_16, s_seq_Cbrt_19, s_seq_Cbrt_21]
  exact e _
end
end Go.Proofs.Ytgnoidblkenglaa.M
