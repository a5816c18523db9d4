/- What the program's CUBIC and the document's answer, in plain numbers. -/
import Derived.Test.YtgnoidblkenglaaSTCc
import Derived.Test.YtgnoidblkenglaaSTSeqX
set_option linter.unusedVariables false
set_option linter.unusedSimpArgs false
namespace Go.Proofs.Ytgnoidblkenglaa.M
open Go Go.RowKit
noncomputable section
/-- A controller that may be. -/
abbrev CubOk (c : SCc) : Prop := c.xKind = 2 ∧ Com c ∧ NoBbr c ∧ 0 ≤ c.xWmax ∧ c.xWmax ≤ 1073741824 ∧ 0 ≤ c.xWest ∧ c.xWest ≤ 1073741824 ∧ 0 ≤ c.xStart ∧ c.xStart ≤ 1073741824 ∧ 0 ≤ c.xK ∧ c.xK ≤ 2097151 ∧ -1 ≤ c.xEpoch ∧ c.xEpoch ≤ 1125899906842624
def cbrtO (N : Int) : Int := Classical.epsilon fun r => IsCbrt N r
theorem cbrtO_eq {N r : Int} (h : IsCbrt N r) : cbrtO N = r := (Classical.epsilon_spec (p := fun r => IsCbrt N r) ⟨r, h⟩).unique h
/-- How far the curve is from its top, d milliseconds from its time. -/
def cubeO (m d : Int) : Int := mdv (max d (-d) * max d (-d) * max d (-d)) (4 * m) 10000000000
def distO (c : SCc) (t : Int) : Int := max (-1000000) (min (t - c.xK) 1000000)
def curveO (c : SCc) (t : Int) : Int := if CubOk c then max 0 (min (if distO c t < 0 then c.xWmax - cubeO c.xMss (distO c t) else c.xWmax + cubeO c.xMss (distO c t)) 1073741824) else 0
def beginO (c : SCc) (now : Int) : SCc := if c.xCwnd < c.xWmax then { c with xEpoch := now, xStart := c.xCwnd, xWest := c.xCwnd, xK := cbrtO (mdv (c.xWmax - c.xCwnd) 10000000000 (4 * c.xMss)) } else { c with xEpoch := now, xStart := c.xCwnd, xWest := c.xCwnd, xK := 0, xWmax := c.xCwnd }
def wideO (c : SCc) (now srtt : Int) : Int := max c.xCwnd (min (curveO c ((max 0 (now - c.xEpoch) + srtt) / 1000)) (c.xCwnd + c.xCwnd / 2))
def westO (c : SCc) (n : Int) : Int := min 1073741824 (satw (c.xWest + mdv (529 * c.xMss) n (1000 * c.xCwnd)))
def growO (c : SCc) (n now srtt : Int) : SCc := { c with xWest := westO c n, xCwnd := min 1073741824 (max (westO c n) (satw (c.xCwnd + mdv (wideO c now srtt - c.xCwnd) n c.xCwnd))) }
def ackedO (c : SCc) (n now srtt : Int) (idle : Bool) : SCc :=
  if CubOk c then if (0 ≤ n ∧ n ≤ 1073741824) ∧ (0 ≤ now ∧ now ≤ 1125899906842624) ∧ (0 ≤ srtt ∧ srtt ≤ 1125899906842624) then
    if idle = true then { c with xEpoch := -1 } else if c.xCwnd < c.xSsthresh then { c with xCwnd := min 1073741824 (c.xCwnd + min n c.xMss) } else growO (if c.xEpoch = -1 then beginO c now else c) n now srtt
  else zCc else zCc
def ackedE (c : SCc) (n now srtt : Int) : Int :=
  if CubOk c then if (0 ≤ n ∧ n ≤ 1073741824) ∧ (0 ≤ now ∧ now ≤ 1125899906842624) ∧ (0 ≤ srtt ∧ srtt ≤ 1125899906842624) then 0 else 2 else 230

theorem mdv_range (a b c : Int) : 0 ≤ mdv a b c ∧ mdv a b c ≤ 9223372036854775807 := by
  unfold mdv
  split
  · omega
  · have := Int.ediv_nonneg (Int.mul_nonneg (show 0 ≤ a by omega) (show 0 ≤ b by omega)) (show 0 ≤ c by omega)
    omega
theorem cube_ok {d : Int} (h0 : -1000000 ≤ d) (h1 : d ≤ 1000000) :
    wr .i64 (wr .i64 (mx d (wr .i64 (0 - d)) * mx d (wr .i64 (0 - d))) * mx d (wr .i64 (0 - d))) = max d (-d) * max d (-d) * max d (-d) ∧ max d (-d) * max d (-d) * max d (-d) ≤ 9223372036854775807 := by
  rw [w64_id (n := 0 - d) (by omega) (by omega), mx_max, show 0 - d = -d by omega]
  generalize hA : max d (-d) = A
  have h2 : 0 ≤ A := by omega
  have h3 : A ≤ 1000000 := by omega
  have := cube_max h2 (by omega)
  rw [w64_id (n := A * A) (by omega) (by omega), w64_id (by omega) (by omega)]
  omega
section
variable {R : Type} (cp : Nat → Nat → Bool) (n : Nat)
theorem csize_loop (l : List Int) (kr ke : Option R) (hl : l.length < 9223372036854775807) : ∀ (r : List Int) (i m : Nat), l.drop i = r → i ≤ l.length → r.length + 1 ≤ m → l_cubic_size_10 cp n m l (l.length : Int) (i : Int) kr ke = cond (r.all fun x => decide (0 ≤ x ∧ x ≤ 1073741824)) ke kr
  | [], i, 0, h, hi, hk => by simp at hk
  | [], i, m + 1, h, hi, hk => by
    have := drop_nil h
    simp only [l_cubic_size_10, G_cubic_size, s_cubic_size_1, s_cubic_size_3, s_cubic_size_5, s_cubic_size_11, s_cubic_size_12, s_cubic_size_13, s_cubic_size_14, s_cubic_size_17, s_cubic_size_19]
    rw [cf (by omega)]; rfl
  | x :: r, i, 0, h, hi, hk => by simp at hk
  | x :: r, i, m + 1, h, hi, hk => by
    obtain ⟨h1, h2⟩ := drop_lt h
    simp only [l_cubic_size_10, G_cubic_size, s_cubic_size_1, s_cubic_size_3, s_cubic_size_5, s_cubic_size_11, s_cubic_size_12, s_cubic_size_13, s_cubic_size_14, s_cubic_size_17, s_cubic_size_19, List.all_cons]
    rw [ct (by omega), ct (by omega), ct (by omega), rd_at h]
    by_cases a : x < 0
    · rw [ct a, decide_eq_false (by omega)]; rfl
    by_cases b : 1073741824 < x
    · rw [cf a, ct b, decide_eq_false (by omega)]; rfl
    rw [cf a, cf b, decide_eq_true (show 0 ≤ x ∧ x ≤ 1073741824 by omega), succ_w (by omega)]
    exact csize_loop l kr ke hl r (i + 1) m h2 (by omega) (by simpa using hk)
theorem csize1_k (x : Int) (k : Bool → Option R) : G_cubic_size cp (n + 3) [x] k = k (decide (0 ≤ x ∧ x ≤ 1073741824)) := by
  simp only [G_cubic_size, s_cubic_size_1, s_cubic_size_3, s_cubic_size_5, s_cubic_size_11, s_cubic_size_12, s_cubic_size_13, s_cubic_size_14, s_cubic_size_17, s_cubic_size_19]
  refine (csize_loop cp (n + 2) [x] (k false) (k true) (by simp) [x] 0 (n + 2) rfl (by simp) (by simp)).trans ?_
  simp only [List.all_cons, List.all_nil, Bool.and_true]
  cases decide (0 ≤ x ∧ x ≤ 1073741824) <;> rfl
theorem csize3_k (x y z : Int) (k : Bool → Option R) : G_cubic_size cp (n + 5) [x, y, z] k = k (decide ((0 ≤ x ∧ x ≤ 1073741824) ∧ (0 ≤ y ∧ y ≤ 1073741824) ∧ (0 ≤ z ∧ z ≤ 1073741824))) := by
  simp only [G_cubic_size, s_cubic_size_1, s_cubic_size_3, s_cubic_size_5, s_cubic_size_11, s_cubic_size_12, s_cubic_size_13, s_cubic_size_14, s_cubic_size_17, s_cubic_size_19]
  refine (csize_loop cp (n + 4) [x, y, z] (k false) (k true) (by simp) [x, y, z] 0 (n + 4) rfl (by simp) (by simp)).trans ?_
  simp only [List.all_cons, List.all_nil, Bool.and_true]
  have key : ∀ (p q r : Prop) [Decidable p] [Decidable q] [Decidable r], cond (decide p && (decide q && decide r)) (k true) (k false) = k (decide (p ∧ q ∧ r)) := fun p q r _ _ _ => by
    by_cases a : p <;> by_cases b : q <;> by_cases c : r <;> simp [a, b, c]
  exact key _ _ _
theorem Check_k (c : SCc) (k : Int → Option R) (h0 : -9223372036854775808 ≤ c.xMss) (h1 : c.xMss ≤ 9223372036854775807) : G_cubic_Check cp (n + 6) c k = k (if CubOk c then 0 else 230) := by
  have neg : ∀ (p : Prop) [Decidable p] (x : Option R), cond (decide p) (k 230) x = cond (decide (¬ p)) x (k 230) := fun p _ x => cneg
  rw [← kif k]
  simp only [G_cubic_Check]
  rw [rCheck_k cp (n + 3) _ _ (by exact h0) (by exact h1)]
  have e : ∀ (p : Prop) [Decidable p], ((if p then (0 : Int) else 230) = 0) ↔ p := fun p _ => by split <;> simp [*]
  simp only [csize3_k cp n, cnn, e]
  simp only [neg, cdd]
  refine ciff ?_
  simp only [CubOk, Com, NoCub, NoBbr, true_and]
  omega
theorem by_k (a b c : Int) (k : Int → Option R) (hn : 4 ≤ n) (a1 : a ≤ 9223372036854775807) (b1 : b ≤ 9223372036854775807) (c1 : c ≤ 9223372036854775807) : G_cubic_by cp (n + 2) a b c k = k (mdv a b c) := by
  simp only [G_cubic_by]
  rw [MulDiv_k cp n a b c _ hn a1 b1 c1]
/-- What is known of a controller's numbers at any rate. -/
structure InR (c : SCc) : Prop where
  mss : -9223372036854775808 ≤ c.xMss ∧ c.xMss ≤ 9223372036854775807
  k : -9223372036854775808 ≤ c.xK ∧ c.xK ≤ 9223372036854775807
theorem Curve_k (c : SCc) (t : Int) (k : Int → Option R) (hn : 10 ≤ n) (hc : InR c) (t0 : -9223372036854775808 ≤ t) (t1 : t ≤ 9223372036854775807) : G_cubic_Curve cp (n + 1) c t k = k (curveO c t) := by
  obtain ⟨m, rfl⟩ : ∃ m, n = m + 10 := ⟨n - 10, by omega⟩
  simp only [G_cubic_Curve, s_cubic_Curve_1, s_cubic_Curve_4, s_cubic_Curve_7]
  rw [Check_k cp (m + 4) c _ hc.mss.1 hc.mss.2]
  unfold curveO
  by_cases h : CubOk c
  case neg => rw [if_neg h, if_neg h]; rfl
  rw [if_pos h, if_pos h, cnt rfl]
  have hK : wr .i64 (0 - c.xK) = -c.xK := by rw [w64_id (by omega) (by omega)]; omega
  have hM : wr .i64 (4 * c.xMss) = 4 * c.xMss := w64_id (by omega) (by omega)
  rw [hK, hM, Sum_k cp (m + 9) _ _ _ t0 t1 (by omega) (by omega), Clamp_k]
  have hd : max (-1000000) (min (satw (t + -c.xK)) 1000000) = distO c t := by unfold distO satw; omega
  rw [hd]
  have d0 : -1000000 ≤ distO c t := by unfold distO; omega
  have d1 : distO c t ≤ 1000000 := by unfold distO; omega
  obtain ⟨e1, e2⟩ := cube_ok d0 d1
  rw [e1, by_k cp (m + 8) _ _ _ _ (by omega) e2 (by omega) (by omega)]
  show cond _ (_ ) _ = _
  have hv := mdv_range (max (distO c t) (-distO c t) * max (distO c t) (-distO c t) * max (distO c t) (-distO c t)) (4 * c.xMss) 10000000000
  unfold cubeO
  generalize mdv _ (4 * c.xMss) 10000000000 = v at *
  have hw : wr .i64 (0 - v) = -v := by rw [w64_id (by omega) (by omega)]; omega
  rw [hw]
  by_cases c1 : distO c t < 0
  · rw [ct c1, if_pos c1, Sum_k cp (m + 9) _ _ _ (by omega) (by omega) (by omega) (by omega), Clamp_k]
    congr 1; unfold satw; omega
  · rw [cf c1, if_neg c1, Sum_k cp (m + 9) _ _ _ (by omega) (by omega) (by omega) (by omega), Clamp_k]
    congr 1; unfold satw; omega
end
end
end Go.Proofs.Ytgnoidblkenglaa.M
