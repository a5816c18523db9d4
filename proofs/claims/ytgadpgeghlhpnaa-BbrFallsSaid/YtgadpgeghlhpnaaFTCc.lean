/- Controllers: the same controller is the same; what Reno's and the document's tests say, in plain words. -/
import Derived.Test.YtgadpgeghlhpnaaFTKit
set_option linter.unusedVariables false
set_option linter.unusedSimpArgs false
namespace Go.Proofs.Ytgadpgeghlhpnaa.M
open Go Go.RowKit
theorem SameCc_loop {R : Type} (cp : Nat → Nat → Bool) (n : Nat) (c : SCc) (kr ke : Option R) (hl : c.xBw.length < 9223372036854775807) : ∀ (r : List SEntry) (i m : Nat), c.xBw.drop i = r → i ≤ c.xBw.length → r.length + 1 ≤ m → l_ref15_Same_11 cp n m c c (i : Int) kr ke = ke
  | [], i, 0, h, hi, hk => by simp at hk
  | [], i, m + 1, h, hi, hk => by
    have := drop_nil h
    simp only [l_ref15_Same_11, G_ref15_Same, s_ref15_Same_1, s_ref15_Same_4, s_ref15_Same_5, s_ref15_Same_7, s_ref15_Same_12, s_ref15_Same_13, s_ref15_Same_14, s_ref15_Same_15, s_ref15_Same_18, s_ref15_Same_20, s_ref15_Same_22]
    rw [cf (by omega)]
  | x :: r, i, 0, h, hi, hk => by simp at hk
  | x :: r, i, m + 1, h, hi, hk => by
    obtain ⟨h1, h2⟩ := drop_lt h
    simp only [l_ref15_Same_11, G_ref15_Same, s_ref15_Same_1, s_ref15_Same_4, s_ref15_Same_5, s_ref15_Same_7, s_ref15_Same_12, s_ref15_Same_13, s_ref15_Same_14, s_ref15_Same_15, s_ref15_Same_18, s_ref15_Same_20, s_ref15_Same_22]
    rw [ct (by omega), ct (by omega), ct (by omega), ct (by omega), ct (by omega)]
    simp only [decide_true, Bool.and_self, Bool.not_true, cond_false]
    rw [succ_w (by omega)]
    exact SameCc_loop cp n c kr ke hl r (i + 1) m h2 (by omega) (by simpa using hk)
theorem SameCc_k {R : Type} (cp : Nat → Nat → Bool) (n : Nat) (c : SCc) (k : Bool → Option R) (hl : c.xBw.length < 9223372036854775807) (hn : c.xBw.length + 1 ≤ n) : G_ref15_Same cp (n + 1) c c k = k true := by
  simp only [G_ref15_Same, s_ref15_Same_1, s_ref15_Same_4, s_ref15_Same_5, s_ref15_Same_7, s_ref15_Same_12, s_ref15_Same_13, s_ref15_Same_14, s_ref15_Same_15, s_ref15_Same_18, s_ref15_Same_20, s_ref15_Same_22, decide_true, Bool.not_true, cond_false]
  exact SameCc_loop cp n c _ _ hl _ 0 n rfl (by omega) (by simpa using hn)
/-- Has a controller nothing that Reno has not? (but for what Cubic has, and what Bbr has) -/
abbrev NoCub (c : SCc) : Prop := c.xWmax = 0 ∧ c.xEpoch = 0 ∧ c.xK = 0 ∧ c.xWest = 0 ∧ c.xStart = 0
abbrev NoBbr (c : SCc) : Prop := c.xMode = 0 ∧ (c.xBw.length : Int) = 0 ∧ c.xMinRtt = 0 ∧ c.xMinAt = 0 ∧ c.xRound = 0 ∧ c.xNextAt = 0 ∧ c.xFull = 0 ∧ c.xFullN = 0 ∧ c.xPhase = 0 ∧ c.xPhaseAt = 0 ∧ c.xDoneAt = 0 ∧ c.xPrior = 0
/-- What all controllers have. -/
abbrev Com (c : SCc) : Prop := 1 ≤ c.xMss ∧ c.xMss ≤ 65000 ∧ c.xMss ≤ c.xCwnd ∧ c.xCwnd ≤ 1073741824 ∧ 2 * c.xMss ≤ c.xSsthresh ∧ c.xSsthresh ≤ 1073741824 ∧ 0 ≤ c.xAcc ∧ c.xAcc ≤ 1073741824
section
variable {R : Type} (cp : Nat → Nat → Bool) (n : Nat)
theorem Size15_k (x : Int) (k : Bool → Option R) : G_ref15_Size cp (n + 1) x k = k (decide (0 ≤ x ∧ x ≤ 1073741824)) := by
  simp only [G_ref15_Size]
  exact cdk k
theorem Plain15_k (c : SCc) (a b : Bool) (k : Bool → Option R) : G_ref15_Plain cp (n + 1) c a b k = k (decide ((a = true ∨ NoCub c) ∧ (b = true ∨ NoBbr c))) := by
  have neg : ∀ (p : Prop) [Decidable p] (x : Option R), cond (decide p) (k false) x = cond (decide (¬ p)) x (k false) := fun p _ x => cneg
  have fin : ∀ (p q : Prop) [Decidable p] [Decidable q], (p ↔ q) → cond (decide p) (k true) (k false) = k (decide q) := fun p q _ _ h => by
    by_cases g : q
    · rw [ct (h.2 g), decide_eq_true g]
    · rw [cf (fun e => g (h.1 e)), decide_eq_false g]
  cases a <;> cases b <;> simp only [G_ref15_Plain, s_ref15_Plain_1, s_ref15_Plain_4, s_ref15_Plain_7, Bool.not_true, Bool.not_false, cond_true, cond_false, cnn] <;> (try simp only [neg, cdd])
  · exact fin _ _ (by simp only [Bool.false_eq_true, false_or]; omega)
  · exact fin _ _ (by simp only [Bool.false_eq_true, false_or, true_or, and_true])
  · exact fin _ _ (by simp only [Bool.false_eq_true, false_or, true_or, true_and]; omega)
  · congr 1
end
end Go.Proofs.Ytgadpgeghlhpnaa.M
