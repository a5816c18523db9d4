/- A row of spans is the same as itself. -/
import Derived.Test.YtapelpfcflgjkaaCTKit
set_option linter.unusedVariables false
set_option linter.unusedSimpArgs false
namespace Go.Proofs.Ytapelpfcflgjkaa.M
open Go Go.RowKit
theorem Same06_loop {R : Type} (cp : Nat → Nat → Bool) (n : Nat) (l : List SSpan) (kr ke : Option R) (hl : l.length < 9223372036854775807) : ∀ (r : List SSpan) (i m : Nat), l.drop i = r → i ≤ l.length → r.length + 1 ≤ m → l_ref06_Same_10 cp n m l l (i : Int) kr ke = ke
  | [], i, 0, h, hi, hk => by simp at hk
  | [], i, m + 1, h, hi, hk => by
    have := drop_nil h
    simp only [l_ref06_Same_10, s_ref06_Same_6]
    rw [cf (by omega)]
  | x :: r, i, 0, h, hi, hk => by simp at hk
  | x :: r, i, m + 1, h, hi, hk => by
    obtain ⟨h1, h2⟩ := drop_lt h
    simp only [l_ref06_Same_10, s_ref06_Same_6]
    rw [ct (by omega), ct (by omega), ct (by omega), ct (by omega), ct (by omega)]
    simp only [decide_true, Bool.and_self, Bool.not_true, cond_false]
    rw [succ_w (by omega)]
    exact Same06_loop cp n l kr ke hl r (i + 1) m h2 (by omega) (by simpa using hk)
theorem Same06_k {R : Type} (cp : Nat → Nat → Bool) (n : Nat) (l : List SSpan) (k : Bool → Option R) (hl : l.length < 9223372036854775807) (hn : l.length + 1 ≤ n) : G_ref06_Same cp (n + 1) l l k = k true := by
  show cond (!decide ((l.length : Int) = (l.length : Int))) (k false) (l_ref06_Same_10 cp n n l l ((0 : Nat) : Int) (k false) (k true)) = _
  rw [cnt rfl]
  exact Same06_loop cp n l _ _ hl l 0 n rfl (by omega) (by omega)
end Go.Proofs.Ytapelpfcflgjkaa.M
