/- Plain facts that the laws' proofs lean on. -/
import Derived.Test.YtafnmkbehjbkdaaAG0
import Derived.KernelRfl
set_option linter.unusedVariables false
set_option linter.unusedSimpArgs false
namespace Go.Proofs.Ytafnmkbehjbkdaa.M
open Go Go.RowKit
section
variable {α : Type}
theorem ct {p : Prop} [Decidable p] {a b : α} (h : p) : cond (decide p) a b = a := by rw [decide_eq_true h]; rfl
theorem cf {p : Prop} [Decidable p] {a b : α} (h : ¬ p) : cond (decide p) a b = b := by rw [decide_eq_false h]; rfl
theorem cT {α : Type} {b : Bool} {x y : α} (h : b = true) : cond b x y = x := by rw [h]; rfl
theorem cF {α : Type} {b : Bool} {x y : α} (h : b = false) : cond b x y = y := by rw [h]; rfl
theorem cite {p : Prop} [Decidable p] {a b : α} : cond (decide p) a b = if p then a else b := by
 by_cases h : p
 ·rw [ct h, if_pos h]
 ·rw [cf h, if_neg h]
theorem cnt {p : Prop} [Decidable p] {a b : α} (h : p) : cond (!decide p) a b = b := by rw [decide_eq_true h]; rfl
theorem cnf {p : Prop} [Decidable p] {a b : α} (h : ¬ p) : cond (!decide p) a b = a := by rw [decide_eq_false h]; rfl
theorem cap_ok {n b : Nat} {x y : α} (h : n * b ≤ 140737488355328) : cond (capB n b) x y = x := by rw [capB_iff.2 h]; rfl
end
theorem w64_id {n : Int} (h0 : -9223372036854775808 ≤ n) (h1 : n ≤ 9223372036854775807) : wr .i64 n = n := by show w64 n = n; rw [w64_eq]; unfold wrap64; omega
theorem wi64 (n : Int) : wr .i64 n = (n + 9223372036854775808) % 18446744073709551616 - 9223372036854775808 := by show w64 n = _; rw [w64_eq]; unfold wrap64; rfl
theorem wu32 (n : Int) : wr .u32 n = n % 4294967296 := rfl
theorem wi32 (n : Int) : wr .i32 n = (n + 2147483648) % 4294967296 - 2147483648 := by show IntKind.i32.wrap n = _; simp [IntKind.wrap, IntKind.bits, IntKind.signed]; omega
theorem wu64 (n : Int) : wr .u64 n = n % 18446744073709551616 := by show IntKind.u64.wrap n = _; simp [IntKind.wrap, IntKind.bits, IntKind.signed]
theorem mn_min (a b : Int) : mn a b = min a b := by unfold mn; split <;> omega
theorem mx_max (a b : Int) : mx a b = max a b := by unfold mx; split <;> omega
theorem drop_lt {α : Type} {l : List α} {i : Nat} {x : α} {r : List α} (h : l.drop i = x :: r) : i < l.length ∧ l.drop (i + 1) = r := by
 have h1 : i < l.length := by
  rcases Nat.lt_or_ge i l.length with h1 | h1
  ·exact h1
  ·rw [List.drop_eq_nil_of_le h1] at h; exact absurd h (by simp)
 have h2 := List.drop_eq_getElem_cons h1
 rw [h] at h2
 simp only [List.cons.injEq] at h2
 exact ⟨h1, h2.2.symm⟩
theorem drop_nil {α : Type} {l : List α} {i : Nat} (h : l.drop i = []) : l.length ≤ i := by
 rcases Nat.lt_or_ge i l.length with h1 | h1
 ·rw [List.drop_eq_getElem_cons h1] at h; cases h
 ·exact h1
theorem rd_at {α : Type} {z : α} {l : List α} {i : Nat} {x : α} {r : List α} (h : l.drop i = x :: r) : l.getD (Int.toNat (i : Int)) z = x := by
 obtain ⟨h1, _⟩ := drop_lt h
 have h2 := List.drop_eq_getElem_cons h1
 rw [h] at h2
 rw [Int.toNat_natCast, List.getD_eq_getElem?_getD, List.getElem?_eq_getElem h1]
 simp only [List.cons.injEq] at h2
 rw [h2.1]; rfl
theorem succ_w {i : Nat} (h : i < 9223372036854775807) : wr .i64 ((i : Int) + 1) = ((i + 1 : Nat) : Int) := by rw [w64_id (by omega) (by omega)]; rfl
end Go.Proofs.Ytafnmkbehjbkdaa.M
