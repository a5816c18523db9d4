/- The machine's code of the functions, and that it computes them. -/
import Derived.Test.YtliknmgcnipbkaaGG1a
import Derived.Test.YtliknmgcnipbkaaProg
import Derived.KernelRfl
set_option maxRecDepth 100000
set_option linter.unusedVariables false
set_option linter.unusedSimpArgs false
namespace Go.Proofs.Ytliknmgcnipbkaa.M
open Go
noncomputable section
theorem ok_reno_New {R : Type} {r : R} : ∀ {n : Nat}, (∀ m, n = m + 1 → CallOk2 (R := R) U (callP capB m) (runF tbl m)) → ∀ {av : Fr} {cs : List Fr} {k : Ret2 RW → Option R}, ca_reno_New capB n av cs k = some r → ∃ q : Ret2 RW, runF tbl n 38 (TV.los U av) (cs.map (TV.los U)) = some (q.lo U) ∧ k q = some r := by
  intro n ih av cs k h
  unfold ca_reno_New at h
  split at h
  · simp only [Option.bind_eq_some_iff] at h
    obtain ⟨p0, h0, p1, h1, h⟩ := h
    obtain rfl := dI_ok h0
    obtain rfl := dI_ok h1
    cases n with
    | zero => cases h
    | succ n =>
      exact run2_ok UOk (ih n rfl) (f := fn_reno_New) rfl ((run_reno_New capB n p0 p1 k).symm.trans h)
  · cases h
theorem ok_cubic_New {R : Type} {r : R} : ∀ {n : Nat}, (∀ m, n = m + 1 → CallOk2 (R := R) U (callP capB m) (runF tbl m)) → ∀ {av : Fr} {cs : List Fr} {k : Ret2 RW → Option R}, ca_cubic_New capB n av cs k = some r → ∃ q : Ret2 RW, runF tbl n 16 (TV.los U av) (cs.map (TV.los U)) = some (q.lo U) ∧ k q = some r := by
  intro n ih av cs k h
  unfold ca_cubic_New at h
  split at h
  · simp only [Option.bind_eq_some_iff] at h
    obtain ⟨p0, h0, p1, h1, h⟩ := h
    obtain rfl := dI_ok h0
    obtain rfl := dI_ok h1
    cases n with
    | zero => cases h
    | succ n =>
      exact run2_ok UOk (ih n rfl) (f := fn_cubic_New) rfl ((run_cubic_New capB n p0 p1 k).symm.trans h)
  · cases h
theorem ok_law16_heads {R : Type} {r : R} : ∀ {n : Nat}, (∀ m, n = m + 1 → CallOk2 (R := R) U (callP capB m) (runF tbl m)) → ∀ {av : Fr} {cs : List Fr} {k : Ret2 RW → Option R}, ca_law16_heads capB n av cs k = some r → ∃ q : Ret2 RW, runF tbl n 15 (TV.los U av) (cs.map (TV.los U)) = some (q.lo U) ∧ k q = some r := by
  intro n ih av cs k h
  unfold ca_law16_heads at h
  split at h
  · cases n with
    | zero => cases h
    | succ n =>
      exact run2_ok UOk (ih n rfl) (f := fn_law16_heads) rfl ((run_law16_heads capB n  k).symm.trans h)
  · cases h
theorem ok_law16_CubicGrows {R : Type} {r : R} : ∀ {n : Nat}, (∀ m, n = m + 1 → CallOk2 (R := R) U (callP capB m) (runF tbl m)) → ∀ {av : Fr} {cs : List Fr} {k : Ret2 RW → Option R}, ca_law16_CubicGrows capB n av cs k = some r → ∃ q : Ret2 RW, runF tbl n 3 (TV.los U av) (cs.map (TV.los U)) = some (q.lo U) ∧ k q = some r := by
  intro n ih av cs k h
  unfold ca_law16_CubicGrows at h
  split at h
  · simp only [Option.bind_eq_some_iff] at h
    obtain ⟨c0_, h0, p0, g0, p1, h1, p2, h2, p3, h3, p4, h4, h⟩ := h
    obtain rfl := dA_ok h0
    obtain rfl := dCc_ok g0
    obtain rfl := dI_ok h1
    obtain rfl := dI_ok h2
    obtain rfl := dI_ok h3
    obtain rfl := dB_ok h4
    cases n with
    | zero => cases h
    | succ n =>
      exact run2_ok UOk (ih n rfl) (f := fn_law16_CubicGrows) rfl ((run_law16_CubicGrows capB n p0 p1 p2 p3 p4 k).symm.trans h)
  · cases h
theorem callOk {R : Type} : ∀ n, CallOk2 (R := R) U (callP capB n) (runF tbl n)
  | n => fun id av cells k r h => by
    have ih : ∀ m, n = m + 1 → CallOk2 (R := R) U (callP capB m) (runF tbl m) := fun m e => callOk m
    unfold callP at h
    split at h
    · exact ok_reno_size ih h
    · exact ok_reno_ctl_plain ih h
    · exact ok_reno_Check ih h
    · exact ok_cubic_size ih h
    · exact ok_cubic_Check ih h
    · exact ok_math_bits_Mul64 ih h
    · exact ok_math_bits_Len64 ih h
    · exact ok_math_bits_LeadingZeros64 ih h
    · exact ok_math_bits_Div64 ih h
    · exact ok_seq_MulDiv ih h
    · exact ok_cubic_by ih h
    · exact ok_seq_Cbrt ih h
    · exact ok_cubic_ctl_begin ih h
    · exact ok_seq_Sum ih h
    · exact ok_seq_Clamp ih h
    · exact ok_cubic_Curve ih h
    · exact ok_cubic_ctl_grow ih h
    · exact ok_cubic_Acked ih h
    · exact ok_ref15_Size ih h
    · exact ok_ref15_Common ih h
    · exact ok_ref15_Plain ih h
    · exact ok_ref16_Check ih h
    · exact ok_ref16_time ih h
    · exact ok_ref01_MulDiv ih h
    · exact ok_ref01_Cbrt ih h
    · exact ok_ref01_Sum ih h
    · exact ok_ref01_Clamp ih h
    · exact ok_ref16_Curve ih h
    · exact ok_ref16_Acked ih h
    · exact ok_ref15_Same ih h
    · exact ok_cubic_ctl_fall ih h
    · exact ok_cubic_moved ih h
    · exact ok_cubic_Loss ih h
    · exact ok_reno_New ih h
    · exact ok_cubic_New ih h
    · exact ok_law16_heads ih h
    · exact ok_law16_CubicGrows ih h
    · cases h
termination_by n => n
decreasing_by omega
end
end Go.Proofs.Ytliknmgcnipbkaa.M
