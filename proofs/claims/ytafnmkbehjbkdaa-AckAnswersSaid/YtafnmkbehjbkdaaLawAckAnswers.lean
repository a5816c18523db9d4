-- Printed by a session's program (wip/tools/mg3.py) out of the translation. Lean checks it.
import Derived.Test.YtafnmkbehjbkdaaRows
import Derived.Test.YtafnmkbehjbkdaaAG1
import Derived.Test.YtafnmkbehjbkdaaMachY
import Derived.Test.YtafnmkbehjbkdaaMachZ
import Derived.Test.YtafnmkbehjbkdaaPuAckAnswers
import Derived.Test.YtafnmkbehjbkdaaPureAckAnswers
import Derived.WalkKit
import Derived.ProofKit
import Derived.OpenShut
import Derived.ShutString
import Derived.ChangeOld
import Derived.Below
import Derived.SizedLaws
namespace Go.Proofs.Ytafnmkbehjbkdaa.ackAnswers
open Go.ChangeShapes Go.WideShapes Go.ChangeAt Go.RowKit Go.Proofs.Ytafnmkbehjbkdaa.M Go.Proofs.Ytafnmkbehjbkdaa.M.LawAckAnswers
set_option linter.unusedVariables false
set_option linter.unusedSimpArgs false
theorem own : ownKnob Try.prog.godebug = none := by kernel_rfl
theorem laidOut : laidOutB Try.prog = true := by kernel_rfl
theorem walk (P : Pure) (M : Nat) (a0 : Int) (a1 : (List Int)) (a2 : (List Int)) (w : World) (vs : List Value) (h0 : Rng .u32 a0) (h1 : a1.length ≤ 9223372036854775807 ∧ a1.length * 8 ≤ 140737488351232 ∧ a1.length ≤ M ∧ ∀ y ∈ a1, Rng .i64 y) (h2 : a2.length ≤ 9223372036854775807 ∧ a2.length * 1 ≤ 140737488351232 ∧ a2.length ≤ M ∧ ∀ y ∈ a2, Rng .u8 y) (ha : ArgsOk w (TV.los U [(tI .u32 a0), .row false (.rint a1), .row false (.ruint8 a2)]) vs) :
    Calls Try.prog 3 vs.toArray w fun e w' => e = .returned (.bool true) ∧ Below w.heap.size w w' := by
  obtain ⟨n, h⟩ := P M a0 a1 a2 h0 h1 h2
  have hc : callP capB n 3 [(tI .u32 a0), .row false (.rint a1), .row false (.ruint8 a2)] [] (fun q => some q) = some ⟨tB true, [], []⟩ := (show callP capB n 3 [(tI .u32 a0), .row false (.rint a1), .row false (.ruint8 a2)] [] (fun q => some q) = G3 capB n a0 a1 a2 (fun r => some ⟨tB r, [], []⟩) from by kernel_rfl).trans (h _ _)
  obtain ⟨q, h1, h2⟩ := callOk n _ _ _ _ _ hc
  cases h2
  exact law_calls plugs chkAll (f := fn3.lo U) rfl rfl h1 ha
set_option maxRecDepth 100000 in
set_option maxHeartbeats 4000000 in
theorem lifted (os : Os) (started : os.Started) (H : Type) (enc : TypeId × Value → H) :
    ReturnsInHanded {} Try.checked os 3 .any (Rows.ackAnswersSpec.pre6 enc Try.prog Try.f3 Rows.ackAnswersRow.domain false) (Rows.ackAnswersSpec.post enc Try.prog Try.f3 false true false false) := by
  refine returnsInHanded_of_change_sized (C := Try.checked) own started (by kernel_rfl) Try.func3
    (ChangeSpec.witness6 (enc := enc) (C := Try.checked) false ⟨#[], #[.int .u32 0, .slice none 0 0, .slice none 0 0], []⟩ 8 (by kernel_rfl) (by kernel_rfl) (by kernel_rfl) (by kernel_rfl)) ?_
  intro W base args ds gs before hval0 hW hcnd hsz0 _
  have hsz : (DataW.weightsEach Try.prog (Try.f3.params.toList ++ Rows.ackAnswersSpec.plain.varTypes Try.prog) (ds ++ gs)).all (· ≤ reachBytes) = true := hsz0
  have hval : ∀ (j : Nat) t v, Try.f3.params[j]? = some t → args[j]? = some v → Value.okWide Try.prog W .any base t v := hval0
  have hW' := hW
  obtain ⟨p, q, hA0, hV, rfl, hfz, hnd⟩ := hW
  have hA : DataW.TrodAll enc Try.prog W 0 (fun _ => true) true Try.f3.params.toList args.toList ds p := hA0
  rw [Try.params3] at hA hval hsz
  obtain ⟨v0, vs0, d0, ds0, p0, q0, hargs, rfl, rfl, h0, r0⟩ := trodAll_cons hA
  obtain ⟨v1, vs1, d1, ds1, p1, q1, rfl, rfl, rfl, h1, r1⟩ := trodAll_cons r0
  obtain ⟨v2, vs2, d2, ds2, p2, q2, rfl, rfl, rfl, h2, r2⟩ := trodAll_cons r1
  obtain ⟨rfl, rfl, rfl⟩ := trodAll_nil r2
  obtain rfl : args = #[v0, v1, v2] := by cases args; simp_all
  obtain ⟨rfl, rfl⟩ := trodVars_none hV
  obtain ⟨M, hbulk⟩ : ∃ M, Rows.uptoBulkAll ([d0, d1, d2] : List (DataW H)) ≤ M := ⟨_, Nat.le_refl _⟩
  have k0 := h0
  have lt0 : ∀ x ∈ p0, x.block < W.heap.size := by obtain ⟨m, hm⟩ := k0; exact DataW.trod_lt m _ _ _ hm
  have fit0 : Fit Try.prog M 22 d0 := fit_arg (j := 0) hsz rfl rfl (bulk_arg (j := 0) hbulk rfl)
  obtain ⟨fu0, hf0⟩ := h0
  obtain ⟨a0, hC0, hG0⟩ := ((opens_int Try.underlying22) : Opens Sp Try.prog M 22 _ _) (okWide_cells (hval 0 22 v0 rfl rfl)).1 hf0 fit0
  obtain ⟨u0, hu0, hV0⟩ := c0_inv hC0
  have hw0 : v0 = u0 := by
    rcases (okWide_cells (hval 0 22 v0 rfl rfl)).2 with ⟨cs, rfl⟩ | hx
    · exact absurd (hval 0 22 _ rfl rfl) (by intro hx; simp only [Value.okWide, Try.underlying22] at hx; exact absurd hx (by simp [Cell.okWide, Cell.ok, Try.underlying22]))
    · rw [hx] at hu0; simpa using hu0
  subst hw0
  have ha0 := fun L => arg1 (L := L) hV0
  have k1 := h1
  have lt1 : ∀ x ∈ p1, x.block < W.heap.size := by obtain ⟨m, hm⟩ := k1; exact DataW.trod_lt m _ _ _ hm
  have fit1 : Fit Try.prog M 23 d1 := fit_arg (j := 1) hsz rfl rfl (bulk_arg (j := 1) hbulk rfl)
  obtain ⟨fu1, hf1⟩ := h1
  obtain ⟨a1, hC1, hG1⟩ := ((opens_slice (c := cint) (z := zint) (sz := 1) Try.underlying23 (by kernel_rfl) (fun _ => rfl) (by decide) (opens_int Try.underlying3)) : Opens Sp Try.prog M 23 _ _) (okWide_cells (hval 1 23 v1 rfl rfl)).1 hf1 fit1
  obtain ⟨u1, hu1, hV1⟩ := c0_inv hC1
  have hw1 : v1 = u1 := by
    rcases (okWide_cells (hval 1 23 v1 rfl rfl)).2 with ⟨cs, rfl⟩ | hx
    · exact absurd (hval 1 23 _ rfl rfl) (by intro hx; simp only [Value.okWide, Try.underlying23] at hx; exact absurd hx (by simp [Cell.okWide, Cell.ok, Try.underlying23]))
    · rw [hx] at hu1; simpa using hu1
  subst hw1
  have ha1 := fun L => arg1 (L := L) hV1
  have k2 := h2
  have lt2 : ∀ x ∈ p2, x.block < W.heap.size := by obtain ⟨m, hm⟩ := k2; exact DataW.trod_lt m _ _ _ hm
  have fit2 : Fit Try.prog M 24 d2 := fit_arg (j := 2) hsz rfl rfl (bulk_arg (j := 2) hbulk rfl)
  obtain ⟨fu2, hf2⟩ := h2
  obtain ⟨a2, hC2, hG2⟩ := ((opens_slice (c := cuint8) (z := zuint8) (sz := 1) Try.underlying24 (by kernel_rfl) (fun _ => rfl) (by decide) (opens_int Try.underlying5)) : Opens Sp Try.prog M 24 _ _) (okWide_cells (hval 2 24 v2 rfl rfl)).1 hf2 fit2
  obtain ⟨u2, hu2, hV2⟩ := c0_inv hC2
  have hw2 : v2 = u2 := by
    rcases (okWide_cells (hval 2 24 v2 rfl rfl)).2 with ⟨cs, rfl⟩ | hx
    · exact absurd (hval 2 24 _ rfl rfl) (by intro hx; simp only [Value.okWide, Try.underlying24] at hx; exact absurd hx (by simp [Cell.okWide, Cell.ok, Try.underlying24]))
    · rw [hx] at hu2; simpa using hu2
  subst hw2
  have ha2 := fun L => arg1 (L := L) hV2
  refine (walk Pure.AckAnswers M a0 a1 a2 W [v0, v1, v2] hG0 hG1 hG2 (args_cons ha0 (args_cons ha1 (args_cons ha2 (args_nil _))))).mono fun e W' ⟨he, bel⟩ => ?_
  subst he
  exact ⟨_, rfl, _, _, _, [], _, [], hW', trodAll_mk1 (shut_bool Try.underlying4 _), (trodAll_cons_mk (Below.trod laidOut (by kernel_rfl) (of_decide_eq_true (by kernel_rfl)) k0 bel lt0) (trodAll_cons_mk (Below.trod laidOut (by kernel_rfl) (of_decide_eq_true (by kernel_rfl)) k1 bel lt1) (trodAll_cons_mk (Below.trod laidOut (by kernel_rfl) (of_decide_eq_true (by kernel_rfl)) k2 bel lt2) trodAll_mk0))), rfl, bel.frame _, fun h => by cases h⟩
theorem over : Rows.ackAnswersRow.holds Try.pinned (OpenSpec.ofChange Rows.ackAnswersSpec) :=
  OpenClaim.holds_of_wide 3 Try.f3 rfl rfl rfl rfl rfl rfl rfl ⟨rfl, rfl, rfl, rfl, rfl⟩ rfl rfl rfl rfl rfl (by kernel_rfl) Try.func3 (by kernel_rfl)
    (of_decide_eq_true (by kernel_rfl)) (by unfold Func.isWrapper; first | (rw [if_pos (by decide +kernel)]; kernel_rfl) | (rw [if_neg (by decide +kernel)]; exact ⟨rfl, rfl⟩))
    (fun os started H enc _ => lifted os started H enc)
theorem proved : Rows.AckAnswersSaid := over
#print axioms proved
end Go.Proofs.Ytafnmkbehjbkdaa.ackAnswers
namespace Go.Proofs.Ytafnmkbehjbkdaa
/-- The row, under a short name, for the claim. -/
theorem ackAnswers_holds : Rows.AckAnswersSaid := ackAnswers.proved
end Go.Proofs.Ytafnmkbehjbkdaa
