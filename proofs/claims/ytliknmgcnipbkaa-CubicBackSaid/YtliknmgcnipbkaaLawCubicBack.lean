-- Printed by a session's program (wip/tools/mg3.py) out of the translation. Lean checks it.
import Derived.Test.YtliknmgcnipbkaaRows
import Derived.Test.YtliknmgcnipbkaaBG1
import Derived.Test.YtliknmgcnipbkaaMachY
import Derived.Test.YtliknmgcnipbkaaPuCubicBack
import Derived.Test.YtliknmgcnipbkaaPureCubicBack
import Derived.WalkKit
import Derived.ProofKit
import Derived.OpenShut
import Derived.ShutString
import Derived.ChangeOld
import Derived.Below
import Derived.SizedLaws
namespace Go.Proofs.Ytliknmgcnipbkaa.cubicBack
open Go.ChangeShapes Go.WideShapes Go.ChangeAt Go.RowKit Go.Proofs.Ytliknmgcnipbkaa.M Go.Proofs.Ytliknmgcnipbkaa.M.LawCubicBack
set_option linter.unusedVariables false
set_option linter.unusedSimpArgs false
theorem own : ownKnob Try.prog.godebug = none := by kernel_rfl
theorem laidOut : laidOutB Try.prog = true := by kernel_rfl
theorem walk (P : Pure) (M : Nat) (a0 : Int) (w : World) (vs : List Value) (h0 : Rng .i64 a0) (ha : ArgsOk w (TV.los U [(tL a0)]) vs) :
    Calls Try.prog 6 vs.toArray w fun e w' => e = .returned (.bool true) ∧ Below w.heap.size w w' := by
  obtain ⟨n, h⟩ := P M a0 h0
  have hc : callP capB n 6 [(tL a0)] [] (fun q => some q) = some ⟨tB true, []⟩ := (show callP capB n 6 [(tL a0)] [] (fun q => some q) = G_law16_CubicBack capB n a0 (fun r => some ⟨tB r, []⟩) from by kernel_rfl).trans (h _ _)
  obtain ⟨q, h1, h2⟩ := callOk n _ _ _ _ _ hc
  cases h2
  exact law_calls chkAll (f := fn_law16_CubicBack.lo U) rfl rfl h1 ha
set_option maxRecDepth 100000 in
set_option maxHeartbeats 4000000 in
theorem lifted (os : Os) (started : os.Started) (H : Type) (enc : TypeId × Value → H) :
    ReturnsInHanded {} Try.checked os 6 .any (Rows.cubicBackSpec.pre6 enc Try.prog Try.f6 Rows.cubicBackRow.domain false) (Rows.cubicBackSpec.post enc Try.prog Try.f6 false true false false) := by
  refine returnsInHanded_of_change_sized (C := Try.checked) own started (by kernel_rfl) Try.func6
    (ChangeSpec.witness6 (enc := enc) (C := Try.checked) false ⟨#[], #[.int .i64 0], []⟩ 8 (by kernel_rfl) (by kernel_rfl) (by kernel_rfl) (by kernel_rfl)) ?_
  intro W base args ds gs before hval0 hW hcnd hsz0 _
  have hsz : (DataW.weightsEach Try.prog (Try.f6.params.toList ++ Rows.cubicBackSpec.plain.varTypes Try.prog) (ds ++ gs)).all (· ≤ reachBytes) = true := hsz0
  have hval : ∀ (j : Nat) t v, Try.f6.params[j]? = some t → args[j]? = some v → Value.okWide Try.prog W .any base t v := hval0
  have hW' := hW
  obtain ⟨p, q, hA0, hV, rfl, hfz, hnd⟩ := hW
  have hA : DataW.TrodAll enc Try.prog W 0 (fun _ => true) true Try.f6.params.toList args.toList ds p := hA0
  rw [Try.params6] at hA hval hsz
  obtain ⟨v0, vs0, d0, ds0, p0, q0, hargs, rfl, rfl, h0, r0⟩ := trodAll_cons hA
  obtain ⟨rfl, rfl, rfl⟩ := trodAll_nil r0
  obtain rfl : args = #[v0] := by cases args; simp_all
  obtain ⟨rfl, rfl⟩ := trodVars_none hV
  obtain ⟨M, hbulk⟩ : ∃ M, Rows.uptoBulkAll ([d0] : List (DataW H)) ≤ M := ⟨_, Nat.le_refl _⟩
  have k0 := h0
  have lt0 : ∀ x ∈ p0, x.block < W.heap.size := by obtain ⟨m, hm⟩ := k0; exact DataW.trod_lt m _ _ _ hm
  have fit0 : Fit Try.prog M 3 d0 := fit_arg (j := 0) hsz rfl rfl (bulk_arg (j := 0) hbulk rfl)
  obtain ⟨fu0, hf0⟩ := h0
  obtain ⟨a0, hC0, hG0⟩ := ((opens_int Try.underlying3) : Opens Sp Try.prog M 3 _ _) (okWide_cells (hval 0 3 v0 rfl rfl)).1 hf0 fit0
  obtain ⟨u0, hu0, hV0⟩ := c0_inv hC0
  have hw0 : v0 = u0 := by
    rcases (okWide_cells (hval 0 3 v0 rfl rfl)).2 with ⟨cs, rfl⟩ | hx
    · exact absurd (hval 0 3 _ rfl rfl) (by intro hx; simp only [Value.okWide, Try.underlying3] at hx; exact absurd hx (by simp [Cell.okWide, Cell.ok, Try.underlying3]))
    · rw [hx] at hu0; simpa using hu0
  subst hw0
  have ha0 := fun L => arg1 (L := L) hV0
  refine (walk Pure.CubicBack M a0 W [v0] hG0 (args_cons ha0 (args_nil _))).mono fun e W' ⟨he, bel⟩ => ?_
  subst he
  exact ⟨_, rfl, _, _, _, [], _, [], hW', trodAll_mk1 (shut_bool Try.underlying4 _), (trodAll_cons_mk (Below.trod laidOut (by kernel_rfl) (of_decide_eq_true (by kernel_rfl)) k0 bel lt0) trodAll_mk0), rfl, bel.frame _, fun h => by cases h⟩
theorem over : Rows.cubicBackRow.holds Try.pinned (OpenSpec.ofChange Rows.cubicBackSpec) :=
  OpenClaim.holds_of_wide 6 Try.f6 rfl rfl rfl rfl rfl rfl rfl ⟨rfl, rfl, rfl, rfl, rfl⟩ rfl rfl rfl rfl rfl (by kernel_rfl) Try.func6 (by kernel_rfl)
    (of_decide_eq_true (by kernel_rfl)) (by unfold Func.isWrapper; first | (rw [if_pos (by decide +kernel)]; kernel_rfl) | (rw [if_neg (by decide +kernel)]; exact ⟨rfl, rfl⟩))
    (fun os started H enc _ => lifted os started H enc)
theorem proved : Rows.CubicBackSaid := over
#print axioms proved
end Go.Proofs.Ytliknmgcnipbkaa.cubicBack
namespace Go.Proofs.Ytliknmgcnipbkaa
/-- The row, under a short name, for the claim. -/
theorem cubicBack_holds : Rows.CubicBackSaid := cubicBack.proved
end Go.Proofs.Ytliknmgcnipbkaa
