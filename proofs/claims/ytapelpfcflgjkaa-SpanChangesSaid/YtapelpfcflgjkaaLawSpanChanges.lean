-- Printed by a session's program (wip/tools/mg3.py) out of the translation. Lean checks it.
import Derived.Test.YtapelpfcflgjkaaRows
import Derived.Test.YtapelpfcflgjkaaCG1
import Derived.Test.YtapelpfcflgjkaaMachY
import Derived.Test.YtapelpfcflgjkaaPuSpanChanges
import Derived.Test.YtapelpfcflgjkaaPureSpanChanges
import Derived.WalkKit
import Derived.ProofKit
import Derived.OpenShut
import Derived.ShutString
import Derived.ChangeOld
import Derived.Below
import Derived.SizedLaws
namespace Go.Proofs.Ytapelpfcflgjkaa.spanChanges
open Go.ChangeShapes Go.WideShapes Go.ChangeAt Go.RowKit Go.Proofs.Ytapelpfcflgjkaa.M Go.Proofs.Ytapelpfcflgjkaa.M.LawSpanChanges
set_option linter.unusedVariables false
set_option linter.unusedSimpArgs false
theorem own : ownKnob Try.prog.godebug = none := by kernel_rfl
theorem laidOut : laidOutB Try.prog = true := by kernel_rfl
set_option maxRecDepth 100000 in
theorem opensSpan {S : Value → Prop} (M : Nat) : Opens S Try.prog M 24 (fun p : SSpan => TV.los U (eSpan p)) (InSpan M) :=
  opens_iso (opens_struct Try.underlying24 (by kernel_rfl) (opensF_cons (sz := 1) (by kernel_rfl) (by kernel_rfl) (opens_int Try.underlying3) (opensF_one (sz := 1) (by kernel_rfl) (by kernel_rfl) (opens_int Try.underlying3)))) (fun p => ⟨p.1, p.2⟩) (fun _ => rfl) (fun _ h => h)
theorem walk (P : Pure) (M : Nat) (a0 : (List SSpan)) (a1 : SSpan) (w : World) (vs : List Value) (h0 : a0.length ≤ 9223372036854775807 ∧ a0.length * 16 ≤ 140737488351232 ∧ a0.length ≤ M ∧ ∀ y ∈ a0, InSpan M y) (h1 : InSpan M a1) (ha : ArgsOk w (TV.los U [.row false (.rSpan a0), .agg (eSpan a1)]) vs) :
    Calls Try.prog 4 vs.toArray w fun e w' => e = .returned (.bool true) ∧ Below w.heap.size w w' := by
  obtain ⟨n, h⟩ := P M a0 a1 h0 h1
  have hc : callP capB n 4 [.row false (.rSpan a0), .agg (eSpan a1)] [] (fun q => some q) = some ⟨tB true, [], []⟩ := (show callP capB n 4 [.row false (.rSpan a0), .agg (eSpan a1)] [] (fun q => some q) = G_law06_SpanChanges capB n a0 a1 (fun r => some ⟨tB r, [], []⟩) from by kernel_rfl).trans (h _ _)
  obtain ⟨q, h1, h2⟩ := callOk n _ _ _ _ _ hc
  cases h2
  exact law_calls chkAll (f := fn_law06_SpanChanges.lo U) rfl rfl h1 ha
set_option maxRecDepth 100000 in
set_option maxHeartbeats 4000000 in
theorem lifted (os : Os) (started : os.Started) (H : Type) (enc : TypeId × Value → H) :
    ReturnsInHanded {} Try.checked os 4 .any (Rows.spanChangesSpec.pre6 enc Try.prog Try.f4 Rows.spanChangesRow.domain false) (Rows.spanChangesSpec.post enc Try.prog Try.f4 false true false false) := by
  refine returnsInHanded_of_change_sized (C := Try.checked) own started (by kernel_rfl) Try.func4
    (ChangeSpec.witness6 (enc := enc) (C := Try.checked) false ⟨#[], #[.slice none 0 0, .agg #[.int .i64 0, .int .i64 0]], []⟩ 8 (by kernel_rfl) (by kernel_rfl) (by kernel_rfl) (by kernel_rfl)) ?_
  intro W base args ds gs before hval0 hW hcnd hsz0 _
  have hsz : (DataW.weightsEach Try.prog (Try.f4.params.toList ++ Rows.spanChangesSpec.plain.varTypes Try.prog) (ds ++ gs)).all (· ≤ reachBytes) = true := hsz0
  have hval : ∀ (j : Nat) t v, Try.f4.params[j]? = some t → args[j]? = some v → Value.okWide Try.prog W .any base t v := hval0
  have hW' := hW
  obtain ⟨p, q, hA0, hV, rfl, hfz, hnd⟩ := hW
  have hA : DataW.TrodAll enc Try.prog W 0 (fun _ => true) true Try.f4.params.toList args.toList ds p := hA0
  rw [Try.params4] at hA hval hsz
  obtain ⟨v0, vs0, d0, ds0, p0, q0, hargs, rfl, rfl, h0, r0⟩ := trodAll_cons hA
  obtain ⟨v1, vs1, d1, ds1, p1, q1, rfl, rfl, rfl, h1, r1⟩ := trodAll_cons r0
  obtain ⟨rfl, rfl, rfl⟩ := trodAll_nil r1
  obtain rfl : args = #[v0, v1] := by cases args; simp_all
  obtain ⟨rfl, rfl⟩ := trodVars_none hV
  obtain ⟨M, hbulk⟩ : ∃ M, Rows.uptoBulkAll ([d0, d1] : List (DataW H)) ≤ M := ⟨_, Nat.le_refl _⟩
  have k0 := h0
  have lt0 : ∀ x ∈ p0, x.block < W.heap.size := by obtain ⟨m, hm⟩ := k0; exact DataW.trod_lt m _ _ _ hm
  have fit0 : Fit Try.prog M 22 d0 := fit_arg (j := 0) hsz rfl rfl (bulk_arg (j := 0) hbulk rfl)
  obtain ⟨fu0, hf0⟩ := h0
  obtain ⟨a0, hC0, hG0⟩ := ((opens_slice (c := cSpan) (z := zSpan) (sz := 2) Try.underlying22 (by kernel_rfl) (fun _ => rfl) (opens_iso (opensSpan _) id (fun _ => rfl) (fun _ h => h))) : Opens Sp Try.prog M 22 _ _) (okWide_cells (hval 0 22 v0 rfl rfl)).1 hf0 fit0
  obtain ⟨u0, hu0, hV0⟩ := c0_inv hC0
  have hw0 : v0 = u0 := by
    rcases (okWide_cells (hval 0 22 v0 rfl rfl)).2 with ⟨cs, rfl⟩ | hx
    · exact absurd (hval 0 22 _ rfl rfl) (by intro hx; simp only [Value.okWide, Try.underlying22] at hx; exact absurd hx (by simp [Cell.okWide, Cell.ok, Try.underlying22]))
    · rw [hx] at hu0; simpa using hu0
  subst hw0
  have ha0 := fun L => arg1 (L := L) hV0
  have k1 := h1
  have lt1 : ∀ x ∈ p1, x.block < W.heap.size := by obtain ⟨m, hm⟩ := k1; exact DataW.trod_lt m _ _ _ hm
  have fit1 : Fit Try.prog M 24 d1 := fit_arg (j := 1) hsz rfl rfl (bulk_arg (j := 1) hbulk rfl)
  obtain ⟨fu1, hf1⟩ := h1
  obtain ⟨a1, hC1, hG1⟩ := ((opensSpan _) : Opens Sp Try.prog M 24 _ _) (okWide_cells (hval 1 24 v1 rfl rfl)).1 hf1 fit1
  obtain ⟨cs1, rfl⟩ := okWide_st Try.underlying24 (hval 1 24 v1 rfl rfl)
  have ha1 := fun L => argA (L := L) hC1
  refine (walk Pure.SpanChanges M a0 a1 W [v0, .agg cs1] hG0 hG1 (args_cons ha0 (args_cons ha1 (args_nil _)))).mono fun e W' ⟨he, bel⟩ => ?_
  subst he
  exact ⟨_, rfl, _, _, _, [], _, [], hW', trodAll_mk1 (shut_bool Try.underlying4 _), (trodAll_cons_mk (Below.trod laidOut (by kernel_rfl) (of_decide_eq_true (by kernel_rfl)) k0 bel lt0) (trodAll_cons_mk (Below.trod laidOut (by kernel_rfl) (of_decide_eq_true (by kernel_rfl)) k1 bel lt1) trodAll_mk0)), rfl, bel.frame _, fun h => by cases h⟩
theorem over : Rows.spanChangesRow.holds Try.pinned (OpenSpec.ofChange Rows.spanChangesSpec) :=
  OpenClaim.holds_of_wide 4 Try.f4 rfl rfl rfl rfl rfl rfl rfl ⟨rfl, rfl, rfl, rfl, rfl⟩ rfl rfl rfl rfl rfl (by kernel_rfl) Try.func4 (by kernel_rfl)
    (of_decide_eq_true (by kernel_rfl)) (by unfold Func.isWrapper; first | (rw [if_pos (by decide +kernel)]; kernel_rfl) | (rw [if_neg (by decide +kernel)]; exact ⟨rfl, rfl⟩))
    (fun os started H enc _ => lifted os started H enc)
theorem proved : Rows.SpanChangesSaid := over
#print axioms proved
end Go.Proofs.Ytapelpfcflgjkaa.spanChanges
namespace Go.Proofs.Ytapelpfcflgjkaa
/-- The row, under a short name, for the claim. -/
theorem spanChanges_holds : Rows.SpanChangesSaid := spanChanges.proved
end Go.Proofs.Ytapelpfcflgjkaa
