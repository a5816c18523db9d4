-- Printed by a session's program (wip/tools/mg3.py) out of the translation. Lean checks it.
import Derived.Test.YtgadpgeghlhpnaaRows
import Derived.Test.YtgadpgeghlhpnaaPG1
import Derived.Test.YtgadpgeghlhpnaaMachY
import Derived.Test.YtgadpgeghlhpnaaPuBbrProbes
import Derived.Test.YtgadpgeghlhpnaaPureBbrProbes
import Derived.WalkKit
import Derived.ProofKit
import Derived.OpenShut
import Derived.ShutString
import Derived.ChangeOld
import Derived.Below
import Derived.SizedLaws
namespace Go.Proofs.Ytgadpgeghlhpnaa.bbrProbes
open Go.ChangeShapes Go.WideShapes Go.ChangeAt Go.RowKit Go.Proofs.Ytgadpgeghlhpnaa.M Go.Proofs.Ytgadpgeghlhpnaa.M.LawBbrProbes
set_option linter.unusedVariables false
set_option linter.unusedSimpArgs false
theorem own : ownKnob Try.prog.godebug = none := by kernel_rfl
theorem laidOut : laidOutB Try.prog = true := by kernel_rfl
set_option maxRecDepth 100000 in
theorem opensEntry {S : Value → Prop} (M : Nat) : Opens S Try.prog M 49 (fun p : SEntry => TV.los U (eEntry p)) (InEntry M) :=
  opens_iso (opens_struct Try.underlying49 (by kernel_rfl) (opensF_cons (sz := 1) (by kernel_rfl) (by kernel_rfl) (opens_int Try.underlying3) (opensF_one (sz := 1) (by kernel_rfl) (by kernel_rfl) (opens_int Try.underlying3)))) (fun p => ⟨p.1, p.2⟩) (fun _ => rfl) (fun _ h => h)
set_option maxRecDepth 100000 in
theorem opensCc (M : Nat) : Opens Sp Try.prog M 26 (fun p : SCc => TV.los U (eCc p)) (InCc M) :=
  opens_iso (opens_struct Try.underlying26 (by kernel_rfl) (opensF_cons (sz := 1) (by kernel_rfl) (by kernel_rfl) (opens_int Try.underlying22) (opensF_cons (sz := 1) (by kernel_rfl) (by kernel_rfl) (opens_int Try.underlying3) (opensF_cons (sz := 1) (by kernel_rfl) (by kernel_rfl) (opens_int Try.underlying3) (opensF_cons (sz := 1) (by kernel_rfl) (by kernel_rfl) (opens_int Try.underlying3) (opensF_cons (sz := 1) (by kernel_rfl) (by kernel_rfl) (opens_int Try.underlying3) (opensF_cons (sz := 1) (by kernel_rfl) (by kernel_rfl) (opens_int Try.underlying3) (opensF_cons (sz := 1) (by kernel_rfl) (by kernel_rfl) (opens_int Try.underlying3) (opensF_cons (sz := 1) (by kernel_rfl) (by kernel_rfl) (opens_int Try.underlying3) (opensF_cons (sz := 1) (by kernel_rfl) (by kernel_rfl) (opens_int Try.underlying3) (opensF_cons (sz := 1) (by kernel_rfl) (by kernel_rfl) (opens_int Try.underlying3) (opensF_cons (sz := 1) (by kernel_rfl) (by kernel_rfl) (opens_int Try.underlying23) (opensF_cons (sz := 1) (by kernel_rfl) (by kernel_rfl) (opens_slice (c := cEntry) (z := zEntry) (sz := 2) Try.underlying24 (by kernel_rfl) (fun _ => rfl) (opens_iso (opensEntry M) id (fun _ => rfl) (fun _ h => h))) (opensF_cons (sz := 1) (by kernel_rfl) (by kernel_rfl) (opens_int Try.underlying3) (opensF_cons (sz := 1) (by kernel_rfl) (by kernel_rfl) (opens_int Try.underlying3) (opensF_cons (sz := 1) (by kernel_rfl) (by kernel_rfl) (opens_int Try.underlying3) (opensF_cons (sz := 1) (by kernel_rfl) (by kernel_rfl) (opens_int Try.underlying3) (opensF_cons (sz := 1) (by kernel_rfl) (by kernel_rfl) (opens_int Try.underlying3) (opensF_cons (sz := 1) (by kernel_rfl) (by kernel_rfl) (opens_int Try.underlying3) (opensF_cons (sz := 1) (by kernel_rfl) (by kernel_rfl) (opens_int Try.underlying3) (opensF_cons (sz := 1) (by kernel_rfl) (by kernel_rfl) (opens_int Try.underlying3) (opensF_cons (sz := 1) (by kernel_rfl) (by kernel_rfl) (opens_int Try.underlying3) (opensF_one (sz := 1) (by kernel_rfl) (by kernel_rfl) (opens_int Try.underlying3)))))))))))))))))))))))) (fun p => ⟨p.1, p.2.1, p.2.2.1, p.2.2.2.1, p.2.2.2.2.1, p.2.2.2.2.2.1, p.2.2.2.2.2.2.1, p.2.2.2.2.2.2.2.1, p.2.2.2.2.2.2.2.2.1, p.2.2.2.2.2.2.2.2.2.1, p.2.2.2.2.2.2.2.2.2.2.1, p.2.2.2.2.2.2.2.2.2.2.2.1, p.2.2.2.2.2.2.2.2.2.2.2.2.1, p.2.2.2.2.2.2.2.2.2.2.2.2.2.1, p.2.2.2.2.2.2.2.2.2.2.2.2.2.2.1, p.2.2.2.2.2.2.2.2.2.2.2.2.2.2.2.1, p.2.2.2.2.2.2.2.2.2.2.2.2.2.2.2.2.1, p.2.2.2.2.2.2.2.2.2.2.2.2.2.2.2.2.2.1, p.2.2.2.2.2.2.2.2.2.2.2.2.2.2.2.2.2.2.1, p.2.2.2.2.2.2.2.2.2.2.2.2.2.2.2.2.2.2.2.1, p.2.2.2.2.2.2.2.2.2.2.2.2.2.2.2.2.2.2.2.2.1, p.2.2.2.2.2.2.2.2.2.2.2.2.2.2.2.2.2.2.2.2.2⟩) (fun _ => rfl) (fun _ h => h)
set_option maxRecDepth 100000 in
theorem opensSample {S : Value → Prop} (M : Nat) : Opens S Try.prog M 41 (fun p : SSample => TV.los U (eSample p)) (InSample M) :=
  opens_iso (opens_struct Try.underlying41 (by kernel_rfl) (opensF_cons (sz := 1) (by kernel_rfl) (by kernel_rfl) (opens_int Try.underlying3) (opensF_cons (sz := 1) (by kernel_rfl) (by kernel_rfl) (opens_int Try.underlying3) (opensF_cons (sz := 1) (by kernel_rfl) (by kernel_rfl) (opens_int Try.underlying3) (opensF_cons (sz := 1) (by kernel_rfl) (by kernel_rfl) (opens_int Try.underlying3) (opensF_cons (sz := 1) (by kernel_rfl) (by kernel_rfl) (opens_bool Try.underlying4) (opensF_cons (sz := 1) (by kernel_rfl) (by kernel_rfl) (opens_int Try.underlying3) (opensF_cons (sz := 1) (by kernel_rfl) (by kernel_rfl) (opens_int Try.underlying3) (opensF_one (sz := 1) (by kernel_rfl) (by kernel_rfl) (opens_int Try.underlying3)))))))))) (fun p => ⟨p.1, p.2.1, p.2.2.1, p.2.2.2.1, p.2.2.2.2.1, p.2.2.2.2.2.1, p.2.2.2.2.2.2.1, p.2.2.2.2.2.2.2⟩) (fun _ => rfl) (fun _ h => h)
theorem walk (P : Pure) (M : Nat) (a0 : SCc) (a1 : SSample) (w : World) (vs : List Value) (h0 : InCc M a0) (h1 : InSample M a1) (ha : ArgsOk w (TV.los U [.agg (eCc a0), .agg (eSample a1)]) vs) :
    Calls Try.prog 6 vs.toArray w fun e w' => e = .returned (.bool true) ∧ Below w.heap.size w w' := by
  obtain ⟨n, h⟩ := P M a0 a1 h0 h1
  have hc : callP capB n 6 [.agg (eCc a0), .agg (eSample a1)] [] (fun q => some q) = some ⟨tB true, []⟩ := (show callP capB n 6 [.agg (eCc a0), .agg (eSample a1)] [] (fun q => some q) = G_law18_BbrProbes capB n a0 a1 (fun r => some ⟨tB r, []⟩) from by kernel_rfl).trans (h _ _)
  obtain ⟨q, h1, h2⟩ := callOk n _ _ _ _ _ hc
  cases h2
  exact law_calls chkAll (f := fn_law18_BbrProbes.lo U) rfl rfl h1 ha
set_option maxRecDepth 100000 in
set_option maxHeartbeats 4000000 in
theorem lifted (os : Os) (started : os.Started) (H : Type) (enc : TypeId × Value → H) :
    ReturnsInHanded {} Try.checked os 6 .any (Rows.bbrProbesSpec.pre6 enc Try.prog Try.f6 Rows.bbrProbesRow.domain false) (Rows.bbrProbesSpec.post enc Try.prog Try.f6 false true false false) := by
  refine returnsInHanded_of_change_sized (C := Try.checked) own started (by kernel_rfl) Try.func6
    (ChangeSpec.witness6 (enc := enc) (C := Try.checked) false ⟨#[], #[.agg #[.int .i64 0, .int .i64 0, .int .i64 0, .int .i64 0, .int .i64 0, .int .i64 0, .int .i64 0, .int .i64 0, .int .i64 0, .int .i64 0, .int .i64 0, .slice none 0 0, .int .i64 0, .int .i64 0, .int .i64 0, .int .i64 0, .int .i64 0, .int .i64 0, .int .i64 0, .int .i64 0, .int .i64 0, .int .i64 0], .agg #[.int .i64 0, .int .i64 0, .int .i64 0, .int .i64 0, .bool false, .int .i64 0, .int .i64 0, .int .i64 0]], []⟩ 8 (by kernel_rfl) (by kernel_rfl) (by kernel_rfl) (by kernel_rfl)) ?_
  intro W base args ds gs before hval0 hW hcnd hsz0 _
  have hsz : (DataW.weightsEach Try.prog (Try.f6.params.toList ++ Rows.bbrProbesSpec.plain.varTypes Try.prog) (ds ++ gs)).all (· ≤ reachBytes) = true := hsz0
  have hval : ∀ (j : Nat) t v, Try.f6.params[j]? = some t → args[j]? = some v → Value.okWide Try.prog W .any base t v := hval0
  have hW' := hW
  obtain ⟨p, q, hA0, hV, rfl, hfz, hnd⟩ := hW
  have hA : DataW.TrodAll enc Try.prog W 0 (fun _ => true) true Try.f6.params.toList args.toList ds p := hA0
  rw [Try.params6] at hA hval hsz
  obtain ⟨v0, vs0, d0, ds0, p0, q0, hargs, rfl, rfl, h0, r0⟩ := trodAll_cons hA
  obtain ⟨v1, vs1, d1, ds1, p1, q1, rfl, rfl, rfl, h1, r1⟩ := trodAll_cons r0
  obtain ⟨rfl, rfl, rfl⟩ := trodAll_nil r1
  obtain rfl : args = #[v0, v1] := by cases args; simp_all
  obtain ⟨rfl, rfl⟩ := trodVars_none hV
  obtain ⟨M, hbulk⟩ : ∃ M, Rows.uptoBulkAll ([d0, d1] : List (DataW H)) ≤ M := ⟨_, Nat.le_refl _⟩
  have k0 := h0
  have lt0 : ∀ x ∈ p0, x.block < W.heap.size := by obtain ⟨m, hm⟩ := k0; exact DataW.trod_lt m _ _ _ hm
  have fit0 : Fit Try.prog M 26 d0 := fit_arg (j := 0) hsz rfl rfl (bulk_arg (j := 0) hbulk rfl)
  obtain ⟨fu0, hf0⟩ := h0
  obtain ⟨a0, hC0, hG0⟩ := ((opensCc _) : Opens Sp Try.prog M 26 _ _) (okWide_cells (hval 0 26 v0 rfl rfl)).1 hf0 fit0
  obtain ⟨cs0, rfl⟩ := okWide_st Try.underlying26 (hval 0 26 v0 rfl rfl)
  have ha0 := fun L => argA (L := L) hC0
  have k1 := h1
  have lt1 : ∀ x ∈ p1, x.block < W.heap.size := by obtain ⟨m, hm⟩ := k1; exact DataW.trod_lt m _ _ _ hm
  have fit1 : Fit Try.prog M 41 d1 := fit_arg (j := 1) hsz rfl rfl (bulk_arg (j := 1) hbulk rfl)
  obtain ⟨fu1, hf1⟩ := h1
  obtain ⟨a1, hC1, hG1⟩ := ((opensSample _) : Opens Sp Try.prog M 41 _ _) (okWide_cells (hval 1 41 v1 rfl rfl)).1 hf1 fit1
  obtain ⟨cs1, rfl⟩ := okWide_st Try.underlying41 (hval 1 41 v1 rfl rfl)
  have ha1 := fun L => argA (L := L) hC1
  refine (walk Pure.BbrProbes M a0 a1 W [.agg cs0, .agg cs1] hG0 hG1 (args_cons ha0 (args_cons ha1 (args_nil _)))).mono fun e W' ⟨he, bel⟩ => ?_
  subst he
  exact ⟨_, rfl, _, _, _, [], _, [], hW', trodAll_mk1 (shut_bool Try.underlying4 _), (trodAll_cons_mk (Below.trod laidOut (by kernel_rfl) (of_decide_eq_true (by kernel_rfl)) k0 bel lt0) (trodAll_cons_mk (Below.trod laidOut (by kernel_rfl) (of_decide_eq_true (by kernel_rfl)) k1 bel lt1) trodAll_mk0)), rfl, bel.frame _, fun h => by cases h⟩
theorem over : Rows.bbrProbesRow.holds Try.pinned (OpenSpec.ofChange Rows.bbrProbesSpec) :=
  OpenClaim.holds_of_wide 6 Try.f6 rfl rfl rfl rfl rfl rfl rfl ⟨rfl, rfl, rfl, rfl, rfl⟩ rfl rfl rfl rfl rfl (by kernel_rfl) Try.func6 (by kernel_rfl)
    (of_decide_eq_true (by kernel_rfl)) (by unfold Func.isWrapper; first | (rw [if_pos (by decide +kernel)]; kernel_rfl) | (rw [if_neg (by decide +kernel)]; exact ⟨rfl, rfl⟩))
    (fun os started H enc _ => lifted os started H enc)
theorem proved : Rows.BbrProbesSaid := over
#print axioms proved
end Go.Proofs.Ytgadpgeghlhpnaa.bbrProbes
namespace Go.Proofs.Ytgadpgeghlhpnaa
/-- The row, under a short name, for the claim. -/
theorem bbrProbes_holds : Rows.BbrProbesSaid := bbrProbes.proved
end Go.Proofs.Ytgadpgeghlhpnaa
