-- Written by a session's program (wip/tools/myprint.py) out of the translation, by way of the kit's printer. Lean checks it.
import Derived.Test.YtmphomadfanjgaaRows
import Derived.Test.YtmphomadfanjgaaPAx7
import Derived.Test.YtmphomadfanjgaaPuPacerWaits
import Derived.Test.YtmphomadfanjgaaPurePacerWaits
import Derived.WalkKit
import Derived.ProofKit
import Derived.OpenShut
import Derived.ShutString
import Derived.ChangeOld
import Derived.Below
import Derived.SizedLaws
namespace Go.Proofs.Ytmphomadfanjgaa.pacerWaits
open Go.ChangeShapes Go.WideShapes Go.ChangeAt Go.RowKit
open Go.Proofs.Ytmphomadfanjgaa.PA Go.Proofs.Ytmphomadfanjgaa.PA.PacerWaits Go.Proofs.YtmphomadfanjgaaW.PrintWords Go.Proofs.Ytmphomadfanjgaa.Open
open Go.ChangeMaps (open_string shut_string)
set_option linter.unusedVariables false
set_option linter.unusedSimpArgs false
theorem own : ownKnob Try.prog.godebug = none := by kernel_rfl
theorem laidOut : laidOutB Try.prog = true := by kernel_rfl
theorem walk (P : tidewaylaw20_PacerWaits.PureSaid) (M : Nat) (a0_0 : Int) (a0_1 : Int) (a0_2 : Int) (a0_3 : Int) (a1 : Int) (w : World)  (wa0_0 : Rng .i64 a0_0) (wa0_1 : Rng .i64 a0_1) (wa0_2 : Rng .i64 a0_2) (wa0_3 : Rng .i64 a0_3) (wa1 : Rng .i64 a1) :
    Calls Try.prog 5 #[.agg #[Value.int .i64 a0_0, Value.int .i64 a0_1, Value.int .i64 a0_2, Value.int .i64 a0_3], Value.int .i64 a1] w fun e w' => e = .returned (.bool true) ∧ Below w.heap.size w w' := by
  obtain ⟨k, h⟩ := P M a0_0 a0_1 a0_2 a0_3 a1 wa0_0 wa0_1 wa0_2 wa0_3 wa1
  refine (tidewaylaw20_PacerWaits.calls (k := k) (r := true) (w := w) (h := h)).mono ?_
  rintro e w' ⟨rfl, hd⟩
  exact ⟨rfl, by first | exact hd | exact hd.below | exact Drawn0.below hd⟩
set_option maxRecDepth 100000 in
set_option maxHeartbeats 4000000 in
theorem lifted (os : Os) (started : os.Started) (H : Type) (enc : TypeId × Value → H) :
    ReturnsInHanded {} Try.checked os 5 .any (Rows.pacerWaitsSpec.pre6 enc Try.prog Try.f5 Rows.pacerWaitsRow.domain false) (Rows.pacerWaitsSpec.post enc Try.prog Try.f5 false true false false) := by
  refine returnsInHanded_of_change_sized (C := Try.checked) own started (by kernel_rfl) Try.func5
    (ChangeSpec.witness6 (enc := enc) (C := Try.checked) false ⟨#[], #[.agg #[.int .i64 0, .int .i64 0, .int .i64 0, .int .i64 0], .int .i64 0], []⟩ 8 (by kernel_rfl) (by kernel_rfl) (by kernel_rfl) (by kernel_rfl)) ?_
  intro W base args ds gs before hval0 hW hcnd hsz0 _
  have hsz : (DataW.weightsEach Try.prog (Try.f5.params.toList ++ Rows.pacerWaitsSpec.plain.varTypes Try.prog) (ds ++ gs)).all (· ≤ reachBytes) = true := hsz0
  have hval : ∀ (j : Nat) t v, Try.f5.params[j]? = some t → args[j]? = some v → Value.okWide Try.prog W .any base t v := hval0
  have hW' := hW
  obtain ⟨p, q, hA0, hV, rfl, hfz, hnd⟩ := hW
  have hA : DataW.TrodAll enc Try.prog W 0 (fun _ => true) true Try.f5.params.toList args.toList ds p := hA0
  rw [Try.params5] at hA hval hsz
  obtain ⟨v0, vs0, d0, ds0, p0, q0, hargs, rfl, rfl, h0, r0⟩ := trodAll_cons hA
  obtain ⟨v1, vs1, d1, ds1, p1, q1, rfl, rfl, rfl, h1, r1⟩ := trodAll_cons r0
  obtain ⟨rfl, rfl, rfl⟩ := trodAll_nil r1
  obtain rfl : args = #[v0, v1] := by cases args; simp_all
  obtain ⟨rfl, rfl⟩ := trodVars_none hV
  obtain ⟨M, hbulk⟩ : ∃ M, Rows.uptoBulkAll ([d0, d1] : List (DataW H)) ≤ M := ⟨_, Nat.le_refl _⟩
  have k0 := h0
  have lt0 : ∀ x ∈ p0, x.block < W.heap.size := by obtain ⟨m, hm⟩ := k0; exact DataW.trod_lt m _ _ _ hm
  have fit0 : Fit Try.prog M 23 d0 := fit_arg (j := 0) hsz rfl rfl (bulk_arg (j := 0) hbulk rfl)
  obtain ⟨fu0, hf0⟩ := h0
  obtain ⟨x0, hK0, hG0⟩ := ((Go.Proofs.Ytmphomadfanjgaa.Open.opens_struct Try.underlying23 (by kernel_rfl) (Go.Proofs.Ytmphomadfanjgaa.Open.opensF_cons (by kernel_rfl) (by kernel_rfl) (Go.Proofs.Ytmphomadfanjgaa.Open.opens_int Try.underlying3) (Go.Proofs.Ytmphomadfanjgaa.Open.opensF_cons (by kernel_rfl) (by kernel_rfl) (Go.Proofs.Ytmphomadfanjgaa.Open.opens_int Try.underlying3) (Go.Proofs.Ytmphomadfanjgaa.Open.opensF_cons (by kernel_rfl) (by kernel_rfl) (Go.Proofs.Ytmphomadfanjgaa.Open.opens_int Try.underlying3) (Go.Proofs.Ytmphomadfanjgaa.Open.opensF_one (by kernel_rfl) (by kernel_rfl) (Go.Proofs.Ytmphomadfanjgaa.Open.opens_int Try.underlying3)))))) : Opens Try.prog M 23 (Kd.pair (Kd.int .i64) (Kd.pair (Kd.int .i64) (Kd.pair (Kd.int .i64) (Kd.int .i64)))) _) hf0 fit0
  obtain ⟨_, _, hcs0, rfl, ⟨_, _, rfl, rfl, ⟨_, _, rfl, rfl, rfl⟩⟩⟩ := hK0
  have e0 := agg_of hcs0 (by simp)
  simp only [List.cons_append, List.nil_append, List.singleton_append] at e0
  subst e0
  have k1 := h1
  have lt1 : ∀ x ∈ p1, x.block < W.heap.size := by obtain ⟨m, hm⟩ := k1; exact DataW.trod_lt m _ _ _ hm
  have fit1 : Fit Try.prog M 3 d1 := fit_arg (j := 1) hsz rfl rfl (bulk_arg (j := 1) hbulk rfl)
  obtain ⟨fu1, hf1⟩ := h1
  obtain ⟨a1, rfl, rfl, rfl, w1⟩ := open_int Try.underlying3 (hval 1 3 v1 rfl rfl) k1
  have hG1 := rng_of w1
  refine (walk Pure.PacerWaits M _ _ _ _ _ W  hG0.1 hG0.2.1 hG0.2.2.1 hG0.2.2.2 hG1).mono fun e W' ⟨he, bel⟩ => ?_
  subst he
  exact ⟨_, rfl, _, _, _, [], _, [], hW', trodAll_mk1 (shut_bool Try.underlying4 _), (trodAll_cons_mk (Below.trod laidOut (by kernel_rfl) (of_decide_eq_true (by kernel_rfl)) k0 bel lt0) (trodAll_cons_mk (Below.trod laidOut (by kernel_rfl) (of_decide_eq_true (by kernel_rfl)) k1 bel lt1) trodAll_mk0)), rfl, bel.frame _, fun h => by cases h⟩
theorem over : Rows.pacerWaitsRow.holds Try.pinned (OpenSpec.ofChange Rows.pacerWaitsSpec) :=
  OpenClaim.holds_of_wide 5 Try.f5 rfl rfl rfl rfl rfl rfl rfl ⟨rfl, rfl, rfl, rfl, rfl⟩ rfl rfl rfl rfl rfl (by kernel_rfl) Try.func5 (by kernel_rfl)
    (of_decide_eq_true (by kernel_rfl)) (by unfold Func.isWrapper; first | (rw [if_pos (by decide +kernel)]; kernel_rfl) | (rw [if_neg (by decide +kernel)]; exact ⟨rfl, rfl⟩))
    (fun os started H enc _ => lifted os started H enc)
theorem proved : Rows.PacerWaitsSaid := over
#print axioms proved
end Go.Proofs.Ytmphomadfanjgaa.pacerWaits
namespace Go.Proofs.Ytmphomadfanjgaa
/-- The row, under a short name, for the claim. -/
theorem pacerWaits_holds : Rows.PacerWaitsSaid := pacerWaits.proved
end Go.Proofs.Ytmphomadfanjgaa
