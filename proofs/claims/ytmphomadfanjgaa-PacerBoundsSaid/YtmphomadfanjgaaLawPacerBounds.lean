-- Written by a session's program (wip/tools/myprint.py) out of the translation, by way of the kit's printer. Lean checks it.
import Derived.Test.YtmphomadfanjgaaRows
import Derived.Test.YtmphomadfanjgaaPAx6
import Derived.Test.YtmphomadfanjgaaPuPacerBounds
import Derived.Test.YtmphomadfanjgaaPurePacerBounds
import Derived.WalkKit
import Derived.ProofKit
import Derived.OpenShut
import Derived.ShutString
import Derived.ChangeOld
import Derived.Below
import Derived.SizedLaws
namespace Go.Proofs.Ytmphomadfanjgaa.pacerBounds
open Go.ChangeShapes Go.WideShapes Go.ChangeAt Go.RowKit
open Go.Proofs.Ytmphomadfanjgaa.PA Go.Proofs.Ytmphomadfanjgaa.PA.PacerBounds Go.Proofs.YtmphomadfanjgaaW.PrintWords Go.Proofs.Ytmphomadfanjgaa.Open
open Go.ChangeMaps (open_string shut_string)
set_option linter.unusedVariables false
set_option linter.unusedSimpArgs false
theorem own : ownKnob Try.prog.godebug = none := by kernel_rfl
theorem laidOut : laidOutB Try.prog = true := by kernel_rfl
theorem opens33 (M : Nat) : Go.Proofs.Ytmphomadfanjgaa.Open.Opens Try.prog M 33 k33 (In33 M) := by
  refine Go.Proofs.Ytmphomadfanjgaa.Open.Opens.weaken (Go.Proofs.Ytmphomadfanjgaa.Open.opens_iso (Go.Proofs.Ytmphomadfanjgaa.Open.opens_struct Try.underlying33 (by kernel_rfl) (Go.Proofs.Ytmphomadfanjgaa.Open.opensF_cons (by kernel_rfl) (by kernel_rfl) (Go.Proofs.Ytmphomadfanjgaa.Open.opens_int Try.underlying3) (Go.Proofs.Ytmphomadfanjgaa.Open.opensF_one (by kernel_rfl) (by kernel_rfl) (Go.Proofs.Ytmphomadfanjgaa.Open.opens_int Try.underlying3)))) (fun x : S33 => (x.f0, x.f1)) (fun p => ⟨p.1, p.2⟩) (fun _ => rfl)) (fun y hy => ?_)
  simpa [In33] using hy
theorem walk (P : tidewaylaw20_PacerBounds.PureSaid) (M : Nat) (a0 : Int) (a1 : Int) (A2 : Option Addr) (c2 : Nat) (l2 : List (S33)) (w : World) (hr2 : Kd.C k33 w A2 l2.length l2) (hc2 : l2.length ≤ c2) (wa0 : Rng .i64 a0) (wa1 : Rng .i64 a1) (wl2 : l2.length ≤ 9223372036854775807 ∧ l2.length * 16 ≤ 140737488351232 ∧ l2.length ≤ M ∧ ∀ y ∈ l2, In33 M y) :
    Calls Try.prog 4 #[Value.int .i64 a0, Value.int .i64 a1, Value.slice A2 l2.length c2] w fun e w' => e = .returned (.bool true) ∧ Below w.heap.size w w' := by
  obtain ⟨k, h⟩ := P M a0 a1 l2 wa0 wa1 wl2
  refine (tidewaylaw20_PacerBounds.calls (k := k) (r := true) (w := w) (hr2 := hr2) (hc2 := hc2) (h := h)).mono ?_
  rintro e w' ⟨rfl, hd⟩
  exact ⟨rfl, by first | exact hd | exact hd.below | exact Drawn0.below hd⟩
set_option maxRecDepth 100000 in
set_option maxHeartbeats 4000000 in
theorem lifted (os : Os) (started : os.Started) (H : Type) (enc : TypeId × Value → H) :
    ReturnsInHanded {} Try.checked os 4 .any (Rows.pacerBoundsSpec.pre6 enc Try.prog Try.f4 Rows.pacerBoundsRow.domain false) (Rows.pacerBoundsSpec.post enc Try.prog Try.f4 false true false false) := by
  refine returnsInHanded_of_change_sized (C := Try.checked) own started (by kernel_rfl) Try.func4
    (ChangeSpec.witness6 (enc := enc) (C := Try.checked) false ⟨#[], #[.int .i64 0, .int .i64 0, .slice none 0 0], []⟩ 8 (by kernel_rfl) (by kernel_rfl) (by kernel_rfl) (by kernel_rfl)) ?_
  intro W base args ds gs before hval0 hW hcnd hsz0 _
  have hsz : (DataW.weightsEach Try.prog (Try.f4.params.toList ++ Rows.pacerBoundsSpec.plain.varTypes Try.prog) (ds ++ gs)).all (· ≤ reachBytes) = true := hsz0
  have hval : ∀ (j : Nat) t v, Try.f4.params[j]? = some t → args[j]? = some v → Value.okWide Try.prog W .any base t v := hval0
  have hW' := hW
  obtain ⟨p, q, hA0, hV, rfl, hfz, hnd⟩ := hW
  have hA : DataW.TrodAll enc Try.prog W 0 (fun _ => true) true Try.f4.params.toList args.toList ds p := hA0
  rw [Try.params4] at hA hval hsz
  obtain ⟨v0, vs0, d0, ds0, p0, q0, hargs, rfl, rfl, h0, r0⟩ := trodAll_cons hA
  obtain ⟨v1, vs1, d1, ds1, p1, q1, rfl, rfl, rfl, h1, r1⟩ := trodAll_cons r0
  obtain ⟨v2, vs2, d2, ds2, p2, q2, rfl, rfl, rfl, h2, r2⟩ := trodAll_cons r1
  obtain ⟨rfl, rfl, rfl⟩ := trodAll_nil r2
  obtain rfl : args = #[v0, v1, v2] := by cases args; simp_all
  obtain ⟨rfl, rfl⟩ := trodVars_none hV
  obtain ⟨M, hbulk⟩ : ∃ M, Rows.uptoBulkAll ([d0, d1, d2] : List (DataW H)) ≤ M := ⟨_, Nat.le_refl _⟩
  have k0 := h0
  have lt0 : ∀ x ∈ p0, x.block < W.heap.size := by obtain ⟨m, hm⟩ := k0; exact DataW.trod_lt m _ _ _ hm
  have fit0 : Fit Try.prog M 3 d0 := fit_arg (j := 0) hsz rfl rfl (bulk_arg (j := 0) hbulk rfl)
  obtain ⟨fu0, hf0⟩ := h0
  obtain ⟨a0, rfl, rfl, rfl, w0⟩ := open_int Try.underlying3 (hval 0 3 v0 rfl rfl) k0
  have hG0 := rng_of w0
  have k1 := h1
  have lt1 : ∀ x ∈ p1, x.block < W.heap.size := by obtain ⟨m, hm⟩ := k1; exact DataW.trod_lt m _ _ _ hm
  have fit1 : Fit Try.prog M 3 d1 := fit_arg (j := 1) hsz rfl rfl (bulk_arg (j := 1) hbulk rfl)
  obtain ⟨fu1, hf1⟩ := h1
  obtain ⟨a1, rfl, rfl, rfl, w1⟩ := open_int Try.underlying3 (hval 1 3 v1 rfl rfl) k1
  have hG1 := rng_of w1
  have k2 := h2
  have lt2 : ∀ x ∈ p2, x.block < W.heap.size := by obtain ⟨m, hm⟩ := k2; exact DataW.trod_lt m _ _ _ hm
  have fit2 : Fit Try.prog M 29 d2 := fit_arg (j := 2) hsz rfl rfl (bulk_arg (j := 2) hbulk rfl)
  obtain ⟨fu2, hf2⟩ := h2
  obtain ⟨B2, len2, cap2, rfl⟩ := okWide_slice Try.underlying29 (hval 2 29 v2 rfl rfl)
  obtain ⟨l2, ⟨A2, c2, hcs2, hc2, hr2⟩, hG2⟩ := ((Go.Proofs.Ytmphomadfanjgaa.Open.opens_slice Try.underlying29 (by kernel_rfl) (opens33 _)) : Opens Try.prog M 29 (Kd.slice 33 k33) _) hf2 fit2
  obtain ⟨rfl, rfl, rfl⟩ : B2 = A2 ∧ len2 = l2.length ∧ cap2 = c2 := by simpa [Value.cells] using hcs2
  refine (walk Pure.PacerBounds M _ _ _ _ _ W hr2 hc2 hG0 hG1 hG2).mono fun e W' ⟨he, bel⟩ => ?_
  subst he
  exact ⟨_, rfl, _, _, _, [], _, [], hW', trodAll_mk1 (shut_bool Try.underlying4 _), (trodAll_cons_mk (Below.trod laidOut (by kernel_rfl) (of_decide_eq_true (by kernel_rfl)) k0 bel lt0) (trodAll_cons_mk (Below.trod laidOut (by kernel_rfl) (of_decide_eq_true (by kernel_rfl)) k1 bel lt1) (trodAll_cons_mk (Below.trod laidOut (by kernel_rfl) (of_decide_eq_true (by kernel_rfl)) k2 bel lt2) trodAll_mk0))), rfl, bel.frame _, fun h => by cases h⟩
theorem over : Rows.pacerBoundsRow.holds Try.pinned (OpenSpec.ofChange Rows.pacerBoundsSpec) :=
  OpenClaim.holds_of_wide 4 Try.f4 rfl rfl rfl rfl rfl rfl rfl ⟨rfl, rfl, rfl, rfl, rfl⟩ rfl rfl rfl rfl rfl (by kernel_rfl) Try.func4 (by kernel_rfl)
    (of_decide_eq_true (by kernel_rfl)) (by unfold Func.isWrapper; first | (rw [if_pos (by decide +kernel)]; kernel_rfl) | (rw [if_neg (by decide +kernel)]; exact ⟨rfl, rfl⟩))
    (fun os started H enc _ => lifted os started H enc)
theorem proved : Rows.PacerBoundsSaid := over
#print axioms proved
end Go.Proofs.Ytmphomadfanjgaa.pacerBounds
namespace Go.Proofs.Ytmphomadfanjgaa
/-- The row, under a short name, for the claim. -/
theorem pacerBounds_holds : Rows.PacerBoundsSaid := pacerBounds.proved
end Go.Proofs.Ytmphomadfanjgaa
