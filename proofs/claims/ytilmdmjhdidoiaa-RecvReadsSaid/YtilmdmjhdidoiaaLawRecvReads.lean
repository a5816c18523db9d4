-- Printed by a session's program (wip/tools/mg3.py) out of the translation. Lean checks it.
import Derived.Test.YtilmdmjhdidoiaaRows
import Derived.Test.YtilmdmjhdidoiaaDG1
import Derived.Test.YtilmdmjhdidoiaaMachY
import Derived.Test.YtilmdmjhdidoiaaMachZ
import Derived.Test.YtilmdmjhdidoiaaPuRecvReads
import Derived.Test.YtilmdmjhdidoiaaPureRecvReads
import Derived.WalkKit
import Derived.ProofKit
import Derived.OpenShut
import Derived.ShutString
import Derived.ChangeOld
import Derived.Below
import Derived.SizedLaws
namespace Go.Proofs.Ytilmdmjhdidoiaa.recvReads
open Go.ChangeShapes Go.WideShapes Go.ChangeAt Go.RowKit Go.Proofs.Ytilmdmjhdidoiaa.M Go.Proofs.Ytilmdmjhdidoiaa.M.LawRecvReads
set_option linter.unusedVariables false
set_option linter.unusedSimpArgs false
theorem own : ownKnob Try.prog.godebug = none := by kernel_rfl
theorem laidOut : laidOutB Try.prog = true := by kernel_rfl
set_option maxRecDepth 100000 in
theorem opensPiece {S : Value → Prop} (M : Nat) : Opens S Try.prog M 74 (fun p : SPiece => TV.los U (ePiece p)) (InPiece M) :=
  opens_iso (opens_struct Try.underlying74 (by kernel_rfl) (opensF_cons (sz := 1) (by kernel_rfl) (by kernel_rfl) (opens_int Try.underlying3) (opensF_one (sz := 1) (by kernel_rfl) (by kernel_rfl) (opens_slice (c := cuint8) (z := zuint8) (sz := 1) Try.underlying22 (by kernel_rfl) (fun _ => rfl) (by decide) (opens_int Try.underlying5))))) (fun p => ⟨p.1, p.2⟩) (fun _ => rfl) (fun _ h => h)
set_option maxRecDepth 100000 in
theorem opensSpan {S : Value → Prop} (M : Nat) : Opens S Try.prog M 78 (fun p : SSpan => TV.los U (eSpan p)) (InSpan M) :=
  opens_iso (opens_struct Try.underlying78 (by kernel_rfl) (opensF_cons (sz := 1) (by kernel_rfl) (by kernel_rfl) (opens_int Try.underlying3) (opensF_one (sz := 1) (by kernel_rfl) (by kernel_rfl) (opens_int Try.underlying3)))) (fun p => ⟨p.1, p.2⟩) (fun _ => rfl) (fun _ h => h)
set_option maxRecDepth 100000 in
theorem opensRecv {S : Value → Prop} (M : Nat) : Opens S Try.prog M 27 (fun p : SRecv => TV.los U (eRecv p)) (InRecv M) :=
  opens_iso (opens_struct Try.underlying27 (by kernel_rfl) (opensF_cons (sz := 1) (by kernel_rfl) (by kernel_rfl) (opens_int Try.underlying3) (opensF_cons (sz := 1) (by kernel_rfl) (by kernel_rfl) (opens_slice (c := cuint8) (z := zuint8) (sz := 1) Try.underlying22 (by kernel_rfl) (fun _ => rfl) (by decide) (opens_int Try.underlying5)) (opensF_cons (sz := 1) (by kernel_rfl) (by kernel_rfl) (opens_slice (c := cPiece) (z := zPiece) (sz := 2) Try.underlying23 (by kernel_rfl) (fun _ => rfl) (by decide) (opens_iso (opensPiece M) id (fun _ => rfl) (fun _ h => h))) (opensF_cons (sz := 1) (by kernel_rfl) (by kernel_rfl) (opens_int Try.underlying3) (opensF_cons (sz := 1) (by kernel_rfl) (by kernel_rfl) (opens_int Try.underlying3) (opensF_cons (sz := 1) (by kernel_rfl) (by kernel_rfl) (opens_int Try.underlying3) (opensF_cons (sz := 1) (by kernel_rfl) (by kernel_rfl) (opens_int Try.underlying24) (opensF_cons (sz := 1) (by kernel_rfl) (by kernel_rfl) (opens_bool Try.underlying4) (opensF_cons (sz := 1) (by kernel_rfl) (by kernel_rfl) (opens_bool Try.underlying4) (opensF_cons (sz := 1) (by kernel_rfl) (by kernel_rfl) (opens_int Try.underlying3) (opensF_cons (sz := 1) (by kernel_rfl) (by kernel_rfl) (opens_bool Try.underlying4) (opensF_cons (sz := 1) (by kernel_rfl) (by kernel_rfl) (opens_slice (c := cSpan) (z := zSpan) (sz := 2) Try.underlying25 (by kernel_rfl) (fun _ => rfl) (by decide) (opens_iso (opensSpan M) id (fun _ => rfl) (fun _ h => h))) (opensF_cons (sz := 1) (by kernel_rfl) (by kernel_rfl) (opens_int Try.underlying24) (opensF_cons (sz := 1) (by kernel_rfl) (by kernel_rfl) (opens_int Try.underlying24) (opensF_one (sz := 1) (by kernel_rfl) (by kernel_rfl) (opens_bool Try.underlying4))))))))))))))))) (fun p => ⟨p.1, p.2.1, p.2.2.1, p.2.2.2.1, p.2.2.2.2.1, p.2.2.2.2.2.1, p.2.2.2.2.2.2.1, p.2.2.2.2.2.2.2.1, p.2.2.2.2.2.2.2.2.1, p.2.2.2.2.2.2.2.2.2.1, p.2.2.2.2.2.2.2.2.2.2.1, p.2.2.2.2.2.2.2.2.2.2.2.1, p.2.2.2.2.2.2.2.2.2.2.2.2.1, p.2.2.2.2.2.2.2.2.2.2.2.2.2.1, p.2.2.2.2.2.2.2.2.2.2.2.2.2.2⟩) (fun _ => rfl) (fun _ h => h)
theorem walk (P : Pure) (M : Nat) (a0 : SRecv) (a1 : Int) (w : World) (vs : List Value) (h0 : InRecv M a0) (h1 : Rng .i64 a1) (ha : ArgsOk w (TV.los U [.agg (eRecv a0), (tL a1)]) vs) :
    Calls Try.prog 9 vs.toArray w fun e w' => e = .returned (.bool true) ∧ Below w.heap.size w w' := by
  obtain ⟨n, h⟩ := P M a0 a1 h0 h1
  have hc : callP capB n 9 [.agg (eRecv a0), (tL a1)] [] (fun q => some q) = some ⟨tB true, [], []⟩ := (show callP capB n 9 [.agg (eRecv a0), (tL a1)] [] (fun q => some q) = G9 capB n a0 a1 (fun r => some ⟨tB r, [], []⟩) from by kernel_rfl).trans (h _ _)
  obtain ⟨q, h1, h2⟩ := callOk n _ _ _ _ _ hc
  cases h2
  exact law_calls plugs chkAll (f := fn9.lo U) rfl rfl h1 ha
set_option maxRecDepth 100000 in
set_option maxHeartbeats 4000000 in
theorem lifted (os : Os) (started : os.Started) (H : Type) (enc : TypeId × Value → H) :
    ReturnsInHanded {} Try.checked os 9 .any (Rows.recvReadsSpec.pre6 enc Try.prog Try.f9 Rows.recvReadsRow.domain false) (Rows.recvReadsSpec.post enc Try.prog Try.f9 false true false false) := by
  refine returnsInHanded_of_change_sized (C := Try.checked) own started (by kernel_rfl) Try.func9
    (ChangeSpec.witness6 (enc := enc) (C := Try.checked) false ⟨#[], #[.agg #[.int .i64 0, .slice none 0 0, .slice none 0 0, .int .i64 0, .int .i64 0, .int .i64 0, .int .u32 0, .bool false, .bool false, .int .i64 0, .bool false, .slice none 0 0, .int .u32 0, .int .u32 0, .bool false], .int .i64 0], []⟩ 8 (by kernel_rfl) (by kernel_rfl) (by kernel_rfl) (by kernel_rfl)) ?_
  intro W base args ds gs before hval0 hW hcnd hsz0 _
  have hsz : (DataW.weightsEach Try.prog (Try.f9.params.toList ++ Rows.recvReadsSpec.plain.varTypes Try.prog) (ds ++ gs)).all (· ≤ reachBytes) = true := hsz0
  have hval : ∀ (j : Nat) t v, Try.f9.params[j]? = some t → args[j]? = some v → Value.okWide Try.prog W .any base t v := hval0
  have hW' := hW
  obtain ⟨p, q, hA0, hV, rfl, hfz, hnd⟩ := hW
  have hA : DataW.TrodAll enc Try.prog W 0 (fun _ => true) true Try.f9.params.toList args.toList ds p := hA0
  rw [Try.params9] at hA hval hsz
  obtain ⟨v0, vs0, d0, ds0, p0, q0, hargs, rfl, rfl, h0, r0⟩ := trodAll_cons hA
  obtain ⟨v1, vs1, d1, ds1, p1, q1, rfl, rfl, rfl, h1, r1⟩ := trodAll_cons r0
  obtain ⟨rfl, rfl, rfl⟩ := trodAll_nil r1
  obtain rfl : args = #[v0, v1] := by cases args; simp_all
  obtain ⟨rfl, rfl⟩ := trodVars_none hV
  obtain ⟨M, hbulk⟩ : ∃ M, Rows.uptoBulkAll ([d0, d1] : List (DataW H)) ≤ M := ⟨_, Nat.le_refl _⟩
  have k0 := h0
  have lt0 : ∀ x ∈ p0, x.block < W.heap.size := by obtain ⟨m, hm⟩ := k0; exact DataW.trod_lt m _ _ _ hm
  have fit0 : Fit Try.prog M 27 d0 := fit_arg (j := 0) hsz rfl rfl (bulk_arg (j := 0) hbulk rfl)
  obtain ⟨fu0, hf0⟩ := h0
  obtain ⟨a0, hC0, hG0⟩ := ((opensRecv _) : Opens Sp Try.prog M 27 _ _) (okWide_cells (hval 0 27 v0 rfl rfl)).1 hf0 fit0
  obtain ⟨cs0, rfl⟩ := okWide_st Try.underlying27 (hval 0 27 v0 rfl rfl)
  have ha0 := fun L => argA (L := L) hC0
  have k1 := h1
  have lt1 : ∀ x ∈ p1, x.block < W.heap.size := by obtain ⟨m, hm⟩ := k1; exact DataW.trod_lt m _ _ _ hm
  have fit1 : Fit Try.prog M 3 d1 := fit_arg (j := 1) hsz rfl rfl (bulk_arg (j := 1) hbulk rfl)
  obtain ⟨fu1, hf1⟩ := h1
  obtain ⟨a1, hC1, hG1⟩ := ((opens_int Try.underlying3) : Opens Sp Try.prog M 3 _ _) (okWide_cells (hval 1 3 v1 rfl rfl)).1 hf1 fit1
  obtain ⟨u1, hu1, hV1⟩ := c0_inv hC1
  have hw1 : v1 = u1 := by
    rcases (okWide_cells (hval 1 3 v1 rfl rfl)).2 with ⟨cs, rfl⟩ | hx
    · exact absurd (hval 1 3 _ rfl rfl) (by intro hx; simp only [Value.okWide, Try.underlying3] at hx; exact absurd hx (by simp [Cell.okWide, Cell.ok, Try.underlying3]))
    · rw [hx] at hu1; simpa using hu1
  subst hw1
  have ha1 := fun L => arg1 (L := L) hV1
  refine (walk Pure.RecvReads M a0 a1 W [.agg cs0, v1] hG0 hG1 (args_cons ha0 (args_cons ha1 (args_nil _)))).mono fun e W' ⟨he, bel⟩ => ?_
  subst he
  exact ⟨_, rfl, _, _, _, [], _, [], hW', trodAll_mk1 (shut_bool Try.underlying4 _), (trodAll_cons_mk (Below.trod laidOut (by kernel_rfl) (of_decide_eq_true (by kernel_rfl)) k0 bel lt0) (trodAll_cons_mk (Below.trod laidOut (by kernel_rfl) (of_decide_eq_true (by kernel_rfl)) k1 bel lt1) trodAll_mk0)), rfl, bel.frame _, fun h => by cases h⟩
theorem over : Rows.recvReadsRow.holds Try.pinned (OpenSpec.ofChange Rows.recvReadsSpec) :=
  OpenClaim.holds_of_wide 9 Try.f9 rfl rfl rfl rfl rfl rfl rfl ⟨rfl, rfl, rfl, rfl, rfl⟩ rfl rfl rfl rfl rfl (by kernel_rfl) Try.func9 (by kernel_rfl)
    (of_decide_eq_true (by kernel_rfl)) (by unfold Func.isWrapper; first | (rw [if_pos (by decide +kernel)]; kernel_rfl) | (rw [if_neg (by decide +kernel)]; exact ⟨rfl, rfl⟩))
    (fun os started H enc _ => lifted os started H enc)
theorem proved : Rows.RecvReadsSaid := over
#print axioms proved
end Go.Proofs.Ytilmdmjhdidoiaa.recvReads
namespace Go.Proofs.Ytilmdmjhdidoiaa
/-- The row, under a short name, for the claim. -/
theorem recvReads_holds : Rows.RecvReadsSaid := recvReads.proved
end Go.Proofs.Ytilmdmjhdidoiaa
