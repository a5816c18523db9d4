-- Printed by a session's program (wip/tools/mg3.py) out of the translation. Lean checks it.
import Derived.Test.YtfdopmobhphdbaaRows
import Derived.Test.YtfdopmobhphdbaaG1
import Derived.Test.YtfdopmobhphdbaaMachY
import Derived.Test.YtfdopmobhphdbaaPuAckPlainu
import Derived.Test.YtfdopmobhphdbaaPureAckPlainu
import Derived.WalkKit
import Derived.ProofKit
import Derived.OpenShut
import Derived.ShutString
import Derived.ChangeOld
import Derived.Below
import Derived.SizedLaws
import Derived.JoinedCond
import Derived.Deep.CondSized
namespace Go.Proofs.Ytfdopmobhphdbaa.ackPlainUpto
open Go.ChangeShapes Go.WideShapes Go.ChangeAt Go.RowKit Go.Proofs.Ytfdopmobhphdbaa.M Go.Proofs.Ytfdopmobhphdbaa.M.LawAckPlainu
set_option linter.unusedVariables false
set_option linter.unusedSimpArgs false
theorem own : ownKnob Try.prog.godebug = none := by kernel_rfl
theorem laidOut : laidOutB Try.prog = true := by kernel_rfl
theorem opensAsked {S : Value → Prop} (M : Nat) : Opens S Try.prog M 24 (fun p : SAsked => TV.los U (eAsked p)) (InAsked M) :=
  opens_iso (opens_struct Try.underlying24 (by kernel_rfl) (opensF_cons (sz := 1) (by kernel_rfl) (by kernel_rfl) (opens_int Try.underlying3) (opensF_cons (sz := 1) (by kernel_rfl) (by kernel_rfl) (opens_int Try.underlying3) (opensF_cons (sz := 1) (by kernel_rfl) (by kernel_rfl) (opens_int Try.underlying22) (opensF_cons (sz := 1) (by kernel_rfl) (by kernel_rfl) (opens_int Try.underlying3) (opensF_cons (sz := 1) (by kernel_rfl) (by kernel_rfl) (opens_int Try.underlying22) (opensF_cons (sz := 1) (by kernel_rfl) (by kernel_rfl) (opens_bool Try.underlying4) (opensF_cons (sz := 1) (by kernel_rfl) (by kernel_rfl) (opens_int Try.underlying22) (opensF_cons (sz := 1) (by kernel_rfl) (by kernel_rfl) (opens_int Try.underlying22) (opensF_one (sz := 1) (by kernel_rfl) (by kernel_rfl) (opens_bool Try.underlying4))))))))))) (fun p => ⟨p.1, p.2.1, p.2.2.1, p.2.2.2.1, p.2.2.2.2.1, p.2.2.2.2.2.1, p.2.2.2.2.2.2.1, p.2.2.2.2.2.2.2.1, p.2.2.2.2.2.2.2.2⟩) (fun _ => rfl) (fun _ h => h)
theorem opensBlock {S : Value → Prop} (M : Nat) : Opens S Try.prog M 41 (fun p : SBlock => TV.los U (eBlock p)) (InBlock M) :=
  opens_iso (opens_struct Try.underlying41 (by kernel_rfl) (opensF_cons (sz := 1) (by kernel_rfl) (by kernel_rfl) (opens_int Try.underlying22) (opensF_one (sz := 1) (by kernel_rfl) (by kernel_rfl) (opens_int Try.underlying22)))) (fun p => ⟨p.1, p.2⟩) (fun _ => rfl) (fun _ h => h)
theorem opensSegment (M : Nat) : Opens Sp Try.prog M 28 (fun p : SSegment => TV.los U (eSegment p)) (InSegment M) :=
  opens_iso (opens_struct Try.underlying28 (by kernel_rfl) (opensF_cons (sz := 1) (by kernel_rfl) (by kernel_rfl) (opens_int Try.underlying3) (opensF_cons (sz := 1) (by kernel_rfl) (by kernel_rfl) (opens_int Try.underlying3) (opensF_cons (sz := 1) (by kernel_rfl) (by kernel_rfl) (opens_int Try.underlying22) (opensF_cons (sz := 1) (by kernel_rfl) (by kernel_rfl) (opens_int Try.underlying22) (opensF_cons (sz := 1) (by kernel_rfl) (by kernel_rfl) (opens_int Try.underlying3) (opensF_cons (sz := 1) (by kernel_rfl) (by kernel_rfl) (opens_int Try.underlying3) (opensF_cons (sz := 1) (by kernel_rfl) (by kernel_rfl) (opens_int Try.underlying3) (opensF_cons (sz := 1) (by kernel_rfl) (by kernel_rfl) (opens_int Try.underlying3) (opensF_cons (sz := 1) (by kernel_rfl) (by kernel_rfl) (opens_int Try.underlying3) (opensF_cons (sz := 1) (by kernel_rfl) (by kernel_rfl) (opens_bool Try.underlying4) (opensF_cons (sz := 1) (by kernel_rfl) (by kernel_rfl) (opens_bool Try.underlying4) (opensF_cons (sz := 1) (by kernel_rfl) (by kernel_rfl) (opens_int Try.underlying22) (opensF_cons (sz := 1) (by kernel_rfl) (by kernel_rfl) (opens_int Try.underlying22) (opensF_cons (sz := 1) (by kernel_rfl) (by kernel_rfl) (opens_slice (c := cBlock) (z := zBlock) (sz := 2) Try.underlying25 (by kernel_rfl) (fun _ => rfl) (opens_iso (opensBlock M) id (fun _ => rfl) (fun _ h => h))) (opensF_one (sz := 1) (by kernel_rfl) (by kernel_rfl) (opens_slice (c := cuint8) (z := zuint8) (sz := 1) Try.underlying26 (by kernel_rfl) (fun _ => rfl) (opens_int Try.underlying5)))))))))))))))))) (fun p => ⟨p.1, p.2.1, p.2.2.1, p.2.2.2.1, p.2.2.2.2.1, p.2.2.2.2.2.1, p.2.2.2.2.2.2.1, p.2.2.2.2.2.2.2.1, p.2.2.2.2.2.2.2.2.1, p.2.2.2.2.2.2.2.2.2.1, p.2.2.2.2.2.2.2.2.2.2.1, p.2.2.2.2.2.2.2.2.2.2.2.1, p.2.2.2.2.2.2.2.2.2.2.2.2.1, p.2.2.2.2.2.2.2.2.2.2.2.2.2.1, p.2.2.2.2.2.2.2.2.2.2.2.2.2.2⟩) (fun _ => rfl) (fun _ h => h)
theorem walk (P : Pure) (a0 : SAsked) (a1 : SSegment) (w : World) (vs : List Value) (h0 : InAsked 1048576 a0) (h1 : InSegment 1048576 a1) (ha : ArgsOk w (TV.los U [.agg (eAsked a0), .agg (eSegment a1)]) vs) :
    Calls Try.prog 3 vs.toArray w fun e w' => e = .returned (.bool true) ∧ Below w.heap.size w w' := by
  obtain ⟨n, h⟩ := P a0 a1 h0 h1
  have hc : callP capB n 3 [.agg (eAsked a0), .agg (eSegment a1)] [] (fun q => some q) = some ⟨tB true, []⟩ := (show callP capB n 3 [.agg (eAsked a0), .agg (eSegment a1)] [] (fun q => some q) = G_law22_AckPlain capB n a0 a1 (fun r => some ⟨tB r, []⟩) from by kernel_rfl).trans (h _ _)
  obtain ⟨q, h1, h2⟩ := callOk n _ _ _ _ _ hc
  cases h2
  exact law_calls chkAll (f := fn_law22_AckPlain.lo U) rfl rfl h1 ha
set_option maxRecDepth 100000 in
set_option maxHeartbeats 4000000 in
theorem contract (H : Type) (enc : TypeId × Value → H) (W : World) (base : Nat) (args : Array Value) (ds gs : List (DataW H)) (before : List MemPlace)
    (hval : ∀ (j : Nat) t v, Try.f3.params[j]? = some t → args[j]? = some v → Value.okWide Try.prog W .any base t v)
    (hW : DataW.Whole enc Try.prog Try.f3.params.toList Rows.ackPlainSpec.vars false W args.toList ds gs before) (hk : Rows.uptoSmall H (ds ++ gs) = true)
    (hsz : (DataW.weightsEach Try.prog (Try.f3.params.toList ++ (Rows.OpenSpec.upto Rows.ackPlainSpec).bare.plain.varTypes Try.prog) (ds ++ gs)).all (· ≤ reachBytes) = true) :
    Calls Try.prog 3 args W fun e W' => ∃ v, e = .returned v ∧ Rows.ackPlainSpec.post enc Try.prog Try.f3 false true false false W args v W' := by
  have hW' := hW
  obtain ⟨p, q, hA0, hV, rfl, hfz, hnd⟩ := hW
  have hA : DataW.TrodAll enc Try.prog W 0 (fun _ => true) true Try.f3.params.toList args.toList ds p := hA0
  rw [Try.params3] at hA hval hsz
  obtain ⟨v0, vs0, d0, ds0, p0, q0, hargs, rfl, rfl, h0, r0⟩ := trodAll_cons hA
  obtain ⟨v1, vs1, d1, ds1, p1, q1, rfl, rfl, rfl, h1, r1⟩ := trodAll_cons r0
  obtain ⟨rfl, rfl, rfl⟩ := trodAll_nil r1
  obtain rfl : args = #[v0, v1] := by cases args; simp_all
  obtain ⟨rfl, rfl⟩ := trodVars_none hV
  have hbulk : Rows.uptoBulkAll ([d0, d1] : List (DataW H)) ≤ 1048576 := of_decide_eq_true hk
  have k0 := h0
  have lt0 : ∀ x ∈ p0, x.block < W.heap.size := by obtain ⟨m, hm⟩ := k0; exact DataW.trod_lt m _ _ _ hm
  have fit0 : Fit Try.prog 1048576 24 d0 := fit_arg (j := 0) hsz rfl rfl (bulk_arg (j := 0) hbulk rfl)
  obtain ⟨fu0, hf0⟩ := h0
  obtain ⟨a0, hC0, hG0⟩ := ((opensAsked _) : Opens Sp Try.prog 1048576 24 _ _) (okWide_cells (hval 0 24 v0 rfl rfl)).1 hf0 fit0
  obtain ⟨cs0, rfl⟩ := okWide_st Try.underlying24 (hval 0 24 v0 rfl rfl)
  have ha0 := fun L => argA (L := L) hC0
  have k1 := h1
  have lt1 : ∀ x ∈ p1, x.block < W.heap.size := by obtain ⟨m, hm⟩ := k1; exact DataW.trod_lt m _ _ _ hm
  have fit1 : Fit Try.prog 1048576 28 d1 := fit_arg (j := 1) hsz rfl rfl (bulk_arg (j := 1) hbulk rfl)
  obtain ⟨fu1, hf1⟩ := h1
  obtain ⟨a1, hC1, hG1⟩ := ((opensSegment _) : Opens Sp Try.prog 1048576 28 _ _) (okWide_cells (hval 1 28 v1 rfl rfl)).1 hf1 fit1
  obtain ⟨cs1, rfl⟩ := okWide_st Try.underlying28 (hval 1 28 v1 rfl rfl)
  have ha1 := fun L => argA (L := L) hC1
  refine (walk Pure.AckPlainU a0 a1 W [.agg cs0, .agg cs1] hG0 hG1 (args_cons ha0 (args_cons ha1 (args_nil _)))).mono fun e W' ⟨he, bel⟩ => ?_
  subst he
  exact ⟨_, rfl, _, _, _, [], _, [], hW', trodAll_mk1 (shut_bool Try.underlying4 _), (trodAll_cons_mk (Below.trod laidOut (by kernel_rfl) (of_decide_eq_true (by kernel_rfl)) k0 bel lt0) (trodAll_cons_mk (Below.trod laidOut (by kernel_rfl) (of_decide_eq_true (by kernel_rfl)) k1 bel lt1) trodAll_mk0)), rfl, bel.frame _, fun h => by cases h⟩
set_option maxRecDepth 100000 in
theorem lifted (os : Os) (started : os.Started) (H : Type) (enc : TypeId × Value → H) (F : Stop.Interp) :
    ReturnsInHanded {} Try.checked os 3 .any ((Rows.OpenSpec.upto Rows.ackPlainSpec).pre6 enc Try.prog Try.f3 Rows.ackPlainUptoRow.domain false) (((Rows.OpenSpec.upto Rows.ackPlainSpec).at F).post enc Try.prog Try.f3 false true false false) := by
  refine returnsInHanded_of_cond_sized (C := Try.checked) (s := Rows.OpenSpec.upto Rows.ackPlainSpec) (k := Rows.uptoSmall) rfl own started (by kernel_rfl) Try.func3
    (OpenSpec.witness (enc := enc) (C := Try.checked) (s := Rows.OpenSpec.upto Rows.ackPlainSpec) (k := Rows.uptoSmall) rfl false ⟨#[], #[.agg #[.int .i64 0, .int .i64 0, .int .u32 0, .int .i64 0, .int .u32 0, .bool false, .int .u32 0, .int .u32 0, .bool false], .agg #[.int .i64 0, .int .i64 0, .int .u32 0, .int .u32 0, .int .i64 0, .int .i64 0, .int .i64 0, .int .i64 0, .int .i64 0, .bool false, .bool false, .int .u32 0, .int .u32 0, .slice none 0 0, .slice none 0 0]], []⟩ 8 (by kernel_rfl) (by kernel_rfl) (by kernel_rfl)
      (x := ([.agg [.lit (.int .i64 0), .lit (.int .i64 0), .lit (.int .u32 0), .lit (.int .i64 0), .lit (.int .u32 0), .lit (.bool false), .lit (.int .u32 0), .lit (.int .u32 0), .lit (.bool false)], .agg [.lit (.int .i64 0), .lit (.int .i64 0), .lit (.int .u32 0), .lit (.int .u32 0), .lit (.int .i64 0), .lit (.int .i64 0), .lit (.int .i64 0), .lit (.int .i64 0), .lit (.int .i64 0), .lit (.bool false), .lit (.bool false), .lit (.int .u32 0), .lit (.int .u32 0), .nil, .nil]], [], [])) (by kernel_rfl) rfl (by kernel_rfl)) ?_
  intro W base args ds gs before hval hW _ hk hsz _
  exact contract H enc W base args ds gs before hval hW hk hsz
theorem proved : Rows.AckPlainUptoSaid :=
  OpenClaim.holds_of_cond 3 Try.f3 rfl rfl rfl rfl rfl rfl rfl ⟨rfl, rfl, rfl, rfl, rfl⟩ rfl rfl rfl rfl rfl (by kernel_rfl) Try.func3 (by kernel_rfl)
    (of_decide_eq_true (by kernel_rfl)) (by unfold Func.isWrapper; first | (rw [if_pos (by decide +kernel)]; kernel_rfl) | (rw [if_neg (by decide +kernel)]; exact ⟨rfl, rfl⟩))
    (fun os started H enc _ F => lifted os started H enc F)
#print axioms proved
end Go.Proofs.Ytfdopmobhphdbaa.ackPlainUpto
namespace Go.Proofs.Ytfdopmobhphdbaa
/-- The row, under a short name, for the claim. -/
theorem ackPlainUpto_holds : Rows.AckPlainUptoSaid := ackPlainUpto.proved
end Go.Proofs.Ytfdopmobhphdbaa
