/- The calls themselves, and any operation at all. -/
import Derived.Test.YtgnoidblkenglaaMachL
set_option linter.unusedVariables false
set_option linter.unusedSimpArgs false
namespace Go.Proofs.Ytgnoidblkenglaa.M
open Go Go.RowKit

/-- A function of the program's own, with a body. -/
def fnB (P : Program) (gf : Nat) : Bool := match P.funcs[gf]? with
  | some fn => !decide (fn.name = "runtime.NumGoroutine") && fn.body.isSome
  | none => false
def chkCall (P : Program) (T : Nat → Option IFn) (f : IFn) (o : Oper) (io : IOp) : Bool := match io with
  | .call id args pass exp => match o.op with
    | .call c => match c.callee with
      | .value (.func gf) => match T id with
        | some f2 => Nat.beq f2.go gf && fnB P gf && chkAs f c.args.toList (args.map (·.2)) && chkPE f f2 args pass exp
        | none => false
      | _ => false
    | _ => false
  | .callv ia gf id args pass exp => match o.op with
    | .call c => match c.callee with
      | .value x => match T id with
        | some f2 => Nat.beq f2.go gf && fnB P gf && chkA f x ia && chkAs f c.args.toList (args.map (·.2)) && chkPE f f2 args pass exp
        | none => false
      | _ => false
    | _ => false
  | _ => false
section
variable {P : Program} {T : Nat → Option IFn} {f f2 : IFn} {g : Gh} {w : World} {l : List AV} {a : Act} {K : Act → World → Prop} {Q : Exit → Act → World → Prop} {o : Oper} {R : Type} {r : R} {k : AV → List AV → Option R}
theorem fnB_ok {gf : Nat} (h : fnB P gf = true) : ∃ fn, P.funcs[gf]? = some fn ∧ fn.name ≠ "runtime.NumGoroutine" ∧ fn.body.isSome = true := by
  unfold fnB at h
  split at h
  · rename_i fn hfn
    simp only [Bool.and_eq_true, Bool.not_eq_true', decide_eq_false_iff_not] at h
    exact ⟨fn, hfn, h.1, h.2⟩
  · cases h
theorem run_enter {gf : Nat} (h : fnB P gf = true) (args : Array Value) : (callFunc gf args).run P w = .ok (.enter gf args) w := by
  obtain ⟨fn, h1, h2, h3⟩ := fnB_ok h
  cases hb : fn.body with
  | none => rw [hb] at h3; cases h3
  | some b =>
    have h4 : (fn.name == "runtime.NumGoroutine") = false := by simpa using h2
    show Sem.run P (match P.funcs[gf]? with
      | none => _
      | some fn => _) w = _
    simp only [h1, h4, hb, Bool.false_eq_true, if_false, Option.isNone_some]
    rfl
theorem call_sound (hl : LayOk f) (h : Rel f g w l a.tmps) (hd : DstOk f o.dst) {call : Nat → List AV → List (List AV) → Option Ret} (hcall : CallOk P T call) {io : IOp} (hc : chkCall P T f o io = true)
    (hk : comp call io (io.opds.map (rd l)) k = some r) (H : Fin f g w l a o.dst io.exw k r K) : o.wp P a w K Q := by
  unfold chkCall at hc
  split at hc
  · rename_i id args pass exp
    split at hc <;> try cases hc
    rename_i c hop
    split at hc <;> try cases hc
    rename_i gf hcal
    split at hc <;> try cases hc
    rename_i f2 hT
    simp only [Bool.and_eq_true] at hc
    obtain ⟨⟨⟨h1, h2⟩, h3⟩, h4⟩ := hc
    have e := nbeq h1
    have hk : callK call id args pass exp [] ((args.map (·.2) ++ expHds exp ++ passAll pass).map (rd l)) k = some r := hk
    rw [List.map_append, List.map_append, List.append_assoc] at hk
    refine call_core (vm := []) hl h hd hcall hT (chkPE_ok h4) h3 rfl (fun i b v hb => by simp at hb) ?_ hk H
    have e2 : (c.args.toList.map a.eval ++ ([] : List Value)).toArray = c.args.map a.eval := by apply Array.ext'; simp
    rw [e, e2]
    simp only [execOp, hop, resolve, hcal, Act.eval, Deferred.ofValue, invoke]
    simp [invoke, run_enter (w := w) h2]
  · rename_i ia gf id args pass exp
    split at hc <;> try cases hc
    rename_i c hop
    split at hc <;> try cases hc
    rename_i x hcal
    split at hc <;> try cases hc
    rename_i f2 hT
    simp only [Bool.and_eq_true] at hc
    obtain ⟨⟨⟨⟨h1, h2⟩, h0⟩, h3⟩, h4⟩ := hc
    have e := nbeq h1
    have hk : callvK call gf id args pass exp (rd l ia) ((args.map (·.2) ++ expHds exp ++ passAll pass).map (rd l)) k = some r := hk
    unfold callvK at hk
    split at hk
    · rename_i fn caps hv
      obtain ⟨h5, hk2⟩ := cond_some hk; clear hk
      have e5 := nbeq h5; subst e5
      obtain ⟨L, hv1, _⟩ := rd_ok h h0
      rw [hv] at hv1
      obtain ⟨vs, hu, hvl, hvs⟩ := hv1.clo_inv
      rw [List.map_append, List.map_append, List.append_assoc] at hk2
      refine call_core (vm := vs) hl h hd hcall hT (chkPE_ok h4) h3 (by simp [hvl]) (fun i b v hb hv' => ?_) ?_ hk2 H
      · rw [List.getElem?_map] at hb
        cases hci : caps[i]? with
        | none => rw [hci] at hb; cases hb
        | some y =>
          rw [hci] at hb; cases hb
          obtain ⟨h', j'⟩ := y
          obtain ⟨B, hB, rfl⟩ := hvs i h' j' v hci hv'
          exact ⟨rfl, .ptr h' j' B hB⟩
      · have e2 : (c.args.toList.map a.eval ++ vs).toArray = c.args.map a.eval ++ vs.toArray := by apply Array.ext'; simp
        rw [e, e2]
        simp only [execOp, hop, resolve, hcal, hu, Deferred.ofValue, invoke]
        simp [invoke, run_enter (w := w) h2]
    · cases hk
  · cases hc
def chkAny (P : Program) (T : Nat → Option IFn) (f : IFn) (o : Oper) (io : IOp) : Bool := chkOp P f o io || chkCall P T f o io
theorem any_sound (hl : LayOk f) (h : Rel f g w l a.tmps) (hd : DstOk f o.dst) {call : Nat → List AV → List (List AV) → Option Ret} (hcall : CallOk P T call) {io : IOp} (hc : chkAny P T f o io = true)
    (hk : comp call io (io.opds.map (rd l)) k = some r) (H : Fin f g w l a o.dst io.exw k r K) : o.wp P a w K Q := by
  unfold chkAny at hc
  rw [Bool.or_eq_true] at hc
  rcases hc with hc | hc
  · exact comp_sound hl h hd hc hk H
  · exact call_sound hl h hd hcall hc hk H
end
end Go.Proofs.Ytgnoidblkenglaa.M
