/- The calls themselves, and any operation at all. -/
import Derived.Test.YtafnmkbehjbkdaaMachL
set_option linter.unusedVariables false
set_option linter.unusedSimpArgs false
namespace Go.Proofs.Ytafnmkbehjbkdaa.M
open Go Go.RowKit
def fnB (P : Program) (gf : Nat) : Bool := match P.funcs[gf]? with
  | some fn => !decide (fn.name = "runtime.NumGoroutine") && fn.body.isSome
  | none => false
def chkCall (P : Program) (T : Nat → Option IFn) (f : IFn) (o : Oper) (io : IOp) : Bool := match io with
  | .call id args pass exp => match o.op with
    | .call c => match c.callee with
      | .value (.func gf) => match T id with
        | some f2 => Nat.beq f2.go gf && fnB P gf && chkAs f c.args.toList (args.map (·.2)) && chkPE f f2 args pass exp
        | none => false
      | _ => false
    | _ => false
  | .callv ia gf id args pass exp => match o.op with
    | .call c => match c.callee with
      | .value x => match T id with
        | some f2 => Nat.beq f2.go gf && fnB P gf && chkA f x ia && chkAs f c.args.toList (args.map (·.2)) && chkPE f f2 args pass exp
        | none => false
      | _ => false
    | _ => false
  | .ro id args pass => match o.op with
    | .call c => match c.callee with
      | .value (.func gf) => match T id with
        | some f2 => Nat.beq f2.go gf && fnB P gf && chkAs f c.args.toList (args.map (·.2)) && chkPE f f2 args pass [] && roFn f2
        | none => false
      | _ => false
    | _ => false
  | _ => false
section
variable {R : Type} {r : R}
noncomputable def eqA (a b : List AV) : Bool := @decide (a = b) (Classical.propDecidable _)
theorem eqA_iff {a b : List AV} : eqA a b = true ↔ a = b := by unfold eqA; exact @decide_eq_true_iff _ (Classical.propDecidable _)
noncomputable def roK (n : Nat) (old : List AV) (k : AV → List AV → Option R) (v : AV) (ex : List AV) : Option R := cond (Nat.ble n ex.length && eqA (ex.drop n) old) (k v (ex.take n)) none
theorem oldCells_vals : ∀ {pass : List (Nat × Nat × Nat)} {vs : List AV} {cells : List (List AV)}, passVals pass vs = some cells → oldCells pass vs = cells.flatten
  | [], [], _, h => by simp [passVals] at h; subst h; rfl
  | [], _ :: _, _, h => by simp [passVals] at h
  | (a, n, b) :: pass, [], _, h => by simp [passVals] at h
  | (a, n, b) :: pass, v :: vs, cells, h => by
    cases v <;> simp only [passVals] at h <;> try cases h
    obtain ⟨h1, h2⟩ := cond_some h
    split at h2
    · rename_i l hl
      cases h2
      simp only [oldCells, List.flatten_cons, oldCells_vals hl]
    · cases h2
theorem tr1_plain {m : List (Nat × Nat)} {a : AV} (h : plainA a = true) : tr1 m a = some a := by cases a <;> first | rfl | cases h
theorem trL_plain {m : List (Nat × Nat)} : ∀ {l : List AV}, l.all plainA = true → trL m l = some l
  | [], _ => rfl
  | a :: l, h => by
    simp only [List.all_cons, Bool.and_eq_true] at h
    simp only [trL, tr1_plain h.1, trL_plain h.2]
theorem trLL_plain {m : List (Nat × Nat)} : ∀ {l : List (List AV)}, l.flatten.all plainA = true → trLL m l = some l
  | [], _ => rfl
  | a :: l, h => by
    simp only [List.flatten_cons, List.all_append, Bool.and_eq_true] at h
    simp only [trLL, trL_plain h.1, trLL_plain h.2]
theorem ro_call {call : Nat → List AV → List (List AV) → Option Ret} {id : Nat} {f2 : IFn} (hro : ∀ as cells r, call id as cells = some r → r.cells = cells) {args : List (Bool × IA)} {pass : List (Nat × Nat × Nat)} {l : List AV} {k : AV → List AV → Option R}
    (hk : roC call id args pass ((args.map (·.2)).map (rd l) ++ (passAll pass).map (rd l)) k = some r) :
    callK call id args pass [] [] ((args.map (·.2)).map (rd l) ++ (passAll pass).map (rd l)) (roK (tkArgs args).length (oldCells pass ((passAll pass).map (rd l))) k) = some r := by
  unfold roC at hk
  have hd : ((args.map (·.2)).map (rd l) ++ (passAll pass).map (rd l)).drop args.length = (passAll pass).map (rd l) := by
    rw [List.drop_left' (by simp)]
  rw [hd] at hk
  obtain ⟨hpl, hk⟩ := cond_some hk
  have hm : (args.map (·.2)).map (rd l) = args.map fun x => rd l x.2 := by simp
  rw [hm] at hk ⊢
  unfold callK at hk ⊢
  split at hk
  · cases hk
  rename_i as ls vs h1
  obtain ⟨rfl, _, hls, _⟩ := argVals_ok h1
  try rw [h1]
  simp only [expDead] at hk ⊢
  split at hk
  · cases hk
  rename_i cells h2
  have ho := oldCells_vals h2
  rw [ho] at hpl ⊢
  try rw [h2]
  try simp only at hk ⊢
  split at hk
  · rename_i as' cells' h3 h4
    try rw [h3, h4]
    try simp only at hk ⊢
    rw [trLL_plain hpl] at h4
    cases h4
    cases hc : call id as' cells with
    | none => rw [hc] at hk; cases hk
    | some q =>
      rw [hc] at hk
      simp only [Option.bind_some] at hk ⊢
      have hq := hro _ _ _ hc
      rw [hq, trLL_plain hpl] at hk ⊢
      split at hk
      · rename_i v cs es h5 h6 h7
        cases h6
        try rw [h5, h7]
        try simp only
        obtain ⟨h8, h9⟩ := cond_some hk
        rw [h8, cond_true]
        have hes : es = [] := by
          simp only [Bool.and_eq_true] at h8
          cases es with
          | nil => rfl
          | cons => simp [okLens] at h8
        subst hes
        simp only [expOut, List.append_nil] at h9 ⊢
        unfold roK
        rw [List.drop_left' hls, eqA_iff.2 rfl]
        have : Nat.ble (tkArgs args).length (ls ++ cells.flatten).length = true := by rw [Nat.ble_eq]; simp [hls]
        rw [this]
        exact h9
      · cases hk
  · cases hk
theorem set_self : ∀ (l : List AV) (i : Nat), l.set i (l.getD i .dead) = l
  | [], i => by simp
  | a :: l, 0 => by simp
  | a :: l, i + 1 => by
    have := set_self l i
    simp only [List.getD_eq_getElem?_getD, List.getElem?_cons_succ, List.set_cons_succ] at this ⊢
    rw [this]
theorem setMany_self : ∀ (is : List Nat) (l : List AV), setMany l is (is.map fun t => l.getD t .dead) = l
  | [], l => rfl
  | i :: is, l => by
    simp only [List.map_cons, setMany]
    rw [set_self]; exact setMany_self is l
theorem oldCells_at (l : List AV) : ∀ (pass : List (Nat × Nat × Nat)), oldCells pass ((passAll pass).map (rd l)) = (passCells pass).map fun t => l.getD t .dead
  | [] => rfl
  | (h, n, b) :: pass => by
    have e : rng h (n + 1) = h :: rng (h + 1) n := rfl
    simp only [passAll, passCells, e, List.map_cons, List.cons_append, oldCells, List.map_append, List.map_map]
    have hl : ((rng (h + 1) n).map (rd l ∘ IA.s)).length = n := by simp [rng_len]
    rw [List.take_left' hl, List.drop_left' hl, oldCells_at l pass]
    rfl
end
section
variable {P : Program} {T : Nat → Option IFn} {f f2 : IFn} {g : Gh} {w : World} {l : List AV} {a : Act} {K : Act → World → Prop} {Q : Exit → Act → World → Prop} {o : Oper} {R : Type} {r : R} {k : AV → List AV → Option R}
theorem fnB_ok {gf : Nat} (h : fnB P gf = true) : ∃ fn, P.funcs[gf]? = some fn ∧ fn.name ≠ "runtime.NumGoroutine" ∧ fn.body.isSome = true := by
  unfold fnB at h
  split at h
  · rename_i fn hfn
    simp only [Bool.and_eq_true, Bool.not_eq_true', decide_eq_false_iff_not] at h
    exact ⟨fn, hfn, h.1, h.2⟩
  · cases h
theorem run_enter {gf : Nat} (h : fnB P gf = true) (args : Array Value) : (callFunc gf args).run P w = .ok (.enter gf args) w := by
  obtain ⟨fn, h1, h2, h3⟩ := fnB_ok h
  cases hb : fn.body with
  | none => rw [hb] at h3; cases h3
  | some b =>
    have h4 : (fn.name == "runtime.NumGoroutine") = false := by simpa using h2
    show Sem.run P (match P.funcs[gf]? with
      | none => _
      | some fn => _) w = _
    simp only [h1, h4, hb, Bool.false_eq_true, if_false, Option.isNone_some]
    rfl
theorem call_sound (hl : LayOk f) (h : Rel f g w l a.tmps) (hd : DstOk f o.dst) {call : Nat → List AV → List (List AV) → Option Ret} (hcall : CallOk P T call) {io : IOp} (hc : chkCall P T f o io = true)
    (hk : comp call io (io.opds.map (rd l)) k = some r) (H : Fin f g w l a o.dst io.exw k r K) : o.wp P a w K Q := by
  unfold chkCall at hc
  split at hc
  · rename_i id args pass exp
    split at hc <;> try cases hc
    rename_i c hop
    split at hc <;> try cases hc
    rename_i gf hcal
    split at hc <;> try cases hc
    rename_i f2 hT
    simp only [Bool.and_eq_true] at hc
    obtain ⟨⟨⟨h1, h2⟩, h3⟩, h4⟩ := hc
    have e := nbeq h1
    have hk : callK call id args pass exp [] ((args.map (·.2) ++ expHds exp ++ passAll pass).map (rd l)) k = some r := hk
    rw [List.map_append, List.map_append, List.append_assoc] at hk
    refine call_core (vm := []) hl h hd hcall hT (chkPE_ok h4) h3 rfl (fun i b v hb => by simp at hb) ?_ hk H
    have e2 : (c.args.toList.map a.eval ++ ([] : List Value)).toArray = c.args.map a.eval := by apply Array.ext'; simp
    rw [e, e2]
    simp only [execOp, hop, resolve, hcal, Act.eval, Deferred.ofValue, invoke]
    simp [invoke, run_enter (w := w) h2]
  · rename_i ia gf id args pass exp
    split at hc <;> try cases hc
    rename_i c hop
    split at hc <;> try cases hc
    rename_i x hcal
    split at hc <;> try cases hc
    rename_i f2 hT
    simp only [Bool.and_eq_true] at hc
    obtain ⟨⟨⟨⟨h1, h2⟩, h0⟩, h3⟩, h4⟩ := hc
    have e := nbeq h1
    have hk : callvK call gf id args pass exp (rd l ia) ((args.map (·.2) ++ expHds exp ++ passAll pass).map (rd l)) k = some r := hk
    unfold callvK at hk
    split at hk
    · rename_i fn caps hv
      obtain ⟨h5, hk2⟩ := cond_some hk; clear hk
      have e5 := nbeq h5; subst e5
      obtain ⟨L, hv1, _⟩ := rd_ok h h0
      rw [hv] at hv1
      obtain ⟨vs, hu, hvl, hvs⟩ := hv1.clo_inv
      rw [List.map_append, List.map_append, List.append_assoc] at hk2
      refine call_core (vm := vs) hl h hd hcall hT (chkPE_ok h4) h3 (by simp [hvl]) (fun i b v hb hv' => ?_) ?_ hk2 H
      · rw [List.getElem?_map] at hb
        cases hci : caps[i]? with
        | none => rw [hci] at hb; cases hb
        | some y =>
          rw [hci] at hb; cases hb
          obtain ⟨h', j'⟩ := y
          obtain ⟨B, hB, rfl⟩ := hvs i h' j' v hci hv'
          exact ⟨rfl, .ptr h' j' B hB⟩
      · have e2 : (c.args.toList.map a.eval ++ vs).toArray = c.args.map a.eval ++ vs.toArray := by apply Array.ext'; simp
        rw [e, e2]
        simp only [execOp, hop, resolve, hcal, hu, Deferred.ofValue, invoke]
        simp [invoke, run_enter (w := w) h2]
    · cases hk
  · rename_i id args pass
    split at hc <;> try cases hc
    rename_i c hop
    split at hc <;> try cases hc
    rename_i gf hcal
    split at hc <;> try cases hc
    rename_i f2 hT
    simp only [Bool.and_eq_true] at hc
    obtain ⟨⟨⟨⟨h1, h2⟩, h3⟩, h4⟩, h5⟩ := hc
    have e := nbeq h1
    have hk : roC call id args pass ((args.map (·.2) ++ expHds [] ++ passAll pass).map (rd l)) k = some r := hk
    rw [show expHds [] = [] from rfl, List.append_nil, List.map_append] at hk
    have hk2 := ro_call (f2 := f2) (fun as cells q hq => hcall.ro id f2 as cells q hT h5 hq) hk
    refine call_core (vm := []) (exp := []) hl h hd hcall hT (chkPE_ok h4) h3 rfl (fun i b v hb => by simp at hb) ?_ hk2 ?_
    · have e2 : (c.args.toList.map a.eval ++ ([] : List Value)).toArray = c.args.map a.eval := by apply Array.ext'; simp
      rw [e, e2]
      simp only [execOp, hop, resolve, hcal, Act.eval, Deferred.ofValue, invoke]
      simp [invoke, run_enter (w := w) h2]
    · intro v ex u g' w' hk3 hR he
      unfold roK at hk3
      obtain ⟨h6, h7⟩ := cond_some hk3
      simp only [Bool.and_eq_true] at h6
      have hn : (tkArgs args).length ≤ ex.length := by have := h6.1; rwa [Nat.ble_eq] at this
      have hold := eqA_iff.1 h6.2
      have hfr : setMany l (tkArgs args ++ passCells pass ++ expAll []) ex = setMany l (tkArgs args) (ex.take (tkArgs args).length) := by
        rw [show expAll [] = [] from rfl, List.append_nil]
        conv => lhs; rw [← List.take_append_drop (tkArgs args).length ex]
        rw [setMany_append _ _ _ _ _ (by simp; omega), hold, oldCells_at]
        have hsame : (passCells pass).map (fun t => l.getD t .dead) = (passCells pass).map fun t => (setMany l (tkArgs args) (ex.take (tkArgs args).length)).getD t .dead := by
          refine List.map_congr_left fun t ht => ?_
          rw [setMany_out]
          intro hm
          obtain ⟨x, hx, hxt⟩ := mem_passCells.1 ht
          have hlt := (chkPE_ok h4).tknt t hm
          have := (hl.within _ _ ((chkPE_ok h4).lay1 x hx)).1
          omega
        rw [hsame, setMany_self]
      rw [hfr] at hR
      exact H v _ u g' w' h7 hR he
  · cases hc
def chkAny (P : Program) (T : Nat → Option IFn) (f : IFn) (o : Oper) (io : IOp) : Bool := chkOp P f o io || chkCall P T f o io
theorem any_sound (hl : LayOk f) (h : Rel f g w l a.tmps) (hd : DstOk f o.dst) {call : Nat → List AV → List (List AV) → Option Ret} (hcall : CallOk P T call) {io : IOp} (hc : chkAny P T f o io = true)
    (hk : comp call io (io.opds.map (rd l)) k = some r) (H : Fin f g w l a o.dst io.exw k r K) : o.wp P a w K Q := by
  unfold chkAny at hc
  rw [Bool.or_eq_true] at hc
  rcases hc with hc | hc
  · exact comp_sound hl h hd hc hk H
  · exact call_sound hl h hd hcall hc hk H
end
end Go.Proofs.Ytafnmkbehjbkdaa.M
