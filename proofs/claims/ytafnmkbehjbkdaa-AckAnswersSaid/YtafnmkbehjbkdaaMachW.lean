/- What the machine over typed rows answers, the machine answers: operations, regions, code, functions. -/
import Derived.Test.YtafnmkbehjbkdaaMachV
set_option linter.unusedVariables false
set_option linter.unusedSimpArgs false
namespace Go.Proofs.Ytafnmkbehjbkdaa.M
open Go Go.RowKit
section
variable {W : Type} {U : Uni W} {R : Type} {r : R}
variable {call2 : Nat → List (TV W) → List (List (TV W)) → (Ret2 W → Option R) → Option R} {call : Nat → List AV → List (List AV) → Option Ret} {k : TV W → List (TV W) → Option R}
theorem box2 {h0 n : Nat} {tk : Bool} {x : IA2 W} {hd v : TV W} (h : comp2 U capB call2 (.box h0 n tk x) [hd, v] k = some r) : Same2 U k r fun R' k' => comp call ((IOp2.box h0 n tk x).lo U) (TV.los U [hd, v]) k' := by
  cases hd <;> try cases h
  simp only [comp2] at h
  cases hcs : v.cells? with
  | none => rw [hcs] at h; cases h
  | some cs =>
    rw [hcs] at h
    obtain ⟨h1, h2⟩ := cond_some h
    have e : ∀ (R' : Type) (k' : AV → List AV → Option R'), comp call ((IOp2.box h0 n tk x).lo U) (TV.los U [.dead, v]) k' = boxK h0 n tk (x.lo U) .dead (TV.lo U v) k' := fun _ _ => rfl
    cases x with
    | s t =>
      cases tk with
      | true =>
        refine ⟨_, _, h2, fun R' k' => (e R' k').trans ?_⟩
        unfold boxK
        rw [lo_cells _ hcs]
        simp only [los_len, los_storable, h1, cond_true, IA2.lo, atIA, ← lo_strip, TV.los, TV.lo, los_append]
      | false =>
        refine ⟨_, _, h2, fun R' k' => (e R' k').trans ?_⟩
        unfold boxK
        rw [lo_cells _ hcs]
        simp only [los_len, los_storable, h1, cond_true, cond_false, IA2.lo, atIA, TV.los, TV.lo, los_c1]
    | k c =>
      refine ⟨_, _, h2, fun R' k' => (e R' k').trans ?_⟩
      unfold boxK
      rw [lo_cells _ hcs]
      simp only [los_len, los_storable, h1, cond_true, IA2.lo, atIA, TV.los, TV.lo]
theorem load2 {h0 j n a0 : Nat} {ag tk : Bool} {a hd : TV W} {cs : List (TV W)} (h : comp2 U capB call2 (.load h0 j n ag tk a0) (a :: hd :: cs) k = some r) : Same2 U k r fun R' k' => comp call ((IOp2.load h0 j n ag tk a0 : IOp2 W).lo U) (TV.los U (a :: hd :: cs)) k' := by
  cases a <;> try cases h
  cases hd <;> try cases h
  rename_i h' j' m
  simp only [comp2] at h
  obtain ⟨h1, h2⟩ := cond_some h
  have e : ∀ (R' : Type) (k' : AV → List AV → Option R'), comp call ((IOp2.load h0 j n ag tk a0 : IOp2 W).lo U) (TV.los U (.ptr h' j' :: .hdr m :: cs)) k' = loadK h0 j n ag tk (.ptr h' j') (.hdr m) (TV.los U cs) k' := fun _ _ => rfl
  cases tk with
  | true =>
    refine ⟨_, _, h2, fun R' k' => (e R' k').trans ?_⟩
    unfold loadK
    simp only [h1, cond_true, lo_mkv, los_c1]
  | false =>
    refine ⟨_, _, h2, fun R' k' => (e R' k').trans ?_⟩
    unfold loadK
    simp only [h1, cond_true, cond_false, lo_mkv, los_c1, TV.los]
theorem store2 {h0 j n a0 : Nat} {tk : Bool} {x : IA2 W} {a hd v : TV W} (h : comp2 U capB call2 (.store h0 j n tk a0 x) [a, hd, v] k = some r) : Same2 U k r fun R' k' => comp call ((IOp2.store h0 j n tk a0 x).lo U) (TV.los U [a, hd, v]) k' := by
  cases a <;> try cases h
  cases hd <;> try cases h
  rename_i h' j' m
  simp only [comp2] at h
  cases hcs : v.cells? with
  | none => rw [hcs] at h; cases h
  | some cs =>
    rw [hcs] at h
    obtain ⟨h1, h2⟩ := cond_some h
    have e : ∀ (R' : Type) (k' : AV → List AV → Option R'), comp call ((IOp2.store h0 j n tk a0 x).lo U) (TV.los U [.ptr h' j', .hdr m, v]) k' = storeK h0 j n tk (x.lo U) (.ptr h' j') (.hdr m) (TV.lo U v) k' := fun _ _ => rfl
    cases x with
    | s t =>
      cases tk with
      | true =>
        refine ⟨_, _, h2, fun R' k' => (e R' k').trans ?_⟩
        unfold storeK
        rw [lo_cells _ hcs]
        simp only [los_len, los_storable, h1, cond_true, IA2.lo, atIA, ← lo_strip, TV.los, TV.lo, los_append]
      | false =>
        refine ⟨_, _, h2, fun R' k' => (e R' k').trans ?_⟩
        unfold storeK
        rw [lo_cells _ hcs]
        simp only [los_len, los_storable, h1, cond_true, cond_false, IA2.lo, atIA, TV.los, TV.lo, los_c1]
    | k c =>
      refine ⟨_, _, h2, fun R' k' => (e R' k').trans ?_⟩
      unfold storeK
      rw [lo_cells _ hcs]
      simp only [los_len, los_storable, h1, cond_true, IA2.lo, atIA, TV.los, TV.lo]
theorem bin2 {op : BinOp} {x0 y0 : IA2 W} {x y : TV W} (h : comp2 U capB call2 (.bin op x0 y0) [x, y] k = some r) : Same2 U k r fun R' k' => comp call ((IOp2.bin op x0 y0).lo U) (TV.los U [x, y]) k' := by
  simp only [comp2] at h
  obtain ⟨h1, h2⟩ := ibin_sc h
  obtain ⟨v, ex, h3, h4⟩ := sc_det (U := U) (fun R' K => ibin op x.sc? y.sc? K) (fun R' K => n_ibin op _ _ K) h
  refine ⟨v, ex, h3, fun R' k' => ?_⟩
  show ibin op (TV.lo U x) (TV.lo U y) (fun v => k' v []) = _
  rw [lo_sc' h1, lo_sc' h2]; exact h4 R' k'
theorem eqb2 {op : Bool} {x0 y0 : IA2 W} {x y : TV W} (h : comp2 U capB call2 (.eqb op x0 y0) [x, y] k = some r) : Same2 U k r fun R' k' => comp call ((IOp2.eqb op x0 y0).lo U) (TV.los U [x, y]) k' := by
  simp only [comp2] at h
  obtain ⟨h1, h2⟩ := eqbK_sc h
  obtain ⟨v, ex, h3, h4⟩ := sc_det (U := U) (fun R' K => eqbK op x.sc? y.sc? K) (fun R' K => n_eqb op _ _ K) h
  refine ⟨v, ex, h3, fun R' k' => ?_⟩
  show eqbK op (TV.lo U x) (TV.lo U y) (fun v => k' v []) = _
  rw [lo_sc' h1, lo_sc' h2]; exact h4 R' k'
theorem eqs2 {ks : List Bool} {neg : Bool} {x0 y0 : IA2 W} {x y : TV W} (h : comp2 U capB call2 (.eqs ks neg x0 y0) [x, y] k = some r) : Same2 U k r fun R' k' => comp call ((IOp2.eqs ks neg x0 y0).lo U) (TV.los U [x, y]) k' := by
  simp only [comp2] at h
  obtain ⟨h1, h2⟩ := eqsK_sc (U := U) h
  obtain ⟨v, ex, h3, h4⟩ := sc_det (U := U) (fun R' K => eqsK ks neg x.scs? y.scs? K) (fun R' K => n_eqs ks neg _ _ K) h
  refine ⟨v, ex, h3, fun R' k' => ?_⟩
  show eqsK ks neg (TV.lo U x) (TV.lo U y) (fun v => k' v []) = _
  rw [h1, h2]; exact h4 R' k'
theorem un2 {op : UnOp} {x0 : IA2 W} {x : TV W} (h : comp2 U capB call2 (.un op x0) [x] k = some r) : Same2 U k r fun R' k' => comp call ((IOp2.un op x0).lo U) (TV.los U [x]) k' := by
  simp only [comp2] at h
  have h1 := iun_sc h
  obtain ⟨v, ex, h3, h4⟩ := sc_det (U := U) (fun R' K => iun op x.sc? K) (fun R' K => n_un op _ K) h
  refine ⟨v, ex, h3, fun R' k' => ?_⟩
  show iun op (TV.lo U x) (fun v => k' v []) = _
  rw [lo_sc' h1]; exact h4 R' k'
theorem conv2 {kd : IntKind} {x0 : IA2 W} {x : TV W} (h : comp2 U capB call2 (.conv kd x0) [x] k = some r) : Same2 U k r fun R' k' => comp call ((IOp2.conv kd x0).lo U) (TV.los U [x]) k' := by
  simp only [comp2] at h
  have h1 := convK_sc h
  obtain ⟨v, ex, h3, h4⟩ := sc_det (U := U) (fun R' K => convK kd x.sc? K) (fun R' K => by unfold convK; split <;> rfl) h
  refine ⟨v, ex, h3, fun R' k' => ?_⟩
  show convK kd (TV.lo U x) (fun v => k' v []) = _
  rw [lo_sc' h1]; exact h4 R' k'
theorem idx2 (hU : UniOk U) {sz : Nat} {x0 y0 : IA2 W} {v i : TV W} (h : comp2 U capB call2 (.idx sz x0 y0) [v, i] k = some r) : Same2 U k r fun R' k' => comp call ((IOp2.idx sz x0 y0).lo U) (TV.los U [v, i]) k' := by
  cases v <;> try cases h
  rename_i a x
  cases i with
  | sc w => cases w with
    | int kd i =>
      simp only [comp2] at h
      obtain ⟨h1, h⟩ := cond_some h
      obtain ⟨h2, h⟩ := cond_some h
      obtain ⟨h3, h⟩ := cond_some h
      refine ⟨_, _, h, fun R' k' => ?_⟩
      show idxK sz (.row a (U.sz x) (U.len x) (U.getA x)) (.sc (.int kd i)) (fun v => k' v []) = _
      unfold idxK
      simp only [h1, h2, h3, cond_true, TV.lo, hU.get, TV.los]
    | _ => cases h
  | _ => cases h
theorem slice2 (hU : UniOk U) {sz : Nat} {x0 : IA2 W} {lo hi mx : Option (IA2 W)} {v : TV W} {vs : List (TV W)} (h : comp2 U capB call2 (.slice sz x0 lo hi mx) (v :: vs) k = some r) : Same2 U k r fun R' k' => comp call ((IOp2.slice sz x0 lo hi mx).lo U) (TV.los U (v :: vs)) k' := by
  simp only [comp2] at h
  obtain ⟨i, v1, h1, e1⟩ := optI2_ok (U := U) h
  obtain ⟨j, v2, h2, e2⟩ := optI2_ok (U := U) h1
  obtain ⟨m, v3, h3, e3⟩ := optI2_ok (U := U) h2
  obtain ⟨u, h4, e4⟩ := sliceK2_ok hU h3
  refine ⟨u, [], h4, fun R' k' => ?_⟩
  show optI (lo.map (IA2.lo U)) (TV.los U vs) (fun l vs => optI (hi.map (IA2.lo U)) vs fun h vs => optI (mx.map (IA2.lo U)) vs fun m _ => sliceK sz (TV.lo U v) l h m fun v => k' v []) = _
  rw [e1, e2, e3, e4]; rfl
theorem len2 {str : Bool} {x0 : IA2 W} {v : TV W} (h : comp2 U capB call2 (.len str x0) [v] k = some r) : Same2 U k r fun R' k' => comp call ((IOp2.len str x0).lo U) (TV.los U [v]) k' := by
  cases v with
  | row a x =>
    cases str with
    | true => cases h
    | false => exact ⟨_, _, h, fun R' k' => rfl⟩
  | ur kk sz n =>
    cases str with
    | true => cases h
    | false => exact ⟨_, _, h, fun R' k' => rfl⟩
  | sc s =>
    cases s with
    | string s =>
      cases str with
      | true => exact ⟨_, _, h, fun R' k' => rfl⟩
      | false => cases h
    | _ => cases h
  | _ => cases h
theorem sidx2 {x0 y0 : IA2 W} {x y : TV W} (h : comp2 U capB call2 (.sidx x0 y0) [x, y] k = some r) : Same2 U k r fun R' k' => comp call ((IOp2.sidx x0 y0).lo U) (TV.los U [x, y]) k' := by
  simp only [comp2] at h
  obtain ⟨h1, h2⟩ := sidxK_sc h
  obtain ⟨v, ex, h3, h4⟩ := sc_det (U := U) (fun R' K => sidxK x.sc? y.sc? K) (fun R' K => by
    unfold sidxK; split
    · split
      · simp only [cond_bind]; rfl
      · rfl
    · rfl) h
  refine ⟨v, ex, h3, fun R' k' => ?_⟩
  show sidxK (TV.lo U x) (TV.lo U y) (fun v => k' v []) = _
  rw [lo_sc' h1, lo_sc' h2]; exact h4 R' k'
theorem selK_eq {R : Type} {i : Int} {m : Nat} (k : Nat → Option R) (e : i = (m : Int)) : ∀ {n j : Nat}, j ≤ m → m < j + n → selK i n j k = k m
  | 0, j, h1, h2 => by omega
  | n + 1, j, h1, h2 => by
    unfold selK
    by_cases c : i = (j : Int)
    · have : j = m := by omega
      rw [decide_eq_true c, this]; rfl
    · rw [decide_eq_false c]
      exact selK_eq k e (n := n) (j := j + 1) (by omega) (by omega)
theorem aidx2 {n sz : Nat} {ag : Bool} {x0 y0 : IA2 W} {x y : TV W} (h : comp2 U capB call2 (.aidx n sz ag x0 y0) [x, y] k = some r) : Same2 U k r fun R' k' => comp call ((IOp2.aidx n sz ag x0 y0).lo U) (TV.los U [x, y]) k' := by
  cases x <;> try cases h
  rename_i cs
  cases y with
  | sc w => cases w with
    | int kd i =>
      simp only [comp2] at h
      obtain ⟨h1, h⟩ := cond_some h
      obtain ⟨m, a1, a2, a3, h⟩ := selK_ok h
      refine ⟨_, _, h, fun R' k' => ?_⟩
      show aidxK n sz ag (.agg (TV.los U cs)) (.sc (.int kd i)) (fun v => k' v []) = _
      unfold aidxK
      simp only [los_len, h1, cond_true]
      rw [selK_eq _ a3 a1 a2]
      simp only [lo_mkv, los_c1, los_take, los_drop, TV.los]
    | _ => cases h
  | _ => cases h
theorem atIA2_some {x : IA2 W} {a : Option R} (h : atIA2 x a none = some r) : a = some r ∧ ∀ (R' : Type) (b : Option R'), atIA (x.lo U) b none = b := by
  cases x with
  | s t => exact ⟨h, fun _ _ => rfl⟩
  | k v => cases h
theorem uapp2 (hU : UniOk U) {sz bytes : Nat} {x y0 : IA2 W} {v w : TV W} (h : comp2 U capB call2 (.uapp sz bytes x y0) [v, w] k = some r) : Same2 U k r fun R' k' => comp call ((IOp2.uapp sz bytes x y0).lo U) (TV.los U [v, w]) k' := by
  cases w <;> try cases h
  rename_i b s
  cases v <;> try cases h
  · rename_i a p
    cases a with
    | false => cases h
    | true =>
      simp only [comp2] at h
      cases ha : U.app p s with
      | none => rw [ha] at h; cases h
      | some q =>
        rw [ha] at h
        obtain ⟨h1, h⟩ := cond_some h
        obtain ⟨h2, h⟩ := cond_some h
        obtain ⟨h3, hx⟩ := atIA2_some (U := U) h
        simp only [Bool.and_eq_true] at h1
        obtain ⟨e1, e2, e3, e4⟩ := hU.app _ _ _ ha
        have h0 : U.len p = 0 := nbeq h1.2
        refine ⟨_, _, h3, fun R' k' => ?_⟩
        show uappK sz bytes (x.lo U) (.row true (U.sz p) (U.len p) (U.getA p)) (.row b (U.sz s) (U.len s) (U.getA s)) k' = _
        rw [h0] at h2 e3 e4 ⊢
        have e0 : sz = U.sz p := nbeq h1.1
        unfold uappK
        simp only [e1, h1.1, Bool.and_self, cond_true, h2, hx, TV.lo, TV.los, e2, e3, e4]
        rw [e0]
  · rename_i kk p
    cases kk with
    | some kk => cases h
    | none =>
      simp only [comp2] at h
      cases ha : U.app p s with
      | none => rw [ha] at h; cases h
      | some q =>
        rw [ha] at h
        obtain ⟨h1, h⟩ := cond_some h
        obtain ⟨h2, h⟩ := cond_some h
        obtain ⟨h3, hx⟩ := atIA2_some (U := U) h
        obtain ⟨e1, e2, e3, e4⟩ := hU.app _ _ _ ha
        refine ⟨_, _, h3, fun R' k' => ?_⟩
        show uappK sz bytes (x.lo U) (.un none (U.sz p) (U.len p) (U.getA p)) (.row b (U.sz s) (U.len s) (U.getA s)) k' = _
        have e0 : sz = U.sz p := nbeq h1
        unfold uappK
        simp only [e1, h1, Bool.and_self, cond_true, h2, hx, TV.lo, TV.los, e2, e3, e4]
        rw [e0]
theorem ualias2 {x0 : IA2 W} {v : TV W} (h : comp2 U capB call2 (.ualias x0) [v] k = some r) : Same2 U k r fun R' k' => comp call ((IOp2.ualias x0).lo U) (TV.los U [v]) k' := by
  cases v <;> try cases h
  rename_i kk p
  cases kk with
  | none => cases h
  | some s => exact ⟨_, _, h, fun R' k' => rfl⟩
theorem uidx2 {sz : Nat} {x0 y0 : IA2 W} {v i : TV W} (h : comp2 U capB call2 (.uidx sz x0 y0) [v, i] k = some r) : Same2 U k r fun R' k' => comp call ((IOp2.uidx sz x0 y0).lo U) (TV.los U [v, i]) k' := by
  cases v <;> try cases h
  rename_i s sz' n
  cases i with
  | sc w => cases w with
    | int kd i =>
      simp only [comp2] at h
      obtain ⟨h1, h⟩ := cond_some h
      obtain ⟨h2, h⟩ := cond_some h
      obtain ⟨h3, h⟩ := cond_some h
      refine ⟨_, _, h, fun R' k' => ?_⟩
      show uidxK sz (.ur s sz' n) (.sc (.int kd i)) (fun v => k' v []) = _
      unfold uidxK
      simp only [h1, h2, h3, cond_true, TV.lo, TV.los]
    | _ => cases h
  | _ => cases h
theorem uload2 (hU : UniOk U) {s n a0 : Nat} {ag : Bool} {a u : TV W} (h : comp2 U capB call2 (.uload s n ag a0) [a, u] k = some r) : Same2 U k r fun R' k' => comp call ((IOp2.uload s n ag a0 : IOp2 W).lo U) (TV.los U [a, u]) k' := by
  cases a <;> try cases h
  rename_i s1 sz q off
  cases u <;> try cases h
  rename_i kk p
  cases kk with
  | none => cases h
  | some s2 =>
    simp only [comp2] at h
    obtain ⟨h1, h⟩ := cond_some h
    obtain ⟨h2, h⟩ := cond_some h
    refine ⟨_, _, h, fun R' k' => ?_⟩
    show uloadK s n ag (.up s1 sz q off) (.un (some s2) (U.sz p) (U.len p) (U.getA p)) (fun v => k' v []) = _
    unfold uloadK
    simp only [h1, h2, cond_true, lo_mkv, los_take, los_drop, hU.get, TV.los]
theorem ustore2 (hU : UniOk U) {s n a0 : Nat} {x : IA2 W} {a u v : TV W} (h : comp2 U capB call2 (.ustore s n a0 x) [a, u, v] k = some r) : Same2 U k r fun R' k' => comp call ((IOp2.ustore s n a0 x).lo U) (TV.los U [a, u, v]) k' := by
  cases a <;> try cases h
  rename_i s1 sz q off
  cases u <;> try cases h
  rename_i kk p
  cases kk with
  | none => cases h
  | some s2 =>
    simp only [comp2] at h
    cases hcs : v.cells? with
    | none => rw [hcs] at h; cases h
    | some cs =>
      rw [hcs] at h
      obtain ⟨h1, h⟩ := cond_some h
      obtain ⟨h2, h⟩ := cond_some h
      cases hst : U.set p q off (cs.map TV.c1) with
      | none => rw [hst] at h; cases h
      | some p' =>
        rw [hst] at h
        obtain ⟨e1, e2, e3, e4⟩ := hU.set _ _ _ _ _ (of_decide_eq_true h2) hst
        simp only [Bool.and_eq_true] at h1
        have e0 : sz = U.sz p := nbeq h1.1.1.2
        refine ⟨_, _, h, fun R' k' => ?_⟩
        show ustoreK s n (.up s1 sz q off) (.un (some s2) (U.sz p) (U.len p) (U.getA p)) (TV.lo U v) k' = _
        unfold ustoreK
        simp only
        rw [lo_cells _ hcs]
        rw [los_c1] at e3 e4
        simp only [los_len, h1.1.1.1.1, h1.1.1.1.2, h1.1.1.2, h1.1.2, h1.2, e4, Bool.and_self, cond_true, h2, TV.lo, TV.los, e1, e2, e3]
        rw [e0]
theorem ufrz2 {x0 : IA2 W} {v : TV W} (h : comp2 U capB call2 (.ufrz x0) [v] k = some r) : Same2 U k r fun R' k' => comp call ((IOp2.ufrz x0).lo U) (TV.los U [v]) k' := by
  cases v <;> try cases h
  rename_i kk p
  cases kk with
  | some s => cases h
  | none =>
    obtain ⟨h3, hx⟩ := atIA2_some (U := U) (show atIA2 x0 (k (.row true p) [.dead]) none = some r from h)
    refine ⟨_, _, h3, fun R' k' => ?_⟩
    show ufrzK (x0.lo U) (.un none (U.sz p) (U.len p) (U.getA p)) k' = _
    unfold ufrzK
    simp only [hx]; rfl
theorem str2 (hU : UniOk U) {x0 : IA2 W} {v : TV W} (h : comp2 U capB call2 (.cstr x0) [v] k = some r) : Same2 U k r fun R' k' => comp call ((IOp2.cstr x0).lo U) (TV.los U [v]) k' := by
  cases v <;> try cases h
  rename_i a p
  simp only [comp2] at h
  cases hs : U.str p with
  | none => rw [hs] at h; cases h
  | some l =>
    rw [hs] at h
    obtain ⟨h1, h2⟩ := hU.str _ _ hs
    refine ⟨_, _, h, fun R' k' => ?_⟩
    show strK (.row a (U.sz p) (U.len p) (U.getA p)) (fun v => k' v []) = _
    unfold strK
    simp only [h1, h2, beq_self', cond_true]; rfl
theorem eqt2 {op : Bool} {x0 y0 : IA2 W} {x y : TV W} (h : comp2 U capB call2 (.eqt op x0 y0) [x, y] k = some r) : Same2 U k r fun R' k' => comp call ((IOp2.eqt op x0 y0).lo U) (TV.los U [x, y]) k' := by
  simp only [comp2] at h
  obtain ⟨h1, h2⟩ := eqtK_sc h
  obtain ⟨v, ex, h3, h4⟩ := sc_det (U := U) (fun R' K => eqtK op x.sc? y.sc? K) (fun R' K => by unfold eqtK; split <;> rfl) h
  refine ⟨v, ex, h3, fun R' k' => ?_⟩
  show eqtK op (TV.lo U x) (TV.lo U y) (fun v => k' v []) = _
  rw [lo_sc' h1, lo_sc' h2]; exact h4 R' k'
theorem lastT_lo : ∀ (l : List (TV W)), lastA (TV.los U l) = TV.lo U (lastT l)
  | [] => rfl
  | [a] => rfl
  | _ :: b :: r => lastT_lo (b :: r)
theorem noLv_lo {l : List (TV W)} (h : l.all noLvT = true) : (TV.los U l).all noLv = true := by
  rw [List.all_eq_true] at h ⊢
  intro x hx
  rw [los_map] at hx
  obtain ⟨y, hy, rfl⟩ := List.mem_map.1 hx
  have := h y hy
  cases y <;> exact this
theorem buildl2 {zs : List (TV W)} {ps : List (Nat × Nat × IA2 W)} {off s : Nat} {vs : List (TV W)} (h : comp2 U capB call2 (.buildl zs ps off s) vs k = some r) : Same2 U k r fun R' k' => comp call ((IOp2.buildl zs ps off s).lo U) (TV.los U vs) k' := by
  simp only [comp2] at h
  cases h1 : overlay2 zs ps vs with
  | none => rw [h1] at h; cases h
  | some cs =>
    rw [h1] at h
    dsimp only at h
    cases hla : lastT vs with
    | row a p =>
      rw [hla] at h
      cases a with
      | false => cases h
      | true =>
        obtain ⟨h2, h⟩ := cond_some h
        simp only [Bool.and_eq_true] at h2
        refine ⟨_, _, h, fun R' k' => ?_⟩
        show comp call (.buildl (TV.los U zs) (loP U ps) off s) (TV.los U vs) k' = _
        have e : ∀ (zs : List AV) (ps : List (Nat × Nat × IA)) (vs : List AV), comp call (.buildl zs ps off s) vs k' = buildlK zs ps off vs k' := fun zs ps vs => rfl
        rw [e]
        unfold buildlK
        have h3 := noLv_lo (U := U) h2.2
        rw [los_set] at h3
        rw [overlay2_ok h1]
        simp only
        rw [lastT_lo, hla]
        have h3' : ((TV.los U cs).set off .dead).all noLv = true := h3
        simp only [TV.lo, los_len, h2.1, h3', Bool.and_self, cond_true, los_set, TV.los]
    | _ => rw [hla] at h; cases h
theorem uconv2 {x0 : IA2 W} {v : TV W} (h : comp2 U capB call2 (.uconv x0) [v] k = some r) : Same2 U k r fun R' k' => comp call ((IOp2.uconv x0).lo U) (TV.los U [v]) k' := by
  cases v <;> try cases h
  rename_i kk p
  cases kk with
  | some s => cases h
  | none =>
    simp only [comp2] at h
    obtain ⟨h1, h⟩ := cond_some h
    obtain ⟨h3, hx⟩ := atIA2_some (U := U) h
    refine ⟨_, _, h3, fun R' k' => ?_⟩
    show uconvK (x0.lo U) (.un none (U.sz p) (U.len p) (U.getA p)) k' = _
    unfold uconvK
    simp only [h1, cond_true, hx]; rfl
theorem unew2 {v : TV W} (h : comp2 U capB call2 (.unew v) [] k = some r) : Same2 U k r fun R' k' => comp call ((IOp2.unew v).lo U) (TV.los U []) k' := by
  cases v <;> try cases h
  rename_i kk p
  cases kk with
  | some s => cases h
  | none =>
    simp only [comp2] at h
    obtain ⟨h1, h⟩ := cond_some h
    have h0 : U.len p = 0 := nbeq h1
    refine ⟨_, _, h, fun R' k' => ?_⟩
    show unewK (.un none (U.sz p) (U.len p) (U.getA p)) (fun v => k' v []) = k' (.un none (U.sz p) (U.len p) (U.getA p)) []
    rw [h0]; rfl
theorem mnmx2 {m : Bool} {xs : List (IA2 W)} {vs : List (TV W)} (h : comp2 U capB call2 (.mnmx m xs) vs k = some r) : Same2 U k r fun R' k' => comp call ((IOp2.mnmx m xs).lo U) (TV.los U vs) k' := by
  simp only [comp2] at h
  have h1 := mnmxK_sc h
  obtain ⟨v, ex, h3, h4⟩ := sc_det (U := U) (fun R' K => mnmxK m (vs.map TV.sc?) K) (fun R' K => n_mnmx m _ K) h
  refine ⟨v, ex, h3, fun R' k' => ?_⟩
  show comp call (.mnmx m _) (TV.los U vs) k' = _
  rw [los_sc h1]; exact h4 R' k'
theorem app2 (hU : UniOk U) {sz bytes : Nat} {tk : Bool} {x y0 : IA2 W} {v w : TV W} (h : comp2 U capB call2 (.app sz bytes tk x y0) [v, w] k = some r) : Same2 U k r fun R' k' => comp call ((IOp2.app sz bytes tk x y0).lo U) (TV.los U [v, w]) k' := by
  cases v <;> try cases h
  cases w <;> try cases h
  rename_i a p b s
  simp only [comp2] at h
  cases hq : U.app p s with
  | none => rw [hq] at h; cases h
  | some q =>
    rw [hq] at h
    obtain ⟨h1, h⟩ := cond_some h
    obtain ⟨h2, h⟩ := cond_some h
    simp only [Bool.and_eq_true] at h1
    obtain ⟨e1, e2, e3, e4⟩ := hU.app _ _ _ hq
    have hsz := nbeq h1.2
    have e : ∀ (R' : Type) (k' : AV → List AV → Option R'), comp call ((IOp2.app sz bytes tk x y0).lo U) (TV.los U [.row a p, .row b s]) k' = cond (tkS tk (x.lo U)) (k' (TV.lo U (.row true q)) [TV.lo U (.row false p)]) (k' (TV.lo U (.row true q)) []) := fun R' k' => by
      show appK sz bytes tk (x.lo U) (.row a (U.sz p) (U.len p) (U.getA p)) (.row b (U.sz s) (U.len s) (U.getA s)) k' = _
      unfold appK
      simp only [TV.lo, h1.1, e1, hsz, h2, Bool.and_self, cond_true, beq_self', e2, e3, e4]
    cases ht : tkS2 tk x with
    | true =>
      rw [ht] at h
      exact ⟨_, _, h, fun R' k' => (e R' k').trans (by rw [lo_tkS, ht]; rfl)⟩
    | false =>
      rw [ht] at h
      exact ⟨_, _, h, fun R' k' => (e R' k').trans (by rw [lo_tkS, ht]; rfl)⟩
theorem build2 {zs : List (TV W)} {ps : List (Nat × Nat × IA2 W)} {vs : List (TV W)} (h : comp2 U capB call2 (.build zs ps) vs k = some r) : Same2 U k r fun R' k' => comp call ((IOp2.build zs ps).lo U) (TV.los U vs) k' := by
  simp only [comp2] at h
  cases h1 : overlay2 zs ps vs with
  | none => rw [h1] at h; cases h
  | some cs =>
    rw [h1] at h
    refine ⟨_, _, h, fun R' k' => ?_⟩
    show comp call (.build (TV.los U zs) (loP U ps)) (TV.los U vs) k' = _
    have e : ∀ (zs : List AV) (ps : List (Nat × Nat × IA)) (vs : List AV), comp call (.build zs ps) vs k' = buildK zs ps vs fun v => k' v [] := fun zs ps vs => rfl
    rw [e]
    unfold buildK
    rw [overlay2_ok h1]; rfl
theorem bslice2 (hU : UniOk U) {t n : Nat} {ps : List (Nat × Nat × IA2 W)} {vs : List (TV W)} (h : comp2 U capB call2 (.bslice t n ps) vs k = some r) : Same2 U k r fun R' k' => comp call ((IOp2.bslice t n ps).lo U) (TV.los U vs) k' := by
  simp only [comp2] at h
  cases h1 : overlay2 (List.replicate n (U.zt t)).flatten ps vs with
  | none => rw [h1] at h; cases h
  | some cs =>
    rw [h1] at h
    dsimp only at h
    cases hx : U.lit t n cs with
    | none => rw [hx] at h; cases h
    | some x =>
      rw [hx] at h
      obtain ⟨e1, e2, e3, e4⟩ := hU.lit _ _ _ _ hx
      refine ⟨_, _, h, fun R' k' => ?_⟩
      show comp call (.bslice (U.szt t) n (TV.los U (U.zt t)) (loP U ps)) (TV.los U vs) k' = _
      have e : ∀ (zs : List AV) (ps : List (Nat × Nat × IA)) (vs : List AV), comp call (.bslice (U.szt t) n zs ps) vs k' = bsliceK (U.szt t) n zs ps vs fun v => k' v [] := fun zs ps vs => rfl
      rw [e]
      unfold bsliceK
      have h2 := overlay2_ok (U := U) h1
      rw [los_flatten, List.map_replicate] at h2
      rw [h2]
      simp only [e4, cond_true, TV.lo, e1, e2, e3, TV.los]
theorem ubs2 (hU : UniOk U) {t n : Nat} {ps : List (Nat × Nat × IA2 W)} {vs : List (TV W)} (h : comp2 U capB call2 (.ubs t n ps) vs k = some r) : Same2 U k r fun R' k' => comp call ((IOp2.ubs t n ps).lo U) (TV.los U vs) k' := by
  simp only [comp2] at h
  cases h1 : overlay2 (List.replicate n (U.zt t)).flatten ps vs with
  | none => rw [h1] at h; cases h
  | some cs =>
    rw [h1] at h
    dsimp only at h
    cases hx : U.lit t n cs with
    | none => rw [hx] at h; cases h
    | some x =>
      rw [hx] at h
      obtain ⟨e1, e2, e3, e4⟩ := hU.lit _ _ _ _ hx
      obtain ⟨e5, h⟩ := cond_some h
      refine ⟨_, _, h, fun R' k' => ?_⟩
      show comp call (.ubs (U.szt t) n (TV.los U (U.zt t)) (loP U ps)) (TV.los U vs) k' = _
      have e : ∀ (zs : List AV) (ps : List (Nat × Nat × IA)) (vs : List AV), comp call (.ubs (U.szt t) n zs ps) vs k' = ubsK (U.szt t) n zs ps vs fun v => k' v [] := fun zs ps vs => rfl
      rw [e]
      unfold ubsK
      have h2 := overlay2_ok (U := U) h1
      rw [los_flatten, List.map_replicate] at h2
      rw [h2]
      simp only [e4, e5, Bool.and_self, cond_true, TV.lo, e1, e2, e3, TV.los]
theorem ext2 {tk : Bool} {i : Nat} {x : IA2 W} {v : TV W} (h : comp2 U capB call2 (.ext tk i x) [v] k = some r) : Same2 U k r fun R' k' => comp call ((IOp2.ext tk i x).lo U) (TV.los U [v]) k' := by
  cases v <;> try cases h
  rename_i vs
  simp only [comp2] at h
  cases hv : vs[i]? with
  | none => rw [hv] at h; cases h
  | some v =>
    rw [hv] at h
    dsimp only at h
    have hv' : (TV.los U vs)[i]? = some (TV.lo U v) := by rw [los_map, List.getElem?_map, hv]; rfl
    have e : ∀ (R' : Type) (k' : AV → List AV → Option R'), comp call ((IOp2.ext tk i x).lo U) (TV.los U [.tup vs]) k' = cond (tkS tk (x.lo U)) (k' (TV.lo U v) [TV.lo U (.tup (vs.set i v.strip))]) (k' (TV.lo U v.strip) []) := fun R' k' => by
      show extK tk i (x.lo U) (.tup (TV.los U vs)) k' = _
      unfold extK
      simp only [hv', TV.lo, los_set, lo_strip]
    cases ht : tkS2 tk x with
    | true =>
      rw [ht] at h
      exact ⟨_, _, h, fun R' k' => (e R' k').trans (by rw [lo_tkS, ht]; rfl)⟩
    | false =>
      rw [ht] at h
      exact ⟨_, _, h, fun R' k' => (e R' k').trans (by rw [lo_tkS, ht]; rfl)⟩
theorem callv2 (hcall : CallOk2 U call2 call) {f0 : IA2 W} {gf id : Nat} {args : List (Bool × IA2 W)} {pass exp : List (Nat × Nat × Nat)} {v : TV W} {vs : List (TV W)} (h : comp2 U capB call2 (.callv f0 gf id args pass exp) (v :: vs) k = some r) :
    Same2 U k r fun R' k' => comp call ((IOp2.callv f0 gf id args pass exp).lo U) (TV.los U (v :: vs)) k' := by
  cases v <;> try cases h
  rename_i f caps
  simp only [comp2] at h
  obtain ⟨h1, h⟩ := cond_some h
  obtain ⟨v, ex, h3, h4⟩ := callK2_ok hcall h
  refine ⟨v, ex, h3, fun R' k' => ?_⟩
  show callvK call gf id (loA U args) pass exp (.clo f caps) (TV.los U vs) k' = _
  unfold callvK
  simp only [h1, cond_true]
  rw [← h4 R' k']
  congr 1
  rw [los_map, List.map_map]; rfl
theorem oldCells2_lo : ∀ (pass : List (Nat × Nat × Nat)) (vs : List (TV W)), oldCells pass (TV.los U vs) = TV.los U (oldCells2 pass vs)
  | [], _ => rfl
  | (_, n, _) :: r, [] => rfl
  | (_, n, _) :: r, v :: vs => by
    simp only [TV.los, oldCells, oldCells2, los_append]
    rw [← oldCells2_lo r (vs.drop n)]
    simp only [los_map, List.map_take, List.map_drop]
theorem plainT_lo : ∀ {vs : List (TV W)}, vs.all plainT = true → (TV.los U vs).all plainA = true
  | [], _ => rfl
  | v :: vs, h => by
    simp only [List.all_cons, Bool.and_eq_true] at h
    simp only [TV.los, List.all_cons, Bool.and_eq_true]
    refine ⟨?_, plainT_lo h.2⟩
    cases v <;> first | rfl | (cases h.1)
theorem tkN_lo : ∀ (args : List (Bool × IA2 W)), (tkArgs (loA U args)).length = tkN args
  | [] => rfl
  | (tk, x) :: r => by
    have ih := tkN_lo r
    have e : loA U ((tk, x) :: r) = (tk, x.lo U) :: loA U r := rfl
    rw [e]
    cases x with
    | s t => cases tk <;> simp [tkArgs, exwx, tkN, tkS2, IA2.lo, ih]
    | k v => cases tk <;> simp [tkArgs, exwx, tkN, tkS2, IA2.lo, ih]
theorem ro2 (hcall : CallOk2 U call2 call) {id : Nat} {args : List (Bool × IA2 W)} {pass : List (Nat × Nat × Nat)} {vs : List (TV W)} (h : comp2 U capB call2 (.ro id args pass) vs k = some r) :
    Same2 U k r fun R' k' => comp call ((IOp2.ro id args pass).lo U) (TV.los U vs) k' := by
  simp only [comp2] at h
  obtain ⟨hp, h⟩ := cond_some h
  obtain ⟨v, ex, h3, h4⟩ := callK2_ok hcall h
  refine ⟨v, ex.take (tkN args), h3, fun R' k' => ?_⟩
  show roC call id (loA U args) pass (TV.los U vs) k' = _
  unfold roC
  have hl : (loA U args).length = args.length := by simp [loA]
  have hd : (TV.los U vs).drop args.length = TV.los U (vs.drop args.length) := by simp only [los_map, List.map_drop]
  rw [hl, hd, oldCells2_lo, plainT_lo hp, cond_true, tkN_lo]
  refine (h4 R' fun v ex => k' v (ex.take (tkN args))).trans ?_
  simp only [los_map, List.map_take]
theorem comp2_ok (hU : UniOk U) (hcall : CallOk2 U call2 call) {op : IOp2 W} {vals : List (TV W)} (h : comp2 U capB call2 op vals k = some r) : Same2 U k r fun R' k' => comp call (op.lo U) (TV.los U vals) k' := by
  have h0 := h
  unfold comp2 at h
  split at h
  · exact outx2_ok h
  · split at h
    · rename_i t
      cases t with
      | true => exact ⟨_, _, h, fun R' k' => by show k' (TV.lo U _).strip [] = _; rw [← lo_strip]; rfl⟩
      | false => exact ⟨_, _, h, fun R' k' => by show k' (TV.lo U _).strip [] = _; rw [← lo_strip]; rfl⟩
    · cases h
  · split at h
    · exact ⟨_, _, h, fun R' k' => by
        show k' _ (AV.hdr _ :: TV.los U _) = k' _ (AV.hdr _ :: TV.los U _)
        rw [los_len]; rfl⟩
    · cases h
  · exact box2 h0
  · exact load2 h0
  · split at h
    · obtain ⟨h1, h2⟩ := cond_some h
      refine ⟨_, _, h2, fun R' k' => ?_⟩
      show loadeK _ _ (.elt (TV.los U _)) k' = _
      unfold loadeK
      simp only [los_len, h1, cond_true, lo_mkv, los_take, TV.los]
    · cases h
  · exact store2 h0
  · split at h
    · exact ⟨_, _, h, fun R' k' => rfl⟩
    · exact ⟨_, _, h, fun R' k' => rfl⟩
    · exact ⟨_, _, h, fun R' k' => rfl⟩
    · cases h
  · exact bin2 h0
  · exact eqb2 h0
  · exact eqs2 h0
  · exact un2 h0
  · exact conv2 h0
  · split at h
    · exact ⟨_, _, h, fun R' k' => rfl⟩
    · obtain ⟨h1, h2⟩ := cond_some h
      refine ⟨_, _, h2, fun R' k' => ?_⟩
      show fldK _ (.elt (TV.los U _)) (fun v => k' v []) = _
      unfold fldK
      simp only [los_len, h1, cond_true, TV.lo, los_drop, TV.los]
    · exact ⟨_, _, h, fun R' k' => rfl⟩
    · cases h
  · split at h
    · obtain ⟨h1, h2⟩ := cond_some h
      refine ⟨_, _, h2, fun R' k' => ?_⟩
      show fieldvK _ _ _ (.agg (TV.los U _)) (fun v => k' v []) = _
      unfold fieldvK
      simp only [los_len, h1, cond_true, lo_mkv, los_c1, los_take, los_drop, TV.los]
    · cases h
  · exact idx2 hU h0
  · exact slice2 hU h0
  · exact len2 h0
  · exact sidx2 h0
  · exact aidx2 h0
  · exact uapp2 hU h0
  · exact ualias2 h0
  · exact uidx2 h0
  · exact uload2 hU h0
  · exact ustore2 hU h0
  · exact ufrz2 h0
  · exact str2 hU h0
  · exact eqt2 h0
  · exact ubs2 hU h0
  · exact buildl2 h0
  · exact uconv2 h0
  · exact unew2 h0
  · exact mnmx2 h0
  · exact app2 hU h0
  · exact build2 h0
  · exact bslice2 hU h0
  · exact ext2 h0
  · split at h
    · rename_i hc
      refine ⟨_, _, h, fun R' k' => ?_⟩
      show comp call (.mkclo _ _) (TV.los U _) k' = _
      have e : ∀ (f : Nat) (xs : List IA) (vs : List AV), comp call (.mkclo f xs) vs k' = mkcloK f vs fun v => k' v [] := fun f xs vs => rfl
      rw [e]
      unfold mkcloK
      rw [ptrs2_ok hc]; rfl
    · cases h
  · obtain ⟨v, ex, h3, h4⟩ := callK2_ok hcall h
    exact ⟨v, ex, h3, fun R' k' => h4 R' k'⟩
  · exact callv2 hcall h0
  · exact ro2 hcall h0
  · cases h
theorem pass2_lo : ∀ (p : List (Nat × Nat × Nat)), (pass2 p : List (IA2 W)).map (IA2.lo U) = passAll p
  | [] => rfl
  | (h, n, x) :: r => by
    simp only [pass2, passAll, List.map_append, List.map_map, pass2_lo r]; rfl
theorem expH2_lo : ∀ (p : List (Nat × Nat × Nat)), (expH2 p : List (IA2 W)).map (IA2.lo U) = expHds p
  | [] => rfl
  | (_, _, h) :: r => by
    simp only [expH2, expHds, List.map_cons, expH2_lo r]; rfl
theorem opds2_lo (op : IOp2 W) : (op.lo U).opds = op.opds.map (IA2.lo U) := by
  cases op <;> try rfl
  case load h j n ag tk a => simp only [IOp2.lo, IOp.opds, IOp2.opds, List.map_cons, List.map_map]; rfl
  case slice sz x lo hi mx => cases lo <;> cases hi <;> cases mx <;> rfl
  case build zs ps => simp only [IOp2.lo, IOp.opds, IOp2.opds, loP, List.map_map]; rfl
  case bslice t n ps => simp only [IOp2.lo, IOp.opds, IOp2.opds, loP, List.map_map]; rfl
  case buildl zs ps off s => simp only [IOp2.lo, IOp.opds, IOp2.opds, loP, List.map_map]; rfl
  case ubs t n ps => simp only [IOp2.lo, IOp.opds, IOp2.opds, loP, List.map_map]; rfl
  case call id args pass exp => simp only [IOp2.lo, IOp.opds, IOp2.opds, loA, List.map_map, List.map_append, expH2_lo, pass2_lo]; rfl
  case ro id args pass => simp only [IOp2.lo, IOp.opds, IOp2.opds, loA, List.map_map, List.map_append, expHds, pass2_lo, List.append_nil]; rfl
  case callv f gf id args pass exp => simp only [IOp2.lo, IOp.opds, IOp2.opds, loA, List.map_map, List.map_append, List.map_cons, expH2_lo, pass2_lo]; rfl
theorem rds_lo {l : FT W} (h : Ch l) (xs : List (IA2 W)) : (xs.map (IA2.lo U)).map (rd (fl U l)) = TV.los U (xs.map (rd2 l)) := by
  rw [los_map (xs.map (rd2 l)), List.map_map, List.map_map]
  congr 1
  funext x
  exact rd_lo h x
def One (U : Uni W) (k : FT W → Option R) (r : R) (m : (R' : Type) → (List AV → Option R') → Option R') : Prop := ∃ l', Ch l' ∧ k l' = some r ∧ ∀ (R' : Type) (k' : List AV → Option R'), m R' k' = k' (fl U l')
theorem step2_ok (hU : UniOk U) (hcall : CallOk2 U call2 call) {o : IStep2 W} {l : FT W} {k : FT W → Option R} (hl : Ch l) (h : step2 U capB call2 o l k = some r) : One U k r fun R' k' => step call (o.lo U) (fl U l) k' := by
  have hrun : (comp2 U capB call2 o.op (o.op.opds.map (rd2 l)) fun v ex =>
      cond (Nat.beq ex.length (o.op.lo U).exw.length) (match o.split with
      | true => match v with
        | .sc (.bool b) => putM l (o.op.lo U).exw ex fun l1 => cond b (putO l1 o.dst (.sc (.bool true)) k) (putO l1 o.dst (.sc (.bool false)) k)
        | _ => none
      | false => putM l (o.op.lo U).exw ex fun l1 => putO l1 o.dst v k) none) = some r →
      One U k r fun R' k' => (comp call (o.op.lo U) ((o.op.lo U).opds.map (rd (fl U l))) fun v ex =>
        cond (Nat.beq ex.length (o.op.lo U).exw.length) (match o.split with
        | true => match v with
          | .sc (.bool b) => cond b (k' (setO (setMany (fl U l) (o.op.lo U).exw ex) o.dst (.sc (.bool true)))) (k' (setO (setMany (fl U l) (o.op.lo U).exw ex) o.dst (.sc (.bool false))))
          | _ => none
        | false => k' (setO (setMany (fl U l) (o.op.lo U).exw ex) o.dst v)) none) := fun hr => by
    obtain ⟨v, ex, h1, h2⟩ := comp2_ok (call := call) hU hcall hr
    obtain ⟨h3, h4⟩ := cond_some h1
    have e : ∀ (R' : Type) (k'' : AV → List AV → Option R'), comp call (o.op.lo U) ((o.op.lo U).opds.map (rd (fl U l))) k'' = k'' (TV.lo U v) (TV.los U ex) := fun R' k'' => by
      rw [opds2_lo, rds_lo hl]; exact h2 R' k''
    cases hs : o.split with
    | true =>
      rw [hs] at h4
      cases v with
      | sc w =>
        cases w with
        | bool b =>
          obtain ⟨l1, c1, k1, e1⟩ := putM_ok (U := U) _ _ l _ hl h4
          cases b with
          | true =>
            obtain ⟨l2, c2, k2, e2⟩ := putO_ok (U := U) c1 k1
            refine ⟨l2, c2, k2, fun R' k' => ?_⟩
            refine (e R' _).trans ?_
            simp only [los_len, h3, cond_true, TV.lo]
            rw [e2, e1]; rfl
          | false =>
            obtain ⟨l2, c2, k2, e2⟩ := putO_ok (U := U) c1 k1
            refine ⟨l2, c2, k2, fun R' k' => ?_⟩
            refine (e R' _).trans ?_
            simp only [los_len, h3, cond_true, cond_false, TV.lo]
            rw [e2, e1]; rfl
        | _ => cases h4
      | _ => cases h4
    | false =>
      rw [hs] at h4
      obtain ⟨l1, c1, k1, e1⟩ := putM_ok (U := U) _ _ l _ hl h4
      obtain ⟨l2, c2, k2, e2⟩ := putO_ok (U := U) c1 k1
      refine ⟨l2, c2, k2, fun R' k' => ?_⟩
      refine (e R' _).trans ?_
      simp only [los_len, h3, cond_true]
      rw [e2, e1]
  have hskip : putO l o.dst (.tup []) k = some r → One U k r fun R' k' => k' (setO (fl U l) o.dst (.tup [])) := fun hr => by
    obtain ⟨l2, c2, k2, e2⟩ := putO_ok (U := U) hl hr
    exact ⟨l2, c2, k2, fun R' k' => by rw [e2]; rfl⟩
  unfold step2 at h
  have hg' : (o.lo U).guard = o.guard := rfl
  cases hg : o.guard with
  | none =>
    rw [hg] at h
    obtain ⟨l', c, h1, h2⟩ := hrun h
    refine ⟨l', c, h1, fun R' k' => ?_⟩
    unfold step
    rw [hg', hg]
    exact h2 R' k'
  | some gw =>
    obtain ⟨g, want⟩ := gw
    rw [hg] at h
    dsimp only at h
    have hd : (fl U l).getD g .dead = TV.lo U (get2 l g) := fl_get hl g
    cases hv : get2 l g with
    | sc v =>
      rw [hv] at h hd
      cases v with
      | bool b =>
        cases b <;> cases want
        · obtain ⟨l', c, h1, h2⟩ := hrun h
          refine ⟨l', c, h1, fun R' k' => ?_⟩
          unfold step
          rw [hg', hg]; dsimp only; rw [hd]
          exact h2 R' k'
        · obtain ⟨l', c, h1, h2⟩ := hskip h
          refine ⟨l', c, h1, fun R' k' => ?_⟩
          unfold step
          rw [hg', hg]; dsimp only; rw [hd]
          exact h2 R' k'
        · obtain ⟨l', c, h1, h2⟩ := hskip h
          refine ⟨l', c, h1, fun R' k' => ?_⟩
          unfold step
          rw [hg', hg]; dsimp only; rw [hd]
          exact h2 R' k'
        · obtain ⟨l', c, h1, h2⟩ := hrun h
          refine ⟨l', c, h1, fun R' k' => ?_⟩
          unfold step
          rw [hg', hg]; dsimp only; rw [hd]
          exact h2 R' k'
      | _ => cases h
    | tup vs =>
      rw [hv] at h hd
      cases vs with
      | nil =>
        obtain ⟨l', c, h1, h2⟩ := hskip h
        refine ⟨l', c, h1, fun R' k' => ?_⟩
        unfold step
        rw [hg', hg]; dsimp only; rw [hd]
        exact h2 R' k'
      | cons a b => cases h
    | _ => rw [hv] at h; cases h
theorem steps2_ok (hU : UniOk U) (hcall : CallOk2 U call2 call) : ∀ {os : List (IStep2 W)} {l : FT W} {k : FT W → Option R}, Ch l → steps2 U capB call2 os l k = some r → One U k r fun R' k' => steps call (os.map (IStep2.lo U)) (fl U l) k'
  | [], l, k, hl, h => ⟨l, hl, h, fun _ _ => rfl⟩
  | o :: os, l, k, hl, h => by
    simp only [steps2] at h
    obtain ⟨l1, c1, h1, h2⟩ := step2_ok hU hcall hl h
    obtain ⟨l2, c2, h3, h4⟩ := steps2_ok hU hcall c1 h1
    refine ⟨l2, c2, h3, fun R' k' => ?_⟩
    simp only [List.map_cons, steps]
    exact (h2 R' _).trans (h4 R' k')
theorem noptr_lo (hs : List (Nat × Nat)) (a : TV W) (h : noptr2 hs a = true) : noptr hs (TV.lo U a) = true := by
  cases a with
  | agg cs =>
    show ((TV.los U cs).all fun a => _) = true
    have h : (cs.all fun a => _) = true := h
    rw [List.all_eq_true] at h ⊢
    intro x hx
    rw [los_map] at hx
    obtain ⟨y, hy, rfl⟩ := List.mem_map.1 hx
    have := h y hy
    cases y <;> first | exact this | (rename_i k _; cases k <;> exact this)
  | tup vs => cases vs <;> first | rfl | cases h
  | un k p => cases k <;> exact h
  | _ => exact h
theorem los_dead (n : Nat) : TV.los U (List.replicate n (TV.dead : TV W)) = List.replicate n .dead := by rw [los_map, List.map_replicate]; rfl
theorem kill_lo : ∀ (hs : List (Nat × Nat)) (l : FT W) (k : FT W → Option R), Ch l → kill2 l hs k = some r → ∃ l', Ch l' ∧ k l' = some r ∧ fl U l' = kill (fl U l) hs
  | [], l, k, hl, h => ⟨l, hl, h, rfl⟩
  | (h0, n) :: hs, l, k, hl, h => by
    simp only [kill2] at h
    obtain ⟨l1, c1, k1, e1⟩ := putM_ok (U := U) _ _ l _ hl h
    obtain ⟨l2, c2, k2, e2⟩ := kill_lo hs l1 k c1 k1
    refine ⟨l2, c2, k2, ?_⟩
    rw [e2, e1, los_dead]; rfl
theorem clear2_ok {xs : List Nat} {hs : List (Nat × Nat)} {l : FT W} {k : FT W → Option R} (hl : Ch l) (h : clear2 xs hs l k = some r) : ∃ l', Ch l' ∧ k l' = some r ∧ clear xs hs (fl U l) = some (fl U l') := by
  unfold clear2 at h
  split at h
  · obtain ⟨l1, c1, k1, e1⟩ := putM_ok (U := U) _ _ l _ hl h
    refine ⟨l1, c1, k1, ?_⟩
    show some (setMany _ _ _) = _
    rw [e1, los_dead]
  · rename_i hne
    obtain ⟨l1, c1, k1, e1⟩ := putM_ok (U := U) _ _ l _ hl h
    obtain ⟨l2, c2, k2, e2⟩ := kill_lo (U := U) hs l1 _ c1 k1
    obtain ⟨h1, h2⟩ := cond_some k2
    refine ⟨l2, c2, h2, ?_⟩
    unfold clear
    split
    · exact absurd rfl hne
    · have e3 : kill (setMany (fl U l) xs (List.replicate xs.length .dead)) hs = fl U l2 := by rw [e2, e1, los_dead]
      rw [e3]
      dsimp only
      have : (fl U l2).all (noptr hs) = true := by
        rw [List.all_eq_true] at h1 ⊢
        intro x hx
        unfold fl at hx
        rw [los_map] at hx
        obtain ⟨y, hy, rfl⟩ := List.mem_map.1 hx
        obtain ⟨c, hc, hy⟩ := List.mem_flatten.1 hy
        exact noptr_lo hs y (List.all_eq_true.1 (h1 c hc) y hy)
      rw [this]; rfl
theorem noptrs_lo {hs : List (Nat × Nat)} {l : FT W} (h : (l.all fun c => c.all (noptr2 hs)) = true) : (fl U l).all (noptr hs) = true := by
  rw [List.all_eq_true] at h ⊢
  intro x hx
  unfold fl at hx
  rw [los_map] at hx
  obtain ⟨y, hy, rfl⟩ := List.mem_map.1 hx
  obtain ⟨c, hc, hy⟩ := List.mem_flatten.1 hy
  exact noptr_lo hs y (List.all_eq_true.1 (h c hc) y hy)
theorem weaken2_ok : ∀ {xs : List Nat} {l : FT W} {k : FT W → Option R}, Ch l → weaken2 xs l k = some r → ∃ l', Ch l' ∧ k l' = some r ∧ weaken xs (fl U l) = fl U l'
  | [], l, k, hl, h => ⟨l, hl, h, rfl⟩
  | x :: xs, l, k, hl, h => by
    simp only [weaken2] at h
    obtain ⟨l1, c1, h, e1⟩ := putO_ok (U := U) hl h
    obtain ⟨l2, c2, h2, e2⟩ := weaken2_ok (xs := xs) c1 h
    refine ⟨l2, c2, h2, ?_⟩
    rw [← e2, e1, lo_strip, ← fl_get hl]; rfl
theorem brwIn2_ok {s : Nat} {l : FT W} {k : FT W → Option R} (hl : Ch l) (h : brwIn2 s l k = some r) : ∃ l', Ch l' ∧ k l' = some r ∧ brwIn s (fl U l) = some (fl U l') := by
  unfold brwIn2 at h
  split at h <;> try cases h
  rename_i p hu
  obtain ⟨l0, c0, h, e0⟩ := putO_ok (U := U) hl h
  obtain ⟨h1, h⟩ := cond_some h
  obtain ⟨l1, c1, h, e1⟩ := putO_ok (U := U) hl h
  refine ⟨l1, c1, h, ?_⟩
  unfold brwIn
  rw [fl_get hl, hu]
  have q : ((fl U l).set s .dead).all (noptr [(s, 0)]) = true := by
    have := noptrs_lo (U := U) h1
    rw [e0] at this; exact this
  simp only [TV.lo, q, cond_true]
  rw [e1]; rfl
theorem brwOut2_ok {s : Nat} {l : FT W} {k : FT W → Option R} (hl : Ch l) (h : brwOut2 s l k = some r) : ∃ l', Ch l' ∧ k l' = some r ∧ brwOut s (fl U l) = some (fl U l') := by
  unfold brwOut2 at h
  split at h <;> try cases h
  rename_i s' p hu
  obtain ⟨l0, c0, h, e0⟩ := putO_ok (U := U) hl h
  obtain ⟨h1, h⟩ := cond_some h
  simp only [Bool.and_eq_true] at h1
  obtain ⟨l1, c1, h, e1⟩ := putO_ok (U := U) hl h
  refine ⟨l1, c1, h, ?_⟩
  unfold brwOut
  rw [fl_get hl, hu]
  have q : ((fl U l).set s .dead).all (noptr [(s, 0)]) = true := by
    have := noptrs_lo (U := U) h1.2
    rw [e0] at this; exact this
  simp only [TV.lo, q, h1.1, Bool.and_self, cond_true]
  rw [e1]; rfl
def OneE (U : Uni W) (k : Ex → FT W → Option R) (r : R) (m : (R' : Type) → (Ex → List AV → Option R') → Option R') : Prop := ∃ e l', Ch l' ∧ k e l' = some r ∧ ∀ (R' : Type) (k' : Ex → List AV → Option R'), m R' k' = k' e (fl U l')
theorem loopN2_ok {f2 : FT W → (Ex → FT W → Option R) → Option R} {f1 : (R' : Type) → List AV → (Ex → List AV → Option R') → Option R'}
    (hf : ∀ (l : FT W) (k : Ex → FT W → Option R), Ch l → f2 l k = some r → OneE U k r fun R' k' => f1 R' (fl U l) k') :
    ∀ (m : Nat) (l : FT W) (k : Ex → FT W → Option R), Ch l → loopN2 f2 m l k = some r → OneE U k r fun R' k' => loopN (f1 R') m (fl U l) k'
  | 0, l, k, hl, h => by cases h
  | m + 1, l, k, hl, h => by
    simp only [loopN2] at h
    obtain ⟨e, l1, c1, h1, h2⟩ := hf _ _ hl h
    cases e with
    | norm =>
      obtain ⟨e', l2, c2, h3, h4⟩ := loopN2_ok hf m l1 k c1 h1
      refine ⟨e', l2, c2, h3, fun R' k' => ?_⟩
      simp only [loopN]
      exact (h2 R' _).trans (h4 R' k')
    | exit id => exact ⟨_, _, c1, h1, fun R' k' => by simp only [loopN]; exact h2 R' _⟩
    | ret => exact ⟨_, _, c1, h1, fun R' k' => by simp only [loopN]; exact h2 R' _⟩
theorem set_all : ∀ (vs : List AV) (m : Nat), setMany (List.replicate (vs.length + m) .dead) (rng 0 vs.length) vs = vs ++ List.replicate m .dead := fun vs m => by
  apply List.ext_getElem?
  intro i
  have hlen : (setMany (List.replicate (vs.length + m) AV.dead) (rng 0 vs.length) vs).length = vs.length + m := by rw [len_setMany, List.length_replicate]
  by_cases hi : i < vs.length + m
  · have e : ∀ (l l' : List AV), l.length = vs.length + m → l'.length = vs.length + m → l.getD i .dead = l'.getD i .dead → l[i]? = l'[i]? := fun l l' h1 h2 h => by
      rw [List.getD_eq_getElem?_getD, List.getD_eq_getElem?_getD, List.getElem?_eq_getElem (by omega), List.getElem?_eq_getElem (by omega)] at h
      rw [List.getElem?_eq_getElem (by omega), List.getElem?_eq_getElem (by omega)]
      exact congrArg some h
    refine e _ _ hlen (by simp) ?_
    by_cases hv : i < vs.length
    · have := setMany_rng vs.length 0 vs (List.replicate (vs.length + m) AV.dead) rfl hv (by simp)
      rw [Nat.zero_add] at this
      rw [this, List.getD_eq_getElem?_getD, List.getD_eq_getElem?_getD, List.getElem?_append_left hv]
    · rw [setMany_out _ _ _ (fun hm => by have := (mem_rng.1 hm).2; omega), List.getD_eq_getElem?_getD, List.getD_eq_getElem?_getD, List.getElem?_append_right (by omega), List.getElem?_replicate, List.getElem?_replicate, if_pos hi, if_pos (by omega)]
  · rw [List.getElem?_eq_none (by omega), List.getElem?_eq_none (by simp; omega)]
theorem flat_take : ∀ (bq : Nat) (l : FT W), Ch l → l.flatten.take (16 * bq) = (l.take bq).flatten ∧ l.flatten.drop (16 * bq) = (l.drop bq).flatten
  | 0, l, _ => by simp
  | bq + 1, [], _ => by simp
  | bq + 1, c :: l, h => by
    have hc := h c (by simp)
    obtain ⟨h1, h2⟩ := flat_take bq l fun d hd => h d (by simp [hd])
    have e : 16 * (bq + 1) = 16 * bq + 16 := by omega
    constructor
    · rw [List.flatten_cons, List.take_append, List.take_of_length_le (by omega), hc, show 16 * (bq + 1) - 16 = 16 * bq by omega, h1]; rfl
    · rw [List.flatten_cons, List.drop_append, List.drop_of_length_le (by omega), hc, show 16 * (bq + 1) - 16 = 16 * bq by omega, h2]; rfl
theorem fl_drop {l : FT W} (h : Ch l) (bq : Nat) : fl U (l.drop bq) = (fl U l).drop (16 * bq) := by
  unfold fl; rw [los_map, los_map, ← List.map_drop, (flat_take bq l h).2]
theorem fl_append (a b : FT W) : fl U (a ++ b) = fl U a ++ fl U b := by unfold fl; rw [List.flatten_append, los_append]
theorem fl_kept {l : FT W} (h : Ch l) (bq : Nat) : fl U (kept2 bq l) = kept (16 * bq) (fl U l) := by
  unfold fl kept kept2
  rw [los_map, los_map, ← List.map_take, (flat_take bq l h).1, List.map_map]
  rw [show ((l.take bq).map fun c => c.map TV.strip).flatten = (l.take bq).flatten.map TV.strip by rw [List.map_flatten]]
  rw [List.map_map]
  congr 1
  funext a
  exact lo_strip a
theorem ch_take {l : FT W} (h : Ch l) (bq : Nat) : Ch (kept2 bq l) := fun c hc => by
  unfold kept2 at hc
  obtain ⟨d, hd, rfl⟩ := List.mem_map.1 hc
  rw [List.length_map]; exact h d (List.mem_of_mem_take hd)
theorem ch_drop {l : FT W} (h : Ch l) (bq : Nat) : Ch (l.drop bq) := fun c hc => h c (List.mem_of_mem_drop hc)
theorem ch_append {a b : FT W} (h : Ch a) (k : Ch b) : Ch (a ++ b) := fun c hc => (List.mem_append.1 hc).elim (h c) (k c)
theorem onlyC_lo {y : Bool} {px : List Nat} {a : TV W} (h : onlyCT y px a = true) : onlyC y px (TV.lo U a) = true := by cases a <;> exact h
theorem only2_lo {y : Bool} {px : List Nat} {a : TV W} (h : only2T y px a = true) : only2 y px (TV.lo U a) = true := by
  cases a with
  | agg cs =>
    show (TV.los U cs).all _ = true
    rw [los_map, List.all_map]
    exact List.all_eq_true.2 fun b hb => onlyC_lo (List.all_eq_true.1 h b hb)
  | _ => exact h
theorem only3_lo {y : Bool} {px : List Nat} {a : TV W} (h : only3T y px a = true) : only3 y px (TV.lo U a) = true := by
  cases a with
  | agg cs =>
    show (TV.los U cs).all _ = true
    rw [los_map, List.all_map]
    exact List.all_eq_true.2 fun b hb => onlyC_lo (List.all_eq_true.1 h b hb)
  | tup cs =>
    show (TV.los U cs).all _ = true
    rw [los_map, List.all_map]
    exact List.all_eq_true.2 fun b hb => only2_lo (List.all_eq_true.1 h b hb)
  | _ => exact h
theorem allF_lo {p : TV W → Bool} {q : AV → Bool} (hp : ∀ a, p a = true → q (TV.lo U a) = true) {l : FT W} (h : allF p l = true) : (fl U l).all q = true := by
  unfold fl
  rw [los_map, List.all_map]
  refine List.all_eq_true.2 fun b hb => ?_
  obtain ⟨c, hc, hb⟩ := List.mem_flatten.1 hb
  exact hp b (List.all_eq_true.1 (List.all_eq_true.1 h c hc) b hb)
theorem noY_lo {a : TV W} (h : noYT a = true) : noY (TV.lo U a) = true := by cases a <;> exact h
def finY {R' : Type} (bs : Nat) (S : List AV) (k' : Ex → List AV → Option R') : Ex → List AV → Option R' := fun e l' => match e with
  | .exit _ => none
  | _ => cond ((l'.drop bs).all noY) (k' .norm (S ++ l'.drop bs)) none
def HOk (U : Uni W) (r : R) (Y2 : List (TV W) → FT W → (FT W → Option R) → Option R) (Y : (R' : Type) → List AV → List AV → (List AV → Option R') → Option R') : Prop :=
  ∀ (args : List (TV W)) (lc : FT W) (K : FT W → Option R), Ch lc → Y2 args lc K = some r → ∃ l', Ch l' ∧ K l' = some r ∧ ∀ (R' : Type) (K' : List AV → Option R'), Y R' (TV.los U args) (fl U lc) K' = K' (fl U l')
theorem yGuard2_ok {gd : Option (Nat × Bool)} {l : FT W} (hl : Ch l) {run skip : Option R} (h : yGuard2 gd l run skip = some r) :
    (run = some r ∧ ∀ (R' : Type) (a b : Option R'), yGuard gd (fl U l) a b = a) ∨ (skip = some r ∧ ∀ (R' : Type) (a b : Option R'), yGuard gd (fl U l) a b = b) := by
  cases gd with
  | none => exact .inl ⟨h, fun _ _ _ => rfl⟩
  | some gw =>
    obtain ⟨g, want⟩ := gw
    have hd : (fl U l).getD g .dead = TV.lo U (get2 l g) := fl_get hl g
    unfold yGuard2 at h
    cases hv : get2 l g with
    | sc v =>
      cases v with
      | bool b =>
        rw [hv] at hd
        have hd : (fl U l).getD g .dead = .sc (.bool b) := hd
        simp only [hv] at h
        cases b <;> cases want
        · exact .inl ⟨h, fun _ _ _ => by simp only [yGuard, hd, cond_false]⟩
        · exact .inr ⟨h, fun _ _ _ => by simp only [yGuard, hd, cond_false]⟩
        · exact .inr ⟨h, fun _ _ _ => by simp only [yGuard, hd, cond_true]⟩
        · exact .inl ⟨h, fun _ _ _ => by simp only [yGuard, hd, cond_true]⟩
      | _ => simp only [hv] at h; cases h
    | tup vs =>
      cases vs with
      | nil =>
        rw [hv] at hd
        have hd : (fl U l).getD g .dead = .tup [] := hd
        simp only [hv] at h
        exact .inr ⟨h, fun _ _ _ => by simp only [yGuard, hd]⟩
      | cons a b => simp only [hv] at h; cases h
    | _ => simp only [hv] at h; cases h
theorem execI2_ok (hU : UniOk U) (hcall : CallOk2 U call2 call) (n : Nat) {Y2 : List (TV W) → FT W → (FT W → Option R) → Option R} {Y : (R' : Type) → List AV → List AV → (List AV → Option R') → Option R'} (hY : HOk U r Y2 Y) : ∀ (c : IC2 W) (l : FT W) (k : Ex → FT W → Option R), Ch l → execI2 U capB call2 n Y2 c l k = some r → OneE U k r fun R' k' => execI call n (Y R') (c.lo U) (fl U l) k'
  | .skip, l, k, hl, h => ⟨_, _, hl, h, fun _ _ => rfl⟩
  | .stuck, l, k, hl, h => by cases h
  | .reg ops, l, k, hl, h => by
    simp only [execI2, gF_eq] at h
    obtain ⟨l', c', h1, h2⟩ := steps2_ok hU hcall hl h
    exact ⟨_, _, c', h1, fun R' k' => h2 R' _⟩
  | .seq a b, l, k, hl, h => by
    simp only [execI2] at h
    obtain ⟨e, l1, c1, h1, h2⟩ := execI2_ok hU hcall n hY a l _ hl h
    cases e with
    | norm =>
      obtain ⟨e', l2, c2, h3, h4⟩ := execI2_ok hU hcall n hY b l1 k c1 h1
      exact ⟨e', l2, c2, h3, fun R' k' => (h2 R' _).trans (h4 R' k')⟩
    | exit id => exact ⟨_, _, c1, h1, fun R' k' => h2 R' _⟩
    | ret => exact ⟨_, _, c1, h1, fun R' k' => h2 R' _⟩
  | .cond c a b, l, k, hl, h => by
    simp only [execI2] at h
    cases hc : rd2 l c with
    | sc v =>
      rw [hc] at h
      have hc' : rd (fl U l) (c.lo U) = .sc v := by rw [rd_lo hl, hc]; rfl
      cases v with
      | bool t =>
        cases t with
        | true =>
          obtain ⟨e, l', c', h1, h2⟩ := execI2_ok hU hcall n hY a l k hl h
          exact ⟨e, l', c', h1, fun R' k' => by simp only [IC2.lo, execI, hc', cond_true]; exact h2 R' k'⟩
        | false =>
          obtain ⟨e, l', c', h1, h2⟩ := execI2_ok hU hcall n hY b l k hl h
          exact ⟨e, l', c', h1, fun R' k' => by simp only [IC2.lo, execI, hc', cond_false]; exact h2 R' k'⟩
      | _ => cases h
    | _ => rw [hc] at h; cases h
  | .blk id b, l, k, hl, h => by
    simp only [execI2] at h
    obtain ⟨e, l1, c1, h1, h2⟩ := execI2_ok hU hcall n hY b l _ hl h
    cases e with
    | norm => exact ⟨_, _, c1, h1, fun R' k' => h2 R' _⟩
    | exit i =>
      dsimp only at h1
      cases hi : Nat.beq i id with
      | true => rw [hi] at h1; exact ⟨_, _, c1, h1, fun R' k' => (h2 R' _).trans (by dsimp only; rw [hi]; rfl)⟩
      | false => rw [hi] at h1; exact ⟨_, _, c1, h1, fun R' k' => (h2 R' _).trans (by dsimp only; rw [hi]; rfl)⟩
    | ret => exact ⟨_, _, c1, h1, fun R' k' => h2 R' _⟩
  | .loop b, l, k, hl, h => loopN2_ok (f1 := fun R' => execI call n (Y R') (b.lo U)) (fun l k hl h => execI2_ok hU hcall n hY b l k hl h) n l k hl h
  | .exit id, l, k, hl, h => ⟨_, _, hl, h, fun _ _ => rfl⟩
  | .ret, l, k, hl, h => ⟨_, _, hl, h, fun _ _ => rfl⟩
  | .clr xs hs c, l, k, hl, h => by
    simp only [execI2] at h
    obtain ⟨l1, c1, k1, e1⟩ := clear2_ok (U := U) hl h
    obtain ⟨e, l', c', h1, h2⟩ := execI2_ok hU hcall n hY c l1 k c1 k1
    exact ⟨e, l', c', h1, fun R' k' => by simp only [IC2.lo, execI, e1]; exact h2 R' k'⟩
  | .fin c xs hs, l, k, hl, h => by
    simp only [execI2] at h
    obtain ⟨e, l1, c1, h1, h2⟩ := execI2_ok hU hcall n hY c l _ hl h
    cases e with
    | norm =>
      obtain ⟨l2, c2, k2, e2⟩ := clear2_ok (U := U) c1 h1
      exact ⟨_, _, c2, k2, fun R' k' => (h2 R' _).trans (by dsimp only; rw [e2])⟩
    | exit i => exact ⟨_, _, c1, h1, fun R' k' => h2 R' _⟩
    | ret => exact ⟨_, _, c1, h1, fun R' k' => h2 R' _⟩
  | .yreg pre cal args gd dst post, l, k, hl, h => by
    simp only [execI2, gF_eq] at h
    obtain ⟨l1, c1, h1, e1⟩ := steps2_ok hU hcall hl h
    rcases yGuard2_ok (U := U) c1 h1 with ⟨hrun, eg⟩ | ⟨hskip, eg⟩
    · unfold yRun2 at hrun
      cases hcal : rd2 l1 cal with
      | yld =>
        rw [hcal] at hrun
        obtain ⟨l2, c2, h2, e2⟩ := hY _ _ _ c1 hrun
        obtain ⟨l3, c3, h3, e3⟩ := putO_ok (U := U) c2 h2
        obtain ⟨l4, c4, h4, e4⟩ := steps2_ok hU hcall c3 h3
        refine ⟨_, l4, c4, h4, fun R' k' => (e1 R' _).trans ((eg R' _ _).trans ?_)⟩
        unfold yRun
        rw [rd_lo c1, hcal]
        have ea : (args.map (IA2.lo U)).map (fun x => (rd (fl U l1) x).strip) = TV.los U (args.map fun x => (rd2 l1 x).strip) := by
          rw [los_map, List.map_map, List.map_map]
          congr 1
          funext x
          show (rd (fl U l1) (x.lo U)).strip = TV.lo U (rd2 l1 x).strip
          rw [rd_lo c1, lo_strip]
        show Y R' ((args.map (IA2.lo U)).map fun x => (rd (fl U l1) x).strip) (fl U l1) _ = _
        rw [ea, e2 R' _]
        have e3' : fl U l3 = (fl U l2).set dst (.sc (.bool true)) := e3
        rw [← e3']
        exact e4 R' _
      | _ => rw [hcal] at hrun; cases hrun
    · obtain ⟨l3, c3, h3, e3⟩ := putO_ok (U := U) c1 hskip
      obtain ⟨l4, c4, h4, e4⟩ := steps2_ok hU hcall c3 h3
      refine ⟨_, l4, c4, h4, fun R' k' => (e1 R' _).trans ((eg R' _ _).trans ?_)⟩
      have e3' : fl U l3 = (fl U l1).set dst (.tup []) := e3
      rw [← e3']
      exact e4 R' _
  | .rfn .., l, k, hl, h => by cases h
theorem exec2_ok (hU : UniOk U) (hcall : CallOk2 U call2 call) (n : Nat) : ∀ (c : IC2 W) (l : FT W) (k : Ex → FT W → Option R), Ch l → exec2 U capB call2 n c l k = some r → OneE U k r fun R' k' => exec call n (c.lo U) (fl U l) k'
  | .skip, l, k, hl, h => ⟨_, _, hl, h, fun _ _ => rfl⟩
  | .stuck, l, k, hl, h => by cases h
  | .reg ops, l, k, hl, h => by
    simp only [exec2, gF_eq] at h
    obtain ⟨l', c', h1, h2⟩ := steps2_ok hU hcall hl h
    exact ⟨_, _, c', h1, fun R' k' => h2 R' _⟩
  | .seq a b, l, k, hl, h => by
    simp only [exec2] at h
    obtain ⟨e, l1, c1, h1, h2⟩ := exec2_ok hU hcall n a l _ hl h
    cases e with
    | norm =>
      obtain ⟨e', l2, c2, h3, h4⟩ := exec2_ok hU hcall n b l1 k c1 h1
      exact ⟨e', l2, c2, h3, fun R' k' => (h2 R' _).trans (h4 R' k')⟩
    | exit id => exact ⟨_, _, c1, h1, fun R' k' => h2 R' _⟩
    | ret => exact ⟨_, _, c1, h1, fun R' k' => h2 R' _⟩
  | .cond c a b, l, k, hl, h => by
    simp only [exec2] at h
    cases hc : rd2 l c with
    | sc v =>
      rw [hc] at h
      have hc' : rd (fl U l) (c.lo U) = .sc v := by rw [rd_lo hl, hc]; rfl
      cases v with
      | bool t =>
        cases t with
        | true =>
          obtain ⟨e, l', c', h1, h2⟩ := exec2_ok hU hcall n a l k hl h
          exact ⟨e, l', c', h1, fun R' k' => by simp only [IC2.lo, exec, hc', cond_true]; exact h2 R' k'⟩
        | false =>
          obtain ⟨e, l', c', h1, h2⟩ := exec2_ok hU hcall n b l k hl h
          exact ⟨e, l', c', h1, fun R' k' => by simp only [IC2.lo, exec, hc', cond_false]; exact h2 R' k'⟩
      | _ => cases h
    | _ => rw [hc] at h; cases h
  | .blk id b, l, k, hl, h => by
    simp only [exec2] at h
    obtain ⟨e, l1, c1, h1, h2⟩ := exec2_ok hU hcall n b l _ hl h
    cases e with
    | norm => exact ⟨_, _, c1, h1, fun R' k' => h2 R' _⟩
    | exit i =>
      dsimp only at h1
      cases hi : Nat.beq i id with
      | true => rw [hi] at h1; exact ⟨_, _, c1, h1, fun R' k' => (h2 R' _).trans (by dsimp only; rw [hi]; rfl)⟩
      | false => rw [hi] at h1; exact ⟨_, _, c1, h1, fun R' k' => (h2 R' _).trans (by dsimp only; rw [hi]; rfl)⟩
    | ret => exact ⟨_, _, c1, h1, fun R' k' => h2 R' _⟩
  | .loop b, l, k, hl, h => loopN2_ok (f1 := fun R' => exec call n (b.lo U)) (fun l k hl h => exec2_ok hU hcall n b l k hl h) n l k hl h
  | .exit id, l, k, hl, h => ⟨_, _, hl, h, fun _ _ => rfl⟩
  | .ret, l, k, hl, h => ⟨_, _, hl, h, fun _ _ => rfl⟩
  | .clr xs hs c, l, k, hl, h => by
    simp only [exec2] at h
    obtain ⟨l1, c1, k1, e1⟩ := clear2_ok (U := U) hl h
    obtain ⟨e, l', c', h1, h2⟩ := exec2_ok hU hcall n c l1 k c1 k1
    exact ⟨e, l', c', h1, fun R' k' => by simp only [IC2.lo, exec, e1]; exact h2 R' k'⟩
  | .fin c xs hs, l, k, hl, h => by
    simp only [exec2] at h
    obtain ⟨e, l1, c1, h1, h2⟩ := exec2_ok hU hcall n c l _ hl h
    cases e with
    | norm =>
      obtain ⟨l2, c2, k2, e2⟩ := clear2_ok (U := U) c1 h1
      exact ⟨_, _, c2, k2, fun R' k' => (h2 R' _).trans (by dsimp only; rw [e2])⟩
    | exit i => exact ⟨_, _, c1, h1, fun R' k' => h2 R' _⟩
    | ret => exact ⟨_, _, c1, h1, fun R' k' => h2 R' _⟩
  | .wk xs c, l, k, hl, h => by
    simp only [exec2] at h
    obtain ⟨l1, c1, k1, e1⟩ := weaken2_ok (U := U) hl h
    obtain ⟨e, l', c', h1, h2⟩ := exec2_ok hU hcall n c l1 k c1 k1
    exact ⟨e, l', c', h1, fun R' k' => by simp only [IC2.lo, exec, e1]; exact h2 R' k'⟩
  | .brw s c, l, k, hl, h => by
    simp only [exec2] at h
    obtain ⟨l1, c1, k1, e1⟩ := brwIn2_ok (U := U) hl h
    obtain ⟨e, l2, c2, h1, h2⟩ := exec2_ok hU hcall n c l1 _ c1 k1
    cases e with
    | norm =>
      obtain ⟨l3, c3, k3, e3⟩ := brwOut2_ok (U := U) c2 h1
      exact ⟨_, _, c3, k3, fun R' k' => by
        simp only [IC2.lo, exec, e1]
        exact (h2 R' _).trans (by dsimp only; rw [e3])⟩
    | exit i => cases h1
    | ret => cases h1
  | .plug .., l, k, hl, h => by cases h
  | .yreg .., l, k, hl, h => by cases h
  | .rfn x gf bq itnt ps it asg body px pb, l, k, hl, h => by
    simp only [exec2] at h
    cases hx : rd2 l x with
    | clo f0 caps =>
      rw [hx] at h
      dsimp only at h
      obtain ⟨hc, h⟩ := cond_some h
      simp only [Bool.and_eq_true] at hc
      obtain ⟨⟨⟨⟨⟨⟨h1, h2⟩, h3⟩, h4⟩, h5⟩, h6⟩, h7⟩ := hc
      have h6' := nble h6; have h7' := nble h7
      have hC0 : Ch (List.replicate bq (List.replicate 16 (TV.dead : TV W))) := fun c hc => by rw [(List.mem_replicate.1 hc).2, List.length_replicate]
      obtain ⟨S0, cS, h, eS⟩ := putM_ok (U := U) _ _ _ _ hC0 h
      have e0 : fl U (List.replicate bq (List.replicate 16 (TV.dead : TV W))) = List.replicate (16 * bq) .dead := by
        unfold fl
        rw [List.flatten_replicate_replicate, los_dead, Nat.mul_comm]
      have eT : fl U S0 = itSlots (16 * bq) caps := by
        rw [eS, e0]
        have := set_all (TV.los U ((.yld : TV W) :: caps.map fun x => .ptr x.1 x.2)) (16 * bq - (caps.length + 1))
        have hlen : (TV.los U ((.yld : TV W) :: caps.map fun x => .ptr x.1 x.2)).length = caps.length + 1 := by rw [los_len]; simp
        rw [hlen, Nat.add_sub_cancel' h6'] at this
        rw [this]
        unfold itSlots
        simp only [TV.los, TV.lo, List.cons_append, los_map, List.map_map]
        congr 2
        congr 1; omega
      have hHand : HOk U r (roundK2 bq ps pb l (exec2 U capB call2 n asg) (exec2 U capB call2 n body)) (fun R' args lc K => cond ((kept (16 * bq) lc).all (only3 true pb) && Nat.beq args.length ps.length) (exec call n (asg.lo U) (setMany (kept (16 * bq) (fl U l) ++ lc.drop (16 * bq)) ps args) fun e l1 => match e with
          | .norm => exec call n (body.lo U) l1 fun e l2 => match e with
            | .norm => K (kept (16 * bq) lc ++ l2.drop (16 * bq))
            | _ => none
          | _ => none) none) := fun args lc K clc hh => by
        unfold roundK2 at hh
        obtain ⟨g1, hh⟩ := cond_some hh
        simp only [Bool.and_eq_true] at g1
        obtain ⟨l0, c0, hh, e0⟩ := putM_ok (U := U) _ _ _ _ (ch_append (ch_take hl bq) (ch_drop clc bq)) hh
        obtain ⟨ea, l1, c1, hh1, ee1⟩ := exec2_ok hU hcall n asg l0 _ c0 hh
        cases ea with
        | norm =>
          obtain ⟨eb, l2, c2, hh2, ee2⟩ := exec2_ok hU hcall n body l1 _ c1 hh1
          cases eb with
          | norm =>
            refine ⟨_, ch_append (ch_take clc bq) (ch_drop c2 bq), hh2, fun R' K' => ?_⟩
            have q1 : (kept (16 * bq) (fl U lc)).all (only3 true pb) = true := by rw [← fl_kept clc]; exact allF_lo (fun a ha => only3_lo ha) g1.1
            dsimp only
            rw [q1, los_len, g1.2, Bool.and_self, cond_true]
            rw [fl_append, fl_kept hl, fl_drop clc] at e0
            rw [← e0]
            refine (ee1 R' _).trans ((ee2 R' _).trans ?_)
            show K' (kept (16 * bq) (fl U lc) ++ (fl U l2).drop (16 * bq)) = _
            rw [fl_append, fl_kept clc, fl_drop c2]
          | exit i => cases hh2
          | ret => cases hh2
        | exit i => cases hh1
        | ret => cases hh1
      obtain ⟨e, l', c', hk, he⟩ := execI2_ok hU hcall n hHand it _ _ (ch_append cS (ch_drop hl bq)) h
      have hx' : rd (fl U l) (x.lo U) = .clo f0 caps := by rw [rd_lo hl, hx]; rfl
      have q3 : (kept (16 * bq) (fl U l)).all (only3 false px) = true := by rw [← fl_kept hl]; exact allF_lo (fun a ha => only3_lo ha) h3
      have q4 : ((fl U l).drop (16 * bq)).all noY = true := by rw [← fl_drop hl]; exact allF_lo (fun a ha => noY_lo ha) h4
      rw [fl_append, eT, fl_drop hl] at he
      have fin : ∀ (kk : cond (allF noYT (l'.drop bq)) (k .norm (kept2 bq l ++ l'.drop bq)) none = some r), (∀ (R' : Type) (k' : Ex → List AV → Option R'), exec call n ((IC2.rfn x gf bq itnt ps it asg body px pb).lo U) (fl U l) k' = cond (((fl U l').drop (16 * bq)).all noY) (k' .norm (kept (16 * bq) (fl U l) ++ (fl U l').drop (16 * bq))) none) →
          OneE U k r fun R' k' => exec call n ((IC2.rfn x gf bq itnt ps it asg body px pb).lo U) (fl U l) k' := fun kk hh => by
        obtain ⟨g1, g2⟩ := cond_some kk
        refine ⟨_, _, ch_append (ch_take hl bq) (ch_drop c' bq), g2, fun R' k' => (hh R' k').trans ?_⟩
        have q5 : ((fl U l').drop (16 * bq)).all noY = true := by rw [← fl_drop c']; exact allF_lo (fun a ha => noY_lo ha) g1
        rw [q5, cond_true, fl_append, fl_kept hl, fl_drop c']
      have base : ∀ (R' : Type) (k' : Ex → List AV → Option R'), exec call n ((IC2.rfn x gf bq itnt ps it asg body px pb).lo U) (fl U l) k' = finY (16 * bq) (kept (16 * bq) (fl U l)) k' e (fl U l') := fun R' k' => by
        refine Eq.trans ?_ (he R' (finY (16 * bq) (kept (16 * bq) (fl U l)) k'))
        simp only [IC2.lo, exec, hx', h1, h2, q3, q4, h5, Bool.and_self, cond_true]
        rfl
      cases e with
      | norm => exact fin hk base
      | exit i => cases hk
      | ret => exact fin hk base
    | _ => rw [hx] at h; cases h
theorem inPass2_ok : ∀ {ps : List (Nat × Nat)} {cells : List (List (TV W))} {l : FT W} {k : FT W → Option R}, Ch l → inPass2 ps cells l k = some r → ∃ l', Ch l' ∧ k l' = some r ∧ inPass ps (cells.map (TV.los U)) (fl U l) = some (fl U l')
  | [], [], l, k, hl, h => ⟨l, hl, h, rfl⟩
  | [], _ :: _, l, k, hl, h => by cases h
  | (_, _) :: _, [], l, k, hl, h => by cases h
  | (a, n) :: ps, cs :: rs, l, k, hl, h => by
    simp only [inPass2] at h
    obtain ⟨h1, h2⟩ := cond_some h
    obtain ⟨l1, c1, k1, e1⟩ := putM_ok (U := U) _ _ l _ hl h2
    obtain ⟨l2, c2, k2, e2⟩ := inPass2_ok c1 k1
    refine ⟨l2, c2, k2, ?_⟩
    simp only [List.map_cons, inPass, los_len, h1, cond_true]
    rw [← e2, e1]; rfl
theorem getM_lo {l : FT W} (hl : Ch l) (is : List Nat) : TV.los U (getM l is) = getMany (fl U l) is := by
  unfold getM getMany
  rw [los_map, List.map_map]
  congr 1
  funext i
  exact (fl_get hl i).symm
theorem res2_ok {l : FT W} (hl : Ch l) {i : IRes} {a : TV W} (h : res2 l i = some a) : res1 (fl U l) i = some (TV.lo U a) := by
  cases i with
  | slot t =>
    simp only [res2] at h
    simp only [res1]
    rw [fl_get hl]
    cases hv : get2 l t <;> rw [hv] at h <;> first | (cases h; done) | (cases h; rfl)
  | cell a0 h0 n ag =>
    simp only [res2] at h
    simp only [res1]
    rw [fl_get hl, fl_get hl]
    cases hv : get2 l a0 <;> rw [hv] at h <;> try (cases h; done)
    rename_i h' j
    cases j with
    | succ j => cases h
    | zero =>
      cases hw : get2 l h0 <;> rw [hw] at h <;> try (cases h; done)
      obtain ⟨h1, h2⟩ := cond_some h
      cases h2
      simp only [TV.lo, h1, cond_true, lo_mkv, getM_lo hl]
theorem resL2_ok {l : FT W} (hl : Ch l) : ∀ {rs : List IRes} {as : List (TV W)}, resL2 l rs = some as → resL (fl U l) rs = some (TV.los U as)
  | [], as, h => by cases h; rfl
  | r :: rs, as, h => by
    simp only [resL2] at h
    split at h
    · rename_i a as' h1 h2
      cases h
      simp only [resL, res2_ok hl h1, resL2_ok hl h2, TV.los]
    · cases h
theorem outPass2_ok {l : FT W} (hl : Ch l) : ∀ {ps : List (Nat × Nat)} {cs : List (List (TV W))}, outPass2 l ps = some cs → outPass (fl U l) ps = some (cs.map (TV.los U))
  | [], cs, h => by cases h; rfl
  | (a, n) :: ps, cs, h => by
    simp only [outPass2] at h
    split at h
    · rename_i m cs' h1 h2
      obtain ⟨h3, h4⟩ := cond_some h
      cases h4
      simp only [outPass, fl_get hl, h1, TV.lo, outPass2_ok hl h2, h3, cond_true, List.map_cons, getM_lo hl]
    · cases h
theorem run2_ok (hU : UniOk U) {T : Nat → Option IFn} {n : Nat} (hcall : CallOk2 U call2 (runF T n)) {id : Nat} {f : IFn2 W} (hT : T id = some (f.lo U)) {as : List (TV W)} {cells : List (List (TV W))} {k : Ret2 W → Option R}
    (h : run2 U capB call2 n f as cells k = some r) : ∃ q : Ret2 W, runF T (n + 1) id (TV.los U as) (cells.map (TV.los U)) = some (q.lo U) ∧ k q = some r := by
  unfold run2 start2 at h
  obtain ⟨h3, h⟩ := cond_some h
  simp only [Bool.and_eq_true] at h3
  obtain ⟨⟨h3, h5⟩, h6⟩ := h3
  have hnp := nbeq h3; have h16 := nbeq h5; have hle := nble h6
  have hC0 : Ch (List.replicate (f.total / 16) (List.replicate 16 (TV.dead : TV W))) := fun c hc => by
    rw [(List.mem_replicate.1 hc).2, List.length_replicate]
  obtain ⟨l1, c1, k1, e1⟩ := putM_ok (U := U) _ _ _ _ hC0 h
  obtain ⟨l, hl, h, e2⟩ := inPass2_ok (U := U) c1 k1
  have e0 : fl U (List.replicate (f.total / 16) (List.replicate 16 (TV.dead : TV W))) = List.replicate f.total .dead := by
    unfold fl
    have : (List.replicate (f.total / 16) (List.replicate 16 (TV.dead : TV W))).flatten = List.replicate f.total .dead := by
      have e : f.total = f.total / 16 * 16 := by omega
      rw [List.flatten_replicate_replicate, ← e]
    rw [this, los_dead]
  have hnoplug : ∀ sz b, f.body ≠ .plug sz b := fun sz b e => by rw [e] at h; cases h
  obtain ⟨e, l', c', h1, h2⟩ := exec2_ok hU hcall n _ _ _ hl h
  have hst : start (f.lo U) (TV.los U as) (cells.map (TV.los U)) = some (fl U l) := by
    unfold start
    rw [los_len]
    show cond (Nat.beq as.length f.np) (inPass f.pass _ (TV.los U as ++ List.replicate (f.total - f.np) .dead)) none = _
    rw [h3, cond_true, ← e2, e1, e0]
    have := set_all (TV.los U as) (f.total - f.np)
    rw [los_len, hnp, Nat.add_sub_cancel' hle] at this
    rw [this]
  have hfin : ∀ {k0 : Ret2 W → Option R}, finish2 f l' k0 = some r → ∃ q : Ret2 W, finish (f.lo U) (fl U l') = some (q.lo U) ∧ k0 q = some r := fun {k0} hf => by
    unfold finish2 at hf
    split at hf
    · rename_i rs cs es h3 h4 h4b
      refine ⟨_, ?_, hf⟩
      have h3' := resL2_ok (U := U) c' h3
      have h4' := outPass2_ok (U := U) c' h4
      have h4b' := outPass2_ok (U := U) c' h4b
      unfold finish
      show (match resL (fl U l') f.res, outPass (fl U l') f.pass, outPass (fl U l') f.exp with
        | some rs, some cs, some es => some (Ret.mk _ _ _)
        | _, _, _ => none) = _
      rw [h3', h4', h4b']
      simp only [Ret2.lo]
      congr 2
      cases rs with
      | nil => rfl
      | cons a rs => cases rs <;> rfl
    · cases hf
  have hrun : runF T (n + 1) id (TV.los U as) (cells.map (TV.los U)) = exec (runF T n) n (f.body.lo U) (fl U l) fun e l' => match e with
      | .exit _ => none
      | _ => finish (f.lo U) l' := by
    unfold runF
    rw [hT]
    dsimp only
    rw [hst]
    have hb' : (f.lo U).body = f.body.lo U := rfl
    rw [hb']
    cases hb : f.body <;> first | rfl | exact absurd hb (hnoplug _ _)
  cases e with
  | norm =>
    obtain ⟨q, h3, h4⟩ := hfin h1
    exact ⟨q, hrun.trans ((h2 _ _).trans h3), h4⟩
  | exit i => cases h1
  | ret =>
    obtain ⟨q, h3, h4⟩ := hfin h1
    exact ⟨q, hrun.trans ((h2 _ _).trans h3), h4⟩
end
end Go.Proofs.Ytafnmkbehjbkdaa.M
