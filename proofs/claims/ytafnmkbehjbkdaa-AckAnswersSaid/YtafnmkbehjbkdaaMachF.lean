/- Operations on numbers, Bools, addresses. -/
import Derived.Test.YtafnmkbehjbkdaaMachE
import Derived.IntWalk
import Derived.Laws.StructEq
import Derived.ChangeKeysEq
set_option linter.unusedVariables false
set_option linter.unusedSimpArgs false
namespace Go.Proofs.Ytafnmkbehjbkdaa.M
open Go Go.RowKit
theorem wr_eq (k : IntKind) (n : Int) : wr k n = k.wrap n := by
  unfold wr
  split
  · exact (w64_eq n).trans (IntWalk.i64_left n).symm
  · simp [IntKind.wrap, IntKind.bits, IntKind.signed]
  · simp [IntKind.wrap, IntKind.bits, IntKind.signed]
  · rfl
section
variable {P : Program} {w : World} {R : Type} {r : R}
theorem run_eqGuard_int (op : BinOp) (t : TypeId) (x y : Operand) (ka kb : IntKind) (a b : Int) : (eqGuard op t x y (.int ka a) (.int kb b)).run P w = .ok () w := by
  cases op <;> simp [eqGuard]
theorem run_eqGuard_bool (op : BinOp) (t : TypeId) (x y : Operand) (a b : Bool) : (eqGuard op t x y (.bool a) (.bool b)).run P w = .ok () w := by
  cases op <;> simp [eqGuard]
theorem cond_none_some {b : Bool} {x : Option R} (h : cond b none x = some r) : b = false ∧ x = some r := by cases b <;> simp_all
theorem ibin_ok {op : BinOp} {x y : AV} {k : AV → Option R} (h : ibin op x y k = some r) (t : TypeId) (ox oy : Operand) :
    ∃ vx vy v, x = .sc vx ∧ y = .sc vy ∧ k (.sc v) = some r ∧ v.oneCell' = true ∧ ((do eqGuard op t ox oy vx vy; binOp op t vx vy : Sem Value)).run P w = .ok v w := by
  unfold ibin at h
  split at h
  · rename_i ka a kb b
    suffices hs : ∃ v, k (.sc v) = some r ∧ v.oneCell' = true ∧ (binOp op t (.int ka a) (.int kb b)).run P w = .ok v w by
      obtain ⟨v, h1, h2, h3⟩ := hs
      exact ⟨_, _, v, rfl, rfl, h1, h2, by simp only [Sem.run_bind, run_eqGuard_int, Result.andThen_ok, h3]⟩
    split at h
    · obtain ⟨h1, h2⟩ := cond_none_some h
      have h1 := of_decide_eq_false h1
      exact ⟨_, h2, rfl, by simp [binOp, Op.shift, h1, shl]⟩
    · obtain ⟨h1, h2⟩ := cond_none_some h
      have h1 := of_decide_eq_false h1
      exact ⟨_, h2, rfl, by simp [binOp, Op.shift, h1, shr]⟩
    · rename_i op h1 h2
      obtain ⟨hk, h'⟩ := cond_some h
      clear h
      have hk := of_decide_eq_true hk
      subst hk
      split at h'
      · exact ⟨_, h', rfl, by simp [binOp, Op.intArith, wr_eq]⟩
      · exact ⟨_, h', rfl, by simp [binOp, Op.intArith, wr_eq]⟩
      · exact ⟨_, h', rfl, by simp [binOp, Op.intArith, wr_eq]⟩
      · obtain ⟨h3, h4⟩ := cond_none_some h'
        have h3 := of_decide_eq_false h3
        exact ⟨_, h4, rfl, by simp [binOp, Op.intDiv, h3, wr_eq]⟩
      · obtain ⟨h3, h4⟩ := cond_none_some h'
        have h3 := of_decide_eq_false h3
        exact ⟨_, h4, rfl, by simp [binOp, Op.intDiv, h3, wr_eq]⟩
      · exact ⟨_, h', rfl, by simp [binOp, Op.intCmp]; rfl⟩
      · exact ⟨_, h', rfl, by simp [binOp, Op.intCmp]; rfl⟩
      · exact ⟨_, h', rfl, by simp [binOp, Op.intCmp]⟩
      · exact ⟨_, h', rfl, by simp [binOp, Op.intCmp]⟩
      · exact ⟨_, h', rfl, by simp [binOp, Op.intCmp]⟩
      · exact ⟨_, h', rfl, by simp [binOp, Op.intCmp]⟩
      · exact ⟨_, h', rfl, by simp [binOp, intBits_and]⟩
      · exact ⟨_, h', rfl, by simp [binOp, intBits_or]⟩
      · exact ⟨_, h', rfl, by simp [binOp, intBits_xor]⟩
      · exact ⟨_, h', rfl, by simp [binOp, intBits_andNot]⟩
      · cases h'
  · cases h
theorem eqb_ok {neg : Bool} {x y : AV} {k : AV → Option R} (h : eqbK neg x y k = some r) (t : TypeId) (ht : P.underlying t = some .bool) (ox oy : Operand) :
    ∃ vx vy v, x = .sc vx ∧ y = .sc vy ∧ k (.sc v) = some r ∧ v.oneCell' = true ∧ ((do eqGuard (cond neg .neq .eql) t ox oy vx vy; binOp (cond neg .neq .eql) t vx vy : Sem Value)).run P w = .ok v w := by
  unfold eqbK at h
  split at h
  · rename_i a b
    refine ⟨_, _, _, rfl, rfl, h, rfl, ?_⟩
    simp only [Sem.run_bind, run_eqGuard_bool, Result.andThen_ok]
    cases neg with
    | true => exact run_neq_bool w t a b ht
    | false => exact run_eql_bool w t a b ht
  · cases h
theorem iun_ok {op : UnOp} {x : AV} {k : AV → Option R} (h : iun op x k = some r) : ∃ vx v, x = .sc vx ∧ k (.sc v) = some r ∧ v.oneCell' = true ∧ (Op.unary op vx).run P w = .ok v w := by
  unfold iun at h
  split at h
  · exact ⟨_, _, rfl, h, rfl, by simp [Op.unary]⟩
  · exact ⟨_, _, rfl, h, rfl, by simp [Op.unary, Op.intArith, wr_eq]⟩
  · cases h
end
section
variable {P : Program} {f : IFn} {g : Gh} {w : World} {l : List AV} {a : Act} {K : Act → World → Prop} {Q : Exit → Act → World → Prop} {o : Oper} {R : Type} {r : R} {k : AV → List AV → Option R} {exw : List Nat}
theorem op_bin (hl : LayOk f) (h : Rel f g w l a.tmps) (hd : DstOk f o.dst) {x y : Operand} {ix iy : IA} {op : BinOp} {t ty : TypeId} (hop : o.op = .binOp op t x y ty) (hx : chkA f x ix = true) (hy : chkA f y iy = true)
    (hk : ibin op (rd l ix) (rd l iy) (fun v => k v []) = some r) (H : Fin f g w l a o.dst exw k r K) : o.wp P a w K Q := by
  obtain ⟨L1, hv1, _⟩ := rd_ok h hx
  obtain ⟨L2, hv2, _⟩ := rd_ok h hy
  obtain ⟨vx, vy, v, e1, e2, hk', h1, hrun⟩ := ibin_ok (P := P) (w := w) hk t x y
  rw [e1] at hv1; rw [e2] at hv2
  have hr : (execOp a.eval o).run P w = .ok (.value v) w := by
    simp only [execOp, hop, hv1.sc_inv.1, hv2.sc_inv.1]
    simp only [Sem.run_bind, Result.andThen_ok, Sem.run_pure] at hrun ⊢
    rw [hrun]; rfl
  exact wp_val hr (fin0 hl h hd H hk' h (Ext.refl _ _) (fun d _ => V3.sc h1))
theorem op_eqb (hl : LayOk f) (h : Rel f g w l a.tmps) (hd : DstOk f o.dst) {x y : Operand} {ix iy : IA} {neg : Bool} {t ty : TypeId} (hop : o.op = .binOp (cond neg .neq .eql) t x y ty) (hx : chkA f x ix = true) (hy : chkA f y iy = true)
    (ht : P.underlying t = some .bool) (hk : eqbK neg (rd l ix) (rd l iy) (fun v => k v []) = some r) (H : Fin f g w l a o.dst exw k r K) : o.wp P a w K Q := by
  obtain ⟨L1, hv1, _⟩ := rd_ok h hx
  obtain ⟨L2, hv2, _⟩ := rd_ok h hy
  obtain ⟨vx, vy, v, e1, e2, hk', h1, hrun⟩ := eqb_ok (P := P) (w := w) hk t ht x y
  rw [e1] at hv1; rw [e2] at hv2
  have hr : (execOp a.eval o).run P w = .ok (.value v) w := by
    simp only [execOp, hop, hv1.sc_inv.1, hv2.sc_inv.1]
    simp only [Sem.run_bind, Result.andThen_ok, Sem.run_pure] at hrun ⊢
    rw [hrun]; rfl
  exact wp_val hr (fin0 hl h hd H hk' h (Ext.refl _ _) (fun d _ => V3.sc h1))
def chkEqF (P : Program) : Nat → List Bool → List Field → Bool
  | _, [], [] => true
  | i, kd :: ks, fd :: fs => !decide (fd.name = "_") && Nat.beq fd.offset i && (match P.underlying fd.type with
    | some (.int _) => kd
    | some .bool => !kd
    | _ => false) && chkEqF P (i + 1) ks fs
  | _, _, _ => false
def chkEq (P : Program) (t : TypeId) (ks : List Bool) : Bool := match P.underlying t with
  | some (.struct fs) => chkEqF P 0 ks fs.toList && !P.stoodInHeld t && !P.eqGuardType P.depth t
  | _ => false
theorem run_part1 {e : TypeId} {X : Array Value} {off : Nat} {v : Value} (hu : (∃ k, P.underlying e = some (.int k)) ∨ P.underlying e = some .bool) (hx : X[off]? = some v) : (part e X off).run P w = .ok v w := by
  rcases hu with ⟨k, hu⟩ | hu <;> simp [part, isAgg, run_underlying hu, hx]
theorem eqFields_ok (d : Nat) (X Y : Array Value) : ∀ {ks : List Bool} {fs : List Field} {i : Nat} {xs ys : List AV} {k : Bool → Option R}, chkEqF P i ks fs = true → eqC ks xs ys k = some r →
    (∃ vs, xs = vs.map AV.sc ∧ (X.toList.drop i = vs → ∃ us, ys = us.map AV.sc ∧ (Y.toList.drop i = us → ∃ b, k b = some r ∧ (Op.eqFields (d + 1) X Y fs).run P w = .ok b w)))
  | [], [], i, xs, ys, k, _, h => by
    cases xs with
    | nil => cases ys with
      | nil => exact ⟨[], rfl, fun _ => ⟨[], rfl, fun _ => ⟨true, by simpa [eqC] using h, by simp [Op.eqFields]⟩⟩⟩
      | cons => simp [eqC] at h
    | cons => simp [eqC] at h
  | [], _ :: _, _, _, _, _, hc, _ => by cases hc
  | _ :: _, [], _, _, _, _, hc, _ => by cases hc
  | kd :: ks, fd :: fs, i, xs, ys, k, hc, h => by
    simp only [chkEqF, Bool.and_eq_true, Bool.not_eq_true', decide_eq_false_iff_not] at hc
    obtain ⟨⟨⟨h1, h2⟩, h3⟩, h4⟩ := hc
    have h2 := nbeq h2
    have fin : ∀ {v u : Value} {vs us : List Value} {c b' : Bool}, ((∃ k, P.underlying fd.type = some (.int k)) ∨ P.underlying fd.type = some .bool) → X.toList.drop i = v :: vs → Y.toList.drop i = u :: us →
        (Op.equalIn (d + 1) fd.type v u).run P w = .ok c w → (Op.eqFields (d + 1) X Y fs).run P w = .ok b' w → (Op.eqFields (d + 1) X Y (fd :: fs)).run P w = .ok (c && b') w := fun {v u vs us c b'} hu hX hY q1 ih => by
      have gx : X[i]? = some v := by
        have := congrArg (fun l => l[0]?) hX
        simpa using this
      have gy : Y[i]? = some u := by
        have := congrArg (fun l => l[0]?) hY
        simpa using this
      rw [Op.eqFields]
      simp only [if_pos (show fd.name ≠ "_" from h1), Sem.run_bind, h2, run_part1 hu gx, run_part1 hu gy, Result.andThen_ok, q1]
      cases c
      · simp
      · simpa using ih
    cases kd with
    | true =>
      have hu : ∃ k, P.underlying fd.type = some (.int k) := by
        split at h3
        · rename_i k e; exact ⟨k, e⟩
        · cases h3
        · cases h3
      obtain ⟨kt, hu⟩ := hu
      cases xs with
      | nil => simp [eqC] at h
      | cons x xs => cases x with
        | sc v => cases v with
          | int ka a => cases ys with
            | nil => simp [eqC] at h
            | cons y ys => cases y with
              | sc u => cases u with
                | int kb b =>
                  simp only [eqC] at h
                  obtain ⟨hk, h'⟩ := cond_some h
                  obtain ⟨vs, e1, e2⟩ := eqFields_ok d X Y h4 h'
                  refine ⟨.int ka a :: vs, by simp [e1], fun hX => ?_⟩
                  obtain ⟨us, e3, e4⟩ := e2 (by rw [← List.drop_drop, hX]; rfl)
                  refine ⟨.int kb b :: us, by simp [e3], fun hY => ?_⟩
                  obtain ⟨b', e5, e6⟩ := e4 (by rw [← List.drop_drop, hY]; rfl)
                  refine ⟨_, e5, fin (.inl ⟨kt, hu⟩) hX hY ?_ e6⟩
                  have hk := of_decide_eq_true hk
                  subst hk
                  exact run_equalIn_int w d fd.type ka kt a b hu
                | _ => simp [eqC] at h
              | _ => simp [eqC] at h
          | _ => simp [eqC] at h
        | _ => simp [eqC] at h
    | false =>
      have hu : P.underlying fd.type = some .bool := by
        split at h3
        · cases h3
        · rename_i e; exact e
        · cases h3
      cases xs with
      | nil => simp [eqC] at h
      | cons x xs => cases x with
        | sc v => cases v with
          | bool a => cases ys with
            | nil => simp [eqC] at h
            | cons y ys => cases y with
              | sc u => cases u with
                | bool b =>
                  simp only [eqC] at h
                  obtain ⟨vs, e1, e2⟩ := eqFields_ok d X Y h4 h
                  refine ⟨.bool a :: vs, by simp [e1], fun hX => ?_⟩
                  obtain ⟨us, e3, e4⟩ := e2 (by rw [← List.drop_drop, hX]; rfl)
                  refine ⟨.bool b :: us, by simp [e3], fun hY => ?_⟩
                  obtain ⟨b', e5, e6⟩ := e4 (by rw [← List.drop_drop, hY]; rfl)
                  exact ⟨_, e5, fin (.inr hu) hX hY (run_equalIn_bool w d fd.type a b hu) e6⟩
                | _ => simp [eqC] at h
              | _ => simp [eqC] at h
          | _ => simp [eqC] at h
        | _ => simp [eqC] at h
theorem op_eqs (hl : LayOk f) (h : Rel f g w l a.tmps) (hd : DstOk f o.dst) {x y : Operand} {ix iy : IA} {neg : Bool} {ks : List Bool} {t ty : TypeId} (hop : o.op = .binOp (cond neg .neq .eql) t x y ty) (hx : chkA f x ix = true) (hy : chkA f y iy = true)
    (hc : chkEq P t ks = true) (hk : eqsK ks neg (rd l ix) (rd l iy) (fun v => k v []) = some r) (H : Fin f g w l a o.dst exw k r K) : o.wp P a w K Q := by
  obtain ⟨L1, hv1, _⟩ := rd_ok h hx
  obtain ⟨L2, hv2, _⟩ := rd_ok h hy
  unfold chkEq at hc
  split at hc <;> try cases hc
  rename_i fs hfs
  simp only [Bool.and_eq_true, Bool.not_eq_true'] at hc
  obtain ⟨⟨c1, c2⟩, c3⟩ := hc
  unfold eqsK at hk
  split at hk
  · rename_i xs ys e1 e2
    rw [e1] at hv1; rw [e2] at hv2
    obtain ⟨vs, hu1, hl1, hc1⟩ := hv1.agg_inv
    obtain ⟨us, hu2, hl2, hc2⟩ := hv2.agg_inv
    obtain ⟨vs', q1, q2⟩ := eqFields_ok (P := P) (w := w) 9998 vs.toArray us.toArray c1 hk
    have same : ∀ {ws ws' : List Value} {zs : List AV} {L : List Nat}, zs = ws'.map AV.sc → zs.length = ws.length → (∀ (i : Nat) (b : AV) (v : Value), zs[i]? = some b → ws[i]? = some v → Vc g w (L ++ [i]) b v) → ws = ws' := by
      intro ws ws' zs L hz hlen hv
      subst hz
      apply List.ext_getElem?
      intro i
      have hlen' : ws'.length = ws.length := by simpa using hlen
      by_cases hi : i < ws.length
      · have hi' : i < ws'.length := by omega
        have hh := hv i (.sc ws'[i]) ws[i] (by simp [hi']) (by simp [hi])
        have := (V3.c (V2.c hh)).sc_inv.1
        rw [List.getElem?_eq_getElem hi, List.getElem?_eq_getElem hi', this]
      · rw [List.getElem?_eq_none (by omega), List.getElem?_eq_none (by omega)]
    have ev := same q1 hl1 hc1
    subst ev
    obtain ⟨us', q3, q4⟩ := q2 (by simp)
    have eu := same q3 hl2 hc2
    subst eu
    obtain ⟨b, q5, q6⟩ := q4 (by simp)
    have hf : P.fieldsOf t = fs := by simp [Program.fieldsOf, hfs]
    have hfd : P.underlying t = some (.struct (P.fieldsOf t)) := by rw [hf]; exact hfs
    have hr : (execOp a.eval o).run P w = .ok (.value (.bool (cond neg (!b) b))) w := by
      cases neg <;>
      simp only [execOp, hop, hu1, hu2, cond_true, cond_false, Sem.run_bind, run_eqGuard_agg _ _ _ _ _ _ _ c3, Result.andThen_ok, run_eql_struct, run_neq_struct, run_equalIn_struct (P := P) w 9999 t _ _ hfd c2, hf, q6, Sem.run_pure]
    exact wp_val hr (fin0 hl h hd H q5 h (Ext.refl _ _) (fun d _ => V3.sc rfl))
  · cases hk
theorem op_un (hl : LayOk f) (h : Rel f g w l a.tmps) (hd : DstOk f o.dst) {x : Operand} {ix : IA} {op : UnOp} {t : TypeId} (hop : o.op = .unOp op t x) (hx : chkA f x ix = true)
    (hk : iun op (rd l ix) (fun v => k v []) = some r) (H : Fin f g w l a o.dst exw k r K) : o.wp P a w K Q := by
  obtain ⟨L1, hv1, _⟩ := rd_ok h hx
  obtain ⟨vx, v, e1, hk', h1, hrun⟩ := iun_ok (P := P) (w := w) hk
  rw [e1] at hv1
  have hr : (execOp a.eval o).run P w = .ok (.value v) w := by
    simp only [execOp, hop, hv1.sc_inv.1, Sem.run_bind, hrun, Result.andThen_ok, Sem.run_pure]
  exact wp_val hr (fin0 hl h hd H hk' h (Ext.refl _ _) (fun d _ => V3.sc h1))
theorem op_conv (hl : LayOk f) (h : Rel f g w l a.tmps) (hd : DstOk f o.dst) {x : Operand} {ix : IA} {s t : TypeId} {kd : IntKind} (hop : o.op = .convert s t x) (hx : chkA f x ix = true)
    (hs : (P.underlying s).isSome = true) (ht : P.underlying t = some (.int kd)) {k0 : IntKind} {n : Int} (hv : rd l ix = .sc (.int k0 n)) (hk : k (.sc (.int kd (wr kd n))) [] = some r) (H : Fin f g w l a o.dst exw k r K) : o.wp P a w K Q := by
  obtain ⟨L1, hv1, _⟩ := rd_ok h hx
  rw [hv] at hv1
  obtain ⟨d, hd'⟩ := Option.isSome_iff_exists.1 hs
  have hr : (execOp a.eval o).run P w = .ok (.value (.int kd (wr kd n))) w := by
    simp [execOp, hop, hv1.sc_inv.1, convert, run_underlying hd', run_underlying ht, Conv.intToInt, wr_eq]
  exact wp_val hr (fin0 hl h hd H hk h (Ext.refl _ _) (fun d _ => V3.sc rfl))
theorem op_sidx (hl : LayOk f) (h : Rel f g w l a.tmps) (hd : DstOk f o.dst) {x y : Operand} {ix iy : IA} {t : TypeId} (hop : o.op = .index t x y) (hx : chkA f x ix = true) (hy : chkA f y iy = true)
    (ht : P.underlying t = some .string) (hk : sidxK (rd l ix) (rd l iy) (fun v => k v []) = some r) (H : Fin f g w l a o.dst exw k r K) : o.wp P a w K Q := by
  obtain ⟨L1, hv1, _⟩ := rd_ok h hx
  obtain ⟨L2, hv2, _⟩ := rd_ok h hy
  unfold sidxK at hk
  split at hk
  case h_2 => cases hk
  rename_i s e1
  split at hk
  case h_2 => cases hk
  rename_i ki i e2
  obtain ⟨c1, hk⟩ := cond_some hk
  obtain ⟨c2, hk⟩ := cond_some hk
  have c1 := of_decide_eq_true c1
  have c2 := of_decide_eq_true c2
  rw [e1] at hv1
  rw [e2] at hv2
  have hi : i.toNat < s.size := by omega
  have hs : s[i.toNat]? = some (s.data.getD i.toNat 0) := by
    rw [getElem?_pos s i.toNat hi]
    congr 1
    have hi' : i.toNat < s.data.size := hi
    show s.data[i.toNat] = _
    simp only [Array.getD, dif_pos hi']; rfl
  have hr : (execOp a.eval o).run P w = .ok (.value (.int .u8 ((s.data.getD i.toNat 0).toNat : Int))) w := by
    simp [execOp, hop, hv1.sc_inv.1, hv2.sc_inv.1, Instr.index, asIntOf, run_underlying ht, c1, hs]
  exact wp_val hr (fin0 hl h hd H hk h (Ext.refl _ _) (fun d _ => V3.sc rfl))
theorem op_nil (hl : LayOk f) (h : Rel f g w l a.tmps) (hd : DstOk f o.dst) {x : Operand} {ix : IA} (hop : o.op = .nilCheck x) (hx : chkA f x ix = true)
    (hk : nilK (rd l ix) (fun v => k v []) = some r) (H : Fin f g w l a o.dst exw k r K) : o.wp P a w K Q := by
  obtain ⟨L1, hv1, _⟩ := rd_ok h hx
  have hs := fun d => hv1.strip [d]
  obtain ⟨v, hv⟩ : ∃ v, rd l ix = v := ⟨_, rfl⟩
  obtain ⟨u, hu⟩ : ∃ u, a.eval x = u := ⟨_, rfl⟩
  rw [hv, hu] at hv1 hs
  rw [hv] at hk
  unfold nilK at hk
  have hr : (∃ q, u = .pointer (some q)) ∨ (∃ fn cs, u = .func (.func fn) #[] cs) → (execOp a.eval o).run P w = .ok (.value u) w := fun hh => by
    rcases hh with ⟨q, rfl⟩ | ⟨fn, cs, rfl⟩ <;> simp [execOp, hop, hu]
  split at hk
  · obtain ⟨B, _, rfl⟩ := hv1.ptr_inv
    exact wp_val (hr (.inl ⟨_, rfl⟩)) (fin0 hl h hd H hk h (Ext.refl _ _) (fun d _ => hs d))
  · have : ∃ q, u = .pointer (some q) := by
      cases hv1.toVc (by simp) (by simp) with
      | of0 h0 => cases h0
      | elt => exact ⟨_, rfl⟩
    exact wp_val (hr (.inl this)) (fin0 hl h hd H hk h (Ext.refl _ _) (fun d _ => hs d))
  · obtain ⟨vs, rfl, _⟩ := hv1.clo_inv
    exact wp_val (hr (.inr ⟨_, _, rfl⟩)) (fin0 hl h hd H hk h (Ext.refl _ _) (fun d _ => hs d))
  · cases hk
theorem op_len (hl : LayOk f) (h : Rel f g w l a.tmps) (hd : DstOk f o.dst) {x : Operand} {ix : IA} {t : TypeId} {str : Bool} (hop : o.op = .call { callee := .builtin .len, args := #[x], argTypes := #[t] }) (hx : chkA f x ix = true)
    (ht : cond str (P.underlying t = some .string) (∃ e, P.underlying t = some (.slice e)))
    (hk : lenK str (rd l ix) (fun v => k v []) = some r) (H : Fin f g w l a o.dst exw k r K) : o.wp P a w K Q := by
  obtain ⟨L1, hv1, _⟩ := rd_ok h hx
  obtain ⟨v, hv⟩ : ∃ v, rd l ix = v := ⟨_, rfl⟩
  rw [hv] at hv1 hk
  unfold lenK at hk
  split at hk
  · rename_i ap sz n gt
    cases str with
    | true => cases hk
    | false =>
      obtain ⟨e, he⟩ : ∃ e, P.underlying t = some (.slice e) := ht
      have hu : ∃ q c, a.eval x = .slice q n c := by
        rcases hv1.row_inv with ⟨rfl, p, h2⟩ | ⟨B, o', c, h2, _⟩
        · exact ⟨_, _, h2⟩
        · exact ⟨_, _, h2⟩
      obtain ⟨q, c, hu⟩ := hu
      have hr : (execOp a.eval o).run P w = .ok (.value (.int .i64 (n : Int))) w := by
        simp [execOp, hop, resolve, invoke, builtin, hu, Builtin.len_, run_underlying he, goInt]
      exact wp_val hr (fin0 hl h hd H hk h (Ext.refl _ _) (fun d _ => V3.sc rfl))
  · rename_i kk sz n
    cases str with
    | true => cases hk
    | false =>
      obtain ⟨e, he⟩ : ∃ e, P.underlying t = some (.slice e) := ht
      have hu : ∃ q c, a.eval x = .slice q n c := by
        rcases hv1.ur_inv with ⟨rfl, p, h2⟩ | ⟨B, c, h2, _⟩
        · exact ⟨_, _, h2⟩
        · exact ⟨_, _, h2⟩
      obtain ⟨q, c, hu⟩ := hu
      have hr : (execOp a.eval o).run P w = .ok (.value (.int .i64 (n : Int))) w := by
        simp [execOp, hop, resolve, invoke, builtin, hu, Builtin.len_, run_underlying he, goInt]
      exact wp_val hr (fin0 hl h hd H hk h (Ext.refl _ _) (fun d _ => V3.sc rfl))
  · rename_i s
    cases str with
    | false => cases hk
    | true =>
      have he : P.underlying t = some .string := ht
      have hu := hv1.sc_inv.1
      have hr : (execOp a.eval o).run P w = .ok (.value (.int .i64 (s.size : Int))) w := by
        simp [execOp, hop, resolve, invoke, builtin, hu, Builtin.len_, run_underlying he, goInt]
      exact wp_val hr (fin0 hl h hd H hk h (Ext.refl _ _) (fun d _ => V3.sc rfl))
  · cases hk
theorem foldMM_ok {m : Bool} {ka : IntKind} {K' : Int → Option R} : ∀ {as : List AV} {x : Int}, foldMM m ka x as K' = some r →
    ∃ y vs, as.map (fun a => match a with | .sc v => v | _ => undef) = vs ∧ (∀ a ∈ as, ∃ v, a = .sc v) ∧ K' y = some r ∧ ((vs.foldlM (cond m Builtin.max2 Builtin.min2) (.int ka x) : Sem Value)).run P w = .ok (.int ka y) w
  | [], x, h => ⟨x, [], rfl, by simp, h, rfl⟩
  | .sc (.int kb y) :: r', x, h => by
    simp only [foldMM] at h
    obtain ⟨h1, h2⟩ := cond_some h
    have h1 := of_decide_eq_true h1
    subst h1
    obtain ⟨z, vs, e, hall, hk, hrun⟩ := foldMM_ok (as := r') h2
    refine ⟨z, .int ka y :: vs, by simp [e], by simpa using hall, hk, ?_⟩
    rw [List.foldlM_cons, Sem.run_bind]
    cases m with
    | true => simpa [Builtin.max2, mx] using hrun
    | false => simpa [Builtin.min2, mn] using hrun
  | .dead :: _, _, h => by simp [foldMM] at h
  | .agg _ :: _, _, h => by simp [foldMM] at h
  | .tup _ :: _, _, h => by simp [foldMM] at h
  | .row _ _ _ _ :: _, _, h => by simp [foldMM] at h
  | .elt _ :: _, _, h => by simp [foldMM] at h
  | .ptr _ _ :: _, _, h => by simp [foldMM] at h
  | .clo _ _ :: _, _, h => by simp [foldMM] at h
  | .hdr _ :: _, _, h => by simp [foldMM] at h
  | .sc (.bool _) :: _, _, h => by simp [foldMM] at h
  | .sc (.float _ _) :: _, _, h => by simp [foldMM] at h
  | .sc (.complex _ _ _) :: _, _, h => by simp [foldMM] at h
  | .sc (.string _) :: _, _, h => by simp [foldMM] at h
  | .sc (.pointer _) :: _, _, h => by simp [foldMM] at h
  | .sc (.slice _ _ _) :: _, _, h => by simp [foldMM] at h
  | .sc (.map _) :: _, _, h => by simp [foldMM] at h
  | .sc (.chan _) :: _, _, h => by simp [foldMM] at h
  | .sc (.func _ _ _) :: _, _, h => by simp [foldMM] at h
  | .sc .nilFunc :: _, _, h => by simp [foldMM] at h
  | .sc (.iface _ _) :: _, _, h => by simp [foldMM] at h
  | .sc .nilIface :: _, _, h => by simp [foldMM] at h
  | .sc (.agg _) :: _, _, h => by simp [foldMM] at h
  | .sc (.tuple _) :: _, _, h => by simp [foldMM] at h
def chkAs (f : IFn) : List Operand → List IA → Bool
  | [], [] => true
  | x :: xs, a :: as => chkA f x a && chkAs f xs as
  | _, _ => false
theorem evals_sc (h : Rel f g w l a.tmps) : ∀ {xs : List Operand} {ias : List IA}, chkAs f xs ias = true → (∀ b ∈ ias.map (rd l), ∃ v, b = .sc v) → xs.map a.eval = (ias.map (rd l)).map (fun b => match b with | .sc v => v | _ => undef)
  | [], [], _, _ => rfl
  | [], _ :: _, h, _ => by cases h
  | _ :: _, [], h, _ => by cases h
  | x :: xs, ia :: ias, hc, hall => by
    simp only [chkAs, Bool.and_eq_true] at hc
    obtain ⟨L, hv, _⟩ := rd_ok h hc.1
    obtain ⟨v, e⟩ := hall (rd l ia) (by simp)
    simp only [List.map_cons]
    rw [evals_sc h hc.2 (fun b hb => hall b (by simp at hb ⊢; exact .inr hb)), e]
    rw [e] at hv
    rw [hv.sc_inv.1]
theorem op_mnmx (hl : LayOk f) (h : Rel f g w l a.tmps) (hd : DstOk f o.dst) {xs : Array Operand} {ts : Array TypeId} {ias : List IA} {m : Bool} (hop : o.op = .call { callee := .builtin (cond m .max .min), args := xs, argTypes := ts })
    (hx : chkAs f xs.toList ias = true) {ka : IntKind} {x : Int} {as : List AV} (he : ias.map (rd l) = .sc (.int ka x) :: as) (hk : foldMM m ka x as (fun v => k (.sc (.int ka v)) []) = some r) (H : Fin f g w l a o.dst exw k r K) : o.wp P a w K Q := by
  obtain ⟨y, vs, e1, hall, hk', hrun⟩ := foldMM_ok (P := P) (w := w) hk
  have hev := evals_sc h hx (by rw [he]; simpa using hall)
  rw [he, List.map_cons, e1] at hev
  have hr : (execOp a.eval o).run P w = .ok (.value (.int ka y)) w := by
    have hargs : xs.map a.eval = (Value.int ka x :: vs).toArray := by
      rw [← hev]; apply Array.ext'; simp
    cases m with
    | true => simp only [cond_true] at hop hrun; simp [execOp, hop, resolve, invoke, builtin, hargs, Builtin.max_, hrun]
    | false => simp only [cond_false] at hop hrun; simp [execOp, hop, resolve, invoke, builtin, hargs, Builtin.min_, hrun]
  exact wp_val hr (fin0 hl h hd H hk' h (Ext.refl _ _) (fun d _ => V3.sc rfl))
def chkFld (P : Program) (s : TypeId) (fd off : Nat) : Bool := match P.underlying s with
  | some (.struct fs) => match fs[fd]? with
    | some fl => Nat.beq fl.offset off && (match P.info? fl.type with
      | some i => Nat.ble 1 i.size
      | none => false)
    | none => false
  | _ => false
theorem V3.fld {L : List Nat} {v : AV} {u : Value} {off : Nat} (h : V3 g w L v u) {k : AV → Option R} (hk : fldK off v k = some r) : ∃ q v', u = .pointer (some q) ∧ k v' = some r ∧ ∀ L', V3 g w L' v' (.pointer (some (q.add off))) := by
  unfold fldK at hk
  split at hk
  · rename_i b j
    obtain ⟨B, hB, rfl⟩ := h.ptr_inv
    exact ⟨_, _, rfl, hk, fun L' => by rw [Addr.add_lit]; exact .c (.c (.ptr _ _ _ hB))⟩
  · rename_i cs
    obtain ⟨h1, h2⟩ := cond_some hk
    have h1 := nble h1
    cases h.toVc (by simp) (by simp) with
    | of0 h0 => cases h0
    | elt cs B o' val hfz hcell hel =>
      refine ⟨_, _, rfl, h2, fun L' => ?_⟩
      rw [Addr.add_lit]
      refine .c (.c (.elt _ B (o' + off) (fun j => val (off + j)) ?_ (fun j hj => ?_) (fun j b hb => ?_)))
      · rcases hfz with h0 | h0
        · left; simp [h0]
        · right; intro n hn; have := h0 n hn; simp; omega
      · rw [List.length_drop] at hj
        have := hcell (off + j) (by omega)
        rwa [show o' + off + j = o' + (off + j) by omega]
      · rw [List.getElem?_drop] at hb; exact hel _ b hb
  · obtain ⟨B, hB, rfl⟩ := h.up_inv
    exact ⟨_, _, rfl, hk, fun L' => by rw [Addr.add_lit, Nat.add_assoc]; exact .c (.c (.up _ _ _ _ _ hB))⟩
  · cases hk
theorem op_fld (hl : LayOk f) (h : Rel f g w l a.tmps) (hd : DstOk f o.dst) {x : Operand} {ix : IA} {s : TypeId} {fd off : Nat} (hop : o.op = .fieldAddr s x fd) (hx : chkA f x ix = true) (hc : chkFld P s fd off = true)
    (hk : fldK off (rd l ix) (fun v => k v []) = some r) (H : Fin f g w l a o.dst exw k r K) : o.wp P a w K Q := by
  obtain ⟨L1, hv1, _⟩ := rd_ok h hx
  unfold chkFld at hc
  split at hc <;> try cases hc
  rename_i fs hfs
  split at hc <;> try cases hc
  rename_i fl hfl
  simp only [Bool.and_eq_true] at hc
  obtain ⟨h1, h2⟩ := hc
  have h1 := nbeq h1
  split at h2 <;> try cases h2
  rename_i i hi
  have h3 : i.size ≠ 0 := by have := nble h2; omega
  have main : ∀ {q : Addr} {v' : AV}, a.eval x = .pointer (some q) → k v' [] = some r → (∀ d, V3 g w [d] v' (.pointer (some (q.add off)))) → o.wp P a w K Q := fun {q v'} hu hk' hv => by
    have hr : (execOp a.eval o).run P w = .ok (.value (.pointer (some (q.add off)))) w := by
      simp [execOp, hop, hu, Instr.fieldAt, run_underlying hfs, hfl, Instr.sureAddr, fieldPlace, sizeOf, typeInfo, hi, h3, h1]
    exact wp_val hr (fin0 hl h hd H hk' h (Ext.refl _ _) (fun d _ => hv d))
  obtain ⟨q, v', hu, hk', hv⟩ := hv1.fld hk
  exact main hu hk' (fun d => hv [d])
def chkArr (P : Program) (t : TypeId) (i off : Nat) : Bool := match P.underlying t with
  | some (.array len e) => match P.info? e with
    | some inf => Nat.blt i len && Nat.beq (i * inf.size) off
    | none => false
  | _ => false
theorem op_arr (hl : LayOk f) (h : Rel f g w l a.tmps) (hd : DstOk f o.dst) {x : Operand} {ix : IA} {t : TypeId} {i off : Nat} {kd : IntKind} {n : Int} (hn : n = (i : Int)) (hop : o.op = .indexAddr t x (.const (.int kd n))) (hx : chkA f x ix = true) (hc : chkArr P t i off = true)
    (hk : fldK off (rd l ix) (fun v => k v []) = some r) (H : Fin f g w l a o.dst exw k r K) : o.wp P a w K Q := by
  subst hn
  obtain ⟨L1, hv1, _⟩ := rd_ok h hx
  unfold chkArr at hc
  split at hc <;> try cases hc
  rename_i len e hfs
  split at hc <;> try cases hc
  rename_i inf hinf
  simp only [Bool.and_eq_true] at hc
  have h1 := nblt hc.1
  have h2 := nbeq hc.2
  have main : ∀ {q : Addr} {v' : AV}, a.eval x = .pointer (some q) → k v' [] = some r → (∀ d, V3 g w [d] v' (.pointer (some (q.add off)))) → o.wp P a w K Q := fun {q v'} hu hk' hv => by
    have hr : (execOp a.eval o).run P w = .ok (.value (.pointer (some (q.add off)))) w := by
      have : (i : Int) < (len : Int) := by omega
      have hc : a.eval (.const (.int kd (i : Int))) = .int kd (i : Int) := rfl
      simp [execOp, hop, hu, hc, Instr.indexAt, asIntOf, run_underlying hfs, Instr.sureAddr, sizeOf, typeInfo, hinf, this, h1, h2]
    exact wp_val hr (fin0 hl h hd H hk' h (Ext.refl _ _) (fun d _ => hv d))
  obtain ⟨q, v', hu, hk', hv⟩ := hv1.fld hk
  exact main hu hk' (fun d => hv [d])
end
end Go.Proofs.Ytafnmkbehjbkdaa.M
