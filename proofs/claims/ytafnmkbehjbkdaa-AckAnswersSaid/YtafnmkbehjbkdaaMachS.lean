/- Every function of a table: what the small machine answers a call of it does. -/
import Derived.Test.YtafnmkbehjbkdaaMachR
set_option linter.unusedVariables false
set_option linter.unusedSimpArgs false
namespace Go.Proofs.Ytafnmkbehjbkdaa.M
open Go Go.RowKit
def laySorted : List (Nat × Nat) → Bool
  | [] => true
  | x :: r => r.all (fun y => Nat.blt (x.1 + x.2) y.1) && laySorted r
theorem laySorted_ok : ∀ {l : List (Nat × Nat)}, laySorted l = true → l.Pairwise fun x y => x.1 + x.2 < y.1
  | [], _ => .nil
  | x :: r, h => by
    simp only [laySorted, Bool.and_eq_true] at h
    exact List.pairwise_cons.2 ⟨fun y hy => nblt (List.all_eq_true.1 h.1 y hy), laySorted_ok h.2⟩
def chkLay (f : IFn) : Bool := Nat.ble f.nt f.total && f.lay.all (fun x => Nat.ble f.nt x.1 && Nat.blt (x.1 + x.2) f.total) && laySorted f.lay
theorem pairwise_two {α : Type} {r : α → α → Prop} : ∀ {l : List α}, l.Pairwise r → ∀ {x y : α}, x ∈ l → y ∈ l → x = y ∨ r x y ∨ r y x
  | [], _, x, y, hx, _ => by cases hx
  | z :: l, h, x, y, hx, hy => by
    rw [List.pairwise_cons] at h
    cases hx with
    | head =>
      cases hy with
      | head => exact .inl rfl
      | tail _ hy => exact .inr (.inl (h.1 _ hy))
    | tail _ hx =>
      cases hy with
      | head => exact .inr (.inr (h.1 _ hx))
      | tail _ hy => exact pairwise_two h.2 hx hy
theorem chkLay_ok {f : IFn} (h : chkLay f = true) : LayOk f := by
  unfold chkLay at h
  simp only [Bool.and_eq_true] at h
  refine ⟨nble h.1.1, fun b n hb => ?_, fun b n b' n' hb hb' => ?_⟩
  · have := List.all_eq_true.1 h.1.2 (b, n) hb
    simp only [Bool.and_eq_true] at this
    exact ⟨nble this.1, nblt this.2⟩
  · rcases pairwise_two (laySorted_ok h.2) hb hb' with e | e | e
    · cases e; exact .inl ⟨rfl, rfl⟩
    · exact .inr (.inl e)
    · exact .inr (.inr e)
def chkFn0 (P : Program) (T : Nat → Option IFn) (f : IFn) : Bool := match P.funcs[f.go]? with
  | some fn => match fn.body with
    | some c => Nat.beq fn.ntmps f.nt && Nat.ble f.np f.nt && chkLay f && chkC P T f false (f.pass.map (·.1)) f.body c && chkRs P f fn.results.toList f.res &&
      f.pass.all (fun x => inLay f x.1 x.2) && f.exp.all (fun x => inLay f x.1 x.2) && laySorted f.pass && apartKs (f.res.map key) &&
      (f.pass ++ f.exp).all (fun x => (f.res.map key).all fun y => apartK (x.1, x.1 + x.2 + 1) y)
    | none => false
  | none => false
def chkFn (P : Program) (T : Nat → Option IFn) (f : IFn) : Bool := match f.body with
  | .plug sz bytes => plugI f.go sz bytes && f.pass.isEmpty && f.exp.isEmpty
  | _ => chkFn0 P T f
def InsOk (P : Program) (gf sz bytes : Nat) : Prop := ∀ (f : IFn), f.go = gf → f.pass = [] → f.exp = [] → ∀ (as : List AV) (cells : List (List AV)) (r : Ret), plugK sz bytes as cells = some r → ∀ (g : Gh) (w : World) (vs : List Value), Handed f as cells g w vs →
  Calls P gf vs.toArray w fun e w' => ∃ u g', e = .returned u ∧ Back f r g w u g' w'
section
variable {P : Program} {T : Nat → Option IFn} {f : IFn} {g : Gh} {w : World} {l : List AV} {tm : Array Value}
theorem res_all (hl : LayOk f) (h : Rel f g w l tm) : ∀ {rs : List ResultVar} {is : List IRes} {as : List AV}, chkRs P f rs is = true → resL l is = some as →
    ∃ vs, (rs.mapM (fR tm)).run P w = .ok vs w ∧ vs.length = is.length ∧ as.length = is.length ∧ ∀ (j : Nat) (ir : IRes) (a : AV) (v : Value), is[j]? = some ir → as[j]? = some a → vs[j]? = some v → ∀ ρ L, RhoAt ρ ir L → V2 (g.ren ρ) w L a v
  | [], [], as, _, hr => by
    simp [resL] at hr; subst hr
    exact ⟨[], by simp, rfl, rfl, fun j ir a v hi => by simp at hi⟩
  | [], _ :: _, _, hc, _ => by cases hc
  | _ :: _, [], _, hc, _ => by cases hc
  | r :: rs, i :: is, as, hc, hr => by
    simp only [chkRs, Bool.and_eq_true] at hc
    simp only [resL] at hr
    split at hr <;> try cases hr
    rename_i a as' h1 h2
    obtain ⟨v, hv1, hv2⟩ := res_one (P := P) hl h hc.1 h1
    obtain ⟨vs, e1, e2, e3, e4⟩ := res_all hl h hc.2 h2
    refine ⟨v :: vs, ?_, by simp [e2], by simp [e3], fun j ir b u hi hb hu => ?_⟩
    · rw [List.mapM_cons]
      simp [hv1, e1]
    · cases j with
      | zero => simp at hi hb hu; subst hi; subst hb; subst hu; exact hv2
      | succ j => exact e4 j ir b u (by simpa using hi) (by simpa using hb) (by simpa using hu)
theorem inPass_ok : ∀ {ps : List (Nat × Nat)} {cells : List (List AV)} {l l' : List AV}, inPass ps cells l = some l' → (ps.Pairwise fun x y => x.1 + x.2 < y.1) → (∀ x ∈ ps, x.1 + x.2 < l.length) →
    l'.length = l.length ∧ (∀ t, (∀ x ∈ ps, ¬ (x.1 ≤ t ∧ t < x.1 + (x.2 + 1))) → l'.getD t .dead = l.getD t .dead) ∧
    ∀ (k h n : Nat), ps[k]? = some (h, n) → ∃ cs, cells[k]? = some cs ∧ l'.getD h .dead = .hdr n ∧ ∀ j, j < n → l'.getD (h + 1 + j) .dead = cs.getD j .dead
  | [], [], l, l', h, _, _ => by simp [inPass] at h; subst h; exact ⟨rfl, fun t _ => rfl, fun k h n hk => by simp at hk⟩
  | [], _ :: _, l, l', h, _, _ => by simp [inPass] at h
  | _ :: _, [], l, l', h, _, _ => by simp [inPass] at h
  | (b, n0) :: ps, cs :: cells, l, l', h, hp, hlt => by
    rw [List.pairwise_cons] at hp
    simp only [inPass] at h
    obtain ⟨h1, h2⟩ := cond_some h
    have hl := nbeq h1
    obtain ⟨e1, e2, e3⟩ := inPass_ok h2 hp.2 (fun x hx => by rw [len_setMany]; exact hlt x (by simp [hx]))
    have hlt0 : b + n0 < l.length := hlt (b, n0) (by simp)
    have hout : ∀ t, b ≤ t → t < b + (n0 + 1) → l'.getD t .dead = (setMany l (rng b (n0 + 1)) (.hdr n0 :: cs)).getD t .dead := fun t h1 h2 => e2 t fun x hx => by
      have := hp.1 x hx
      simp only at this; omega
    refine ⟨e1.trans (len_setMany _ _ _), fun t ht => ?_, fun k b' n hk => ?_⟩
    · rw [e2 t fun x hx => ht x (by simp [hx]), setMany_out _ _ _ fun hm => ht (b, n0) (by simp) (mem_rng.1 hm)]
    · cases k with
      | zero =>
        simp at hk; obtain ⟨rfl, rfl⟩ := hk
        refine ⟨cs, rfl, ?_, fun j hj => ?_⟩
        · rw [hout b (Nat.le_refl _) (by omega)]
          have := setMany_rng (n0 + 1) b (.hdr n0 :: cs) l (j := 0) (by simp [hl]) (by omega) (by omega)
          simpa using this
        · rw [hout _ (by omega) (by omega)]
          have := setMany_rng (n0 + 1) b (.hdr n0 :: cs) l (j := j + 1) (by simp [hl]) (by omega) (by omega)
          rw [show b + (j + 1) = b + 1 + j by omega] at this
          simpa using this
      | succ k =>
        obtain ⟨cs', q1, q2, q3⟩ := e3 k b' n (by simpa using hk)
        exact ⟨cs', by simpa using q1, q2, q3⟩
theorem outPass_ok : ∀ {ps : List (Nat × Nat)} {css : List (List AV)}, outPass l ps = some css → ∀ (k h n : Nat) (cs : List AV), ps[k]? = some (h, n) → css[k]? = some cs → l.getD h .dead = .hdr n ∧ cs = getMany l (rng (h + 1) n)
  | [], css, h, k, b, n, cs, hk, _ => by simp at hk
  | (b0, n0) :: ps, css, h, k, b, n, cs, hk, hc => by
    simp only [outPass] at h
    split at h <;> try cases h
    rename_i m r h1 h2
    obtain ⟨h3, h4⟩ := cond_some h
    have := nbeq h3; subst this
    cases h4
    cases k with
    | zero => simp at hk hc; obtain ⟨rfl, rfl⟩ := hk; subst hc; exact ⟨h1, rfl⟩
    | succ k => exact outPass_ok h2 k b n cs (by simpa using hk) (by simpa using hc)
theorem Rel.boxAt (h : Rel f g w l tm) {b n : Nat} (hlay : (b, n) ∈ f.lay) (hh : l.getD b .dead = .hdr n) {ρ : List Nat → List Nat} (hρ : ∀ j p, j < n → ρ ((b + 1 + j) :: p) = (b + 1 + j) :: p) :
    ∃ B, BoxAt (g.ren ρ) w b n (getMany l (rng (b + 1) n)) B := by
  rcases h.boxes b n hlay with ⟨h1, _⟩ | ⟨h1, B, cs, ty, h2, h3, h4, h5, h6, h7⟩
  · rw [hh] at h1; cases h1
  · refine ⟨B, h2, cs, ty, h3, h4, by simp [Gh.ren, h5], h6, fun j hj => ?_⟩
    have : (getMany l (rng (b + 1) n)).getD j .dead = l.getD (b + 1 + j) .dead := by
      rw [List.getD_eq_getElem?_getD, show (getMany l (rng (b + 1) n))[j]? = some (l.getD (b + 1 + j) .dead) from get_map_rng _ hj]; rfl
    rw [this]
    exact (h7 j hj).move (Pres.ren _ _ _) (OwnSame.ren _ _ fun p => hρ j p hj)
theorem fn_ok {k : Nat} (hcall : CallOk P T (runF T k)) (hc : chkFn0 P T f = true) {as : List AV} {cells : List (List AV)} {l0 : List AV} {r : Ret} (hs : start f as cells = some l0)
    (hk : (exec (runF T k) k f.body l0 fun e l' => match e with
        | .exit _ => none
        | _ => finish f l') = some r) {vs : List Value} (hh : Handed f as cells g w vs) : Calls P f.go vs.toArray w fun e w' => ∃ u g', e = .returned u ∧ Back f r g w u g' w' := by
  unfold chkFn0 at hc
  split at hc <;> try cases hc
  rename_i fn hfn
  split at hc <;> try cases hc
  rename_i c hbody
  simp only [Bool.and_eq_true] at hc
  obtain ⟨⟨⟨⟨⟨⟨⟨⟨⟨c1, c2⟩, c3⟩, c4⟩, c5⟩, c6⟩, c7⟩, c8⟩, c9⟩, c10⟩ := hc
  have hl := chkLay_ok c3
  have hnt := nbeq c1
  have hnp := nble c2
  have hps : ∀ x ∈ f.pass, (x.1, x.2) ∈ f.lay := fun x hx => inLay_ok (List.all_eq_true.1 c6 x hx)
  have hes : ∀ x ∈ f.exp, (x.1, x.2) ∈ f.lay := fun x hx => inLay_ok (List.all_eq_true.1 c7 x hx)
  unfold start at hs
  obtain ⟨h1, h2⟩ := cond_some hs
  have has := nbeq h1
  have hln := hl.nt
  have hl1 : (as ++ List.replicate (f.total - f.np) AV.dead).length = f.total := by simp [has]; omega
  obtain ⟨e1, e2, e3⟩ := inPass_ok h2 (laySorted_ok c8) (fun x hx => by rw [hl1]; exact (hl.within _ _ (hps x hx)).2)
  have hvl : vs.length = f.np := hh.len.trans has
  refine callsIn_wide.1 (callsIn_of_wp_marks (F := Fence.wide) (n := 0) hfn hbody trivial (wpIn_wide.2 ?_))
  let a0 : Act := { tmps := vs.toArray ++ Array.replicate (fn.ntmps - vs.toArray.size) undef, defers := [] }
  have hR : Rel f g w l0 a0.tmps := by
    refine ⟨e1.trans hl1, by simp [a0, hnt, hvl]; omega, fun t ht => ?_, fun b n hb => ?_, hh.fresh⟩
    · rw [e2 t fun x hx => by have := (hl.within _ _ (hps x hx)).1; omega]
      by_cases htn : t < as.length
      · have q1 : (as ++ List.replicate (f.total - f.np) AV.dead).getD t .dead = as[t] := by
          rw [List.getD_eq_getElem?_getD, List.getElem?_append_left htn, List.getElem?_eq_getElem htn]; rfl
        have htv : t < vs.length := by rw [hh.len]; exact htn
        have q2 : a0.tmps.getD t undef = vs[t] := by
          rw [Array.getD_eq_getD_getElem?, Array.getElem?_append_left (by simpa using htv)]
          simp [htv]
        rw [q1, q2]
        exact hh.args t _ _ (List.getElem?_eq_getElem htn) (List.getElem?_eq_getElem htv)
      · have q1 : (as ++ List.replicate (f.total - f.np) AV.dead).getD t .dead = .dead := by
          rw [List.getD_eq_getElem?_getD, List.getElem?_append_right (by omega), List.getElem?_replicate]
          split <;> rfl
        rw [q1]; exact .dead _
    · by_cases hbp : ∃ x ∈ f.pass, x.1 = b
      · obtain ⟨⟨b0, n0⟩, hm, rfl⟩ := hbp
        have : n = n0 := by
          rcases hl.apart _ _ _ _ hb (hps _ hm) with ⟨_, e⟩ | h
          · exact e
          · simp only at h; omega
        subst this
        obtain ⟨k', hk'⟩ := List.mem_iff_getElem?.1 hm
        obtain ⟨cs, q1, q2, q3⟩ := e3 k' b0 n hk'
        obtain ⟨_, B, hB⟩ := hh.cells k' b0 n cs hk' q1
        obtain ⟨z1, arr, ty, z2, z3, z4, z5, z6⟩ := hB
        exact .inr ⟨q2, B, arr, ty, z1, z2, z3, z4, z5, fun j hj => by rw [q3 j hj]; exact z6 j hj⟩
      · refine .inl ⟨?_, ?_⟩
        · have hw := hl.within b n hb
          rw [e2 b fun x hx hin => by
            rcases hl.apart _ _ _ _ hb (hps x hx) with ⟨e, _⟩ | h
            · exact hbp ⟨x, hx, e.symm⟩
            · omega]
          rw [List.getD_eq_getElem?_getD, List.getElem?_append_right (by omega), List.getElem?_replicate]
          split <;> rfl
        · cases hφ : g.φ b with
          | none => rfl
          | some B =>
            obtain ⟨n', hn'⟩ := hh.φin b B hφ
            exact absurd ⟨_, hn', rfl⟩ hbp
  refine exec_wp hl hcall k f.body c l0 _ g w a0 _ c4 (funext hh.pin) hR hk fun e l' g' w' a' hk' hR' he hd => ?_
  have fin : finish f l' = some r → ∀ w', Rel f g' w' l' a'.tmps → Ext g w g' w' → ∃ v, (results fn a'.tmps).run P w' = .ok v w' ∧ ∃ u g2, Ending.returned v = .returned u ∧ Back f r g w u g2 w' := fun hf w' hR' he => by
    unfold finish at hf
    split at hf <;> try cases hf
    rename_i rs cs es hrs hcs hes'
    obtain ⟨us, r1, r2, r3, r4⟩ := res_all (P := P) hl hR' c5 hrs
    let pre : Nat → List Nat := fun i => match f.res with
      | [_] => [f.total]
      | _ => [f.total, i]
    let ρ := rhoL pre 0 f.res
    have hrho : ∀ j ir, f.res[j]? = some ir → RhoAt ρ ir (pre j) := fun j ir hj => by
      have := rho_at pre (i := 0) c9 hj
      rwa [Nat.zero_add] at this
    have hrun : (results fn a'.tmps).run P w' = .ok (if h : us.length = 1 then us[0] else .tuple us.toArray) w' := by
      unfold results
      rw [show fn.results = fn.results.toList.toArray by simp, List.mapM_toArray]
      simp only [Sem.run_bind, Sem.run_map]
      have hF : ∀ F : ResultVar → Sem Value, (∀ x, F x = fR a'.tmps x) → (fn.results.toList.mapM F).run P w' = .ok us w' := fun F hF => by
        rw [show F = fR a'.tmps from funext hF]; exact r1
      rw [hF _ (fun x => by cases x <;> rfl)]
      simp
    have hroff : ∀ x ∈ f.pass ++ f.exp, ∀ j p, j < x.2 → ρ ((x.1 + 1 + j) :: p) = (x.1 + 1 + j) :: p := fun x hx j p hj => by
      refine rho_out pre fun y hy hin => ?_
      have := List.all_eq_true.1 (List.all_eq_true.1 c10 x hx) y hy
      simp only [apartK, Bool.or_eq_true] at this
      have : x.1 + x.2 + 1 ≤ y.1 ∨ y.2 ≤ x.1 := this.imp nble nble
      omega
    refine ⟨_, hrun, _, g'.ren ρ, rfl, he.trans (Ext.ren _ _ _), fun B hB => ⟨ren_ω_none.2 (hR'.fresh B hB).1, (hR'.fresh B hB).2⟩, ?_, ?_, ?_⟩
    · by_cases h1 : us.length = 1
      · rw [dif_pos h1]
        have hres : ∃ ir, f.res = [ir] := List.length_eq_one_iff.1 (by omega)
        obtain ⟨ir, hir⟩ := hres
        have hrs1 : ∃ a, rs = [a] := List.length_eq_one_iff.1 (by omega)
        obtain ⟨a, ha⟩ := hrs1
        subst ha
        have hp : pre 0 = [f.total] := by simp only [pre, hir]
        have := r4 0 ir a us[0] (by rw [hir]; rfl) rfl (List.getElem?_eq_getElem (by omega)) ρ _ (hrho 0 ir (by rw [hir]; rfl))
        rw [hp] at this
        exact .c this
      · rw [dif_neg h1]
        have hne : ∀ a, rs ≠ [a] := fun a e => by rw [e] at r3; simp at r3; omega
        have hne2 : ∀ a, f.res ≠ [a] := fun a e => by rw [e] at r2; simp at r2; omega
        have e4 : (match rs with
          | [r] => r
          | rs => .tup rs) = AV.tup rs := by
          split
          · exact absurd rfl (hne _)
          · rfl
        show V3 (g'.ren ρ) w' [f.total] (match rs with
          | [r] => r
          | rs => .tup rs) _
        rw [e4]
        refine .tup rs us (by omega) fun i a v hi hv => ?_
        have hilt : i < f.res.length := by have := lt_of_getq hi; omega
        have hp : pre i = [f.total] ++ [i] := by
          show (match f.res with
            | [_] => [f.total]
            | _ => [f.total, i]) = _
          split
          · rename_i x hx; exact absurd hx (hne2 _)
          · rfl
        rw [← hp]
        exact r4 i f.res[i] a v (List.getElem?_eq_getElem hilt) hi hv ρ _ (hrho i _ (List.getElem?_eq_getElem hilt))
    · intro k' b n cs' hk1 hk2
      obtain ⟨q1, rfl⟩ := outPass_ok hcs k' b n cs' hk1 hk2
      have hm := List.mem_of_getElem? hk1
      exact hR'.boxAt (hps _ hm) q1 (hroff (b, n) (List.mem_append.2 (.inl hm)))
    · intro k' b n cs' hk1 hk2
      obtain ⟨q1, rfl⟩ := outPass_ok hes' k' b n cs' hk1 hk2
      have hm := List.mem_of_getElem? hk1
      exact hR'.boxAt (hes _ hm) q1 (hroff (b, n) (List.mem_append.2 (.inr hm)))
  have out : finish f l' = some r → LeavesInM Fence.wide 0 P fn a'.tmps (fun e w' => ∃ u g', e = .returned u ∧ Back f r g w u g' w') a'.defers .returning w' := fun hf => by
    obtain ⟨bs, k1, k2, k3⟩ := hd
    rw [k2]
    refine leaves_marks (J := fun w2 => Rel f g' w2 l' a'.tmps ∧ Ext g w g' w2) bs k1 w' (fun b hb => (k3 b hb).2.2) ⟨hR', he⟩ (fun w2 b hb hh hJ => ?_) fun w2 hJ => fin hf w2 hJ.1 hJ.2
    exact ⟨hJ.1.putO _ (fun j => by unfold World.cell?; simp only [hh]) (k3 b hb).2.1, hJ.2.putO _ (k3 b hb).1⟩
  cases e with
  | norm => exact out hk'
  | exit id => cases hk'
  | ret => exact out hk'
section
variable {R : Type} {r : R} {call : Nat → List AV → List (List AV) → Option Ret}
def KeepAt (ps : List Nat) (l l' : List AV) : Prop := ∀ t ∈ ps, l'.getD t .dead = l.getD t .dead
theorem djP_ok {ts ps : List Nat} (h : djP ts ps = true) {t : Nat} (ht : t ∈ ps) : t ∉ ts := fun hm => by
  have := List.all_eq_true.1 h t hm
  simp only [Bool.not_eq_true', List.any_eq_false] at this
  exact absurd (Nat.beq_refl t) (by simpa using this t ht)
theorem comp_some {op : IOp} {vals : List AV} {k : AV → List AV → Option R} (h : comp call op vals k = some r) : ∃ v ex, k v ex = some r := by
  cases hd : op.det with
  | true =>
    rw [n_comp _ _ hd] at h
    cases hc : comp call op vals k0 with
    | none => rw [hc] at h; cases h
    | some p => rw [hc] at h; exact ⟨p.1, p.2, h⟩
  | false =>
    cases op <;> first | cases hd | skip
    unfold comp at h
    split at h <;> first | (cases h; done) | (rename_i he _ _; cases he; done) | (rename_i he _ _ _; cases he; done) | skip
    all_goals first
      | (rename_i he; cases he; done)
      | (rename_i neg x v he
         cases he
         unfold nilqK at h
         split at h
         · rename_i n _
           cases hn : decide (0 < n) with
           | true => rw [hn] at h; exact ⟨_, _, h⟩
           | false =>
             rw [hn] at h
             simp only [cond_false, both] at h
             split at h
             · exact ⟨_, _, h⟩
             · cases h
         · cases h)
theorem step_keep {ps : List Nat} {o : IStep} {l : List AV} {k : List AV → Option R} (hp : djP (o.op.exw ++ o.dst.toList) ps = true) (h : step call o l k = some r) : ∃ l', k l' = some r ∧ KeepAt ps l l' := by
  have hO : ∀ (v : AV) (l0 : List AV), KeepAt ps l l0 → KeepAt ps l (setO l0 o.dst v) := fun v l0 hl t ht => by
    rw [← hl t ht]
    cases hd : o.dst with
    | none => rfl
    | some d =>
      have := djP_ok hp ht
      rw [hd] at this
      simp only [Option.toList, List.mem_append, List.mem_singleton, not_or] at this
      exact getD_set_ne _ _ (fun e => this.2 e.symm)
  have hM : ∀ ex : List AV, KeepAt ps l (setMany l o.op.exw ex) := fun ex t ht => setMany_out _ _ _ fun hm => djP_ok hp ht (List.mem_append.2 (.inl hm))
  have run : (comp call o.op (o.op.opds.map (rd l)) fun v ex =>
    cond (Nat.beq ex.length o.op.exw.length) (match o.split with
    | true => match v with
      | .sc (.bool b) => cond b (k (setO (setMany l o.op.exw ex) o.dst (.sc (.bool true)))) (k (setO (setMany l o.op.exw ex) o.dst (.sc (.bool false))))
      | _ => none
    | false => k (setO (setMany l o.op.exw ex) o.dst v)) none) = some r → ∃ l', k l' = some r ∧ KeepAt ps l l' := fun h => by
    obtain ⟨v, ex, h1⟩ := comp_some h
    obtain ⟨_, h2⟩ := cond_some h1
    split at h2
    · split at h2
      · rename_i b
        cases b
        · exact ⟨_, h2, hO _ _ (hM ex)⟩
        · exact ⟨_, h2, hO _ _ (hM ex)⟩
      · cases h2
    · exact ⟨_, h2, hO _ _ (hM ex)⟩
  have skp : k (setO l o.dst (.tup [])) = some r → ∃ l', k l' = some r ∧ KeepAt ps l l' := fun h => ⟨_, h, hO _ _ fun _ _ => rfl⟩
  unfold step at h
  cases hg : o.guard with
  | none => rw [hg] at h; exact run h
  | some gw =>
    obtain ⟨gs, want⟩ := gw
    rw [hg] at h
    simp only at h
    generalize l.getD gs .dead = z at h
    split at h
    · rename_i b
      cases b <;> cases want <;> simp only [cond_true, cond_false] at h <;> first | exact run h | exact skp h
    · exact skp h
    · cases h
theorem steps_keep {ps : List Nat} : ∀ {os : List IStep} {l : List AV} {k : List AV → Option R}, (os.all fun o => djP (o.op.exw ++ o.dst.toList) ps) = true → steps call os l k = some r → ∃ l', k l' = some r ∧ KeepAt ps l l'
  | [], l, k, _, h => ⟨l, h, fun _ _ => rfl⟩
  | o :: os, l, k, hp, h => by
    simp only [List.all_cons, Bool.and_eq_true] at hp
    obtain ⟨l1, h1, k1⟩ := step_keep hp.1 h
    obtain ⟨l2, h2, k2⟩ := steps_keep hp.2 h1
    exact ⟨l2, h2, fun t ht => (k2 t ht).trans (k1 t ht)⟩
theorem clear_keep {ps xs : List Nat} {hs : List (Nat × Nat)} {l l' : List AV} (h1 : djP xs ps = true) (h2 : (hs.all fun x => djP (rng x.1 (x.2 + 1)) ps) = true) (h : clear xs hs l = some l') : KeepAt ps l l' := fun t ht => by
  have a : (setMany l xs (List.replicate xs.length .dead)).getD t .dead = l.getD t .dead := setMany_out _ _ _ (djP_ok h1 ht)
  unfold clear at h
  split at h
  · cases h; exact a
  · obtain ⟨_, h3⟩ := cond_some h
    cases h3
    rw [← a]
    refine kill_out _ _ fun x hm => ?_
    have := djP_ok (List.all_eq_true.1 h2 x hm) ht
    rw [mem_rng] at this
    exact this
theorem exec_keep {ps : List Nat} (n : Nat) : ∀ (ic : IC) (l : List AV) (k : Ex → List AV → Option R), keeps ps ic = true → exec call n ic l k = some r → ∃ e l', k e l' = some r ∧ KeepAt ps l l' := by
  intro ic
  induction ic with
  | skip => intro l k _ h; exact ⟨_, _, h, fun _ _ => rfl⟩
  | stuck => intro l k _ h; simp only [exec] at h; cases h
  | brw s c => intro l k hp; cases hp
  | plug sz bytes => intro l k hp; cases hp
  | wk xs c => intro l k hp; cases hp
  | reg ops =>
    intro l k hp h
    obtain ⟨l', h1, h2⟩ := steps_keep hp h
    exact ⟨_, _, h1, h2⟩
  | seq a b iha ihb =>
    intro l k hp h
    simp only [keeps, Bool.and_eq_true] at hp
    simp only [exec] at h
    obtain ⟨e, l1, h1, k1⟩ := iha l _ hp.1 h
    cases e with
    | norm =>
      obtain ⟨e2, l2, h2, k2⟩ := ihb l1 k hp.2 h1
      exact ⟨e2, l2, h2, fun t ht => (k2 t ht).trans (k1 t ht)⟩
    | exit i => exact ⟨_, _, h1, k1⟩
    | ret => exact ⟨_, _, h1, k1⟩
  | cond c a b iha ihb =>
    intro l k hp h
    simp only [keeps, Bool.and_eq_true] at hp
    simp only [exec] at h
    split at h
    · rename_i t _
      cases t
      · exact ihb l k hp.2 h
      · exact iha l k hp.1 h
    · cases h
  | blk id b ih =>
    intro l k hp h
    simp only [exec] at h
    obtain ⟨e, l1, h1, k1⟩ := ih l _ hp h
    cases e with
    | norm => exact ⟨_, _, h1, k1⟩
    | exit i =>
      simp only at h1
      cases hb : Nat.beq i id with
      | true => rw [hb] at h1; exact ⟨_, _, h1, k1⟩
      | false => rw [hb] at h1; exact ⟨_, _, h1, k1⟩
    | ret => exact ⟨_, _, h1, k1⟩
  | loop b ih =>
    intro l k hp h
    simp only [exec] at h
    have key : ∀ m l, loopN (exec call n b) m l k = some r → ∃ e l', k e l' = some r ∧ KeepAt ps l l' := by
      intro m
      induction m with
      | zero => intro l h; cases h
      | succ m ihm =>
        intro l h
        simp only [loopN] at h
        obtain ⟨e, l1, h1, k1⟩ := ih l _ hp h
        cases e with
        | norm =>
          obtain ⟨e2, l2, h2, k2⟩ := ihm l1 h1
          exact ⟨e2, l2, h2, fun t ht => (k2 t ht).trans (k1 t ht)⟩
        | exit i => exact ⟨_, _, h1, k1⟩
        | ret => exact ⟨_, _, h1, k1⟩
    exact key n l h
  | exit id => intro l k _ h; exact ⟨_, _, h, fun _ _ => rfl⟩
  | ret => intro l k _ h; exact ⟨_, _, h, fun _ _ => rfl⟩
  | clr xs hs b ih =>
    intro l k hp h
    simp only [keeps, Bool.and_eq_true] at hp
    simp only [exec] at h
    split at h
    · rename_i l1 hc
      obtain ⟨e, l2, h2, k2⟩ := ih l1 k hp.2 h
      have := clear_keep hp.1.1 hp.1.2 hc
      exact ⟨e, l2, h2, fun t ht => (k2 t ht).trans (this t ht)⟩
    · cases h
  | fin b xs hs ih =>
    intro l k hp h
    simp only [keeps, Bool.and_eq_true] at hp
    simp only [exec] at h
    obtain ⟨e, l1, h1, k1⟩ := ih l _ hp.2 h
    cases e with
    | norm =>
      simp only at h1
      split at h1
      · rename_i l2 hc
        have := clear_keep hp.1.1 hp.1.2 hc
        exact ⟨_, _, h1, fun t ht => (this t ht).trans (k1 t ht)⟩
      · cases h1
    | exit i => exact ⟨_, _, h1, k1⟩
    | ret => exact ⟨_, _, h1, k1⟩
  | yreg => intro l k hp; cases hp
  | rfn => intro l k hp; cases hp
theorem inPass_at : ∀ {ps : List (Nat × Nat)} {cells : List (List AV)} {l l0 : List AV}, inPass ps cells l = some l0 → l0.length = l.length ∧ ∀ t, t ∉ (ps.map fun x => rng x.1 (x.2 + 1)).flatten → l0.getD t .dead = l.getD t .dead
  | [], [], l, l0, h => by simp [inPass] at h; subst h; exact ⟨rfl, fun _ _ => rfl⟩
  | [], _ :: _, l, l0, h => by simp [inPass] at h
  | (b, n) :: ps, [], l, l0, h => by simp [inPass] at h
  | (b, n) :: ps, cs :: r, l, l0, h => by
    simp only [inPass] at h
    obtain ⟨h1, h2⟩ := cond_some h
    obtain ⟨h3, h4⟩ := inPass_at h2
    refine ⟨h3.trans (len_setMany _ _ _), fun t ht => ?_⟩
    simp only [List.map_cons, List.flatten_cons, List.mem_append, not_or] at ht
    rw [h4 t ht.2, setMany_out _ _ _ ht.1]
theorem outPass_in : ∀ {ps : List (Nat × Nat)} {cells cs : List (List AV)} {l l0 l' : List AV}, inPass ps cells l = some l0 → (ps.map fun x => rng x.1 (x.2 + 1)).flatten.Nodup → (∀ x ∈ ps, x.1 + x.2 < l.length) →
    KeepAt (ps.map fun x => rng x.1 (x.2 + 1)).flatten l0 l' → outPass l' ps = some cs → cs = cells
  | [], [], cs, l, l0, l', h, _, _, _, ho => by simp [outPass] at ho; exact ho.symm ▸ rfl
  | [], _ :: _, cs, l, l0, l', h, _, _, _, ho => by simp [inPass] at h
  | (b, n) :: ps, [], cs, l, l0, l', h, _, _, _, ho => by simp [inPass] at h
  | (b, n) :: ps, c :: r, cs, l, l0, l', h, hn, hlt, hk, ho => by
    simp only [inPass] at h
    obtain ⟨h1, h2⟩ := cond_some h
    simp only [List.map_cons, List.flatten_cons, List.nodup_append] at hn
    simp only [outPass] at ho
    split at ho
    · rename_i m r' hm hr
      obtain ⟨_, h3⟩ := cond_some ho
      cases h3
      have hlen := nbeq h1
      have hrest := outPass_in h2 hn.2.1 (fun x hx => by rw [len_setMany]; exact hlt x (by simp [hx])) (fun t ht => hk t (by simp only [List.map_cons, List.flatten_cons, List.mem_append]; exact .inr ht)) hr
      rw [hrest]
      congr 1
      have hb := hlt (b, n) (by simp)
      simp only at hb
      have hat : ∀ t, t ∈ rng b (n + 1) → l'.getD t .dead = (setMany l (rng b (n + 1)) (.hdr n :: c)).getD t .dead := fun t ht => by
        rw [hk t (by simp only [List.map_cons, List.flatten_cons, List.mem_append]; exact .inl ht), (inPass_at h2).2 t fun hm => hn.2.2 t ht t hm rfl]
      unfold getMany
      refine List.ext_getElem? fun j => ?_
      rw [List.getElem?_map]
      by_cases hj : j < n
      · rw [rng_get _ _ _ hj, Option.map_some, hat _ (mem_rng.2 (by omega))]
        have e : b + 1 + j = b + (j + 1) := by omega
        rw [e, setMany_rng (n + 1) b (.hdr n :: c) l (j := j + 1) (by simp [hlen]) (by omega) (by omega)]
        simp [List.getD_eq_getElem?_getD, List.getElem?_eq_getElem (show j < c.length by omega)]
      · rw [List.getElem?_eq_none (by rw [rng_len]; omega), List.getElem?_eq_none (by omega)]; rfl
    · cases ho
theorem start_ro {f : IFn} {as : List AV} {cells : List (List AV)} {l0 l' : List AV} {q : Ret} (hro : roFn f = true) (hs : start f as cells = some l0) (hk : KeepAt (passPl f) l0 l') (hf : finish f l' = some q) : q.cells = cells := by
  unfold roFn at hro
  simp only [Bool.and_eq_true] at hro
  unfold start at hs
  obtain ⟨h1, h2⟩ := cond_some hs
  unfold finish at hf
  split at hf
  · rename_i rs cs es e1 e2 e3
    cases hf
    refine outPass_in h2 (of_decide_eq_true hro.2) (fun x hx => ?_) hk e2
    have h3 := List.all_eq_true.1 hro.1.2 x hx
    simp only [Bool.and_eq_true] at h3
    have h4 := nblt h3.2
    have h5 := nbeq h1
    simp only [List.length_append, List.length_replicate]
    omega
  · cases hf
end
theorem runF_ok (hI : ∀ gf sz bytes, plugI gf sz bytes = true → InsOk P gf sz bytes) (hT : ∀ id f, T id = some f → chkFn P T f = true) : ∀ k, CallOk P T (runF T k)
  | 0 => ⟨fun id f as cells r _ h => (by cases h), fun id f as cells r _ _ h => (by cases h)⟩
  | k + 1 => ⟨fun id f as cells r hf h g w vs hh => (by
    simp only [runF, hf] at h
    have hc := hT id f hf
    split at h
    · rename_i sz bytes hb
      unfold chkFn at hc
      rw [hb] at hc
      simp only [Bool.and_eq_true, List.isEmpty_iff] at hc
      exact hI _ _ _ hc.1.1 f rfl hc.1.2 hc.2 as cells r h g w vs hh
    · rename_i hnp
      have hc0 : chkFn0 P T f = true := by
        unfold chkFn at hc
        split at hc
        · rename_i sz bytes hb; exact absurd hb (hnp sz bytes)
        · exact hc
      split at h
      · cases h
      · rename_i l hs
        exact fn_ok (runF_ok hI hT k) hc0 hs h hh), fun id f as cells r hf hro h => by
    simp only [runF, hf] at h
    have hro' := hro
    unfold roFn at hro'
    simp only [Bool.and_eq_true] at hro'
    split at h
    · rename_i sz bytes hb
      rw [hb] at hro'
      cases hro'.1.1
    · split at h
      · cases h
      · rename_i l hs
        obtain ⟨e, l', h1, h2⟩ := exec_keep k f.body l _ hro'.1.1 h
        cases e with
        | exit i => cases h1
        | norm => exact start_ro hro hs h2 h1
        | ret => exact start_ro hro hs h2 h1⟩
end
end Go.Proofs.Ytafnmkbehjbkdaa.M
