/- A call, told in the caller's frame. -/
import Derived.Test.YtafnmkbehjbkdaaMachK
set_option linter.unusedVariables false
set_option linter.unusedSimpArgs false
namespace Go.Proofs.Ytafnmkbehjbkdaa.M
open Go Go.RowKit
def nodupB : List Nat → Bool
  | [] => true
  | a :: r => r.all (fun b => !Nat.beq a b) && nodupB r
theorem nodupB_ok : ∀ {l : List Nat}, nodupB l = true → l.Nodup
  | [], _ => .nil
  | a :: r, h => by
    simp only [nodupB, Bool.and_eq_true] at h
    refine List.nodup_cons.2 ⟨fun hm => ?_, nodupB_ok h.2⟩
    have := List.all_eq_true.1 h.1 a hm
    simp at this
def apartB : List (Nat × Nat × Nat) → Bool
  | [] => true
  | x :: r => r.all (fun y => Nat.blt (x.1 + x.2.2) y.1 || Nat.blt (y.1 + y.2.2) x.1) && apartB r
theorem apartB_ok : ∀ {l : List (Nat × Nat × Nat)}, apartB l = true → l.Pairwise fun x y => x.1 + x.2.2 < y.1 ∨ y.1 + y.2.2 < x.1
  | [], _ => .nil
  | x :: r, h => by
    simp only [apartB, Bool.and_eq_true] at h
    refine List.pairwise_cons.2 ⟨fun y hy => ?_, apartB_ok h.2⟩
    have := List.all_eq_true.1 h.1 y hy
    simp only [Bool.or_eq_true] at this
    exact this.imp nblt nblt
def cellMap : List (Nat × Nat × Nat) → Nat → Option Nat
  | [], _ => none
  | (a, b, n) :: l, r => if a + 1 ≤ r ∧ r < a + 1 + n then some (b + 1 + (r - (a + 1))) else cellMap l r
theorem cellMap_of : ∀ {l : List (Nat × Nat × Nat)}, (l.Pairwise fun x y => x.1 + x.2.2 < y.1 ∨ y.1 + y.2.2 < x.1) → ∀ {a b n j : Nat}, (a, b, n) ∈ l → j < n → cellMap l (a + 1 + j) = some (b + 1 + j)
  | (a0, b0, n0) :: l, hp, a, b, n, j, hm, hj => by
    rw [List.pairwise_cons] at hp
    simp only [cellMap]
    cases hm with
    | head => rw [if_pos (by omega)]; congr 1; omega
    | tail _ hm =>
      have := hp.1 _ hm
      simp only at this
      rw [if_neg (by omega)]; exact cellMap_of hp.2 hm hj
theorem cellMap_none : ∀ {l : List (Nat × Nat × Nat)} {r : Nat}, (∀ x ∈ l, ¬ (x.1 + 1 ≤ r ∧ r < x.1 + 1 + x.2.2)) → cellMap l r = none
  | [], _, _ => rfl
  | (a, b, n) :: l, r, h => by
    simp only [cellMap]
    rw [if_neg (h (a, b, n) (by simp))]; exact cellMap_none fun x hx => h x (by simp [hx])
def argIx : List (Bool × IA) → Nat → Nat → Option Nat
  | [], _, _ => none
  | (tk, x) :: as, i, r => if r ∈ exwx tk x then some i else argIx as (i + 1) r
theorem argIx_none : ∀ {args : List (Bool × IA)} {i r : Nat}, r ∉ tkArgs args → argIx args i r = none
  | [], _, _, _ => rfl
  | (tk, x) :: as, i, r, h => by
    simp only [tkArgs, List.mem_append, not_or] at h
    simp only [argIx, if_neg h.1]; exact argIx_none h.2
theorem argIx_of : ∀ {args : List (Bool × IA)} {i0 i r : Nat} {tk : Bool}, (tkArgs args).Nodup → args[i]? = some (tk, .s r) → tkS tk (.s r) = true → argIx args i0 r = some (i0 + i)
  | [], _, i, r, tk, _, h, _ => by simp at h
  | (tk0, x0) :: as, i0, 0, r, tk, hn, h, ht => by
    simp at h; obtain ⟨rfl, rfl⟩ := h
    obtain ⟨rfl, _⟩ := tkS_true ht
    simp [argIx, exwx]
  | (tk0, x0) :: as, i0, i + 1, r, tk, hn, h, ht => by
    have h' : as[i]? = some (tk, .s r) := by simpa using h
    simp only [tkArgs] at hn
    have hmem : r ∈ tkArgs as := by
      obtain ⟨rfl, _⟩ := tkS_true ht
      clear hn h
      have gen : ∀ {as : List (Bool × IA)} {i : Nat}, as[i]? = some (true, IA.s r) → r ∈ tkArgs as := by
        intro as
        induction as with
        | nil => intro i h; simp at h
        | cons y ys ih =>
          intro i h
          obtain ⟨ty, xy⟩ := y
          simp only [tkArgs, List.mem_append]
          cases i with
          | zero => simp at h; obtain ⟨rfl, rfl⟩ := h; left; simp [exwx]
          | succ i => right; exact ih (by simpa using h)
      exact gen h'
    have hne : r ∉ exwx tk0 x0 := fun hm => (List.nodup_append.1 hn).2.2 r hm r hmem rfl
    simp only [argIx, if_neg hne]
    rw [argIx_of (List.nodup_append.1 hn).2.1 h' ht]; congr 1; omega
structure PE (f f2 : IFn) (args : List (Bool × IA)) (pass exp : List (Nat × Nat × Nat)) : Prop where
  fpass : f2.pass = pass.map fun x => (x.2.2, x.2.1)
  fexp : f2.exp = exp.map fun x => (x.1, x.2.1)
  tk : (tkArgs args).Nodup
  tknt : ∀ t ∈ tkArgs args, t < f.nt
  hds : (pass.map (·.1) ++ exp.map (·.2.2)).Nodup
  hds2 : (pass.map (·.2.2) ++ exp.map (·.1)).Nodup
  lay1 : ∀ x ∈ pass, (x.1, x.2.1) ∈ f.lay
  lay2 : ∀ x ∈ exp, (x.2.2, x.2.1) ∈ f.lay
  apart : ((pass.map fun x => (x.2.2, x.1, x.2.1)) ++ exp.map fun x => (x.1, x.2.2, x.2.1)).Pairwise fun x y => x.1 + x.2.2 < y.1 ∨ y.1 + y.2.2 < x.1
  top : ∀ x ∈ (pass.map fun x => (x.2.2, x.1, x.2.1)) ++ exp.map fun x => (x.1, x.2.2, x.2.1), x.1 + x.2.2 < f2.total
def chkPE (f f2 : IFn) (args : List (Bool × IA)) (pass exp : List (Nat × Nat × Nat)) : Bool :=
  decide (f2.pass = pass.map fun x => (x.2.2, x.2.1)) && decide (f2.exp = exp.map fun x => (x.1, x.2.1)) && nodupB (tkArgs args) && (tkArgs args).all (fun t => Nat.blt t f.nt) &&
  nodupB (pass.map (·.1) ++ exp.map (·.2.2)) && nodupB (pass.map (·.2.2) ++ exp.map (·.1)) && pass.all (fun x => inLay f x.1 x.2.1) && exp.all (fun x => inLay f x.2.2 x.2.1) &&
  apartB ((pass.map fun x => (x.2.2, x.1, x.2.1)) ++ exp.map fun x => (x.1, x.2.2, x.2.1)) && ((pass.map fun x => (x.2.2, x.1, x.2.1)) ++ exp.map fun x => (x.1, x.2.2, x.2.1)).all (fun x => Nat.blt (x.1 + x.2.2) f2.total)
theorem chkPE_ok {f f2 : IFn} {args : List (Bool × IA)} {pass exp : List (Nat × Nat × Nat)} (h : chkPE f f2 args pass exp = true) : PE f f2 args pass exp := by
  unfold chkPE at h
  simp only [Bool.and_eq_true, decide_eq_true_eq, List.all_eq_true] at h
  obtain ⟨⟨⟨⟨⟨⟨⟨⟨⟨h1, h2⟩, h3⟩, h4⟩, h5⟩, h6⟩, h7⟩, h8⟩, h9⟩, h10⟩ := h
  exact ⟨h1, h2, nodupB_ok h3, fun t ht => nblt (h4 t ht), nodupB_ok h5, nodupB_ok h6, fun x hx => inLay_ok (h7 x hx), fun x hx => inLay_ok (h8 x hx), apartB_ok h9, fun x hx => nblt (h10 x hx)⟩
section
variable {P : Program} {T : Nat → Option IFn} {f f2 : IFn} {g : Gh} {w : World} {l : List AV} {a : Act} {K : Act → World → Prop} {Q : Exit → Act → World → Prop} {o : Oper} {R : Type} {r : R} {k : AV → List AV → Option R}
def rin (args : List (Bool × IA)) (pass : List (Nat × Nat × Nat)) : List Nat → Option (List Nat)
  | [] => none
  | t :: p => match argIx args 0 t with
    | some i => some (i :: p)
    | none => (cellMap (pass.map fun x => (x.1, x.2.2, x.2.1)) t).map (· :: p)
def ghIn (g : Gh) (args : List (Bool × IA)) (pass : List (Nat × Nat × Nat)) : Gh where
  φ h' := (look (pass.map fun x => (x.2.2, x.1)) h').bind g.φ
  ω B := match g.ω B with
    | some (.box h) => (look (fwd pass) h).map .box
    | some (.row L) => (rin args pass L).map .row
    | none => none
  fr := g.fr
  pin h' := (pass.map fun x => (x.2.2, x.2.1)).any fun x => Nat.beq x.1 h'
  yl := g.yl
def rout (pass exp : List (Nat × Nat × Nat)) (top : Nat) (dst : Option Nat) : List Nat → Option (List Nat)
  | [] => none
  | t :: p => if t = top then dst.map (· :: p) else (cellMap ((pass.map fun x => (x.2.2, x.1, x.2.1)) ++ exp.map fun x => (x.1, x.2.2, x.2.1)) t).map (· :: p)
def ghOut (g g2 g3 : Gh) (w : World) (pass exp : List (Nat × Nat × Nat)) (top : Nat) (dst : Option Nat) : Gh where
  φ h := match look (exp.map fun x => (x.2.2, x.1)) h with
    | some he => g3.φ he
    | none => g.φ h
  ω B := if B < w.heap.size ∧ g2.ω B = none then g.ω B else match g3.ω B with
    | some (.box h') => (look (bwd pass exp) h').map .box
    | some (.row L) => (rout pass exp top dst L).map .row
    | none => none
  fr := g3.fr
  pin := g.pin
  yl := g.yl
theorem look_fwd {pass : List (Nat × Nat × Nat)} {h h' : Nat} (hl : look (fwd pass) h = some h') : ∃ n, (h, n, h') ∈ pass := by
  have := look_mem hl
  unfold fwd at this
  obtain ⟨⟨x, n, y⟩, h1, h2⟩ := List.mem_map.1 this
  simp only [Prod.mk.injEq] at h2
  obtain ⟨rfl, rfl⟩ := h2
  exact ⟨n, h1⟩
set_option maxHeartbeats 4000000 in
theorem call_core (hl : LayOk f) (h : Rel f g w l a.tmps) (hd : DstOk f o.dst) {call : Nat → List AV → List (List AV) → Option Ret} (hcall : CallOk P T call) {id : Nat} (hT : T id = some f2) {args : List (Bool × IA)} {pass exp : List (Nat × Nat × Nat)}
    (hpe : PE f f2 args pass exp) {xs : List Operand} (hx : chkAs f xs (args.map (·.2)) = true) {more : List AV} {vm : List Value} (hml : vm.length = more.length) (hmv : ∀ (i : Nat) (b : AV) (v : Value), more[i]? = some b → vm[i]? = some v → b.strip = b ∧ Vc g w [] b v)
    (hrun : (execOp a.eval o).run P w = .ok (.enter f2.go (xs.map a.eval ++ vm).toArray) w)
    (hk : callK call id args pass exp more ((args.map (·.2)).map (rd l) ++ ((expHds exp).map (rd l) ++ (passAll pass).map (rd l))) k = some r)
    (H : Fin f g w l a o.dst (tkArgs args ++ passCells pass ++ expAll exp) k r K) : o.wp P a w K Q := by
  unfold callK at hk
  rw [List.map_map] at hk
  split at hk
  · cases hk
  rename_i as ls vs1 hav
  obtain ⟨rfl, hasl, hlsl, hasv, hlsv⟩ := argVals_ok (l := l) hav
  split at hk
  · cases hk
  rename_i vs2 hexp
  obtain ⟨rfl, hexpd⟩ := expDead_ok (l := l) hexp
  split at hk
  · cases hk
  rename_i cells hpv
  obtain ⟨hcl, hcells⟩ := passVals_ok (l := l) hpv
  split at hk
  rotate_left
  · cases hk
  rename_i as' cells' has' hcells'
  cases hret : call id as' cells' with
  | none => rw [hret] at hk; cases hk
  | some ret =>
  rw [hret, Option.bind_some] at hk
  split at hk
  rotate_left
  · cases hk
  rename_i v cs es hv hcs hes
  obtain ⟨hok, hk⟩ := cond_some hk
  simp only [Bool.and_eq_true] at hok
  obtain ⟨hok1, hok2⟩ := hok
  -- the places
  have hpr : ∀ x ∈ pass, f.nt ≤ x.1 ∧ x.1 + x.2.1 < f.total := fun x hx => hl.within _ _ (hpe.lay1 x hx)
  have hex : ∀ x ∈ exp, f.nt ≤ x.2.2 ∧ x.2.2 + x.2.1 < f.total := fun x hx => hl.within _ _ (hpe.lay2 x hx)
  have hnd1 : (pass.map (·.1)).Nodup := (List.nodup_append.1 hpe.hds).1
  have hnd2 : (exp.map (·.2.2)).Nodup := (List.nodup_append.1 hpe.hds).2.1
  have hnd12 : ∀ x ∈ pass, ∀ y ∈ exp, x.1 ≠ y.2.2 := fun x hx y hy => (List.nodup_append.1 hpe.hds).2.2 _ (List.mem_map.2 ⟨x, hx, rfl⟩) _ (List.mem_map.2 ⟨y, hy, rfl⟩)
  have hnd3 : (pass.map (·.2.2)).Nodup := (List.nodup_append.1 hpe.hds2).1
  have hpp : pass.Pairwise fun x y => x.1 + x.2.1 < y.1 ∨ y.1 + y.2.1 < x.1 := by
    have := hnd1
    unfold List.Nodup at this
    rw [List.pairwise_map] at this
    refine this.imp_of_mem fun hx hy hne => ?_
    rcases hl.apart _ _ _ _ (hpe.lay1 _ hx) (hpe.lay1 _ hy) with ⟨e, _⟩ | h
    · exact absurd e hne
    · exact h
  have hee : exp.Pairwise fun x y => x.2.2 + x.2.1 < y.2.2 ∨ y.2.2 + y.2.1 < x.2.2 := by
    have := hnd2
    unfold List.Nodup at this
    rw [List.pairwise_map] at this
    refine this.imp_of_mem fun hx hy hne => ?_
    rcases hl.apart _ _ _ _ (hpe.lay2 _ hx) (hpe.lay2 _ hy) with ⟨e, _⟩ | h
    · exact absurd e hne
    · exact h
  have hpe' : ∀ x ∈ pass, ∀ y ∈ exp, x.1 + x.2.1 < y.2.2 ∨ y.2.2 + y.2.1 < x.1 := fun x hx y hy => by
    rcases hl.apart _ _ _ _ (hpe.lay1 x hx) (hpe.lay2 y hy) with ⟨e, _⟩ | h
    · exact absurd e (hnd12 x hx y hy)
    · exact h
  have hpin : ((pass.map fun x => (x.1, x.2.2, x.2.1)) : List (Nat × Nat × Nat)).Pairwise fun x y => x.1 + x.2.2 < y.1 ∨ y.1 + y.2.2 < x.1 := by
    rw [List.pairwise_map]; exact hpp
  -- the callee's ghost
  let g2 := ghIn g args pass
  have hφin : ∀ h h' B, look (fwd pass) h = some h' → g.φ h = some B → g2.φ h' = some B := fun b b' B hlk hB => by
    obtain ⟨n, hm⟩ := look_fwd hlk
    have : look (pass.map fun x => (x.2.2, x.1)) b' = some b := look_of_mem (by rw [List.map_map]; exact hnd3) (List.mem_map.2 ⟨_, hm, rfl⟩)
    show (look (pass.map fun x => (x.2.2, x.1)) b').bind g.φ = some B
    rw [this]; exact hB
  have pin : PresC g w g2 w := ⟨fun _ _ _ _ h => h, fun _ n' _ _ _ h => ⟨n', h, Nat.le_refl _⟩⟩
  have hargIx : ∀ t, f.nt ≤ t → argIx args 0 t = none := fun t ht => argIx_none fun hm => by have := hpe.tknt t hm; omega
  have ownIn : ∀ {L L' : List Nat}, (∀ p, rin args pass (L ++ p) = some (L' ++ p)) → OwnSame g w g2 w L L' := fun {L L'} hL B p hp => by
    refine ⟨?_, rfl, rfl⟩
    show (match g.ω B with
      | some (.box h) => (look (fwd pass) h).map Own.box
      | some (.row L) => (rin args pass L).map Own.row
      | none => none) = _
    rw [hp]; simp [hL]
  have hevs : ∀ {xs : List Operand} {ias : List IA}, chkAs f xs ias = true → xs.length = ias.length ∧ ∀ (i : Nat) (x : Operand) (ia : IA), xs[i]? = some x → ias[i]? = some ia → chkA f x ia = true := by
    intro xs
    induction xs with
    | nil => intro ias hc; cases ias <;> simp [chkAs] at hc ⊢
    | cons x xs ih =>
      intro ias hc
      cases ias with
      | nil => simp [chkAs] at hc
      | cons ia ias =>
        simp only [chkAs, Bool.and_eq_true] at hc
        obtain ⟨h1, h2⟩ := ih hc.2
        refine ⟨by simp [h1], fun i y ja hy hj => ?_⟩
        cases i with
        | zero => simp at hy hj; subst hy; subst hj; exact hc.1
        | succ i => exact h2 i y ja (by simpa using hy) (by simpa using hj)
  obtain ⟨hxl, hxc⟩ := hevs hx
  have hxl' : xs.length = args.length := by simpa using hxl
  obtain ⟨htl, htr⟩ := trL2_ok has'
  obtain ⟨hcl2, hctr⟩ := trLL_ok hcells'
  have hbox : ∀ (k' b n b' : Nat), pass[k']? = some (b, n, b') → ∃ B arr ty, g.φ b = some B ∧ w.heap[B]? = some (.cells arr ty (0, 0)) ∧ arr.size = n ∧ g.ω B = some (.box b) ∧ g.fr B = some 0 ∧ (∀ j, j < n → Vc g w [b + 1 + j] (l.getD (b + 1 + j) .dead) (arr.getD j undef)) := fun k' b n b' hk' => by
    have hm : (b, n, b') ∈ pass := List.mem_of_getElem? hk'
    rcases h.boxes b n (hpe.lay1 _ hm) with ⟨h1, _⟩ | ⟨h1, B, cs', ty', h2, h3, h4, h5, h6, h7⟩
    · rw [(hcells k' b n b' hk').1] at h1; cases h1
    · exact ⟨B, cs', ty', h2, h3, h4, h5, h6, h7⟩
  have handed : Handed f2 as' cells' g2 w (xs.map a.eval ++ vm) := by
    refine ⟨?_, fun i b u hb hu => ?_, fun k' b n c hk' hc => ?_, fun b' B hB => ?_, fun b' => ?_, fun B hB => ?_⟩
    · rw [htl]; simp [hasl, hxl', hml]
    · obtain ⟨b0, hb0, hbt⟩ := htr i b hb
      by_cases hi : i < args.length
      · rw [List.getElem?_append_left (by rw [hasl]; exact hi)] at hb0
        rw [List.getElem?_append_left (by simp [hxl', hi])] at hu
        rcases hargi : args[i] with ⟨tk, ia⟩
        have hai : args[i]? = some (tk, ia) := by rw [List.getElem?_eq_getElem hi, hargi]
        have hasi := hasv i tk ia hai
        rw [hb0] at hasi
        cases hasi
        have hxi : xs[i]? = some xs[i] := List.getElem?_eq_getElem (by omega)
        rw [List.getElem?_map, hxi] at hu
        cases hu
        obtain ⟨L, hv, hs⟩ := rd_ok h (hxc i xs[i] ia hxi (by rw [List.getElem?_map, hai]; rfl))
        cases htk : tkS tk ia with
        | true =>
          rw [htk] at hbt
          obtain ⟨rfl, s, rfl⟩ := tkS_true htk
          obtain ⟨hs1, rfl, _⟩ := hs s rfl
          refine hv.tr hφin pin (.inr (ownIn fun p => ?_)) (tr3_2 hbt)
          show (match argIx args 0 s with
            | some i => some (i :: p)
            | none => _) = _
          rw [argIx_of hpe.tk hai htk]; simp
        | false =>
          rw [htk] at hbt
          cases ia with
          | s t =>
            cases tk with
            | true => cases htk
            | false => exact (hv.strip [i]).tr hφin pin (.inl (strip_strip _)) (tr3_2 hbt)
          | k c =>
            cases tk with
            | false => exact (hv.strip [i]).tr hφin pin (.inl (strip_strip _)) (tr3_2 hbt)
            | true =>
              have hck := hxc i xs[i] (.k c) hxi (by rw [List.getElem?_map, hai]; rfl)
              have hbt : tr2 _ c = some _ := hbt
              rw [k_tr hck hbt]
              exact .c (.c (rd_k hck a _ _ _))
      · rw [List.getElem?_append_right (by rw [hasl]; omega)] at hb0
        rw [List.getElem?_append_right (by simp [hxl']; omega)] at hu
        simp only [List.length_map, hxl'] at hu
        rw [hasl] at hb0
        obtain ⟨h1, h2⟩ := hmv _ b0 u hb0 hu
        have h3 : V3 g w [i] b0 u := by
          have := (V3.c (V2.c h2)).strip [i]
          rwa [h1] at this
        exact h3.tr hφin pin (.inl h1) (tr3_2 hbt)
    · rw [hpe.fpass, List.getElem?_map] at hk'
      cases hpk : pass[k']? with
      | none => rw [hpk] at hk'; cases hk'
      | some x =>
        obtain ⟨b0, n0, b'⟩ := x
        rw [hpk] at hk'
        simp only [Option.map_some, Option.some.injEq, Prod.mk.injEq] at hk'
        obtain ⟨rfl, rfl⟩ := hk'
        obtain ⟨c0, hc0, hct⟩ := hctr k' c hc
        rw [(hcells k' b0 n0 b' hpk).2] at hc0
        cases hc0
        obtain ⟨e1, e2⟩ := trL_ok hct
        rw [len_map_rng] at e1
        obtain ⟨B, arr, ty, h1, h2, h3, h4, h5, h6⟩ := hbox k' b0 n0 b' hpk
        have hm : (b0, n0, b') ∈ pass := List.mem_of_getElem? hpk
        have hlk : look (fwd pass) b0 = some b' := look_of_mem (by unfold fwd; rw [List.map_map]; exact hnd1) (List.mem_map.2 ⟨_, hm, rfl⟩)
        refine ⟨e1, B, hφin b0 b' B hlk h1, arr, ty, h2, h3, ?_, h5, fun j hj => ?_⟩
        · show (match g.ω B with
            | some (.box h) => (look (fwd pass) h).map Own.box
            | some (.row L) => (rin args pass L).map Own.row
            | none => none) = _
          rw [h4]; simp [hlk]
        · have hcj : c[j]? = some c[j] := List.getElem?_eq_getElem (by omega)
          obtain ⟨b1, hb1, hbt⟩ := e2 j c[j] hcj
          rw [get_map_rng _ hj] at hb1
          cases hb1
          rw [List.getD_eq_getElem?_getD, hcj]
          refine (h6 j hj).tr hφin pin (.inr (ownIn fun p => ?_)) hbt
          show (match argIx args 0 (b0 + 1 + j) with
            | some i => some (i :: p)
            | none => _) = _
          have := (hpr _ hm).1
          rw [hargIx _ (by simp only at this; omega)]
          show (cellMap (pass.map fun x => (x.1, x.2.2, x.2.1)) (b0 + 1 + j)).map (· :: p) = _
          rw [cellMap_of hpin (a := b0) (b := b') (n := n0) (List.mem_map.2 ⟨_, hm, rfl⟩) hj]; rfl
    · have hB' : (look (pass.map fun x => (x.2.2, x.1)) b').bind g.φ = some B := hB
      cases hlk : look (pass.map fun x => (x.2.2, x.1)) b' with
      | none => rw [hlk] at hB'; cases hB'
      | some b0 =>
        have := look_mem hlk
        obtain ⟨⟨x, n, y⟩, hm, e⟩ := List.mem_map.1 this
        simp only [Prod.mk.injEq] at e
        obtain ⟨rfl, rfl⟩ := e
        exact ⟨n, by rw [hpe.fpass]; exact List.mem_map.2 ⟨_, hm, rfl⟩⟩
    · rw [hpe.fpass]; rfl
    · have := h.fresh B hB
      refine ⟨?_, this.2⟩
      show (match g.ω B with
        | some (.box h) => (look (fwd pass) h).map Own.box
        | some (.row L) => (rin args pass L).map Own.row
        | none => none) = _
      rw [this.1]
  have hcalls := hcall.ok id f2 as' cells' ret hT hret g2 w _ handed
  unfold Oper.wp
  rw [hrun, Oper.upon_enter]
  refine hcalls.mono fun e w' ⟨u, g3, he, hb⟩ => ?_
  subst he
  -- behind the call
  let g4 := ghOut g g2 g3 w pass exp f2.total o.dst
  have hg2none : ∀ B, g.ω B = none → g2.ω B = none := fun B hB => by
    show (match g.ω B with
      | some (.box h) => (look (fwd pass) h).map Own.box
      | some (.row L) => (rin args pass L).map Own.row
      | none => none) = _
    rw [hB]
  have hω4 : ∀ B, g4.ω B = if B < w.heap.size ∧ g2.ω B = none then g.ω B else match g3.ω B with
    | some (.box h') => (look (bwd pass exp) h').map Own.box
    | some (.row L) => (rout pass exp f2.total o.dst L).map Own.row
    | none => none := fun B => rfl
  have hφ4 : ∀ b B, g.φ b = some B → g4.φ b = some B := fun b B hB => by
    show (match look (exp.map fun x => (x.2.2, x.1)) b with
      | some he => g3.φ he
      | none => g.φ b) = some B
    cases hlk : look (exp.map fun x => (x.2.2, x.1)) b with
    | none => exact hB
    | some he =>
      exfalso
      obtain ⟨⟨x, n, y⟩, hm, e⟩ := List.mem_map.1 (look_mem hlk)
      simp only [Prod.mk.injEq] at e
      obtain ⟨rfl, rfl⟩ := e
      rcases h.boxes _ _ (hpe.lay2 _ hm) with ⟨_, h2⟩ | ⟨h1, _⟩
      · rw [hB] at h2; cases h2
      · rw [hexpd _ hm] at h1; cases h1
  have e4 : Ext g w g4 w' := by
    refine ⟨hb.ext.os, hb.ext.tape, hb.ext.output, hb.ext.size, fun B hB ho => ?_, fun B j hB hj => hb.ext.cell B j hB hj, fun B n' hB hn => hb.ext.fr B n' hB hn, fun b B _ hB => hφ4 b B hB, rfl, rfl⟩
    obtain ⟨k1, k2, k3⟩ := hb.ext.out B hB (hg2none B ho)
    exact ⟨k1, by rw [hω4, if_pos ⟨hB, hg2none B ho⟩]; exact ho, k3⟩
  have p4 : Pres g w g4 w' := e4.pres hφ4
  -- what was not handed on
  have keepO : ∀ {L : List Nat}, (∀ p, rin args pass (L ++ p) = none) → OwnSame g w g4 w' L L := fun {L} hL B p hp => by
    have hB := ω_lt h hp
    have h2 : g2.ω B = none := by
      show (match g.ω B with
        | some (.box h) => (look (fwd pass) h).map Own.box
        | some (.row L) => (rin args pass L).map Own.row
        | none => none) = _
      rw [hp]; simp [hL]
    obtain ⟨k1, k2, k3⟩ := hb.ext.out B hB h2
    exact ⟨by rw [hω4, if_pos ⟨hB, h2⟩]; exact hp, k3, k1⟩
  -- what comes back
  have backω : ∀ B o', g3.ω B = some o' → g4.ω B = match some o' with
    | some (.box h') => (look (bwd pass exp) h').map Own.box
    | some (.row L) => (rout pass exp f2.total o.dst L).map Own.row
    | none => none := fun B o' ho' => by
    rw [hω4, if_neg (fun ⟨h1, h2⟩ => by have := (hb.ext.out B h1 h2).2.1; rw [ho'] at this; cases this), ho']
  have pout : PresC g3 w' g4 w' := ⟨fun _ _ _ _ h => h, fun _ n' _ _ _ h => ⟨n', h, Nat.le_refl _⟩⟩
  have ownOut : ∀ {L L' : List Nat}, (∀ p, rout pass exp f2.total o.dst (L ++ p) = some (L' ++ p)) → OwnSame g3 w' g4 w' L L' := fun {L L'} hL B p hp =>
    ⟨by rw [backω B _ hp]; simp [hL], rfl, rfl⟩
  have hbwdnd : ((bwd pass exp).map (·.1)).Nodup := by
    unfold bwd; rw [List.map_append, List.map_map, List.map_map]; exact hpe.hds2
  have hφout : ∀ b' b B, look (bwd pass exp) b' = some b → g3.φ b' = some B → g4.φ b = some B := fun b' b B hlk hB => by
    show (match look (exp.map fun x => (x.2.2, x.1)) b with
      | some he => g3.φ he
      | none => g.φ b) = some B
    have hm := look_mem hlk
    unfold bwd at hm
    rcases List.mem_append.1 hm with hm | hm
    · obtain ⟨⟨x, n, y⟩, hm2, e⟩ := List.mem_map.1 hm
      simp only [Prod.mk.injEq] at e
      obtain ⟨rfl, rfl⟩ := e
      have : look (exp.map fun x => (x.2.2, x.1)) x = none := look_none fun hh => by
        rw [List.map_map] at hh
        obtain ⟨z, hz, e⟩ := List.mem_map.1 hh
        exact hnd12 _ hm2 z hz e.symm
      rw [this]
      -- the callee keeps it
      obtain ⟨k', hk'⟩ := List.mem_iff_getElem?.1 hm2
      obtain ⟨B', arr, ty, h1, _⟩ := hbox k' x n y hk'
      have hlk2 : look (fwd pass) x = some y := look_of_mem (by unfold fwd; rw [List.map_map]; exact hnd1) (List.mem_map.2 ⟨_, hm2, rfl⟩)
      have h2 := hφin x y B' hlk2 h1
      have hpinned : g2.pin y = true := by
        show ((pass.map fun x => (x.2.2, x.2.1)).any fun z => Nat.beq z.1 y) = true
        exact List.any_eq_true.2 ⟨(y, n), List.mem_map.2 ⟨_, hm2, rfl⟩, by simp⟩
      have h3 := hb.ext.φ y B' hpinned h2
      rw [hB] at h3
      rw [h1, ← h3]
    · obtain ⟨⟨x, n, y⟩, hm2, e⟩ := List.mem_map.1 hm
      simp only [Prod.mk.injEq] at e
      obtain ⟨rfl, rfl⟩ := e
      have : look (exp.map fun x => (x.2.2, x.1)) y = some x := look_of_mem (by rw [List.map_map]; exact hnd2) (List.mem_map.2 ⟨_, hm2, rfl⟩)
      rw [this]; exact hB
  have hroutc : ∀ {a0 b0 n0 j : Nat} (p : List Nat), (a0, b0, n0) ∈ (pass.map fun x => (x.2.2, x.1, x.2.1)) ++ exp.map (fun x => (x.1, x.2.2, x.2.1)) → j < n0 → rout pass exp f2.total o.dst ((a0 + 1 + j) :: p) = some ((b0 + 1 + j) :: p) := fun {a0 b0 n0 j} p hm hj => by
    have := hpe.top _ hm
    simp only at this
    show (if a0 + 1 + j = f2.total then o.dst.map (· :: p) else (cellMap _ (a0 + 1 + j)).map (· :: p)) = _
    rw [if_neg (by omega), cellMap_of hpe.apart hm hj]; rfl
  -- the new frame
  have htkl : ∀ t ∈ tkArgs args, t < l.length := fun t ht => by rw [h.len]; exact Nat.lt_of_lt_of_le (hpe.tknt t ht) hl.nt
  let l1 := setMany l (tkArgs args) ls
  let l2 := setMany l1 (passCells pass) cs.flatten
  let l3 := setMany l2 (expAll exp) (expOut exp es)
  have hl1 : l1.length = l.length := len_setMany _ _ _
  have hl2 : l2.length = l.length := (len_setMany _ _ _).trans hl1
  have hl3 : l3.length = l.length := (len_setMany _ _ _).trans hl2
  have hcsl : cs.flatten.length = (passCells pass).length := by
    clear hl3 l3 hl2 l2
    have : ∀ {ps : List (Nat × Nat × Nat)} {qs : List (List AV)}, okLens (ps.map (·.2.1)) qs = true → qs.flatten.length = (passCells ps).length := by
      intro ps
      induction ps with
      | nil => intro qs hq; cases qs <;> simp [okLens] at hq; rfl
      | cons y ys ih =>
        intro qs hq
        obtain ⟨b, n, b'⟩ := y
        cases qs with
        | nil => simp [okLens] at hq
        | cons q qs =>
          simp only [List.map_cons, okLens, Bool.and_eq_true] at hq
          have := nbeq hq.1
          simp only [List.flatten_cons, List.length_append, passCells, rng_len, ih hq.2, this]
    exact this hok1
  have hfin : setMany l (tkArgs args ++ passCells pass ++ expAll exp) (ls ++ (cs.flatten ++ expOut exp es)) = l3 := by
    rw [← List.append_assoc, setMany_append _ _ _ _ _ (by simp only [List.length_append, hlsl, hcsl]), setMany_append _ _ _ _ _ hlsl]
  have hpl : ∀ x ∈ pass, x.1 + x.2.1 < l1.length := fun x hx => by rw [hl1, h.len]; exact (hpr x hx).2
  have hel : ∀ x ∈ exp, x.2.2 + x.2.1 < l2.length := fun x hx => by rw [hl2, h.len]; exact (hex x hx).2
  have outP : ∀ {t}, (∀ x ∈ pass, ¬ (x.1 + 1 ≤ t ∧ t < x.1 + 1 + x.2.1)) → (∀ x ∈ exp, ¬ (x.2.2 ≤ t ∧ t < x.2.2 + (x.2.1 + 1))) → l3.getD t .dead = l1.getD t .dead := fun {t} h1 h2 => by
    show (setMany l2 (expAll exp) (expOut exp es)).getD t .dead = _
    rw [setMany_out _ _ _ (fun hm => by obtain ⟨x, hx, k1, k2⟩ := mem_expAll.1 hm; exact h2 x hx ⟨k1, k2⟩)]
    show (setMany l1 (passCells pass) cs.flatten).getD t .dead = _
    rw [setMany_out _ _ _ (fun hm => by obtain ⟨x, hx, k1, k2⟩ := mem_passCells.1 hm; exact h1 x hx ⟨k1, k2⟩)]
  have slot_out : ∀ {t}, t < f.nt → l3.getD t .dead = l1.getD t .dead := fun {t} ht => outP (fun x hx => by have := (hpr x hx).1; omega) (fun x hx => by have := (hex x hx).1; omega)
  have hl1in : ∀ t ∈ tkArgs args, l1.getD t .dead = (l.getD t .dead).strip := fun t ht => tk_get (ls := ls) hlsl hlsv htkl t ht
  have hl1out : ∀ t, t ∉ tkArgs args → l1.getD t .dead = l.getD t .dead := fun t ht => setMany_out _ _ _ ht
  -- unchanged places
  have rinNone : ∀ t, t ∉ tkArgs args → (∀ x ∈ pass, ¬ (x.1 + 1 ≤ t ∧ t < x.1 + 1 + x.2.1)) → ∀ p, rin args pass ([t] ++ p) = none := fun t h1 h2 p => by
    show (match argIx args 0 t with
      | some i => some (i :: p)
      | none => (cellMap (pass.map fun x => (x.1, x.2.2, x.2.1)) t).map (· :: p)) = none
    rw [argIx_none h1, cellMap_none fun x hx => by
      obtain ⟨y, hy, rfl⟩ := List.mem_map.1 hx
      exact h2 y hy]; rfl
  have keep3 : ∀ t, (∀ x ∈ pass, ¬ (x.1 + 1 ≤ t ∧ t < x.1 + 1 + x.2.1)) → ∀ {v' : Value}, V3 g w [t] (l.getD t .dead) v' → V3 g4 w' [t] (l1.getD t .dead) v' := fun t h2 {v'} hv' => by
    by_cases h1 : t ∈ tkArgs args
    · rw [hl1in t h1]; exact hv'.moveC p4 _
    · rw [hl1out t h1]; exact hv'.move p4 (keepO (rinNone t h1 h2))
  have keepc : ∀ t, f.nt ≤ t → (∀ x ∈ pass, ¬ (x.1 + 1 ≤ t ∧ t < x.1 + 1 + x.2.1)) → ∀ {v' : Value}, Vc g w [t] (l.getD t .dead) v' → Vc g4 w' [t] (l.getD t .dead) v' := fun t h0 h2 {v'} hv' =>
    hv'.move p4 (keepO (rinNone t (fun hm => by have := hpe.tknt t hm; omega) h2))
  have hR : Rel f g4 w' l3 a.tmps := by
    refine ⟨hl3.trans h.len, h.size, fun t ht => ?_, fun b n hb' => ?_, fun B hB => ?_⟩
    · rw [slot_out ht]
      exact keep3 t (fun x hx => by have := (hpr x hx).1; omega) (h.slots t ht)
    · have hwb := hl.within b n hb'
      by_cases hbp : ∃ x ∈ pass, x.1 = b
      · obtain ⟨⟨b0, n0, b'⟩, hm, rfl⟩ := hbp
        have hlay0 := hpe.lay1 _ hm
        have : n = n0 := by
          rcases hl.apart _ _ _ _ hb' hlay0 with ⟨_, e⟩ | h
          · exact e
          · simp only at h; omega
        subst this
        obtain ⟨k', hk'⟩ := List.mem_iff_getElem?.1 hm
        obtain ⟨B, arr, ty, h1, h2, h3, h4, h5, h6⟩ := hbox k' b0 n b' hk'
        -- the callee's word on it
        have hk2 : f2.pass[k']? = some (b', n) := by rw [hpe.fpass, List.getElem?_map, hk']; rfl
        obtain ⟨hcsl', hcstr⟩ := trLL_ok hcs
        have hlen1 : cs.length = pass.length := by
          have : ∀ {ns : List Nat} {qs : List (List AV)}, okLens ns qs = true → qs.length = ns.length := by
            intro ns
            induction ns with
            | nil => intro qs hq; cases qs <;> simp [okLens] at hq ⊢
            | cons y ys ih => intro qs hq; cases qs with
              | nil => simp [okLens] at hq
              | cons q qs => simp only [okLens, Bool.and_eq_true] at hq; simp [ih hq.2]
          simpa using this hok1
        have hkl : k' < pass.length := lt_of_getq hk'
        have hck : cs[k']? = some cs[k'] := List.getElem?_eq_getElem (by omega)
        obtain ⟨c0, hc0, hct⟩ := hcstr k' cs[k'] hck
        obtain ⟨B', hbat⟩ := hb.cells k' b' n c0 hk2 hc0
        obtain ⟨hφ', arr', ty', q1, q2, q3, q4, q5⟩ := hbat
        have hlk : look (bwd pass exp) b' = some b0 := look_of_mem hbwdnd (List.mem_append.2 (.inl (List.mem_map.2 ⟨_, hm, rfl⟩)))
        obtain ⟨e1, e2⟩ := trL_ok hct
        obtain ⟨hcl3, hget⟩ := pass_get (l0 := l1) hok1 hpl hpp k' b0 n b' cs[k'] hk' hck
        refine .inr ⟨?_, B', arr', ty', hφout b' b0 B' hlk hφ', q1, q2, by rw [backω B' _ q3]; simp [hlk], q4, fun j hj => ?_⟩
        · rw [outP (fun x hx hin => ?_) (fun x hx hin => ?_), hl1out _ (fun hm' => by have := hpe.tknt _ hm'; omega)]
          · exact (hcells k' b0 n b' hk').1
          · rcases hl.apart _ _ _ _ hlay0 (hpe.lay1 x hx) with ⟨e, _⟩ | hh
            · simp only at e; omega
            · simp only at hh; omega
          · have := hpe' _ hm x hx
            simp only at this; omega
        · have hgj : l3.getD (b0 + 1 + j) .dead = cs[k'].getD j .dead := by
            show (setMany l2 (expAll exp) (expOut exp es)).getD (b0 + 1 + j) .dead = _
            rw [setMany_out _ _ _ (fun hm' => by
              obtain ⟨x, hx, k1, k2⟩ := mem_expAll.1 hm'
              have := hpe' _ hm x hx
              simp only at this; omega)]
            exact hget j hj
          rw [hgj]
          have hcj : cs[k'][j]? = some cs[k'][j] := List.getElem?_eq_getElem (by omega)
          obtain ⟨b1, hb1, hbt⟩ := e2 j cs[k'][j] hcj
          rw [List.getD_eq_getElem?_getD, hcj]
          have h5' := q5 j hj
          rw [List.getD_eq_getElem?_getD, hb1] at h5'
          exact h5'.tr hφout pout (.inr (ownOut fun p => hroutc p (List.mem_append.2 (.inl (List.mem_map.2 ⟨_, hm, rfl⟩))) hj)) hbt
      · by_cases hbe : ∃ x ∈ exp, x.2.2 = b
        · obtain ⟨⟨b', n0, b0⟩, hm, rfl⟩ := hbe
          have hlay0 := hpe.lay2 _ hm
          have : n = n0 := by
            rcases hl.apart _ _ _ _ hb' hlay0 with ⟨_, e⟩ | h
            · exact e
            · simp only at h; omega
          subst this
          obtain ⟨k', hk'⟩ := List.mem_iff_getElem?.1 hm
          have hk2 : f2.exp[k']? = some (b', n) := by rw [hpe.fexp, List.getElem?_map, hk']; rfl
          obtain ⟨hesl', hestr⟩ := trLL_ok hes
          have hlen1 : es.length = exp.length := by
            have : ∀ {ns : List Nat} {qs : List (List AV)}, okLens ns qs = true → qs.length = ns.length := by
              intro ns
              induction ns with
              | nil => intro qs hq; cases qs <;> simp [okLens] at hq ⊢
              | cons y ys ih => intro qs hq; cases qs with
                | nil => simp [okLens] at hq
                | cons q qs => simp only [okLens, Bool.and_eq_true] at hq; simp [ih hq.2]
            simpa using this hok2
          have hkl : k' < exp.length := lt_of_getq hk'
          have hck : es[k']? = some es[k'] := List.getElem?_eq_getElem (by omega)
          obtain ⟨c0, hc0, hct⟩ := hestr k' es[k'] hck
          obtain ⟨B', hbat⟩ := hb.exp k' b' n c0 hk2 hc0
          obtain ⟨hφ', arr', ty', q1, q2, q3, q4, q5⟩ := hbat
          have hlk : look (bwd pass exp) b' = some b0 := look_of_mem hbwdnd (List.mem_append.2 (.inr (List.mem_map.2 ⟨_, hm, rfl⟩)))
          obtain ⟨e1, e2⟩ := trL_ok hct
          obtain ⟨hcl3, hhd, hget⟩ := exp_get (l0 := l2) hok2 hel hee k' b' n b0 es[k'] hk' hck
          refine .inr ⟨hhd, B', arr', ty', hφout b' b0 B' hlk hφ', q1, q2, by rw [backω B' _ q3]; simp [hlk], q4, fun j hj => ?_⟩
          show Vc g4 w' [b0 + 1 + j] ((setMany l2 (expAll exp) (expOut exp es)).getD (b0 + 1 + j) .dead) _
          rw [hget j hj]
          have hcj : es[k'][j]? = some es[k'][j] := List.getElem?_eq_getElem (by omega)
          obtain ⟨b1, hb1, hbt⟩ := e2 j es[k'][j] hcj
          rw [List.getD_eq_getElem?_getD, hcj]
          have h5' := q5 j hj
          rw [List.getD_eq_getElem?_getD, hb1] at h5'
          exact h5'.tr hφout pout (.inr (ownOut fun p => hroutc p (List.mem_append.2 (.inr (List.mem_map.2 ⟨_, hm, rfl⟩))) hj)) hbt
        · -- a variable that was not handed on
          have hfar : ∀ t, b ≤ t → t ≤ b + n → (∀ x ∈ pass, ¬ (x.1 + 1 ≤ t ∧ t < x.1 + 1 + x.2.1)) ∧ (∀ x ∈ exp, ¬ (x.2.2 ≤ t ∧ t < x.2.2 + (x.2.1 + 1))) := fun t ht1 ht2 => by
            refine ⟨fun x hx hin => ?_, fun x hx hin => ?_⟩
            · rcases hl.apart _ _ _ _ hb' (hpe.lay1 x hx) with ⟨e, _⟩ | hh
              · exact hbp ⟨x, hx, e.symm⟩
              · omega
            · rcases hl.apart _ _ _ _ hb' (hpe.lay2 x hx) with ⟨e, _⟩ | hh
              · exact hbe ⟨x, hx, e.symm⟩
              · omega
          have hgt : ∀ t, b ≤ t → t ≤ b + n → l3.getD t .dead = l.getD t .dead := fun t ht1 ht2 => by
            rw [outP (hfar t ht1 ht2).1 (hfar t ht1 ht2).2, hl1out _ (fun hm' => by have := hpe.tknt _ hm'; omega)]
          have hlkn : look (exp.map fun x => (x.2.2, x.1)) b = none := look_none fun hh => by
            rw [List.map_map] at hh
            obtain ⟨z, hz, e⟩ := List.mem_map.1 hh
            exact hbe ⟨z, hz, e⟩
          have hφb : g4.φ b = g.φ b := by
            show (match look (exp.map fun x => (x.2.2, x.1)) b with
              | some he => g3.φ he
              | none => g.φ b) = _
            rw [hlkn]
          rcases h.boxes b n hb' with ⟨h1, h2⟩ | ⟨h1, B, cs', ty', h2, h3, h4, h5, h6, h7⟩
          · exact .inl ⟨by rw [hgt b (Nat.le_refl _) (by omega)]; exact h1, by rw [hφb]; exact h2⟩
          · have hB := ω_lt h h5
            have hg2 : g2.ω B = none := by
              show (match g.ω B with
                | some (.box h) => (look (fwd pass) h).map Own.box
                | some (.row L) => (rin args pass L).map Own.row
                | none => none) = _
              rw [h5]
              have : look (fwd pass) b = none := look_none fun hh => by
                unfold fwd at hh
                rw [List.map_map] at hh
                obtain ⟨z, hz, e⟩ := List.mem_map.1 hh
                exact hbp ⟨z, hz, e⟩
              simp [this]
            obtain ⟨k1, k2, k3⟩ := hb.ext.out B hB hg2
            refine .inr ⟨by rw [hgt b (Nat.le_refl _) (by omega)]; exact h1, B, cs', ty', by rw [hφb]; exact h2, k1.trans h3, h4, by rw [hω4, if_pos ⟨hB, hg2⟩]; exact h5, k3.trans h6, fun j hj => ?_⟩
            rw [hgt _ (by omega) (by omega)]
            exact keepc _ (by omega) (hfar _ (by omega) (by omega)).1 (h7 j hj)
    · have := hb.fresh B hB
      have hlt : ¬ B < w.heap.size := by have := hb.ext.size; omega
      exact ⟨by rw [hω4, if_neg (fun e => hlt e.1), this.1], this.2⟩
  refine H v _ u g4 w' hk ?_ e4
  rw [hfin]
  refine hR.put hl hd fun d hdd => ?_
  refine hb.res.tr hφout pout (.inr (ownOut fun p => ?_)) hv
  show (if f2.total = f2.total then o.dst.map (· :: p) else _) = _
  rw [if_pos rfl, hdd]; rfl
end
end Go.Proofs.Ytafnmkbehjbkdaa.M
