/- An iterator's code: its regions call the yield. -/
import Derived.Test.YtafnmkbehjbkdaaMachQa
set_option linter.unusedVariables false
set_option linter.unusedSimpArgs false
namespace Go.Proofs.Ytafnmkbehjbkdaa.M
open Go Go.RowKit
def YOk {R : Type} (P : Program) (f : IFn) (r : R) (Y : List AV → List AV → (List AV → Option R) → Option R) (g : Gh) (w : World) : Prop :=
  ∀ g1 w1, Ext g w g1 w1 → ∀ (lc : List AV) (tms : Array Value) (args : List AV) (vals : List Value) (K : List AV → Option R) (R' : Ending → World → Prop),
    Rel f g1 w1 lc tms → vals.length = args.length → (∀ (i : Nat) (a : AV) (v : Value), args[i]? = some a → vals[i]? = some v → ∃ L, V3 g1 w1 L a v ∧ a.strip = a) → Y args lc K = some r →
    (∀ lc' g' w', K lc' = some r → Rel f g' w' lc' tms → Ext g1 w1 g' w' → R' (.returned (.bool true)) w') →
    ∃ fn tms' asg body, (Instr.yield g.yl vals.toArray).run P w1 = .ok (.round g.yl fn tms' asg body) w1 ∧ ∀ n, RoundIn Fence.wide n P g.yl fn tms' asg body w1 R'
theorem YOk.step {R : Type} {P : Program} {f : IFn} {r : R} {Y : List AV → List AV → (List AV → Option R) → Option R} {g g' : Gh} {w w' : World} (h : YOk P f r Y g w) (he : Ext g w g' w') : YOk P f r Y g' w' := fun g1 w1 h1 => by
  rw [he.yl]; exact h g1 w1 (he.trans h1)
def chkY (f : IFn) (ops : Array Oper) (o : Oper) (cal : IA) (args : List IA) (gd : Option (Nat × Bool)) (dst : Nat) : Bool :=
  optEq o.dst (some dst) && Nat.blt dst f.nt && chkGd ops f o ⟨some dst, .nil cal, gd, false⟩ && (match o.op with
    | .call c => match c.callee with
      | .value x => chkA f x cal && chkAs f c.args.toList args
      | _ => false
    | _ => false)
def chkI (P : Program) (T : Nat → Option IFn) (f : IFn) (px : List Nat) : IC → Code → Bool
  | .clr xs hs b, c => xs.all (fun t => Nat.blt t f.nt) && hs.all (fun x => inLay f x.1 x.2 && !inPx px x.1) && chkI P T f px b c
  | .fin b xs hs, c => xs.all (fun t => Nat.blt t f.nt) && hs.all (fun x => inLay f x.1 x.2 && !inPx px x.1) && chkI P T f px b c
  | .stuck, _ => true
  | .skip, c => match pl false c with
    | .skip => true
    | .label _ => true
    | _ => false
  | .reg ios, c => match pl false c with
    | .region _ ops draw => chkRegR P T f false ops draw ios
    | _ => false
  | .seq x y, c => match pl false c with
    | .seq a b => chkI P T f px x a && chkI P T f px y b
    | _ => false
  | .cond ic x y, c => match pl false c with
    | .cond o a b => chkA f o ic && chkI P T f px x a && chkI P T f px y b
    | _ => false
  | .blk id x, c => match pl false c with
    | .block id' b => Nat.beq id' id && chkI P T f px x b
    | _ => false
  | .loop x, c => match pl false c with
    | .loop b => chkI P T f px x b
    | _ => false
  | .exit id, c => match pl false c with
    | .exit id' => Nat.beq id' id
    | _ => false
  | .ret, c => match pl false c with
    | .ret => true
    | _ => false
  | .yreg pre cal args gd dst post, c => match pl false c with
    | .region _ ops false => chkIOs P T f ops (ops.toList.take pre.length) pre && ops.toList.all notDefer && (match ops.toList.drop pre.length with
      | yo :: po => chkY f ops yo cal args gd dst && chkIOs P T f ops po post
      | [] => false)
    | _ => false
  | .rfn .., _ | .brw .., _ | .plug .., _ | .wk .., _ => false
section
variable {P : Program} {T : Nat → Option IFn} {f : IFn} {R : Type} {r : R} {call : Nat → List AV → List (List AV) → Option Ret}
theorem pl_in0 {c : Code} {Q : Exit → Act → World → Prop} {a : Act} {w : World} (h : (pl false c).wpIn (Fo none) 0 P (Exit.noGoto Q) a w) : c.wpIn (Fo none) 0 P Q a w := pl_in (ro := none) h
theorem _root_.Go.Proofs.Ytafnmkbehjbkdaa.M.V3.yld_inv {g : Gh} {w : World} {L : List Nat} {u : Value} (h : V3 g w L .yld u) : u = .func (.yield g.yl) #[] #[] := by
  cases h with
  | c h => cases h with
    | c h => cases h with
      | of0 h0 => cases h0
      | yld y hy => rw [hy]
theorem guard_in {g : Gh} {w : World} {l : List AV} {a : Act} {ops : Array Oper} {o : Oper} {io : IStep} (h : Rel f g w l a.tmps) (h3 : chkGd ops f o io = true) {run skip : Option R} (hk : yGuard io.guard l run skip = some r) :
    (Region.wanted o (yielded ops a.tmps) = true ∧ run = some r) ∨ (Region.wanted o (yielded ops a.tmps) = false ∧ skip = some r) := by
  unfold chkGd at h3
  unfold yGuard at hk
  split at h3
  · rename_i hg hig
    rw [hig] at hk
    exact .inl ⟨by unfold Region.wanted; rw [hg], hk⟩
  · rename_i j want s want' hg hig
    rw [hig] at hk
    simp only [Bool.and_eq_true, beq_iff_eq] at h3
    obtain ⟨rfl, h3⟩ := h3
    split at h3 <;> try cases h3
    rename_i oj hoj
    split at h3 <;> try cases h3
    rename_i d hjd
    simp only [Bool.and_eq_true] at h3
    have := nbeq h3.1; subst this
    have hdt := nblt h3.2
    have hy : ∀ b, l.getD d .dead = .sc (.bool b) → yielded ops a.tmps j = some b := fun b hb => by
      have hv := h.slots d hdt
      rw [hb] at hv
      have e := hv.bool_inv
      have hsz : d < a.tmps.size := by rw [h.size]; exact hdt
      have e2 : a.tmps[d]? = some (.bool b) := by
        rw [Array.getD_eq_getD_getElem?] at e
        rw [Array.getElem?_eq_getElem hsz] at e ⊢
        simpa using e
      simp [yielded, hoj, hjd, e2]
    simp only at hk
    cases hv : l.getD d .dead with
    | sc v => cases v with
      | bool b =>
        rw [hv] at hk
        have hw : Region.wanted o (yielded ops a.tmps) = (b == want) := by
          unfold Region.wanted; rw [hg]
          simp only [hy b hv]
          cases b <;> cases want <;> rfl
        rw [hw]
        cases b <;> cases want <;> simp only [cond_true, cond_false] at hk
        · exact .inl ⟨rfl, hk⟩
        · exact .inr ⟨rfl, hk⟩
        · exact .inr ⟨rfl, hk⟩
        · exact .inl ⟨rfl, hk⟩
      | _ => rw [hv] at hk; cases hk
    | tup vs => cases vs with
      | nil =>
        rw [hv] at hk
        have hs := h.slots d hdt
        rw [hv] at hs
        obtain ⟨us, hu, hlen, _⟩ := hs.tup_inv
        have hus : us = [] := List.eq_nil_of_length_eq_zero hlen.symm
        subst hus
        have hsz : d < a.tmps.size := by rw [h.size]; exact hdt
        have e2 : a.tmps[d]? = some (.tuple #[]) := by
          rw [Array.getD_eq_getD_getElem?] at hu
          rw [Array.getElem?_eq_getElem hsz] at hu ⊢
          simpa using hu
        have hw : Region.wanted o (yielded ops a.tmps) = false := by
          unfold Region.wanted; rw [hg]
          have : yielded ops a.tmps j = none := by simp [yielded, hoj, hjd, e2]
          simp only [this]; rfl
        exact .inr ⟨hw, hk⟩
      | cons => rw [hv] at hk; cases hk
    | _ => rw [hv] at hk; cases hk
  · cases h3
theorem chkAs_get : ∀ {xs : List Operand} {ias : List IA}, chkAs f xs ias = true → xs.length = ias.length ∧ ∀ (i : Nat) (x : Operand) (ia : IA), xs[i]? = some x → ias[i]? = some ia → chkA f x ia = true
  | [], [], _ => ⟨rfl, fun i x ia h => by simp at h⟩
  | [], _ :: _, h => by cases h
  | _ :: _, [], h => by cases h
  | x :: xs, ia :: ias, h => by
    simp only [chkAs, Bool.and_eq_true] at h
    obtain ⟨h1, h2⟩ := chkAs_get h.2
    refine ⟨by simp [h1], fun i y ib hy hib => ?_⟩
    cases i with
    | zero => simp at hy hib; subst hy hib; exact h.1
    | succ i => exact h2 i y ib (by simpa using hy) (by simpa using hib)
theorem yield_in (hl : LayOk f) {Y : List AV → List AV → (List AV → Option R) → Option R} {g : Gh} {w : World} {l : List AV} {a : Act} (hY : YOk P f r Y g w) (h : Rel f g w l a.tmps) {ops : Array Oper} {o : Oper} {po : List Oper} {cal : IA} {args : List IA} {gd : Option (Nat × Bool)} {dst : Nat}
    (hc : chkY f ops o cal args gd dst = true) {K : List AV → Option R} {Q : Exit → Act → World → Prop} (hk : yGuard gd l (yRun Y cal args dst l K) (K (l.set dst (.tup []))) = some r)
    (H : ∀ l2 g2 w2 a2, K l2 = some r → Rel f g2 w2 l2 a2.tmps → Ext g w g2 w2 → a2.defers = a.defers → wpListIn (Fo none) 0 P ops Q po a2 w2) : wpListIn (Fo none) 0 P ops Q (o :: po) a w := by
  unfold chkY at hc
  simp only [Bool.and_eq_true] at hc
  obtain ⟨⟨⟨h1, h2⟩, h3⟩, h4⟩ := hc
  have hdst := optEq_ok h1
  have hd := nblt h2
  show if Region.wanted o (yielded ops a.tmps) then o.wpIn (Fo none) 0 P a w (wpListIn (Fo none) 0 P ops Q po) Q
    else (∀ f, o.about P w a.eval = some f → (Fo none).fn f) ∧ wpListIn (Fo none) 0 P ops Q po (a.put o.dst undef) w
  have hput : ∀ u, a.put o.dst u = { a with tmps := a.tmps.setIfInBounds dst u } := fun u => by rw [hdst]; rfl
  rcases guard_in h h3 hk with ⟨hw, hrun⟩ | ⟨hw, hskip⟩
  · rw [if_pos hw]
    split at h4 <;> try cases h4
    rename_i c hop
    split at h4 <;> try cases h4
    rename_i x hcal
    simp only [Bool.and_eq_true] at h4
    unfold yRun at hrun
    split at hrun <;> try cases hrun
    rename_i hyl
    obtain ⟨L, hv, _⟩ := rd_ok h h4.1
    rw [hyl] at hv
    have hu : a.eval x = .func (.yield g.yl) #[] #[] := hv.yld_inv
    obtain ⟨hlen, hget⟩ := chkAs_get h4.2
    obtain ⟨fn, tms', asg, body, hrunY, hround⟩ := hY g w (Ext.refl _ _) l a.tmps (args.map fun x => (rd l x).strip) (c.args.toList.map a.eval) _
      (fun e w'' => match e with
        | .returned v => wpListIn (Fo none) 0 P ops Q po (a.put o.dst v) w''
        | .panicked chain => Q (.panic chain) a w''
        | .outgrown => LetsOut Q) h (by simpa using hlen) (fun i b v hb hv => by
        rw [List.getElem?_map] at hb hv
        cases hi : args[i]? with
        | none => rw [hi] at hb; cases hb
        | some ia =>
          cases hj : c.args.toList[i]? with
          | none => rw [hj] at hv; cases hv
          | some xo =>
            rw [hi] at hb; rw [hj] at hv; cases hb; cases hv
            obtain ⟨L, hq, _⟩ := rd_ok h (hget i xo ia hj hi)
            exact ⟨L, hq.strip L, strip_strip _⟩) hrun (fun lc' g' w' hK hR' he' => by
        show wpListIn (Fo none) 0 P ops Q po (a.put o.dst (.bool true)) w'
        rw [hput]
        exact H _ g' w' _ hK (hR'.setSlot hl hd (.sc rfl)) he' rfl)
    refine ⟨fun f _ => fo_fn none f, ?_⟩
    have hex : (o.semAt (Fo none).round a.eval).run P w = (Instr.yield g.yl (c.args.toList.map a.eval).toArray).run P w := by
      rw [fo_round, Oper.semAt_none]
      have e2 : (c.args.toList.map a.eval).toArray = c.args.map a.eval := by apply Array.ext'; simp
      rw [e2]
      simp only [execOp, hop, resolve, hcal, hu, Deferred.ofValue, invoke]
      simp [invoke]
    rw [hex, hrunY]
    refine ⟨fun e => (by cases e), (hround _).mono fun e w'' he => ?_⟩
    cases e <;> exact he
  · rw [if_neg (by rw [hw]; simp)]
    refine ⟨fun f _ => fo_fn none f, ?_⟩
    rw [hput]
    exact H _ g w _ hskip (h.setSlot hl hd (.tup [] [] rfl fun i a v hi => by simp at hi)) (Ext.refl _ _) rfl
theorem execI_in (hl : LayOk f) (hcall : CallOk P T call) (px : List Nat) (n : Nat) {Y : List AV → List AV → (List AV → Option R) → Option R} : ∀ (ic : IC) (c : Code) (l : List AV) (k : Ex → List AV → Option R) (g : Gh) (w : World) (a : Act) (Q : Exit → Act → World → Prop), chkI P T f px ic c = true →
    (∀ h, inPx px h = false → g.pin h = false) → YOk P f r Y g w → Rel f g w l a.tmps → execI call n Y ic l k = some r → Does f g w a k r Q → c.wpIn (Fo none) 0 P Q a w := by
  intro ic
  induction ic with
  | stuck =>
    intro c l k g w a Q hc hp hY h hk H
    simp only [execI] at hk
    cases hk
  | brw s b ih =>
    intro c l k g w a Q hc hp hY h hk H
    cases hc
  | plug sz bytes =>
    intro c l k g w a Q hc hp hY h hk H
    cases hc
  | wk xs b ih =>
    intro c l k g w a Q hc hp hY h hk H
    cases hc
  | clr xs hs b ih =>
    intro c l k g w a Q hc hp hY h hk H
    simp only [chkI, Bool.and_eq_true] at hc
    obtain ⟨⟨h1, h2⟩, h3⟩ := hc
    simp only [execI] at hk
    split at hk
    · rename_i l' hcl
      have h2' : ∀ x ∈ hs, (x.1, x.2) ∈ f.lay ∧ g.pin x.1 = false := fun x hx => by
        have := List.all_eq_true.1 h2 x hx
        simp only [Bool.and_eq_true, Bool.not_eq_true'] at this
        exact ⟨inLay_ok this.1, hp _ this.2⟩
      obtain ⟨g', hR, he⟩ := clear_ok hl h (fun t ht => nblt (List.all_eq_true.1 h1 t ht)) (fun x hx => (h2' x hx).1) (fun x hx => (h2' x hx).2) hcl
      exact ih c l' k g' w a Q h3 (pin_step he hp) (hY.step he) hR hk (H.trans he (.of_eq rfl))
    · cases hk
  | fin b xs hs ih =>
    intro c l k g w a Q hc hp hY h hk H
    simp only [chkI, Bool.and_eq_true] at hc
    obtain ⟨⟨h1, h2⟩, h3⟩ := hc
    simp only [execI] at hk
    refine ih c l _ g w a Q h3 hp hY h hk fun e l' g' w' a' hk' hR he hd => ?_
    cases e with
    | norm =>
      simp only at hk'
      split at hk'
      · rename_i l2 hcl
        have h2' : ∀ x ∈ hs, (x.1, x.2) ∈ f.lay ∧ g'.pin x.1 = false := fun x hx => by
          have := List.all_eq_true.1 h2 x hx
          simp only [Bool.and_eq_true, Bool.not_eq_true'] at this
          exact ⟨inLay_ok this.1, by rw [he.pin]; exact hp _ this.2⟩
        obtain ⟨g2, hR2, he2⟩ := clear_ok hl hR (fun t ht => nblt (List.all_eq_true.1 h1 t ht)) (fun x hx => (h2' x hx).1) (fun x hx => (h2' x hx).2) hcl
        exact H .norm l2 g2 w' a' hk' hR2 (he.trans he2) (hd.ext he2)
      · cases hk'
    | exit id => exact H (.exit id) l' g' w' a' hk' hR he hd
    | ret => exact H .ret l' g' w' a' hk' hR he hd
  | skip =>
    intro c l k g w a Q hc hp hY h hk H
    refine pl_in0 ?_
    simp only [chkI] at hc
    have hq := H.noGoto .norm l g w a hk h (Ext.refl _ _) (.of_eq rfl)
    split at hc
    · rename_i e; rw [e]; exact wpIn_skip hq
    · rename_i e; rw [e]; exact wpIn_label hq
    · cases hc
  | reg ios =>
    intro c l k g w a Q hc hp hY h hk H
    refine pl_in0 ?_
    simp only [chkI] at hc
    split at hc
    · rename_i id ops draw e
      rw [e]
      exact reg_in hl hcall none 0 hc h hk fun l' g' w' a' hk' hR he hd => H.noGoto .norm l' g' w' a' hk' hR he (.of_eq hd)
    · cases hc
  | seq x y ihx ihy =>
    intro c l k g w a Q hc hp hY h hk H
    refine pl_in0 ?_
    simp only [chkI] at hc
    split at hc
    · rename_i c1 c2 e
      rw [e]
      simp only [Bool.and_eq_true] at hc
      refine wpIn_seq (ihx c1 l _ g w a _ hc.1 hp hY h hk fun e l' g' w' a' hk' hR he hd => ?_)
      cases e with
      | norm => exact ihy c2 l' k g' w' a' _ hc.2 (pin_step he hp) (hY.step he) hR hk' (H.noGoto.trans he hd)
      | exit id => exact H.noGoto (.exit id) l' g' w' a' hk' hR he hd
      | ret => exact H.noGoto .ret l' g' w' a' hk' hR he hd
    · cases hc
  | cond ic x y ihx ihy =>
    intro c l k g w a Q hc hp hY h hk H
    refine pl_in0 ?_
    simp only [chkI] at hc
    split at hc
    · rename_i o c1 c2 e
      rw [e]
      simp only [Bool.and_eq_true] at hc
      simp only [execI] at hk
      split at hk
      · rename_i t hv
        obtain ⟨L, hv1, _⟩ := rd_ok h hc.1.1
        rw [hv] at hv1
        refine wpIn_cond_split hv1.bool_inv (fun ht => ?_) (fun ht => ?_) <;> subst ht
        · exact ihx c1 l k g w a _ hc.1.2 hp hY h hk H.noGoto
        · exact ihy c2 l k g w a _ hc.2 hp hY h hk H.noGoto
      · cases hk
    · cases hc
  | blk id x ih =>
    intro c l k g w a Q hc hp hY h hk H
    refine pl_in0 ?_
    simp only [chkI] at hc
    split at hc
    · rename_i id' b e
      rw [e]
      simp only [Bool.and_eq_true] at hc
      have := nbeq hc.1; subst this
      simp only [execI] at hk
      refine wpIn_block (ih b l _ g w a _ hc.2 hp hY h hk fun e l' g' w' a' hk' hR he hd => ?_)
      cases e with
      | norm => exact H.noGoto .norm l' g' w' a' hk' hR he hd
      | exit i =>
        simp only at hk'
        show if i = id' then _ else _
        by_cases hi : i = id'
        · rw [if_pos hi]
          have : Nat.beq i id' = true := by simp [hi]
          rw [this] at hk'
          exact H.noGoto .norm l' g' w' a' hk' hR he hd
        · rw [if_neg hi]
          have : Nat.beq i id' = false := by cases hb : Nat.beq i id' with
            | false => rfl
            | true => exact absurd (nbeq hb) hi
          rw [this] at hk'
          exact H.noGoto (.exit i) l' g' w' a' hk' hR he hd
      | ret => exact H.noGoto .ret l' g' w' a' hk' hR he hd
    · cases hc
  | loop x ih =>
    intro c l k g w a Q hc hp hY h hk H
    refine pl_in0 ?_
    simp only [chkI] at hc
    split at hc
    · rename_i b e
      rw [e]
      simp only [execI] at hk
      refine wpIn_loop_rounds n ?_
      have key : ∀ m l g w a, (∀ h, inPx px h = false → g.pin h = false) → YOk P f r Y g w → Rel f g w l a.tmps → loopN (execI call n Y x) m l k = some r → Does f g w a k r (Exit.noGoto Q) → Code.roundsIn (Fo none) 0 P b (Exit.noGoto Q) m a w := by
        intro m
        induction m with
        | zero => intro l g w a _ _ _ hk _; cases hk
        | succ m ihm =>
          intro l g w a hp hY h hk H
          simp only [loopN] at hk
          refine ih b l _ g w a _ hc hp hY h hk fun e l' g' w' a' hk' hR he hd => ?_
          cases e with
          | norm => exact ihm l' g' w' a' (pin_step he hp) (hY.step he) hR hk' (H.trans he hd)
          | exit id => exact H (.exit id) l' g' w' a' hk' hR he hd
          | ret => exact H .ret l' g' w' a' hk' hR he hd
      exact key n l g w a hp hY h hk H.noGoto
    · cases hc
  | exit id =>
    intro c l k g w a Q hc hp hY h hk H
    refine pl_in0 ?_
    simp only [chkI] at hc
    split at hc
    · rename_i id' e
      rw [e]
      have := nbeq hc; subst this
      exact wpIn_exit (H.noGoto (.exit id') l g w a hk h (Ext.refl _ _) (.of_eq rfl))
    · cases hc
  | ret =>
    intro c l k g w a Q hc hp hY h hk H
    refine pl_in0 ?_
    simp only [chkI] at hc
    split at hc
    · rename_i e
      rw [e]
      exact wpIn_ret (H.noGoto .ret l g w a hk h (Ext.refl _ _) (.of_eq rfl))
    · cases hc
  | yreg pre cal args gd dst post =>
    intro c l k g w a Q hc hp hY h hk H
    refine pl_in0 ?_
    simp only [chkI] at hc
    split at hc
    · rename_i id ops e
      rw [e]
      simp only [Bool.and_eq_true] at hc
      obtain ⟨⟨hc1, hnd⟩, hc2⟩ := hc
      refine wpIn_region_list ?_
      simp only [execI] at hk
      have hsp := List.take_append_drop pre.length ops.toList
      split at hc2 <;> try cases hc2
      rename_i yo po hyo
      simp only [Bool.and_eq_true] at hc2
      rw [hyo] at hsp
      rw [← hsp]
      rw [← hsp, List.all_append, List.all_cons] at hnd
      simp only [Bool.and_eq_true] at hnd
      refine list_in hl hcall none 0 hc1 hnd.1 h hk fun l1 g1 w1 a1 hk1 hR1 he1 hd1 => ?_
      have fin : ∀ l2 g2 w2 a2, steps call post l2 (k .norm) = some r → Rel f g2 w2 l2 a2.tmps → Ext g1 w1 g2 w2 → a2.defers = a1.defers → wpListIn (Fo none) 0 P ops (Exit.noGoto Q) po a2 w2 := fun l2 g2 w2 a2 hk2 hR2 he2 hd2 => by
        have := list_in (rest := []) (Q := Exit.noGoto Q) hl hcall none 0 hc2.2 hnd.2.2 hR2 hk2 fun l3 g3 w3 a3 hk3 hR3 he3 hd3 => H.noGoto .norm l3 g3 w3 a3 hk3 hR3 (he1.trans (he2.trans he3)) (.of_eq (hd3.trans (hd2.trans hd1)))
        simpa using this
      exact yield_in hl (hY.step he1) hR1 hc2.1 hk1 fin
    · cases hc
  | rfn => intro c l k g w a Q hc; cases hc
end
end Go.Proofs.Ytafnmkbehjbkdaa.M
