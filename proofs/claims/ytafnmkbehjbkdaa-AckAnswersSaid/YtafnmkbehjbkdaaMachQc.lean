/- A range over a function; control, whole. -/
import Derived.Test.YtafnmkbehjbkdaaMachQb
set_option linter.unusedVariables false
set_option linter.unusedSimpArgs false
namespace Go.Proofs.Ytafnmkbehjbkdaa.M
open Go Go.RowKit
def itF (f : IFn) (gf itnt : Nat) : IFn := { f with go := gf, nt := itnt }
def chkC (P : Program) (T : Nat → Option IFn) (f : IFn) (rd : Bool) (px : List Nat) : IC → Code → Bool
  | .clr xs hs b, c => xs.all (fun t => Nat.blt t f.nt) && hs.all (fun x => inLay f x.1 x.2 && !inPx px x.1) && chkC P T f rd px b c
  | .fin b xs hs, c => xs.all (fun t => Nat.blt t f.nt) && hs.all (fun x => inLay f x.1 x.2 && !inPx px x.1) && chkC P T f rd px b c
  | .stuck, _ => true
  | .skip, c => match pl rd c with
    | .skip => true
    | .label _ => true
    | _ => false
  | .reg ios, c => match pl rd c with
    | .region _ ops draw => chkRegR P T f rd ops draw ios
    | _ => false
  | .seq x y, c => match pl rd c with
    | .seq a b => chkC P T f rd px x a && chkC P T f rd px y b
    | _ => false
  | .cond ic x y, c => match pl rd c with
    | .cond o a b => chkA f o ic && chkC P T f rd px x a && chkC P T f rd px y b
    | _ => false
  | .blk id x, c => match pl rd c with
    | .block id' b => Nat.beq id' id && chkC P T f rd px x b
    | _ => false
  | .loop x, c => match pl rd c with
    | .loop b => chkC P T f rd px x b
    | _ => false
  | .exit id, c => match pl rd c with
    | .exit id' => Nat.beq id' id
    | _ => false
  | .ret, c => match pl rd c with
    | .ret => true
    | _ => false
  | .yreg .., _ | .plug .., _ => false
  | .wk xs b, c => chkC P T f rd px b c
  | .brw s b, c => Nat.blt s f.nt && !inPx px s && chkC P T f rd px b c
  | .rfn x gf bs itnt ps it asg body px' pb, c => !rd && (match pl false c with
    | .rangeFunc xo pso asgo bodyo => chkA f xo x && decide (pso.toList = ps) && ps.all (fun t => Nat.blt t f.nt) && Nat.ble f.nt bs && Nat.ble itnt bs && Nat.ble bs f.total && f.lay.all (fun x => Nat.ble bs x.1) &&
      px.all (inPx px') && px'.all (inPx pb) && fnB P gf && (match P.funcs[gf]? with
        | some fn => match fn.body with
          | some ci => Nat.beq fn.ntmps itnt && fn.results.isEmpty && chkI P T (itF f gf itnt) px' it ci
          | none => false
        | none => false) && chkC P T f true pb asg asgo && chkC P T f true pb body bodyo
    | _ => false)
section
variable {P : Program} {T : Nat → Option IFn} {f : IFn} {R : Type} {r : R} {call : Nat → List AV → List (List AV) → Option Ret}
theorem leaves_marks {fn : Func} {tmps : Array Value} {X : Ending → World → Prop} {J : World → Prop} : ∀ (bs : List Nat), bs.Nodup → ∀ w, (∀ b ∈ bs, w.heap[b]? = some (.deferred (some []))) → J w →
    (∀ w b, b ∈ bs → w.heap[b]? = some (.deferred (some [])) → J w → J (w.putObj b (.deferred none))) → (∀ w, J w → ∃ v, (results fn tmps).run P w = .ok v w ∧ X (.returned v) w) → LeavesInM Fence.wide 0 P fn tmps X (bs.map mark ++ []) .returning w
  | [], _, w, _, hJ, _, hf => hf w hJ
  | b :: bs, hnd, w, hh, hJ, hs, hf => by
    obtain ⟨n1, n2⟩ := List.nodup_cons.1 hnd
    have hb := hh b (by simp)
    refine ⟨by simp, .inl ⟨b, w.putObj b (.deferred none), rfl, run_takeDeferred hb, ?_⟩⟩
    refine leaves_marks bs n2 _ (fun b' hb' => ?_) (hs w b (by simp) hb hJ) (fun w b' hb' => hs w b' (by simp [hb'])) hf
    rw [World.putObj_heap_other (fun e => n1 (by subst e; exact hb'))]
    exact hh b' (by simp [hb'])
theorem set_params (hl : LayOk f) {g : Gh} {w : World} : ∀ (ps : List Nat) (args : List AV) (vals : List Value) (l : List AV) (tm : Array Value), Rel f g w l tm → (∀ t ∈ ps, t < f.nt) → args.length = ps.length → vals.length = args.length →
    (∀ (i : Nat) (a : AV) (v : Value), args[i]? = some a → vals[i]? = some v → ∃ L, V3 g w L a v ∧ a.strip = a) → Rel f g w (setMany l ps args) ((ps.zip vals).foldl (fun tmps (x : Nat × Value) => tmps.setIfInBounds x.1 x.2) tm)
  | [], args, vals, l, tm, h, _, h1, h2, _ => by
    cases args with
    | nil => exact h
    | cons => cases h1
  | p :: ps, [], vals, l, tm, h, _, h1, _, _ => by cases h1
  | p :: ps, a :: args, [], l, tm, h, _, _, h2, _ => by cases h2
  | p :: ps, a :: args, v :: vals, l, tm, h, hp, h1, h2, h3 => by
    obtain ⟨L, hv, hs⟩ := h3 0 a v rfl rfl
    have hv' : V3 g w [p] a v := by have := hv.strip [p]; rwa [hs] at this
    exact set_params hl ps args vals (l.set p a) (tm.setIfInBounds p v) (h.setSlot hl (hp p (by simp)) hv') (fun t ht => hp t (by simp [ht])) (by simpa using h1) (by simpa using h2) fun i b u hb hu => h3 (i + 1) b u (by simpa using hb) (by simpa using hu)
theorem kept_len {bs : Nat} {l : List AV} (h : bs ≤ l.length) : (kept bs l).length = bs := by unfold kept; simp; omega
theorem kept_get {bs t : Nat} {l : List AV} (ht : t < bs) (h : bs ≤ l.length) : (kept bs l).getD t .dead = (l.getD t .dead).strip := by
  unfold kept
  rw [List.getD_eq_getElem?_getD, List.getD_eq_getElem?_getD, List.getElem?_map, List.getElem?_take, if_pos ht, List.getElem?_eq_getElem (by omega)]; rfl
theorem inPx_all {px pb : List Nat} (h : px.all (inPx pb) = true) {b : Nat} (hb : inPx px b = true) : inPx pb b = true := by
  unfold inPx at hb
  obtain ⟨y, hy, e⟩ := List.any_eq_true.1 hb
  have := List.all_eq_true.1 h y hy
  rw [← nbeq e]; exact this
theorem Ext.presC {g g' : Gh} {w w' : World} (h : Ext g w g' w') : PresC g w g' w' where
  cell B j v hf hc := (h.cell B j (World.block_lt_of_cell? w _ hc) hf).trans hc
  fr B n' v j hc hn := h.fr B n' (World.block_lt_of_cell? w _ hc) hn
theorem Ext.rebase {g g' : Gh} {w w' : World} (h : Ext g w g' w') {pn : Nat → Bool} {y : Nat} (hp : ∀ b, pn b = true → g.pin b = true) : Ext { g with pin := pn, yl := y } w { g' with pin := pn, yl := y } w' :=
  ⟨h.os, h.tape, h.output, h.size, h.out, h.cell, h.fr, fun b B hb hB => h.φ b B (hp b hb) hB, rfl, rfl⟩
theorem round_in (hl : LayOk f) {bs itnt gf : Nat} {ps : List Nat} {px pb : List Nat} {n : Nat} {asg body : IC} {asgo bodyo : Code} {pso : Array Tmp} {fn0 D : Nat} (hps : pso.toList = ps) (hpt : ∀ t ∈ ps, t < f.nt) (hnb : f.nt ≤ bs) (hib : itnt ≤ bs) (hbt : bs ≤ f.total) (hlay : ∀ x ∈ f.lay, bs ≤ x.1) (hpb : px.all (inPx pb) = true)
    (iha : ∀ (q y : Nat) (l : List AV) (k : Ex → List AV → Option R) (g : Gh) (w : World) (a : Act) (Q : Exit → Act → World → Prop), (∀ h, inPx pb h = false → g.pin h = false) → Rel f g w l a.tmps → exec call n asg l k = some r → Does f g w a k r Q → asgo.wpIn (Fo (some y)) q P Q a w)
    (ihb : ∀ (q y : Nat) (l : List AV) (k : Ex → List AV → Option R) (g : Gh) (w : World) (a : Act) (Q : Exit → Act → World → Prop), (∀ h, inPx pb h = false → g.pin h = false) → Rel f g w l a.tmps → exec call n body l k = some r → Does f g w a k r Q → bodyo.wpIn (Fo (some y)) q P Q a w)
    {g0 gi : Gh} {w0 wi : World} {l : List AV} {tm : Array Value} (h0 : Rel f g0 w0 l tm) (hE : Ext g0 w0 { gi with pin := g0.pin, yl := g0.yl } wi) (hφ0 : ∀ b B, g0.φ b = some B → gi.φ b = some B) (hpp : ∀ b, g0.pin b = true → inPx px b = true)
    (hS : (kept bs l).all (only3 false px) = true) (hpin : ∀ h, gi.pin h = inPx px h) (hω : gi.ω gi.yl = none)
    (hrec : wi.heap[gi.yl]? = some (.loop { state := .ready, pending := none, fn := fn0, tmps := tm, params := pso, assign := asgo, body := bodyo, defers := D })) :
    YOk P (itF f gf itnt) r (fun args lc K => cond ((kept bs lc).all (only3 true pb) && Nat.beq args.length ps.length) (exec call n asg (setMany (kept bs l ++ lc.drop bs) ps args) fun e l1 => match e with
      | .norm => exec call n body l1 fun e l2 => match e with
        | .norm => K (kept bs lc ++ l2.drop bs)
        | _ => none
      | _ => none) none) gi wi := by
  intro g1 w1 he1 lc tms args vals K R' hlc hlen hargs hY hR
  obtain ⟨hc, hk⟩ := cond_some hY
  simp only [Bool.and_eq_true] at hc
  obtain ⟨hc1, hc2⟩ := hc
  have hal := nbeq hc2
  have hlt : gi.yl < wi.heap.size := (Array.getElem?_eq_some_iff.1 hrec).1
  obtain ⟨hr1, ho1, _⟩ := he1.out _ hlt hω
  have hrec1 := hr1.trans hrec
  have hpsz : vals.toArray.size = pso.size := by
    have : pso.size = ps.length := by rw [← hps]; simp
    simp [this]; omega
  refine ⟨fn0, _, asgo, bodyo, run_yield hrec1 hpsz, fun m => ?_⟩
  have hll : bs ≤ l.length := by rw [h0.len]; exact hbt
  have hlcl : bs ≤ lc.length := by rw [hlc.len]; exact hbt
  have hpin1 : ∀ b, g1.pin b = inPx px b := fun b => by rw [he1.pin]; exact hpin b
  -- the round's frame
  let gr : Gh := { g1 with pin := inPx pb }
  have hE1 : Ext g0 w0 { g1 with pin := g0.pin, yl := g0.yl } w1 := hE.trans (he1.rebase fun b hb => by rw [hpin]; exact hpp b hb)
  have kr : Keeps g0 w0 gr w1 px false := ⟨⟨hE1.presC.cell, hE1.presC.fr⟩, fun b B hb hB => he1.φ b B (by rw [hpin]; exact hb) (hφ0 b B hB), fun e => by cases e⟩
  have hfr : Rel f gr w1 (kept bs l ++ lc.drop bs) tm := by
    refine hlc.swap (f2 := f) (g' := gr) rfl rfl hlay hbt rfl rfl rfl (kept_len hll) (fun i hi => .inr rfl) h0.size hnb fun t ht => ?_
    rw [kept_get (by omega) hll]
    have ho : only3 false px (l.getD t .dead).strip = true := by
      rw [← kept_get (by omega) hll]
      refine List.all_eq_true.1 hS _ ?_
      rw [List.getD_eq_getElem?_getD, List.getElem?_eq_getElem (by rw [kept_len hll]; omega)]
      exact List.getElem_mem _
    have := ((h0.slots t ht).strip [t]).keep kr [t] ho
    rwa [strip_strip] at this
  have hargs' : ∀ (i : Nat) (a : AV) (v : Value), args[i]? = some a → vals[i]? = some v → ∃ L, V3 gr w1 L a v ∧ a.strip = a := fun i a v ha hv => by
    obtain ⟨L, hv3, hs⟩ := hargs i a v ha hv
    refine ⟨L, ?_, hs⟩
    have p : Pres g1 w1 gr w1 := ⟨⟨fun _ _ _ _ h => h, fun _ n' _ _ _ h => ⟨n', h, Nat.le_refl _⟩⟩, fun _ _ h => h, rfl⟩
    exact hv3.inert p L hs
  have hfr2 := set_params hl ps args vals _ _ hfr hpt hal hlen hargs'
  have htm : (pso.zip vals.toArray).foldl (fun tmps (x : Nat × Value) => tmps.setIfInBounds x.1 x.2) tm = (ps.zip vals).foldl (fun tmps (x : Nat × Value) => tmps.setIfInBounds x.1 x.2) tm := by
    rw [← Array.foldl_toList, Array.toList_zip, hps]
  have hpinr : ∀ h, inPx pb h = false → gr.pin h = false := fun b hb => hb
  refine roundIn_of_wpIn (F := Fence.wide) trivial ?_
  have hfr3 : Rel f gr w1 (setMany (kept bs l ++ lc.drop bs) ps args) ((pso.zip vals.toArray).foldl (fun tmps (t, a) => tmps.setIfInBounds t a) tm) := by
    have h9 := hfr2
    rw [← htm] at h9
    exact h9
  refine iha m gi.yl _ _ gr w1 _ _ hpinr hfr3 hk fun e l1 ga wa aa hka hRa hea hda => ?_
  cases e with
  | norm =>
    simp only at hka
    have hlt1 : gi.yl < w1.heap.size := (Array.getElem?_eq_some_iff.1 hrec1).1
    obtain ⟨hra, hoa, _⟩ := hea.out _ hlt1 ho1
    have hreca := hra.trans hrec1
    refine ⟨_, run_beginRound hreca rfl, ?_⟩
    have hRb := hRa.record (r' := { state := .busy, pending := none, fn := fn0, tmps := tm, params := pso, assign := asgo, body := bodyo, defers := D }) hreca hoa
    have hpa : ∀ h, inPx pb h = false → ga.pin h = false := fun b hb => by rw [hea.pin]; exact hb
    refine ihb m gi.yl _ _ ga _ aa _ hpa hRb hka fun e l2 gb wb ab hkb hRb' heb hdb => ?_
    cases e with
    | norm =>
      simp only at hkb
      have hlta : gi.yl < (wa.putObj gi.yl (.loop { state := .busy, pending := none, fn := fn0, tmps := tm, params := pso, assign := asgo, body := bodyo, defers := D })).heap.size := by
        rw [World.putObj_size]; exact (Array.getElem?_eq_some_iff.1 hreca).1
      obtain ⟨hrb, hob, _⟩ := heb.out _ hlta hoa
      have hrecb := hrb.trans (World.putObj_heap_same (Array.getElem?_eq_some_iff.1 hreca).1)
      refine ⟨_, _, run_endRound none hrecb, ?_⟩
      have heR := hea.record hrec1 ho1 heb
      have hll2 : bs ≤ l2.length := by rw [hRb'.len]; exact hbt
      -- back in the iterator
      let g2 : Gh := { gb with pin := g1.pin }
      have he2 : Ext g1 w1 g2 (wb.putObj gi.yl (.loop { state := .ready, pending := none, fn := fn0, tmps := tm, params := pso, assign := asgo, body := bodyo, defers := D })) :=
        ⟨heR.os, heR.tape, heR.output, heR.size, heR.out, heR.cell, heR.fr, fun b B hb hB => heR.φ b B (by rw [hpin1] at hb; exact inPx_all hpb hb) hB, rfl, heR.yl⟩
      have k2 : Keeps g1 w1 g2 (wb.putObj gi.yl (.loop { state := .ready, pending := none, fn := fn0, tmps := tm, params := pso, assign := asgo, body := bodyo, defers := D })) pb true :=
        ⟨he2.presC, fun b B hb hB => heR.φ b B hb hB, fun _ => heR.yl⟩
      refine hR _ g2 _ hkb ?_ he2
      have hRr := hRb'.record (r' := { state := .ready, pending := none, fn := fn0, tmps := tm, params := pso, assign := asgo, body := bodyo, defers := D }) hrecb hob
      refine hRr.swap (f2 := itF f gf itnt) (g' := g2) rfl rfl hlay hbt rfl rfl rfl (kept_len hlcl) (fun i hi => .inr rfl) hlc.size hib fun t ht => ?_
      have htb : t < bs := Nat.lt_of_lt_of_le ht hib
      rw [kept_get htb hlcl]
      have ho : only3 true pb (lc.getD t .dead).strip = true := by
        rw [← kept_get htb hlcl]
        refine List.all_eq_true.1 hc1 _ ?_
        rw [List.getD_eq_getElem?_getD, List.getElem?_eq_getElem (by rw [kept_len hlcl]; exact htb)]
        exact List.getElem_mem _
      have := ((hlc.slots t ht).strip [t]).keep k2 [t] ho
      rwa [strip_strip] at this
    | exit id => cases hkb
    | ret => cases hkb
  | exit id => cases hka
  | ret => cases hka
end
section
variable {P : Program} {T : Nat → Option IFn} {f : IFn} {R : Type} {r : R} {call : Nat → List AV → List (List AV) → Option Ret}
theorem rfn_in (hl : LayOk f) (hcall : CallOk P T call) (n : Nat) {x : IA} {gf bs itnt : Nat} {ps : List Nat} {it asg body : IC} {px' pb px : List Nat} {xo : Operand} {pso : Array Tmp} {asgo bodyo : Code}
    (iha : ∀ (q y : Nat) (l : List AV) (k : Ex → List AV → Option R) (g : Gh) (w : World) (a : Act) (Q : Exit → Act → World → Prop), (∀ h, inPx pb h = false → g.pin h = false) → Rel f g w l a.tmps → exec call n asg l k = some r → Does f g w a k r Q → asgo.wpIn (Fo (some y)) q P Q a w)
    (ihb : ∀ (q y : Nat) (l : List AV) (k : Ex → List AV → Option R) (g : Gh) (w : World) (a : Act) (Q : Exit → Act → World → Prop), (∀ h, inPx pb h = false → g.pin h = false) → Rel f g w l a.tmps → exec call n body l k = some r → Does f g w a k r Q → bodyo.wpIn (Fo (some y)) q P Q a w)
    (c1 : chkA f xo x = true) (hps : pso.toList = ps) (hpt : ∀ t ∈ ps, t < f.nt) (hnb : f.nt ≤ bs) (hib : itnt ≤ bs) (hbt : bs ≤ f.total) (hlay : ∀ x ∈ f.lay, bs ≤ x.1) (hpx : px.all (inPx px') = true) (hpb : px'.all (inPx pb) = true) (hfB : fnB P gf = true)
    {fn : Func} {ci : Code} (hfn : P.funcs[gf]? = some fn) (hci : fn.body = some ci) (hnt : fn.ntmps = itnt) (hres : fn.results.isEmpty = true) (hchk : chkI P T (itF f gf itnt) px' it ci = true)
    {l : List AV} {k : Ex → List AV → Option R} {g : Gh} {w : World} {a : Act} {Q : Exit → Act → World → Prop} {q : Nat} (hp : ∀ h, inPx px h = false → g.pin h = false) (h : Rel f g w l a.tmps) (hk : exec call n (.rfn x gf bs itnt ps it asg body px' pb) l k = some r) (H : Does f g w a k r Q) :
    (Code.rangeFunc xo pso asgo bodyo).wpIn (Fo none) q P Q a w := by
  simp only [exec] at hk
  split at hk
  case h_2 => cases hk
  rename_i f0 caps hx
  obtain ⟨hcd, hk2⟩ := cond_some hk
  clear hk
  simp only [Bool.and_eq_true] at hcd
  obtain ⟨⟨⟨⟨e1, e2⟩, hS⟩, hny⟩, hcp⟩ := hcd
  have e1 := nbeq e1
  subst e1
  have e2 := nble e2
  obtain ⟨L, hv1, _⟩ := rd_ok h c1
  rw [hx] at hv1
  obtain ⟨vs, hu, hvl, hvs⟩ := hv1.clo_inv
  have hll : bs ≤ l.length := by rw [h.len]; exact hbt
  let o1 : Obj := .deferred (some [])
  let D := w.heap.size
  let wa := w.alloc o1
  have hsz : wa.heap.size = w.heap.size + 1 := by simp [wa]
  let y := wa.heap.size
  refine wpIn_rangeFunc fun fnid _ => ?_
  let rec0 : Loop := { state := .ready, pending := none, fn := fnid, tmps := a.tmps, params := pso, assign := asgo, body := bodyo, defers := D }
  let w1 := wa.alloc (.loop rec0)
  let args : Array Value := #[.func (.yield y) #[] #[]] ++ vs.toArray
  have henter : (Instr.enterLoop fnid a.tmps pso asgo bodyo (Fo none).round).run P w = .ok (y, [mark D]) w1 := by
    have := run_enterLoop_outer (P := P) (w := w) fnid a.tmps pso asgo bodyo
    rw [← hsz] at this
    exact this
  refine ⟨y, [mark D], w1, { target := .fn (.func f0) vs.toArray, args := #[.func (.yield y) #[] #[]] }, w1, f0, args, w1, henter, ?_, fun f' _ => fo_fn none f', ?_, fun e => (by cases e), ?_⟩
  · simp only [resolve, rangeCall, hu, Deferred.ofValue]
    simp [Act.eval]
  · simp only [invoke]
    simp [invoke, run_enter (w := w1) hfB, args]
  -- the iterator's frame
  let g1 := (g.new w.heap.size none none).new wa.heap.size none none
  have hR1 : Rel f g1 w1 l a.tmps := (h.new o1 none none).new _ none none
  have hE0 : Ext g w g1 w1 := (Ext.new h.fresh o1 none none).trans (Ext.new (h.new o1 none none).fresh _ none none)
  let gi : Gh := { g1 with pin := inPx px', yl := y }
  have hE : Ext g w { gi with pin := g.pin, yl := g.yl } w1 := hE0
  have hpp : ∀ b, g.pin b = true → inPx px' b = true := fun b hb => by
    cases hq : inPx px b with
    | false => rw [hp b hq] at hb; cases hb
    | true => exact inPx_all hpx hq
  have hrecy : w1.heap[y]? = some (.loop rec0) := World.alloc_heap_new wa _
  have hωy : gi.ω y = none := by show (if y = wa.heap.size then none else _) = none; rw [if_pos rfl]
  have hD1 : w1.heap[D]? = some o1 := (heap_alloc_lt wa _ (by rw [hsz]; exact Nat.lt_succ_self _)).trans (World.alloc_heap_new w o1)
  have hωD : gi.ω D = none := by
    show (if D = wa.heap.size then none else (if D = w.heap.size then none else g.ω D)) = none
    rw [if_neg (by show w.heap.size ≠ wa.heap.size; omega), if_pos rfl]
  have hlI : LayOk (itF f f0 itnt) := ⟨Nat.le_trans hib hbt, fun b m hb => ⟨Nat.le_trans hib (hlay _ hb), (hl.within b m hb).2⟩, hl.apart⟩
  have hnoY : ∀ (l : List AV), (l.drop bs).all noY = true → ∀ i, bs ≤ i → noY (l.getD i .dead) = true := fun l hl i hi => by
    by_cases hlt : i < l.length
    · have hm : l[i] ∈ l.drop bs := by
        rw [List.mem_iff_getElem?]
        exact ⟨i - bs, by rw [List.getElem?_drop, show bs + (i - bs) = i by omega, List.getElem?_eq_getElem hlt]⟩
      rw [List.getD_eq_getElem?_getD, List.getElem?_eq_getElem hlt]
      exact List.all_eq_true.1 hl _ hm
    · rw [List.getD_eq_getElem?_getD, List.getElem?_eq_none (by omega)]; rfl
  have hasz : args.size = caps.length + 1 := by simp [args, hvl, Nat.add_comm]
  let aI : Act := { tmps := args ++ Array.replicate (fn.ntmps - args.size) undef, defers := [] }
  have hTl : (itSlots bs caps).length = bs := by unfold itSlots; simp; omega
  have hRI : Rel (itF f f0 itnt) gi w1 (itSlots bs caps ++ l.drop bs) aI.tmps := by
    refine hR1.swap (f2 := itF f f0 itnt) (g' := gi) rfl rfl hlay hbt rfl rfl rfl hTl (fun i hi => .inl (hnoY l hny i hi)) (by simp [aI, hasz, itF, hnt] <;> omega) hib fun t ht => ?_
    have ht : t < itnt := ht
    cases t with
    | zero =>
      have q1 : (itSlots bs caps).getD 0 .dead = .yld := rfl
      have q2 : aI.tmps.getD 0 undef = .func (.yield y) #[] #[] := by
        rw [Array.getD_eq_getD_getElem?, Array.getElem?_append_left (by omega)]
        simp [args]
      rw [q1, q2]
      exact .c (.c (.yld y rfl))
    | succ t =>
      by_cases hct : t < caps.length
      · have q1 : (itSlots bs caps).getD (t + 1) .dead = .ptr caps[t].1 caps[t].2 := by
          unfold itSlots
          rw [List.getD_eq_getElem?_getD, List.getElem?_cons_succ, List.getElem?_append_left (by simpa using hct), List.getElem?_map, List.getElem?_eq_getElem hct]; rfl
        have q2 : aI.tmps.getD (t + 1) undef = vs[t]'(by omega) := by
          rw [Array.getD_eq_getD_getElem?, Array.getElem?_append_left (by omega)]
          have : args[t + 1]? = some (vs[t]'(by omega)) := by
            simp only [args]
            rw [Array.getElem?_append_right (by simp)]
            simp <;> omega
          rw [this]; rfl
        rw [q1, q2]
        obtain ⟨B, hB, hvB⟩ := hvs t caps[t].1 caps[t].2 (vs[t]'(by omega)) (List.getElem?_eq_getElem hct) (List.getElem?_eq_getElem (by omega))
        rw [hvB]
        exact .c (.c (.ptr _ _ B hB))
      · have q1 : (itSlots bs caps).getD (t + 1) .dead = .dead := by
          unfold itSlots
          rw [List.getD_eq_getElem?_getD, List.getElem?_cons_succ, List.getElem?_append_right (by simp; omega), List.getElem?_replicate]
          split <;> rfl
        rw [q1]; exact .dead _
  have hY := round_in (P := P) (R := R) (r := r) (n := n) (gf := f0) (fn0 := fnid) (D := D) hl hps hpt hnb hib hbt hlay hpb iha ihb (gi := gi) h hE (fun b B hB => hB) hpp hS (fun _ => rfl) hωy hrecy
  refine callsIn_fo.2 (callsIn_wide.1 (callsIn_of_wp_marks (F := Fence.wide) (n := 0) hfn hci trivial ?_))
  refine execI_in hlI hcall px' n it ci _ _ gi w1 aI _ hchk (fun b hb => hb) hY hRI hk2 fun e l' g' w' a' hk' hR' he' hd' => ?_
  have fin : cond ((l'.drop bs).all noY) (k .norm (kept bs l ++ l'.drop bs)) none = some r → LeavesInM Fence.wide 0 P fn a'.tmps (rangePost (Fo none) q P y Q { a with defers := [mark D] ++ a.defers }) a'.defers .returning w' := fun hkk => by
    obtain ⟨hny', hkk⟩ := cond_some hkk
    obtain ⟨bs', k1, k2, k3⟩ := hd'
    rw [k2]
    refine leaves_marks (J := fun w2 => Rel (itF f f0 itnt) g' w2 l' a'.tmps ∧ Ext gi w1 g' w2) bs' k1 w' (fun b hb => (k3 b hb).2.2) ⟨hR', he'⟩ (fun w2 b hb hh hJ => ?_) fun w2 hJ => ?_
    · exact ⟨hJ.1.putO _ (fun j => by unfold World.cell?; simp only [hh]) (k3 b hb).2.1, hJ.2.putO _ (k3 b hb).1⟩
    · obtain ⟨hR2, he2⟩ := hJ
      obtain ⟨hy2, hωy2, _⟩ := he2.out y (Array.getElem?_eq_some_iff.1 hrecy).1 hωy
      obtain ⟨hD2, hωD2, _⟩ := he2.out D (Array.getElem?_eq_some_iff.1 hD1).1 hωD
      have hry := hy2.trans hrecy
      have hresR : (results fn a'.tmps).run P w2 = .ok (.tuple #[]) w2 := by
        have : fn.results = #[] := by simpa using hres
        unfold results
        rw [this]
        simp [Sem.run_bind]
      refine ⟨_, hresR, none, _, run_endLoop hry (fun e => by cases e), ?_⟩
      let gF : Gh := { g' with pin := g.pin, yl := g.yl }
      let w4 := w2.putObj y (.loop { rec0 with state := .exhausted })
      have heF0 : Ext g w gF w2 := hE.trans (he2.rebase fun b hb => hpp b hb)
      have heF : Ext g w gF w4 := heF0.putO _ (by show w.heap.size ≤ wa.heap.size; omega)
      have kF : Keeps g w gF w4 px' false := ⟨heF.presC, fun b B hb hB => he2.φ b B hb hB, fun e => by cases e⟩
      have hR4 : Rel (itF f f0 itnt) g' w4 l' a'.tmps := hR2.record hry hωy2
      have hRF : Rel f gF w4 (kept bs l ++ l'.drop bs) a.tmps := by
        refine hR4.swap (f2 := f) (g' := gF) rfl rfl hlay hbt rfl rfl rfl (kept_len hll) (fun i hi => .inl (hnoY l' hny' i hi)) h.size hnb fun t ht => ?_
        rw [kept_get (by omega) hll]
        have ho : only3 false px' (l.getD t .dead).strip = true := by
          rw [← kept_get (by omega) hll]
          refine List.all_eq_true.1 hS _ ?_
          rw [List.getD_eq_getElem?_getD, List.getElem?_eq_getElem (by rw [kept_len hll]; omega)]
          exact List.getElem_mem _
        have := ((h.slots t ht).strip [t]).keep kF [t] ho
        rwa [strip_strip] at this
      have hne : D ≠ y := by show w.heap.size ≠ wa.heap.size; omega
      exact H .norm _ gF w4 { a with defers := [mark D] ++ a.defers } hkk hRF heF ⟨[D], by simp, rfl, fun b hb => by
        have : b = D := by simpa using hb
        subst this
        exact ⟨Nat.le_refl _, hωD2, (World.putObj_heap_other hne).trans (hD2.trans hD1)⟩⟩
  cases e with
  | norm => exact fin hk'
  | exit id => cases hk'
  | ret => exact fin hk'
theorem exec_in (hl : LayOk f) (hcall : CallOk P T call) (n : Nat) : ∀ (ic : IC) (ro : Option Nat) (q : Nat) (px : List Nat) (c : Code) (l : List AV) (k : Ex → List AV → Option R) (g : Gh) (w : World) (a : Act) (Q : Exit → Act → World → Prop), chkC P T f ro.isSome px ic c = true →
    (∀ h, inPx px h = false → g.pin h = false) → Rel f g w l a.tmps → exec call n ic l k = some r → Does f g w a k r Q → c.wpIn (Fo ro) q P Q a w := by
  intro ic
  induction ic with
  | stuck =>
    intro ro q px c l k g w a Q hc hp h hk H
    simp only [exec] at hk
    cases hk
  | clr xs hs b ih =>
    intro ro q px c l k g w a Q hc hp h hk H
    simp only [chkC, Bool.and_eq_true] at hc
    obtain ⟨⟨h1, h2⟩, h3⟩ := hc
    simp only [exec] at hk
    split at hk
    · rename_i l' hcl
      have h2' : ∀ x ∈ hs, (x.1, x.2) ∈ f.lay ∧ g.pin x.1 = false := fun x hx => by
        have := List.all_eq_true.1 h2 x hx
        simp only [Bool.and_eq_true, Bool.not_eq_true'] at this
        exact ⟨inLay_ok this.1, hp _ this.2⟩
      obtain ⟨g', hR, he⟩ := clear_ok hl h (fun t ht => nblt (List.all_eq_true.1 h1 t ht)) (fun x hx => (h2' x hx).1) (fun x hx => (h2' x hx).2) hcl
      exact ih ro q px c l' k g' w a Q h3 (pin_step he hp) hR hk (H.trans he (.of_eq rfl))
    · cases hk
  | plug sz bytes =>
    intro ro q px c l k g w a Q hc hp h hk H
    cases hc
  | wk xs b ih =>
    intro ro q px c l k g w a Q hc hp h hk H
    simp only [chkC] at hc
    simp only [exec] at hk
    exact ih ro q px c _ k g w a Q hc hp (h.weaken hl xs) hk H
  | brw s b ih =>
    intro ro q px c l k g w a Q hc hp h hk H
    simp only [chkC, Bool.and_eq_true, Bool.not_eq_true'] at hc
    obtain ⟨⟨h1, h2⟩, h3⟩ := hc
    simp only [exec] at hk
    split at hk
    · rename_i l1 hb
      obtain ⟨g1, hR1, he1⟩ := brw_in hl h (nblt h1) (hp _ h2) hb
      refine ih ro q px c l1 _ g1 w a Q h3 (pin_step he1 hp) hR1 hk fun e l' g' w' a' hk' hR he hd => ?_
      cases e with
      | norm =>
        simp only at hk'
        split at hk'
        · rename_i l2 hcl
          obtain ⟨g2, hR2, he2⟩ := brw_out hl hR (nblt h1) (by rw [he.pin, he1.pin]; exact hp _ h2) hcl
          exact H .norm l2 g2 w' a' hk' hR2 (he1.trans (he.trans he2)) (hd.ext he2)
        · cases hk'
      | exit id => cases hk'
      | ret => cases hk'
    · cases hk
  | fin b xs hs ih =>
    intro ro q px c l k g w a Q hc hp h hk H
    simp only [chkC, Bool.and_eq_true] at hc
    obtain ⟨⟨h1, h2⟩, h3⟩ := hc
    simp only [exec] at hk
    refine ih ro q px c l _ g w a Q h3 hp h hk fun e l' g' w' a' hk' hR he hd => ?_
    cases e with
    | norm =>
      simp only at hk'
      split at hk'
      · rename_i l2 hcl
        have h2' : ∀ x ∈ hs, (x.1, x.2) ∈ f.lay ∧ g'.pin x.1 = false := fun x hx => by
          have := List.all_eq_true.1 h2 x hx
          simp only [Bool.and_eq_true, Bool.not_eq_true'] at this
          exact ⟨inLay_ok this.1, by rw [he.pin]; exact hp _ this.2⟩
        obtain ⟨g2, hR2, he2⟩ := clear_ok hl hR (fun t ht => nblt (List.all_eq_true.1 h1 t ht)) (fun x hx => (h2' x hx).1) (fun x hx => (h2' x hx).2) hcl
        exact H .norm l2 g2 w' a' hk' hR2 (he.trans he2) (hd.ext he2)
      · cases hk'
    | exit id => exact H (.exit id) l' g' w' a' hk' hR he hd
    | ret => exact H .ret l' g' w' a' hk' hR he hd
  | skip =>
    intro ro q px c l k g w a Q hc hp h hk H
    refine pl_in ?_
    simp only [chkC] at hc
    have hq := H.noGoto .norm l g w a hk h (Ext.refl _ _) (.of_eq rfl)
    split at hc
    · rename_i e; rw [e]; exact wpIn_skip hq
    · rename_i e; rw [e]; exact wpIn_label hq
    · cases hc
  | reg ios =>
    intro ro q px c l k g w a Q hc hp h hk H
    refine pl_in ?_
    simp only [chkC] at hc
    split at hc
    · rename_i id ops draw e
      rw [e]
      exact reg_in hl hcall ro q hc h hk fun l' g' w' a' hk' hR he hd => H.noGoto .norm l' g' w' a' hk' hR he (.of_eq hd)
    · cases hc
  | seq x y ihx ihy =>
    intro ro q px c l k g w a Q hc hp h hk H
    refine pl_in ?_
    simp only [chkC] at hc
    split at hc
    · rename_i c1 c2 e
      rw [e]
      simp only [Bool.and_eq_true] at hc
      refine wpIn_seq (ihx ro q px c1 l _ g w a _ hc.1 hp h hk fun e l' g' w' a' hk' hR he hd => ?_)
      cases e with
      | norm => exact ihy ro q px c2 l' k g' w' a' _ hc.2 (pin_step he hp) hR hk' (H.noGoto.trans he hd)
      | exit id => exact H.noGoto (.exit id) l' g' w' a' hk' hR he hd
      | ret => exact H.noGoto .ret l' g' w' a' hk' hR he hd
    · cases hc
  | cond ic x y ihx ihy =>
    intro ro q px c l k g w a Q hc hp h hk H
    refine pl_in ?_
    simp only [chkC] at hc
    split at hc
    · rename_i o c1 c2 e
      rw [e]
      simp only [Bool.and_eq_true] at hc
      simp only [exec] at hk
      split at hk
      · rename_i t hv
        obtain ⟨L, hv1, _⟩ := rd_ok h hc.1.1
        rw [hv] at hv1
        refine wpIn_cond_split hv1.bool_inv (fun ht => ?_) (fun ht => ?_) <;> subst ht
        · exact ihx ro q px c1 l k g w a _ hc.1.2 hp h hk H.noGoto
        · exact ihy ro q px c2 l k g w a _ hc.2 hp h hk H.noGoto
      · cases hk
    · cases hc
  | blk id x ih =>
    intro ro q px c l k g w a Q hc hp h hk H
    refine pl_in ?_
    simp only [chkC] at hc
    split at hc
    · rename_i id' b e
      rw [e]
      simp only [Bool.and_eq_true] at hc
      have := nbeq hc.1; subst this
      simp only [exec] at hk
      refine wpIn_block (ih ro q px b l _ g w a _ hc.2 hp h hk fun e l' g' w' a' hk' hR he hd => ?_)
      cases e with
      | norm => exact H.noGoto .norm l' g' w' a' hk' hR he hd
      | exit i =>
        simp only at hk'
        show if i = id' then _ else _
        by_cases hi : i = id'
        · rw [if_pos hi]
          have : Nat.beq i id' = true := by simp [hi]
          rw [this] at hk'
          exact H.noGoto .norm l' g' w' a' hk' hR he hd
        · rw [if_neg hi]
          have : Nat.beq i id' = false := by cases hb : Nat.beq i id' with
            | false => rfl
            | true => exact absurd (nbeq hb) hi
          rw [this] at hk'
          exact H.noGoto (.exit i) l' g' w' a' hk' hR he hd
      | ret => exact H.noGoto .ret l' g' w' a' hk' hR he hd
    · cases hc
  | loop x ih =>
    intro ro q px c l k g w a Q hc hp h hk H
    refine pl_in ?_
    simp only [chkC] at hc
    split at hc
    · rename_i b e
      rw [e]
      simp only [exec] at hk
      refine wpIn_loop_rounds n ?_
      have key : ∀ m l g w a, (∀ h, inPx px h = false → g.pin h = false) → Rel f g w l a.tmps → loopN (exec call n x) m l k = some r → Does f g w a k r (Exit.noGoto Q) → Code.roundsIn (Fo ro) q P b (Exit.noGoto Q) m a w := by
        intro m
        induction m with
        | zero => intro l g w a _ _ hk _; cases hk
        | succ m ihm =>
          intro l g w a hp h hk H
          simp only [loopN] at hk
          refine ih ro q px b l _ g w a _ hc hp h hk fun e l' g' w' a' hk' hR he hd => ?_
          cases e with
          | norm => exact ihm l' g' w' a' (pin_step he hp) hR hk' (H.trans he hd)
          | exit id => exact H (.exit id) l' g' w' a' hk' hR he hd
          | ret => exact H .ret l' g' w' a' hk' hR he hd
      exact key n l g w a hp h hk H.noGoto
    · cases hc
  | exit id =>
    intro ro q px c l k g w a Q hc hp h hk H
    refine pl_in ?_
    simp only [chkC] at hc
    split at hc
    · rename_i id' e
      rw [e]
      have := nbeq hc; subst this
      exact wpIn_exit (H.noGoto (.exit id') l g w a hk h (Ext.refl _ _) (.of_eq rfl))
    · cases hc
  | ret =>
    intro ro q px c l k g w a Q hc hp h hk H
    refine pl_in ?_
    simp only [chkC] at hc
    split at hc
    · rename_i e
      rw [e]
      exact wpIn_ret (H.noGoto .ret l g w a hk h (Ext.refl _ _) (.of_eq rfl))
    · cases hc
  | yreg => intro ro q px c l k g w a Q hc; cases hc
  | rfn x gf bs itnt ps it asg body px' pb _ iha ihb =>
    intro ro q px c l k g w a Q hc hp h hk H
    simp only [chkC, Bool.and_eq_true, Bool.not_eq_true'] at hc
    obtain ⟨hrd, hc⟩ := hc
    cases ro with
    | some y => cases hrd
    | none =>
      refine pl_in (ro := none) ?_
      have hc0 := hc
      clear hc
      change (match pl false c with
        | .rangeFunc xo pso asgo bodyo => _
        | _ => false) = true at hc0
      split at hc0 <;> try cases hc0
      rename_i xo pso asgo bodyo e
      have e : pl (Option.isSome (none : Option Nat)) c = .rangeFunc xo pso asgo bodyo := e
      rw [e]
      simp only [Bool.and_eq_true, decide_eq_true_eq] at hc0
      obtain ⟨⟨⟨⟨⟨⟨⟨⟨⟨⟨⟨⟨c1, c2⟩, c3⟩, c4⟩, c5⟩, c6⟩, c7⟩, c8⟩, c9⟩, c10⟩, c11⟩, c12⟩, c13⟩ := hc0
      split at c11 <;> try cases c11
      rename_i fn hfn
      split at c11 <;> try cases c11
      rename_i ci hci
      simp only [Bool.and_eq_true] at c11
      obtain ⟨⟨d1, d2⟩, d3⟩ := c11
      exact rfn_in hl hcall n (fun q y l k g w a Q hpin hR hk H => iha (some y) q pb asgo l k g w a Q c12 hpin hR hk H) (fun q y l k g w a Q hpin hR hk H => ihb (some y) q pb bodyo l k g w a Q c13 hpin hR hk H)
        c1 c2 (fun t ht => nblt (List.all_eq_true.1 c3 t ht)) (nble c4) (nble c5) (nble c6) (fun x hx => nble (List.all_eq_true.1 c7 x hx)) c8 c9 c10 hfn hci (nbeq d1) d2 d3 hp h hk H.noGoto
theorem pinned_px (f : IFn) (h : Nat) : inPx (f.pass.map (·.1)) h = pinned f h := by unfold inPx pinned; rw [List.any_map]; rfl
theorem exec_wp (hl : LayOk f) (hcall : CallOk P T call) (n : Nat) (ic : IC) (c : Code) (l : List AV) (k : Ex → List AV → Option R) (g : Gh) (w : World) (a : Act) (Q : Exit → Act → World → Prop) (hc : chkC P T f false (f.pass.map (·.1)) ic c = true)
    (hp : g.pin = pinned f) (h : Rel f g w l a.tmps) (hk : exec call n ic l k = some r) (H : Does f g w a k r Q) : c.wp P Q a w :=
  wpIn_wide.1 (exec_in hl hcall n ic none 0 _ c l k g w a Q hc (fun b hb => by rw [hp, ← pinned_px]; exact hb) h hk H)
end
end Go.Proofs.Ytafnmkbehjbkdaa.M
