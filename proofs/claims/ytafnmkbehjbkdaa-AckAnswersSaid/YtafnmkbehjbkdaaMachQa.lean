/- Iterators: what is kept beside a round, a loop's record. -/
import Derived.Test.YtafnmkbehjbkdaaMachQ
set_option linter.unusedVariables false
set_option linter.unusedSimpArgs false
namespace Go.Proofs.Ytafnmkbehjbkdaa.M
open Go Go.RowKit
section
variable {g g' : Gh} {w w' : World} {px : List Nat} {y : Bool}
structure Keeps (g : Gh) (w : World) (g' : Gh) (w' : World) (px : List Nat) (y : Bool) : Prop where
  p : PresC g w g' w'
  φ : ∀ h B, inPx px h = true → g.φ h = some B → g'.φ h = some B
  yl : y = true → g'.yl = g.yl
theorem Vc.keep (q : Keeps g w g' w' px y) {L : List Nat} (L' : List Nat) {a : AV} {v : Value} (h : Vc g w L a v) (ho : onlyC y px a = true) : Vc g' w' L' a.c1 v := by
  cases h with
  | dead v => exact .dead v
  | of0 h =>
    have h' := h.mono q.p
    cases h with
    | _ => exact .of0 h'
  | nil sz get => exact .of0 (.nil sz get)
  | zero p sz get => exact .of0 (.zero p sz get)
  | row sz n get B o c h0 ho => exact .of0 (h0.mono q.p)
  | elt cs B o val hfz hcell hel => cases ho
  | ptr h j B hB => exact .ptr h j B (q.φ h B ho hB)
  | clo f caps vs hl hv =>
    refine .clo f caps vs hl fun i h j v hc hvv => ?_
    obtain ⟨B, h1, h2⟩ := hv i h j v hc hvv
    exact ⟨B, q.φ h B (List.all_eq_true.1 ho _ (List.mem_of_getElem? hc)) h1, h2⟩
  | yld z h => exact .yld z ((q.yl ho).trans h)
  | un => cases ho
  | ur => cases ho
  | up => cases ho
theorem V2.keep (q : Keeps g w g' w' px y) {L : List Nat} (L' : List Nat) {a : AV} {v : Value} (h : V2 g w L a v) (ho : only2 y px a = true) : V2 g' w' L' a.c2 v := by
  cases h with
  | c h =>
    cases h with
    | of0 h0 =>
      have h' := (Vc.of0 (L := L) h0).keep q L'
      cases h0 <;> exact .c (h' ho)
    | dead v => exact .c (.dead v)
    | nil sz get => exact .c ((Vc.nil (L := L) sz get).keep q L' ho)
    | zero p sz get => exact .c ((Vc.zero (L := L) p sz get).keep q L' ho)
    | row sz n get B o c h0 h1 => exact .c ((Vc.row (L := L) sz n get B o c h0 h1).keep q L' ho)
    | elt cs B o val hfz hcell hel => cases ho
    | ptr h j B hB => exact .c ((Vc.ptr (L := L) h j B hB).keep q L' ho)
    | clo f caps vs hl hv => exact .c ((Vc.clo (L := L) f caps vs hl hv).keep q L' ho)
    | yld z h => exact .c ((Vc.yld (L := L) z h).keep q L' ho)
    | un => cases ho
    | ur => cases ho
    | up => cases ho
  | agg cs vs hl h =>
    refine .agg _ vs (by simpa using hl) fun i a v ha hv => ?_
    rw [List.getElem?_map] at ha
    cases hc : cs[i]? with
    | none => rw [hc] at ha; cases ha
    | some b =>
      rw [hc] at ha; cases ha
      exact (h i b v hc hv).keep q _ (List.all_eq_true.1 ho _ (List.mem_of_getElem? hc))
theorem V3.keep (q : Keeps g w g' w' px y) {L : List Nat} (L' : List Nat) {a : AV} {v : Value} (h : V3 g w L a v) (ho : only3 y px a = true) : V3 g' w' L' a.strip v := by
  cases h with
  | c h =>
    cases h with
    | c h0 =>
      have h' := (V2.c h0).keep q L'
      cases h0 with
      | of0 h1 => cases h1 <;> exact .c (h' ho)
      | _ => exact .c (h' ho)
    | agg cs vs hl h => exact .c ((V2.agg cs vs hl h).keep q L' ho)
  | tup cs vs hl h =>
    refine .tup _ vs (by simpa using hl) fun i a v ha hv => ?_
    rw [List.getElem?_map] at ha
    cases hc : cs[i]? with
    | none => rw [hc] at ha; cases ha
    | some b =>
      rw [hc] at ha; cases ha
      exact (h i b v hc hv).keep q _ (List.all_eq_true.1 ho _ (List.mem_of_getElem? hc))
theorem Vc.regh (hφ : g'.φ = g.φ) (hω : g'.ω = g.ω) (hfr : g'.fr = g.fr) {L : List Nat} {a : AV} {v : Value} (h : Vc g w L a v) (hy : noY a = true ∨ g'.yl = g.yl) : Vc g' w L a v := by
  have p : PresC g w g' w := ⟨fun _ _ _ _ h => h, fun B n' _ _ _ hn => ⟨n', by rw [← hfr]; exact hn, Nat.le_refl _⟩⟩
  cases h with
  | dead v => exact .dead v
  | of0 h => exact .of0 (h.mono p)
  | nil sz get => exact .nil sz get
  | zero p sz get => exact .zero p sz get
  | row sz n get B o c h0 ho =>
    refine .row sz n get B o c (h0.mono p) (ho.imp id fun ⟨h1, h2, h3, h4⟩ => ⟨by rw [hω]; exact h1, h2, by rw [hfr]; exact h3, h4⟩)
  | elt cs B o val hfz hcell hel => exact .elt cs B o val (hfz.imp id fun hf n hn => hf n (by rw [← hfr]; exact hn)) hcell (fun j a ha => (hel j a ha).mono p)
  | ptr h j B hB => exact .ptr h j B (by rw [hφ]; exact hB)
  | clo f caps vs hl hv =>
    refine .clo f caps vs hl fun i h j v hc hvv => ?_
    obtain ⟨B, h1, h2⟩ := hv i h j v hc hvv
    exact ⟨B, by rw [hφ]; exact h1, h2⟩
  | yld z h => exact .yld z ((hy.resolve_left (by simp [noY])).trans h)
  | un k sz n get v h => exact .un k sz n get v (h.move p (fun B q hq => ⟨by rw [hω]; exact hq, by rw [hfr], rfl⟩) fun s B _ hB => by rw [hφ]; exact hB)
  | ur k sz n v h => exact .ur k sz n v (h.imp id fun ⟨B, c, h1, h2⟩ => ⟨B, c, h1, by rw [hφ]; exact h2⟩)
  | up k sz q off B h => exact .up k sz q off B (by rw [hφ]; exact h)
end
section
variable {f f2 : IFn} {g g' : Gh} {w : World} {l : List AV} {tm tm2 : Array Value}
theorem getD_swap {T l : List AV} {bs i : Nat} (hT : T.length = bs) (hi : bs ≤ i) : (T ++ l.drop bs).getD i .dead = l.getD i .dead := by
  rw [List.getD_eq_getElem?_getD, List.getD_eq_getElem?_getD, List.getElem?_append_right (by omega), List.getElem?_drop, hT]
  congr 2; omega
theorem Rel.swap (h : Rel f g w l tm) {bs : Nat} (e1 : f2.lay = f.lay) (e2 : f2.total = f.total) (hbs : ∀ x ∈ f.lay, bs ≤ x.1) (hbt : bs ≤ f.total) (hφ : g'.φ = g.φ) (hω : g'.ω = g.ω) (hfr : g'.fr = g.fr)
    {T : List AV} (hT : T.length = bs) (hy : ∀ i, bs ≤ i → noY (l.getD i .dead) = true ∨ g'.yl = g.yl) (hs : tm2.size = f2.nt) (hnt : f2.nt ≤ bs) (hv : ∀ t, t < f2.nt → V3 g' w [t] (T.getD t .dead) (tm2.getD t undef)) : Rel f2 g' w (T ++ l.drop bs) tm2 where
  len := by have := h.len; simp [hT, e2]; omega
  size := hs
  slots t ht := by
    have : (T ++ l.drop bs).getD t .dead = T.getD t .dead := by
      rw [List.getD_eq_getElem?_getD, List.getD_eq_getElem?_getD, List.getElem?_append_left (by omega)]
    rw [this]; exact hv t ht
  boxes b n hb := by
    rw [e1] at hb
    have h0 := hbs _ hb
    have h0 : bs ≤ b := h0
    rcases h.boxes b n hb with ⟨h1, h2⟩ | ⟨h1, B, cs, ty, h2, h3, h4, h5, h6, h7⟩
    · exact .inl ⟨by rw [getD_swap hT h0]; exact h1, by rw [hφ]; exact h2⟩
    · refine .inr ⟨by rw [getD_swap hT h0]; exact h1, B, cs, ty, by rw [hφ]; exact h2, h3, h4, by rw [hω]; exact h5, by rw [hfr]; exact h6, fun j hj => ?_⟩
      rw [getD_swap hT (by omega)]
      exact (h7 j hj).regh hφ hω hfr (hy _ (by omega))
  fresh B hB := by rw [hω, hfr]; exact h.fresh B hB
theorem Vc.strip_is {a : AV} {v : Value} {L : List Nat} (h : Vc g w L a v) : Vc g w L a.strip v := by
  have h1 := h.c1 L
  cases a with
  | agg cs => cases h with | of0 h => cases h
  | tup cs => cases h with | of0 h => cases h
  | _ => exact h1
theorem Rel.weak1 (hl : LayOk f) (h : Rel f g w l tm) (x : Nat) : Rel f g w (l.set x (l.getD x .dead).strip) tm where
  len := by simp [h.len]
  size := h.size
  slots t ht := by
    by_cases e : x = t
    · subst e
      rcases Nat.lt_or_ge x l.length with hx | hx
      · rw [getD_set_eq _ _ hx]; exact (h.slots x ht).strip [x]
      · rw [List.set_eq_of_length_le hx]; exact h.slots x ht
    · rw [getD_set_ne _ _ e]; exact h.slots t ht
  boxes b n hb := by
    have hw := hl.within b n hb
    have hget : ∀ y, y < l.length → (l.set x (l.getD x .dead).strip).getD y .dead = if x = y then (l.getD y .dead).strip else l.getD y .dead := fun y hy => by
      by_cases e : x = y
      · subst e; rw [if_pos rfl, getD_set_eq _ _ hy]
      · rw [if_neg e, getD_set_ne _ _ e]
    have hbl : b < l.length := by rw [h.len]; omega
    rcases h.boxes b n hb with ⟨h1, h2⟩ | ⟨h1, B, cs, ty, h2, h3, h4, h5, h6, h7⟩
    · exact .inl ⟨by rw [hget b hbl, h1]; split <;> rfl, h2⟩
    · refine .inr ⟨by rw [hget b hbl, h1]; split <;> rfl, B, cs, ty, h2, h3, h4, h5, h6, fun j hj => ?_⟩
      rw [hget _ (by rw [h.len]; omega)]
      split
      · exact (h7 j hj).strip_is
      · exact h7 j hj
  fresh := h.fresh
theorem Rel.weaken (hl : LayOk f) : ∀ (xs : List Nat) {l : List AV}, Rel f g w l tm → Rel f g w (weaken xs l) tm
  | [], _, h => h
  | x :: xs, _, h => Rel.weaken hl xs (h.weak1 hl x)
theorem hd_one {s x : Nat} : isHd [(s, 0)] x = Nat.beq s x := by simp [isHd]
theorem V0.rekey {a : AV} {v : Value} (h : V0 g w a v) (φ' : Nat → Option Nat) : V0 { g with φ := φ' } w a v :=
  V0.mono (g := g) (w := w) (g' := { g with φ := φ' }) (w' := w) ⟨fun _ _ _ _ h => h, fun _ n' _ _ _ h => ⟨n', h, Nat.le_refl _⟩⟩ h
theorem Rel.rekey (hl : LayOk f) (h : Rel f g w l tm) {s : Nat} (hs : s < f.nt) (hn : l.all (noptr [(s, 0)]) = true) (φ' : Nat → Option Nat) (hφ : ∀ x, x ≠ s → φ' x = g.φ x) : Rel f { g with φ := φ' } w l tm := by
  have hnp : ∀ t, noptr [(s, 0)] (l.getD t .dead) = true := fun t => by
    rcases Nat.lt_or_ge t l.length with ht | ht
    · rw [List.getD_eq_getElem?_getD, List.getElem?_eq_getElem ht]
      exact List.all_eq_true.1 hn _ (List.getElem_mem ht)
    · rw [List.getD_eq_getElem?_getD, List.getElem?_eq_none ht]; rfl
  have hd : ∀ x B, (g.drop [(s, 0)]).φ x = some B → φ' x = some B := fun x B hB => by
    have hB' : cond (isHd [(s, 0)] x) none (g.φ x) = some B := hB
    rw [hd_one] at hB'
    by_cases e : x = s
    · subst e; simp at hB'
    · rw [hφ x e]
      have : Nat.beq s x = false := by
        cases hb : Nat.beq s x with
        | false => rfl
        | true => exact absurd (nbeq hb).symm e
      rwa [this] at hB'
  have p : Pres (g.drop [(s, 0)]) w { g with φ := φ' } w := ⟨⟨fun _ _ _ _ h => h, fun _ n' _ _ _ h => ⟨n', h, Nat.le_refl _⟩⟩, hd, rfl⟩
  refine ⟨h.len, h.size, fun t ht => ((h.slots t ht).drop (hnp t)).move p fun B q hq => ⟨hq, rfl, rfl⟩, fun b n hb => ?_, h.fresh⟩
  have hw := hl.within b n hb
  rcases h.boxes b n hb with ⟨h1, h2⟩ | ⟨h1, B, cs, ty, h2, h3, h4, h5, h6, h7⟩
  · exact .inl ⟨h1, by show φ' b = none; rw [hφ b (by omega)]; exact h2⟩
  · exact .inr ⟨h1, B, cs, ty, by show φ' b = some B; rw [hφ b (by omega)]; exact h2, h3, h4, h5, h6, fun j hj => ((h7 j hj).drop (hnp _)).move p fun B q hq => ⟨hq, rfl, rfl⟩⟩
theorem Ext.rekey (g : Gh) (w : World) {s : Nat} (hp : g.pin s = false) (φ' : Nat → Option Nat) (hφ : ∀ x, x ≠ s → φ' x = g.φ x) : Ext g w { g with φ := φ' } w :=
  ⟨rfl, rfl, rfl, Nat.le_refl _, fun _ _ h => ⟨rfl, h, rfl⟩, fun _ _ _ _ => rfl, fun _ n' _ h => ⟨n', h, Nat.le_refl _⟩, fun b B hb hB => by
    show φ' b = some B
    rw [hφ b fun e => by subst e; rw [hp] at hb; cases hb]; exact hB, rfl, rfl⟩
theorem brw_in (hl : LayOk f) (h : Rel f g w l tm) {s : Nat} (hs : s < f.nt) (hp : g.pin s = false) {l1 : List AV} (hb : brwIn s l = some l1) : ∃ g1, Rel f g1 w l1 tm ∧ Ext g w g1 w := by
  unfold brwIn at hb
  split at hb <;> try cases hb
  rename_i sz n gt hu
  obtain ⟨hn, hb⟩ := cond_some hb
  cases hb
  have hun := h.slots s hs
  rw [hu] at hun
  have hun := hun.un_inv
  have hR := h.setA hl hs (a := .dead) (.dead _)
  obtain ⟨φ', hφ, hun'⟩ : ∃ φ' : Nat → Option Nat, (∀ x, x ≠ s → φ' x = g.φ x) ∧ Un { g with φ := φ' } w [s] (some s) sz n gt (tm.getD s undef) := by
    rcases hun with h0 | ⟨B, c, cs, ty, h1, h2, h3, h4, h5, h6, h7, h8, _⟩
    · exact ⟨g.φ, fun _ _ => rfl, .inl h0⟩
    · exact ⟨fun x => if x = s then some B else g.φ x, fun x hx => if_neg hx, .inr ⟨B, c, cs, ty, h1, h2, h3, h4, h5, h6, h7, fun i j a hi ha => (h8 i j a hi ha).rekey _, fun s' e => by cases e; exact if_pos rfl⟩⟩
  have hR2 := (hR.rekey hl hs hn φ' hφ).setA hl hs (a := .un (some s) sz n gt) (.c (.c (.un _ _ _ _ _ hun')))
  rw [List.set_set] at hR2
  exact ⟨_, hR2, Ext.rekey g w hp φ' hφ⟩
theorem brw_out (hl : LayOk f) (h : Rel f g w l tm) {s : Nat} (hs : s < f.nt) (hp : g.pin s = false) {l1 : List AV} (hb : brwOut s l = some l1) : ∃ g1, Rel f g1 w l1 tm ∧ Ext g w g1 w := by
  unfold brwOut at hb
  split at hb <;> try cases hb
  rename_i s' sz n gt hu
  obtain ⟨hn, hb⟩ := cond_some hb
  cases hb
  simp only [Bool.and_eq_true] at hn
  have hun := h.slots s hs
  rw [hu] at hun
  have hun := hun.un_inv
  have hR := h.setA hl hs (a := .dead) (.dead _)
  have hφ : ∀ x, x ≠ s → (fun x => if x = s then none else g.φ x) x = g.φ x := fun x hx => if_neg hx
  have hun' : Un { g with φ := fun x => if x = s then none else g.φ x } w [s] none sz n gt (tm.getD s undef) := by
    rcases hun with h0 | ⟨B, c, cs, ty, h1, h2, h3, h4, h5, h6, h7, h8, _⟩
    · exact .inl h0
    · exact .inr ⟨B, c, cs, ty, h1, h2, h3, h4, h5, h6, h7, fun i j a hi ha => (h8 i j a hi ha).rekey _, fun s' e => by cases e⟩
  have hR2 := (hR.rekey hl hs hn.2 _ hφ).setA hl hs (a := .un none sz n gt) (.c (.c (.un _ _ _ _ _ hun')))
  rw [List.set_set] at hR2
  exact ⟨_, hR2, Ext.rekey g w hp _ hφ⟩
theorem cell_loop {w : World} {y j : Nat} {r : Loop} (h : w.heap[y]? = some (.loop r)) : w.cell? ⟨y, j, none⟩ = none := by
  unfold World.cell?
  simp only [h]
theorem Rel.record (h : Rel f g w l tm) {y : Nat} {r r' : Loop} (hy : w.heap[y]? = some (.loop r)) (ho : g.ω y = none) : Rel f g (w.putObj y (.loop r')) l tm := h.putO _ (fun j => cell_loop hy) ho
theorem Ext.record {g1 g3 : Gh} {w1 w3 : World} {y : Nat} {r r1 : Loop} (h : Ext g w g1 w1) (hy : w.heap[y]? = some (.loop r)) (ho : g.ω y = none) (k : Ext g1 (w1.putObj y (.loop r1)) g3 w3) : Ext g w g3 (w3.putObj y (.loop r)) := by
  have hlt : y < w.heap.size := (Array.getElem?_eq_some_iff.1 hy).1
  have s1 : (w1.putObj y (.loop r1)).heap.size = w1.heap.size := World.putObj_size
  have s3 : (w3.putObj y (.loop r)).heap.size = w3.heap.size := World.putObj_size
  have hle : w.heap.size ≤ w3.heap.size := Nat.le_trans h.size (by have := k.size; rw [s1] at this; exact this)
  have e3 : (w3.putObj y (.loop r)).heap[y]? = some (.loop r) := World.putObj_heap_same (by omega)
  refine ⟨k.os.trans h.os, k.tape.trans h.tape, k.output.trans h.output, by rw [s3]; exact hle, fun B hB hB0 => ?_, fun B j hB hj => ?_, fun B n' hB hn' => ?_, fun b B hp hB => ?_, k.pin.trans h.pin, k.yl.trans h.yl⟩
  · obtain ⟨a1, a2, a3⟩ := h.out B hB hB0
    obtain ⟨b1, b2, b3⟩ := k.out B (by rw [s1]; exact Nat.lt_of_lt_of_le hB h.size) a2
    refine ⟨?_, b2, b3.trans a3⟩
    by_cases e : B = y
    · subst e; rw [e3, hy]
    · rw [World.putObj_heap_other e, b1, World.putObj_heap_other e, a1]
  · by_cases e : B = y
    · subst e; rw [cell_loop e3, cell_loop hy]
    · rw [cell_putObj w3 e, k.cell B j (by rw [s1]; exact Nat.lt_of_lt_of_le hB h.size) (fun n' hn' => ?_), cell_putObj w1 e, h.cell B j hB hj]
      obtain ⟨n, hn, hle⟩ := h.fr B n' hB hn'
      exact Nat.lt_of_lt_of_le (hj n hn) hle
  · obtain ⟨n1, h1, hle1⟩ := k.fr B n' (by rw [s1]; exact Nat.lt_of_lt_of_le hB h.size) hn'
    obtain ⟨n, h2, hle2⟩ := h.fr B n1 hB h1
    exact ⟨n, h2, Nat.le_trans hle2 hle1⟩
  · exact k.φ b B (by rw [h.pin]; exact hp) (h.φ b B hp hB)
end
end Go.Proofs.Ytafnmkbehjbkdaa.M
