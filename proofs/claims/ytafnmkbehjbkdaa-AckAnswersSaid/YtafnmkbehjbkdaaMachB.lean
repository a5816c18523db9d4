/- How the small machine's values and frames stand to the model's memory. -/
import Derived.Test.YtafnmkbehjbkdaaMachA
set_option linter.unusedVariables false
set_option linter.unusedSimpArgs false
namespace Go.Proofs.Ytafnmkbehjbkdaa.M
open Go Go.RowKit
inductive Own where
  | box (h : Nat)
  | row (L : List Nat)
structure Gh where
  φ : Nat → Option Nat
  ω : Nat → Option Own
  fr : Nat → Option Nat
  pin : Nat → Bool
  yl : Nat
def Frz (g : Gh) (B e : Nat) : Prop := ∀ n, g.fr B = some n → e ≤ n
inductive V0 (g : Gh) (w : World) : AV → Value → Prop
  | sc (v : Value) (h : v.oneCell' = true) : V0 g w (.sc v) v
  | nil (sz : Nat) (get : Nat → List AV) : V0 g w (.row false sz 0 get) (.slice none 0 0)
  | zero (p : Addr) (sz : Nat) (get : Nat → List AV) : V0 g w (.row false sz 0 get) (.slice (some p) 0 0)
  | row (sz n : Nat) (get : Nat → List AV) (B o c : Nat) (val : Nat → Nat → Value) (hn : n ≤ c) (hfz : n * sz = 0 ∨ Frz g B (o + n * sz))
      (hlen : ∀ i, i < n → (get i).length = sz)
      (hcell : ∀ i j, i < n → j < sz → w.cell? ⟨B, o + i * sz + j, none⟩ = some (val i j))
      (hel : ∀ (i j : Nat) (a : AV), i < n → (get i)[j]? = some a → V0 g w a (val i j)) : V0 g w (.row false sz n get) (.slice (some ⟨B, o, none⟩) n c)
def Owned (g : Gh) (w : World) (L : List Nat) (B o n c sz : Nat) : Prop :=
  g.ω B = some (.row L) ∧ o = 0 ∧ g.fr B = some (n * sz) ∧ ∃ cs ty, w.heap[B]? = some (.cells cs ty (0, 0)) ∧ c * sz ≤ cs.size
def Un (g : Gh) (w : World) (L : List Nat) (k : Option Nat) (sz n : Nat) (get : Nat → List AV) (v : Value) : Prop :=
  (n = 0 ∧ ∃ p : Option Addr, v = .slice p 0 0) ∨ ∃ B c cs ty, v = .slice (some ⟨B, 0, none⟩) n c ∧ n ≤ c ∧ g.ω B = some (.row L) ∧ g.fr B = some 0 ∧ w.heap[B]? = some (.cells cs ty (0, 0)) ∧ c * sz ≤ cs.size ∧
    (∀ i, i < n → (get i).length = sz) ∧ (∀ (i j : Nat) (a : AV), i < n → (get i)[j]? = some a → V0 g w a (cs.getD (i * sz + j) undef)) ∧ ∀ s, k = some s → g.φ s = some B
inductive Vc (g : Gh) (w : World) (L : List Nat) : AV → Value → Prop
  | dead (v : Value) : Vc g w L .dead v
  | of0 {a : AV} {v : Value} (h : V0 g w a v) : Vc g w L a v
  | nil (sz : Nat) (get : Nat → List AV) : Vc g w L (.row true sz 0 get) (.slice none 0 0)
  | zero (p : Addr) (sz : Nat) (get : Nat → List AV) : Vc g w L (.row true sz 0 get) (.slice (some p) 0 0)
  | row (sz n : Nat) (get : Nat → List AV) (B o c : Nat) (h0 : V0 g w (.row false sz n get) (.slice (some ⟨B, o, none⟩) n c))
      (ho : c = n ∨ Owned g w L B o n c sz) : Vc g w L (.row true sz n get) (.slice (some ⟨B, o, none⟩) n c)
  | elt (cs : List AV) (B o : Nat) (val : Nat → Value) (hfz : cs.length = 0 ∨ Frz g B (o + cs.length))
      (hcell : ∀ j, j < cs.length → w.cell? ⟨B, o + j, none⟩ = some (val j)) (hel : ∀ (j : Nat) (a : AV), cs[j]? = some a → V0 g w a (val j)) : Vc g w L (.elt cs) (.pointer (some ⟨B, o, none⟩))
  | ptr (h j B : Nat) (hB : g.φ h = some B) : Vc g w L (.ptr h j) (.pointer (some ⟨B, j, none⟩))
  | clo (f : Nat) (caps : List (Nat × Nat)) (vs : List Value) (hl : vs.length = caps.length)
      (hv : ∀ (i h j : Nat) (v : Value), caps[i]? = some (h, j) → vs[i]? = some v → ∃ B, g.φ h = some B ∧ v = Value.pointer (some ⟨B, j, none⟩)) : Vc g w L (.clo f caps) (.func (.func f) #[] vs.toArray)
  | yld (y : Nat) (h : g.yl = y) : Vc g w L .yld (.func (.yield y) #[] #[])
  | un (k : Option Nat) (sz n : Nat) (get : Nat → List AV) (v : Value) (h : Un g w L k sz n get v) : Vc g w L (.un k sz n get) v
  | ur (k sz n : Nat) (v : Value) (h : (n = 0 ∧ ∃ p : Option Addr, v = .slice p 0 0) ∨ ∃ B c, v = .slice (some ⟨B, 0, none⟩) n c ∧ g.φ k = some B) : Vc g w L (.ur k sz n) v
  | up (k sz q off B : Nat) (h : g.φ k = some B) : Vc g w L (.up k sz q off) (.pointer (some ⟨B, q * sz + off, none⟩))
inductive V2 (g : Gh) (w : World) (L : List Nat) : AV → Value → Prop
  | c {a : AV} {v : Value} (h : Vc g w L a v) : V2 g w L a v
  | agg (cs : List AV) (vs : List Value) (hl : cs.length = vs.length) (h : ∀ (i : Nat) (a : AV) (v : Value), cs[i]? = some a → vs[i]? = some v → Vc g w (L ++ [i]) a v) : V2 g w L (.agg cs) (.agg vs.toArray)
inductive V3 (g : Gh) (w : World) (L : List Nat) : AV → Value → Prop
  | c {a : AV} {v : Value} (h : V2 g w L a v) : V3 g w L a v
  | tup (cs : List AV) (vs : List Value) (hl : cs.length = vs.length) (h : ∀ (i : Nat) (a : AV) (v : Value), cs[i]? = some a → vs[i]? = some v → V2 g w (L ++ [i]) a v) : V3 g w L (.tup cs) (.tuple vs.toArray)
theorem V3.dead {g : Gh} {w : World} {L : List Nat} (v : Value) : V3 g w L .dead v := .c (.c (.dead v))
theorem V3.sc {g : Gh} {w : World} {L : List Nat} {v : Value} (h : v.oneCell' = true) : V3 g w L (.sc v) v := .c (.c (.of0 (.sc v h)))
structure PresC (g : Gh) (w : World) (g' : Gh) (w' : World) : Prop where
  cell : ∀ B j v, (∀ n, g.fr B = some n → j < n) → w.cell? ⟨B, j, none⟩ = some v → w'.cell? ⟨B, j, none⟩ = some v
  fr : ∀ B n' v j, w.cell? ⟨B, j, none⟩ = some v → g'.fr B = some n' → ∃ n, g.fr B = some n ∧ n ≤ n'
structure Pres (g : Gh) (w : World) (g' : Gh) (w' : World) : Prop extends PresC g w g' w' where
  φ : ∀ h B, g.φ h = some B → g'.φ h = some B
  yl : g'.yl = g.yl
theorem V0.mono {g g' : Gh} {w w' : World} (p : PresC g w g' w') {a : AV} {v : Value} (h : V0 g w a v) : V0 g' w' a v := by
  induction h with
  | sc v h => exact .sc v h
  | nil sz get => exact .nil sz get
  | zero p sz get => exact .zero p sz get
  | row sz n get B o c val hn hfz hlen hcell hel ih =>
    by_cases h0 : n * sz = 0
    · refine .row sz n get B o c val hn (.inl h0) hlen (fun i j hi hj => ?_) ih
      rcases Nat.mul_eq_zero.1 h0 with h0 | h0 <;> omega
    · have hf : Frz g B (o + n * sz) := hfz.resolve_left h0
      have hn0 : 0 < n := Nat.pos_of_ne_zero fun h => h0 (by simp [h])
      have hs0 : 0 < sz := Nat.pos_of_ne_zero fun h => h0 (by simp [h])
      have hc0 := hcell 0 0 hn0 hs0
      refine .row sz n get B o c val hn (.inr fun n' hn' => ?_) hlen (fun i j hi hj => p.cell _ _ _ (fun m hm => ?_) (hcell i j hi hj)) ih
      · obtain ⟨m, hm, hle⟩ := p.fr B n' _ _ hc0 hn'
        exact Nat.le_trans (hf m hm) hle
      · have h1 := hf m hm
        have h2 : i * sz + sz ≤ n * sz := by rw [← Nat.succ_mul]; exact Nat.mul_le_mul_right _ hi
        omega
def OwnSame (g : Gh) (w : World) (g' : Gh) (w' : World) (L L' : List Nat) : Prop :=
  ∀ B p, g.ω B = some (.row (L ++ p)) → g'.ω B = some (.row (L' ++ p)) ∧ g'.fr B = g.fr B ∧ w'.heap[B]? = w.heap[B]?
theorem Un.move {g g' : Gh} {w w' : World} (p : PresC g w g' w') {L L' : List Nat} (hO : OwnSame g w g' w' L L') {k : Option Nat} {sz n : Nat} {get : Nat → List AV} {v : Value} (hφ : ∀ s B, k = some s → g.φ s = some B → g'.φ s = some B) (h : Un g w L k sz n get v) : Un g' w' L' k sz n get v := by
  rcases h with h | ⟨B, c, cs, ty, h1, h2, h3, h4, h5, h6, h7, h8, h9⟩
  · exact .inl h
  · obtain ⟨k1, k2, k3⟩ := hO B [] (by simpa using h3)
    exact .inr ⟨B, c, cs, ty, h1, h2, by simpa using k1, k2.trans h4, k3.trans h5, h6, h7, fun i j a hi ha => (h8 i j a hi ha).mono p, fun s hs => hφ s B hs (h9 s hs)⟩
theorem Vc.move {g g' : Gh} {w w' : World} (p : Pres g w g' w') {L L' : List Nat} (hO : OwnSame g w g' w' L L') {a : AV} {v : Value} (h : Vc g w L a v) : Vc g' w' L' a v := by
  cases h with
  | dead v => exact .dead v
  | of0 h => exact .of0 (h.mono p.toPresC)
  | nil sz get => exact .nil sz get
  | zero p sz get => exact .zero p sz get
  | row sz n get B o c h0 ho =>
    refine .row sz n get B o c (h0.mono p.toPresC) (ho.imp id fun ⟨h1, h2, h3, cs, ty, h4, h5⟩ => ?_)
    obtain ⟨k1, k2, k3⟩ := hO B [] (by simpa using h1)
    exact ⟨by simpa using k1, h2, k2.trans h3, cs, ty, k3.trans h4, h5⟩
  | elt cs B o val hfz hcell hel =>
    by_cases h0 : cs.length = 0
    · exact .elt cs B o val (.inl h0) (fun j hj => by omega) (fun j a ha => (hel j a ha).mono p.toPresC)
    · have hf : Frz g B (o + cs.length) := hfz.resolve_left h0
      refine .elt cs B o val (.inr fun n' hn' => ?_) (fun j hj => p.cell _ _ _ (fun m hm => ?_) (hcell j hj)) (fun j a ha => (hel j a ha).mono p.toPresC)
      · obtain ⟨m, hm, hle⟩ := p.fr B n' _ _ (hcell 0 (by omega)) hn'
        exact Nat.le_trans (hf m hm) hle
      · have := hf m hm; omega
  | ptr h j B hB => exact .ptr h j B (p.φ h B hB)
  | clo f caps vs hl hv =>
    exact .clo f caps vs hl fun i h j v hc hvv => let ⟨B, h1, h2⟩ := hv i h j v hc hvv; ⟨B, p.φ h B h1, h2⟩
  | yld y h => exact .yld y (p.yl.trans h)
  | un k sz n get v h => exact .un k sz n get v (h.move p.toPresC hO fun s B _ => p.φ s B)
  | ur k sz n v h => exact .ur k sz n v (h.imp id fun ⟨B, c, h1, h2⟩ => ⟨B, c, h1, p.φ k B h2⟩)
  | up k sz q off B h => exact .up k sz q off B (p.φ k B h)
theorem OwnSame.sub {g g' : Gh} {w w' : World} {L L' : List Nat} (h : OwnSame g w g' w' L L') (i : Nat) : OwnSame g w g' w' (L ++ [i]) (L' ++ [i]) := fun B p hp => by
  have := h B (i :: p) (by simpa using hp)
  simpa using this
theorem V2.move {g g' : Gh} {w w' : World} (p : Pres g w g' w') {L L' : List Nat} (hO : OwnSame g w g' w' L L') {a : AV} {v : Value} (h : V2 g w L a v) : V2 g' w' L' a v := by
  cases h with
  | c h => exact .c (h.move p hO)
  | agg cs vs hl h => exact .agg cs vs hl fun i a v ha hv => (h i a v ha hv).move p (hO.sub i)
theorem V3.move {g g' : Gh} {w w' : World} (p : Pres g w g' w') {L L' : List Nat} (hO : OwnSame g w g' w' L L') {a : AV} {v : Value} (h : V3 g w L a v) : V3 g' w' L' a v := by
  cases h with
  | c h => exact .c (h.move p hO)
  | tup cs vs hl h => exact .tup cs vs hl fun i a v ha hv => (h i a v ha hv).move p (hO.sub i)
theorem Pres.refl (g : Gh) (w : World) : Pres g w g w := ⟨⟨fun _ _ _ _ h => h, fun _ n' _ _ _ h => ⟨n', h, Nat.le_refl _⟩⟩, fun _ _ h => h, rfl⟩
theorem Vc.moveC {g g' : Gh} {w w' : World} (p : Pres g w g' w') {L : List Nat} (L' : List Nat) {a : AV} {v : Value} (h : Vc g w L a v) : Vc g' w' L' a.c1 v := by
  cases h with
  | dead v => exact .dead v
  | of0 h =>
    have h' := h.mono p.toPresC
    cases h with
    | _ => exact .of0 h'
  | nil sz get => exact .of0 (.nil sz get)
  | zero p sz get => exact .of0 (.zero p sz get)
  | row sz n get B o c h0 ho => exact .of0 (h0.mono p.toPresC)
  | elt cs B o val hfz hcell hel =>
    by_cases h0 : cs.length = 0
    · exact .elt cs B o val (.inl h0) (fun j hj => by omega) (fun j a ha => (hel j a ha).mono p.toPresC)
    · have hf : Frz g B (o + cs.length) := hfz.resolve_left h0
      refine .elt cs B o val (.inr fun n' hn' => ?_) (fun j hj => p.cell _ _ _ (fun m hm => ?_) (hcell j hj)) (fun j a ha => (hel j a ha).mono p.toPresC)
      · obtain ⟨m, hm, hle⟩ := p.fr B n' _ _ (hcell 0 (by omega)) hn'
        exact Nat.le_trans (hf m hm) hle
      · have := hf m hm; omega
  | ptr h j B hB => exact .ptr h j B (p.φ h B hB)
  | clo f caps vs hl hv =>
    exact .clo f caps vs hl fun i h j v hc hvv => let ⟨B, h1, h2⟩ := hv i h j v hc hvv; ⟨B, p.φ h B h1, h2⟩
  | yld y h => exact .yld y (p.yl.trans h)
  | un k sz n get v h => exact .dead v
  | ur k sz n v h => exact .ur k sz n v (h.imp id fun ⟨B, c, h1, h2⟩ => ⟨B, c, h1, p.φ k B h2⟩)
  | up k sz q off B h => exact .up k sz q off B (p.φ k B h)
theorem V2.moveC {g g' : Gh} {w w' : World} (p : Pres g w g' w') {L : List Nat} (L' : List Nat) {a : AV} {v : Value} (h : V2 g w L a v) : V2 g' w' L' a.c2 v := by
  cases h with
  | c h =>
    have h' := h.moveC p L'
    cases h with
    | of0 h0 => cases h0 <;> exact .c h'
    | _ => exact .c h'
  | agg cs vs hl h =>
    refine .agg _ vs (by simpa using hl) fun i a v ha hv => ?_
    rw [List.getElem?_map] at ha
    cases hc : cs[i]? with
    | none => rw [hc] at ha; cases ha
    | some b => rw [hc] at ha; cases ha; exact (h i b v hc hv).moveC p _
theorem V3.moveC {g g' : Gh} {w w' : World} (p : Pres g w g' w') {L : List Nat} (L' : List Nat) {a : AV} {v : Value} (h : V3 g w L a v) : V3 g' w' L' a.strip v := by
  cases h with
  | c h =>
    have h' := h.moveC p L'
    cases h with
    | c h1 =>
      cases h1 with
      | of0 h0 => cases h0 <;> exact .c h'
      | _ => exact .c h'
    | agg cs vs hl h => exact .c h'
  | tup cs vs hl h =>
    refine .tup _ vs (by simpa using hl) fun i a v ha hv => ?_
    rw [List.getElem?_map] at ha
    cases hc : cs[i]? with
    | none => rw [hc] at ha; cases ha
    | some b => rw [hc] at ha; cases ha; exact (h i b v hc hv).moveC p _
theorem Vc.c1 {g : Gh} {w : World} {L : List Nat} (L' : List Nat) {a : AV} {v : Value} (h : Vc g w L a v) : Vc g w L' a.c1 v := h.moveC (.refl _ _) L'
theorem V2.c2 {g : Gh} {w : World} {L : List Nat} (L' : List Nat) {a : AV} {v : Value} (h : V2 g w L a v) : V2 g w L' a.c2 v := h.moveC (.refl _ _) L'
theorem V3.strip {g : Gh} {w : World} {L : List Nat} (L' : List Nat) {a : AV} {v : Value} (h : V3 g w L a v) : V3 g w L' a.strip v := h.moveC (.refl _ _) L'
def Inert (a : AV) : Prop := a.strip = a
theorem c1_c1 (a : AV) : a.c1.c1 = a.c1 := by cases a <;> rfl
theorem c2_c2 (a : AV) : a.c2.c2 = a.c2 := by
  cases a <;> try rfl
  simp only [AV.c2, List.map_map, AV.agg.injEq]
  exact List.map_congr_left fun a _ => c1_c1 a
theorem strip_strip (a : AV) : a.strip.strip = a.strip := by
  cases a <;> try rfl
  · simp only [AV.strip, AV.c2, List.map_map, AV.agg.injEq]
    exact List.map_congr_left fun a _ => c1_c1 a
  · simp only [AV.strip, List.map_map, AV.tup.injEq]
    exact List.map_congr_left fun a _ => c2_c2 a
theorem V3.inert {g g' : Gh} {w w' : World} (p : Pres g w g' w') {L : List Nat} (L' : List Nat) {a : AV} {v : Value} (hi : Inert a) (h : V3 g w L a v) : V3 g' w' L' a v := by
  have := h.moveC p L'
  rwa [hi] at this
theorem Vc.inert {g g' : Gh} {w w' : World} (p : Pres g w g' w') {L : List Nat} (L' : List Nat) {a : AV} {v : Value} (hi : Inert a) (h : Vc g w L a v) : Vc g' w' L' a v := by
  have h1 := h.moveC p L'
  cases a <;> first | exact h1 | (exfalso; simp [Inert, AV.strip, AV.c2, AV.c1] at hi; done) | (simp [Inert, AV.strip, AV.c2, AV.c1] at hi; subst hi; exact h1) | (cases h <;> rename_i h0 <;> cases h0)
structure Ext (g : Gh) (w : World) (g' : Gh) (w' : World) : Prop where
  os : w'.os = w.os
  tape : w'.tape = w.tape
  output : w'.output = w.output
  size : w.heap.size ≤ w'.heap.size
  out : ∀ B, B < w.heap.size → g.ω B = none → w'.heap[B]? = w.heap[B]? ∧ g'.ω B = none ∧ g'.fr B = g.fr B
  cell : ∀ B j, B < w.heap.size → (∀ n, g.fr B = some n → j < n) → w'.cell? ⟨B, j, none⟩ = w.cell? ⟨B, j, none⟩
  fr : ∀ B n', B < w.heap.size → g'.fr B = some n' → ∃ n, g.fr B = some n ∧ n ≤ n'
  φ : ∀ h B, g.pin h = true → g.φ h = some B → g'.φ h = some B
  pin : g'.pin = g.pin
  yl : g'.yl = g.yl
theorem Ext.refl (g : Gh) (w : World) : Ext g w g w := ⟨rfl, rfl, rfl, Nat.le_refl _, fun _ _ h => ⟨rfl, h, rfl⟩, fun _ _ _ _ => rfl, fun _ n' _ h => ⟨n', h, Nat.le_refl _⟩, fun _ _ _ h => h, rfl, rfl⟩
theorem Ext.trans {g g1 g2 : Gh} {w w1 w2 : World} (h : Ext g w g1 w1) (k : Ext g1 w1 g2 w2) : Ext g w g2 w2 where
  os := k.os.trans h.os
  tape := k.tape.trans h.tape
  output := k.output.trans h.output
  size := Nat.le_trans h.size k.size
  out B hB ho := by
    obtain ⟨a1, a2, a3⟩ := h.out B hB ho
    obtain ⟨b1, b2, b3⟩ := k.out B (Nat.lt_of_lt_of_le hB h.size) a2
    exact ⟨b1.trans a1, b2, b3.trans a3⟩
  cell B j hB hj := by
    refine (k.cell B j (Nat.lt_of_lt_of_le hB h.size) fun n' hn' => ?_).trans (h.cell B j hB hj)
    obtain ⟨n, hn, hle⟩ := h.fr B n' hB hn'
    exact Nat.lt_of_lt_of_le (hj n hn) hle
  fr B n' hB hn' := by
    obtain ⟨n1, h1, hle1⟩ := k.fr B n' (Nat.lt_of_lt_of_le hB h.size) hn'
    obtain ⟨n, h2, hle2⟩ := h.fr B n1 hB h1
    exact ⟨n, h2, Nat.le_trans hle2 hle1⟩
  φ h' B hp hB := k.φ h' B (by rw [h.pin]; exact hp) (h.φ h' B hp hB)
  pin := k.pin.trans h.pin
  yl := k.yl.trans h.yl
theorem Ext.pres {g g' : Gh} {w w' : World} (h : Ext g w g' w') (hφ : ∀ h B, g.φ h = some B → g'.φ h = some B) : Pres g w g' w' where
  φ := hφ
  cell B j v hf hc := (h.cell B j (World.block_lt_of_cell? w _ hc) hf).trans hc
  fr B n' v j hc hn := h.fr B n' (World.block_lt_of_cell? w _ hc) hn
  yl := h.yl
def BoxRel (g : Gh) (w : World) (l : List AV) (h n : Nat) : Prop :=
  (l.getD h .dead = .dead ∧ g.φ h = none) ∨ (l.getD h .dead = .hdr n ∧ ∃ B cs ty, g.φ h = some B ∧ w.heap[B]? = some (.cells cs ty (0, 0)) ∧ cs.size = n ∧ g.ω B = some (.box h) ∧ g.fr B = some 0 ∧
    ∀ j, j < n → Vc g w [h + 1 + j] (l.getD (h + 1 + j) .dead) (cs.getD j undef))
structure Rel (f : IFn) (g : Gh) (w : World) (l : List AV) (tm : Array Value) : Prop where
  len : l.length = f.total
  size : tm.size = f.nt
  slots : ∀ t, t < f.nt → V3 g w [t] (l.getD t .dead) (tm.getD t undef)
  boxes : ∀ h n, (h, n) ∈ f.lay → BoxRel g w l h n
  fresh : ∀ B, w.heap.size ≤ B → g.ω B = none ∧ g.fr B = some 0
structure LayOk (f : IFn) : Prop where
  nt : f.nt ≤ f.total
  within : ∀ h n, (h, n) ∈ f.lay → f.nt ≤ h ∧ h + n < f.total
  apart : ∀ h n h' n', (h, n) ∈ f.lay → (h', n') ∈ f.lay → (h = h' ∧ n = n') ∨ h + n < h' ∨ h' + n' < h
theorem getD_set (l : List AV) (i j : Nat) (a : AV) : (l.set i a).getD j .dead = if i = j ∧ i < l.length then a else l.getD j .dead := by
  simp only [List.getD_eq_getElem?_getD, List.getElem?_set]
  by_cases h : i = j
  · subst h
    by_cases hl : i < l.length
    · simp [hl]
    · simp [hl, List.getElem?_eq_none (Nat.le_of_not_lt hl)]
  · simp [h]
theorem getD_set_ne (l : List AV) {i j : Nat} (a : AV) (h : i ≠ j) : (l.set i a).getD j .dead = l.getD j .dead := by rw [getD_set, if_neg (fun x => h x.1)]
theorem getD_set_eq (l : List AV) {i : Nat} (a : AV) (h : i < l.length) : (l.set i a).getD i .dead = a := by rw [getD_set, if_pos ⟨rfl, h⟩]
theorem tm_set (tm : Array Value) (d t : Nat) (u : Value) : (tm.setIfInBounds d u).getD t undef = if d = t ∧ d < tm.size then u else tm.getD t undef := by
  simp only [Array.getD_eq_getD_getElem?, Array.getElem?_setIfInBounds]
  by_cases h : d = t
  · subst h
    by_cases hl : d < tm.size
    · simp [hl]
    · simp [hl, Array.getElem?_eq_none (Nat.le_of_not_lt hl)]
  · simp [h]
section
variable {f : IFn} {g : Gh} {w : World} {l : List AV} {tm : Array Value}
theorem Rel.setSlot (hl : LayOk f) (h : Rel f g w l tm) {d : Nat} (hd : d < f.nt) {a : AV} {u : Value} (hv : V3 g w [d] a u) : Rel f g w (l.set d a) (tm.setIfInBounds d u) where
  len := by simp [h.len]
  size := by simp [h.size]
  slots t ht := by
    have hdl : d < l.length := by rw [h.len]; exact Nat.lt_of_lt_of_le hd hl.nt
    rw [getD_set, tm_set]
    by_cases e : d = t
    · subst e; rw [if_pos ⟨rfl, hdl⟩, if_pos ⟨rfl, by rw [h.size]; exact hd⟩]; exact hv
    · rw [if_neg (fun x => e x.1), if_neg (fun x => e x.1)]; exact h.slots t ht
  boxes b n hb := by
    have hw := hl.within b n hb
    rcases h.boxes b n hb with ⟨h1, h2⟩ | ⟨h1, B, cs, ty, h2, h3, h4, h5, h6, h7⟩
    · exact .inl ⟨by rw [getD_set_ne _ _ (by omega)]; exact h1, h2⟩
    · exact .inr ⟨by rw [getD_set_ne _ _ (by omega)]; exact h1, B, cs, ty, h2, h3, h4, h5, h6, fun j hj => by rw [getD_set_ne _ _ (by omega)]; exact h7 j hj⟩
  fresh := h.fresh
theorem Rel.setA (hl : LayOk f) (h : Rel f g w l tm) {d : Nat} (hd : d < f.nt) {a : AV} (hv : V3 g w [d] a (tm.getD d undef)) : Rel f g w (l.set d a) tm := by
  have h1 := h.setSlot hl hd hv
  have e : tm.setIfInBounds d (tm.getD d undef) = tm := by
    apply Array.ext
    · simp
    · intro i hi hi2
      simp only [Array.getElem_setIfInBounds hi2, Array.getD_eq_getD_getElem?]
      split
      · rename_i e; subst e; simp [hi2]
      · rfl
  rwa [e] at h1
theorem Rel.move (h : Rel f g w l tm) {g' : Gh} {w' : World} (p : Pres g w g' w')
    (hφ : g'.φ = g.φ)
    (hO : ∀ r, ¬ Inert (l.getD r .dead) → OwnSame g w g' w' [r] [r])
    (hbox : ∀ b B, g.φ b = some B → g.ω B = some (.box b) → g'.ω B = some (.box b) ∧ g'.fr B = g.fr B ∧ w'.heap[B]? = w.heap[B]?)
    (hf : ∀ B, w'.heap.size ≤ B → g'.ω B = none ∧ g'.fr B = some 0) : Rel f g' w' l tm where
  len := h.len
  size := h.size
  slots t ht := by
    by_cases hi : Inert (l.getD t .dead)
    · exact (h.slots t ht).inert p _ hi
    · exact (h.slots t ht).move p (hO t hi)
  boxes b n hb := by
    rcases h.boxes b n hb with ⟨h1, h2⟩ | ⟨h1, B, cs, ty, h2, h3, h4, h5, h6, h7⟩
    · exact .inl ⟨h1, by rw [hφ]; exact h2⟩
    · obtain ⟨k1, k2, k3⟩ := hbox b B h2 h5
      refine .inr ⟨h1, B, cs, ty, by rw [hφ]; exact h2, k3.trans h3, h4, k1, k2.trans h6, fun j hj => ?_⟩
      by_cases hi : Inert (l.getD (b + 1 + j) .dead)
      · exact (h7 j hj).inert p _ hi
      · exact (h7 j hj).move p (hO _ hi)
  fresh := hf
end
end Go.Proofs.Ytafnmkbehjbkdaa.M
