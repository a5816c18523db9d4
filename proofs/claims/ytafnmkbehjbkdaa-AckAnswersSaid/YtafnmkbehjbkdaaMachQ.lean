/- Control. -/
import Derived.Test.YtafnmkbehjbkdaaMachPa
import Derived.LoopN
import Derived.LoopNIn
import Derived.RangeFuncRecord
import Derived.Scope
set_option linter.unusedVariables false
set_option linter.unusedSimpArgs false
namespace Go.Proofs.Ytafnmkbehjbkdaa.M
open Go Go.RowKit
section
variable {f : IFn} {g : Gh} {w : World} {l : List AV} {tm : Array Value}
def isHd (hs : List (Nat × Nat)) (h : Nat) : Bool := hs.any fun x => Nat.beq x.1 h
def Gh.drop (g : Gh) (hs : List (Nat × Nat)) : Gh := { g with φ := fun h => cond (isHd hs h) none (g.φ h) }
theorem drop_φ {hs : List (Nat × Nat)} {h B : Nat} (hB : g.φ h = some B) (hn : isHd hs h = false) : (g.drop hs).φ h = some B := by
  show cond (isHd hs h) none (g.φ h) = some B
  rw [hn]; exact hB
theorem all_hd {hs : List (Nat × Nat)} {h : Nat} (h1 : (hs.all fun x => !Nat.beq x.1 h) = true) : isHd hs h = false := by
  unfold isHd
  rw [List.any_eq_false]
  intro x hx e
  have := List.all_eq_true.1 h1 x hx
  rw [e] at this; cases this
theorem Pres.dropC (g : Gh) (w : World) (hs : List (Nat × Nat)) : PresC g w (g.drop hs) w := ⟨fun _ _ _ _ h => h, fun _ n' _ _ _ h => ⟨n', h, Nat.le_refl _⟩⟩
theorem Vc.drop {hs : List (Nat × Nat)} {L : List Nat} {a : AV} {v : Value} (h : Vc g w L a v) (hn : noptr hs a = true) : Vc (g.drop hs) w L a v := by
  cases h with
  | dead v => exact .dead v
  | of0 h => exact .of0 (h.mono (Pres.dropC g w hs))
  | nil sz get => exact .nil sz get
  | zero p sz get => exact .zero p sz get
  | row sz n get B o c h0 ho => exact .row sz n get B o c (h0.mono (Pres.dropC g w hs)) ho
  | elt cs B o val hfz hcell hel => exact .elt cs B o val hfz hcell (fun j a ha => (hel j a ha).mono (Pres.dropC g w hs))
  | ptr h j B hB => exact .ptr h j B (drop_φ hB (all_hd hn))
  | clo f caps vs hl hv =>
    refine .clo f caps vs hl fun i h j v hc hvv => ?_
    obtain ⟨B, h1, h2⟩ := hv i h j v hc hvv
    exact ⟨B, drop_φ h1 (all_hd (List.all_eq_true.1 hn _ (List.mem_of_getElem? hc))), h2⟩
  | yld y h => exact .yld y h
  | un k sz n get v h =>
    refine .un k sz n get v (h.move (Pres.dropC g w hs) (fun B p hp => ⟨hp, rfl, rfl⟩) fun s B hs' hB => ?_)
    subst hs'
    exact drop_φ hB (all_hd hn)
  | ur k sz n v h => exact .ur k sz n v (h.imp id fun ⟨B, c, h1, h2⟩ => ⟨B, c, h1, drop_φ h2 (all_hd hn)⟩)
  | up k sz q off B h => exact .up k sz q off B (drop_φ h (all_hd hn))
theorem V3.drop {hs : List (Nat × Nat)} {L : List Nat} {a : AV} {v : Value} (h : V3 g w L a v) (hn : noptr hs a = true) : V3 (g.drop hs) w L a v := by
  cases h with
  | c h => cases h with
    | c h => exact .c (.c (h.drop hn))
    | agg cs vs hl h =>
      refine .c (.agg cs vs hl fun i a v ha hv => (h i a v ha hv).drop ?_)
      have := List.all_eq_true.1 hn a (List.mem_of_getElem? ha)
      cases a <;> first | exact this | rfl | cases this | (rename_i k _ _ _; cases k <;> first | exact this | rfl)
  | tup cs vs hl h =>
    cases cs with
    | nil => exact .tup [] vs hl fun i a v ha hv => by simp at ha
    | cons => simp [noptr] at hn
theorem kill_len : ∀ (hs : List (Nat × Nat)) (l : List AV), (kill l hs).length = l.length
  | [], l => rfl
  | (h, n) :: r, l => by simp only [kill]; rw [kill_len, len_setMany]
theorem kill_out : ∀ (hs : List (Nat × Nat)) (l : List AV) {t : Nat}, (∀ x ∈ hs, ¬ (x.1 ≤ t ∧ t < x.1 + (x.2 + 1))) → (kill l hs).getD t .dead = l.getD t .dead
  | [], l, t, _ => rfl
  | (h, n) :: r, l, t, hx => by
    simp only [kill]
    rw [kill_out r _ fun x hm => hx x (by simp [hm]), setMany_out _ _ _ fun hm => hx (h, n) (by simp) (mem_rng.1 hm)]
theorem set_dead : ∀ (is : List Nat) (n : Nat) (l : List AV) {t : Nat}, (l.getD t .dead = .dead) → (setMany l is (List.replicate n .dead)).getD t .dead = .dead
  | [], _, _, _, h => by simpa [setMany] using h
  | i :: is, 0, l, t, h => by simpa [setMany] using h
  | i :: is, n + 1, l, t, h => by
    simp only [List.replicate_succ, setMany]
    refine set_dead is n _ ?_
    rw [getD_set]; split <;> first | rfl | exact h
theorem kill_dead : ∀ (hs : List (Nat × Nat)) (l : List AV) {t : Nat}, l.getD t .dead = .dead → (kill l hs).getD t .dead = .dead
  | [], l, t, h => h
  | (h, n) :: r, l, t, hd => by simp only [kill]; exact kill_dead r _ (set_dead _ _ _ hd)
theorem kill_in : ∀ (hs : List (Nat × Nat)) (l : List AV) {h n : Nat}, (h, n) ∈ hs → h < l.length → (kill l hs).getD h .dead = .dead
  | [], l, h, n, hm, _ => by cases hm
  | (h0, n0) :: r, l, h, n, hm, hlt => by
    simp only [kill]
    cases hm with
    | head =>
      refine kill_dead r _ ?_
      simp only [rng, List.replicate_succ, setMany]
      exact set_dead _ _ _ (getD_set_eq _ _ hlt)
    | tail _ hm => exact kill_in r _ hm (by rw [len_setMany]; exact hlt)
theorem Rel.clearSlots (hl : LayOk f) : ∀ {xs : List Nat} {l : List AV}, Rel f g w l tm → (∀ t ∈ xs, t < f.nt) → Rel f g w (setMany l xs (List.replicate xs.length .dead)) tm
  | [], l, h, _ => by simpa [setMany] using h
  | x :: xs, l, h, hx => by
    simp only [List.length_cons, List.replicate_succ, setMany]
    refine Rel.clearSlots hl (h.setA hl (hx x (by simp)) (.dead _)) fun t ht => hx t (by simp [ht])
theorem Rel.kill (hl : LayOk f) (h : Rel f g w l tm) {hs : List (Nat × Nat)} (hx : ∀ x ∈ hs, (x.1, x.2) ∈ f.lay) (hn : (kill l hs).all (noptr hs) = true) : Rel f (g.drop hs) w (kill l hs) tm := by
  have hnp : ∀ t, noptr hs ((M.kill l hs).getD t .dead) = true := fun t => by
    by_cases ht : t < (M.kill l hs).length
    · refine List.all_eq_true.1 hn _ ?_
      rw [List.getD_eq_getElem?_getD, List.getElem?_eq_getElem ht]
      exact List.getElem_mem ht
    · rw [List.getD_eq_getElem?_getD, List.getElem?_eq_none (by omega)]; rfl
  refine ⟨(kill_len _ _).trans h.len, h.size, fun t ht => ?_, fun b n hb => ?_, h.fresh⟩
  · have := hnp t
    rw [kill_out _ _ fun x hm => by have := (hl.within x.1 x.2 (hx x hm)).1; omega] at this ⊢
    exact (h.slots t ht).drop this
  · by_cases hb' : ∃ x ∈ hs, x.1 = b
    · obtain ⟨⟨b0, n0⟩, hm, rfl⟩ := hb'
      have hw := hl.within _ _ (hx _ hm)
      refine .inl ⟨kill_in hs l hm (by rw [h.len]; simp only at hw ⊢; omega), ?_⟩
      show cond (isHd hs b0) none (g.φ b0) = none
      have : isHd hs b0 = true := List.any_eq_true.2 ⟨_, hm, by simp⟩
      rw [this]; rfl
    · have hout : ∀ t, b ≤ t → t ≤ b + n → (M.kill l hs).getD t .dead = l.getD t .dead := fun t h1 h2 => kill_out _ _ fun x hm => by
        rcases hl.apart _ _ _ _ hb (hx x hm) with ⟨e, _⟩ | hh
        · exact absurd ⟨x, hm, e.symm⟩ hb'
        · omega
      have hnh : isHd hs b = false := by
        unfold isHd
        rw [List.any_eq_false]
        intro x hm e
        exact hb' ⟨x, hm, nbeq e⟩
      rcases h.boxes b n hb with ⟨h1, h2⟩ | ⟨h1, B, cs', ty', h2, h3, h4, h5, h6, h7⟩
      · refine .inl ⟨by rw [hout b (Nat.le_refl _) (by omega)]; exact h1, ?_⟩
        show cond (isHd hs b) none (g.φ b) = none
        rw [hnh]; exact h2
      · refine .inr ⟨by rw [hout b (Nat.le_refl _) (by omega)]; exact h1, B, cs', ty', drop_φ h2 hnh, h3, h4, h5, h6, fun j hj => ?_⟩
        have := hnp (b + 1 + j)
        rw [hout _ (by omega) (by omega)] at this ⊢
        exact (h7 j hj).drop this
theorem Ext.drop (g : Gh) (w : World) {hs : List (Nat × Nat)} (hp : ∀ x ∈ hs, g.pin x.1 = false) : Ext g w (g.drop hs) w :=
  ⟨rfl, rfl, rfl, Nat.le_refl _, fun _ _ h => ⟨rfl, h, rfl⟩, fun _ _ _ _ => rfl, fun _ n' _ h => ⟨n', h, Nat.le_refl _⟩, fun b B hb hB => drop_φ hB (by
    unfold isHd
    rw [List.any_eq_false]
    intro x hm e
    have := hp x hm
    rw [nbeq e, hb] at this; cases this), rfl, rfl⟩
theorem clear_ok (hl : LayOk f) (h : Rel f g w l tm) {xs : List Nat} {hs : List (Nat × Nat)} {l' : List AV} (hx : ∀ t ∈ xs, t < f.nt) (hh : ∀ x ∈ hs, (x.1, x.2) ∈ f.lay) (hp : ∀ x ∈ hs, g.pin x.1 = false) (hc : clear xs hs l = some l') :
    ∃ g', Rel f g' w l' tm ∧ Ext g w g' w := by
  unfold clear at hc
  split at hc
  · cases hc; exact ⟨g, Rel.clearSlots hl h hx, Ext.refl _ _⟩
  · obtain ⟨h1, h2⟩ := cond_some hc
    cases h2
    exact ⟨g.drop hs, (Rel.clearSlots hl h hx).kill hl hh h1, Ext.drop g w hp⟩
end
def unscope : Code → Code
  | .scope c => unscope c
  | c => c
def pl (rd : Bool) (c : Code) : Code := match rd with
  | true => c
  | false => unscope c
def Ex.to : Ex → Exit
  | .norm => .normal
  | .exit id => .exit id
  | .ret => .ret
section
variable {P : Program} {T : Nat → Option IFn} {f : IFn} {R : Type} {r : R} {call : Nat → List AV → List (List AV) → Option Ret}
theorem noGoto2 (Q : Exit → Act → World → Prop) : Exit.noGoto (Exit.noGoto Q) = Exit.noGoto Q := by
  funext e a w; cases e <;> rfl
theorem unscope_wp : ∀ {c : Code} {Q : Exit → Act → World → Prop} {a : Act} {w : World}, (unscope c).wp P (Exit.noGoto Q) a w → c.wp P Q a w
  | .scope c, Q, a, w, h => by
    refine wp_scope_straight (unscope_wp ?_)
    rw [noGoto2]; exact h
  | .skip, Q, a, w, h | .region _ _ _, Q, a, w, h | .seq _ _, Q, a, w, h | .cond _ _ _, Q, a, w, h | .block _ _, Q, a, w, h | .loop _, Q, a, w, h | .rangeFunc _ _ _ _, Q, a, w, h | .exit _, Q, a, w, h
  | .label _, Q, a, w, h | .goto _, Q, a, w, h | .ret, Q, a, w, h | .refuse _, Q, a, w, h => wp_mono h fun e a w q => by cases e <;> first | exact q | exact q.elim
theorem cell_putObj (w : World) {y B j : Nat} {o : Obj} (h : B ≠ y) : (w.putObj y o).cell? ⟨B, j, none⟩ = w.cell? ⟨B, j, none⟩ := by
  unfold World.cell?
  simp only [World.putObj_heap_other h]
theorem Rel.putO {g : Gh} {w : World} {l : List AV} {tm : Array Value} (h : Rel f g w l tm) {y : Nat} (o : Obj) (hn : ∀ j, w.cell? ⟨y, j, none⟩ = none) (ho : g.ω y = none) : Rel f g (w.putObj y o) l tm := by
  have hsz : (w.putObj y o).heap.size = w.heap.size := World.putObj_size
  have hne : ∀ B j v, w.cell? ⟨B, j, none⟩ = some v → B ≠ y := fun B j v hc e => by subst e; rw [hn] at hc; cases hc
  have p : Pres g w g (w.putObj y o) := ⟨⟨fun B j v _ hc => (cell_putObj w (hne B j v hc)).trans hc, fun _ n' _ _ _ h => ⟨n', h, Nat.le_refl _⟩⟩, fun _ _ h => h, rfl⟩
  have hω : ∀ B x, g.ω B = some x → (w.putObj y o).heap[B]? = w.heap[B]? := fun B x hB => World.putObj_heap_other fun e => by subst e; rw [ho] at hB; cases hB
  exact h.move p rfl (fun r _ B q hq => ⟨hq, rfl, hω B _ hq⟩) (fun b B _ hq => ⟨hq, rfl, hω B _ hq⟩) fun B hB => h.fresh B (by rw [hsz] at hB; exact hB)
theorem Ext.putO {g g' : Gh} {w w' : World} (h : Ext g w g' w') {y : Nat} (o : Obj) (hy : w.heap.size ≤ y) : Ext g w g' (w'.putObj y o) := by
  have hsz : (w'.putObj y o).heap.size = w'.heap.size := World.putObj_size
  refine ⟨h.os, h.tape, h.output, by rw [hsz]; exact h.size, fun B hB ho => ?_, fun B j hB hj => ?_, h.fr, h.φ, h.pin, h.yl⟩
  · obtain ⟨a1, a2, a3⟩ := h.out B hB ho
    exact ⟨(World.putObj_heap_other (by omega)).trans a1, a2, a3⟩
  · exact (cell_putObj w' (by omega)).trans (h.cell B j hB hj)
def mark (b : Nat) : Deferred := { target := .collected b, args := #[] }
def Mks (s : Nat) (g : Gh) (w : World) (d0 d : List Deferred) : Prop := ∃ bs : List Nat, bs.Nodup ∧ d = bs.map mark ++ d0 ∧ ∀ b ∈ bs, s ≤ b ∧ g.ω b = none ∧ w.heap[b]? = some (.deferred (some []))
theorem Mks.of_eq {s : Nat} {g : Gh} {w : World} {d0 d : List Deferred} (h : d = d0) : Mks s g w d0 d := ⟨[], List.nodup_nil, h, fun b hb => by cases hb⟩
theorem Mks.ext {s : Nat} {g g' : Gh} {w w' : World} {d0 d : List Deferred} (h : Mks s g w d0 d) (he : Ext g w g' w') : Mks s g' w' d0 d := by
  obtain ⟨bs, h1, h2, h3⟩ := h
  refine ⟨bs, h1, h2, fun b hb => ?_⟩
  obtain ⟨a1, a2, a3⟩ := h3 b hb
  obtain ⟨b1, b2, _⟩ := he.out b (Array.getElem?_eq_some_iff.1 a3).1 a2
  exact ⟨a1, b2, b1.trans a3⟩
theorem Mks.trans {s : Nat} {g1 g2 : Gh} {w1 w2 : World} {d0 d1 d2 : List Deferred} (h : Mks s g1 w1 d0 d1) (hs : s ≤ w1.heap.size) (he : Ext g1 w1 g2 w2) (k : Mks w1.heap.size g2 w2 d1 d2) : Mks s g2 w2 d0 d2 := by
  obtain ⟨bs, h1, h2, h3⟩ := h
  obtain ⟨bs', k1, k2, k3⟩ := k
  have hlt : ∀ b ∈ bs, b < w1.heap.size := fun b hb => (Array.getElem?_eq_some_iff.1 (h3 b hb).2.2).1
  refine ⟨bs' ++ bs, List.nodup_append.2 ⟨k1, h1, fun a ha b hb e => ?_⟩, by rw [k2, h2, List.map_append, List.append_assoc], fun b hb => ?_⟩
  · have := (k3 a ha).1; have := hlt b hb; omega
  · rcases List.mem_append.1 hb with hb | hb
    · obtain ⟨a1, a2, a3⟩ := k3 b hb; exact ⟨by omega, a2, a3⟩
    · obtain ⟨a1, a2, a3⟩ := h3 b hb
      obtain ⟨b1, b2, _⟩ := he.out b (hlt b hb) a2
      exact ⟨a1, b2, b1.trans a3⟩
def Does (f : IFn) (g : Gh) (w : World) (a : Act) (k : Ex → List AV → Option R) (r : R) (Q : Exit → Act → World → Prop) : Prop :=
  ∀ e l' g' w' a', k e l' = some r → Rel f g' w' l' a'.tmps → Ext g w g' w' → Mks w.heap.size g' w' a.defers a'.defers → Q e.to a' w'
theorem Does.noGoto {g : Gh} {w : World} {a : Act} {k : Ex → List AV → Option R} {Q : Exit → Act → World → Prop} (H : Does f g w a k r Q) : Does f g w a k r (Exit.noGoto Q) := fun e l' g' w' a' hk hR he hd => by
  have := H e l' g' w' a' hk hR he hd
  cases e <;> exact this
theorem Does.trans {g g1 : Gh} {w w1 : World} {a a1 : Act} {k : Ex → List AV → Option R} {Q : Exit → Act → World → Prop} (H : Does f g w a k r Q) (he : Ext g w g1 w1) (hd : Mks w.heap.size g1 w1 a.defers a1.defers) : Does f g1 w1 a1 k r Q :=
  fun e l' g' w' a' hk hR he' hd' => H e l' g' w' a' hk hR (he.trans he') (hd.trans he.size he' hd')
def pinned (f : IFn) (h : Nat) : Bool := f.pass.any fun x => Nat.beq x.1 h
theorem pl_in {ro : Option Nat} {q : Nat} {c : Code} {Q : Exit → Act → World → Prop} {a : Act} {w : World} (h : (pl ro.isSome c).wpIn (Fo ro) q P (Exit.noGoto Q) a w) : c.wpIn (Fo ro) q P Q a w := by
  cases ro with
  | none => exact wpIn_wide.2 (unscope_wp (wpIn_wide.1 h))
  | some y => exact wpIn_mono h fun e a w q => by cases e <;> first | exact q | exact q.elim
theorem pin_step {g g' : Gh} {w w' : World} {px : List Nat} (he : Ext g w g' w') (hp : ∀ h, inPx px h = false → g.pin h = false) : ∀ h, inPx px h = false → g'.pin h = false := fun h hh => by
  rw [he.pin]; exact hp h hh
end
end Go.Proofs.Ytafnmkbehjbkdaa.M
