/- Steps of memory, told of frames: leave handed on, a variable made, a variable written, a row grown. -/
import Derived.Test.YtafnmkbehjbkdaaMachB
set_option linter.unusedVariables false
set_option linter.unusedSimpArgs false
namespace Go.Proofs.Ytafnmkbehjbkdaa.M
open Go Go.RowKit
def Gh.ren (g : Gh) (ρ : List Nat → List Nat) : Gh := { g with ω := fun B => match g.ω B with
  | some (.row L) => some (.row (ρ L))
  | o => o }
theorem ren_ω_none {g : Gh} {ρ : List Nat → List Nat} {B : Nat} : (g.ren ρ).ω B = none ↔ g.ω B = none := by
  unfold Gh.ren; dsimp only; split <;> simp_all
theorem Ext.ren (g : Gh) (w : World) (ρ : List Nat → List Nat) : Ext g w (g.ren ρ) w :=
  ⟨rfl, rfl, rfl, Nat.le_refl _, fun _ _ h => ⟨rfl, ren_ω_none.2 h, rfl⟩, fun _ _ _ _ => rfl, fun _ n' _ h => ⟨n', h, Nat.le_refl _⟩, fun _ _ _ h => h, rfl, rfl⟩
theorem Pres.ren (g : Gh) (w : World) (ρ : List Nat → List Nat) : Pres g w (g.ren ρ) w :=
  ⟨⟨fun _ _ _ _ h => h, fun _ n' _ _ _ h => ⟨n', h, Nat.le_refl _⟩⟩, fun _ _ h => h, rfl⟩
theorem OwnSame.ren (g : Gh) (w : World) {ρ : List Nat → List Nat} {L L' : List Nat} (h : ∀ p, ρ (L ++ p) = L' ++ p) : OwnSame g w (g.ren ρ) w L L' := fun B p hp =>
  ⟨by simp only [Gh.ren, hp, h], rfl, rfl⟩
section
variable {f : IFn} {g : Gh} {w : World} {l : List AV} {tm : Array Value}
theorem Rel.ren (h : Rel f g w l tm) {ρ : List Nat → List Nat} (hρ : ∀ r, ¬ Inert (l.getD r .dead) → ∀ p, ρ (r :: p) = r :: p) : Rel f (g.ren ρ) w l tm :=
  h.move (Pres.ren g w ρ) rfl (fun r hr => OwnSame.ren g w fun p => hρ r hr p) (fun b B _ ho => ⟨by simp [Gh.ren, ho], rfl, rfl⟩)
    (fun B hB => ⟨ren_ω_none.2 (h.fresh B hB).1, (h.fresh B hB).2⟩)
theorem Rel.take (hl : LayOk f) (h : Rel f g w l tm) {ρ : List Nat → List Nat} {d : Nat} (hd : d < f.nt) (hρ : ∀ r, r ≠ d → ¬ Inert (l.getD r .dead) → ∀ p, ρ (r :: p) = r :: p)
    {a : AV} {u : Value} (hv : V3 (g.ren ρ) w [d] a u) : Rel f (g.ren ρ) w (l.set d a) (tm.setIfInBounds d u) := by
  have h1 := h.setA hl hd (a := .dead) (.dead _)
  have hdl : d < l.length := by rw [h.len]; exact Nat.lt_of_lt_of_le hd hl.nt
  have h2 := h1.ren (ρ := ρ) (fun r hr => by
    by_cases e : d = r
    · subst e; rw [getD_set_eq _ _ hdl] at hr; exact absurd rfl hr
    · rw [getD_set_ne _ _ e] at hr; exact hρ r (fun x => e x.symm) hr)
  have h3 := h2.setSlot hl hd (a := a) (u := u) hv
  rwa [List.set_set] at h3
theorem Rel.takeSlotSlot (hl : LayOk f) (h : Rel f g w l tm) {s d : Nat} (hs : s < f.nt) (hd : d < f.nt) :
    ∃ g', Rel f g' w ((l.set s (l.getD s .dead).strip).set d (l.getD s .dead)) (tm.setIfInBounds d (tm.getD s undef)) ∧ Ext g w g' w := by
  have hsl : s < l.length := by rw [h.len]; exact Nat.lt_of_lt_of_le hs hl.nt
  have h0 := h.slots s hs
  have h1 := h.setA hl hs (h0.strip [s])
  refine ⟨g.ren fun L => match L with
    | r :: p => if r = s then d :: p else r :: p
    | [] => [], h1.take hl hd (fun r hr hi p => ?_) (h0.move (Pres.ren _ _ _) (OwnSame.ren _ _ (fun p => by simp))), Ext.ren _ _ _⟩
  by_cases e : r = s
  · subst e; rw [getD_set_eq _ _ hsl] at hi; exact absurd (strip_strip _) hi
  · simp [e]
end
def Gh.new (g : Gh) (B : Nat) (o : Option Own) (x : Option Nat) : Gh := { g with ω := fun b => if b = B then o else g.ω b, fr := fun b => if b = B then x else g.fr b }
section
variable {f : IFn} {g : Gh} {w : World} {l : List AV} {tm : Array Value}
theorem heap_alloc_lt (w : World) (o : Obj) {B : Nat} (h : B < w.heap.size) : (w.alloc o).heap[B]? = w.heap[B]? := heap_alloc_old w o B h
theorem Ext.new (hf : ∀ B, w.heap.size ≤ B → g.ω B = none ∧ g.fr B = some 0) (ob : Obj) (o : Option Own) (x : Option Nat) : Ext g w (g.new w.heap.size o x) (w.alloc ob) where
  os := rfl
  tape := rfl
  output := rfl
  size := by simp
  out B hB ho := ⟨heap_alloc_lt w ob hB, by simp [Gh.new, Nat.ne_of_lt hB, ho], by simp [Gh.new, Nat.ne_of_lt hB]⟩
  cell B j hB _ := World.cell?_alloc_lt w ob ⟨B, j, none⟩ hB
  fr B n' hB h := ⟨n', by simpa [Gh.new, Nat.ne_of_lt hB] using h, Nat.le_refl _⟩
  φ _ _ _ h := h
  pin := rfl
  yl := rfl
theorem Ext.drew (g : Gh) (w : World) : Ext g w g w.drew := ⟨rfl, rfl, rfl, Nat.le_refl _, fun _ _ h => ⟨rfl, h, rfl⟩, fun _ _ _ _ => rfl, fun _ n' _ h => ⟨n', h, Nat.le_refl _⟩, fun _ _ _ h => h, rfl, rfl⟩
theorem Rel.drew (h : Rel f g w l tm) : Rel f g w.drew l tm :=
  h.move ((Ext.drew g w).pres fun _ _ h => h) rfl (fun r _ B p hp => ⟨hp, rfl, rfl⟩) (fun b B _ ho => ⟨ho, rfl, rfl⟩) h.fresh
theorem ω_lt (h : Rel f g w l tm) {B : Nat} {o : Own} (ho : g.ω B = some o) : B < w.heap.size := by
  rcases Nat.lt_or_ge B w.heap.size with h' | h'
  · exact h'
  · rw [(h.fresh B h').1] at ho; cases ho
theorem Rel.new (h : Rel f g w l tm) (ob : Obj) (o : Option Own) (x : Option Nat) : Rel f (g.new w.heap.size o x) (w.alloc ob) l tm := by
  refine h.move ((Ext.new h.fresh ob o x).pres fun _ _ h => h) rfl (fun r _ B p hp => ?_) (fun b B _ ho => ?_) (fun B hB => ?_)
  · have := ω_lt h hp
    exact ⟨by simp [Gh.new, Nat.ne_of_lt this, hp], by simp [Gh.new, Nat.ne_of_lt this], heap_alloc_lt w ob this⟩
  · have := ω_lt h ho
    exact ⟨by simp [Gh.new, Nat.ne_of_lt this, ho], by simp [Gh.new, Nat.ne_of_lt this], heap_alloc_lt w ob this⟩
  · have hs : w.heap.size + 1 ≤ B := by simpa using hB
    have := h.fresh B (by omega)
    simp only [Gh.new, if_neg (show B ≠ w.heap.size by omega)]
    exact this
end
theorem rng_len : ∀ (n i : Nat), (rng i n).length = n
  | 0, _ => rfl
  | n + 1, i => by simp [rng, rng_len n]
theorem rng_get : ∀ (n i j : Nat), j < n → (rng i n)[j]? = some (i + j)
  | 0, _, _, h => by omega
  | n + 1, i, 0, _ => by simp [rng]
  | n + 1, i, j + 1, h => by simp only [rng, List.getElem?_cons_succ]; rw [rng_get n (i + 1) j (by omega)]; congr 1; omega
theorem mem_rng : ∀ {n i j : Nat}, j ∈ rng i n ↔ i ≤ j ∧ j < i + n
  | 0, i, j => by simp only [rng, List.not_mem_nil, false_iff]; omega
  | n + 1, i, j => by simp only [rng, List.mem_cons, mem_rng (n := n)]; omega
theorem len_setMany : ∀ (is : List Nat) (vs l : List AV), (setMany l is vs).length = l.length
  | [], _, _ => by simp [setMany]
  | i :: is, [], l => by simp [setMany]
  | i :: is, v :: vs, l => by simp only [setMany]; rw [len_setMany is vs]; simp
theorem setMany_out : ∀ (is : List Nat) (vs l : List AV) {t : Nat}, t ∉ is → (setMany l is vs).getD t .dead = l.getD t .dead
  | [], _, _, _, _ => by simp [setMany]
  | i :: is, [], l, _, _ => by simp [setMany]
  | i :: is, v :: vs, l, t, h => by
    simp only [List.mem_cons, not_or] at h
    simp only [setMany]; rw [setMany_out is vs _ h.2, getD_set_ne _ _ (fun e => h.1 e.symm)]
theorem setMany_rng : ∀ (n : Nat) (i : Nat) (vs l : List AV) {j : Nat}, vs.length = n → j < n → i + n ≤ l.length → (setMany l (rng i n) vs).getD (i + j) .dead = vs.getD j .dead
  | 0, _, _, _, _, _, h, _ => by omega
  | n + 1, i, [], l, j, hv, h, hl => by simp at hv
  | n + 1, i, v :: vs, l, 0, hv, h, hl => by
    simp only [rng, setMany, Nat.add_zero]
    rw [setMany_out _ _ _ (by rw [mem_rng]; omega), getD_set_eq _ _ (by omega)]; rfl
  | n + 1, i, v :: vs, l, j + 1, hv, h, hl => by
    have := setMany_rng n (i + 1) vs (l.set i v) (j := j) (by simpa using hv) (by omega) (by simp; omega)
    simp only [rng, setMany]
    rw [show i + (j + 1) = i + 1 + j by omega, this]; rfl
theorem setMany_append : ∀ (is js : List Nat) (vs us l : List AV), vs.length = is.length → setMany l (is ++ js) (vs ++ us) = setMany (setMany l is vs) js us
  | [], js, [], us, l, _ => by simp [setMany]
  | [], js, v :: vs, us, l, h => by simp at h
  | i :: is, js, [], us, l, h => by simp at h
  | i :: is, js, v :: vs, us, l, h => by simp only [List.cons_append, setMany]; exact setMany_append is js vs us _ (by simpa using h)
section
variable {f : IFn} {g : Gh} {w : World} {l : List AV} {tm : Array Value}
theorem Rel.alloc (hl : LayOk f) (h : Rel f g w l tm) {b n : Nat} (hb : (b, n) ∈ f.lay) (hd : l.getD b .dead = .dead) (cs : List AV) (arr : Array Value) (ty : TypeId) (hcs : cs.length = n) (harr : arr.size = n)
    (ρ : List Nat → List Nat) (hρ : ∀ r, ¬ (b < r ∧ r ≤ b + n) → ¬ Inert (l.getD r .dead) → ∀ p, ρ (r :: p) = r :: p)
    (hv : ∀ g' w', Pres g w g' w' → (∀ L L', (∀ p, ρ (L ++ p) = L' ++ p) → OwnSame g w g' w' L L') → ∀ j, j < n → Vc g' w' [b + 1 + j] (cs.getD j .dead) (arr.getD j undef)) :
    ∃ g', Rel f g' (w.alloc (.cells arr ty (0, 0))) (setMany l (rng b (n + 1)) (.hdr n :: cs)) tm ∧ g'.φ b = some w.heap.size ∧ Ext g w g' (w.alloc (.cells arr ty (0, 0))) := by
  have hw := hl.within b n hb
  let g1 : Gh := (g.ren ρ).new w.heap.size (some (.box b)) (some 0)
  let g' : Gh := { g1 with φ := fun x => if x = b then some w.heap.size else g.φ x }
  have hfr : ∀ B, w.heap.size ≤ B → (g.ren ρ).ω B = none ∧ (g.ren ρ).fr B = some 0 := fun B hB => ⟨ren_ω_none.2 (h.fresh B hB).1, (h.fresh B hB).2⟩
  have e0 : Ext g w g1 (w.alloc (.cells arr ty (0, 0))) := (Ext.ren g w ρ).trans (Ext.new hfr _ _ _)
  have hnone : g.φ b = none := by
    rcases h.boxes b n hb with ⟨_, h2⟩ | ⟨h1, _⟩
    · exact h2
    · rw [hd] at h1; cases h1
  have hφ : ∀ x B, g.φ x = some B → g'.φ x = some B := fun x B hx => by
    show (if x = b then some w.heap.size else g.φ x) = some B
    rw [if_neg (fun e => by subst e; rw [hnone] at hx; cases hx)]; exact hx
  have e1 : Ext g w g' (w.alloc (.cells arr ty (0, 0))) := ⟨e0.os, e0.tape, e0.output, e0.size, e0.out, e0.cell, e0.fr, fun x B _ hx => hφ x B hx, e0.pin, e0.yl⟩
  have p : Pres g w g' (w.alloc (.cells arr ty (0, 0))) := e1.pres hφ
  have own : ∀ L L', (∀ p, ρ (L ++ p) = L' ++ p) → OwnSame g w g' (w.alloc (.cells arr ty (0, 0))) L L' := fun L L' hL B q hq => by
    have hlt := ω_lt h hq
    have hne := Nat.ne_of_lt hlt
    refine ⟨?_, ?_, heap_alloc_lt w _ hlt⟩
    · show (if B = w.heap.size then _ else (g.ren ρ).ω B) = _
      rw [if_neg hne]; simp [Gh.ren, hq, hL]
    · show (if B = w.heap.size then _ else (g.ren ρ).fr B) = _
      rw [if_neg hne]; rfl
  have hlen : b + (n + 1) ≤ l.length := by rw [h.len]; omega
  have out : ∀ {t}, ¬ (b ≤ t ∧ t ≤ b + n) → (setMany l (rng b (n + 1)) (.hdr n :: cs)).getD t .dead = l.getD t .dead := fun {t} ht => setMany_out _ _ _ (by rw [mem_rng]; omega)
  have keep : ∀ r, ¬ (b ≤ r ∧ r ≤ b + n) → ∀ {v : Value}, V3 g w [r] (l.getD r .dead) v → V3 g' (w.alloc (.cells arr ty (0, 0))) [r] (l.getD r .dead) v := fun r hr v hv => by
    by_cases hi : Inert (l.getD r .dead)
    · exact hv.inert p _ hi
    · exact hv.move p (own [r] [r] (fun q => hρ r (by omega) hi q))
  have keepc : ∀ r, ¬ (b ≤ r ∧ r ≤ b + n) → ∀ {v : Value}, Vc g w [r] (l.getD r .dead) v → Vc g' (w.alloc (.cells arr ty (0, 0))) [r] (l.getD r .dead) v := fun r hr v hv => by
    by_cases hi : Inert (l.getD r .dead)
    · exact hv.inert p _ hi
    · exact hv.move p (own [r] [r] (fun q => hρ r (by omega) hi q))
  refine ⟨g', ⟨by rw [len_setMany]; exact h.len, h.size, fun t ht => ?_, fun b' n' hb' => ?_, fun B hB => ?_⟩, ?_, e1⟩
  · rw [out (by omega)]; exact keep t (by omega) (h.slots t ht)
  · have hw' := hl.within b' n' hb'
    rcases hl.apart b n b' n' hb hb' with ⟨rfl, rfl⟩ | hap
    · refine .inr ⟨?_, w.heap.size, arr, ty, ?_, ?_, harr, ?_, ?_, fun j hj => ?_⟩
      · have := setMany_rng (n + 1) b (.hdr n :: cs) l (j := 0) (by simp [hcs]) (by omega) hlen
        simpa using this
      · show (if b = b then _ else _) = _; rw [if_pos rfl]
      · exact heap_alloc_new w _
      · show (if w.heap.size = w.heap.size then _ else _) = _; rw [if_pos rfl]
      · show (if w.heap.size = w.heap.size then _ else _) = _; rw [if_pos rfl]
      · have := setMany_rng (n + 1) b (.hdr n :: cs) l (j := j + 1) (by simp [hcs]) (by omega) hlen
        rw [show b + 1 + j = b + (j + 1) by omega, this]
        have := hv g' _ p own j hj
        simpa [show b + 1 + j = b + (j + 1) by omega] using this
    · rcases h.boxes b' n' hb' with ⟨h1, h2⟩ | ⟨h1, B, cs', ty', h2, h3, h4, h5, h6, h7⟩
      · exact .inl ⟨by rw [out (by omega)]; exact h1, by show (if b' = b then _ else _) = _; rw [if_neg (by omega)]; exact h2⟩
      · have hlt := ω_lt h h5
        refine .inr ⟨by rw [out (by omega)]; exact h1, B, cs', ty', ?_, (heap_alloc_lt w _ hlt).trans h3, h4, ?_, ?_, fun j hj => ?_⟩
        · show (if b' = b then _ else _) = _; rw [if_neg (by omega)]; exact h2
        · show (if B = w.heap.size then _ else (g.ren ρ).ω B) = _; rw [if_neg (Nat.ne_of_lt hlt)]; simp [Gh.ren, h5]
        · show (if B = w.heap.size then _ else (g.ren ρ).fr B) = _; rw [if_neg (Nat.ne_of_lt hlt)]; exact h6
        · rw [out (by omega)]; exact keepc _ (by omega) (h7 j hj)
  · have hs : w.heap.size + 1 ≤ B := by simpa using hB
    have := h.fresh B (by omega)
    refine ⟨?_, ?_⟩
    · show (if B = w.heap.size then _ else (g.ren ρ).ω B) = _; rw [if_neg (by omega)]; exact ren_ω_none.2 this.1
    · show (if B = w.heap.size then _ else (g.ren ρ).fr B) = _; rw [if_neg (by omega)]; exact this.2
  · show (if b = b then _ else _) = _; rw [if_pos rfl]
end
section
variable {f : IFn} {g : Gh} {w : World} {l : List AV} {tm : Array Value}
theorem cell_setRow_other (w : World) {B B' : Nat} (cs : Array Value) (j : Nat) (h : B' ≠ B) : (w.setRow B cs).cell? ⟨B', j, none⟩ = w.cell? ⟨B', j, none⟩ := by
  unfold World.cell?; rw [setRow_other w B B' cs h]
theorem size_setRow (w : World) (B : Nat) (cs : Array Value) : (w.setRow B cs).heap.size = w.heap.size := by simp [World.setRow]
theorem Rel.store (hl : LayOk f) (h : Rel f g w l tm) {b n B : Nat} {arr : Array Value} {ty : TypeId} (hb : (b, n) ∈ f.lay) (hh : l.getD b .dead = .hdr n) (hφ : g.φ b = some B)
    (hheap : w.heap[B]? = some (.cells arr ty (0, 0))) (arr' : Array Value) (hs : arr'.size = n) {j0 m : Nat} (hjm : j0 + m ≤ n)
    (hsame : ∀ j, j < n → ¬ (j0 ≤ j ∧ j < j0 + m) → arr'.getD j undef = arr.getD j undef) (cs : List AV) (hcs : cs.length = m)
    (ρ : List Nat → List Nat) (hρ : ∀ r, ¬ (b + 1 + j0 ≤ r ∧ r < b + 1 + j0 + m) → ¬ Inert (l.getD r .dead) → ∀ p, ρ (r :: p) = r :: p)
    (hv : ∀ g' w', Pres g w g' w' → (∀ L L', (∀ p, ρ (L ++ p) = L' ++ p) → OwnSame g w g' w' L L') → ∀ j, j < m → Vc g' w' [b + 1 + j0 + j] (cs.getD j .dead) (arr'.getD (j0 + j) undef)) :
    ∃ g', Rel f g' (w.setRow B arr') (setMany l (rng (b + 1 + j0) m) cs) tm ∧ Ext g w g' (w.setRow B arr') := by
  have hw := hl.within b n hb
  obtain ⟨harr, hω, hfr⟩ : arr.size = n ∧ g.ω B = some (.box b) ∧ g.fr B = some 0 := by
    rcases h.boxes b n hb with ⟨h1, _⟩ | ⟨h1, B', cs', ty', h2, h3, h4, h5, h6, h7⟩
    · rw [hh] at h1; cases h1
    · rw [hφ] at h2; cases h2; rw [hheap] at h3; cases h3; exact ⟨h4, h5, h6⟩
  have hBlt : B < w.heap.size := ω_lt h hω
  have e1 : Ext g w (g.ren ρ) (w.setRow B arr') := by
    refine ⟨rfl, rfl, rfl, by rw [size_setRow]; exact Nat.le_refl _, fun B' hB' ho => ?_, fun B' j hB' hj => ?_, fun B' n' _ hn' => ⟨n', hn', Nat.le_refl _⟩, fun _ _ _ h => h, rfl, rfl⟩
    · have hne : B' ≠ B := fun e => by subst e; rw [hω] at ho; cases ho
      exact ⟨setRow_other w B B' arr' hne, ren_ω_none.2 ho, rfl⟩
    · have hne : B' ≠ B := fun e => by subst e; exact absurd (hj 0 hfr) (by omega)
      exact cell_setRow_other w arr' j hne
  have p : Pres g w (g.ren ρ) (w.setRow B arr') := e1.pres fun _ _ h => h
  have own : ∀ L L', (∀ p, ρ (L ++ p) = L' ++ p) → OwnSame g w (g.ren ρ) (w.setRow B arr') L L' := fun L L' hL B' q hq => by
    have hne : B' ≠ B := fun e => by subst e; rw [hω] at hq; cases hq
    exact ⟨by simp only [Gh.ren, hq, hL], rfl, setRow_other w B B' arr' hne⟩
  have out : ∀ {t}, ¬ (b + 1 + j0 ≤ t ∧ t < b + 1 + j0 + m) → (setMany l (rng (b + 1 + j0) m) cs).getD t .dead = l.getD t .dead := fun {t} ht => setMany_out _ _ _ (by rw [mem_rng]; omega)
  have hlen : b + 1 + j0 + m ≤ l.length := by rw [h.len]; omega
  have keep : ∀ r, ¬ (b + 1 + j0 ≤ r ∧ r < b + 1 + j0 + m) → ∀ {v : Value}, V3 g w [r] (l.getD r .dead) v → V3 (g.ren ρ) (w.setRow B arr') [r] (l.getD r .dead) v := fun r hr v hv => by
    by_cases hi : Inert (l.getD r .dead)
    · exact hv.inert p _ hi
    · exact hv.move p (own [r] [r] (fun q => hρ r hr hi q))
  have keepc : ∀ r, ¬ (b + 1 + j0 ≤ r ∧ r < b + 1 + j0 + m) → ∀ {v : Value}, Vc g w [r] (l.getD r .dead) v → Vc (g.ren ρ) (w.setRow B arr') [r] (l.getD r .dead) v := fun r hr v hv => by
    by_cases hi : Inert (l.getD r .dead)
    · exact hv.inert p _ hi
    · exact hv.move p (own [r] [r] (fun q => hρ r hr hi q))
  refine ⟨g.ren ρ, ⟨by rw [len_setMany]; exact h.len, h.size, fun t ht => ?_, fun b' n' hb' => ?_, fun B' hB' => ?_⟩, e1⟩
  · rw [out (by omega)]; exact keep t (by omega) (h.slots t ht)
  · have hw' := hl.within b' n' hb'
    rcases hl.apart b n b' n' hb hb' with ⟨rfl, rfl⟩ | hap
    · refine .inr ⟨by rw [out (by omega)]; exact hh, B, arr', ty, hφ, setRow_heap w B arr arr' ty (0, 0) hheap, hs, by simp [Gh.ren, hω], hfr, fun j hj => ?_⟩
      by_cases hj' : j0 ≤ j ∧ j < j0 + m
      · have h1 := setMany_rng m (b + 1 + j0) cs l (j := j - j0) hcs (by omega) hlen
        have h2 := hv _ _ p own (j - j0) (by omega)
        rw [show b + 1 + j0 + (j - j0) = b + 1 + j by omega] at h1 h2
        rw [show j0 + (j - j0) = j by omega] at h2
        rw [h1]; exact h2
      · rw [out (by omega), hsame j hj hj']
        rcases h.boxes b n hb with ⟨h1, _⟩ | ⟨h1, B', cs', ty', h2, h3, h4, h5, h6, h7⟩
        · rw [hh] at h1; cases h1
        · rw [hφ] at h2; cases h2; rw [hheap] at h3; cases h3
          exact keepc _ (by omega) (h7 j hj)
    · rcases h.boxes b' n' hb' with ⟨h1, h2⟩ | ⟨h1, B', cs', ty', h2, h3, h4, h5, h6, h7⟩
      · exact .inl ⟨by rw [out (by omega)]; exact h1, h2⟩
      · have hne : B' ≠ B := fun e => by subst e; rw [hω] at h5; cases h5; omega
        exact .inr ⟨by rw [out (by omega)]; exact h1, B', cs', ty', h2, (setRow_other w B B' arr' hne).trans h3, h4, by simp [Gh.ren, h5], h6, fun j hj => by rw [out (by omega)]; exact keepc _ (by omega) (h7 j hj)⟩
  · rw [size_setRow] at hB'
    exact ⟨ren_ω_none.2 (h.fresh B' hB').1, (h.fresh B' hB').2⟩
def Gh.grow (g : Gh) (ρ : List Nat → List Nat) (B e : Nat) : Gh := { g.ren ρ with fr := fun b => if b = B then some e else g.fr b }
theorem Rel.grow (h : Rel f g w l tm) {s : Nat} {q : List Nat} {B e e' : Nat} {arr : Array Value} {ty : TypeId} (hB : g.ω B = some (.row (s :: q))) (hs : Inert (l.getD s .dead))
    (hheap : w.heap[B]? = some (.cells arr ty (0, 0))) (hfr : g.fr B = some e) (hee : e ≤ e') (arr' : Array Value) (hsame : ∀ j, j < e → arr'[j]? = arr[j]?)
    (ρ : List Nat → List Nat) (hρ : ∀ r, ¬ Inert (l.getD r .dead) → ∀ p, ρ (r :: p) = r :: p) :
    Rel f (g.grow ρ B e') (w.setRow B arr') l tm ∧ Ext g w (g.grow ρ B e') (w.setRow B arr') ∧
      Pres g w (g.grow ρ B e') (w.setRow B arr') ∧ (g.grow ρ B e').fr B = some e' ∧ (g.grow ρ B e').ω B = some (.row (ρ (s :: q))) := by
  have hBlt : B < w.heap.size := ω_lt h hB
  have e1 : Ext g w (g.grow ρ B e') (w.setRow B arr') := by
    refine ⟨rfl, rfl, rfl, by rw [size_setRow]; exact Nat.le_refl _, fun B' hB' ho => ?_, fun B' j hB' hj => ?_, fun B' n' _ hn' => ?_, fun _ _ _ h => h, rfl, rfl⟩
    · have hne : B' ≠ B := fun e => by subst e; rw [hB] at ho; cases ho
      exact ⟨setRow_other w B B' arr' hne, ren_ω_none.2 ho, by simp [Gh.grow, hne]⟩
    · by_cases hne : B' = B
      · subst hne
        rw [cell_of_row _ _ _ _ _ _ (setRow_heap w B' arr arr' ty (0, 0) hheap), cell_of_row _ _ _ _ _ _ hheap]
        exact hsame j (hj e hfr)
      · exact cell_setRow_other w arr' j hne
    · by_cases hne : B' = B
      · subst hne
        refine ⟨e, hfr, ?_⟩
        simp [Gh.grow] at hn'; omega
      · exact ⟨n', by simpa [Gh.grow, hne] using hn', Nat.le_refl _⟩
  have p : Pres g w (g.grow ρ B e') (w.setRow B arr') := e1.pres fun _ _ h => h
  refine ⟨h.move p rfl (fun r hr B' q' hq => ?_) (fun b B' _ ho => ?_) (fun B' hB' => ?_), e1, p, by simp [Gh.grow], by simp [Gh.grow, Gh.ren, hB]⟩
  · have hne : B' ≠ B := fun e => by
      subst e; rw [hB] at hq
      simp only [Option.some.injEq, Own.row.injEq, List.cons_append, List.nil_append, List.cons.injEq] at hq
      rw [hq.1] at hs; exact hr hs
    refine ⟨?_, by simp [Gh.grow, hne], setRow_other w B B' arr' hne⟩
    have := hρ r hr q'
    simp only [Gh.grow, Gh.ren, hq, List.cons_append, List.nil_append, this]
  · have hne : B' ≠ B := fun e => by subst e; rw [hB] at ho; cases ho
    exact ⟨by simp [Gh.grow, Gh.ren, ho], by simp [Gh.grow, hne], setRow_other w B B' arr' hne⟩
  · rw [size_setRow] at hB'
    have hne : B' ≠ B := by omega
    exact ⟨ren_ω_none.2 (h.fresh B' hB').1, by simp [Gh.grow, hne, (h.fresh B' hB').2]⟩
end
end Go.Proofs.Ytafnmkbehjbkdaa.M
