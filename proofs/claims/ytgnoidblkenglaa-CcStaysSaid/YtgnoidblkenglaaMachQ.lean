/- Control. -/
import Derived.Test.YtgnoidblkenglaaMachP
import Derived.LoopN
import Derived.Scope
set_option linter.unusedVariables false
set_option linter.unusedSimpArgs false
namespace Go.Proofs.Ytgnoidblkenglaa.M
open Go Go.RowKit

/-! ### places left -/
section
variable {f : IFn} {g : Gh} {w : World} {l : List AV} {tm : Array Value}
def isHd (hs : List (Nat × Nat)) (h : Nat) : Bool := hs.any fun x => Nat.beq x.1 h
def Gh.drop (g : Gh) (hs : List (Nat × Nat)) : Gh := { g with φ := fun h => cond (isHd hs h) none (g.φ h) }
theorem drop_φ {hs : List (Nat × Nat)} {h B : Nat} (hB : g.φ h = some B) (hn : isHd hs h = false) : (g.drop hs).φ h = some B := by
  show cond (isHd hs h) none (g.φ h) = some B
  rw [hn]; exact hB
theorem all_hd {hs : List (Nat × Nat)} {h : Nat} (h1 : (hs.all fun x => !Nat.beq x.1 h) = true) : isHd hs h = false := by
  unfold isHd
  rw [List.any_eq_false]
  intro x hx e
  have := List.all_eq_true.1 h1 x hx
  rw [e] at this; cases this
theorem Pres.dropC (g : Gh) (w : World) (hs : List (Nat × Nat)) : PresC g w (g.drop hs) w := ⟨fun _ _ _ _ h => h, fun _ n' _ _ _ h => ⟨n', h, Nat.le_refl _⟩⟩
theorem Vc.drop {hs : List (Nat × Nat)} {L : List Nat} {a : AV} {v : Value} (h : Vc g w L a v) (hn : noptr hs a = true) : Vc (g.drop hs) w L a v := by
  cases h with
  | dead v => exact .dead v
  | of0 h => exact .of0 (h.mono (Pres.dropC g w hs))
  | nil sz get => exact .nil sz get
  | row sz n get B o c h0 ho => exact .row sz n get B o c (h0.mono (Pres.dropC g w hs)) ho
  | elt cs B o val hfz hcell hel => exact .elt cs B o val hfz hcell (fun j a ha => (hel j a ha).mono (Pres.dropC g w hs))
  | ptr h j B hB => exact .ptr h j B (drop_φ hB (all_hd hn))
  | clo f caps vs hl hv =>
    refine .clo f caps vs hl fun i h j v hc hvv => ?_
    obtain ⟨B, h1, h2⟩ := hv i h j v hc hvv
    exact ⟨B, drop_φ h1 (all_hd (List.all_eq_true.1 hn _ (List.mem_of_getElem? hc))), h2⟩
theorem V3.drop {hs : List (Nat × Nat)} {L : List Nat} {a : AV} {v : Value} (h : V3 g w L a v) (hn : noptr hs a = true) : V3 (g.drop hs) w L a v := by
  cases h with
  | c h => cases h with
    | c h => exact .c (.c (h.drop hn))
    | agg cs vs hl h =>
      refine .c (.agg cs vs hl fun i a v ha hv => (h i a v ha hv).drop ?_)
      have := List.all_eq_true.1 hn a (List.mem_of_getElem? ha)
      cases a <;> first | exact this | rfl | cases this
  | tup cs vs hl h =>
    cases cs with
    | nil => exact .tup [] vs hl fun i a v ha hv => by simp at ha
    | cons => cases hn
theorem kill_len : ∀ (hs : List (Nat × Nat)) (l : List AV), (kill l hs).length = l.length
  | [], l => rfl
  | (h, n) :: r, l => by simp only [kill]; rw [kill_len, len_setMany]
theorem kill_out : ∀ (hs : List (Nat × Nat)) (l : List AV) {t : Nat}, (∀ x ∈ hs, ¬ (x.1 ≤ t ∧ t < x.1 + (x.2 + 1))) → (kill l hs).getD t .dead = l.getD t .dead
  | [], l, t, _ => rfl
  | (h, n) :: r, l, t, hx => by
    simp only [kill]
    rw [kill_out r _ fun x hm => hx x (by simp [hm]), setMany_out _ _ _ fun hm => hx (h, n) (by simp) (mem_rng.1 hm)]
theorem set_dead : ∀ (is : List Nat) (n : Nat) (l : List AV) {t : Nat}, (l.getD t .dead = .dead) → (setMany l is (List.replicate n .dead)).getD t .dead = .dead
  | [], _, _, _, h => by simpa [setMany] using h
  | i :: is, 0, l, t, h => by simpa [setMany] using h
  | i :: is, n + 1, l, t, h => by
    simp only [List.replicate_succ, setMany]
    refine set_dead is n _ ?_
    rw [getD_set]; split <;> first | rfl | exact h
theorem set_deadOr : ∀ (is : List Nat) (n : Nat) (l : List AV) (t : Nat), (setMany l is (List.replicate n .dead)).getD t .dead = .dead ∨ (setMany l is (List.replicate n .dead)).getD t .dead = l.getD t .dead
  | [], _, _, _ => by simp [setMany]
  | i :: is, 0, l, t => by simp [setMany]
  | i :: is, n + 1, l, t => by
    simp only [List.replicate_succ, setMany]
    by_cases h : i = t ∧ i < l.length
    · left; exact set_dead is n _ (by rw [getD_set, if_pos h])
    · have := set_deadOr is n (l.set i .dead) t
      rwa [getD_set, if_neg h] at this
theorem kill_dead : ∀ (hs : List (Nat × Nat)) (l : List AV) {t : Nat}, l.getD t .dead = .dead → (kill l hs).getD t .dead = .dead
  | [], l, t, h => h
  | (h, n) :: r, l, t, hd => by simp only [kill]; exact kill_dead r _ (set_dead _ _ _ hd)
theorem kill_in : ∀ (hs : List (Nat × Nat)) (l : List AV) {h n : Nat}, (h, n) ∈ hs → h < l.length → (kill l hs).getD h .dead = .dead
  | [], l, h, n, hm, _ => by cases hm
  | (h0, n0) :: r, l, h, n, hm, hlt => by
    simp only [kill]
    cases hm with
    | head =>
      refine kill_dead r _ ?_
      simp only [rng, List.replicate_succ, setMany]
      exact set_dead _ _ _ (getD_set_eq _ _ hlt)
    | tail _ hm => exact kill_in r _ hm (by rw [len_setMany]; exact hlt)
theorem Rel.clearSlots (hl : LayOk f) : ∀ {xs : List Nat} {l : List AV}, Rel f g w l tm → (∀ t ∈ xs, t < f.nt) → Rel f g w (setMany l xs (List.replicate xs.length .dead)) tm
  | [], l, h, _ => by simpa [setMany] using h
  | x :: xs, l, h, hx => by
    simp only [List.length_cons, List.replicate_succ, setMany]
    refine Rel.clearSlots hl (h.setA hl (hx x (by simp)) (.dead _)) fun t ht => hx t (by simp [ht])
theorem Rel.kill (hl : LayOk f) (h : Rel f g w l tm) {hs : List (Nat × Nat)} (hx : ∀ x ∈ hs, (x.1, x.2) ∈ f.lay) (hn : (kill l hs).all (noptr hs) = true) : Rel f (g.drop hs) w (kill l hs) tm := by
  have hnp : ∀ t, noptr hs ((M.kill l hs).getD t .dead) = true := fun t => by
    by_cases ht : t < (M.kill l hs).length
    · refine List.all_eq_true.1 hn _ ?_
      rw [List.getD_eq_getElem?_getD, List.getElem?_eq_getElem ht]
      exact List.getElem_mem ht
    · rw [List.getD_eq_getElem?_getD, List.getElem?_eq_none (by omega)]; rfl
  refine ⟨(kill_len _ _).trans h.len, h.size, fun t ht => ?_, fun b n hb => ?_, fun b B hB => ?_, h.fresh⟩
  · have := hnp t
    rw [kill_out _ _ fun x hm => by have := (hl.within x.1 x.2 (hx x hm)).1; omega] at this ⊢
    exact (h.slots t ht).drop this
  · by_cases hb' : ∃ x ∈ hs, x.1 = b
    · obtain ⟨⟨b0, n0⟩, hm, rfl⟩ := hb'
      have hw := hl.within _ _ (hx _ hm)
      refine .inl ⟨kill_in hs l hm (by rw [h.len]; simp only at hw ⊢; omega), ?_⟩
      show cond (isHd hs b0) none (g.φ b0) = none
      have : isHd hs b0 = true := List.any_eq_true.2 ⟨_, hm, by simp⟩
      rw [this]; rfl
    · have hout : ∀ t, b ≤ t → t ≤ b + n → (M.kill l hs).getD t .dead = l.getD t .dead := fun t h1 h2 => kill_out _ _ fun x hm => by
        rcases hl.apart _ _ _ _ hb (hx x hm) with ⟨e, _⟩ | hh
        · exact absurd ⟨x, hm, e.symm⟩ hb'
        · omega
      have hnh : isHd hs b = false := by
        unfold isHd
        rw [List.any_eq_false]
        intro x hm e
        exact hb' ⟨x, hm, nbeq e⟩
      rcases h.boxes b n hb with ⟨h1, h2⟩ | ⟨h1, B, cs', ty', h2, h3, h4, h5, h6, h7⟩
      · refine .inl ⟨by rw [hout b (Nat.le_refl _) (by omega)]; exact h1, ?_⟩
        show cond (isHd hs b) none (g.φ b) = none
        rw [hnh]; exact h2
      · refine .inr ⟨by rw [hout b (Nat.le_refl _) (by omega)]; exact h1, B, cs', ty', drop_φ h2 hnh, h3, h4, h5, h6, fun j hj => ?_⟩
        have := hnp (b + 1 + j)
        rw [hout _ (by omega) (by omega)] at this ⊢
        exact (h7 j hj).drop this
  · refine h.φin b B ?_
    have hB' : cond (isHd hs b) none (g.φ b) = some B := hB
    cases hh : isHd hs b with
    | true => rw [hh] at hB'; cases hB'
    | false => rw [hh] at hB'; exact hB'
theorem Ext.drop (g : Gh) (w : World) {hs : List (Nat × Nat)} (hp : ∀ x ∈ hs, g.pin x.1 = false) : Ext g w (g.drop hs) w :=
  ⟨rfl, rfl, rfl, Nat.le_refl _, fun _ _ h => ⟨rfl, h, rfl⟩, fun _ _ _ _ => rfl, fun _ n' _ h => ⟨n', h, Nat.le_refl _⟩, fun b B hb hB => drop_φ hB (by
    unfold isHd
    rw [List.any_eq_false]
    intro x hm e
    have := hp x hm
    rw [nbeq e, hb] at this; cases this), rfl⟩
theorem clear_ok (hl : LayOk f) (h : Rel f g w l tm) {xs : List Nat} {hs : List (Nat × Nat)} {l' : List AV} (hx : ∀ t ∈ xs, t < f.nt) (hh : ∀ x ∈ hs, (x.1, x.2) ∈ f.lay) (hp : ∀ x ∈ hs, g.pin x.1 = false) (hc : clear xs hs l = some l') :
    ∃ g', Rel f g' w l' tm ∧ Ext g w g' w := by
  unfold clear at hc
  split at hc
  · cases hc; exact ⟨g, Rel.clearSlots hl h hx, Ext.refl _ _⟩
  · obtain ⟨h1, h2⟩ := cond_some hc
    cases h2
    exact ⟨g.drop hs, (Rel.clearSlots hl h hx).kill hl hh h1, Ext.drop g w hp⟩
end

/-! ### control -/
def unscope : Code → Code
  | .scope c => unscope c
  | c => c
def chkC (P : Program) (T : Nat → Option IFn) (f : IFn) : IC → Code → Bool
  | .clr xs hs b, c => xs.all (fun t => Nat.blt t f.nt) && hs.all (fun x => inLay f x.1 x.2 && !(f.pass.any fun y => Nat.beq y.1 x.1)) && chkC P T f b c
  | .fin b xs hs, c => xs.all (fun t => Nat.blt t f.nt) && hs.all (fun x => inLay f x.1 x.2 && !(f.pass.any fun y => Nat.beq y.1 x.1)) && chkC P T f b c
  | .stuck, _ => true
  | .skip, c => match unscope c with
    | .skip => true
    | .label _ => true
    | _ => false
  | .reg ios, c => match unscope c with
    | .region _ ops draw => chkReg P T f ops draw ios
    | _ => false
  | .seq x y, c => match unscope c with
    | .seq a b => chkC P T f x a && chkC P T f y b
    | _ => false
  | .cond ic x y, c => match unscope c with
    | .cond o a b => chkA f o ic && chkC P T f x a && chkC P T f y b
    | _ => false
  | .blk id x, c => match unscope c with
    | .block id' b => Nat.beq id' id && chkC P T f x b
    | _ => false
  | .loop x, c => match unscope c with
    | .loop b => chkC P T f x b
    | _ => false
  | .exit id, c => match unscope c with
    | .exit id' => Nat.beq id' id
    | _ => false
  | .ret, c => match unscope c with
    | .ret => true
    | _ => false
def Ex.to : Ex → Exit
  | .norm => .normal
  | .exit id => .exit id
  | .ret => .ret
section
variable {P : Program} {T : Nat → Option IFn} {f : IFn} {R : Type} {r : R} {call : Nat → List AV → List (List AV) → Option Ret}
theorem noGoto2 (Q : Exit → Act → World → Prop) : Exit.noGoto (Exit.noGoto Q) = Exit.noGoto Q := by
  funext e a w; cases e <;> rfl
theorem unscope_wp : ∀ {c : Code} {Q : Exit → Act → World → Prop} {a : Act} {w : World}, (unscope c).wp P (Exit.noGoto Q) a w → c.wp P Q a w
  | .scope c, Q, a, w, h => by
    refine wp_scope_straight (unscope_wp ?_)
    rw [noGoto2]; exact h
  | .skip, Q, a, w, h | .region _ _ _, Q, a, w, h | .seq _ _, Q, a, w, h | .cond _ _ _, Q, a, w, h | .block _ _, Q, a, w, h | .loop _, Q, a, w, h | .rangeFunc _ _ _ _, Q, a, w, h | .exit _, Q, a, w, h
  | .label _, Q, a, w, h | .goto _, Q, a, w, h | .ret, Q, a, w, h | .refuse _, Q, a, w, h => wp_mono h fun e a w q => by cases e <;> first | exact q | exact q.elim
def Does (f : IFn) (g : Gh) (w : World) (a : Act) (k : Ex → List AV → Option R) (r : R) (Q : Exit → Act → World → Prop) : Prop :=
  ∀ e l' g' w' a', k e l' = some r → Rel f g' w' l' a'.tmps → Ext g w g' w' → a'.defers = a.defers → Q e.to a' w'
theorem Does.noGoto {g : Gh} {w : World} {a : Act} {k : Ex → List AV → Option R} {Q : Exit → Act → World → Prop} (H : Does f g w a k r Q) : Does f g w a k r (Exit.noGoto Q) := fun e l' g' w' a' hk hR he hd => by
  have := H e l' g' w' a' hk hR he hd
  cases e <;> exact this
theorem Does.trans {g g1 : Gh} {w w1 : World} {a a1 : Act} {k : Ex → List AV → Option R} {Q : Exit → Act → World → Prop} (H : Does f g w a k r Q) (he : Ext g w g1 w1) (hd : a1.defers = a.defers) : Does f g1 w1 a1 k r Q :=
  fun e l' g' w' a' hk hR he' hd' => H e l' g' w' a' hk hR (he.trans he') (hd'.trans hd)
def pinned (f : IFn) (h : Nat) : Bool := f.pass.any fun x => Nat.beq x.1 h
theorem exec_wp (hl : LayOk f) (hcall : CallOk P T call) (n : Nat) : ∀ (ic : IC) (c : Code) (l : List AV) (k : Ex → List AV → Option R) (g : Gh) (w : World) (a : Act) (Q : Exit → Act → World → Prop), chkC P T f ic c = true →
    g.pin = pinned f → Rel f g w l a.tmps → exec call n ic l k = some r → Does f g w a k r Q → c.wp P Q a w := by
  intro ic
  induction ic with
  | stuck =>
    intro c l k g w a Q hc hp h hk H
    simp only [exec] at hk
    cases hk
  | clr xs hs b ih =>
    intro c l k g w a Q hc hp h hk H
    simp only [chkC, Bool.and_eq_true] at hc
    obtain ⟨⟨h1, h2⟩, h3⟩ := hc
    simp only [exec] at hk
    split at hk
    · rename_i l' hcl
      have h2' : ∀ x ∈ hs, (x.1, x.2) ∈ f.lay ∧ g.pin x.1 = false := fun x hx => by
        have := List.all_eq_true.1 h2 x hx
        simp only [Bool.and_eq_true, Bool.not_eq_true'] at this
        exact ⟨inLay_ok this.1, by rw [hp]; exact this.2⟩
      obtain ⟨g', hR, he⟩ := clear_ok hl h (fun t ht => nblt (List.all_eq_true.1 h1 t ht)) (fun x hx => (h2' x hx).1) (fun x hx => (h2' x hx).2) hcl
      exact ih c l' k g' w a Q h3 (he.pin.trans hp) hR hk (H.trans he rfl)
    · cases hk
  | fin b xs hs ih =>
    intro c l k g w a Q hc hp h hk H
    simp only [chkC, Bool.and_eq_true] at hc
    obtain ⟨⟨h1, h2⟩, h3⟩ := hc
    simp only [exec] at hk
    refine ih c l _ g w a Q h3 hp h hk fun e l' g' w' a' hk' hR he hd => ?_
    cases e with
    | norm =>
      simp only at hk'
      split at hk'
      · rename_i l2 hcl
        have h2' : ∀ x ∈ hs, (x.1, x.2) ∈ f.lay ∧ g'.pin x.1 = false := fun x hx => by
          have := List.all_eq_true.1 h2 x hx
          simp only [Bool.and_eq_true, Bool.not_eq_true'] at this
          exact ⟨inLay_ok this.1, by rw [he.pin, hp]; exact this.2⟩
        obtain ⟨g2, hR2, he2⟩ := clear_ok hl hR (fun t ht => nblt (List.all_eq_true.1 h1 t ht)) (fun x hx => (h2' x hx).1) (fun x hx => (h2' x hx).2) hcl
        exact H .norm l2 g2 w' a' hk' hR2 (he.trans he2) hd
      · cases hk'
    | exit id => exact H (.exit id) l' g' w' a' hk' hR he hd
    | ret => exact H .ret l' g' w' a' hk' hR he hd
  | skip =>
    intro c l k g w a Q hc hp h hk H
    refine unscope_wp ?_
    simp only [chkC] at hc
    have hq := H.noGoto .norm l g w a hk h (Ext.refl _ _) rfl
    split at hc
    · rename_i e; rw [e]; exact wp_skip hq
    · rename_i e; rw [e]; exact wp_label hq
    · cases hc
  | reg ios =>
    intro c l k g w a Q hc hp h hk H
    refine unscope_wp ?_
    simp only [chkC] at hc
    split at hc
    · rename_i id ops draw e
      rw [e]
      exact reg_wp hl hcall hc h hk fun l' g' w' a' hk' hR he hd => H.noGoto .norm l' g' w' a' hk' hR he hd
    · cases hc
  | seq x y ihx ihy =>
    intro c l k g w a Q hc hp h hk H
    refine unscope_wp ?_
    simp only [chkC] at hc
    split at hc
    · rename_i c1 c2 e
      rw [e]
      simp only [Bool.and_eq_true] at hc
      refine wp_seq (ihx c1 l _ g w a _ hc.1 hp h hk fun e l' g' w' a' hk' hR he hd => ?_)
      cases e with
      | norm => exact ihy c2 l' k g' w' a' _ hc.2 (he.pin.trans hp) hR hk' (H.noGoto.trans he hd)
      | exit id => exact H.noGoto (.exit id) l' g' w' a' hk' hR he hd
      | ret => exact H.noGoto .ret l' g' w' a' hk' hR he hd
    · cases hc
  | cond ic x y ihx ihy =>
    intro c l k g w a Q hc hp h hk H
    refine unscope_wp ?_
    simp only [chkC] at hc
    split at hc
    · rename_i o c1 c2 e
      rw [e]
      simp only [Bool.and_eq_true] at hc
      simp only [exec] at hk
      split at hk
      · rename_i t hv
        obtain ⟨L, hv1, _⟩ := rd_ok h hc.1.1
        rw [hv] at hv1
        refine wp_cond_split hv1.bool_inv (fun ht => ?_) (fun ht => ?_) <;> subst ht
        · exact ihx c1 l k g w a _ hc.1.2 hp h hk H.noGoto
        · exact ihy c2 l k g w a _ hc.2 hp h hk H.noGoto
      · cases hk
    · cases hc
  | blk id x ih =>
    intro c l k g w a Q hc hp h hk H
    refine unscope_wp ?_
    simp only [chkC] at hc
    split at hc
    · rename_i id' b e
      rw [e]
      simp only [Bool.and_eq_true] at hc
      have := nbeq hc.1; subst this
      simp only [exec] at hk
      refine wp_block (ih b l _ g w a _ hc.2 hp h hk fun e l' g' w' a' hk' hR he hd => ?_)
      cases e with
      | norm => exact H.noGoto .norm l' g' w' a' hk' hR he hd
      | exit i =>
        simp only at hk'
        show if i = id' then _ else _
        by_cases hi : i = id'
        · rw [if_pos hi]
          have : Nat.beq i id' = true := by simp [hi]
          rw [this] at hk'
          exact H.noGoto .norm l' g' w' a' hk' hR he hd
        · rw [if_neg hi]
          have : Nat.beq i id' = false := by cases hb : Nat.beq i id' with
            | false => rfl
            | true => exact absurd (nbeq hb) hi
          rw [this] at hk'
          exact H.noGoto (.exit i) l' g' w' a' hk' hR he hd
      | ret => exact H.noGoto .ret l' g' w' a' hk' hR he hd
    · cases hc
  | loop x ih =>
    intro c l k g w a Q hc hp h hk H
    refine unscope_wp ?_
    simp only [chkC] at hc
    split at hc
    · rename_i b e
      rw [e]
      simp only [exec] at hk
      refine wp_loop_rounds n ?_
      have key : ∀ m l g w a, g.pin = pinned f → Rel f g w l a.tmps → loopN (exec call n x) m l k = some r → Does f g w a k r (Exit.noGoto Q) → Code.rounds P b (Exit.noGoto Q) m a w := by
        intro m
        induction m with
        | zero => intro l g w a _ _ hk _; cases hk
        | succ m ihm =>
          intro l g w a hp h hk H
          simp only [loopN] at hk
          refine ih b l _ g w a _ hc hp h hk fun e l' g' w' a' hk' hR he hd => ?_
          cases e with
          | norm => exact ihm l' g' w' a' (he.pin.trans hp) hR hk' (H.trans he hd)
          | exit id => exact H (.exit id) l' g' w' a' hk' hR he hd
          | ret => exact H .ret l' g' w' a' hk' hR he hd
      exact key n l g w a hp h hk H.noGoto
    · cases hc
  | exit id =>
    intro c l k g w a Q hc hp h hk H
    refine unscope_wp ?_
    simp only [chkC] at hc
    split at hc
    · rename_i id' e
      rw [e]
      have := nbeq hc; subst this
      exact wp_exit (H.noGoto (.exit id') l g w a hk h (Ext.refl _ _) rfl)
    · cases hc
  | ret =>
    intro c l k g w a Q hc hp h hk H
    refine unscope_wp ?_
    simp only [chkC] at hc
    split at hc
    · rename_i e
      rw [e]
      exact wp_ret (H.noGoto .ret l g w a hk h (Ext.refl _ _) rfl)
    · cases hc
end
end Go.Proofs.Ytgnoidblkenglaa.M
