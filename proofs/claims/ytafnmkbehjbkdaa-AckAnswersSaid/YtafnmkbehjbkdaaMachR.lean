/- A function: what the small machine answers a call of it does. -/
import Derived.Test.YtafnmkbehjbkdaaMachQc
set_option linter.unusedVariables false
set_option linter.unusedSimpArgs false
namespace Go.Proofs.Ytafnmkbehjbkdaa.M
open Go Go.RowKit
def key : IRes → Nat × Nat
  | .slot t => (t, t + 1)
  | .cell _ h n _ => (h + 1, h + 1 + n)
def apartK (x y : Nat × Nat) : Bool := Nat.ble x.2 y.1 || Nat.ble y.2 x.1
def apartKs : List (Nat × Nat) → Bool
  | [] => true
  | x :: r => r.all (apartK x) && apartKs r
def rhoL (pre : Nat → List Nat) : Nat → List IRes → List Nat → List Nat
  | _, [], L => L
  | i, .slot t :: rs, L => match L with
    | x :: p => if x = t then pre i ++ p else rhoL pre (i + 1) rs (x :: p)
    | [] => []
  | i, .cell _ h n ag :: rs, L => match L with
    | x :: p => if h + 1 ≤ x ∧ x < h + 1 + n then (match ag with
      | true => pre i ++ [x - (h + 1)]
      | false => pre i) ++ p else rhoL pre (i + 1) rs (x :: p)
    | [] => []
def RhoAt (ρ : List Nat → List Nat) (ir : IRes) (L : List Nat) : Prop := match ir with
  | .slot t => ∀ p, ρ (t :: p) = L ++ p
  | .cell _ h n ag => ∀ j p, j < n → ρ ((h + 1 + j) :: p) = (match ag with
    | true => L ++ [j]
    | false => L) ++ p
theorem rho_out (pre : Nat → List Nat) : ∀ {is : List IRes} {i x : Nat} {p : List Nat}, (∀ k ∈ is.map key, ¬ (k.1 ≤ x ∧ x < k.2)) → rhoL pre i is (x :: p) = x :: p
  | [], i, x, p, _ => rfl
  | .slot t :: is, i, x, p, h => by
    have h1 := h (key (.slot t)) (by simp)
    simp only [key] at h1
    simp only [rhoL]
    rw [if_neg (by omega)]
    exact rho_out pre fun k hk => h k (by simp at hk ⊢; exact .inr hk)
  | .cell a hh n ag :: is, i, x, p, h => by
    have h1 := h (key (.cell a hh n ag)) (by simp)
    simp only [key] at h1
    simp only [rhoL]
    rw [if_neg (by omega)]
    exact rho_out pre fun k hk => h k (by simp at hk ⊢; exact .inr hk)
theorem rho_skip (pre : Nat → List Nat) {r : IRes} {is : List IRes} {i x : Nat} {p : List Nat} (h : ¬ ((key r).1 ≤ x ∧ x < (key r).2)) : rhoL pre i (r :: is) (x :: p) = rhoL pre (i + 1) is (x :: p) := by
  cases r with
  | slot t =>
    simp only [key] at h
    simp only [rhoL]
    rw [if_neg (by omega)]
  | cell a hh n ag =>
    simp only [key] at h
    simp only [rhoL]
    rw [if_neg (by omega)]
theorem rho_at (pre : Nat → List Nat) : ∀ {is : List IRes} {i j : Nat} {ir : IRes}, apartKs (is.map key) = true → is[j]? = some ir → RhoAt (rhoL pre i is) ir (pre (i + j))
  | [], i, j, ir, _, h => by simp at h
  | r :: is, i, 0, ir, hk, h => by
    simp at h; subst h
    cases r with
    | slot t => intro p; simp [rhoL]
    | cell a hh n ag =>
      intro j p hj
      simp only [rhoL]
      rw [if_pos (by omega)]
      have : hh + 1 + j - (hh + 1) = j := by omega
      rw [this]; rfl
  | r :: is, i, j + 1, ir, hk, h => by
    simp only [List.map_cons, apartKs, Bool.and_eq_true] at hk
    have h' : is[j]? = some ir := by simpa using h
    have ih := rho_at pre (i := i + 1) hk.2 h'
    have hap := List.all_eq_true.1 hk.1 (key ir) (List.mem_map.2 ⟨ir, List.mem_of_getElem? h', rfl⟩)
    simp only [apartK, Bool.or_eq_true] at hap
    have hap : (key r).2 ≤ (key ir).1 ∨ (key ir).2 ≤ (key r).1 := hap.imp nble nble
    rw [show i + (j + 1) = i + 1 + j by omega]
    cases ir with
    | slot t =>
      intro p
      have e1 : key (.slot t) = (t, t + 1) := rfl
      rw [e1] at hap
      have hap : (key r).2 ≤ t ∨ t + 1 ≤ (key r).1 := hap
      rw [rho_skip pre (by omega)]
      exact ih p
    | cell a hh n ag =>
      intro c p hc
      have hap : (key r).2 ≤ hh + 1 ∨ hh + 1 + n ≤ (key r).1 := hap
      rw [rho_skip pre (by omega)]
      exact ih c p hc
def fR (tmps : Array Value) : ResultVar → Sem Value
  | .tmp t => pure (tmps.getD t undef)
  | .cell a t => do loadVar t (← asAddr (tmps.getD a undef))
def chkR1 (P : Program) (f : IFn) : ResultVar → IRes → Bool
  | .tmp u, .slot t => Nat.beq u t && Nat.blt t f.nt
  | .cell p ty, .cell a h n ag => Nat.beq p a && Nat.blt a f.nt && inLay f h n && chkT P ty ag n
  | _, _ => false
def chkRs (P : Program) (f : IFn) : List ResultVar → List IRes → Bool
  | [], [] => true
  | r :: rs, i :: is => chkR1 P f r i && chkRs P f rs is
  | _, _ => false
section
variable {P : Program} {T : Nat → Option IFn} {f : IFn} {g : Gh} {w : World} {l : List AV} {tm : Array Value}
theorem V3.toV2 {L : List Nat} {a : AV} {u : Value} (h : V3 g w L a u) (h2 : ∀ cs, a ≠ .tup cs) : V2 g w L a u := by
  cases h with
  | c h => exact h
  | tup cs => exact absurd rfl (h2 cs)
theorem mkv_2 {L : List Nat} {ag : Bool} {cs : List AV} {us : List Value} (h : V3 g w L (mkv ag cs) (mkval ag us)) (hc : ag = false → ∀ vs, cs.headD .dead ≠ .tup vs) : V2 g w L (mkv ag cs) (mkval ag us) := by
  refine h.toV2 fun vs e => ?_
  cases ag with
  | true => cases e
  | false => exact hc rfl vs e
theorem res_one (hl : LayOk f) (h : Rel f g w l tm) {rv : ResultVar} {ir : IRes} (hc : chkR1 P f rv ir = true) {a : AV} (hr : res1 l ir = some a) :
    ∃ v, (fR tm rv).run P w = .ok v w ∧ ∀ ρ L, RhoAt ρ ir L → V2 (g.ren ρ) w L a v := by
  cases rv with
  | tmp u =>
    cases ir with
    | cell => cases hc
    | slot t =>
      simp only [chkR1, Bool.and_eq_true] at hc
      have := nbeq hc.1; subst this
      have h1 := h.slots u (nblt hc.2)
      simp only [res1] at hr
      have h2 : l.getD u .dead = a ∧ ∀ cs, a ≠ .tup cs := by
        split at hr
        · cases hr
        · rename_i hne
          cases hr
          exact ⟨rfl, hne⟩
      rw [h2.1] at h1
      exact ⟨_, rfl, fun ρ L hρ => (h1.move (Pres.ren _ _ _) (OwnSame.ren _ _ fun p => hρ p)).toV2 h2.2⟩
  | cell p ty =>
    cases ir with
    | slot => cases hc
    | cell ad b n ag =>
      simp only [chkR1, Bool.and_eq_true] at hc
      obtain ⟨⟨⟨h1, h2⟩, h3⟩, h4⟩ := hc
      have := nbeq h1; subst this
      have hs := h.slots p (nblt h2)
      have hlay := inLay_ok h3
      simp only [res1] at hr
      split at hr <;> try cases hr
      rename_i h' m hptr hhd
      obtain ⟨h5, hr2⟩ := cond_some hr
      clear hr
      simp only [Bool.and_eq_true] at h5
      have := nbeq h5.1; subst this
      have := nbeq h5.2; subst this
      cases hr2
      rw [hptr] at hs
      obtain ⟨B', hB', hev⟩ := hs.ptr_inv
      have hn1 : ag = false → n = 1 := (chkT_ok h4).choose_spec.choose_spec.2.2.2.2
      rcases h.boxes b n hlay with ⟨e1, _⟩ | ⟨e1, B, cs, ty', hφ, hheap, hsz, hω, hfr, hcell⟩
      · rw [hhd] at e1; cases e1
      rw [hφ] at hB'; injection hB' with hB'; subst hB'
      let us := (rng 0 n).map fun i => cs.getD i undef
      have hus : us.length = n := len_map_rng _ _ _
      have hus' : ∀ i, i < n → us[i]? = some (cs.getD i undef) := fun i hi => by have := get_map_rng (fun i => cs.getD i undef) (i := 0) hi; rwa [Nat.zero_add] at this
      have has' : ∀ i, i < n → (getMany l (rng (b + 1) n))[i]? = some (l.getD (b + 1 + i) .dead) := fun i hi => get_map_rng _ hi
      have has : (getMany l (rng (b + 1) n)).length = n := len_map_rng _ _ _
      refine ⟨mkval ag us, ?_, fun ρ L hρ => mkv_2 (mkv_ok (has.trans hus.symm) (fun e => has.trans (hn1 e)) (fun i a' x' hi hi' => ?_)) (fun t vs e => ?_)⟩
      · have hh := run_loadAt (P := P) (w := w) h4 (B := B) (o := 0) (us := us) hus (fun i v hi => by
          have hi' : i < n := by have := lt_of_getq hi; omega
          rw [hus' i hi'] at hi; cases hi
          rw [cell_of_row _ _ _ _ _ _ hheap, Nat.zero_add, Array.getD_eq_getD_getElem?, Array.getElem?_eq_getElem (by omega)]; rfl)
        simp only [Instr.loadAt, Instr.sureAddr, Sem.run_bind, Sem.run_pure, Result.andThen_ok] at hh
        simp only [fR, hev, asAddr, Sem.run_bind, Sem.run_pure, Result.andThen_ok]
        exact hh
      · have hi0 : i < n := by have := lt_of_getq hi'; omega
        rw [hus' i hi0] at hi'; cases hi'
        rw [has' i hi0] at hi; cases hi
        refine (hcell i hi0).move (Pres.ren _ _ _) (OwnSame.ren _ _ fun p => ?_)
        cases ag <;> exact hρ i p hi0
      · have := hn1 t
        subst this
        have hh := hcell 0 (by omega)
        have e1 : (getMany l (rng (b + 1) 1)).headD .dead = l.getD (b + 1) .dead := rfl
        rw [e1] at e
        rw [Nat.add_zero, e] at hh
        cases hh with
        | of0 h0 => cases h0
end
end Go.Proofs.Ytafnmkbehjbkdaa.M
