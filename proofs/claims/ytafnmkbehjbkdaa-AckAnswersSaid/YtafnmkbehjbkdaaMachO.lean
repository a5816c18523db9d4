/- Operations that leave each other alone, and a region in any order. -/
import Derived.Test.YtafnmkbehjbkdaaMachN
import Derived.Orders
import Derived.Tactics
set_option linter.unusedVariables false
set_option linter.unusedSimpArgs false
namespace Go.Proofs.Ytafnmkbehjbkdaa.M
open Go Go.RowKit
def slotsOf : List IA → List Nat
  | [] => []
  | .s t :: r => t :: slotsOf r
  | .k _ :: r => slotsOf r
def IStep.reads (o : IStep) : List Nat := (match o.guard with
  | some (g, _) => [g]
  | none => []) ++ slotsOf o.op.opds
def IStep.writes (o : IStep) : List Nat := o.op.exw ++ o.dst.toList
def memB (a : Nat) (l : List Nat) : Bool := l.any fun b => Nat.beq a b
def djB (a b : List Nat) : Bool := a.all fun x => !memB x b
def indep (a b : IStep) : Bool := a.op.det && b.op.det && djB a.writes (b.reads ++ b.writes) && djB a.reads b.writes
theorem djB_ok {a b : List Nat} (h : djB a b = true) : ∀ x ∈ a, x ∉ b := fun x hx hm => by
  have := List.all_eq_true.1 h x hx
  simp only [memB, Bool.not_eq_true', List.any_eq_false] at this
  exact absurd (Nat.beq_refl x) (by simpa using this x hm)
def Agree (l l2 : List AV) (ts : List Nat) : Prop := ∀ t ∈ ts, l2.getD t .dead = l.getD t .dead
theorem agree_vals {l l2 : List AV} : ∀ {xs : List IA}, Agree l l2 (slotsOf xs) → xs.map (rd l2) = xs.map (rd l)
  | [], _ => rfl
  | .s t :: r, h => by
    simp only [List.map_cons, agree_vals (xs := r) fun t ht => h t (by simp [slotsOf, ht])]
    exact congrArg (· :: _) (h t (by simp [slotsOf]))
  | .k v :: r, h => by simp only [List.map_cons, agree_vals (xs := r) fun t ht => h t (by simpa [slotsOf] using ht)]; rfl
section
variable {R : Type} {call : Nat → List AV → List (List AV) → Option Ret} {r : R}
def Eff (call : Nat → List AV → List (List AV) → Option Ret) (o : IStep) (l : List AV) (W : List Nat) (V : List AV) : Prop :=
  (∀ t ∈ W, t ∈ o.writes) ∧ V.length = W.length ∧ ∀ (l2 : List AV), Agree l l2 o.reads → ∀ {R : Type} (k : List AV → Option R), step call o l2 k = k (setMany l2 W V)
theorem setO_many (l : List AV) (is : List Nat) (vs : List AV) (hl : vs.length = is.length) (d : Option Nat) (v : AV) : setO (setMany l is vs) d v = setMany l (is ++ d.toList) (vs ++ d.toList.map fun _ => v) := by
  rw [setMany_append _ _ _ _ _ hl]
  cases d <;> rfl
theorem run_eff {o : IStep} (hdet : o.op.det = true) {l : List AV} {k : List AV → Option R} (h : (comp call o.op (o.op.opds.map (rd l)) fun v ex =>
    cond (Nat.beq ex.length o.op.exw.length) (match o.split with
    | true => match v with
      | .sc (.bool b) => cond b (k (setO (setMany l o.op.exw ex) o.dst (.sc (.bool true)))) (k (setO (setMany l o.op.exw ex) o.dst (.sc (.bool false))))
      | _ => none
    | false => k (setO (setMany l o.op.exw ex) o.dst v)) none) = some r) :
    ∃ v ex, ex.length = o.op.exw.length ∧ k (setO (setMany l o.op.exw ex) o.dst v) = some r ∧ ∀ (l2 : List AV), Agree l l2 (slotsOf o.op.opds) → ∀ {R : Type} (k : List AV → Option R), (comp call o.op (o.op.opds.map (rd l2)) fun v ex =>
    cond (Nat.beq ex.length o.op.exw.length) (match o.split with
    | true => match v with
      | .sc (.bool b) => cond b (k (setO (setMany l2 o.op.exw ex) o.dst (.sc (.bool true)))) (k (setO (setMany l2 o.op.exw ex) o.dst (.sc (.bool false))))
      | _ => none
    | false => k (setO (setMany l2 o.op.exw ex) o.dst v)) none) = k (setO (setMany l2 o.op.exw ex) o.dst v) := by
  rw [n_comp _ _ hdet] at h
  cases hc : comp call o.op (o.op.opds.map (rd l)) k0 with
  | none => rw [hc] at h; cases h
  | some p =>
    rw [hc] at h
    obtain ⟨v, ex⟩ := p
    simp only [Option.bind_some, up] at h
    obtain ⟨h1, h2⟩ := cond_some h
    have hlen := nbeq h1
    refine ⟨v, ex, hlen, ?_, fun l2 ha R' k' => ?_⟩
    · split at h2
      · rename_i hs
        split at h2
        · rename_i b
          cases b <;> exact h2
        · cases h2
      · exact h2
    · rw [agree_vals ha, n_comp _ _ hdet, hc]
      simp only [Option.bind_some, up, h1, cond_true]
      split at h2
      · rename_i hs
        split at h2
        · rename_i b
          cases b <;> rfl
        · cases h2
      · rfl
theorem step_eff {o : IStep} (hdet : o.op.det = true) {l : List AV} {k : List AV → Option R} (h : step call o l k = some r) : ∃ W V, Eff call o l W V ∧ k (setMany l W V) = some r := by
  have skipCase : ∀ {k : List AV → Option R}, k (setO l o.dst (.tup [])) = some r → (∀ (l2 : List AV), Agree l l2 o.reads → ∀ {R : Type} (k : List AV → Option R), step call o l2 k = k (setO l2 o.dst (.tup []))) →
      ∃ W V, Eff call o l W V ∧ k (setMany l W V) = some r := fun {k} h1 h2 => by
    have e : ∀ l2 : List AV, setO l2 o.dst (.tup []) = setMany l2 o.dst.toList (o.dst.toList.map fun _ => .tup []) := fun l2 => by cases o.dst <;> rfl
    refine ⟨o.dst.toList, o.dst.toList.map fun _ => .tup [], ⟨fun t ht => by unfold IStep.writes; exact List.mem_append.2 (.inr ht), by simp, fun l2 ha R' k' => ?_⟩, by rw [← e]; exact h1⟩
    rw [h2 l2 ha k', e]
  unfold step at h
  cases hg : o.guard with
  | none =>
    rw [hg] at h
    obtain ⟨v, ex, h1, h2, h3⟩ := run_eff hdet h
    refine ⟨o.op.exw ++ o.dst.toList, ex ++ o.dst.toList.map fun _ => v, ⟨fun t ht => ht, by simp [h1], fun l2 ha R' k' => ?_⟩, by rw [← setO_many _ _ _ h1]; exact h2⟩
    unfold step
    rw [hg]
    exact (h3 l2 (fun t ht => ha t (by unfold IStep.reads; exact List.mem_append.2 (.inr ht))) k').trans (by rw [setO_many _ _ _ h1])
  | some gw =>
    obtain ⟨gs, want⟩ := gw
    rw [hg] at h
    simp only at h
    have hrg : ∀ l2, Agree l l2 o.reads → l2.getD gs .dead = l.getD gs .dead := fun l2 ha => ha gs (by unfold IStep.reads; rw [hg]; simp)
    cases hv : l.getD gs .dead with
    | sc v => cases v with
      | bool b =>
        rw [hv] at h
        have hrun : ∀ {k : List AV → Option R}, _ → _ := fun {k} h => run_eff hdet (call := call) (o := o) (l := l) (k := k) (r := r) h
        cases b <;> cases want <;> simp only [cond_true, cond_false] at h
        · obtain ⟨v, ex, h1, h2, h3⟩ := run_eff hdet h
          refine ⟨o.op.exw ++ o.dst.toList, ex ++ o.dst.toList.map fun _ => v, ⟨fun t ht => ht, by simp [h1], fun l2 ha R' k' => ?_⟩, by rw [← setO_many _ _ _ h1]; exact h2⟩
          unfold step
          rw [hg]
          simp only [hrg l2 ha, hv, cond_false]
          exact (h3 l2 (fun t ht => ha t (by unfold IStep.reads; exact List.mem_append.2 (.inr ht))) k').trans (by rw [setO_many _ _ _ h1])
        · refine skipCase h fun l2 ha R' k' => ?_
          unfold step
          rw [hg]
          simp only [hrg l2 ha, hv, cond_false]
        · refine skipCase h fun l2 ha R' k' => ?_
          unfold step
          rw [hg]
          simp only [hrg l2 ha, hv, cond_true]
        · obtain ⟨v, ex, h1, h2, h3⟩ := run_eff hdet h
          refine ⟨o.op.exw ++ o.dst.toList, ex ++ o.dst.toList.map fun _ => v, ⟨fun t ht => ht, by simp [h1], fun l2 ha R' k' => ?_⟩, by rw [← setO_many _ _ _ h1]; exact h2⟩
          unfold step
          rw [hg]
          simp only [hrg l2 ha, hv, cond_true]
          exact (h3 l2 (fun t ht => ha t (by unfold IStep.reads; exact List.mem_append.2 (.inr ht))) k').trans (by rw [setO_many _ _ _ h1])
      | _ => rw [hv] at h; cases h
    | tup vs => cases vs with
      | nil =>
        rw [hv] at h
        refine skipCase h fun l2 ha R' k' => ?_
        unfold step
        rw [hg]
        simp only [hrg l2 ha, hv]
      | cons => rw [hv] at h; cases h
    | _ => rw [hv] at h; cases h
theorem set_setMany : ∀ (is : List Nat) (vs l : List AV) {t : Nat} (a : AV), t ∉ is → setMany (l.set t a) is vs = (setMany l is vs).set t a
  | [], _, _, _, _, _ => by simp [setMany]
  | i :: is, [], l, _, _, _ => by simp [setMany]
  | i :: is, v :: vs, l, t, a, h => by
    simp only [List.mem_cons, not_or] at h
    simp only [setMany]
    rw [List.set_comm _ _ h.1]
    exact set_setMany is vs _ a h.2
theorem setMany_comm : ∀ (is : List Nat) (vs l : List AV) (js : List Nat) (us : List AV), (∀ t ∈ is, t ∉ js) → setMany (setMany l is vs) js us = setMany (setMany l js us) is vs
  | [], _, _, _, _, _ => by simp [setMany]
  | i :: is, [], l, _, _, _ => by simp [setMany]
  | i :: is, v :: vs, l, js, us, h => by
    simp only [setMany]
    rw [setMany_comm is vs _ js us (fun t ht => h t (by simp [ht])), set_setMany js us l v (h i (by simp))]
theorem swap {a b : IStep} (hi : indep a b = true) {l : List AV} {k : List AV → Option R} (h : (step call a l fun l1 => step call b l1 k) = some r) : (step call b l fun l1 => step call a l1 k) = some r := by
  simp only [indep, Bool.and_eq_true] at hi
  have h1 := djB_ok hi.1.2
  have h2 := djB_ok hi.2
  have d1 := hi.1.1.1
  have d2 := hi.1.1.2
  obtain ⟨Wa, Va, ⟨ea1, ea2, ea3⟩, h⟩ := step_eff d1 h
  obtain ⟨Wb, Vb, ⟨eb1, eb2, eb3⟩, h⟩ := step_eff d2 h
  have hb : Agree (setMany l Wa Va) l b.reads := fun t ht => by
    rw [setMany_out _ _ _ fun hm => h1 t (ea1 t hm) (List.mem_append.2 (.inl ht))]
  rw [eb3 l hb]
  have ha : Agree l (setMany l Wb Vb) a.reads := fun t ht => by
    rw [setMany_out _ _ _ fun hm => h2 t ht (eb1 t hm)]
  rw [ea3 _ ha, setMany_comm Wb Vb l Wa Va fun t hb ha => h1 t (ea1 t ha) (List.mem_append.2 (.inr (eb1 t hb)))]
  exact h
theorem step_mono {a : IStep} (hdet : a.op.det = true) {l : List AV} {k k' : List AV → Option R} (hk : ∀ l, k l = some r → k' l = some r) (h : step call a l k = some r) : step call a l k' = some r := by
  obtain ⟨W, V, ⟨e1, e2, e3⟩, h⟩ := step_eff hdet h
  rw [e3 l fun _ _ => rfl]; exact hk _ h
theorem front : ∀ {pre : List IStep} {o : IStep} {post : List IStep} {l : List AV} {k : List AV → Option R}, (∀ p ∈ pre, indep p o = true) → steps call (pre ++ o :: post) l k = some r → (step call o l fun l1 => steps call (pre ++ post) l1 k) = some r
  | [], o, post, l, k, _, h => h
  | p :: pre, o, post, l, k, hp, h => by
    simp only [List.cons_append, steps] at h ⊢
    have hdet : p.op.det = true := by
      have := hp p (by simp)
      simp only [indep, Bool.and_eq_true] at this
      exact this.1.1.1
    exact swap (hp p (by simp)) (step_mono hdet (fun l1 h1 => front (fun q hq => hp q (by simp [hq])) h1) h)
end
end Go.Proofs.Ytafnmkbehjbkdaa.M
