/- What an operation reads and writes, and that two which leave each other alone may change places. -/
import Derived.Test.YtafnmkbehjbkdaaMachM
set_option linter.unusedVariables false
set_option linter.unusedSimpArgs false
namespace Go.Proofs.Ytafnmkbehjbkdaa.M
open Go Go.RowKit
theorem cond_bind {α β : Type} (b : Bool) (x y : Option α) (f : α → Option β) : (cond b x y).bind f = cond b (x.bind f) (y.bind f) := by cases b <;> rfl
section
variable {R : Type}
def k0 : AV → List AV → Option (AV × List AV) := fun v e => some (v, e)
def up (k : AV → List AV → Option R) : AV × List AV → Option R := fun p => k p.1 p.2
theorem n_ibin (op : BinOp) (x y : AV) (k : AV → List AV → Option R) : ibin op x y (fun v => k v []) = (ibin op x y (fun v => k0 v [])).bind (up k) := by
  unfold ibin
  split
  · split
    · rw [cond_bind]; rfl
    · rw [cond_bind]; rfl
    · rw [cond_bind]; congr 1; split <;> first | rfl | (rw [cond_bind]; rfl)
  · rfl
theorem n_eqb (neg : Bool) (x y : AV) (k : AV → List AV → Option R) : eqbK neg x y (fun v => k v []) = (eqbK neg x y (fun v => k0 v [])).bind (up k) := by
  unfold eqbK; split <;> rfl
theorem n_eqC (neg : Bool) (k : AV → List AV → Option R) : ∀ (ks : List Bool) (xs ys : List AV) (q : Bool → Bool), eqC ks xs ys (fun r => k (.sc (.bool (cond neg (!(q r)) (q r)))) []) = (eqC ks xs ys (fun r => k0 (.sc (.bool (cond neg (!(q r)) (q r)))) [])).bind (up k)
  | ks, xs, ys, q => by
    unfold eqC
    split
    · rfl
    · rw [cond_bind]; congr 1
      exact n_eqC neg k _ _ _ (fun r => q (_ && r))
    · exact n_eqC neg k _ _ _ (fun r => q (_ && r))
    · rfl
theorem n_eqs (ks : List Bool) (neg : Bool) (x y : AV) (k : AV → List AV → Option R) : eqsK ks neg x y (fun v => k v []) = (eqsK ks neg x y (fun v => k0 v [])).bind (up k) := by
  unfold eqsK; split
  · exact n_eqC neg k _ _ _ (fun r => r)
  · rfl
theorem n_un (op : UnOp) (x : AV) (k : AV → List AV → Option R) : iun op x (fun v => k v []) = (iun op x (fun v => k0 v [])).bind (up k) := by
  unfold iun; split <;> rfl
theorem n_outx (tk : Bool) (x : IA) (v : AV) (k : AV → List AV → Option R) : outx tk x v k = (outx tk x v k0).bind (up k) := by
  unfold outx; split
  · rw [cond_bind]; rfl
  · rfl
theorem n_foldMM (m : Bool) (ka : IntKind) (k : AV → List AV → Option R) : ∀ (l : List AV) (x : Int), foldMM m ka x l (fun v => k (.sc (.int ka v)) []) = (foldMM m ka x l (fun v => k0 (.sc (.int ka v)) [])).bind (up k)
  | [], x => rfl
  | a :: r, x => by
    cases a with
    | sc v => cases v with
      | int kb y =>
        simp only [foldMM]
        rw [cond_bind]; congr 1
        exact n_foldMM m ka k r _
      | _ => rfl
    | _ => rfl
theorem n_mnmx (m : Bool) (vs : List AV) (k : AV → List AV → Option R) : mnmxK m vs (fun v => k v []) = (mnmxK m vs (fun v => k0 v [])).bind (up k) := by
  unfold mnmxK; split
  · exact n_foldMM _ _ _ _ _
  · rfl
theorem n_slice (sz : Nat) (v : AV) (lo hi mx : Option Int) (k : AV → List AV → Option R) : sliceK sz v lo hi mx (fun v => k v []) = (sliceK sz v lo hi mx (fun v => k0 v [])).bind (up k) := by
  unfold sliceK
  split
  · rw [cond_bind]; congr 1
    split <;> first | rfl | (simp only [cond_bind]; rfl)
  · rfl
theorem n_optI (x : Option IA) (vs : List AV) (f : Option Int → List AV → Option R) (f0 : Option Int → List AV → Option (AV × List AV)) (k : AV → List AV → Option R) (h : ∀ i vs, f i vs = (f0 i vs).bind (up k)) : optI x vs f = (optI x vs f0).bind (up k) := by
  unfold optI; split
  · exact h _ _
  · exact h _ _
  · rfl
theorem n_call (call : Nat → List AV → List (List AV) → Option Ret) (id : Nat) (args : List (Bool × IA)) (pass exp : List (Nat × Nat × Nat)) (more vals : List AV) (k : AV → List AV → Option R) :
    callK call id args pass exp more vals k = (callK call id args pass exp more vals k0).bind (up k) := by
  unfold callK
  split
  · rfl
  split
  · rfl
  split
  · rfl
  split
  · cases call id _ _ with
    | none => rfl
    | some r =>
      simp only [Option.bind_some]
      split
      · rw [cond_bind]; rfl
      · rfl
  · rfl
theorem n_sel {R : Type} {α : Type} (i : Int) (g : α → Option R) : ∀ (n j : Nat) (k : Nat → Option α), (selK i n j k).bind g = selK i n j fun m => (k m).bind g
  | 0, _, _ => rfl
  | n + 1, j, k => by
    unfold selK
    rw [cond_bind, n_sel i g n (j + 1) k]
theorem n_comp (call : Nat → List AV → List (List AV) → Option Ret) (op : IOp) (hdet : op.det = true) (vals : List AV) (k : AV → List AV → Option R) : comp call op vals k = (comp call op vals k0).bind (up k) := by
  unfold comp
  split
  · exact n_outx _ _ _ _
  · unfold pickK; split <;> first | rfl | (rw [cond_bind]; rfl)
  · unfold allocK; split <;> rfl
  · unfold boxK; split
    · split
      · unfold atIA; split <;> simp only [cond_bind] <;> rfl
      · rfl
    · rfl
  · unfold loadK; split
    · split
      · simp only [cond_bind]; rfl
      · rfl
    · rfl
  · unfold loadeK; split
    · simp only [cond_bind]; rfl
    · rfl
  · unfold storeK; split
    · split
      · split
        · unfold atIA; split <;> simp only [cond_bind] <;> rfl
        · rfl
      · rfl
    · rfl
  · unfold nilK; split <;> rfl
  · exact n_ibin _ _ _ _
  · exact n_eqb _ _ _ _
  · exact n_eqs _ _ _ _ _
  · cases hdet
  · exact n_un _ _ _
  · unfold convK; split <;> rfl
  · unfold fldK; split <;> first | rfl | (rw [cond_bind]; rfl)
  · unfold fieldvK; split <;> first | rfl | (rw [cond_bind]; rfl)
  · unfold idxK; split
    · split
      · simp only [cond_bind]; rfl
      · rfl
    · rfl
  · exact n_optI _ _ _ _ _ fun _ _ => n_optI _ _ _ _ _ fun _ _ => n_optI _ _ _ _ _ fun _ _ => n_slice _ _ _ _ _ _
  · unfold lenK; split <;> first | rfl | (rw [cond_bind]; rfl)
  · unfold sidxK; split
    · split
      · simp only [cond_bind]; rfl
      · rfl
    · rfl
  · unfold aidxK; split
    · split
      · rw [cond_bind, n_sel]; rfl
      · rfl
    · rfl
  · unfold uappK; split
    · split
      · simp only [cond_bind]; unfold atIA; split <;> rfl
      · simp only [cond_bind]; unfold atIA; split <;> rfl
      · rfl
    · rfl
  · unfold ualiasK; split <;> rfl
  · unfold uidxK; split
    · split
      · simp only [cond_bind]; rfl
      · rfl
    · rfl
  · unfold uloadK; split
    · split
      · simp only [cond_bind]; rfl
      · rfl
    · rfl
  · unfold ustoreK; split
    · split
      · split
        · simp only [cond_bind]; rfl
        · rfl
      · rfl
    · rfl
  · unfold ufrzK; split
    · unfold atIA; split <;> rfl
    · rfl
  · unfold unewK; split <;> rfl
  · unfold strK; split
    · simp only [cond_bind]; congr 1; split <;> rfl
    · rfl
  · unfold eqtK; split <;> rfl
  · unfold ubsK; split
    · simp only [cond_bind]; rfl
    · rfl
  · unfold uconvK; split
    · simp only [cond_bind]; unfold atIA; split <;> rfl
    · rfl
  · unfold buildlK; split
    · split
      · simp only [cond_bind]; rfl
      · rfl
    · rfl
  · exact n_mnmx _ _ _
  · unfold appK; split
    · split
      · simp only [cond_bind]; rfl
      · rfl
    · rfl
  · unfold buildK; split <;> rfl
  · unfold bsliceK; split
    · rw [cond_bind]; rfl
    · rfl
  · unfold extK; split
    · split
      · rw [cond_bind]; rfl
      · rfl
    · rfl
  · unfold mkcloK; split <;> rfl
  · exact n_call _ _ _ _ _ _ _ _
  · unfold callvK; split
    · rw [cond_bind]; congr 1; exact n_call _ _ _ _ _ _ _ _
    · rfl
  · unfold roC
    rw [cond_bind]; congr 1
    rw [n_call]
    conv => rhs; arg 1; rw [n_call]
    cases callK call _ _ _ _ _ _ k0 with
    | none => rfl
    | some p => rfl
  · rfl
end
end Go.Proofs.Ytafnmkbehjbkdaa.M
