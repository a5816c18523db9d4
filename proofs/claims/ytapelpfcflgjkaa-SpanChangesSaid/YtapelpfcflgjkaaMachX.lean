/- What the printed functions lean on: rows as lists, calls of functions that are known. -/
import Derived.Test.YtapelpfcflgjkaaMachW
set_option linter.unusedVariables false
set_option linter.unusedSimpArgs false
namespace Go.Proofs.Ytapelpfcflgjkaa.M
open Go Go.RowKit
noncomputable section

def rg {α : Type} (c : α → List AV) (z : α) (xs : List α) : Nat → List AV := fun i => c (xs.getD i z)
section
variable {α : Type} {c : α → List AV} {z : α} {xs ys : List α}
theorem gD_le {l : List α} {i : Nat} (h : l.length ≤ i) : l.getD i z = z := by rw [List.getD_eq_getElem?_getD, List.getElem?_eq_none h]; rfl
theorem gD_l {i : Nat} (h : i < xs.length) : (xs ++ ys).getD i z = xs.getD i z := by rw [List.getD_eq_getElem?_getD, List.getD_eq_getElem?_getD, List.getElem?_append_left h]
theorem gD_r {i : Nat} (h : xs.length ≤ i) : (xs ++ ys).getD i z = ys.getD (i - xs.length) z := by rw [List.getD_eq_getElem?_getD, List.getD_eq_getElem?_getD, List.getElem?_append_right h]
theorem rg_app : appGet xs.length ys.length (rg c z xs) (rg c z ys) = rg c z (xs ++ ys) := by
  funext i
  unfold appGet rg
  by_cases h : i < xs.length
  · rw [decide_eq_true h, cond_true, gD_l h]
  · rw [decide_eq_false h, cond_false, gD_r (by omega)]
    by_cases h2 : i < xs.length + ys.length
    · rw [decide_eq_true h2, cond_true]
    · rw [decide_eq_false h2, cond_false]
      congr 1
      rw [gD_le (by omega), gD_le (by omega)]
theorem rg_sub {lo n : Nat} (h : lo + n ≤ xs.length) : subGet n lo xs.length (rg c z xs) = rg c z ((xs.drop lo).take n) := by
  funext i
  unfold subGet rg
  by_cases hi : i < n
  · rw [decide_eq_true hi, cond_true]
    congr 1
    simp [List.getD_eq_getElem?_getD, List.getElem?_take, hi]
  · rw [decide_eq_false hi, cond_false]
    congr 1
    rw [gD_le (Nat.le_refl _), gD_le (by simp; omega)]
theorem flat_get {sz : Nat} : ∀ {es : List α} {i : Nat}, (∀ e, (c e).length = sz) → i < es.length → (((es.map c).flatten).drop (i * sz)).take sz = c (es.getD i z)
  | [], i, _, h => by simp at h
  | e :: es, 0, hc, _ => by simp [hc e, List.take_append_of_le_length (Nat.le_of_eq (hc e).symm), List.take_of_length_le (Nat.le_of_eq (hc e))]
  | e :: es, i + 1, hc, h => by
    simp only [List.map_cons, List.flatten_cons, Nat.succ_mul]
    rw [List.drop_append, show i * sz + sz - (c e).length = i * sz by rw [hc e]; omega, List.drop_of_length_le (by rw [hc e]; omega), List.nil_append, List.getD_cons_succ]
    exact flat_get hc (by simpa using h)
theorem rg_lit {sz : Nat} {es : List α} (hc : ∀ e, (c e).length = sz) : litGet sz es.length (c z) ((es.map c).flatten) = rg c z es := by
  funext i
  unfold litGet rg
  by_cases h : i < es.length
  · rw [decide_eq_true h, cond_true, flat_get hc h]
  · rw [decide_eq_false h, cond_false, gD_le (by omega)]
end
section
variable {R W : Type}
theorem cc {b : Bool} {x y x' y' : Option R} (h1 : x = x') (h2 : y = y') : cond b x y = cond b x' y' := by rw [h1, h2]
abbrev clrT (xs : List Nat) (hs : List (Nat × Nat)) (k : Ex → FT W → Option R) : Ex → FT W → Option R := fun e l' => match e with
  | .norm => clear2 xs hs l' (k .norm)
  | e => k e l'
abbrev seqT (x : IC2 W → FT W → (Ex → FT W → Option R) → Option R) (b : IC2 W) (k : Ex → FT W → Option R) : Ex → FT W → Option R := fun e l' => match e with
  | .norm => x b l' k
  | e => k e l'
abbrev blkT (id : Nat) (k : Ex → FT W → Option R) : Ex → FT W → Option R := fun e l' => match e with
  | .exit i => cond (Nat.beq i id) (k .norm l') (k (.exit i) l')
  | e => k e l'
abbrev loopT (f : FT W → (Ex → FT W → Option R) → Option R) (m : Nat) (k : Ex → FT W → Option R) : Ex → FT W → Option R := fun e l' => match e with
  | .norm => loopN2 f m l' k
  | e => k e l'
theorem loopN2_succ (f : FT W → (Ex → FT W → Option R) → Option R) (m : Nat) (l : FT W) (k : Ex → FT W → Option R) : loopN2 f (m + 1) l k = f l (loopT f m k) := rfl
/-! ### a range over a function -/
abbrev rfnT (bq : Nat) (l : FT W) (k : Ex → FT W → Option R) : Ex → FT W → Option R := fun e l' => match e with
  | .exit _ => none
  | _ => cond (allF noYT (l'.drop bq)) (k .norm (kept2 bq l ++ l'.drop bq)) none
abbrev roundT (bq : Nat) (lc : FT W) (K : FT W → Option R) : Ex → FT W → Option R := fun e l2 => match e with
  | .norm => K (kept2 bq lc ++ l2.drop bq)
  | _ => none
def rndT (bq : Nat) (ps pb : List Nat) (l : FT W) (x : FT W → (Ex → FT W → Option R) → Option R) : List (TV W) → FT W → (FT W → Option R) → Option R := fun args lc K => cond (allF (only3T true pb) (kept2 bq lc) && Nat.beq args.length ps.length) (putM (kept2 bq l ++ lc.drop bq) ps args fun l0 => x l0 (roundT bq lc K)) none
theorem rnd_eq {U : Uni W} {cp : Nat → Nat → Bool} {call : Nat → List (TV W) → List (List (TV W)) → (Ret2 W → Option R) → Option R} {n : Nat} (bq : Nat) (ps pb : List Nat) (l : FT W) (a b : IC2 W) : roundK2 bq ps pb l (exec2 U cp call n a) (exec2 U cp call n b) = rndT bq ps pb l (exec2 U cp call n (.seq a b)) := by
  funext args lc K
  unfold roundK2 rndT
  congr 2
  funext l0
  show _ = exec2 U cp call n a l0 _
  congr 1
  funext e l1
  cases e <;> rfl
theorem cg2 {α β γ : Sort _} {f : α → β → γ} {a a' : α} {b b' : β} (h1 : a = a') (h2 : b = b') : f a b = f a' b' := by rw [h1, h2]
def sl {α : Type} (i n : Nat) (l : List α) : List α := (l.drop i).take n
theorem sub_len {α : Type} {xs : List α} {lo n : Nat} (h : lo + n ≤ xs.length) : (List.take n (xs.drop lo)).length = n := by
  rw [List.length_take, List.length_drop]; omega
theorem bind_lit {α : Type} {p : Option (List α)} {n : Nat} {mk : List α → W} {r : W} (h : (p.bind fun xs => cond (Nat.beq xs.length n) (some (mk xs)) none) = some r) : ∃ xs, p = some xs ∧ n = xs.length ∧ r = mk xs := by
  cases p with
  | none => cases h
  | some xs =>
    obtain ⟨h1, h2⟩ := cond_some h
    cases h2
    exact ⟨xs, rfl, (nbeq h1).symm, rfl⟩
theorem all_flat {α : Type} {c : α → List AV} (hf : ∀ e, (c e).all AV.flat = true) : ∀ (xs : List α), ((xs.map c).flatten).all AV.flat = true
  | [] => rfl
  | x :: xs => by simp only [List.map_cons, List.flatten_cons, List.all_append, hf x, all_flat hf xs, Bool.and_self]
end
/-- slices.Clone: an empty row may be nil, or not; both answers are one. -/
theorem clone_fin {α : Type} {c : α → List AV} {z : α} {zs : List AV} {sz bytes : Nat} {F : Nat → (Nat → List AV) → Option Ret}
    (h0 : ∀ g, F 0 g = both (some ⟨.row true sz 0 (fun _ => zs), [], []⟩) (cond (capB (0 + 0) bytes) (some ⟨.row true sz (0 + 0) (appGet 0 0 (litGet sz 0 zs []) g), [], []⟩) none))
    (h1 : ∀ m g, F (m + 1) g = cond (capB (0 + (m + 1)) bytes) (some ⟨.row true sz (0 + (m + 1)) (appGet 0 (m + 1) (litGet sz 0 zs []) g), [], []⟩) none) (hz : c z = zs) (xs : List α) (hc : capB (0 + xs.length) bytes = true) :
    F xs.length (rg c z xs) = some ⟨.row true sz xs.length (rg c z xs), [], []⟩ := by
  cases xs with
  | nil =>
    show F 0 _ = _
    rw [h0, capB0]
    have e1 : appGet 0 0 (litGet sz 0 zs []) (rg c z []) = fun _ => zs := by
      funext i
      unfold appGet litGet
      simp
    have e2 : rg c z [] = fun _ => zs := by
      funext i
      unfold rg
      simp [hz]
    simp only [cond_true, Nat.add_zero, e1]
    rw [e2]
    exact both_self _
  | cons x xs =>
    show F (xs.length + 1) _ = _
    rw [h1, show capB (0 + (xs.length + 1)) bytes = true from hc]
    simp only [cond_true, Nat.zero_add]
    have e : appGet 0 (xs.length + 1) (litGet sz 0 zs []) (rg c z (x :: xs)) = rg c z (x :: xs) := by
      funext i
      unfold appGet
      by_cases h : i < xs.length + 1
      · simp [h]
      · simp only [Nat.not_lt_zero, decide_false, cond_false, Nat.zero_add, h]
        unfold litGet rg
        rw [gD_le (by simp; omega)]
        simp [hz]
    rw [e]; rfl
end
end Go.Proofs.Ytapelpfcflgjkaa.M
