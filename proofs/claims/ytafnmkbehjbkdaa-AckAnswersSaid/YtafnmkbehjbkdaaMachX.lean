/- What the printed functions lean on: rows as lists, calls of functions that are known. -/
import Derived.Test.YtafnmkbehjbkdaaMachW
set_option linter.unusedVariables false
set_option linter.unusedSimpArgs false
namespace Go.Proofs.Ytafnmkbehjbkdaa.M
open Go Go.RowKit
noncomputable section
def rg {α : Type} (c : α → List AV) (z : α) (xs : List α) : Nat → List AV := fun i => c (xs.getD i z)
section
variable {α : Type} {c : α → List AV} {z : α} {xs ys : List α}
theorem gD_le {l : List α} {i : Nat} (h : l.length ≤ i) : l.getD i z = z := by rw [List.getD_eq_getElem?_getD, List.getElem?_eq_none h]; rfl
theorem gD_l {i : Nat} (h : i < xs.length) : (xs ++ ys).getD i z = xs.getD i z := by rw [List.getD_eq_getElem?_getD, List.getD_eq_getElem?_getD, List.getElem?_append_left h]
theorem gD_r {i : Nat} (h : xs.length ≤ i) : (xs ++ ys).getD i z = ys.getD (i - xs.length) z := by rw [List.getD_eq_getElem?_getD, List.getD_eq_getElem?_getD, List.getElem?_append_right h]
theorem rg_app : appGet xs.length ys.length (rg c z xs) (rg c z ys) = rg c z (xs ++ ys) := by
  funext i
  unfold appGet rg
  by_cases h : i < xs.length
  · rw [decide_eq_true h, cond_true, gD_l h]
  · rw [decide_eq_false h, cond_false, gD_r (by omega)]
    by_cases h2 : i < xs.length + ys.length
    · rw [decide_eq_true h2, cond_true]
    · rw [decide_eq_false h2, cond_false]
      congr 1
      rw [gD_le (by omega), gD_le (by omega)]
theorem rg_sub {lo n : Nat} (h : lo + n ≤ xs.length) : subGet n lo xs.length (rg c z xs) = rg c z ((xs.drop lo).take n) := by
  funext i
  unfold subGet rg
  by_cases hi : i < n
  · rw [decide_eq_true hi, cond_true]
    congr 1
    simp [List.getD_eq_getElem?_getD, List.getElem?_take, hi]
  · rw [decide_eq_false hi, cond_false]
    congr 1
    rw [gD_le (Nat.le_refl _), gD_le (by simp; omega)]
theorem flat_get {sz : Nat} : ∀ {es : List α} {i : Nat}, (∀ e, (c e).length = sz) → i < es.length → (((es.map c).flatten).drop (i * sz)).take sz = c (es.getD i z)
  | [], i, _, h => by simp at h
  | e :: es, 0, hc, _ => by simp [hc e, List.take_append_of_le_length (Nat.le_of_eq (hc e).symm), List.take_of_length_le (Nat.le_of_eq (hc e))]
  | e :: es, i + 1, hc, h => by
    simp only [List.map_cons, List.flatten_cons, Nat.succ_mul]
    rw [List.drop_append, show i * sz + sz - (c e).length = i * sz by rw [hc e]; omega, List.drop_of_length_le (by rw [hc e]; omega), List.nil_append, List.getD_cons_succ]
    exact flat_get hc (by simpa using h)
theorem rg_lit {sz : Nat} {es : List α} (hc : ∀ e, (c e).length = sz) : litGet sz es.length (c z) ((es.map c).flatten) = rg c z es := by
  funext i
  unfold litGet rg
  by_cases h : i < es.length
  · rw [decide_eq_true h, cond_true, flat_get hc h]
  · rw [decide_eq_false h, cond_false, gD_le (by omega)]
end
section
variable {R W : Type}
theorem cc {b : Bool} {x y x' y' : Option R} (h1 : x = x') (h2 : y = y') : cond b x y = cond b x' y' := by rw [h1, h2]
abbrev clrT (xs : List Nat) (hs : List (Nat × Nat)) (k : Ex → FT W → Option R) : Ex → FT W → Option R := fun e l' => match e with
  | .norm => clear2 xs hs l' (k .norm)
  | e => k e l'
abbrev seqT (x : IC2 W → FT W → (Ex → FT W → Option R) → Option R) (b : IC2 W) (k : Ex → FT W → Option R) : Ex → FT W → Option R := fun e l' => match e with
  | .norm => x b l' k
  | e => k e l'
abbrev blkT (id : Nat) (k : Ex → FT W → Option R) : Ex → FT W → Option R := fun e l' => match e with
  | .exit i => cond (Nat.beq i id) (k .norm l') (k (.exit i) l')
  | e => k e l'
abbrev loopT (f : FT W → (Ex → FT W → Option R) → Option R) (m : Nat) (k : Ex → FT W → Option R) : Ex → FT W → Option R := fun e l' => match e with
  | .norm => loopN2 f m l' k
  | e => k e l'
theorem loopN2_succ (f : FT W → (Ex → FT W → Option R) → Option R) (m : Nat) (l : FT W) (k : Ex → FT W → Option R) : loopN2 f (m + 1) l k = f l (loopT f m k) := rfl
abbrev rfnT (bq : Nat) (l : FT W) (k : Ex → FT W → Option R) : Ex → FT W → Option R := fun e l' => match e with
  | .exit _ => none
  | _ => cond (allF noYT (l'.drop bq)) (k .norm (kept2 bq l ++ l'.drop bq)) none
abbrev roundT (bq : Nat) (lc : FT W) (K : FT W → Option R) : Ex → FT W → Option R := fun e l2 => match e with
  | .norm => K (kept2 bq lc ++ l2.drop bq)
  | _ => none
def rndT (bq : Nat) (ps pb : List Nat) (l : FT W) (x : FT W → (Ex → FT W → Option R) → Option R) : List (TV W) → FT W → (FT W → Option R) → Option R := fun args lc K => cond (allF (only3T true pb) (kept2 bq lc) && Nat.beq args.length ps.length) (putM (kept2 bq l ++ lc.drop bq) ps args fun l0 => x l0 (roundT bq lc K)) none
theorem rnd_eq {U : Uni W} {cp : Nat → Nat → Bool} {call : Nat → List (TV W) → List (List (TV W)) → (Ret2 W → Option R) → Option R} {n : Nat} (bq : Nat) (ps pb : List Nat) (l : FT W) (a b : IC2 W) : roundK2 bq ps pb l (exec2 U cp call n a) (exec2 U cp call n b) = rndT bq ps pb l (exec2 U cp call n (.seq a b)) := by
  funext args lc K
  unfold roundK2 rndT
  congr 2
  funext l0
  show _ = exec2 U cp call n a l0 _
  congr 1
  funext e l1
  cases e <;> rfl
def rfnG (gf bq itnt : Nat) (px : List Nat) (l : FT W) : TV W → Bool
  | .clo f0 caps => Nat.beq f0 gf && Nat.ble (caps.length + 1) itnt && allF (only3T false px) (kept2 bq l) && allF noYT (l.drop bq) && (caps.all fun c => inPx px c.1) && Nat.ble (caps.length + 1) (16 * bq) && Nat.ble bq l.length
  | _ => false
def rfnS (bq : Nat) (l : FT W) (v : TV W) : Option (FT W) := match v with
  | .clo _ caps => putM (List.replicate bq (List.replicate 16 .dead)) (rng 0 (caps.length + 1)) (.yld :: caps.map fun x => .ptr x.1 x.2) fun S0 => some (S0 ++ l.drop bq)
  | _ => none
theorem putM_bind {S : Type} : ∀ (is : List Nat) (vs : List (TV W)) (l : FT W) (f : FT W → Option S) (k : S → Option R), (putM l is vs fun l' => (f l').bind k) = (putM l is vs f).bind k
  | [], _, _, _, _ => rfl
  | _ :: _, [], _, _, _ => rfl
  | i :: is, v :: vs, l, f, k => by
    simp only [putM, put2_eq]
    exact putM_bind is vs _ f k
theorem rfn_eq {U : Uni W} {cp : Nat → Nat → Bool} {call : Nat → List (TV W) → List (List (TV W)) → (Ret2 W → Option R) → Option R} {n : Nat} {x : IA2 W} {gf bq nt : Nat} {ps : List Nat} {it asg body : IC2 W} {px pb : List Nat} {l F1 : FT W} {v : TV W} (hv : rd2 l x = v) (hg : rfnG gf bq nt px l v = true) (hs : rfnS bq l v = some F1) (xs : List Nat) (hc : List (Nat × Nat)) (k : Ex → FT W → Option R) :
    exec2 U cp call n (.fin (.rfn x gf bq nt ps it asg body px pb) xs hc) l k = execI2 U cp call n (roundK2 bq ps pb l (exec2 U cp call n asg) (exec2 U cp call n body)) it F1 (rfnT bq l (clrT xs hc k)) := by
  show (match rd2 l x with
    | .clo f0 caps => _
    | _ => none) = _
  rw [hv]
  cases v <;> first | (cases hg; done) | skip
  rename_i f0 caps
  have hg' : (Nat.beq f0 gf && Nat.ble (caps.length + 1) nt && allF (only3T false px) (kept2 bq l) && allF noYT (l.drop bq) && (caps.all fun c => inPx px c.1) && Nat.ble (caps.length + 1) (16 * bq) && Nat.ble bq l.length) = true := hg
  show cond _ _ none = _
  rw [hg', cond_true]
  have h2 := putM_bind (R := R) (rng 0 (caps.length + 1)) (.yld :: caps.map fun x => .ptr x.1 x.2) (List.replicate bq (List.replicate 16 .dead)) (fun S0 => some (S0 ++ l.drop bq)) (fun F => execI2 U cp call n (roundK2 bq ps pb l (exec2 U cp call n asg) (exec2 U cp call n body)) it F (rfnT bq l (clrT xs hc k)))
  rw [show (putM (List.replicate bq (List.replicate 16 .dead)) (rng 0 (caps.length + 1)) (.yld :: caps.map fun x => .ptr x.1 x.2) fun S0 => some (S0 ++ l.drop bq)) = some F1 from hs] at h2
  refine Eq.trans ?_ h2
  congr 1
theorem cg2 {α β γ : Sort _} {f : α → β → γ} {a a' : α} {b b' : β} (h1 : a = a') (h2 : b = b') : f a b = f a' b' := by rw [h1, h2]
def sl {α : Type} (i n : Nat) (l : List α) : List α := (l.drop i).take n
theorem sub_len {α : Type} {xs : List α} {lo n : Nat} (h : lo + n ≤ xs.length) : (List.take n (xs.drop lo)).length = n := by
  rw [List.length_take, List.length_drop]; omega
theorem bind_lit {α : Type} {p : Option (List α)} {n : Nat} {mk : List α → W} {r : W} (h : (p.bind fun xs => cond (Nat.beq xs.length n) (some (mk xs)) none) = some r) : ∃ xs, p = some xs ∧ n = xs.length ∧ r = mk xs := by
  cases p with
  | none => cases h
  | some xs =>
    obtain ⟨h1, h2⟩ := cond_some h
    cases h2
    exact ⟨xs, rfl, (nbeq h1).symm, rfl⟩
theorem all_flat {α : Type} {c : α → List AV} (hf : ∀ e, (c e).all AV.flat = true) : ∀ (xs : List α), ((xs.map c).flatten).all AV.flat = true
  | [] => rfl
  | x :: xs => by simp only [List.map_cons, List.flatten_cons, List.all_append, hf x, all_flat hf xs, Bool.and_self]
end
theorem clone_fin {α : Type} {c : α → List AV} {z : α} {zs : List AV} {sz bytes : Nat} {F : Nat → (Nat → List AV) → Option Ret}
    (h0 : ∀ g, F 0 g = both (some ⟨.row true sz 0 (fun _ => zs), [], []⟩) (cond (capB (0 + 0) bytes) (some ⟨.row true sz (0 + 0) (appGet 0 0 (litGet sz 0 zs []) g), [], []⟩) none))
    (h1 : ∀ m g, F (m + 1) g = cond (capB (0 + (m + 1)) bytes) (some ⟨.row true sz (0 + (m + 1)) (appGet 0 (m + 1) (litGet sz 0 zs []) g), [], []⟩) none) (hz : c z = zs) (xs : List α) (hc : capB (0 + xs.length) bytes = true) :
    F xs.length (rg c z xs) = some ⟨.row true sz xs.length (rg c z xs), [], []⟩ := by
  cases xs with
  | nil =>
    show F 0 _ = _
    rw [h0, capB0]
    have e1 : appGet 0 0 (litGet sz 0 zs []) (rg c z []) = fun _ => zs := by
      funext i
      unfold appGet litGet
      simp
    have e2 : rg c z [] = fun _ => zs := by
      funext i
      unfold rg
      simp [hz]
    simp only [cond_true, Nat.add_zero, e1]
    rw [e2]
    exact both_self _
  | cons x xs =>
    show F (xs.length + 1) _ = _
    rw [h1, show capB (0 + (xs.length + 1)) bytes = true from hc]
    simp only [cond_true, Nat.zero_add]
    have e : appGet 0 (xs.length + 1) (litGet sz 0 zs []) (rg c z (x :: xs)) = rg c z (x :: xs) := by
      funext i
      unfold appGet
      by_cases h : i < xs.length + 1
      · simp [h]
      · simp only [Nat.not_lt_zero, decide_false, cond_false, Nat.zero_add, h]
        unfold litGet rg
        rw [gD_le (by simp; omega)]
        simp [hz]
    rw [e]; rfl
theorem bytes_at {gt : Nat → List AV} : ∀ (ys : List Int) (i : Nat), (∀ j, j < ys.length → gt (i + j) = [.sc (.int .u8 (ys.getD j 0))]) → bytesL gt i ys.length = some ys
  | [], i, h => rfl
  | y :: ys, i, h => by
    have h0 := h 0 (by simp)
    simp only [Nat.add_zero, List.getD_cons_zero] at h0
    have ih : bytesL gt (i + 1) ys.length = some ys := bytes_at ys (i + 1) fun j hj => by
      have h2 := h (j + 1) (by simpa using hj)
      rw [show i + (j + 1) = i + 1 + j by omega] at h2
      rw [h2]; simp
    simp only [List.length_cons, bytesL, h0, ih]
theorem bytes_rg {c : Int → List AV} (hc : ∀ x, c x = [.sc (.int .u8 x)]) {z : Int} (xs : List Int) : bytesL (rg c z xs) 0 xs.length = some xs :=
  bytes_at xs 0 fun j hj => by
    unfold rg
    rw [hc, Nat.zero_add, List.getD_eq_getElem?_getD, List.getD_eq_getElem?_getD, List.getElem?_eq_getElem hj]; rfl
theorem uclone_fin {α : Type} {c : α → List AV} {z : α} {zs : List AV} {sz bytes : Nat} {F : Nat → (Nat → List AV) → Option Ret}
    (h0 : ∀ g, F 0 g = both (some ⟨.un none sz 0 (fun _ => zs), [], []⟩) (cond (capB (0 + 0) bytes) (some ⟨.un none sz (0 + 0) (appGet 0 0 (litGet sz 0 zs []) g), [], []⟩) none))
    (h1 : ∀ m g, F (m + 1) g = cond (capB (0 + (m + 1)) bytes) (some ⟨.un none sz (0 + (m + 1)) (appGet 0 (m + 1) (litGet sz 0 zs []) g), [], []⟩) none) (hz : c z = zs) (xs : List α) (hc : capB (0 + xs.length) bytes = true) :
    F xs.length (rg c z xs) = some ⟨.un none sz xs.length (rg c z xs), [], []⟩ := by
  cases xs with
  | nil =>
    show F 0 _ = _
    rw [h0, capB0]
    have e1 : appGet 0 0 (litGet sz 0 zs []) (rg c z []) = fun _ => zs := by
      funext i
      unfold appGet litGet
      simp
    have e2 : rg c z [] = fun _ => zs := by
      funext i
      unfold rg
      simp [hz]
    simp only [cond_true, Nat.add_zero, e1]
    rw [e2]
    exact both_self _
  | cons x xs =>
    show F (xs.length + 1) _ = _
    rw [h1, show capB (0 + (xs.length + 1)) bytes = true from hc]
    simp only [cond_true, Nat.zero_add]
    have e : appGet 0 (xs.length + 1) (litGet sz 0 zs []) (rg c z (x :: xs)) = rg c z (x :: xs) := by
      funext i
      unfold appGet
      by_cases h : i < xs.length + 1
      · simp [h]
      · simp only [Nat.not_lt_zero, decide_false, cond_false, Nat.zero_add, h]
        unfold litGet rg
        rw [gD_le (by simp; omega)]
        simp [hz]
    rw [e]; rfl
def insL {α : Type} (xs : List α) (i : Nat) (x : α) : List α := xs.take i ++ x :: xs.drop i
theorem insL_length {α : Type} {xs : List α} {i : Nat} {x : α} (h : i ≤ xs.length) : (insL xs i x).length = xs.length + 1 := by unfold insL; simp; omega
theorem rg_ins {α : Type} {c : α → List AV} {z : α} {xs : List α} {i : Nat} {x : α} (h : i ≤ xs.length) : insGet xs.length i (rg c z xs) (rg c z [x]) = rg c z (insL xs i x) := by
  funext j
  unfold insGet rg insL
  by_cases h1 : j < i
  · rw [decide_eq_true h1, cond_true]
    congr 1
    simp only [List.getD_eq_getElem?_getD]
    rw [List.getElem?_append_left (by simp; omega), List.getElem?_take_of_lt h1]
  · rw [decide_eq_false h1, cond_false]
    by_cases h2 : j = i
    · rw [decide_eq_true h2, cond_true]
      congr 1
      subst h2
      simp only [List.getD_eq_getElem?_getD]
      rw [List.getElem?_append_right (by simp; omega)]
      simp [Nat.min_eq_left h]
    · rw [decide_eq_false h2, cond_false]
      have e : (List.take i xs ++ x :: List.drop i xs).getD j z = xs.getD (j - 1) z := by
        simp only [List.getD_eq_getElem?_getD]
        rw [List.getElem?_append_right (by simp; omega)]
        have : j - (List.take i xs).length = (j - 1 - i) + 1 := by simp; omega
        rw [this, List.getElem?_cons_succ, List.getElem?_drop]
        congr 2; omega
      rw [e]
      by_cases h3 : j < xs.length + 1
      · rw [decide_eq_true h3, cond_true]
      · rw [decide_eq_false h3, cond_false]
        congr 1
        rw [gD_le (by omega), gD_le (by omega)]
theorem ins_fin {α : Type} {c : α → List AV} {z : α} {sz bytes : Nat} {i : Int} {x : α} {xs : List α} {F : Option Ret}
    (h : F = cond (capB (xs.length + 1) bytes) (cond (decide (0 ≤ i)) (cond (decide (i ≤ (xs.length : Int))) (some ⟨.un none sz (xs.length + 1) (insGet xs.length i.toNat (rg c z xs) (rg c z [x])), [], []⟩) none) none) none)
    (hc : capB (xs.length + 1) bytes = true) (h0 : decide (0 ≤ i) = true) (h1 : decide (i ≤ (xs.length : Int)) = true) : F = some ⟨.un none sz (insL xs i.toNat x).length (rg c z (insL xs i.toNat x)), [], []⟩ := by
  have h2 := of_decide_eq_true h1
  have h3 := of_decide_eq_true h0
  rw [h, hc, h0, h1, rg_ins (by omega), insL_length (by omega)]; rfl
theorem set_fin {W α : Type} {U : Uni W} {c : α → List AV} {z : α} {e : α → List (TV W)} (hc : ∀ x, TV.los U (e x) = c x) (hf : ∀ x, (c x).all AV.flat = true) {xs : List α} {q off : Nat} {cs : List (TV W)} {x : α} (hq : q < xs.length)
    (h : splice2 (e (xs.getD q z)) off cs = e x) : (xs.set q x).length = xs.length ∧ rg c z (xs.set q x) = setGet q off (TV.los U cs) (rg c z xs) ∧ (TV.los U cs).all AV.flat = true := by
  have h1 : c x = splice (c (xs.getD q z)) off (TV.los U cs) := by
    rw [← hc, ← h, ← hc]
    unfold splice2 splice
    simp only [los_append, los_take, los_drop, los_len]
  refine ⟨List.length_set, ?_, ?_⟩
  · funext i
    unfold setGet rg
    by_cases e : i = q
    · subst e
      rw [decide_eq_true rfl, cond_true, ← h1]
      congr 1
      simp [List.getD_eq_getElem?_getD, hq]
    · rw [decide_eq_false e, cond_false]
      congr 1
      simp only [List.getD_eq_getElem?_getD]
      rw [List.getElem?_set_ne (fun h => e h.symm)]
  · have h2 := hf x
    rw [h1] at h2
    unfold splice at h2
    simp only [List.all_append, Bool.and_eq_true] at h2
    exact h2.2.1
end
end Go.Proofs.Ytafnmkbehjbkdaa.M
