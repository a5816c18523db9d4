/- What the machine over typed rows answers, the machine answers. -/
import Derived.Test.YtafnmkbehjbkdaaMachU
set_option linter.unusedVariables false
set_option linter.unusedSimpArgs false
namespace Go.Proofs.Ytafnmkbehjbkdaa.M
open Go Go.RowKit
theorem capB0 (b : Nat) : capB 0 b = true := capB_iff.2 (by rw [Nat.zero_mul]; exact Nat.zero_le _)
theorem beq_self' (n : Nat) : Nat.beq n n = true := by simp
structure UniOk {W : Type} (U : Uni W) : Prop where
  get : ∀ r i, TV.los U (U.get r i) = U.getA r i
  app : ∀ r s q, U.app r s = some q → U.sz s = U.sz r ∧ U.sz q = U.sz r ∧ U.len q = U.len r + U.len s ∧ U.getA q = appGet (U.len r) (U.len s) (U.getA r) (U.getA s)
  sub : ∀ lo n r, lo + n ≤ U.len r → U.sz (U.sub lo n r) = U.sz r ∧ U.len (U.sub lo n r) = n ∧ U.getA (U.sub lo n r) = subGet n lo (U.len r) (U.getA r)
  lit : ∀ t n L r, U.lit t n L = some r → U.sz r = U.szt t ∧ U.len r = n ∧ U.getA r = litGet (U.szt t) n (TV.los U (U.zt t)) (TV.los U L) ∧ (TV.los U L).all AV.flat = true
  str : ∀ r l, U.str r = some l → U.sz r = 1 ∧ bytesL (U.getA r) 0 (U.len r) = some l
  set : ∀ r q off cs r', q < U.len r → U.set r q off cs = some r' → U.sz r' = U.sz r ∧ U.len r' = U.len r ∧ U.getA r' = setGet q off (TV.los U cs) (U.getA r) ∧ (TV.los U cs).all AV.flat = true
section
variable {W : Type} {U : Uni W}
theorem los_map (l : List (TV W)) : TV.los U l = l.map (TV.lo U) := by
  induction l with
  | nil => rfl
  | cons a l ih => simp [TV.los, ih]
theorem los_len (l : List (TV W)) : (TV.los U l).length = l.length := by rw [los_map, List.length_map]
theorem los_append (a b : List (TV W)) : TV.los U (a ++ b) = TV.los U a ++ TV.los U b := by simp [los_map]
theorem los_take (n : Nat) (a : List (TV W)) : TV.los U (a.take n) = (TV.los U a).take n := by simp [los_map, List.map_take]
theorem los_drop (n : Nat) (a : List (TV W)) : TV.los U (a.drop n) = (TV.los U a).drop n := by simp [los_map, List.map_drop]
theorem lo_c1 (a : TV W) : TV.lo U a.c1 = (TV.lo U a).c1 := by cases a <;> rfl
theorem los_c1 (l : List (TV W)) : TV.los U (l.map TV.c1) = (TV.los U l).map AV.c1 := by
  induction l with
  | nil => rfl
  | cons a l ih => simp only [List.map_cons, TV.los, ih, lo_c1]
theorem lo_c2 (a : TV W) : TV.lo U a.c2 = (TV.lo U a).c2 := by
  cases a with
  | agg cs => show AV.agg _ = AV.agg _; rw [los_c1]
  | _ => rfl
theorem los_c2 (l : List (TV W)) : TV.los U (l.map TV.c2) = (TV.los U l).map AV.c2 := by
  induction l with
  | nil => rfl
  | cons a l ih => simp only [List.map_cons, TV.los, ih, lo_c2]
theorem lo_strip (a : TV W) : TV.lo U a.strip = (TV.lo U a).strip := by
  cases a with
  | tup cs => show AV.tup _ = AV.tup _; rw [los_c2]
  | agg cs => show AV.agg _ = AV.agg _; rw [los_c1]
  | _ => rfl
theorem lo_storable (a : TV W) : (TV.lo U a).storable = a.storable := by cases a <;> rfl
theorem los_storable (l : List (TV W)) : (TV.los U l).all AV.storable = l.all TV.storable := by
  induction l with
  | nil => rfl
  | cons a l ih => simp only [TV.los, List.all_cons, ih, lo_storable]
theorem lo_cells (a : TV W) {cs : List (TV W)} (h : a.cells? = some cs) : (TV.lo U a).cells? = some (TV.los U cs) := by
  cases a <;> simp only [TV.cells?, reduceCtorEq, Option.some.injEq] at h <;> subst h <;> rfl
theorem lo_sc {a : TV W} {v : Value} (h : a.sc? = .sc v) : a = .sc v := by
  cases a <;> simp only [TV.sc?, reduceCtorEq, AV.sc.injEq] at h
  subst h; rfl
theorem lo_sc' {a : TV W} (h : ∃ v, a.sc? = .sc v) : TV.lo U a = a.sc? := by
  obtain ⟨v, h⟩ := h
  rw [lo_sc h]; rfl
theorem los_sc {l : List (TV W)} (h : ∀ a ∈ l.map TV.sc?, ∃ v, a = .sc v) : TV.los U l = l.map TV.sc? := by
  induction l with
  | nil => rfl
  | cons a l ih =>
    simp only [List.map_cons, List.mem_cons, forall_eq_or_imp] at h
    simp only [TV.los, List.map_cons, ih h.2, lo_sc' h.1]
theorem lo_mkv (ag : Bool) (cs : List (TV W)) : TV.lo U (mkv2 ag cs) = mkv ag (TV.los U cs) := by
  cases ag with
  | true => rfl
  | false => cases cs <;> rfl
theorem lo_tkS (tk : Bool) (x : IA2 W) : tkS tk (x.lo U) = tkS2 tk x := by cases x <;> rfl
theorem getD_lo (l : List (TV W)) (t : Nat) : (TV.los U l).getD t .dead = TV.lo U (l.getD t .dead) := by
  rw [los_map, List.getD_eq_getElem?_getD, List.getD_eq_getElem?_getD, List.getElem?_map]
  cases l[t]? <;> rfl
theorem los_set (l : List (TV W)) (i : Nat) (v : TV W) : TV.los U (l.set i v) = (TV.los U l).set i (TV.lo U v) := by simp [los_map, List.map_set]
def Ch (l : FT W) : Prop := ∀ c ∈ l, c.length = 16
theorem Ch.cons {c : List (TV W)} {l : FT W} (h : Ch (c :: l)) : c.length = 16 ∧ Ch l := ⟨h c (by simp), fun d hd => h d (by simp [hd])⟩
theorem flat_getD : ∀ {l : FT W} {t : Nat}, Ch l → l.flatten.getD t .dead = get2 l t
  | [], t, _ => by simp [get2]
  | c :: l, t, h => by
    obtain ⟨h1, h2⟩ := h.cons
    unfold get2
    by_cases ht : t < 16
    · rw [Nat.div_eq_of_lt ht, Nat.mod_eq_of_lt ht, List.flatten_cons]
      simp only [List.getD_cons_zero]
      rw [List.getD_eq_getElem?_getD, List.getElem?_append_left (by omega), ← List.getD_eq_getElem?_getD]
    · obtain ⟨s, rfl⟩ : ∃ s, t = s + 16 := ⟨t - 16, by omega⟩
      have e1 : (s + 16) / 16 = s / 16 + 1 := by omega
      have e2 : (s + 16) % 16 = s % 16 := by omega
      rw [e1, e2, List.getD_cons_succ, List.flatten_cons, List.getD_eq_getElem?_getD, List.getElem?_append_right (by omega), ← List.getD_eq_getElem?_getD, h1, Nat.add_sub_cancel]
      exact flat_getD h2
def set2 (l : FT W) (t : Nat) (v : TV W) : FT W := l.set (t / 16) ((l.getD (t / 16) []).set (t % 16) v)
theorem set2_ok : ∀ {l : FT W} {t : Nat} {v : TV W}, Ch l → (set2 l t v).flatten = l.flatten.set t v ∧ Ch (set2 l t v)
  | [], t, v, _ => ⟨by simp [set2], fun c hc => by simp [set2] at hc⟩
  | c :: l, t, v, h => by
    obtain ⟨h1, h2⟩ := h.cons
    by_cases ht : t < 16
    · have e : set2 (c :: l) t v = c.set t v :: l := by
        unfold set2
        rw [Nat.div_eq_of_lt ht, Nat.mod_eq_of_lt ht]; rfl
      rw [e]
      refine ⟨?_, fun d hd => ?_⟩
      · rw [List.flatten_cons, List.flatten_cons, List.set_append_left _ _ (by omega)]
      · rcases List.mem_cons.1 hd with rfl | hd
        · simpa using h1
        · exact h2 d hd
    · obtain ⟨s, rfl⟩ : ∃ s, t = s + 16 := ⟨t - 16, by omega⟩
      obtain ⟨i1, i2⟩ := set2_ok (t := s) (v := v) h2
      have e : set2 (c :: l) (s + 16) v = c :: set2 l s v := by
        unfold set2
        have e1 : (s + 16) / 16 = s / 16 + 1 := by omega
        have e2 : (s + 16) % 16 = s % 16 := by omega
        rw [e1, e2]; rfl
      rw [e]
      refine ⟨?_, fun d hd => ?_⟩
      · rw [List.flatten_cons, List.flatten_cons, List.set_append_right _ _ (by omega), i1, h1, Nat.add_sub_cancel]
      · rcases List.mem_cons.1 hd with rfl | hd
        · exact h1
        · exact i2 d hd
section
variable {R : Type}
theorem gV_eq (v : Value) (f : Value → Option R) : gV v f = f v := by cases v <;> rfl
theorem gC_eq (a : TV W) (f : TV W → Option R) : gC a f = f a := by cases a <;> first | rfl | exact gV_eq _ _
theorem gCs_eq : ∀ (l : List (TV W)) (f : List (TV W) → Option R), gCs l f = f l
  | [], f => rfl
  | a :: r, f => by simp only [gCs, gC_eq, gCs_eq r]
theorem g2_eq (a : TV W) (f : TV W → Option R) : g2 a f = f a := by cases a <;> simp only [g2, gCs_eq, gC_eq]
theorem g2s_eq : ∀ (l : List (TV W)) (f : List (TV W) → Option R), g2s l f = f l
  | [], f => rfl
  | a :: r, f => by simp only [g2s, g2_eq, g2s_eq r]
theorem g3_eq (a : TV W) (f : TV W → Option R) : g3 a f = f a := by cases a <;> simp only [g3, g2s_eq, gCs_eq, g2_eq]
theorem gL_eq : ∀ (l : List (TV W)) (f : List (TV W) → Option R), gL l f = f l
  | [], f => rfl
  | a :: r, f => by simp only [gL, g3_eq, gL_eq r]
theorem gF_eq : ∀ (l : FT W) (f : FT W → Option R), gF l f = f l
  | [], f => rfl
  | a :: r, f => by simp only [gF, gL_eq, gF_eq r]
theorem setL_eq {α : Type} : ∀ (l : List α) (i : Nat) (v : α) (k : List α → Option R), setL l i v k = k (l.set i v)
  | [], i, v, k => by cases i <;> rfl
  | a :: r, 0, v, k => rfl
  | a :: r, i + 1, v, k => by simp only [setL, setL_eq r, List.set_cons_succ]
theorem put2_eq (l : FT W) (t : Nat) (v : TV W) (k : FT W → Option R) : put2 l t v k = k (set2 l t v) := by
  unfold put2 set2
  simp only [g3_eq, setL_eq]
end
def fl (U : Uni W) (l : FT W) : List AV := TV.los U l.flatten
theorem fl_get {l : FT W} (h : Ch l) (t : Nat) : (fl U l).getD t .dead = TV.lo U (get2 l t) := by
  unfold fl
  rw [getD_lo, flat_getD h]
theorem rd_lo {l : FT W} (h : Ch l) (x : IA2 W) : rd (fl U l) (x.lo U) = TV.lo U (rd2 l x) := by
  cases x with
  | s t => exact fl_get h t
  | k v => rfl
theorem fl_set {l : FT W} (h : Ch l) (t : Nat) (v : TV W) : fl U (set2 l t v) = (fl U l).set t (TV.lo U v) ∧ Ch (set2 l t v) := by
  obtain ⟨h1, h2⟩ := set2_ok (t := t) (v := v) h
  exact ⟨by unfold fl; rw [h1, los_set], h2⟩
theorem putM_ok {R : Type} {r : R} : ∀ (is : List Nat) (vs : List (TV W)) (l : FT W) (k : FT W → Option R), Ch l → putM l is vs k = some r → ∃ l', Ch l' ∧ k l' = some r ∧ fl U l' = setMany (fl U l) is (TV.los U vs)
  | [], vs, l, k, h, hk => by
    cases vs with
    | nil => exact ⟨l, h, hk, rfl⟩
    | cons a b => exact ⟨l, h, hk, rfl⟩
  | i :: is, [], l, k, h, hk => ⟨l, h, hk, rfl⟩
  | i :: is, v :: vs, l, k, h, hk => by
    simp only [putM, put2_eq] at hk
    obtain ⟨e1, e2⟩ := fl_set (U := U) h i v
    obtain ⟨l', h1, h2, h3⟩ := putM_ok is vs _ k e2 hk
    exact ⟨l', h1, h2, by rw [h3, e1]; rfl⟩
theorem putO_ok {R : Type} {r : R} {l : FT W} {d : Option Nat} {v : TV W} {k : FT W → Option R} (h : Ch l) (hk : putO l d v k = some r) : ∃ l', Ch l' ∧ k l' = some r ∧ fl U l' = setO (fl U l) d (TV.lo U v) := by
  cases d with
  | none => exact ⟨l, h, hk, rfl⟩
  | some d =>
    simp only [putO, put2_eq] at hk
    obtain ⟨e1, e2⟩ := fl_set (U := U) h d v
    exact ⟨_, e2, hk, e1⟩
section
variable {R : Type} {r : R} {k : TV W → List (TV W) → Option R}
def Same2 (U : Uni W) (k : TV W → List (TV W) → Option R) (r : R) (m : (R' : Type) → (AV → List AV → Option R') → Option R') : Prop :=
  ∃ v ex, k v ex = some r ∧ ∀ (R' : Type) (k' : AV → List AV → Option R'), m R' k' = k' (TV.lo U v) (TV.los U ex)
theorem sc_det (m : (R' : Type) → (AV → Option R') → Option R') (hn : ∀ (R' : Type) (K : AV → List AV → Option R'), m R' (fun v => K v []) = (m _ (fun v => k0 v [])).bind (up K)) (h : m R (scK k) = some r) :
    Same2 U k r fun R' k' => m R' (fun v => k' v []) := by
  have e : some r = (m _ (fun v => k0 v [])).bind (up fun v _ => scK k v) := (hn R (fun v _ => scK k v)) ▸ h.symm
  cases hm : m _ (fun v => k0 v []) with
  | none => rw [hm] at e; cases e
  | some p =>
    rw [hm] at e
    have e : some r = scK k p.1 := e
    cases hp : p.1 with
    | sc w =>
      rw [hp] at e
      refine ⟨.sc w, [], e.symm, fun R' k' => ?_⟩
      have := hn R' (fun v _ => k' v [])
      rw [hm] at this
      refine Eq.trans this ?_
      show k' p.1 [] = _
      rw [hp]; rfl
    | _ => rw [hp] at e; cases e
theorem ibin_sc {op : BinOp} {a b : AV} {K : AV → Option R} (h : ibin op a b K = some r) : (∃ v, a = .sc v) ∧ ∃ v, b = .sc v := by
  unfold ibin at h
  split at h
  · exact ⟨⟨_, rfl⟩, ⟨_, rfl⟩⟩
  · cases h
theorem eqtK_sc {neg : Bool} {a b : AV} {K : AV → Option R} (h : eqtK neg a b K = some r) : (∃ v, a = .sc v) ∧ ∃ v, b = .sc v := by
  unfold eqtK at h
  split at h
  · exact ⟨⟨_, rfl⟩, _, rfl⟩
  · cases h
theorem eqbK_sc {neg : Bool} {a b : AV} {K : AV → Option R} (h : eqbK neg a b K = some r) : (∃ v, a = .sc v) ∧ ∃ v, b = .sc v := by
  unfold eqbK at h
  split at h
  · exact ⟨⟨_, rfl⟩, ⟨_, rfl⟩⟩
  · cases h
theorem iun_sc {op : UnOp} {a : AV} {K : AV → Option R} (h : iun op a K = some r) : ∃ v, a = .sc v := by
  unfold iun at h
  split at h
  · exact ⟨_, rfl⟩
  · exact ⟨_, rfl⟩
  · cases h
theorem sidxK_sc {a b : AV} {K : AV → Option R} (h : sidxK a b K = some r) : (∃ v, a = .sc v) ∧ ∃ v, b = .sc v := by
  unfold sidxK at h
  split at h
  · split at h
    · exact ⟨⟨_, rfl⟩, ⟨_, rfl⟩⟩
    · cases h
  · cases h
theorem convK_sc {kd : IntKind} {a : AV} {K : AV → Option R} (h : convK kd a K = some r) : ∃ v, a = .sc v := by
  unfold convK at h
  split at h
  · exact ⟨_, rfl⟩
  · cases h
theorem eqC_sc : ∀ {ks : List Bool} {xs ys : List AV} {K : Bool → Option R}, eqC ks xs ys K = some r → (∀ a ∈ xs, ∃ v, a = .sc v) ∧ ∀ a ∈ ys, ∃ v, a = .sc v
  | ks, xs, ys, K, h => by
    unfold eqC at h
    split at h
    · exact ⟨fun a h => (by cases h), fun a h => (by cases h)⟩
    · obtain ⟨_, h⟩ := cond_some h
      obtain ⟨h1, h2⟩ := eqC_sc h
      exact ⟨fun a ha => (List.mem_cons.1 ha).elim (fun e => ⟨_, e⟩) (h1 a), fun a ha => (List.mem_cons.1 ha).elim (fun e => ⟨_, e⟩) (h2 a)⟩
    · obtain ⟨h1, h2⟩ := eqC_sc h
      exact ⟨fun a ha => (List.mem_cons.1 ha).elim (fun e => ⟨_, e⟩) (h1 a), fun a ha => (List.mem_cons.1 ha).elim (fun e => ⟨_, e⟩) (h2 a)⟩
    · cases h
theorem eqsK_sc {ks : List Bool} {neg : Bool} {a b : TV W} {K : AV → Option R} (h : eqsK ks neg a.scs? b.scs? K = some r) : TV.lo U a = a.scs? ∧ TV.lo U b = b.scs? := by
  unfold eqsK at h
  split at h
  · rename_i xs ys e1 e2
    obtain ⟨h1, h2⟩ := eqC_sc h
    cases a <;> simp only [TV.scs?, reduceCtorEq, AV.agg.injEq] at e1
    cases b <;> simp only [TV.scs?, reduceCtorEq, AV.agg.injEq] at e2
    subst e1 e2
    exact ⟨congrArg AV.agg (los_sc h1), congrArg AV.agg (los_sc h2)⟩
  · cases h
theorem foldMM_sc {m : Bool} {ka : IntKind} {K : Int → Option R} : ∀ {l : List AV} {x : Int}, foldMM m ka x l K = some r → ∀ a ∈ l, ∃ v, a = .sc v
  | [], x, h => fun a h => by cases h
  | b :: l, x, h => by
    cases b with
    | sc v => cases v with
      | int kb y =>
        simp only [foldMM] at h
        obtain ⟨_, h⟩ := cond_some h
        have := foldMM_sc h
        exact fun a ha => (List.mem_cons.1 ha).elim (fun e => ⟨_, e⟩) (this a)
      | _ => cases h
    | _ => cases h
theorem mnmxK_sc {m : Bool} {l : List AV} {K : AV → Option R} (h : mnmxK m l K = some r) : ∀ a ∈ l, ∃ v, a = .sc v := by
  unfold mnmxK at h
  split at h
  · have := foldMM_sc h
    exact fun a ha => (List.mem_cons.1 ha).elim (fun e => ⟨_, e⟩) (this a)
  · cases h
theorem outx2_ok {tk : Bool} {x : IA2 W} {v : TV W} (h : outx2 tk x v k = some r) : Same2 U k r fun R' k' => outx tk (x.lo U) (TV.lo U v) k' := by
  cases x with
  | s t =>
    cases tk with
    | true => exact ⟨v, [v.strip], h, fun R' k' => by show k' _ [(TV.lo U v).strip] = k' _ [TV.lo U v.strip]; rw [lo_strip]⟩
    | false => exact ⟨v.strip, [], h, fun R' k' => by show k' (TV.lo U v).strip [] = _; rw [← lo_strip]; rfl⟩
  | k c => exact ⟨v, [], h, fun R' k' => rfl⟩
theorem overlay2_ok : ∀ {ps : List (Nat × Nat × IA2 W)} {l vs L : List (TV W)}, overlay2 l ps vs = some L → overlay (TV.los U l) (loP U ps) (TV.los U vs) = some (TV.los U L)
  | [], l, vs, L, h => by
    cases vs with
    | nil => cases h; rfl
    | cons a b => cases h
  | (off, n, x) :: ps, l, [], L, h => by cases h
  | (off, n, x) :: ps, l, v :: vs, L, h => by
    unfold overlay2 at h
    split at h
    · rename_i cs hcs
      obtain ⟨h1, h2⟩ := cond_some h
      show overlay (TV.los U l) ((off, n, x.lo U) :: loP U ps) (TV.lo U v :: TV.los U vs) = _
      unfold overlay
      rw [lo_cells v hcs]
      simp only [los_len, los_storable, h1, cond_true]
      have := overlay2_ok h2
      rw [← this]
      congr 1
      simp only [splice2, splice, los_append, los_take, los_drop, los_c1, List.length_map, los_len]
    · cases h
theorem ptrs2_ok : ∀ {vs : List (TV W)} {c : List (Nat × Nat)}, ptrs2 vs = some c → ptrs (TV.los U vs) = some c
  | [], c, h => h
  | v :: vs, c, h => by
    cases v <;> simp only [ptrs2, reduceCtorEq] at h
    split at h
    · rename_i cs h1
      cases h
      simp only [TV.los, TV.lo, ptrs, ptrs2_ok h1]
    · cases h
theorem ta1_ok {m : List (Nat × Nat)} {a a' : TV W} (h : ta1 m a = some a') : tr1 m (TV.lo U a) = some (TV.lo U a') := by
  cases a with
  | un k r => cases k <;> cases h; rfl
  | _ => ?_
  all_goals simp only [ta1, reduceCtorEq, Option.some.injEq] at h
  · subst h; rfl
  · subst h; rfl
  · subst h; rfl
  · split at h
    · rename_i h1; cases h; simp only [TV.lo, tr1, h1]
    · cases h
  · split at h
    · rename_i h1; cases h; simp only [TV.lo, tr1, h1]
    · cases h
theorem taL_ok {m : List (Nat × Nat)} : ∀ {a a' : List (TV W)}, taL m a = some a' → trL m (TV.los U a) = some (TV.los U a')
  | [], a', h => by cases h; rfl
  | a :: l, a', h => by
    unfold taL at h
    split at h
    · rename_i x y h1 h2
      cases h
      simp only [TV.los, trL, ta1_ok h1, taL_ok h2]
    · cases h
theorem ta2_ok {m : List (Nat × Nat)} {a a' : TV W} (h : ta2 m a = some a') : tr2 m (TV.lo U a) = some (TV.lo U a') := by
  cases a with
  | agg cs =>
    simp only [ta2] at h
    split at h
    · rename_i cs' h3
      cases h
      simp only [TV.lo, tr2, taL_ok h3]
    · cases h
  | dead => exact ta1_ok (m := m) (a := .dead) h
  | sc v => exact ta1_ok (m := m) (a := .sc v) h
  | tup vs => cases h
  | row a r => exact ta1_ok (m := m) (a := .row a r) h
  | elt cs => cases h
  | ptr a b => exact ta1_ok (m := m) (a := .ptr a b) h
  | clo a b => exact ta1_ok (m := m) (a := .clo a b) h
  | hdr n => cases h
  | yld => cases h
  | un k r => exact ta1_ok (m := m) (a := .un k r) h
  | ur k sz n => cases h
  | up k sz q o => cases h
theorem taL2_ok {m : List (Nat × Nat)} : ∀ {a a' : List (TV W)}, taL2 m a = some a' → trL2 m (TV.los U a) = some (TV.los U a')
  | [], a', h => by cases h; rfl
  | a :: l, a', h => by
    unfold taL2 at h
    split at h
    · rename_i x y h1 h2
      cases h
      simp only [TV.los, trL2, ta2_ok h1, taL2_ok h2]
    · cases h
theorem ta3_ok {m : List (Nat × Nat)} {a a' : TV W} (h : ta3 m a = some a') : tr3 m (TV.lo U a) = some (TV.lo U a') := by
  cases a with
  | tup cs =>
    simp only [ta3] at h
    split at h
    · rename_i cs' h3
      cases h
      simp only [TV.lo, tr3, taL2_ok h3]
    · cases h
  | dead => exact ta2_ok (m := m) (a := .dead) h
  | sc v => exact ta2_ok (m := m) (a := .sc v) h
  | agg vs => exact ta2_ok (m := m) (a := .agg vs) h
  | row a r => exact ta2_ok (m := m) (a := .row a r) h
  | elt cs => cases h
  | ptr a b => exact ta2_ok (m := m) (a := .ptr a b) h
  | clo a b => exact ta2_ok (m := m) (a := .clo a b) h
  | hdr n => cases h
  | yld => cases h
  | un k r => exact ta2_ok (m := m) (a := .un k r) h
  | ur k sz n => cases h
  | up k sz q o => cases h
theorem taLL_ok {m : List (Nat × Nat)} : ∀ {a a' : List (List (TV W))}, taLL m a = some a' → trLL m (a.map (TV.los U)) = some (a'.map (TV.los U))
  | [], a', h => by cases h; rfl
  | a :: l, a', h => by
    unfold taLL at h
    split at h
    · rename_i x y h1 h2
      cases h
      simp only [List.map_cons, trLL, taL_ok h1, taLL_ok h2]
    · cases h
theorem lo_kp (tk : Bool) (x : IA2 W) (v : TV W) : TV.lo U (kpT tk x v) = kpA tk (x.lo U) (TV.lo U v) := by cases tk <;> cases x <;> first | rfl | exact lo_strip v
theorem argVals2_ok : ∀ {args : List (Bool × IA2 W)} {vs as ls rest : List (TV W)}, argVals2 args vs = some (as, ls, rest) → argVals (loA U args) (TV.los U vs) = some (TV.los U as, TV.los U ls, TV.los U rest)
  | [], vs, as, ls, rest, h => by cases h; rfl
  | (tk, x) :: args, [], as, ls, rest, h => by cases h
  | (tk, x) :: args, v :: vs, as, ls, rest, h => by
    unfold argVals2 at h
    split at h
    · rename_i as0 ls0 rest0 h1
      show argVals ((tk, x.lo U) :: loA U args) (TV.lo U v :: TV.los U vs) = _
      unfold argVals
      rw [argVals2_ok h1]
      simp only [lo_tkS]
      cases ht : tkS2 tk x with
      | true => rw [ht] at h; cases h; simp only [cond_true, TV.los, lo_strip]
      | false => rw [ht] at h; cases h; simp only [cond_false, TV.los, lo_kp]
    · cases h
theorem passVals2_ok : ∀ {pass : List (Nat × Nat × Nat)} {vs : List (TV W)} {l : List (List (TV W))}, passVals2 pass vs = some l → passVals pass (TV.los U vs) = some (l.map (TV.los U))
  | [], [], l, h => by cases h; rfl
  | [], v :: vs, l, h => by cases h
  | (a, n, b) :: r, [], l, h => by cases h
  | (a, n, b) :: r, v :: vs, l, h => by
    cases v <;> simp only [passVals2, reduceCtorEq] at h
    rename_i n'
    obtain ⟨h1, h2⟩ := cond_some h
    split at h2
    · rename_i l' h3
      cases h2
      simp only [TV.los, TV.lo, passVals, los_len, h1, cond_true, ← los_drop, passVals2_ok h3, List.map_cons, los_take]
    · cases h2
theorem expDead2_ok : ∀ {exp : List (Nat × Nat × Nat)} {vs rest : List (TV W)}, expDead2 exp vs = some rest → expDead exp (TV.los U vs) = some (TV.los U rest)
  | [], vs, rest, h => by cases h; rfl
  | _ :: r, [], rest, h => by cases h
  | _ :: r, v :: vs, rest, h => by
    cases v <;> simp only [expDead2, reduceCtorEq] at h
    exact expDead2_ok (exp := r) h
theorem expOut2_ok : ∀ (exp : List (Nat × Nat × Nat)) (es : List (List (TV W))), expOut exp (es.map (TV.los U)) = TV.los U (expOut2 exp es)
  | [], es => by cases es <;> rfl
  | (_, n, _) :: r, [] => rfl
  | (_, n, _) :: r, l :: ls => by
    simp only [List.map_cons, expOut, expOut2, TV.los, TV.lo, los_append, expOut2_ok r ls]
theorem okLens2_ok : ∀ {ns : List Nat} {l : List (List (TV W))}, okLens2 ns l = true → okLens ns (l.map (TV.los U)) = true
  | [], [], h => rfl
  | [], v :: vs, h => by cases h
  | n :: r, [], h => by cases h
  | n :: r, v :: vs, h => by
    simp only [okLens2, Bool.and_eq_true] at h
    simp only [List.map_cons, okLens, los_len, h.1, okLens2_ok h.2, Bool.and_true]
theorem los_flatten : ∀ (l : List (List (TV W))), TV.los U l.flatten = (l.map (TV.los U)).flatten
  | [] => rfl
  | a :: l => by simp only [List.flatten_cons, los_append, List.map_cons, los_flatten l]
def CallOk2 {R : Type} (U : Uni W) (call2 : Nat → List (TV W) → List (List (TV W)) → (Ret2 W → Option R) → Option R) (call : Nat → List AV → List (List AV) → Option Ret) : Prop :=
  ∀ (id : Nat) (as : List (TV W)) (cells : List (List (TV W))) (k : Ret2 W → Option R) (r : R), call2 id as cells k = some r → ∃ q : Ret2 W, call id (TV.los U as) (cells.map (TV.los U)) = some (q.lo U) ∧ k q = some r
theorem callK2_ok {call2 : Nat → List (TV W) → List (List (TV W)) → (Ret2 W → Option R) → Option R} {call : Nat → List AV → List (List AV) → Option Ret} (hcall : CallOk2 U call2 call) {id : Nat} {args : List (Bool × IA2 W)} {pass exp : List (Nat × Nat × Nat)} {more vals : List (TV W)}
    (h : callK2 call2 id args pass exp more vals k = some r) : Same2 U k r fun R' k' => callK call id (loA U args) pass exp (TV.los U more) (TV.los U vals) k' := by
  unfold callK2 at h
  split at h
  · cases h
  rename_i as ls vs h1
  split at h
  · cases h
  rename_i vs2 h1b
  split at h
  · cases h
  rename_i cells h2
  split at h
  · rename_i as' cells' h3 h4
    obtain ⟨q, h5, h6⟩ := hcall _ _ _ _ _ h
    split at h6
    · rename_i v cs es h7 h8 h8b
      obtain ⟨h9, h10⟩ := cond_some h6
      simp only [Bool.and_eq_true] at h9
      refine ⟨_, _, h10, fun R' k' => ?_⟩
      unfold callK
      rw [argVals2_ok h1]
      dsimp only
      rw [expDead2_ok h1b]
      dsimp only
      rw [passVals2_ok h2]
      simp only [← los_append, taL2_ok h3, taLL_ok h4, h5, Option.bind_some, Ret2.lo, ta3_ok h7, taLL_ok h8, taLL_ok h8b, okLens2_ok h9.1, okLens2_ok h9.2, Bool.and_self, cond_true, expOut2_ok]
      rw [los_append, los_append, los_flatten]
    · cases h6
  · cases h
theorem optI2_ok {x : Option (IA2 W)} {vs : List (TV W)} {f : Option Int → List (TV W) → Option R} (h : optI2 x vs f = some r) : ∃ i vs', f i vs' = some r ∧ ∀ (R' : Type) (f' : Option Int → List AV → Option R'), optI (x.map (IA2.lo U)) (TV.los U vs) f' = f' i (TV.los U vs') := by
  unfold optI2 at h
  split at h
  · exact ⟨_, _, h, fun _ _ => rfl⟩
  · exact ⟨_, _, h, fun _ _ => rfl⟩
  · cases h
theorem sliceK2_ok (hU : UniOk U) {sz : Nat} {v : TV W} {lo hi mx : Option Int} {k : TV W → Option R} (h : sliceK2 U sz v lo hi mx k = some r) : ∃ u, k u = some r ∧ ∀ (R' : Type) (k' : AV → Option R'), sliceK sz (TV.lo U v) lo hi mx k' = k' (TV.lo U u) := by
  cases v with
  | row a x =>
    unfold sliceK2 at h
    dsimp only at h
    obtain ⟨h0, hh⟩ := cond_some h
    clear h
    have h := hh
    clear hh
    have hs := nbeq h0
    subst hs
    have one : ∀ (lo n : Nat), lo + n ≤ U.len x → ∀ b, TV.lo U (.row b (U.sub lo n x)) = .row b (U.sz x) n (subGet n lo (U.len x) (U.getA x)) := fun lo n hle b => by
      obtain ⟨e1, e2, e3⟩ := hU.sub lo n x hle
      simp only [TV.lo, e1, e2, e3]
    have two : ∀ (R' : Type) (k' : AV → Option R'), sliceK (U.sz x) (TV.lo U (.row a x)) lo hi mx k' = _ := fun R' k' => by
      show cond (Nat.beq (U.sz x) (U.sz x)) _ _ = _
      rw [h0, cond_true]
    cases lo with
    | none => cases hi with
      | none => cases mx with
        | none => exact ⟨.row false x, h, fun R' k' => (two R' k').trans rfl⟩
        | some m => cases h
      | some j => cases mx with
        | none =>
          obtain ⟨h1, h⟩ := cond_some h
          obtain ⟨h2, h⟩ := cond_some h
          have h1' := of_decide_eq_true h1; have h2' := of_decide_eq_true h2
          refine ⟨_, h, fun R' k' => (two R' k').trans ?_⟩
          rw [one 0 j.toNat (by omega)]
          simp only [h1, h2, cond_true]
        | some m =>
          obtain ⟨h1, h⟩ := cond_some h
          obtain ⟨h2, h⟩ := cond_some h
          obtain ⟨h3, h⟩ := cond_some h
          have h1' := of_decide_eq_true h1; have h2' := of_decide_eq_true h2
          refine ⟨_, h, fun R' k' => (two R' k').trans ?_⟩
          rw [one 0 j.toNat (by omega)]
          simp only [h1, h2, h3, cond_true]
    | some i => cases hi with
      | none => cases mx with
        | none =>
          obtain ⟨h1, h⟩ := cond_some h
          obtain ⟨h2, h⟩ := cond_some h
          have h1' := of_decide_eq_true h1; have h2' := of_decide_eq_true h2
          refine ⟨_, h, fun R' k' => (two R' k').trans ?_⟩
          rw [one i.toNat (U.len x - i.toNat) (by omega)]
          simp only [h1, h2, cond_true]
        | some m => cases h
      | some j => cases mx with
        | none =>
          obtain ⟨h1, h⟩ := cond_some h
          obtain ⟨h2, h⟩ := cond_some h
          obtain ⟨h3, h⟩ := cond_some h
          have h1' := of_decide_eq_true h1; have h2' := of_decide_eq_true h2; have h3' := of_decide_eq_true h3
          refine ⟨_, h, fun R' k' => (two R' k').trans ?_⟩
          rw [one i.toNat (j.toNat - i.toNat) (by omega)]
          simp only [h1, h2, h3, cond_true]
        | some m =>
          obtain ⟨h1, h⟩ := cond_some h
          obtain ⟨h2, h⟩ := cond_some h
          obtain ⟨h3, h⟩ := cond_some h
          obtain ⟨h4, h⟩ := cond_some h
          have h1' := of_decide_eq_true h1; have h2' := of_decide_eq_true h2; have h3' := of_decide_eq_true h3
          refine ⟨_, h, fun R' k' => (two R' k').trans ?_⟩
          rw [one i.toNat (j.toNat - i.toNat) (by omega)]
          simp only [h1, h2, h3, h4, cond_true]
  | _ => cases h
end
end
end Go.Proofs.Ytafnmkbehjbkdaa.M
