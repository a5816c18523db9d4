/- Operations on rows. -/
import Derived.Laws.Cover3
import Derived.Test.YtafnmkbehjbkdaaMachF
set_option linter.unusedVariables false
set_option linter.unusedSimpArgs false
namespace Go.Proofs.Ytafnmkbehjbkdaa.M
open Go Go.RowKit
def chkS (P : Program) (t : TypeId) (sz : Nat) : Bool := match P.underlying t with
  | some (.slice e) => match P.info? e with
    | some i => Nat.beq i.size sz
    | none => false
  | _ => false
theorem chkS_ok {P : Program} {t : TypeId} {sz : Nat} (h : chkS P t sz = true) : ∃ e i, P.underlying t = some (.slice e) ∧ P.info? e = some i ∧ i.size = sz ∧ P.underlying t = some (.slice (P.elem t)) ∧ P.elem t = e := by
  unfold chkS at h
  split at h <;> try cases h
  rename_i e he
  split at h <;> try cases h
  rename_i i hi
  exact ⟨e, i, he, hi, nbeq h, by simp [Program.elem, he], by simp [Program.elem, he]⟩
section
variable {P : Program} {f : IFn} {g : Gh} {w : World} {l : List AV} {a : Act} {K : Act → World → Prop} {Q : Exit → Act → World → Prop} {o : Oper} {R : Type} {r : R} {k : AV → List AV → Option R} {exw : List Nat}
theorem both_some {x y : Option R} {r : R} (h : both x y = some r) : x = some r ∧ y = some r := by
  unfold both at h
  split at h
  · rename_i e; exact ⟨h, e ▸ h⟩
  · cases h
theorem both_self (x : Option R) : both x x = x := by unfold both; split <;> first | rfl | (rename_i e; exact absurd rfl e)
theorem op_nilq (hl : LayOk f) (h : Rel f g w l a.tmps) (hd : DstOk f o.dst) {x : Operand} {ix : IA} {neg : Bool} {t ty e : TypeId} (hop : o.op = .binOp (cond neg .neq .eql) t x (.const (.slice none 0 0)) ty) (hx : chkA f x ix = true)
    (ht : P.underlying t = some (.slice e)) {exw : List Nat} (hk : nilqK neg (rd l ix) (fun v => k v []) = some r) (H : Fin f g w l a o.dst exw k r K) : o.wp P a w K Q := by
  obtain ⟨L1, hv1, _⟩ := rd_ok h hx
  unfold nilqK at hk
  split at hk
  · rename_i ap sz n get hrx
    rw [hrx] at hv1
    have run : ∀ (b : Option Addr) (n c : Nat), a.eval x = .slice b n c → (execOp a.eval o).run P w = .ok (.value (.bool (cond neg (!b.isNone) b.isNone))) w := fun b n c hu => by
      have hc : a.eval (.const (.slice none 0 0)) = .slice none 0 0 := rfl
      have hg : ∀ op : BinOp, (eqGuard op t x (.const (.slice none 0 0)) (.slice b n c) (.slice none 0 0)).run P w = .ok () w := fun op => by cases op <;> simp [eqGuard]
      have he : (Op.equal t (.slice b n c) (.slice none 0 0)).run P w = .ok b.isNone w := run_equal_slice_nil w t e b n c ht
      have h1 : (binOp .eql t (.slice b n c) (.slice none 0 0)).run P w = .ok (.bool b.isNone) w := by
        simp only [binOp, Sem.run_bind, he, Result.andThen_ok, Sem.run_pure]
      have h2 : (binOp .neq t (.slice b n c) (.slice none 0 0)).run P w = .ok (.bool (!b.isNone)) w := by
        simp only [binOp, Sem.run_bind, he, Result.andThen_ok, Sem.run_pure]
      cases neg
      · simp only [execOp, hop, cond_false, hu, hc, Sem.run_bind, hg, Result.andThen_ok, h1, Sem.run_pure]
      · simp only [execOp, hop, cond_true, hu, hc, Sem.run_bind, hg, Result.andThen_ok, h2, Sem.run_pure]
    rcases hv1.row_inv with ⟨rfl, p, hu⟩ | ⟨B, o', c, hu, _, _⟩
    · have hk2 : both (k (.sc (.bool true)) []) (k (.sc (.bool false)) []) = some r := hk
      obtain ⟨h1, h2⟩ := both_some hk2
      refine wp_val (run _ _ _ hu) ?_
      cases neg <;> cases p <;> first | exact fin0 hl h hd H h1 h (Ext.refl _ _) (fun d _ => V3.sc rfl) | exact fin0 hl h hd H h2 h (Ext.refl _ _) (fun d _ => V3.sc rfl)
    · refine wp_val (run _ _ _ hu) ?_
      have hk2 : k (.sc (.bool neg)) [] = some r := by
        by_cases hn : 0 < n
        · rw [decide_eq_true hn] at hk; exact hk
        · rw [decide_eq_false hn] at hk
          obtain ⟨h1, h2⟩ := both_some hk
          cases neg <;> assumption
      cases neg
      · exact fin0 hl h hd H hk2 h (Ext.refl _ _) (fun d _ => V3.sc rfl)
      · exact fin0 hl h hd H hk2 h (Ext.refl _ _) (fun d _ => V3.sc rfl)
  · cases hk
theorem op_idx (hl : LayOk f) (h : Rel f g w l a.tmps) (hd : DstOk f o.dst) {x y : Operand} {ix iy : IA} {t : TypeId} {sz : Nat} (hop : o.op = .indexAddr t x y) (hx : chkA f x ix = true) (hy : chkA f y iy = true) (hs : chkS P t sz = true)
    {ap : Bool} {n : Nat} {gt : Nat → List AV} {kd : IntKind} {i : Int} (hrx : rd l ix = .row ap sz n gt) (hry : rd l iy = .sc (.int kd i))
    (hk : cond (decide (0 ≤ i)) (cond (decide (i < (n : Int))) (k (.elt (gt i.toNat)) []) none) none = some r) (H : Fin f g w l a o.dst exw k r K) : o.wp P a w K Q := by
  obtain ⟨L1, hv1, _⟩ := rd_ok h hx
  obtain ⟨L2, hv2, _⟩ := rd_ok h hy
  rw [hrx] at hv1; rw [hry] at hv2
  obtain ⟨h0, hk⟩ := cond_some hk
  obtain ⟨h1, hk⟩ := cond_some hk
  have h0 := of_decide_eq_true h0
  have h1 := of_decide_eq_true h1
  obtain ⟨e, inf, he, hi, hsz, he', hee⟩ := chkS_ok hs
  rcases hv1.row_inv with ⟨rfl, _⟩ | ⟨B, o', c, hu, hv0, _⟩
  · omega
  · rw [hu] at hv0
    obtain ⟨_, hnc, hfz, hlen, val, hcell, hel⟩ := hv0.row_inv
    have hit : i.toNat < n := by omega
    have hr : (execOp a.eval o).run P w = .ok (.value (.pointer (some ⟨B, o' + i.toNat * sz, none⟩))) w := by
      have h1' : (i < (n : Int)) := h1
      simp [execOp, hop, hu, hv2.sc_inv.1, Instr.indexAt, asIntOf, run_underlying he, sizeOf, typeInfo, hi, hsz, h0, h1', Addr.add_lit]
    refine wp_val hr (fin0 hl h hd H hk h (Ext.refl _ _) (fun d _ => .c (.c (.elt _ B _ (val i.toNat) ?_ (fun j hj => ?_) (fun j b hb => hel _ _ b hit hb)))))
    · rw [hlen _ hit]
      rcases hfz with h | h
      · left; rcases Nat.mul_eq_zero.1 h with h | h <;> omega
      · right; intro m hm; have := h m hm
        have h2 : i.toNat * sz + sz ≤ n * sz := by rw [← Nat.succ_mul]; exact Nat.mul_le_mul_right _ hit
        omega
    · rw [hlen _ hit] at hj; exact hcell _ _ hit hj
theorem subGet_lt {n' lo n i : Nat} {gt : Nat → List AV} (h : i < n') : subGet n' lo n gt i = gt (lo + i) := by simp [subGet, h]
theorem V0.sub {sz n n' lo c c' : Nat} {gt : Nat → List AV} {B o' ob : Nat} (hv : V0 g w (.row false sz n gt) (.slice (some ⟨B, o', none⟩) n c)) (hn : lo + n' ≤ n) (hc : n' ≤ c') (hob : ob = o' + lo * sz ∨ n' = 0) (gt' : Nat → List AV) (hg : ∀ i, i < n' → gt' i = gt (lo + i)) :
    V0 g w (.row false sz n' gt') (.slice (some ⟨B, ob, none⟩) n' c') := by
  obtain ⟨_, _, hfz, hlen, val, hcell, hel⟩ := hv.row_inv
  rcases hob with rfl | rfl
  · refine .row sz n' gt' B _ c' (fun i j => val (lo + i) j) hc ?_ (fun i hi => by rw [hg i hi]; exact hlen _ (by omega)) (fun i j hi hj => ?_) (fun i j b hi hb => ?_)
    · by_cases h0 : n' * sz = 0
      · exact .inl h0
      · right
        rcases hfz with h | h
        · exfalso; rcases Nat.mul_eq_zero.1 h with h | h
          · have : n' = 0 := by omega
            exact h0 (by simp [this])
          · exact h0 (by simp [h])
        · intro m hm; have := h m hm
          have h2 : (lo + n') * sz ≤ n * sz := Nat.mul_le_mul_right _ hn
          rw [Nat.add_mul] at h2; omega
    · have := hcell (lo + i) j (by omega) hj
      rw [Nat.add_mul] at this
      rwa [show o' + lo * sz + i * sz + j = o' + (lo * sz + i * sz) + j by omega]
    · rw [hg i hi] at hb; exact hel _ _ b (by omega) hb
  · exact .row sz 0 gt' B ob c' (fun _ _ => undef) hc (.inl (by simp)) (fun i hi => by omega) (fun i j hi _ => by omega) (fun i j b hi _ => by omega)
theorem V3.subrow {L L' : List Nat} {ap : Bool} {sz n n' lo : Nat} {gt gt' : Nat → List AV} {q : Option Addr} {c : Nat} (hv : V3 g w L (.row ap sz n gt) (.slice q n c)) (hn : lo + n' ≤ n) (hg : ∀ i, i < n' → gt' i = gt (lo + i)) (m : Nat) (hm : lo + n' ≤ m) (hmc : m ≤ c) :
    V3 g w L' (.row (decide (m = lo + n')) sz n' gt') (sliced q lo (lo + n') m sz) := by
  have e1 : lo + n' - lo = n' := by omega
  unfold sliced
  rw [e1]
  rcases hv.row_inv with ⟨rfl, p, h2⟩ | ⟨B, o', c', h2, hv0, _⟩
  · cases h2
    have : n' = 0 := by omega
    subst this
    have : lo = 0 := by omega
    subst this
    have : m = 0 := by omega
    subst this
    simp only [Nat.sub_self, if_true]
    cases q with
    | none => exact .c (.c (.nil sz gt'))
    | some p => exact .c (.c (.zero p sz gt'))
  · cases h2
    have key : V0 g w (.row false sz n' gt') (.slice (if m = lo then some ⟨B, o', none⟩ else (some (⟨B, o', none⟩ : Addr)).map (·.add (lo * sz))) n' (m - lo)) := by
      by_cases hml : m = lo
      · rw [if_pos hml]
        exact hv0.sub hn (by omega) (.inr (by omega)) gt' hg
      · rw [if_neg hml, Option.map_some, Addr.add_lit]
        exact hv0.sub hn (by omega) (.inl rfl) gt' hg
    by_cases hd : m = lo + n'
    · rw [decide_eq_true hd]
      have hc : m - lo = n' := by omega
      by_cases hml : m = lo
      · rw [if_pos hml] at key ⊢; exact .c (.c (.row _ _ _ _ _ _ key (.inl hc)))
      · rw [if_neg hml, Option.map_some, Addr.add_lit] at key ⊢; exact .c (.c (.row _ _ _ _ _ _ key (.inl hc)))
    · rw [decide_eq_false hd]; exact .c (.c (.of0 key))
def chkO (f : IFn) : Option Operand → Option IA → Bool
  | none, none => true
  | some x, some a => chkA f x a
  | _, _ => false
theorem optI_ok (h : Rel f g w l a.tmps) {x : Option Operand} {ix : Option IA} (hc : chkO f x ix = true) {vs : List AV} {K' : Option Int → List AV → Option R} (hk : optI ix (ix.toList.map (rd l) ++ vs) K' = some r) :
    (ix = none ∧ x.map a.eval = none ∧ K' none vs = some r) ∨ ∃ kd i, x.map a.eval = some (.int kd i) ∧ K' (some i) vs = some r ∧ ix.isSome = true := by
  unfold chkO at hc
  split at hc
  · left; exact ⟨rfl, rfl, by simpa [optI] using hk⟩
  · rename_i x ia
    right
    obtain ⟨L, hv, _⟩ := rd_ok h hc
    simp only [Option.toList, List.map_cons, List.map_nil, List.singleton_append] at hk
    obtain ⟨v, e⟩ : ∃ v, rd l ia = v := ⟨_, rfl⟩
    rw [e] at hk hv
    unfold optI at hk
    split at hk
    · rename_i h1; cases h1
    · rename_i h1 h2
      simp only [List.cons.injEq] at h2
      obtain ⟨rfl, rfl⟩ := h2
      exact ⟨_, _, by rw [Option.map_some, hv.sc_inv.1], hk, rfl⟩
    · cases hk
  · cases hc
theorem sliceK_row {sz : Nat} {v : AV} {l' h' m' : Option Int} {K' : AV → Option R} (hk : sliceK sz v l' h' m' K' = some r) : ∃ ap n gt, v = .row ap sz n gt := by
  unfold sliceK at hk
  split at hk
  · obtain ⟨hb, _⟩ := cond_some hk
    have := nbeq hb; subst this
    exact ⟨_, _, _, rfl⟩
  · cases hk
theorem op_slice (hl : LayOk f) (h : Rel f g w l a.tmps) (hd : DstOk f o.dst) {x : Operand} {ix : IA} {lo hi mx : Option Operand} {il ih im : Option IA} {t : TypeId} {sz : Nat} (hop : o.op = .slice t x lo hi mx) (hx : chkA f x ix = true)
    (h1 : chkO f lo il = true) (h2 : chkO f hi ih = true) (h3 : chkO f mx im = true) (hs : chkS P t sz = true)
    (hk : optI il (il.toList.map (rd l) ++ (ih.toList.map (rd l) ++ im.toList.map (rd l))) (fun l' vs => optI ih vs fun h' vs => optI im vs fun m' _ => sliceK sz (rd l ix) l' h' m' fun v => k v []) = some r) (H : Fin f g w l a o.dst exw k r K) : o.wp P a w K Q := by
  obtain ⟨L1, hv1, _⟩ := rd_ok h hx
  obtain ⟨e, inf, he, hi', hsz, he', hee⟩ := chkS_ok hs
  have hsize : (sizeOf (P.elem t)).run P w = .ok sz w := by simp [sizeOf, typeInfo, hee, hi', hsz]
  obtain ⟨v, ev⟩ : ∃ v, rd l ix = v := ⟨_, rfl⟩
  obtain ⟨u, eu⟩ : ∃ u, a.eval x = u := ⟨_, rfl⟩
  rw [ev, eu] at hv1
  rw [ev] at hk
  -- what the bounds are
  have fin : ∀ {n' lo' m' : Nat} {ap : Bool} {n : Nat} {gt gt' : Nat → List AV} {q : Option Addr} {c : Nat} {b : Bool}, v = .row ap sz n gt → u = .slice q n c → lo' + n' ≤ n → (∀ i, i < n' → gt' i = gt (lo' + i)) → lo' + n' ≤ m' → m' ≤ c →
      (b = true → m' = lo' + n') → k (.row b sz n' gt') [] = some r → (execOp a.eval o).run P w = .ok (.value (sliced q lo' (lo' + n') m' sz)) w → o.wp P a w K Q := by
    intro n' lo' m' ap n gt gt' q c b e1 e2 e3 e4 e5 e6 e7 e8 e9
    subst e1; subst e2
    refine wp_val e9 (fin0 hl h hd H e8 h (Ext.refl _ _) (fun d _ => ?_))
    have := hv1.subrow (L' := [d]) e3 e4 m' e5 e6
    cases b with
    | true => rwa [decide_eq_true (e7 rfl)] at this
    | false => exact this.strip [d]
  have row : ∀ {ap sz' n gt}, v = .row ap sz' n gt → ∃ q c, u = .slice q n c ∧ n ≤ c := fun e => by
    subst e
    rcases hv1.row_inv with ⟨rfl, p, h2⟩ | ⟨B, o', c, h2, hv0, _⟩
    · exact ⟨_, _, h2, Nat.le_refl _⟩
    · rw [h2] at hv0; exact ⟨_, _, h2, hv0.row_inv.2.1⟩
  have hrun : ∀ {q : Option Addr} {n c : Nat} {res : Value}, u = .slice q n c → ((Instr.slice t (.slice q n c) (lo.map a.eval) (hi.map a.eval) (mx.map a.eval)).run P w = .ok res w) → (execOp a.eval o).run P w = .ok (.value res) w := fun e e2 => by
    simp only [execOp, hop, eu, e, Sem.run_bind, run_sliceAt_slice w t _ _ _ _ he', e2, Result.andThen_ok, Sem.run_pure]
  rcases optI_ok h h1 hk with ⟨rfl, x1, hk⟩ | ⟨k1, l1, x1, hk, y1⟩
  · rcases optI_ok h h2 hk with ⟨rfl, x2, hk⟩ | ⟨k2, l2, x2, hk, y2⟩
    · rcases optI_ok h h3 (vs := []) (by simpa using hk) with ⟨rfl, x3, hk⟩ | ⟨k3, l3, x3, hk, y3⟩
      · obtain ⟨ap, n, gt, rfl⟩ := sliceK_row hk
        unfold sliceK at hk
        replace hk := (cond_some hk).2
        dsimp only at hk
        obtain ⟨q, c, hu, hnc⟩ := row rfl
        refine fin (n' := n) (lo' := 0) (m' := c) (b := false) rfl hu (by omega) (fun i _ => by rw [Nat.zero_add]) (by omega) (Nat.le_refl _) (fun e => by cases e) hk (hrun hu ?_)
        rw [x1, x2, x3, run_slice_all w t q n c he', hsize]; simp [Result.andThen]
      · obtain ⟨ap, n, gt, rfl⟩ := sliceK_row hk
        unfold sliceK at hk
        replace hk := (cond_some hk).2
        dsimp only at hk
        cases hk
    · rcases optI_ok h h3 (vs := []) (by simpa using hk) with ⟨rfl, x3, hk⟩ | ⟨k3, l3, x3, hk, y3⟩
      · obtain ⟨ap, n, gt, rfl⟩ := sliceK_row hk
        unfold sliceK at hk
        replace hk := (cond_some hk).2
        dsimp only at hk
        obtain ⟨c1, hk⟩ := cond_some hk
        obtain ⟨c2, hk⟩ := cond_some hk
        have c1 := of_decide_eq_true c1; have c2 := of_decide_eq_true c2
        obtain ⟨q, c, hu, hnc⟩ := row rfl
        refine fin (n' := l2.toNat) (lo' := 0) (m' := c) (b := false) rfl hu (by omega) (fun i hi => by rw [subGet_lt hi]) (by omega) (Nat.le_refl _) (fun e => by cases e) hk (hrun hu ?_)
        rw [x1, x2, x3, run_slice_h w t q n c he' k2 l2 c1 (by omega), hsize]; simp [Result.andThen]
      · obtain ⟨ap, n, gt, rfl⟩ := sliceK_row hk
        unfold sliceK at hk
        replace hk := (cond_some hk).2
        dsimp only at hk
        obtain ⟨c1, hk⟩ := cond_some hk
        obtain ⟨c2, hk⟩ := cond_some hk
        obtain ⟨c3, hk⟩ := cond_some hk
        have c1 := of_decide_eq_true c1; have c2 := of_decide_eq_true c2; have c3 := of_decide_eq_true c3
        subst c3
        obtain ⟨q, c, hu, hnc⟩ := row rfl
        refine fin (n' := l3.toNat) (lo' := 0) (m' := l3.toNat) (b := true) rfl hu (by omega) (fun i hi => by rw [subGet_lt hi]) (by omega) (by omega) (fun e => by omega) hk (hrun hu ?_)
        rw [x1, x2, x3, run_slice_hm w t q n c he' k2 k3 l3 l3 c1 (Int.le_refl _) (by omega), hsize]; simp [Result.andThen]
  · rcases optI_ok h h2 hk with ⟨rfl, x2, hk⟩ | ⟨k2, l2, x2, hk, y2⟩
    · rcases optI_ok h h3 (vs := []) (by simpa using hk) with ⟨rfl, x3, hk⟩ | ⟨k3, l3, x3, hk, y3⟩
      · obtain ⟨ap, n, gt, rfl⟩ := sliceK_row hk
        unfold sliceK at hk
        replace hk := (cond_some hk).2
        dsimp only at hk
        obtain ⟨c1, hk⟩ := cond_some hk
        obtain ⟨c2, hk⟩ := cond_some hk
        have c1 := of_decide_eq_true c1; have c2 := of_decide_eq_true c2
        obtain ⟨q, c, hu, hnc⟩ := row rfl
        refine fin (n' := n - l1.toNat) (lo' := l1.toNat) (m' := c) (b := false) rfl hu (by omega) (fun i hi => by rw [subGet_lt hi]) (by omega) (Nat.le_refl _) (fun e => by cases e) hk (hrun hu ?_)
        rw [x1, x2, x3, run_slice_l w t q n c he' k1 l1 c1 c2, hsize]; simp [Result.andThen, show l1.toNat + (n - l1.toNat) = n by omega]
      · obtain ⟨ap, n, gt, rfl⟩ := sliceK_row hk
        unfold sliceK at hk
        replace hk := (cond_some hk).2
        dsimp only at hk
        cases hk
    · rcases optI_ok h h3 (vs := []) (by simpa using hk) with ⟨rfl, x3, hk⟩ | ⟨k3, l3, x3, hk, y3⟩
      · obtain ⟨ap, n, gt, rfl⟩ := sliceK_row hk
        unfold sliceK at hk
        replace hk := (cond_some hk).2
        dsimp only at hk
        obtain ⟨c1, hk⟩ := cond_some hk
        obtain ⟨c2, hk⟩ := cond_some hk
        obtain ⟨c3, hk⟩ := cond_some hk
        have c1 := of_decide_eq_true c1; have c2 := of_decide_eq_true c2; have c3 := of_decide_eq_true c3
        obtain ⟨q, c, hu, hnc⟩ := row rfl
        refine fin (n' := l2.toNat - l1.toNat) (lo' := l1.toNat) (m' := c) (b := false) rfl hu (by omega) (fun i hi => by rw [subGet_lt hi]) (by omega) (Nat.le_refl _) (fun e => by cases e) hk (hrun hu ?_)
        rw [x1, x2, x3, run_slice_lh w t q n c he' k1 k2 l1 l2 c1 c2 (by omega), hsize]; simp [Result.andThen, show l1.toNat + (l2.toNat - l1.toNat) = l2.toNat by omega]
      · obtain ⟨ap, n, gt, rfl⟩ := sliceK_row hk
        unfold sliceK at hk
        replace hk := (cond_some hk).2
        dsimp only at hk
        obtain ⟨c1, hk⟩ := cond_some hk
        obtain ⟨c2, hk⟩ := cond_some hk
        obtain ⟨c3, hk⟩ := cond_some hk
        obtain ⟨c4, hk⟩ := cond_some hk
        have c1 := of_decide_eq_true c1; have c2 := of_decide_eq_true c2; have c3 := of_decide_eq_true c3; have c4 := of_decide_eq_true c4
        subst c4
        obtain ⟨q, c, hu, hnc⟩ := row rfl
        refine fin (n' := l3.toNat - l1.toNat) (lo' := l1.toNat) (m' := l3.toNat) (b := true) rfl hu (by omega) (fun i hi => by rw [subGet_lt hi]) (by omega) (by omega) (fun e => by omega) hk (hrun hu ?_)
        rw [x1, x2, x3, run_slice_lhm w t q n c he' k1 k2 k3 l1 l3 l3 c1 c2 (Int.le_refl _) (by omega), hsize]; simp [Result.andThen, show l1.toNat + (l3.toNat - l1.toNat) = l3.toNat by omega]
end
end Go.Proofs.Ytafnmkbehjbkdaa.M
