/- An operation with its guard, and a region: in the text's order, or in any. -/
import Derived.Test.YtafnmkbehjbkdaaMachO
set_option linter.unusedVariables false
set_option linter.unusedSimpArgs false
namespace Go.Proofs.Ytafnmkbehjbkdaa.M
open Go Go.RowKit
def optEq : Option Nat → Option Nat → Bool
  | none, none => true
  | some a, some b => Nat.beq a b
  | _, _ => false
theorem optEq_ok {a b : Option Nat} (h : optEq a b = true) : a = b := by
  cases a <;> cases b <;> first | rfl | cases h | exact congrArg some (nbeq h)
def chkGd (ops : Array Oper) (f : IFn) (o : Oper) (io : IStep) : Bool := match o.guard, io.guard with
  | none, none => true
  | some (j, want), some (s, want') => (want == want') && (match ops[j]? with
    | some oj => match oj.dst with
      | some d => Nat.beq d s && Nat.blt d f.nt
      | none => false
    | none => false)
  | _, _ => false
def chkIO (P : Program) (T : Nat → Option IFn) (f : IFn) (ops : Array Oper) (o : Oper) (io : IStep) : Bool :=
  optEq o.dst io.dst && (match o.dst with
    | some d => Nat.blt d f.nt
    | none => true) && chkGd ops f o io && chkAny P T f o io.op
def chkIOs (P : Program) (T : Nat → Option IFn) (f : IFn) (ops : Array Oper) : List Oper → List IStep → Bool
  | [], [] => true
  | o :: os, io :: ios => chkIO P T f ops o io && chkIOs P T f ops os ios
  | _, _ => false
section
variable {P : Program} {T : Nat → Option IFn} {f : IFn} {g : Gh} {w : World} {l : List AV} {a : Act} {K : Act → World → Prop} {Q : Exit → Act → World → Prop} {o : Oper} {R : Type} {r : R} {k : List AV → Option R}
  {call : Nat → List AV → List (List AV) → Option Ret} {ops : Array Oper}
def Goes (f : IFn) (g : Gh) (w : World) (a : Act) (k : List AV → Option R) (r : R) (K : Act → World → Prop) : Prop :=
  ∀ l' g' w' a', k l' = some r → Rel f g' w' l' a'.tmps → Ext g w g' w' → a'.defers = a.defers → K a' w'
theorem put_defers (a : Act) (d : Option Nat) (u : Value) : (a.put d u).defers = a.defers := by cases d <;> rfl
theorem op_wp0 (hl : LayOk f) (hcall : CallOk P T call) (h : Rel f g w l a.tmps) {io : IStep} (hc : chkIO P T f ops o io = true) (hk : step call io l k = some r) (H : Goes f g w a k r K) :
    if Region.wanted o (yielded ops a.tmps) = true then o.wp P a w K Q else K (a.put o.dst undef) w := by
  unfold chkIO at hc
  simp only [Bool.and_eq_true] at hc
  obtain ⟨⟨⟨h1, h2⟩, h3⟩, h4⟩ := hc
  have hdst := optEq_ok h1
  have hd : DstOk f o.dst := fun t ht => by rw [ht] at h2; exact nblt h2
  have run : (comp call io.op (io.op.opds.map (rd l)) fun v ex =>
      cond (Nat.beq ex.length io.op.exw.length) (match io.split with
      | true => match v with
        | .sc (.bool b) => cond b (k (setO (setMany l io.op.exw ex) io.dst (.sc (.bool true)))) (k (setO (setMany l io.op.exw ex) io.dst (.sc (.bool false))))
        | _ => none
      | false => k (setO (setMany l io.op.exw ex) io.dst v)) none) = some r → o.wp P a w K Q := fun hk => by
    refine any_sound hl h hd hcall h4 hk fun v ex u g' w' hk' hR he => ?_
    obtain ⟨h5, hk2⟩ := cond_some hk'
    clear hk'
    rw [← hdst] at hk2
    refine H _ g' w' _ ?_ hR he (put_defers _ _ _)
    split at hk2
    · split at hk2
      · rename_i b
        cases b <;> exact hk2
      · cases hk2
    · exact hk2
  have skip : k (setO l io.dst (.tup [])) = some r → K (a.put o.dst undef) w := fun hk => by
    refine H _ g w _ hk ?_ (Ext.refl _ _) (put_defers _ _ _)
    rw [← hdst]
    exact h.put hl hd fun d _ => .tup [] [] rfl fun i a v hi => by simp at hi
  unfold chkGd at h3
  unfold step at hk
  split at h3
  · rename_i hg hig
    rw [hig] at hk
    have hw : Region.wanted o (yielded ops a.tmps) = true := by unfold Region.wanted; rw [hg]
    rw [if_pos hw]
    exact run hk
  · rename_i j want s want' hg hig
    rw [hig] at hk
    simp only [Bool.and_eq_true, beq_iff_eq] at h3
    obtain ⟨rfl, h3⟩ := h3
    split at h3 <;> try cases h3
    rename_i oj hoj
    split at h3 <;> try cases h3
    rename_i d hjd
    simp only [Bool.and_eq_true] at h3
    have := nbeq h3.1; subst this
    have hdt := nblt h3.2
    have hy : ∀ b, l.getD d .dead = .sc (.bool b) → yielded ops a.tmps j = some b := fun b hb => by
      have hv := h.slots d hdt
      rw [hb] at hv
      have e := hv.bool_inv
      have hsz : d < a.tmps.size := by rw [h.size]; exact hdt
      have e2 : a.tmps[d]? = some (.bool b) := by
        rw [Array.getD_eq_getD_getElem?] at e
        rw [Array.getElem?_eq_getElem hsz] at e ⊢
        simpa using e
      simp [yielded, hoj, hjd, e2]
    simp only at hk
    cases hv : l.getD d .dead with
    | sc v => cases v with
      | bool b =>
        rw [hv] at hk
        have hw : Region.wanted o (yielded ops a.tmps) = (b == want) := by
          unfold Region.wanted; rw [hg]
          simp only [hy b hv]
          cases b <;> cases want <;> rfl
        rw [hw]
        cases b <;> cases want <;> simp only [cond_true, cond_false] at hk
        · exact run hk
        · exact skip hk
        · exact skip hk
        · exact run hk
      | _ => rw [hv] at hk; cases hk
    | tup vs => cases vs with
      | nil =>
        rw [hv] at hk
        have hs := h.slots d hdt
        rw [hv] at hs
        obtain ⟨us, hu, hlen, _⟩ := hs.tup_inv
        have hus : us = [] := List.eq_nil_of_length_eq_zero hlen.symm
        subst hus
        have hsz : d < a.tmps.size := by rw [h.size]; exact hdt
        have e2 : a.tmps[d]? = some (.tuple #[]) := by
          rw [Array.getD_eq_getD_getElem?] at hu
          rw [Array.getElem?_eq_getElem hsz] at hu ⊢
          simpa using hu
        have hw : Region.wanted o (yielded ops a.tmps) = false := by
          unfold Region.wanted; rw [hg]
          have : yielded ops a.tmps j = none := by simp [yielded, hoj, hjd, e2]
          simp only [this]; rfl
        rw [hw]
        exact skip hk
      | cons => rw [hv] at hk; cases hk
    | _ => rw [hv] at hk; cases hk
  · cases h3
theorem op_wp (hl : LayOk f) (hcall : CallOk P T call) (h : Rel f g w l a.tmps) {io : IStep} (hc : chkIO P T f ops o io = true) (hk : step call io l k = some r) (H : Goes f g w a k r K) :
    if Region.wanted o (yielded ops a.tmps) = true then o.wp P a w K Q ∨ (o.asks P a w ∧ LetsOut Q) else K (a.put o.dst undef) w := by
  have := op_wp0 (Q := Q) hl hcall h hc hk H
  split
  · rename_i hw; rw [if_pos hw] at this; exact .inl this
  · rename_i hw; rw [if_neg hw] at this; exact this
theorem Goes.trans {g1 : Gh} {w1 : World} {a1 : Act} (H : Goes f g w a k r K) (he : Ext g w g1 w1) (hd : a1.defers = a.defers) : Goes f g1 w1 a1 k r K := fun l' g' w' a' hk hR he' hd' =>
  H l' g' w' a' hk hR (he.trans he') (hd'.trans hd)
theorem list_wp (hl : LayOk f) (hcall : CallOk P T call) : ∀ {os : List Oper} {ios : List IStep} {g : Gh} {w : World} {l : List AV} {a : Act}, chkIOs P T f ops os ios = true → Rel f g w l a.tmps → steps call ios l k = some r → Goes f g w a k r (Q .normal) → wpList P ops Q os a w
  | [], [], g, w, l, a, _, h, hk, H => H l g w a hk h (Ext.refl _ _) rfl
  | [], _ :: _, _, _, _, _, hc, _, _, _ => by cases hc
  | _ :: _, [], _, _, _, _, hc, _, _, _ => by cases hc
  | o :: os, io :: ios, g, w, l, a, hc, h, hk, H => by
    simp only [chkIOs, Bool.and_eq_true] at hc
    simp only [steps] at hk
    exact op_wp hl hcall h hc.1 hk fun l' g' w' a' hk' hR he hd => list_wp hl hcall hc.2 hR hk' (H.trans he hd)
def io0 : IStep := ⟨none, .nil (.k .dead), none, false⟩
def edgesB (ops : Array Oper) (i : Nat) (p : Nat → Bool) : Bool := match ops[i]? with
  | some o => o.after.toList.any fun e => Region.binds .any e && p e.on
  | none => false
def edgesAll (ops : Array Oper) (i : Nat) (p : Nat → Bool) : Bool := match ops[i]? with
  | some o => o.after.toList.all fun e => !Region.binds .any e || p e.on
  | none => true
def chkAnyOrder (ops : Array Oper) (ios : List IStep) : Bool :=
  let b := Region.before ops
  (List.range ops.size).all fun i =>
    edgesAll ops i (fun e => Nat.blt e i) &&
    (List.range i).all fun j => cond ((b.getD i 0).testBit j) (edgesB ops i fun e => Nat.beq e j || (Nat.blt j e && (b.getD e 0).testBit j)) (indep (ios.getD j io0) (ios.getD i io0))
theorem chkIOs_get : ∀ {os : List Oper} {ios : List IStep}, chkIOs P T f ops os ios = true → ios.length = os.length ∧ ∀ (i : Nat) (o : Oper), os[i]? = some o → chkIO P T f ops o (ios.getD i io0) = true
  | [], [], _ => ⟨rfl, fun i o h => by simp at h⟩
  | [], _ :: _, h => by cases h
  | _ :: _, [], h => by cases h
  | o :: os, io :: ios, h => by
    simp only [chkIOs, Bool.and_eq_true] at h
    obtain ⟨h1, h2⟩ := chkIOs_get h.2
    refine ⟨by simp [h1], fun i o' ho => ?_⟩
    cases i with
    | zero => simp at ho; subst ho; exact h.1
    | succ i => exact h2 i o' (by simpa using ho)
def rem (ops : Array Oper) (listed : Array Bool) : List Nat := (List.range ops.size).filter fun i => !listed.getD i true
theorem mem_rem {listed : Array Bool} {i : Nat} : i ∈ rem ops listed ↔ i < ops.size ∧ listed.getD i true = false := by
  simp [rem]
theorem rem_sorted (listed : Array Bool) : (rem ops listed).Pairwise (· < ·) := List.Pairwise.filter _ List.pairwise_lt_range
theorem rem_set {listed : Array Bool} {i : Nat} {pre post : List Nat} (hsz : listed.size = ops.size) (h : rem ops listed = pre ++ i :: post) : rem ops (listed.setIfInBounds i true) = pre ++ post := by
  have hs := rem_sorted (ops := ops) listed
  rw [h] at hs
  have h1 := (List.pairwise_append.1 hs)
  have h2 := List.pairwise_cons.1 h1.2.1
  have hi : i ∈ rem ops listed := by rw [h]; simp
  have hil := (mem_rem.1 hi).1
  have e : rem ops (listed.setIfInBounds i true) = (rem ops listed).filter fun j => !decide (j = i) := by
    unfold rem
    rw [List.filter_filter]
    refine List.filter_congr fun j hj => ?_
    by_cases hji : j = i
    · subst hji
      have : j < listed.size := by omega
      simp [this]
    · rw [_root_.Go.getD_set_ne true (Ne.symm hji)]
      simp [hji]
  rw [e, h, List.filter_append, List.filter_cons]
  simp only [decide_true, Bool.not_true, Bool.false_eq_true, if_false]
  rw [List.filter_eq_self.2 fun j hj => ?_, List.filter_eq_self.2 fun j hj => ?_]
  · have := h2.1 j hj
    simp; omega
  · have := h1.2.2 j hj i (by simp)
    simp; omega
theorem any_order (hl : LayOk f) (hcall : CallOk P T call) {ios : List IStep} (hc : chkIOs P T f ops ops.toList ios = true) (ho : chkAnyOrder ops ios = true) :
    ∀ (fuel : Nat) (listed : Array Bool) (g : Gh) (w : World) (l : List AV) (a : Act), listed.size = ops.size → (rem ops listed).length ≤ fuel →
      (∀ i, i < ops.size → listed.getD i false = true → ∀ e ∈ ((ops[i]?).map (·.after.toList)).getD [], Region.binds .any e = true → listed.getD e.on false = true) →
      Rel f g w l a.tmps → steps call ((rem ops listed).map fun i => ios.getD i io0) l k = some r → Goes f g w a k r (Q .normal) → wpAny P .any ops Q fuel listed a w := by
  have hb : ∀ i, i < ops.size → edgesAll ops i (fun e => Nat.blt e i) = true ∧ ∀ j, j < i → cond (((Region.before ops).getD i 0).testBit j) (edgesB ops i fun e => Nat.beq e j || (Nat.blt j e && ((Region.before ops).getD e 0).testBit j)) (indep (ios.getD j io0) (ios.getD i io0)) = true := fun i hi => by
    have := List.all_eq_true.1 ho i (List.mem_range.2 hi)
    simp only [Bool.and_eq_true] at this
    exact ⟨this.1, fun j hj => List.all_eq_true.1 this.2 j (List.mem_range.2 hj)⟩
  have edges : ∀ i o, ops[i]? = some o → i < ops.size := fun i o h => (Array.getElem?_eq_some_iff.1 h).1
  have back : ∀ i o, ops[i]? = some o → ∀ e ∈ o.after, Region.binds .any e = true → e.on < i := fun i o hio e he hbe => by
    have := (hb i (edges i o hio)).1
    unfold edgesAll at this
    rw [hio] at this
    have := List.all_eq_true.1 this e (Array.mem_toList_iff.2 he)
    simp only [hbe, Bool.not_true, Bool.false_or] at this
    exact nblt this
  have dT : ∀ (listed : Array Bool) (i : Nat), i < listed.size → listed.getD i true = listed.getD i false := fun listed i hi => by
    simp [Array.getD_eq_getD_getElem?, Array.getElem?_eq_getElem hi]
  intro fuel
  induction fuel with
  | zero =>
    intro listed g w l a hsz hf hcl h hk H
    have hr : rem ops listed = [] := List.eq_nil_of_length_eq_zero (by omega)
    rw [hr] at hk
    refine ⟨?_, H l g w a hk h (Ext.refl _ _) rfl⟩
    rw [List.eq_nil_iff_forall_not_mem]
    intro i hi
    obtain ⟨h1, o, h2, _⟩ := mem_ready.1 hi
    have : i ∈ rem ops listed := mem_rem.2 ⟨edges i o h2, h1⟩
    rw [hr] at this; cases this
  | succ fuel ih =>
    intro listed g w l a hsz hf hcl h hk H
    refine ⟨fun hr => ?_, fun i hi => ?_⟩
    · have hall : ∀ n, ∀ i, i < n → i < ops.size → listed.getD i true = true := by
        intro n
        induction n with
        | zero => intro i hi; omega
        | succ n ihn =>
          intro i hi hil
          cases hli : listed.getD i true with
          | true => rfl
          | false =>
            have : i ∈ Region.ready .any ops listed := by
              refine mem_ready.2 ⟨hli, ops[i], Array.getElem?_eq_getElem hil, fun e he hbe => ?_⟩
              have h1 := back i ops[i] (Array.getElem?_eq_getElem hil) e he hbe
              rw [← dT _ _ (by omega)]
              exact ihn e.on (by omega) (by omega)
            rw [hr] at this; cases this
      have hrm : rem ops listed = [] := by
        rw [List.eq_nil_iff_forall_not_mem]
        intro i hi
        obtain ⟨h1, h2⟩ := mem_rem.1 hi
        rw [hall (i + 1) i (by omega) h1] at h2; cases h2
      rw [hrm] at hk
      exact H l g w a hk h (Ext.refl _ _) rfl
    · obtain ⟨h1, o, h2, h3⟩ := mem_ready.1 hi
      have hil := edges i o h2
      have him : i ∈ rem ops listed := mem_rem.2 ⟨hil, h1⟩
      obtain ⟨pre, post, hpp⟩ := List.append_of_mem him
      have hpre : ∀ p ∈ pre, p < i ∧ listed.getD p true = false := fun p hp => by
        have hs := rem_sorted (ops := ops) listed
        rw [hpp] at hs
        refine ⟨(List.pairwise_append.1 hs).2.2 p hp i (by simp), (mem_rem.1 (show p ∈ rem ops listed by rw [hpp]; simp [hp])).2⟩
      have reach : ∀ n i, i < n → ∀ o, ops[i]? = some o → (∀ e ∈ o.after, Region.binds .any e = true → listed.getD e.on false = true) → ∀ j, j < i → ((Region.before ops).getD i 0).testBit j = true → listed.getD j false = true := by
        intro n
        induction n with
        | zero => intro i hi; omega
        | succ n ihn =>
          intro i hi o hio hal j hj hbit
          have hcn := (hb i (edges i o hio)).2 j hj
          rw [hbit, cond_true] at hcn
          unfold edgesB at hcn
          rw [hio] at hcn
          obtain ⟨e, he, hee⟩ := List.any_eq_true.1 hcn
          simp only [Bool.and_eq_true, Bool.or_eq_true] at hee
          obtain ⟨hbe, hee⟩ := hee
          have he' := Array.mem_toList_iff.1 he
          have hle := hal e he' hbe
          rcases hee with hee | ⟨hee1, hee2⟩
          · rw [← nbeq hee]; exact hle
          · have hlt := back i o hio e he' hbe
            have hes : e.on < ops.size := by have := edges i o hio; omega
            refine ihn e.on (by omega) ops[e.on] (Array.getElem?_eq_getElem hes) (fun e2 he2 hb2 => ?_) j (nblt hee1) hee2
            refine hcl e.on hes hle e2 ?_ hb2
            rw [Array.getElem?_eq_getElem hes]
            exact Array.mem_toList_iff.2 he2
      rw [hpp, List.map_append, List.map_cons] at hk
      have hfr := front (fun p hp => by
        obtain ⟨q, hq, rfl⟩ := List.mem_map.1 hp
        obtain ⟨q1, q2⟩ := hpre q hq
        have hcn := (hb i hil).2 q q1
        cases hbit : ((Region.before ops).getD i 0).testBit q with
        | false => rw [hbit, cond_false] at hcn; exact hcn
        | true =>
          have := reach (i + 1) i (by omega) o h2 h3 q q1 hbit
          rw [← dT _ _ (by omega), q2] at this; cases this) hk
      unfold wpOp
      rw [h2]
      refine op_wp hl hcall h ((chkIOs_get hc).2 i o (by rw [Array.getElem?_toList]; exact h2)) hfr fun l' g' w' a' hk' hR he hd => ?_
      have hrs := rem_set hsz hpp
      refine ih (listed.setIfInBounds i true) g' w' l' a' (by simpa using hsz) ?_ (fun j hj hjl e he hbe => ?_) hR (by rw [hrs, List.map_append]; exact hk') (H.trans he hd)
      · rw [hrs]; rw [hpp] at hf; simp at hf ⊢; omega
      · by_cases hji : j = i
        · subst hji
          rw [h2] at he
          exact getD_set_true (h3 e (Array.mem_toList_iff.1 he) hbe)
        · rw [_root_.Go.getD_set_ne false (Ne.symm hji)] at hjl
          exact getD_set_true (hcl j hj hjl e he hbe)
def chkReg (P : Program) (T : Nat → Option IFn) (f : IFn) (ops : Array Oper) (draw : Bool) (ios : List IStep) : Bool :=
  chkIOs P T f ops ops.toList ios && (!draw || (P.follows .mixedOrders && chkAnyOrder ops ios))
theorem reg_wp (hl : LayOk f) (hcall : CallOk P T call) {ios : List IStep} {id : Nat} {draw : Bool} (hc : chkReg P T f ops draw ios = true) (h : Rel f g w l a.tmps) (hk : steps call ios l k = some r) (H : Goes f g w a k r (Q .normal)) :
    (Code.region id ops draw).wp P Q a w := by
  unfold chkReg at hc
  simp only [Bool.and_eq_true, Bool.or_eq_true, Bool.not_eq_true'] at hc
  cases draw with
  | false => exact wp_region_list (list_wp hl hcall hc.1 h hk H)
  | true =>
    have hc2 := hc.2.resolve_left (by simp)
    have hlen : ios.length = ops.size := by have := (chkIOs_get hc.1).1; simpa using this
    refine wp_region_any hc2.1 (any_order hl hcall hc.1 hc2.2 ops.size _ g _ l a (by simp) ?_ (fun i hi hli => ?_) h.drew ?_ (H.trans (Ext.drew g w) rfl))
    · unfold rem; refine Nat.le_trans (List.length_filter_le _ _) (by simp)
    · rw [Array.getD_eq_getD_getElem?] at hli
      simp [hi] at hli
    · have e1 : rem ops (Array.replicate ops.size false) = List.range ops.size := by
        unfold rem
        refine List.filter_eq_self.2 fun i hi => ?_
        have := List.mem_range.1 hi
        simp [this]
      have e2 : (List.range ops.size).map (fun i => ios.getD i io0) = ios := by
        apply List.ext_getElem?
        intro i
        by_cases hi : i < ios.length
        · rw [List.getElem?_map, List.getElem?_range (by omega), List.getElem?_eq_getElem hi]
          simp [List.getD_eq_getElem?_getD, List.getElem?_eq_getElem hi]
        · rw [List.getElem?_eq_none (by simp; omega), List.getElem?_eq_none (by omega)]
      rw [e1, e2]; exact hk
end
end Go.Proofs.Ytafnmkbehjbkdaa.M
