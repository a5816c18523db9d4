/- Single operations without calls: what the small machine answers the model does. -/
import Derived.Test.YtafnmkbehjbkdaaMachC
import Derived.Laws.Slices
import Derived.Laws.Small
import Derived.Laws.Strings
set_option linter.unusedVariables false
set_option linter.unusedSimpArgs false
namespace Go.Proofs.Ytafnmkbehjbkdaa.M
open Go Go.RowKit
section
variable {g : Gh} {w : World} {L : List Nat} {u : Value}
theorem V3.toVc {a : AV} (h : V3 g w L a u) (h1 : ∀ cs, a ≠ .agg cs) (h2 : ∀ cs, a ≠ .tup cs) : Vc g w L a u := by
  cases h with
  | c h => cases h with
    | c h => exact h
    | agg cs => exact absurd rfl (h1 cs)
  | tup cs => exact absurd rfl (h2 cs)
theorem V3.sc_inv {v : Value} (h : V3 g w L (.sc v) u) : u = v ∧ v.oneCell' = true := by
  cases h.toVc (by simp) (by simp) with
  | of0 h => cases h with
    | sc v h => exact ⟨rfl, h⟩
theorem V3.ptr_inv {x j : Nat} (h : V3 g w L (.ptr x j) u) : ∃ B, g.φ x = some B ∧ u = .pointer (some ⟨B, j, none⟩) := by
  cases h.toVc (by simp) (by simp) with
  | of0 h => cases h
  | ptr h j B hB => exact ⟨B, hB, rfl⟩
theorem V3.un_inv {k : Option Nat} {sz n : Nat} {get : Nat → List AV} (h : V3 g w L (.un k sz n get) u) : Un g w L k sz n get u := by
  cases h.toVc (by simp) (by simp) with
  | of0 h => cases h
  | un k sz n get v h => exact h
theorem V3.ur_inv {k sz n : Nat} (h : V3 g w L (.ur k sz n) u) : (n = 0 ∧ ∃ p : Option Addr, u = .slice p 0 0) ∨ ∃ B c, u = .slice (some ⟨B, 0, none⟩) n c ∧ g.φ k = some B := by
  cases h.toVc (by simp) (by simp) with
  | of0 h => cases h
  | ur k sz n v h => exact h
theorem V3.up_inv {k sz q off : Nat} (h : V3 g w L (.up k sz q off) u) : ∃ B, g.φ k = some B ∧ u = .pointer (some ⟨B, q * sz + off, none⟩) := by
  cases h.toVc (by simp) (by simp) with
  | of0 h => cases h
  | up k sz q off B hB => exact ⟨B, hB, rfl⟩
theorem V3.clo_inv {x : Nat} {caps : List (Nat × Nat)} (h : V3 g w L (.clo x caps) u) : ∃ vs : List Value, u = .func (.func x) #[] vs.toArray ∧ vs.length = caps.length ∧
    ∀ (i h j : Nat) (v : Value), caps[i]? = some (h, j) → vs[i]? = some v → ∃ B, g.φ h = some B ∧ v = Value.pointer (some ⟨B, j, none⟩) := by
  cases h.toVc (by simp) (by simp) with
  | of0 h => cases h
  | clo f caps vs hl hv => exact ⟨vs, rfl, hl, hv⟩
theorem V3.agg_inv {cs : List AV} (h : V3 g w L (.agg cs) u) : ∃ vs : List Value, u = .agg vs.toArray ∧ cs.length = vs.length ∧ ∀ (i : Nat) (a : AV) (v : Value), cs[i]? = some a → vs[i]? = some v → Vc g w (L ++ [i]) a v := by
  cases h with
  | c h => cases h with
    | c h => cases h with
      | of0 h => cases h
    | agg cs vs hl h => exact ⟨vs, rfl, hl, h⟩
theorem V3.tup_inv {cs : List AV} (h : V3 g w L (.tup cs) u) : ∃ vs : List Value, u = .tuple vs.toArray ∧ cs.length = vs.length ∧ ∀ (i : Nat) (a : AV) (v : Value), cs[i]? = some a → vs[i]? = some v → V2 g w (L ++ [i]) a v := by
  cases h with
  | c h => cases h with
    | c h => cases h with
      | of0 h => cases h
  | tup cs vs hl h => exact ⟨vs, rfl, hl, h⟩
theorem Vc.row_inv {ap : Bool} {sz n : Nat} {get : Nat → List AV} (h : Vc g w L (.row ap sz n get) u) :
    (n = 0 ∧ ∃ p : Option Addr, u = .slice p 0 0) ∨ ∃ B o c, u = .slice (some ⟨B, o, none⟩) n c ∧ V0 g w (.row false sz n get) u ∧ (ap = true → c = n ∨ Owned g w L B o n c sz) := by
  cases h with
  | of0 h => cases h with
    | nil => exact .inl ⟨rfl, none, rfl⟩
    | zero p => exact .inl ⟨rfl, some p, rfl⟩
    | row sz n get B o c val h1 h2 h3 h4 h5 => exact .inr ⟨B, o, c, rfl, .row sz n get B o c val h1 h2 h3 h4 h5, fun h => by cases h⟩
  | nil => exact .inl ⟨rfl, none, rfl⟩
  | zero p => exact .inl ⟨rfl, some p, rfl⟩
  | row sz n get B o c h0 ho => exact .inr ⟨B, o, c, rfl, h0, fun _ => ho⟩
theorem V3.row_inv {ap : Bool} {sz n : Nat} {get : Nat → List AV} (h : V3 g w L (.row ap sz n get) u) :
    (n = 0 ∧ ∃ p : Option Addr, u = .slice p 0 0) ∨ ∃ B o c, u = .slice (some ⟨B, o, none⟩) n c ∧ V0 g w (.row false sz n get) u ∧ (ap = true → c = n ∨ Owned g w L B o n c sz) :=
  (h.toVc (by simp) (by simp)).row_inv
theorem V0.row_inv {sz n : Nat} {get : Nat → List AV} {B o c m : Nat} (h : V0 g w (.row false sz n get) (.slice (some ⟨B, o, none⟩) m c)) :
    m = n ∧ n ≤ c ∧ (n * sz = 0 ∨ Frz g B (o + n * sz)) ∧ (∀ i, i < n → (get i).length = sz) ∧ ∃ val : Nat → Nat → Value, (∀ i j, i < n → j < sz → w.cell? ⟨B, o + i * sz + j, none⟩ = some (val i j)) ∧
      (∀ (i j : Nat) (a : AV), i < n → (get i)[j]? = some a → V0 g w a (val i j)) := by
  cases h with
  | row sz n get B o c val h1 h2 h3 h4 h5 => exact ⟨rfl, h1, h2, h3, val, h4, h5⟩
  | zero p sz get => exact ⟨rfl, Nat.le_refl _, .inl (by simp), fun i hi => by omega, fun _ _ => undef, fun i j hi => by omega, fun i j a hi => by omega⟩
theorem V0.one {a : AV} (h : V0 g w a u) : u.oneCell' = true := by cases h <;> first | assumption | rfl
theorem Vc.one {a : AV} (hs : a.storable = true) (h : Vc g w L a u) : u.oneCell' = true := by
  cases h with
  | dead => cases hs
  | of0 h => exact h.one
  | _ => first | rfl | cases hs
def locC (v : AV) (L : List Nat) (j : Nat) : List Nat := match v with
  | .agg _ => L ++ [j]
  | _ => L
theorem V3.cells {a : AV} {cs : List AV} (h : V3 g w L a u) (hc : a.cells? = some cs) (hs : cs.all AV.storable = true) :
    ∃ us : List Value, u.cells = us.toArray ∧ us.length = cs.length ∧ (∀ x ∈ us, x.oneCell' = true) ∧ ∀ (j : Nat) (b : AV) (x : Value), cs[j]? = some b → us[j]? = some x → Vc g w (locC a L j) b x := by
  have single : Vc g w L a u → cs = [a] → a.storable = true → (∀ j, locC a L j = L) → ∃ us : List Value, u.cells = us.toArray ∧ us.length = cs.length ∧ (∀ x ∈ us, x.oneCell' = true) ∧ ∀ (j : Nat) (b : AV) (x : Value), cs[j]? = some b → us[j]? = some x → Vc g w (locC a L j) b x := by
    intro hv he hst hloc
    have h1 := hv.one hst
    subst he
    refine ⟨[u], ?_, rfl, by simpa using h1, fun j b x hb hx => ?_⟩
    · cases u <;> first | rfl | cases h1
    · cases j with
      | zero => cases hb; cases hx; rw [hloc]; exact hv
      | succ j => simp at hb
  cases a <;> simp only [AV.cells?, Option.some.injEq, reduceCtorEq] at hc
  case agg l =>
    subst hc
    obtain ⟨vs, rfl, hl, hh⟩ := h.agg_inv
    refine ⟨vs, rfl, hl.symm, fun x hx => ?_, fun j b x hb hx => hh j b x hb hx⟩
    obtain ⟨j, hj, rfl⟩ := List.mem_iff_getElem.1 hx
    have hj' : j < l.length := by rw [hl]; exact hj
    refine (hh j l[j] vs[j] (List.getElem?_eq_getElem hj') (List.getElem?_eq_getElem hj)).one ?_
    exact List.all_eq_true.1 hs _ (List.getElem_mem hj')
  all_goals exact single (h.toVc (by simp) (by simp)) hc.symm rfl (fun _ => rfl)
end
def chkV : Value → AV → Bool
  | .int k n, .sc (.int k' n') => decide (k = k') && decide (n = n')
  | .bool b, .sc (.bool b') => b == b'
  | .string s, .sc (.string s') => decide (s = s')
  | .slice none 0 0, .row _ _ 0 _ => true
  | .pointer none, .sc (.pointer none) => true
  | .nilFunc, .sc .nilFunc => true
  | _, _ => false
theorem chkV_ok {v : Value} {a : AV} (h : chkV v a = true) (g : Gh) (w : World) (L : List Nat) : Vc g w L a v := by
  unfold chkV at h
  split at h
  · simp only [Bool.and_eq_true, decide_eq_true_eq] at h; obtain ⟨rfl, rfl⟩ := h; exact .of0 (.sc _ rfl)
  · have h := eq_of_beq h; subst h; exact .of0 (.sc _ rfl)
  · have h := of_decide_eq_true h; subst h; exact .of0 (.sc _ rfl)
  · rename_i ap sz get
    cases ap with
    | true => exact .nil sz get
    | false => exact .of0 (.nil sz get)
  · exact .of0 (.sc _ rfl)
  · exact .of0 (.sc _ rfl)
  · cases h
theorem chkV_st {v : Value} {a : AV} (h : chkV v a = true) : a.storable = true := by
  unfold chkV at h
  split at h <;> first | rfl | cases h
def chkA (f : IFn) (x : Operand) (ia : IA) : Bool := match x, ia with
  | .tmp t, .s t' => Nat.beq t t' && Nat.blt t f.nt
  | .const v, .k a => chkV v a
  | .func n, .k (.clo n' []) => Nat.beq n n'
  | _, _ => false
section
variable {f : IFn} {g : Gh} {w : World} {l : List AV} {a : Act}
theorem nbeq {a b : Nat} (h : Nat.beq a b = true) : a = b := Nat.eq_of_beq_eq_true h
theorem nblt {a b : Nat} (h : Nat.blt a b = true) : a < b := Nat.le_of_ble_eq_true h
theorem nble {a b : Nat} (h : Nat.ble a b = true) : a ≤ b := Nat.le_of_ble_eq_true h
theorem rd_ok (h : Rel f g w l a.tmps) {x : Operand} {ia : IA} (hc : chkA f x ia = true) : ∃ L, V3 g w L (rd l ia) (a.eval x) ∧ ∀ t, ia = .s t → t < f.nt ∧ L = [t] ∧ x = .tmp t := by
  unfold chkA at hc
  split at hc
  · rename_i t t'
    simp only [Bool.and_eq_true] at hc
    obtain ⟨h1, h2⟩ := hc
    have := nbeq h1; subst this
    exact ⟨[t], h.slots t (nblt h2), fun t' e => by cases e; exact ⟨nblt h2, rfl, rfl⟩⟩
  · exact ⟨[], .c (.c (chkV_ok hc g w [])), fun t e => by cases e⟩
  · rename_i n n'
    have := nbeq hc; subst this
    exact ⟨[], .c (.c (.clo n [] [] rfl (fun i h j v h1 => by simp at h1))), fun t e => by cases e⟩
  · cases hc
theorem rd_k {x : Operand} {v : AV} (hc : chkA f x (.k v) = true) (a : Act) : ∀ (g : Gh) (w : World) (L : List Nat), Vc g w L v (a.eval x) := by
  unfold chkA at hc
  split at hc
  · rename_i h; cases h
  · rename_i h; cases h; exact fun g w L => chkV_ok hc g w L
  · rename_i h; cases h
    have := nbeq hc; subst this
    exact fun g w L => .clo _ [] [] rfl (fun i h j v h1 => by simp at h1)
  · cases hc
theorem k_cells {x : Operand} {v : AV} (hc : chkA f x (.k v) = true) {cs : List AV} (h : v.cells? = some cs) : cs = [v] := by
  unfold chkA at hc
  split at hc
  · rename_i e; cases e
  · rename_i e; cases e
    have := chkV_st hc
    cases v <;> first | (cases h; rfl) | (simp [AV.storable] at this; done) | (simp [AV.cells?] at h; done)
  · rename_i e; cases e; cases h; rfl
  · cases hc
end
theorem tkS_true {tk : Bool} {ia : IA} (h : tkS tk ia = true) : tk = true ∧ ∃ t, ia = .s t := by
  cases ia with
  | s t => exact ⟨h, t, rfl⟩
  | k v => cases h
theorem exwx_nil {tk : Bool} {ia : IA} (h : tkS tk ia = false) : exwx tk ia = [] := by
  cases ia with
  | s t => cases tk <;> first | rfl | cases h
  | k v => cases tk <;> rfl
section
variable {P : Program} {f : IFn} {g : Gh} {w : World} {l : List AV} {a : Act} {K : Act → World → Prop} {Q : Exit → Act → World → Prop} {o : Oper} {R : Type} {r : R}
theorem wp_val {u : Value} {w' : World} (hr : (execOp a.eval o).run P w = .ok (.value u) w') (h : K (a.put o.dst u) w') : o.wp P a w K Q := by
  unfold Oper.wp; rw [hr]; exact h
theorem wp_skp {w' : World} (hr : (execOp a.eval o).run P w = .ok .skip w') (h : K (a.put o.dst undef) w') : o.wp P a w K Q := by
  unfold Oper.wp; rw [hr]; exact h
def DstOk (f : IFn) (d : Option Nat) : Prop := ∀ t, d = some t → t < f.nt
def Fin (f : IFn) (g : Gh) (w : World) (l : List AV) (a : Act) (dst : Option Nat) (exw : List Nat) (k : AV → List AV → Option R) (r : R) (K : Act → World → Prop) : Prop :=
  ∀ v ex u g' w', k v ex = some r → Rel f g' w' (setO (setMany l exw ex) dst v) (a.put dst u).tmps → Ext g w g' w' → K (a.put dst u) w'
theorem Rel.put (hl : LayOk f) (h : Rel f g w l a.tmps) {dst : Option Nat} (hd : DstOk f dst) {v : AV} {u : Value} (hv : ∀ d, dst = some d → V3 g w [d] v u) : Rel f g w (setO l dst v) (a.put dst u).tmps := by
  cases dst with
  | none => exact h
  | some d => exact h.setSlot hl (hd d rfl) (hv d rfl)
theorem fin0 (hl : LayOk f) (h : Rel f g w l a.tmps) (hd : DstOk f o.dst) {exw : List Nat} {k : AV → List AV → Option R} (H : Fin f g w l a o.dst exw k r K) {v : AV} {u : Value} {g' : Gh} {w' : World}
    (hk : k v [] = some r) (h' : Rel f g' w' l a.tmps) (he : Ext g w g' w') (hv : ∀ d, o.dst = some d → V3 g' w' [d] v u) : K (a.put o.dst u) w' := by
  refine H v [] u g' w' hk ?_ he
  have : setMany l exw [] = l := by cases exw <;> simp [setMany]
  rw [this]
  exact h'.put hl hd hv
theorem cond_some {b : Bool} {x : Option R} (h : cond b x none = some r) : b = true ∧ x = some r := by cases b <;> simp_all
theorem V3.bool_inv {L : List Nat} {b : Bool} {u : Value} (h : V3 g w L (.sc (.bool b)) u) : u = .bool b := h.sc_inv.1
theorem op_mv (hl : LayOk f) (h : Rel f g w l a.tmps) (hd : DstOk f o.dst) {x : Operand} {ia : IA} {tk : Bool} (hop : o.op = .move x ∨ o.op = .assign x) (hx : chkA f x ia = true) (hdst : o.dst.isSome = true)
    {k : AV → List AV → Option R} (hk : outx tk ia (rd l ia) k = some r) (H : Fin f g w l a o.dst (exwx tk ia) k r K) : o.wp P a w K Q := by
  obtain ⟨L, hv, hs⟩ := rd_ok h hx
  have hr : (execOp a.eval o).run P w = .ok (.value (a.eval x)) w := by
    rcases hop with hop | hop <;> simp [execOp, hop]
  refine wp_val hr ?_
  unfold outx at hk
  cases ia with
  | k v =>
    exact fin0 hl h hd H hk h (Ext.refl _ _) (fun d _ => .c (.c (rd_k hx a g w [d])))
  | s t =>
    obtain ⟨ht, rfl, rfl⟩ := hs t rfl
    cases tk with
    | true =>
      obtain ⟨d, hd'⟩ := Option.isSome_iff_exists.1 hdst
      obtain ⟨g', hR, he⟩ := h.takeSlotSlot hl ht (hd d hd')
      refine H _ _ _ g' w hk ?_ he
      rw [hd']
      exact hR
    | false => exact fin0 hl h hd H hk h (Ext.refl _ _) (fun d _ => hv.strip [d])
theorem op_pick (hl : LayOk f) (h : Rel f g w l a.tmps) (hd : DstOk f o.dst) {c x y : Operand} {ic ix iy : IA} (hop : o.op = .pick c x y) (hc : chkA f c ic = true) (hx : chkA f x ix = true) (hy : chkA f y iy = true)
    {k : AV → List AV → Option R} {exw : List Nat} {b : Bool} (hb : rd l ic = .sc (.bool b)) (hk : cond b (k (rd l ix).strip []) (k (rd l iy).strip []) = some r) (H : Fin f g w l a o.dst exw k r K) : o.wp P a w K Q := by
  obtain ⟨L1, hv1, _⟩ := rd_ok h hc
  obtain ⟨L2, hv2, _⟩ := rd_ok h hx
  obtain ⟨L3, hv3, _⟩ := rd_ok h hy
  rw [hb] at hv1
  have e := hv1.bool_inv
  have hr : (execOp a.eval o).run P w = .ok (.value (if b then a.eval x else a.eval y)) w := by
    simp [execOp, hop, e, asBool]
  refine wp_val hr ?_
  cases b with
  | true => exact fin0 hl h hd H hk h (Ext.refl _ _) (fun d _ => hv2.strip [d])
  | false => exact fin0 hl h hd H hk h (Ext.refl _ _) (fun d _ => hv3.strip [d])
end
end Go.Proofs.Ytafnmkbehjbkdaa.M
