/- Structs, literals of rows, tuples, closures. -/
import Derived.Test.YtafnmkbehjbkdaaMachH
import Derived.Laws.Tables
set_option linter.unusedVariables false
set_option linter.unusedSimpArgs false
namespace Go.Proofs.Ytafnmkbehjbkdaa.M
open Go Go.RowKit
def plOf (P : Program) (t : TypeId) : Option ((Nat → Option (Nat × Nat)) × Value) := match P.info? t, P.underlying t with
  | some it, some (.array _ e) => match it.zero, P.info? e with
    | some z, some ie => some (fun i => some (i * ie.size, ie.size), z)
    | _, _ => none
  | some it, some (.struct fields) => match it.zero, fields.toList.mapM (fun f => (P.info? f.type).map fun i => (f.offset, i.size)) with
    | some z, some places => some ((places.toArray[·]?), z)
    | _, _ => none
  | _, _ => none
theorem plOf_built {P : Program} {t : TypeId} {pl : Nat → Option (Nat × Nat)} {z : Value} (h : plOf P t = some (pl, z)) (parts : List (Nat × Value)) : P.built t parts = Instr.fill pl z.cells parts := by
  unfold plOf at h
  unfold Program.built
  cases h1 : P.info? t with
  | none => rw [h1] at h; cases h
  | some it =>
    cases h2 : P.underlying t with
    | none => rw [h1, h2] at h; cases h
    | some d =>
      rw [h1, h2] at h
      cases d <;> simp only [reduceCtorEq] at h ⊢
      case array n e =>
        cases h3 : it.zero with
        | none => rw [h3] at h; cases h
        | some z' =>
          cases h4 : P.info? e with
          | none => rw [h3, h4] at h; cases h
          | some ie => rw [h3, h4] at h; cases h; rfl
      case struct fields =>
        cases h3 : it.zero with
        | none => rw [h3] at h; cases h
        | some z' =>
          cases h4 : fields.toList.mapM (fun f => (P.info? f.type).map fun i => (f.offset, i.size)) with
          | none => rw [h3, h4] at h; cases h
          | some ie => rw [h3, h4] at h; cases h; rfl
def chkParts (f : IFn) (pl : Nat → Option (Nat × Nat)) : List (Nat × Operand) → List (Nat × Nat × IA) → Bool
  | [], [] => true
  | (i, x) :: xs, (off, n, ia) :: ps => (match pl i with
    | some (o', n') => Nat.beq o' off && Nat.beq n' n
    | none => false) && (chkA f x ia && chkParts f pl xs ps)
  | _, _ => false
def chkB (P : Program) (f : IFn) (t : TypeId) (xs : List (Nat × Operand)) (zs : List AV) (ps : List (Nat × Nat × IA)) : Bool := match plOf P t with
  | some (pl, z) => chkVL z.cells.toList zs && chkParts f pl xs ps
  | none => false
def setAll (off : Nat) (us : List Value) (cells : Array Value) : Array Value := (us.zipIdx).foldl (fun cs x => cs.setIfInBounds (off + x.2) x.1) cells
theorem setFrom_get (off : Nat) : ∀ (us : List Value) (k : Nat) (cells : Array Value) (j : Nat), off + k + us.length ≤ cells.size →
    ((us.zipIdx k).foldl (fun cs x => cs.setIfInBounds (off + x.2) x.1) cells).size = cells.size ∧
    ((us.zipIdx k).foldl (fun cs x => cs.setIfInBounds (off + x.2) x.1) cells)[j]? = if off + k ≤ j ∧ j < off + k + us.length then us[j - (off + k)]? else cells[j]?
  | [], k, cells, j, _ => by simp; intro h1 h2; omega
  | u :: us, k, cells, j, h => by
    simp only [List.length_cons] at h
    obtain ⟨h1, h2⟩ := setFrom_get off us (k + 1) (cells.setIfInBounds (off + k) u) j (by simp; omega)
    simp only [List.zipIdx_cons, List.foldl_cons]
    refine ⟨by rw [h1]; simp, ?_⟩
    rw [h2]
    by_cases hj : off + k = j
    · subst hj
      rw [if_neg (by omega), if_pos (by simp), Array.getElem?_setIfInBounds_self_of_lt (by omega)]
      simp
    · by_cases hj2 : off + (k + 1) ≤ j ∧ j < off + (k + 1) + us.length
      · rw [if_pos hj2, if_pos (by simp; omega), show j - (off + k) = (j - (off + (k + 1))) + 1 by omega]; simp
      · rw [if_neg hj2, if_neg (by simp; omega), Array.getElem?_setIfInBounds_ne hj]
theorem splice_get (l : List AV) (off : Nat) (cs : List AV) (h : off + cs.length ≤ l.length) (j : Nat) : (splice l off cs)[j]? = if off ≤ j ∧ j < off + cs.length then cs[j - off]? else l[j]? := by
  unfold splice
  by_cases h1 : j < off
  · rw [List.getElem?_append_left (by simp; omega), if_neg (by omega), List.getElem?_take_of_lt h1]
  · rw [List.getElem?_append_right (by simp; omega)]
    have e : j - (List.take off l).length = j - off := by simp; omega
    rw [e]
    by_cases h2 : j < off + cs.length
    · rw [if_pos (by omega), List.getElem?_append_left (by omega)]
    · rw [if_neg (by omega), List.getElem?_append_right (by omega), List.getElem?_drop]
      congr 1; omega
theorem splice_len (l : List AV) (off : Nat) (cs : List AV) (h : off + cs.length ≤ l.length) : (splice l off cs).length = l.length := by
  unfold splice; simp; omega
def Rp (g : Gh) (w : World) (as : List AV) (cells : Array Value) : Prop := as.length = cells.size ∧ ∀ (j : Nat) (a : AV) (v : Value), as[j]? = some a → cells[j]? = some v → ∀ L, Vc g w L a v
section
variable {P : Program} {f : IFn} {g : Gh} {w : World} {l : List AV} {a : Act} {K : Act → World → Prop} {Q : Exit → Act → World → Prop} {o : Oper} {R : Type} {r : R} {k : AV → List AV → Option R} {exw : List Nat}
theorem fill_ok (h : Rel f g w l a.tmps) {pl : Nat → Option (Nat × Nat)} : ∀ {xs : List (Nat × Operand)} {ps : List (Nat × Nat × IA)} {as bs : List AV} {cells : Array Value}, chkParts f pl xs ps = true → overlay as ps (ps.map fun x => rd l x.2.2) = some bs → Rp g w as cells →
    ∃ cells', Instr.fill pl cells (xs.map fun x => (x.1, a.eval x.2)) = some cells' ∧ Rp g w bs cells'
  | [], [], as, bs, cells, _, ho, hr => by simp [overlay] at ho; subst ho; exact ⟨cells, rfl, hr⟩
  | [], _ :: _, _, _, _, hc, _, _ => by simp [chkParts] at hc
  | _ :: _, [], _, _, _, hc, _, _ => by simp [chkParts] at hc
  | (i, x) :: xs, (off, n, ia) :: ps, as, bs, cells, hc, ho, hr => by
    simp only [chkParts, Bool.and_eq_true] at hc
    obtain ⟨h1, h2, h3⟩ := hc
    cases hp : pl i with
    | none => rw [hp] at h1; cases h1
    | some x' =>
      obtain ⟨o', n'⟩ := x'
      rw [hp] at h1
      simp only [Bool.and_eq_true] at h1
      have e1 := nbeq h1.1; have e2 := nbeq h1.2
      subst e1; subst e2
      simp only [List.map_cons, overlay] at ho
      split at ho
      · rename_i cs hcs
        obtain ⟨hcond, ho⟩ := cond_some ho
        simp only [Bool.and_eq_true] at hcond
        have e3 := nbeq hcond.1.1; have e4 := nble hcond.1.2
        obtain ⟨L, hv, _⟩ := rd_ok h h2
        obtain ⟨us, hu, hul, hone, hcell⟩ := hv.cells hcs hcond.2
        have hsz : o' + us.length ≤ cells.size := by rw [← hr.1, hul, e3]; exact e4
        have hget := fun j => setFrom_get o' us 0 cells j (by simpa using hsz)
        have hrp : Rp g w (splice as o' (cs.map AV.c1)) (setAll o' us cells) := by
          refine ⟨?_, fun j b v hb hv' L' => ?_⟩
          · rw [splice_len _ _ _ (by simp; omega)]; rw [hr.1]; exact ((hget 0).1).symm
          · rw [splice_get _ _ _ (by simp; omega)] at hb
            have hg := (hget j).2
            unfold setAll at hv'
            rw [hg] at hv'
            simp only [Nat.add_zero, List.length_map] at hb hv'
            rw [hul] at hv'
            split at hb
            · rename_i hin
              rw [if_pos hin] at hv'
              rw [List.getElem?_map] at hb
              cases hcj : cs[j - o']? with
              | none => rw [hcj] at hb; cases hb
              | some b' => rw [hcj] at hb; cases hb; exact (hcell _ b' v hcj hv').c1 L'
            · rename_i hin
              rw [if_neg hin] at hv'
              exact hr.2 j b v hb hv' L'
        obtain ⟨cells', hf, hr'⟩ := fill_ok h h3 ho hrp
        refine ⟨cells', ?_, hr'⟩
        simp only [List.map_cons, Instr.fill, hp]
        have hus : (a.eval x).cells.size = us.length := by rw [hu]; simp
        rw [if_neg (by rw [hus]; simp; omega)]
        have : (a.eval x).cells.zipIdx.foldl (fun cs (c, j) => cs.setIfInBounds (o' + j) c) cells = setAll o' us cells := by
          rw [hu]; unfold setAll; rw [← Array.foldl_toList]; simp
        rw [this]; exact hf
      · cases ho
theorem op_build (hl : LayOk f) (h : Rel f g w l a.tmps) (hd : DstOk f o.dst) {t : TypeId} {xs : Array (Nat × Operand)} {zs : List AV} {ps : List (Nat × Nat × IA)} (hop : o.op = .build t xs) (hc : chkB P f t xs.toList zs ps = true)
    {cs : List AV} (ho : overlay zs ps (ps.map fun x => rd l x.2.2) = some cs) (hk : k (.agg cs) [] = some r) (H : Fin f g w l a o.dst exw k r K) : o.wp P a w K Q := by
  unfold chkB at hc
  split at hc <;> try cases hc
  rename_i pl z hpl
  simp only [Bool.and_eq_true] at hc
  obtain ⟨hlen, hall⟩ := chkVL_ok hc.1
  have hrp : Rp g w zs z.cells := ⟨by simpa using hlen.symm, fun j b v hb hv L => chkV_ok (hall j b v hb (by simpa using hv)) g w L⟩
  obtain ⟨cells', hf, hr'⟩ := fill_ok h hc.2 ho hrp
  have hr : (execOp a.eval o).run P w = .ok (.value (.agg cells')) w := by
    have hb : P.built t (xs.map fun x => (x.1, a.eval x.2)).toList = some cells' := by rw [plOf_built hpl, Array.toList_map]; exact hf
    have := run_build (P := P) w t (xs.map fun x => (x.1, a.eval x.2)) cells' hb
    simp only [execOp, hop, Sem.run_bind, Sem.run_pure]
    rw [this]; rfl
  refine wp_val hr (fin0 hl h hd H hk h (Ext.refl _ _) (fun d _ => .c ?_))
  have := V2.agg (g := g) (w := w) (L := [d]) cs cells'.toList (by rw [hr'.1]; simp) (fun i b v hb hv => hr'.2 i b v hb (by simpa using hv) _)
  simpa using this
def chkBS (P : Program) (f : IFn) (t : TypeId) (len sz : Nat) (xs : List (Nat × Operand)) (zs : List AV) (ps : List (Nat × Nat × IA)) : Bool := match P.underlying t with
  | some (.slice e) => match P.info? e with
    | some i => match i.zero with
      | some z => Nat.beq i.size sz && Nat.ble 1 sz && Nat.ble (len * sz) 16777216 && Nat.beq z.cells.size sz && chkVL z.cells.toList zs && chkParts f (fun j => some (j * i.size, i.size)) xs ps
      | none => false
    | none => false
  | _ => false
theorem rep_get {α : Type} (len : Nat) (zs : List α) (hz : 0 < zs.length) (t : Nat) (ht : t < len * zs.length) : ((List.replicate len zs).flatten)[t]? = zs[t % zs.length]? := by
  induction len generalizing t with
  | zero => simp at ht
  | succ n ih =>
    rw [List.replicate_succ, List.flatten_cons]
    by_cases h : t < zs.length
    · rw [List.getElem?_append_left h, Nat.mod_eq_of_lt h]
    · rw [List.getElem?_append_right (by omega), ih (t - zs.length) (by rw [Nat.succ_mul] at ht; omega)]
      congr 1
      exact (Nat.mod_eq_sub_mod (by omega)).symm
theorem op_bslice (hl : LayOk f) (h : Rel f g w l a.tmps) (hd : DstOk f o.dst) {t : TypeId} {len sz : Nat} {xs : Array (Nat × Operand)} {zs : List AV} {ps : List (Nat × Nat × IA)} (hop : o.op = .buildSlice t len xs) (hc : chkBS P f t len sz xs.toList zs ps = true)
    {cs : List AV} (ho : overlay (List.replicate len zs).flatten ps (ps.map fun x => rd l x.2.2) = some cs) (hfl : cs.all AV.flat = true) (hk : k (.row true sz len (litGet sz len zs cs)) [] = some r) (H : Fin f g w l a o.dst exw k r K) : o.wp P a w K Q := by
  unfold chkBS at hc
  split at hc <;> try cases hc
  rename_i e he
  split at hc <;> try cases hc
  rename_i i hi
  split at hc <;> try cases hc
  rename_i z hz
  simp only [Bool.and_eq_true] at hc
  obtain ⟨⟨⟨⟨⟨c1, c2⟩, c3⟩, c4⟩, c5⟩, c6⟩ := hc
  have c1 := nbeq c1; have c2 := nble c2; have c3 := nble c3; have c4 := nbeq c4
  obtain ⟨hlen, hall⟩ := chkVL_ok c5
  have hzs : zs.length = sz := by rw [← hlen]; simpa using c4
  have hcl : ∀ {as : List AV} {qs : List (Nat × Nat × IA)} {vs bs : List AV}, overlay as qs vs = some bs → bs.length = as.length := by
    intro as qs
    induction qs generalizing as with
    | nil => intro vs bs h; cases vs <;> simp [overlay] at h; rw [h]
    | cons q qs ih =>
      intro vs bs h
      obtain ⟨off, n, ia⟩ := q
      cases vs with
      | nil => simp [overlay] at h
      | cons v vs =>
        simp only [overlay] at h
        split at h
        · rename_i cs' hcs'
          obtain ⟨hcond, h⟩ := cond_some h
          simp only [Bool.and_eq_true] at hcond
          have e3 := nbeq hcond.1.1; have e4 := nble hcond.1.2
          rw [ih h, splice_len _ _ _ (by simp; omega)]
        · cases h
  by_cases h0 : len = 0
  · subst h0
    have hps : ps = [] ∧ xs.toList = [] := by
      cases ps with
      | nil => exact ⟨rfl, by cases hx : xs.toList with
        | nil => rfl
        | cons x xs' => rw [hx] at c6; simp [chkParts] at c6⟩
      | cons q qs =>
        exfalso
        obtain ⟨off, n, ia⟩ := q
        cases hx : xs.toList with
        | nil => rw [hx] at c6; simp [chkParts] at c6
        | cons x xs' =>
          obtain ⟨ix, xx⟩ := x
          rw [hx] at c6
          simp only [chkParts, Bool.and_eq_true] at c6
          have e2 := nbeq c6.1.2
          simp only [List.map_cons, overlay, List.replicate_zero, List.flatten_nil, List.length_nil] at ho
          split at ho
          · obtain ⟨hcond, _⟩ := cond_some ho
            simp only [Bool.and_eq_true] at hcond
            have e4 := nble hcond.1.2
            omega
          · cases ho
    obtain ⟨rfl, hxs⟩ := hps
    have hr : (execOp a.eval o).run P w = .ok (.value (.slice (some ⟨w.heap.size, 0, none⟩) 0 0)) (w.alloc (.cells #[] e)) := by
      have : xs = #[] := Array.ext' hxs
      subst this
      have e0 : (Array.map (fun x => (default : Value)) (Array.range 0)) = #[] := by simp [Array.range]
      simp [e0, execOp, hop, Instr.buildSlice, run_underlying he, sizeOf, typeInfo, hi, Instr.fill, newRow]
    have hR := h.new (.cells #[] e (0, 0)) none (some 0)
    have hE := Ext.new (w := w) h.fresh (.cells #[] e (0, 0)) none (some 0)
    refine wp_val hr (fin0 hl h hd H hk hR hE (fun d _ => .c (.c (.row _ _ _ _ 0 0 (.row _ _ _ _ _ _ (fun _ _ => undef) (Nat.le_refl _) (.inl (by simp)) (fun i hi => by omega) (fun i j hi _ => by omega) (fun i j b hi _ => by omega)) (.inl rfl)))))
  · have hpos : 0 < len * sz := Nat.mul_pos (by omega) c2
    let zc := (Array.range (len * i.size)).map (z.cells[· % z.cells.size]!)
    have hzc : ∀ t, t < len * sz → zc[t]? = z.cells[t % sz]? := fun t ht => by
      have hm : t % sz < z.cells.size := by rw [c4]; exact Nat.mod_lt _ c2
      simp only [zc, Array.getElem?_map, c1]
      rw [show (Array.range (len * sz))[t]? = some t by simp [Array.getElem?_eq_getElem, ht]]
      simp only [Option.map_some, c4]
      rw [getElem!_pos z.cells _ (by rw [c4]; exact Nat.mod_lt _ c2), Array.getElem?_eq_getElem hm]
    have hflen : ((List.replicate len zs).flatten).length = len * sz := by simp [hzs]
    have hrp : Rp g w (List.replicate len zs).flatten zc := by
      refine ⟨by rw [hflen]; simp [zc, c1], fun j b v hb hv L => ?_⟩
      have hj : j < len * sz := by have := lt_of_getq hb; rwa [hflen] at this
      rw [rep_get len zs (by omega) j (by rw [hzs]; exact hj), hzs] at hb
      rw [hzc j hj] at hv
      exact chkV_ok (hall _ b v hb (by simpa using hv)) g w L
    obtain ⟨cells', hf, hr'⟩ := fill_ok h c6 ho hrp
    have hr : (execOp a.eval o).run P w = .ok (.value (.slice (some ⟨w.heap.size, 0, none⟩) len len)) (w.alloc (.cells cells' e)) := by
      have hb : Instr.fill (fun j => some (j * i.size, i.size)) zc (xs.map fun x => (x.1, a.eval x.2)).toList = some cells' := by rw [Array.toList_map]; exact hf
      have hsmall : ¬ len * i.size > 2 ^ 24 := by rw [c1]; omega
      have hpos' : ¬ len * i.size = 0 := by rw [c1]; omega
      simp only [execOp, hop, Sem.run_bind, Sem.run_pure]
      simp [Instr.buildSlice, run_underlying he, sizeOf, typeInfo, zeroValue, hi, hz, hsmall, hpos', newRow]
      have hf' := hf
      dsimp only [zc] at hf'
      rw [hf']
      simp [newObj]; rfl
    have hcs : cs.length = len * sz := by rw [hcl ho, hflen]
    have hcells : cells'.size = len * sz := by rw [← hr'.1, hcs]
    have hR := h.new (.cells cells' e (0, 0)) none (some (len * sz))
    have hE := Ext.new (w := w) h.fresh (.cells cells' e (0, 0)) none (some (len * sz))
    have p := hE.pres (fun _ _ h => h)
    have hlg : ∀ i', i' < len → litGet sz len zs cs i' = (cs.drop (i' * sz)).take sz := fun i' hi' => by simp [litGet, hi']
    refine wp_val hr (fin0 hl h hd H hk hR hE (fun d _ => .c (.c (.row _ _ _ w.heap.size 0 len (.row _ _ _ _ _ _ (fun i' j => cells'.getD (i' * sz + j) undef) (Nat.le_refl _) (.inr fun n hn => ?_) (fun i' hi' => ?_) (fun i' j hi' hj => ?_) (fun i' j b hi' hb => ?_)) (.inl rfl)))))
    · simp [Gh.new] at hn; omega
    · rw [hlg i' hi', List.length_take, List.length_drop, hcs]
      have h2 : i' * sz + sz ≤ len * sz := by rw [← Nat.succ_mul]; exact Nat.mul_le_mul_right _ hi'
      omega
    · have h2 : i' * sz + sz ≤ len * sz := by rw [← Nat.succ_mul]; exact Nat.mul_le_mul_right _ hi'
      rw [Nat.zero_add, World.cell?_alloc_new, Array.getD_eq_getD_getElem?, Array.getElem?_eq_getElem (by omega)]; rfl
    · have h2 : i' * sz + sz ≤ len * sz := by rw [← Nat.succ_mul]; exact Nat.mul_le_mul_right _ hi'
      rw [hlg i' hi'] at hb
      have hjs : j < sz := by have := lt_of_getq hb; rw [List.length_take] at this; omega
      rw [List.getElem?_take_of_lt hjs, List.getElem?_drop] at hb
      have hlt : i' * sz + j < cells'.size := by omega
      have hv := hr'.2 (i' * sz + j) b cells'[i' * sz + j] hb (Array.getElem?_eq_getElem hlt) []
      rw [Array.getD_eq_getD_getElem?, Array.getElem?_eq_getElem hlt]
      have hflb := List.all_eq_true.1 hfl b (List.mem_of_getElem? hb)
      have key : ∀ {b : AV} {v : Value}, b.flat = true → Vc g w [] b v → V0 g w b v := by
        intro b v hfb hv
        cases hv with
        | of0 h => exact h
        | nil => cases hfb
        | row => cases hfb
        | _ => cases hfb
      exact (key hflb hv).mono p.toPresC
theorem op_ext (hl : LayOk f) (h : Rel f g w l a.tmps) (hd : DstOk f o.dst) {x : Operand} {ix : IA} {i : Nat} {tk : Bool} (hop : o.op = .extract x i) (hx : chkA f x ix = true) (hdst : tk = true → o.dst.isSome = true)
    {vs : List AV} {v : AV} (hrx : rd l ix = .tup vs) (hvi : vs[i]? = some v) (hk : cond (tkS tk ix) (k v [.tup (vs.set i v.strip)]) (k v.strip []) = some r) (H : Fin f g w l a o.dst (exwx tk ix) k r K) : o.wp P a w K Q := by
  obtain ⟨L1, hv1, hs1⟩ := rd_ok h hx
  rw [hrx] at hv1
  obtain ⟨us, hu, hlu, hall⟩ := hv1.tup_inv
  have hi : i < us.length := by rw [← hlu]; exact lt_of_getq hvi
  have hr : (execOp a.eval o).run P w = .ok (.value us[i]) w := by
    simp [execOp, hop, hu, Instr.extract, hi]
  have hvu := hall i v us[i] hvi (List.getElem?_eq_getElem hi)
  refine wp_val hr ?_
  cases htk : tkS tk ix with
  | false =>
    rw [htk] at hk
    exact fin0 hl h hd H hk h (Ext.refl _ _) (fun d _ => V3.strip [d] (.c hvu))
  | true =>
    rw [htk] at hk
    obtain ⟨rfl, s, rfl⟩ := tkS_true htk
    obtain ⟨hs, rfl, rfl⟩ := hs1 s rfl
    obtain ⟨d, hdd⟩ := Option.isSome_iff_exists.1 (hdst rfl)
    have hsl : s < l.length := by rw [h.len]; exact Nat.lt_of_lt_of_le hs hl.nt
    have hse : v.strip = v.c2 := by
      have : ∀ {b : AV} {u : Value}, V2 g w ([s] ++ [i]) b u → b.strip = b.c2 := by
        intro b u hb
        cases b <;> first | rfl | (cases hb with
          | c hb => cases hb with
            | of0 h0 => cases h0)
      exact this hvu
    -- the tuple's component without leave
    have hev : a.tmps.getD s undef = .tuple us.toArray := hu
    have hstrip : V3 g w [s] (.tup (vs.set i v.strip)) (a.tmps.getD s undef) := by
      rw [hev]
      refine .tup _ us (by simpa using hlu) fun j b x hb hx => ?_
      rw [List.getElem?_set] at hb
      split at hb
      · rename_i e; subst e
        split at hb
        · cases hb; rw [hse]; rw [List.getElem?_eq_getElem hi] at hx; cases hx; exact hvu.c2 _
        · cases hb
      · exact hall j b x hb hx
    have hR1 := h.setA hl hs hstrip
    let ρ : List Nat → List Nat := fun L => match L with
      | r :: j :: p => if r = s ∧ j = i then d :: p else r :: j :: p
      | L => L
    by_cases hsd : s = d
    · -- the tuple's own slot is written anew
      subst hsd
      have hR2 := hR1.take hl (hd s hdd) (ρ := ρ) (a := v) (u := us[i]) (fun r hr hin p => by
        cases p with
        | nil => rfl
        | cons j p => show (if _ then _ else _) = _; rw [if_neg (fun e => hr e.1)]) (.c (hvu.move (Pres.ren _ _ _) (OwnSame.ren _ _ (fun p => by simp [ρ]))))
      refine H _ _ _ _ w hk ?_ (Ext.ren g w ρ)
      rw [show exwx true (.s s) = [s] from rfl, setMany_one, hdd]; exact hR2
    · have hd0 := hR1.setA hl (hd d hdd) (a := .dead) (.dead _)
      have hdl : d < l.length := by rw [h.len]; exact Nat.lt_of_lt_of_le (hd d hdd) hl.nt
      -- other components keep theirs
      have hρs : ∀ j p, j ≠ i → ρ (s :: j :: p) = s :: j :: p := fun j p hj => by show (if _ then _ else _) = _; rw [if_neg (fun e => hj e.2)]
      have hslot : V3 (g.ren ρ) w [s] (.tup (vs.set i v.strip)) (a.tmps.getD s undef) := by
        rw [hev]
        refine .tup _ us (by simpa using hlu) fun j b x hb hx => ?_
        rw [List.getElem?_set] at hb
        split at hb
        · rename_i e; subst e
          split at hb
          · cases hb; rw [hse]; rw [List.getElem?_eq_getElem hi] at hx; cases hx; exact hvu.moveC (Pres.ren _ _ _) _
          · cases hb
        · rename_i e
          refine (hall j b x hb hx).move (Pres.ren _ _ _) (OwnSame.ren _ _ fun p => ?_)
          show ρ (s :: j :: p) = s :: j :: p
          exact hρs j p (fun e' => e e'.symm)
      -- first all but s, then s again
      have hdeadS := h.setA hl hs (a := .dead) (.dead _)
      have hR2 := hdeadS.take hl (hd d hdd) (ρ := ρ) (a := v) (u := us[i]) (fun r hr hin p => by
        cases p with
        | nil => rfl
        | cons j p =>
          by_cases e : r = s
          · subst e; rw [getD_set_eq _ _ hsl] at hin; exact absurd rfl hin
          · show (if _ then _ else _) = _; rw [if_neg (fun x => e x.1)]) (.c (hvu.move (Pres.ren _ _ _) (OwnSame.ren _ _ (fun p => by simp [ρ]))))
      have htm : (a.tmps.setIfInBounds d us[i]).getD s undef = a.tmps.getD s undef := by rw [tm_set, if_neg (fun e => hsd e.1.symm)]
      have hR3 := hR2.setA hl hs (a := .tup (vs.set i v.strip)) (by rw [htm]; exact hslot)
      refine H _ _ _ _ w hk ?_ (Ext.ren g w ρ)
      rw [show exwx true (.s s) = [s] from rfl, setMany_one, hdd]
      have e : (l.set s (.tup (vs.set i v.strip))).set d v = ((l.set s .dead).set d v).set s (.tup (vs.set i v.strip)) := by
        rw [List.set_comm _ _ (fun e => hsd e.symm), List.set_set, List.set_comm _ _ hsd]
      show Rel f (g.ren ρ) w ((l.set s (.tup (vs.set i v.strip))).set d v) _
      rw [e]; exact hR3
theorem ptrs_ok {vs : List AV} {caps : List (Nat × Nat)} (h : ptrs vs = some caps) : vs = caps.map fun x => .ptr x.1 x.2 := by
  induction vs generalizing caps with
  | nil => simp [ptrs] at h; subst h; rfl
  | cons v vs ih =>
    unfold ptrs at h
    split at h <;> try cases h
    · rename_i e; cases e
    · rename_i e
      cases e
      split at h <;> try cases h
      rename_i cs hcs
      simp [ih hcs]
theorem op_mkclo (hl : LayOk f) (h : Rel f g w l a.tmps) (hd : DstOk f o.dst) {fn : Nat} {xs : Array Operand} {ias : List IA} (hop : o.op = .makeFunc (.func fn) #[] xs) (hx : chkAs f xs.toList ias = true)
    {caps : List (Nat × Nat)} (hp : ptrs (ias.map (rd l)) = some caps) (hk : k (.clo fn caps) [] = some r) (H : Fin f g w l a o.dst exw k r K) : o.wp P a w K Q := by
  have he := ptrs_ok hp
  have hev : ∀ {ys : List Operand} {jas : List IA} {cs : List (Nat × Nat)}, chkAs f ys jas = true → jas.map (rd l) = cs.map (fun x => AV.ptr x.1 x.2) → ys.length = cs.length ∧
      ∀ (i h j : Nat) (v : Value), cs[i]? = some (h, j) → (ys.map a.eval)[i]? = some v → ∃ B, g.φ h = some B ∧ v = Value.pointer (some ⟨B, j, none⟩) := by
    intro ys
    induction ys with
    | nil =>
      intro jas cs hc he
      cases jas with
      | nil => cases cs with
        | nil => exact ⟨rfl, fun i h j v hi => by simp at hi⟩
        | cons c cs => simp at he
      | cons ja jas => simp [chkAs] at hc
    | cons y ys ih =>
      intro jas cs hc he
      cases jas with
      | nil => simp [chkAs] at hc
      | cons ja jas =>
        cases cs with
        | nil => simp at he
        | cons c cs =>
          simp only [chkAs, Bool.and_eq_true] at hc
          simp only [List.map_cons, List.cons.injEq] at he
          obtain ⟨h1, h2⟩ := ih hc.2 he.2
          obtain ⟨L, hv, _⟩ := rd_ok h hc.1
          rw [he.1] at hv
          obtain ⟨B, hB, hev⟩ := hv.ptr_inv
          refine ⟨by simp [h1], fun i b j v hi hv' => ?_⟩
          cases i with
          | zero => simp at hi hv'; subst hi; subst hv'; exact ⟨B, hB, hev⟩
          | succ i => exact h2 i b j v (by simpa using hi) (by simpa using hv')
  obtain ⟨h1, h2⟩ := hev hx he
  have hr : (execOp a.eval o).run P w = .ok (.value (.func (.func fn) #[] (xs.map a.eval))) w := by
    simp [execOp, hop, Instr.makeFunc]
  refine wp_val hr (fin0 hl h hd H hk h (Ext.refl _ _) (fun d _ => .c (.c ?_)))
  have := Vc.clo (g := g) (w := w) (L := [d]) fn caps (xs.toList.map a.eval) (by simpa using h1) h2
  have e : (xs.toList.map a.eval).toArray = xs.map a.eval := by apply Array.ext'; simp
  rwa [e] at this
theorem selK_ok {R : Type} {r : R} {i : Int} : ∀ {n j : Nat} {k : Nat → Option R}, selK i n j k = some r → ∃ m, j ≤ m ∧ m < j + n ∧ i = (m : Int) ∧ k m = some r
  | 0, _, _, h => by cases h
  | n + 1, j, k, h => by
    unfold selK at h
    by_cases c : i = (j : Int)
    · rw [decide_eq_true c] at h
      exact ⟨j, Nat.le_refl _, by omega, c, h⟩
    · rw [decide_eq_false c] at h
      obtain ⟨m, h1, h2, h3, h4⟩ := selK_ok (n := n) (j := j + 1) (k := k) h
      exact ⟨m, by omega, by omega, h3, h4⟩
theorem op_aidx (hl : LayOk f) (h : Rel f g w l a.tmps) (hd : DstOk f o.dst) {x y : Operand} {ix iy : IA} {s : TypeId} {n sz e : Nat} {ag : Bool} (hop : o.op = .index s x y) (hx : chkA f x ix = true) (hy : chkA f y iy = true)
    (hfs : P.underlying s = some (.array n e)) (ht : chkT P e ag sz = true) {cs : List AV} (hrx : rd l ix = .agg cs) {kd : IntKind} {j : Nat} (hry : rd l iy = .sc (.int kd (j : Int))) (hj : j < n) (hle : n * sz ≤ cs.length)
    (hk : k (mkv ag (((cs.drop (j * sz)).take sz).map AV.c1)) [] = some r) (H : Fin f g w l a o.dst exw k r K) : o.wp P a w K Q := by
  obtain ⟨L1, hv1, hs1⟩ := rd_ok h hx
  obtain ⟨L2, hv2, _⟩ := rd_ok h hy
  rw [hrx] at hv1
  rw [hry] at hv2
  obtain ⟨us, hu, hlu, hall⟩ := hv1.agg_inv
  obtain ⟨dd, i, t1, t2, t3, t4, t5⟩ := chkT_ok ht
  have hoff : j * sz + sz ≤ cs.length := by
    have := Nat.mul_le_mul_right sz (show j + 1 ≤ n by omega)
    rw [Nat.succ_mul] at this
    omega
  have hr : (execOp a.eval o).run P w = .ok (.value (mkval ag ((us.drop (j * sz)).take sz))) w := by
    simp only [execOp, hop, hu, hv2.sc_inv.1]
    cases ag with
    | true =>
      simp [Instr.index, asIntOf, run_underlying hfs, part, run_isAgg t1, t3, sizeOf, typeInfo, t2, t4, mkval, hj]
    | false =>
      have hn := t5 rfl
      subst hn
      have hlt : j < us.length := by omega
      simp [Instr.index, asIntOf, run_underlying hfs, part, run_isAgg t1, t3, sizeOf, typeInfo, t2, t4, mkval, hj, hlt]
      rw [List.drop_eq_getElem_cons hlt]; rfl
  refine wp_val hr (fin0 hl h hd H hk h (Ext.refl _ _) (fun d _ => mkv_ok (by simp; omega) (fun e => by simp; have := t5 e; subst this; omega) fun q b x hb hx => ?_))
  have hq : q < sz := by have := lt_of_getq hb; simp at this; omega
  rw [List.getElem?_map, List.getElem?_take_of_lt hq, List.getElem?_drop] at hb
  rw [List.getElem?_take_of_lt hq, List.getElem?_drop] at hx
  cases hc : cs[j * sz + q]? with
  | none => rw [hc] at hb; cases hb
  | some b' => rw [hc] at hb; cases hb; exact (hall _ b' x hc hx).c1 _
theorem op_fieldv (hl : LayOk f) (h : Rel f g w l a.tmps) (hd : DstOk f o.dst) {x : Operand} {ix : IA} {s : TypeId} {fd off n : Nat} {ag : Bool} (hop : o.op = .field s x fd) (hx : chkA f x ix = true)
    {fs : Array Field} (hfs : P.underlying s = some (.struct fs)) {fl : Field} (hfl : fs[fd]? = some fl) (hoff : fl.offset = off) (ht : chkT P fl.type ag n = true) {cs : List AV} (hrx : rd l ix = .agg cs) (hle : off + n ≤ cs.length)
    (hk : k (mkv ag (((cs.drop off).take n).map AV.c1)) [] = some r) (H : Fin f g w l a o.dst exw k r K) : o.wp P a w K Q := by
  obtain ⟨L1, hv1, hs1⟩ := rd_ok h hx
  rw [hrx] at hv1
  obtain ⟨us, hu, hlu, hall⟩ := hv1.agg_inv
  obtain ⟨dd, i, t1, t2, t3, t4, t5⟩ := chkT_ok ht
  have hr : (execOp a.eval o).run P w = .ok (.value (mkval ag ((us.drop off).take n))) w := by
    simp only [execOp, hop, hu]
    cases ag with
    | true =>
      simp [Instr.field, run_underlying hfs, hfl, part, run_isAgg t1, t3, sizeOf, typeInfo, t2, t4, asAgg, mkval, hoff]
    | false =>
      have hn := t5 rfl
      subst hn
      have hlt : off < us.length := by omega
      simp [Instr.field, run_underlying hfs, hfl, part, run_isAgg t1, t3, asAgg, mkval, hoff, hlt]
      rw [List.drop_eq_getElem_cons hlt]; rfl
  refine wp_val hr (fin0 hl h hd H hk h (Ext.refl _ _) (fun d _ => mkv_ok (by simp; omega) (fun e => by simp; have := t5 e; omega) fun j b x hb hx => ?_))
  have hj : j < n := by have := lt_of_getq hb; simp at this; omega
  rw [List.getElem?_map, List.getElem?_take_of_lt hj, List.getElem?_drop] at hb
  rw [List.getElem?_take_of_lt hj, List.getElem?_drop] at hx
  cases hc : cs[off + j]? with
  | none => rw [hc] at hb; cases hb
  | some b' => rw [hc] at hb; cases hb; exact (hall _ b' x hc hx).c1 _
end
end Go.Proofs.Ytafnmkbehjbkdaa.M
