/- Bytes and strings. -/
import Derived.Test.YtafnmkbehjbkdaaMachIa
import Derived.Laws.Strings
set_option linter.unusedVariables false
set_option linter.unusedSimpArgs false
namespace Go.Proofs.Ytafnmkbehjbkdaa.M
open Go Go.RowKit
section
variable {P : Program} {f : IFn} {g : Gh} {w : World} {l : List AV} {a : Act} {K : Act → World → Prop} {Q : Exit → Act → World → Prop} {o : Oper} {R : Type} {r : R} {k : AV → List AV → Option R} {exw : List Nat}
theorem bytesL_ok {gt : Nat → List AV} : ∀ {n i : Nat} {L : List Int}, bytesL gt i n = some L → L.length = n ∧ ∀ j, j < n → gt (i + j) = [.sc (.int .u8 (L.getD j 0))]
  | 0, i, L, h => by cases h; exact ⟨rfl, fun j hj => by omega⟩
  | n + 1, i, L, h => by
    unfold bytesL at h
    split at h <;> try cases h
    rename_i b hb
    split at h <;> cases h
    rename_i L' h'
    obtain ⟨h1, h2⟩ := bytesL_ok h'
    refine ⟨by simp [h1], fun j hj => ?_⟩
    cases j with
    | zero => exact hb
    | succ j => rw [show i + (j + 1) = i + 1 + j by omega, h2 j (by omega)]; simp
theorem run_convert_bytes_zero {s e : TypeId} (hs : P.underlying s = some (.slice e)) (he : P.underlying e = some (.int .u8)) (p : Option Addr) {t : TypeId} (ht : P.underlying t = some .string) : (convert s t (.slice p 0 0)).run P w = .ok (.string ByteArray.empty) w := by
  rw [run_convert_bytes_string w s t e _ 0 0 hs he ht]
  cases p <;> simp [Conv.bytesToString, loadCells, loadCellsFrom]
theorem op_str (hl : LayOk f) (h : Rel f g w l a.tmps) (hd : DstOk f o.dst) {x : Operand} {ix : IA} {s t e : TypeId} (hop : o.op = .convert s t x) (hx : chkA f x ix = true) (hs : P.underlying s = some (.slice e)) (he : P.underlying e = some (.int .u8)) (ht : P.underlying t = some .string)
    {ap : Bool} {n : Nat} {gt : Nat → List AV} (hrx : rd l ix = .row ap 1 n gt) {L : List Int} (hL : bytesL gt 0 n = some L) (hk : k (.sc (.string (strOfNums L))) [] = some r) (H : Fin f g w l a o.dst exw k r K) : o.wp P a w K Q := by
  obtain ⟨L1, hv1, _⟩ := rd_ok h hx
  rw [hrx] at hv1
  obtain ⟨hl1, hl2⟩ := bytesL_ok hL
  have hr : (execOp a.eval o).run P w = .ok (.value (.string (strOfNums L))) w := by
    rcases hv1.row_inv with ⟨rfl, p, h2⟩ | ⟨B, o', c, h2, hv0, _⟩
    · have := run_convert_bytes_zero (P := P) (w := w) hs he p ht
      have e0 : L = [] := List.length_eq_zero_iff.1 hl1
      subst e0
      simp only [execOp, hop, h2, Sem.run_bind, this, Result.andThen_ok, Sem.run_pure]; rfl
    · rw [h2] at hv0
      obtain ⟨_, _, _, _, val, hcell, hel⟩ := hv0.row_inv
      have := run_convert_bytes_arg (P := P) w s e hs he B o' n c L hl1 (fun i hi => by
        have h3 := hel i 0 (.sc (.int .u8 (L.getD i 0))) hi (by have := hl2 i hi; rw [Nat.zero_add] at this; rw [this]; rfl)
        have h4 := hcell i 0 hi (by omega)
        rw [Nat.mul_one, Nat.add_zero] at h4
        rw [h4]
        generalize val i 0 = u at h3
        cases h3; rfl) t ht
      simp only [execOp, hop, h2, Sem.run_bind, this, Result.andThen_ok, Sem.run_pure]
  exact wp_val hr (fin0 hl h hd H hk h (Ext.refl _ _) (fun d _ => V3.sc rfl))
theorem op_eqt (hl : LayOk f) (h : Rel f g w l a.tmps) (hd : DstOk f o.dst) {x y : Operand} {ix iy : IA} {neg : Bool} {t ty : TypeId} (hop : o.op = .binOp (cond neg .neq .eql) t x y ty) (hx : chkA f x ix = true) (hy : chkA f y iy = true)
    (hk : eqtK neg (rd l ix) (rd l iy) (fun v => k v []) = some r) (H : Fin f g w l a o.dst exw k r K) : o.wp P a w K Q := by
  obtain ⟨L1, hv1, _⟩ := rd_ok h hx
  obtain ⟨L2, hv2, _⟩ := rd_ok h hy
  unfold eqtK at hk
  split at hk <;> try cases hk
  rename_i b1 b2 e1 e2
  rw [e1] at hv1; rw [e2] at hv2
  have hr : (execOp a.eval o).run P w = .ok (.value (.bool (cond neg (!(b1.data.toList == b2.data.toList)) (b1.data.toList == b2.data.toList)))) w := by
    rw [← ByteArray.toList_eq, ← ByteArray.toList_eq]
    cases neg with
    | true => simp only [cond_true] at hop ⊢; simp [execOp, hop, hv1.sc_inv.1, hv2.sc_inv.1, eqGuard_at_string, binOp_string_neq]
    | false => simp only [cond_false] at hop ⊢; simp [execOp, hop, hv1.sc_inv.1, hv2.sc_inv.1, eqGuard_at_string, binOp_string_eql]
  exact wp_val hr (fin0 hl h hd H hk h (Ext.refl _ _) (fun d _ => V3.sc rfl))
theorem op_ubs (hl : LayOk f) (h : Rel f g w l a.tmps) (hd : DstOk f o.dst) (hdst : o.dst.isSome = true) {t : TypeId} {len sz : Nat} {xs : Array (Nat × Operand)} {zs : List AV} {ps : List (Nat × Nat × IA)} (hop : o.op = .buildSlice t len xs) (hc : chkBS P f t len sz xs.toList zs ps = true)
    {cs : List AV} (ho : overlay (List.replicate len zs).flatten ps (ps.map fun x => rd l x.2.2) = some cs) (hfl : cs.all AV.flat = true) (h0 : 0 < len) (hk : k (.un none sz len (litGet sz len zs cs)) [] = some r) (H : Fin f g w l a o.dst exw k r K) : o.wp P a w K Q := by
  unfold chkBS at hc
  split at hc <;> try cases hc
  rename_i e he
  split at hc <;> try cases hc
  rename_i i hi
  split at hc <;> try cases hc
  rename_i z hz
  simp only [Bool.and_eq_true] at hc
  obtain ⟨⟨⟨⟨⟨c1, c2⟩, c3⟩, c4⟩, c5⟩, c6⟩ := hc
  have c1 := nbeq c1; have c2 := nble c2; have c3 := nble c3; have c4 := nbeq c4
  obtain ⟨hlen, hall⟩ := chkVL_ok c5
  have hzs : zs.length = sz := by rw [← hlen]; simpa using c4
  have hcl : ∀ {as : List AV} {qs : List (Nat × Nat × IA)} {vs bs : List AV}, overlay as qs vs = some bs → bs.length = as.length := by
    intro as qs
    induction qs generalizing as with
    | nil => intro vs bs h; cases vs <;> simp [overlay] at h; rw [h]
    | cons q qs ih =>
      intro vs bs h
      obtain ⟨off, n, ia⟩ := q
      cases vs with
      | nil => simp [overlay] at h
      | cons v vs =>
        simp only [overlay] at h
        split at h
        · rename_i cs' hcs'
          obtain ⟨hcond, h⟩ := cond_some h
          simp only [Bool.and_eq_true] at hcond
          have e3 := nbeq hcond.1.1; have e4 := nble hcond.1.2
          rw [ih h, splice_len _ _ _ (by simp; omega)]
        · cases h
  obtain ⟨d, hdd⟩ := Option.isSome_iff_exists.1 hdst
  have hpos : 0 < len * sz := Nat.mul_pos h0 c2
  let zc := (Array.range (len * i.size)).map (z.cells[· % z.cells.size]!)
  have hzc : ∀ t, t < len * sz → zc[t]? = z.cells[t % sz]? := fun t ht => by
    have hm : t % sz < z.cells.size := by rw [c4]; exact Nat.mod_lt _ c2
    simp only [zc, Array.getElem?_map, c1]
    rw [show (Array.range (len * sz))[t]? = some t by simp [Array.getElem?_eq_getElem, ht]]
    simp only [Option.map_some, c4]
    rw [getElem!_pos z.cells _ (by rw [c4]; exact Nat.mod_lt _ c2), Array.getElem?_eq_getElem hm]
  have hflen : ((List.replicate len zs).flatten).length = len * sz := by simp [hzs]
  have hrp : Rp g w (List.replicate len zs).flatten zc := by
    refine ⟨by rw [hflen]; simp [zc, c1], fun j b v hb hv L => ?_⟩
    have hj : j < len * sz := by have := lt_of_getq hb; rwa [hflen] at this
    rw [rep_get len zs (by omega) j (by rw [hzs]; exact hj), hzs] at hb
    rw [hzc j hj] at hv
    exact chkV_ok (hall _ b v hb (by simpa using hv)) g w L
  obtain ⟨cells', hf, hr'⟩ := fill_ok h c6 ho hrp
  have hr : (execOp a.eval o).run P w = .ok (.value (.slice (some ⟨w.heap.size, 0, none⟩) len len)) (w.alloc (.cells cells' e)) := by
    have hb : Instr.fill (fun j => some (j * i.size, i.size)) zc (xs.map fun x => (x.1, a.eval x.2)).toList = some cells' := by rw [Array.toList_map]; exact hf
    have hsmall : ¬ len * i.size > 2 ^ 24 := by rw [c1]; omega
    have hpos' : ¬ len * i.size = 0 := by rw [c1]; omega
    simp only [execOp, hop, Sem.run_bind, Sem.run_pure]
    simp [Instr.buildSlice, run_underlying he, sizeOf, typeInfo, zeroValue, hi, hz, hsmall, hpos', newRow]
    have hf' := hf
    dsimp only [zc] at hf'
    rw [hf']
    simp [newObj]; rfl
  have hcs : cs.length = len * sz := by rw [hcl ho, hflen]
  have hcells : cells'.size = len * sz := by rw [← hr'.1, hcs]
  have hR := h.new (.cells cells' e (0, 0)) (some (.row [d])) (some 0)
  have hE := Ext.new (w := w) h.fresh (.cells cells' e (0, 0)) (some (.row [d])) (some 0)
  have p := hE.pres (fun _ _ h => h)
  have hlg : ∀ i', i' < len → litGet sz len zs cs i' = (cs.drop (i' * sz)).take sz := fun i' hi' => by simp [litGet, hi']
  refine wp_val hr (fin0 hl h hd H hk hR hE (fun d' hd' => .c (.c (.un _ _ _ _ _ (.inr ⟨w.heap.size, len, cells', e, rfl, Nat.le_refl _, ?_, by simp [Gh.new], heap_alloc_new w _, by rw [hcells]; exact Nat.le_refl _, fun i' hi' => ?_, fun i' j b hi' hb => ?_, fun s hs => by cases hs⟩)))))
  · rw [hdd] at hd'; cases hd'; simp [Gh.new]
  · rw [hlg i' hi', List.length_take, List.length_drop, hcs]
    have h2 : i' * sz + sz ≤ len * sz := by rw [← Nat.succ_mul]; exact Nat.mul_le_mul_right _ hi'
    omega
  · have h2 : i' * sz + sz ≤ len * sz := by rw [← Nat.succ_mul]; exact Nat.mul_le_mul_right _ hi'
    rw [hlg i' hi'] at hb
    have hjs : j < sz := by have := lt_of_getq hb; rw [List.length_take] at this; omega
    rw [List.getElem?_take_of_lt hjs, List.getElem?_drop] at hb
    have hlt : i' * sz + j < cells'.size := by omega
    have hv := hr'.2 (i' * sz + j) b cells'[i' * sz + j] hb (Array.getElem?_eq_getElem hlt) []
    rw [Array.getD_eq_getD_getElem?, Array.getElem?_eq_getElem hlt]
    have hflb := List.all_eq_true.1 hfl b (List.mem_of_getElem? hb)
    have key : ∀ {b : AV} {v : Value}, b.flat = true → Vc g w [] b v → V0 g w b v := by
      intro b v hfb hv
      cases hv with
      | of0 h => exact h
      | nil => cases hfb
      | row => cases hfb
      | _ => cases hfb
    exact (key hflb hv).mono p.toPresC
theorem heap_freeze {w : World} {B n : Nat} {cs : Array Value} {ty : TypeId} (h : w.heap[B]? = some (.cells cs ty (0, 0))) : (w.freeze ⟨B, n, none⟩ 1).heap[B]? = some (.cells cs ty (n, n + 1)) ∧ (∀ B', B' ≠ B → (w.freeze ⟨B, n, none⟩ 1).heap[B']? = w.heap[B']?) ∧ (w.freeze ⟨B, n, none⟩ 1).heap.size = w.heap.size := by
  unfold World.freeze
  rw [if_neg (by decide)]
  refine ⟨?_, fun B' hB => ?_, by simp⟩
  · simp only [Array.getElem?_modify, h, if_true, Option.map_some]; rfl
  · have hB2 : ¬ B = B' := fun e => hB e.symm
    simp only [Array.getElem?_modify, if_neg hB2]
theorem op_uconv (hl : LayOk f) (h : Rel f g w l a.tmps) (hd : DstOk f o.dst) {x : Operand} {s : Nat} {t e : TypeId} (hop : o.op = .convert t t x) (hx : chkA f x (.s s) = true) (hdst : o.dst.isSome = true) (ht : P.underlying t = some (.slice e)) (he : P.underlying e = some (.int .u8))
    {sz n : Nat} {gt : Nat → List AV} (hn : 0 < n) (hrx : l.getD s .dead = .un none sz n gt) (hk : k (.row false sz n gt) [.dead] = some r) (H : Fin f g w l a o.dst [s] k r K) : o.wp P a w K Q := by
  obtain ⟨d, hdd⟩ := Option.isSome_iff_exists.1 hdst
  have hdn := hd d hdd
  obtain ⟨L1, hv1, hs1⟩ := rd_ok h hx
  obtain ⟨hs, rfl, rfl⟩ := hs1 s rfl
  have hv1 : V3 g w [s] (l.getD s .dead) _ := hv1
  rw [hrx] at hv1
  have hsl : s < l.length := by rw [h.len]; exact Nat.lt_of_lt_of_le hs hl.nt
  have hR1 := h.setA hl hs (a := .dead) (.dead _)
  rcases hv1.un_inv with ⟨rfl, _⟩ | ⟨B, c, cs, ty, h1, h2, h3, h4, h5, h6, h7, h8, _⟩
  · omega
  have hcell0 : ∀ (B' j : Nat), (w.freeze ⟨B, cs.size, none⟩ 1).cell? ⟨B', j, none⟩ = w.cell? ⟨B', j, none⟩ := fun B' j => by
    obtain ⟨q1, q2, _⟩ := heap_freeze (n := cs.size) h5
    by_cases e : B' = B
    · subst e; rw [cell_of_row _ _ _ _ _ _ q1, cell_of_row _ _ _ _ _ _ h5]
    · unfold World.cell?; rw [q2 B' e]
  have hsh : w.shape? B = some (ty, cs.size) := by unfold World.shape?; rw [h5]
  have hr : (execOp a.eval o).run P w = .ok (.value (a.eval (.tmp s))) (w.freeze ⟨B, cs.size, none⟩ 1) := by
    simp [execOp, hop, h1, convert, run_underlying ht, run_underlying he, markStringish, hsh, freeze]
    rfl
  have hsz : ∀ i j, i < n → j < sz → i * sz + j < cs.size := fun i j hi hj => by
    have := Nat.mul_le_mul_right sz (show i + 1 ≤ c by omega)
    rw [Nat.succ_mul] at this; omega
  obtain ⟨q1, q2, q3⟩ := heap_freeze (n := cs.size) h5
  let g1 : Gh := { g with ω := fun b => if b = B then none else g.ω b, fr := fun b => if b = B then some (n * sz) else g.fr b }
  have hBlt : B < w.heap.size := ω_lt h h3
  have e1 : Ext g w g1 (w.freeze ⟨B, cs.size, none⟩ 1) := by
    have hw : (w.freeze ⟨B, cs.size, none⟩ 1).os = w.os ∧ (w.freeze ⟨B, cs.size, none⟩ 1).tape = w.tape ∧ (w.freeze ⟨B, cs.size, none⟩ 1).output = w.output := by
      unfold World.freeze; rw [if_neg (by decide)]; exact ⟨rfl, rfl, rfl⟩
    refine ⟨hw.1, hw.2.1, hw.2.2, by rw [q3]; exact Nat.le_refl _, fun B' hB' ho => ?_, fun B' j hB' hj => hcell0 B' j, fun B' n' _ hn' => ?_, fun _ _ _ h => h, rfl, rfl⟩
    · have hne : B' ≠ B := fun e => by subst e; rw [h3] at ho; cases ho
      exact ⟨q2 B' hne, by simp [g1, hne, ho], by simp [g1, hne]⟩
    · by_cases hne : B' = B
      · subst hne; exact ⟨0, h4, by omega⟩
      · exact ⟨n', by simpa [g1, hne] using hn', Nat.le_refl _⟩
  have p : Pres g w g1 (w.freeze ⟨B, cs.size, none⟩ 1) := e1.pres fun _ _ h => h
  have hR2 : Rel f g1 (w.freeze ⟨B, cs.size, none⟩ 1) (l.set s .dead) a.tmps := hR1.move p rfl (fun r' hr' B' q' hq => by
      have hne : B' ≠ B := fun e => by
        subst e; rw [h3] at hq
        simp only [Option.some.injEq, Own.row.injEq, List.cons_append, List.nil_append, List.cons.injEq] at hq
        rw [← hq.1, getD_set_eq _ _ hsl] at hr'; exact hr' rfl
      exact ⟨by simp [g1, hne, hq], by simp [g1, hne], q2 B' hne⟩) (fun b B' _ ho => by
      have hne : B' ≠ B := fun e => by subst e; rw [h3] at ho; cases ho
      exact ⟨by simp [g1, hne, ho], by simp [g1, hne], q2 B' hne⟩) (fun B' hB' => by
      rw [q3] at hB'
      have hne : B' ≠ B := by omega
      exact ⟨by simp [g1, hne, (h.fresh B' hB').1], by simp [g1, hne, (h.fresh B' hB').2]⟩)
  refine wp_val hr (H _ _ _ g1 _ hk ?_ e1)
  rw [hdd]
  show Rel f g1 _ ((l.set s .dead).set d _) _
  refine hR2.setSlot hl hdn (.c (.c (.of0 ?_)))
  rw [h1]
  refine .row _ _ _ B 0 c (fun i j => cs.getD (i * sz + j) undef) h2 (.inr fun x hx => ?_) h7 (fun i j hi hj => ?_) (fun i j b hi hb => (h8 i j b hi hb).mono p.toPresC)
  · simp [g1] at hx; omega
  · rw [Nat.zero_add, hcell0, cell_of_row _ _ _ _ _ _ h5, getD_some (hsz i j hi hj)]
theorem fill_last {pl : Nat → Option (Nat × Nat)} {i off : Nat} {v : Value} (hp : pl i = some (off, 1)) (hv : v.cells = #[v]) : ∀ (vs : List (Nat × Value)) (cells cells' : Array Value), Instr.fill pl cells (vs ++ [(i, v)]) = some cells' → cells'[off]? = some v
  | [], cells, cells', h => by
    simp only [List.nil_append, Instr.fill, hp, hv] at h
    split at h
    · cases h
    · rename_i hc
      simp only [Option.some.injEq] at h
      subst h
      have hlt : off < cells.size := by simp at hc; omega
      simp [hlt]
  | (j, u) :: vs, cells, cells', h => by
    simp only [List.cons_append, Instr.fill] at h
    split at h
    · cases h
    · split at h
      · cases h
      · exact fill_last hp hv vs _ cells' h
theorem lastIs_cons (p q : Nat × Nat × IA) (ps : List (Nat × Nat × IA)) (off s : Nat) : lastIs (p :: q :: ps) off s = lastIs (q :: ps) off s := by
  obtain ⟨o, n, ia⟩ := p
  cases ia <;> rfl
theorem parts_last {f : IFn} {pl : Nat → Option (Nat × Nat)} {off s : Nat} : ∀ {xs : List (Nat × Operand)} {ps : List (Nat × Nat × IA)}, chkParts f pl xs ps = true → lastIs ps off s = true → ∃ xs0 i x, xs = xs0 ++ [(i, x)] ∧ pl i = some (off, 1) ∧ chkA f x (.s s) = true
  | [], [], _, h => by cases h
  | [], _ :: _, h, _ => by simp [chkParts] at h
  | _ :: _, [], h, _ => by simp [chkParts] at h
  | (i, x) :: xs, [(o, n, ia)], h, hl => by
    cases xs with
    | cons y ys => simp [chkParts] at h
    | nil =>
      simp only [chkParts, Bool.and_eq_true] at h
      cases ia with
      | k v => cases hl
      | s t =>
        simp only [lastIs, Bool.and_eq_true] at hl
        have e1 := nbeq hl.1.1; have e2 := nbeq hl.1.2; have e3 := nbeq hl.2
        subst e1; subst e2; subst e3
        refine ⟨[], i, x, rfl, ?_, h.2.1⟩
        cases hp : pl i with
        | none => rw [hp] at h; cases h.1
        | some q =>
          obtain ⟨o', n'⟩ := q
          rw [hp] at h
          simp only [Bool.and_eq_true] at h
          rw [nbeq h.1.1, nbeq h.1.2]
  | (i, x) :: xs, p :: q :: ps, h, hl => by
    obtain ⟨o, n, ia⟩ := p
    simp only [chkParts, Bool.and_eq_true] at h
    obtain ⟨xs0, i', x', e1, e2, e3⟩ := parts_last (ps := q :: ps) h.2.2 (by rw [lastIs_cons] at hl; exact hl)
    exact ⟨(i, x) :: xs0, i', x', by rw [e1]; rfl, e2, e3⟩
theorem lastA_is {l : List AV} {off s : Nat} : ∀ {ps : List (Nat × Nat × IA)}, lastIs ps off s = true → lastA (ps.map fun x => rd l x.2.2) = l.getD s .dead
  | [], h => by cases h
  | [(o, n, ia)], h => by
    cases ia with
    | k v => cases h
    | s t =>
      simp only [lastIs, Bool.and_eq_true] at h
      have := nbeq h.2
      subst this; rfl
  | p :: q :: ps, h => lastA_is (ps := q :: ps) (by rw [lastIs_cons] at h; exact h)
theorem noLv_c1 {b : AV} (h : noLv b = true) : Inert b ∨ ∀ (g : Gh) (w : World) (L : List Nat) (v : Value), Vc g w L b v → Inert b := by
  cases b with
  | row a sz n g => cases a with
    | false => exact .inl rfl
    | true => cases h
  | un => cases h
  | agg cs => exact .inr fun g w L v h => by cases h with | of0 h => cases h
  | tup cs => exact .inr fun g w L v h => by cases h with | of0 h => cases h
  | _ => exact .inl rfl
theorem op_buildl (hl : LayOk f) (h : Rel f g w l a.tmps) (hd : DstOk f o.dst) (hdst : o.dst.isSome = true) {t : TypeId} {xs : Array (Nat × Operand)} {zs : List AV} {ps : List (Nat × Nat × IA)} (hop : o.op = .build t xs) (hc : chkB P f t xs.toList zs ps = true)
    {off s : Nat} (hls : lastIs ps off s = true) {cs : List AV} (ho : overlay zs ps (ps.map fun x => rd l x.2.2) = some cs) {sz n : Nat} {gt : Nat → List AV} (hrs : l.getD s .dead = .row true sz n gt) (hoff : off < cs.length) (hno : (cs.set off .dead).all noLv = true)
    (hk : k (.agg (cs.set off (.row true sz n gt))) [.row false sz n gt] = some r) (H : Fin f g w l a o.dst [s] k r K) : o.wp P a w K Q := by
  obtain ⟨d, hdd⟩ := Option.isSome_iff_exists.1 hdst
  have hdn := hd d hdd
  unfold chkB at hc
  split at hc <;> try cases hc
  rename_i pl z hpl
  simp only [Bool.and_eq_true] at hc
  obtain ⟨hlen, hall⟩ := chkVL_ok hc.1
  have hrp : Rp g w zs z.cells := ⟨by simpa using hlen.symm, fun j b v hb hv L => chkV_ok (hall j b v hb (by simpa using hv)) g w L⟩
  obtain ⟨cells', hf, hr'⟩ := fill_ok h hc.2 ho hrp
  obtain ⟨xs0, i, x, e1, e2, e3⟩ := parts_last hc.2 hls
  obtain ⟨L1, hv1, hs1⟩ := rd_ok h e3
  obtain ⟨hs, rfl, rfl⟩ := hs1 s rfl
  have hv1 : V3 g w [s] (l.getD s .dead) _ := hv1
  rw [hrs] at hv1
  have hcv : (a.eval (.tmp s)).cells = #[a.eval (.tmp s)] := by
    rcases hv1.row_inv with ⟨_, _, h2⟩ | ⟨_, _, _, h2, _⟩ <;> rw [h2] <;> rfl
  have hlast : cells'[off]? = some (a.eval (.tmp s)) := by
    rw [e1, List.map_append] at hf
    exact fill_last e2 hcv _ _ _ hf
  have hr : (execOp a.eval o).run P w = .ok (.value (.agg cells')) w := by
    have hb : P.built t (xs.map fun x => (x.1, a.eval x.2)).toList = some cells' := by rw [plOf_built hpl, Array.toList_map]; exact hf
    have := run_build (P := P) w t (xs.map fun x => (x.1, a.eval x.2)) cells' hb
    simp only [execOp, hop, Sem.run_bind, Sem.run_pure]
    rw [this]; rfl
  have hsl : s < l.length := by rw [h.len]; exact Nat.lt_of_lt_of_le hs hl.nt
  have hR1 := h.setA hl hs (a := .row false sz n gt) (by have := (h.slots s hs).strip [s]; rw [hrs] at this; exact this)
  let ρ : List Nat → List Nat := fun L => match L with
    | r :: p => if r = s then d :: off :: p else r :: p
    | [] => []
  have hsv : V3 (g.ren ρ) w [d] (.agg (cs.set off (.row true sz n gt))) (.agg cells') := by
    have := V2.agg (g := g.ren ρ) (w := w) (L := [d]) (cs.set off (.row true sz n gt)) cells'.toList (by rw [List.length_set, hr'.1]; simp) (fun j b v hb hv => ?_)
    · exact .c (by simpa using this)
    · have hv' : cells'[j]? = some v := by simpa using hv
      by_cases hj : off = j
      · subst hj
        rw [List.getElem?_set_self hoff] at hb
        cases hb
        rw [hlast] at hv'; cases hv'
        exact (hv1.toVc (by simp) (by simp)).move (Pres.ren g w ρ) (OwnSame.ren _ _ (fun p => by simp [ρ]))
      · rw [List.getElem?_set_ne hj] at hb
        have hb2 : (cs.set off .dead)[j]? = some b := by rw [List.getElem?_set_ne hj]; exact hb
        have hnb := List.all_eq_true.1 hno b (List.mem_of_getElem? hb2)
        have hvc := hr'.2 j b v hb hv' []
        have hin : Inert b := (noLv_c1 hnb).elim id fun hh => hh _ _ _ _ hvc
        exact hvc.inert (Pres.ren g w ρ) _ hin
  refine wp_val hr (H _ _ _ (g.ren ρ) w hk ?_ (Ext.ren g w ρ))
  rw [hdd]
  show Rel f (g.ren ρ) w ((l.set s _).set d _) _
  refine hR1.take hl hdn (fun r' hr' hin p => ?_) hsv
  by_cases e : r' = s
  · subst e; rw [getD_set_eq _ _ hsl] at hin; exact absurd rfl hin
  · simp [ρ, e]
end
end Go.Proofs.Ytafnmkbehjbkdaa.M
