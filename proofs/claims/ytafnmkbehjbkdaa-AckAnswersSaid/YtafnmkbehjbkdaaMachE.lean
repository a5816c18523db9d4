/- Operations on variables in memory. -/
import Derived.Test.YtafnmkbehjbkdaaMachD
set_option linter.unusedVariables false
set_option linter.unusedSimpArgs false
namespace Go.Proofs.Ytafnmkbehjbkdaa.M
open Go Go.RowKit
theorem Vc.strip {g : Gh} {w : World} {L L' : List Nat} {a : AV} {v : Value} (h : Vc g w L a v) : Vc g w L' a.strip v := by
  have h1 := h.c1 L'
  cases a <;> first | exact h1 | (cases h <;> rename_i h0 <;> cases h0)
section
variable {f : IFn} {g : Gh} {w : World} {l : List AV} {tm : Array Value}
theorem Rel.weak (h : Rel f g w l tm) {l' : List AV} (hlen : l'.length = l.length) (hw : ∀ t, l'.getD t .dead = l.getD t .dead ∨ l'.getD t .dead = (l.getD t .dead).strip) : Rel f g w l' tm where
  len := hlen.trans h.len
  size := h.size
  slots t ht := by
    rcases hw t with e | e <;> rw [e]
    · exact h.slots t ht
    · exact (h.slots t ht).strip _
  boxes b n hb := by
    rcases h.boxes b n hb with ⟨h1, h2⟩ | ⟨h1, B, cs, ty, h2, h3, h4, h5, h6, h7⟩
    · refine .inl ⟨?_, h2⟩
      rcases hw b with e | e <;> rw [e, h1] <;> rfl
    · refine .inr ⟨?_, B, cs, ty, h2, h3, h4, h5, h6, fun j hj => ?_⟩
      · rcases hw b with e | e <;> rw [e, h1] <;> rfl
      · rcases hw (b + 1 + j) with e | e <;> rw [e]
        · exact h7 j hj
        · exact (h7 j hj).strip
  fresh := h.fresh
end
theorem setMany_set : ∀ (is : List Nat) (vs l : List AV) (s : Nat) (a : AV), s ∉ is → (setMany l is vs).set s a = setMany (l.set s a) is vs
  | [], vs, l, s, a, _ => by simp [setMany]
  | i :: is, [], l, s, a, _ => by simp [setMany]
  | i :: is, v :: vs, l, s, a, h => by
    simp only [List.mem_cons, not_or] at h
    simp only [setMany]
    rw [setMany_set is vs _ s a h.2, List.set_comm _ _ (fun e => h.1 e.symm)]
theorem setMany_one (l : List AV) (s : Nat) (a : AV) : setMany l [s] [a] = l.set s a := rfl
theorem rd_rng (l : List AV) (i n : Nat) : ((rng i n).map IA.s).map (rd l) = (rng i n).map fun t => l.getD t .dead := by
  rw [List.map_map]; rfl
theorem len_map_rng {α : Type} (fn : Nat → α) (i n : Nat) : ((rng i n).map fn).length = n := by rw [List.length_map, rng_len]
theorem get_map_rng {α : Type} (fn : Nat → α) {i n j : Nat} (h : j < n) : ((rng i n).map fn)[j]? = some (fn (i + j)) := by
  rw [List.getElem?_map, rng_get n i j h]; rfl
theorem lt_of_getq {α : Type} {l : List α} {j : Nat} {x : α} (h : l[j]? = some x) : j < l.length := (List.getElem?_eq_some_iff.1 h).1
def aggB : TypeDesc → Bool
  | .struct _ | .array _ _ => true
  | _ => false
def chkT (P : Program) (t : TypeId) (ag : Bool) (n : Nat) : Bool := match P.underlying t, P.info? t with
  | some d, some i => (aggB d == ag) && Nat.beq i.size n && (ag || Nat.beq n 1)
  | _, _ => false
def chkVL : List Value → List AV → Bool
  | [], [] => true
  | v :: vs, a :: as => chkV v a && chkVL vs as
  | _, _ => false
def chkZ (P : Program) (t : TypeId) (zs : List AV) : Bool := match P.info? t with
  | some i => match i.zero with
    | some z => chkVL z.cells.toList zs && Nat.beq i.size zs.length
    | none => false
  | none => false
def inLay (f : IFn) (h n : Nat) : Bool := f.lay.any fun x => Nat.beq x.1 h && Nat.beq x.2 n
def inLay1 (f : IFn) (h : Nat) : Bool := f.lay.any fun x => Nat.beq x.1 h
theorem inLay_ok {f : IFn} {h n : Nat} (hh : inLay f h n = true) : (h, n) ∈ f.lay := by
  unfold inLay at hh
  obtain ⟨⟨a, b⟩, h1, h2⟩ := List.any_eq_true.1 hh
  simp only [Bool.and_eq_true] at h2
  have e1 := nbeq h2.1; have e2 := nbeq h2.2; subst e1; subst e2; exact h1
theorem inLay1_ok {f : IFn} {h : Nat} (hh : inLay1 f h = true) : ∃ n, (h, n) ∈ f.lay := by
  unfold inLay1 at hh
  obtain ⟨⟨a, b⟩, h1, h2⟩ := List.any_eq_true.1 hh
  have e1 := nbeq h2; subst e1; exact ⟨b, h1⟩
theorem chkVL_ok : ∀ {vs : List Value} {as : List AV}, chkVL vs as = true → vs.length = as.length ∧ ∀ (j : Nat) (a : AV) (v : Value), as[j]? = some a → vs[j]? = some v → chkV v a = true
  | [], [], _ => ⟨rfl, fun j a v h => by simp at h⟩
  | [], _ :: _, h => by cases h
  | _ :: _, [], h => by cases h
  | v :: vs, a :: as, h => by
    simp only [chkVL, Bool.and_eq_true] at h
    obtain ⟨h1, h2⟩ := chkVL_ok h.2
    refine ⟨by simp [h1], fun j b u hb hu => ?_⟩
    cases j with
    | zero => simp at hb hu; subst hb; subst hu; exact h.1
    | succ j => exact h2 j b u (by simpa using hb) (by simpa using hu)
theorem chkT_ok {P : Program} {t : TypeId} {ag : Bool} {n : Nat} (h : chkT P t ag n = true) : ∃ d i, P.underlying t = some d ∧ P.info? t = some i ∧ aggB d = ag ∧ i.size = n ∧ (ag = false → n = 1) := by
  unfold chkT at h
  split at h
  · rename_i d i h1 h2
    simp only [Bool.and_eq_true, Bool.or_eq_true] at h
    refine ⟨d, i, h1, h2, eq_of_beq h.1.1, nbeq h.1.2, fun e => ?_⟩
    rcases h.2 with h3 | h3
    · rw [e] at h3; cases h3
    · exact nbeq h3
  · cases h
def mkval (ag : Bool) (us : List Value) : Value := match ag with
  | true => .agg us.toArray
  | false => us.headD undef
theorem mkv_ok {g : Gh} {w : World} {L : List Nat} {ag : Bool} {cs : List AV} {us : List Value} (hl : cs.length = us.length) (h1 : ag = false → cs.length = 1)
    (h : ∀ (j : Nat) (a : AV) (x : Value), cs[j]? = some a → us[j]? = some x → Vc g w (match ag with | true => L ++ [j] | false => L) a x) : V3 g w L (mkv ag cs) (mkval ag us) := by
  cases ag with
  | true => exact .c (.agg cs us hl fun i a v ha hv => h i a v ha hv)
  | false =>
    match cs, us, hl, h1 rfl with
    | [a], [u], _, _ => exact .c (.c (h 0 a u rfl rfl))
section
variable {P : Program} {w : World}
theorem run_isAgg {t : TypeId} {d : TypeDesc} (h : P.underlying t = some d) : (isAgg t).run P w = .ok (aggB d) w := by
  simp only [isAgg, Sem.run_bind, run_underlying h, Result.andThen_ok]
  cases d <;> rfl
theorem run_loadAt {t : TypeId} {ag : Bool} {n : Nat} (hc : chkT P t ag n = true) {B o : Nat} {us : List Value} (hl : us.length = n) (h : ∀ j v, us[j]? = some v → w.cell? ⟨B, o + j, none⟩ = some v) :
    (Instr.loadAt t (.pointer (some ⟨B, o, none⟩))).run P w = .ok (mkval ag us) w := by
  obtain ⟨d, i, h1, h2, h3, h4, h5⟩ := chkT_ok hc
  have hcells := run_loadCells_list (P := P) w ⟨B, o, none⟩ us (fun j v hv => by rw [Addr.add_lit]; exact h j v hv)
  cases ag with
  | true =>
    simp only [Instr.loadAt, Instr.sureAddr, loadVar, Sem.run_bind, Sem.run_pure, Result.andThen_ok, run_isAgg h1, h3]
    simp [sizeOf, typeInfo, h2, h4, ← hl, hcells, mkval]
  | false =>
    match us, hl, h5 rfl with
    | [u], _, _ =>
      have h0 := h 0 u rfl
      simp only [Instr.loadAt, Instr.sureAddr, loadVar, Sem.run_bind, Sem.run_pure, Result.andThen_ok, run_isAgg h1, h3]
      simp only [Nat.add_zero] at h0
      simp [h0, mkval]
    | [], hl, h5 => simp at hl; omega
    | _ :: _ :: _, hl, h5 => simp at hl; omega
theorem run_storeAt {t : TypeId} {ag : Bool} {n : Nat} (hc : chkT P t ag n = true) {B j : Nat} {arr : Array Value} {ty : TypeId} (hh : w.heap[B]? = some (.cells arr ty (0, 0))) {u : Value} {us : List Value} (hu : u.cells = us.toArray) (hl : us.length = n)
    (h1 : ∀ x ∈ us, x.oneCell' = true) (hj : j + n ≤ arr.size) :
    (Instr.storeAt t (.pointer (some ⟨B, j, none⟩)) u).run P w = .ok () (w.setRow B (arr.toList.take j ++ us ++ arr.toList.drop (j + us.length)).toArray) := by
  obtain ⟨d, i, h2, h3, h4, h5, h6⟩ := chkT_ok hc
  have hst := run_storeCells_at P B j ty us 0 arr w hh (by omega) h1
  simp only [Nat.add_zero] at hst
  simp [Instr.storeAt, Instr.sureAddr, storeVar, sizeOf, typeInfo, h3, h5, hu, hl, hst]
end
section
variable {P : Program} {f : IFn} {g : Gh} {w : World} {l : List AV} {a : Act} {K : Act → World → Prop} {Q : Exit → Act → World → Prop} {o : Oper} {R : Type} {r : R}
theorem op_alloc (hl : LayOk f) (h : Rel f g w l a.tmps) (hd : DstOk f o.dst) {t : TypeId} {b : Nat} {zs : List AV} (hop : o.op = .alloc t) (hz : chkZ P t zs = true) (hb : inLay f b zs.length = true)
    (hdead : l.getD b .dead = .dead) {k : AV → List AV → Option R} (hk : k (.ptr b 0) (.hdr zs.length :: zs) = some r) (H : Fin f g w l a o.dst (rng b (zs.length + 1)) k r K) : o.wp P a w K Q := by
  unfold chkZ at hz
  split at hz <;> try cases hz
  rename_i i hi
  split at hz <;> try cases hz
  rename_i z hzz
  simp only [Bool.and_eq_true] at hz
  obtain ⟨hlen, hall⟩ := chkVL_ok hz.1
  have hr : (execOp a.eval o).run P w = .ok (.value (.pointer (some ⟨w.heap.size, 0, none⟩))) (w.alloc (.cells z.cells t (0, 0))) := by
    simp [execOp, hop, Instr.alloc, zeroValue, typeInfo, hi, hzz, newVar, newRow]
  have hsz : z.cells.size = zs.length := by simpa using hlen
  obtain ⟨g', hR, hφ, he⟩ := h.alloc hl (inLay_ok hb) hdead zs z.cells t rfl hsz id (fun r _ _ p => rfl) (fun g' w' p own j hj => by
    have hj' : j < z.cells.toList.length := by rw [hlen]; exact hj
    have := chkV_ok (hall j zs[j] z.cells.toList[j] (List.getElem?_eq_getElem hj) (List.getElem?_eq_getElem hj')) g' w' [b + 1 + j]
    rw [List.getD_eq_getElem?_getD, List.getElem?_eq_getElem hj, Array.getD_eq_getD_getElem?]
    rw [Array.getElem_toList] at this
    rw [Array.getElem?_eq_getElem (by simpa using hj')]
    exact this)
  refine wp_val hr (H _ _ _ g' _ hk ?_ he)
  exact hR.put hl hd fun d _ => .c (.c (.ptr b 0 _ hφ))
theorem op_box (hl : LayOk f) (h : Rel f g w l a.tmps) (hd : DstOk f o.dst) {t : TypeId} {b n : Nat} {tk : Bool} {x : Operand} {ia : IA} (hop : o.op = .box t x) (hx : chkA f x ia = true) (hb : inLay f b n = true)
    (hdead : l.getD b .dead = .dead) {cs : List AV} (hc : (rd l ia).cells? = some cs) (hn : cs.length = n) (hs : cs.all AV.storable = true) {k : AV → List AV → Option R}
    (hk : atIA ia (cond tk (k (.ptr b 0) (.hdr n :: (cs ++ [(rd l ia).strip]))) (k (.ptr b 0) (.hdr n :: cs.map AV.c1))) (k (.ptr b 0) (.hdr n :: cs)) = some r) (H : Fin f g w l a o.dst (rng b (n + 1) ++ exwx tk ia) k r K) : o.wp P a w K Q := by
  obtain ⟨L, hv, hsl⟩ := rd_ok h hx
  obtain ⟨us, hu, hul, hone, hcell⟩ := hv.cells hc hs
  have hlay := inLay_ok hb
  have hw := hl.within b n hlay
  have hr : (execOp a.eval o).run P w = .ok (.value (.pointer (some ⟨w.heap.size, 0, none⟩))) (w.alloc (.cells us.toArray t (0, 0))) := by
    simp [execOp, hop, Instr.box, newVar, newRow, hu]
  have at_ : ∀ j, j < n → ∃ bb u, cs[j]? = some bb ∧ us[j]? = some u ∧ cs.getD j .dead = bb ∧ us.toArray.getD j undef = u := fun j hj => by
    have h1 : j < cs.length := by omega
    have h2 : j < us.length := by omega
    exact ⟨cs[j], us[j], List.getElem?_eq_getElem h1, List.getElem?_eq_getElem h2, by simp [List.getD_eq_getElem?_getD, h1], by simp [Array.getD_eq_getD_getElem?, h2]⟩
  refine wp_val hr ?_
  have plain : ∀ cs2 : List AV, cs2.length = n → (∀ {g' w'}, Pres g w g' w' → ∀ (L : List Nat) (j : Nat) (bb : AV) (u : Value), cs[j]? = some bb → us[j]? = some u → Vc g' w' L (cs2.getD j .dead) u) → k (.ptr b 0) (.hdr n :: cs2) = some r → exwx tk ia = [] →
      K (a.put o.dst (.pointer (some ⟨w.heap.size, 0, none⟩))) (w.alloc (.cells us.toArray t (0, 0))) := fun cs2 hn2 hc2 hk he0 => by
    obtain ⟨g', hR, hφ, he⟩ := h.alloc hl hlay hdead cs2 us.toArray t hn2 (by simp; omega) id (fun r _ _ p => rfl) (fun g' w' p own j hj => by
      obtain ⟨bb, u, h1, h2, h3, h4⟩ := at_ j hj
      rw [h4]
      exact hc2 p _ j bb u h1 h2)
    refine H _ _ _ g' _ hk ?_ he
    rw [he0, List.append_nil]
    exact hR.put hl hd fun d _ => .c (.c (.ptr b 0 _ hφ))
  have stripped : ∀ {g' : Gh} {w' : World}, Pres g w g' w' → ∀ (L : List Nat) (j : Nat) (bb : AV) (u : Value), cs[j]? = some bb → us[j]? = some u → Vc g' w' L ((cs.map AV.c1).getD j .dead) u := fun p L j bb u h1 h2 => by
    rw [List.getD_eq_getElem?_getD, List.getElem?_map, h1]
    exact (hcell j bb u h1 h2).moveC p _
  cases ia with
  | k v =>
    have ecs := k_cells hx hc
    subst ecs
    have hk' : k (.ptr b 0) (.hdr n :: [v]) = some r := hk
    refine plain [v] hn (fun {g' w'} p L j bb u h1 h2 => ?_) hk' (by cases tk <;> rfl)
    have hj : j = 0 := by have := lt_of_getq h1; simp at this; exact this
    subst hj
    have hu1 : u = a.eval x := by
      have hst : v.storable = true := by simpa using hs
      have h1c := (rd_k hx a g w []).one hst
      have e0 : (a.eval x).cells = #[a.eval x] := by
        generalize a.eval x = z at h1c
        cases z <;> first | rfl | cases h1c
      rw [e0] at hu
      have e : us = [a.eval x] := by simpa using (congrArg Array.toList hu).symm
      rw [e] at h2; simpa using h2.symm
    rw [hu1]
    exact rd_k hx a g' w' L
  | s s => cases tk with
   | true =>
    obtain ⟨hs1, rfl, rfl⟩ := hsl s rfl
    have hsl' : s < l.length := by rw [h.len]; exact Nat.lt_of_lt_of_le hs1 hl.nt
    have hR1 := h.setA hl hs1 ((h.slots s hs1).strip [s])
    simp only [rd] at hc hcell hv hk
    obtain ⟨g', hR, hφ, he⟩ := hR1.alloc hl hlay (by rw [getD_set_ne _ _ (by omega)]; exact hdead) cs us.toArray t hn (by simp; omega)
      (fun L => match L with
        | r :: p => if r = s then (match l.getD s .dead, p with
          | .agg _, j :: q => (b + 1 + j) :: q
          | .agg _, [] => [s]
          | _, p => (b + 1) :: p) else r :: p
        | [] => []) (fun r _ hi p => by
        by_cases e : r = s
        · subst e; rw [getD_set_eq _ _ hsl'] at hi; exact absurd (strip_strip _) hi
        · simp [e]) (fun g' w' p own j hj => by
        obtain ⟨bb, u, h1, h2, h3, h4⟩ := at_ j hj
        rw [h3, h4]
        refine (hcell j bb u h1 h2).move p (own _ _ fun q => ?_)
        cases hla : l.getD s .dead with
        | agg xs => simp [locC, hla]
        | _ =>
          have : n = 1 := by rw [← hn]; rw [hla] at hc; cases hc; try rfl
          have : j = 0 := by omega
          subst this
          simp [locC, hla])
    refine H _ _ _ g' _ hk ?_ he
    rw [show exwx true (.s s) = [s] from rfl, show AV.hdr n :: (cs ++ [(l.getD s .dead).strip]) = (AV.hdr n :: cs) ++ [(l.getD s .dead).strip] from rfl,
      setMany_append _ _ _ _ _ (by simp [rng_len, hn]), setMany_one, setMany_set _ _ _ _ _ (by rw [mem_rng]; omega)]
    exact hR.put hl hd fun d _ => .c (.c (.ptr b 0 _ hφ))
   | false => exact plain _ (by simpa using hn) stripped hk rfl
theorem box_at (h : Rel f g w l a.tmps) {b m : Nat} (hb : inLay1 f b = true) (hh : l.getD b .dead = .hdr m) : (b, m) ∈ f.lay ∧ ∃ B cs ty, g.φ b = some B ∧ w.heap[B]? = some (.cells cs ty (0, 0)) ∧ cs.size = m ∧
    ∀ j, j < m → Vc g w [b + 1 + j] (l.getD (b + 1 + j) .dead) (cs.getD j undef) := by
  obtain ⟨n, hn⟩ := inLay1_ok hb
  rcases h.boxes b n hn with ⟨h1, _⟩ | ⟨h1, B, cs, ty, h2, h3, h4, h5, h6, h7⟩
  · rw [hh] at h1; cases h1
  · rw [hh] at h1; cases h1; exact ⟨hn, B, cs, ty, h2, h3, h4, h7⟩
theorem op_load (hl : LayOk f) (h : Rel f g w l a.tmps) (hd : DstOk f o.dst) {t : TypeId} {b j n m : Nat} {ag tk : Bool} {x : Operand} {ad : Nat} (hop : o.op = .load t x) (hx : chkA f x (.s ad) = true) (hb : inLay1 f b = true)
    (ht : chkT P t ag n = true) (ha : l.getD ad .dead = .ptr b j) (hh : l.getD b .dead = .hdr m) (hj : j + n ≤ m) (hdst : tk = true → o.dst.isSome = true) {k : AV → List AV → Option R}
    (hk : cond tk (k (mkv ag ((rng (b + 1 + j) n).map fun t => l.getD t .dead)) (((rng (b + 1 + j) n).map fun t => l.getD t .dead).map AV.c1))
      (k (mkv ag (((rng (b + 1 + j) n).map fun t => l.getD t .dead).map AV.c1)) []) = some r)
    (H : Fin f g w l a o.dst (cond tk (rng (b + 1 + j) n) []) k r K) : o.wp P a w K Q := by
  obtain ⟨hlay, B, cs, ty, hφ, hheap, hsz, hcell⟩ := box_at h hb hh
  have hw := hl.within b m hlay
  obtain ⟨L, hv, _⟩ := rd_ok h hx
  simp only [rd, ha] at hv
  obtain ⟨B', hB', hev⟩ := hv.ptr_inv
  rw [hφ] at hB'; cases hB'
  have h1 : ag = false → n = 1 := (chkT_ok ht).choose_spec.choose_spec.2.2.2.2
  let us := (rng j n).map fun i => cs.getD i undef
  have hus : us.length = n := len_map_rng _ _ _
  have hus' : ∀ i, i < n → us[i]? = some (cs.getD (j + i) undef) := fun i hi => get_map_rng _ hi
  have hr : (execOp a.eval o).run P w = .ok (.value (mkval ag us)) w := by
    have := run_loadAt (P := P) (w := w) ht (B := B) (o := j) (us := us) hus (fun i v hi => by
      have hi' : i < n := by have := lt_of_getq hi; omega
      rw [hus' i hi'] at hi; cases hi
      rw [cell_of_row _ _ _ _ _ _ hheap, Array.getD_eq_getD_getElem?, Array.getElem?_eq_getElem (by omega)]; rfl)
    simp [execOp, hop, hev, this]
  refine wp_val hr ?_
  let as := (rng (b + 1 + j) n).map fun t => l.getD t .dead
  have has : as.length = n := len_map_rng _ _ _
  have has' : ∀ i, i < n → as[i]? = some (l.getD (b + 1 + j + i) .dead) := fun i hi => get_map_rng _ hi
  have hvc : ∀ i, i < n → Vc g w [b + 1 + j + i] (l.getD (b + 1 + j + i) .dead) (cs.getD (j + i) undef) := fun i hi => by
    have := hcell (j + i) (by omega)
    rwa [show b + 1 + (j + i) = b + 1 + j + i by omega] at this
  cases tk with
  | false =>
    refine fin0 hl h hd H hk h (Ext.refl _ _) (fun d _ => mkv_ok ?_ ?_ ?_)
    · rw [List.length_map]; exact has.trans hus.symm
    · intro e; rw [List.length_map]; exact has.trans (h1 e)
    · intro i a' x' hi hi'
      have hi0 : i < n := by have := lt_of_getq hi'; omega
      rw [hus' i hi0] at hi'; cases hi'
      rw [List.getElem?_map, has' i hi0] at hi; cases hi
      exact (hvc i hi0).c1 _
  | true =>
    obtain ⟨d, hdd⟩ := Option.isSome_iff_exists.1 (hdst rfl)
    have hlen : b + 1 + j + n ≤ l.length := by rw [h.len]; omega
    have hl1 : ∀ i, i < n → (setMany l (rng (b + 1 + j) n) (as.map AV.c1)).getD (b + 1 + j + i) .dead = (l.getD (b + 1 + j + i) .dead).c1 := fun i hi => by
      rw [setMany_rng n _ _ _ (by rw [List.length_map]; exact has) hi hlen, List.getD_eq_getElem?_getD, List.getElem?_map, has' i hi]; rfl
    have hin : ∀ i, i < n → (l.getD (b + 1 + j + i) .dead).c1 = (l.getD (b + 1 + j + i) .dead).strip := fun i hi => by
      have := hvc i hi
      generalize l.getD (b + 1 + j + i) .dead = z at this
      cases z <;> first | rfl | (cases this <;> rename_i h0 <;> cases h0)
    have hout : ∀ t, ¬ (b + 1 + j ≤ t ∧ t < b + 1 + j + n) → (setMany l (rng (b + 1 + j) n) (as.map AV.c1)).getD t .dead = l.getD t .dead := fun t ht => setMany_out _ _ _ (by rw [mem_rng]; omega)
    have hR1 := h.weak (l' := setMany l (rng (b + 1 + j) n) (as.map AV.c1)) (len_setMany _ _ _) (fun t => by
      by_cases ht : b + 1 + j ≤ t ∧ t < b + 1 + j + n
      · right
        have := hl1 (t - (b + 1 + j)) (by omega)
        have h2 := hin (t - (b + 1 + j)) (by omega)
        rw [show b + 1 + j + (t - (b + 1 + j)) = t by omega] at this h2
        rw [this, h2]
      · left; exact hout t ht)
    let ρ : List Nat → List Nat := fun L => match L with
      | r :: p => if b + 1 + j ≤ r ∧ r < b + 1 + j + n then (if ag = true then d :: (r - (b + 1 + j)) :: p else d :: p) else r :: p
      | [] => []
    have hR2 := hR1.take hl (hd d hdd) (ρ := ρ) (a := mkv ag as) (u := mkval ag us) (fun r hrd hi p => by
      by_cases e : b + 1 + j ≤ r ∧ r < b + 1 + j + n
      · exfalso
        have h1 := hl1 (r - (b + 1 + j)) (by omega)
        have h2 := hin (r - (b + 1 + j)) (by omega)
        rw [show b + 1 + j + (r - (b + 1 + j)) = r by omega] at h1 h2
        rw [h1, h2] at hi; exact hi (strip_strip _)
      · show (if _ then _ else _) = _; rw [if_neg e]) (mkv_ok (has.trans hus.symm) (fun e => has.trans (h1 e)) (fun i a' x' hi hi' => by
      have hi0 : i < n := by have := lt_of_getq hi'; omega
      rw [hus' i hi0] at hi'; cases hi'
      rw [has' i hi0] at hi; cases hi
      refine (hvc i hi0).move (Pres.ren _ _ _) (OwnSame.ren _ _ fun p => ?_)
      show (if _ then _ else _) = _
      rw [if_pos (by omega)]
      cases ag with
      | true => simp
      | false => simp))
    refine H _ _ _ _ w hk ?_ (Ext.ren g w ρ)
    rw [hdd]; exact hR2
theorem op_loade (hl : LayOk f) (h : Rel f g w l a.tmps) (hd : DstOk f o.dst) {t : TypeId} {n : Nat} {ag : Bool} {x : Operand} {ad : Nat} (hop : o.op = .load t x) (hx : chkA f x (.s ad) = true)
    (ht : chkT P t ag n = true) {cs : List AV} (ha : l.getD ad .dead = .elt cs) (hn : n ≤ cs.length) {k : AV → List AV → Option R} {exw : List Nat} (hk : k (mkv ag (cs.take n)) [] = some r) (H : Fin f g w l a o.dst exw k r K) : o.wp P a w K Q := by
  obtain ⟨L, hv, _⟩ := rd_ok h hx
  simp only [rd, ha] at hv
  have h1 : ag = false → n = 1 := (chkT_ok ht).choose_spec.choose_spec.2.2.2.2
  obtain ⟨v, hev⟩ : ∃ v, a.eval x = v := ⟨_, rfl⟩
  rw [hev] at hv
  cases hv.toVc (by simp) (by simp) with
  | of0 h0 => cases h0
  | elt cs B o' val hfz hcell hel =>
    let us := (rng 0 n).map val
    have hus : us.length = n := len_map_rng _ _ _
    have hus' : ∀ i, i < n → us[i]? = some (val i) := fun i hi => by have := get_map_rng val (i := 0) hi; rwa [Nat.zero_add] at this
    have hr : (execOp a.eval o).run P w = .ok (.value (mkval ag us)) w := by
      have := run_loadAt (P := P) (w := w) ht (B := B) (o := o') (us := us) hus (fun i v hi => by
        have hi' : i < n := by have := lt_of_getq hi; omega
        rw [hus' i hi'] at hi; cases hi
        exact hcell i (by omega))
      simp [execOp, hop, hev, this]
    refine wp_val hr (fin0 hl h hd H hk h (Ext.refl _ _) (fun d _ => mkv_ok ?_ ?_ ?_))
    · rw [List.length_take, hus]; omega
    · intro e; rw [List.length_take]; have := h1 e; omega
    · intro i a' x' hi hi'
      have hi0 : i < n := by have := lt_of_getq hi'; omega
      rw [hus' i hi0] at hi'; cases hi'
      rw [List.getElem?_take_of_lt hi0] at hi
      exact .of0 (hel i a' hi)
theorem op_store (hl : LayOk f) (h : Rel f g w l a.tmps) (hd : o.dst = none) {t : TypeId} {b j n m : Nat} {ag tk : Bool} {x y : Operand} {ad : Nat} {ia : IA} (hop : o.op = .store t x y) (hx : chkA f x (.s ad) = true) (hy : chkA f y ia = true) (hb : inLay1 f b = true)
    (ht : chkT P t ag n = true) (ha : l.getD ad .dead = .ptr b j) (hh : l.getD b .dead = .hdr m) (hj : j + n ≤ m) {cs : List AV} (hc : (rd l ia).cells? = some cs) (hn : cs.length = n) (hs : cs.all AV.storable = true) {k : AV → List AV → Option R}
    (hk : atIA ia (cond tk (k .dead (cs ++ [(rd l ia).strip])) (k .dead (cs.map AV.c1))) (k .dead cs) = some r)
    (H : Fin f g w l a o.dst (rng (b + 1 + j) n ++ exwx tk ia) k r K) : o.wp P a w K Q := by
  obtain ⟨hlay, B, arr, ty, hφ, hheap, hsz, hcell0⟩ := box_at h hb hh
  have hw := hl.within b m hlay
  obtain ⟨L0, hv0, _⟩ := rd_ok h hx
  simp only [rd, ha] at hv0
  obtain ⟨B', hB', hev⟩ := hv0.ptr_inv
  rw [hφ] at hB'; cases hB'
  obtain ⟨L, hv, hsl⟩ := rd_ok h hy
  obtain ⟨us, hu, hul, hone, hcell⟩ := hv.cells hc hs
  have hr : (execOp a.eval o).run P w = .ok .skip (w.setRow B (arr.toList.take j ++ us ++ arr.toList.drop (j + us.length)).toArray) := by
    have := run_storeAt (P := P) (w := w) ht hheap hu (by omega) hone (j := j) (by omega)
    simp [execOp, hop, hev, this]
  refine wp_skp hr ?_
  have hsz' : (arr.toList.take j ++ us ++ arr.toList.drop (j + us.length)).toArray.size = m := by simp; omega
  have hsame : ∀ i, i < m → ¬ (j ≤ i ∧ i < j + n) → (arr.toList.take j ++ us ++ arr.toList.drop (j + us.length)).toArray.getD i undef = arr.getD i undef := fun i hi hni => by
    simp only [Array.getD_eq_getD_getElem?, List.getElem?_toArray]
    by_cases h1 : i < j
    · rw [List.append_assoc, List.getElem?_append_left (by simp; omega), List.getElem?_take_of_lt h1, Array.getElem?_toList]
    · rw [List.getElem?_append_right (by simp; omega), List.getElem?_drop]
      congr 1
      rw [Array.getElem?_toList]
      congr 1
      simp; omega
  have hnew : ∀ i, i < n → ∃ bb u, cs[i]? = some bb ∧ us[i]? = some u ∧ cs.getD i .dead = bb ∧ (arr.toList.take j ++ us ++ arr.toList.drop (j + us.length)).toArray.getD (j + i) undef = u := fun i hi => by
    have h1 : i < cs.length := by omega
    have h2 : i < us.length := by omega
    refine ⟨cs[i], us[i], List.getElem?_eq_getElem h1, List.getElem?_eq_getElem h2, by simp [List.getD_eq_getElem?_getD, h1], ?_⟩
    simp only [Array.getD_eq_getD_getElem?, List.getElem?_toArray]
    rw [List.append_assoc, List.getElem?_append_right (by simp; omega), List.getElem?_append_left (by simp; omega)]
    have : j + i - (List.take j arr.toList).length = i := by simp; omega
    rw [this, List.getElem?_eq_getElem h2]; rfl
  have plain : ∀ cs2 : List AV, cs2.length = n → (∀ {g' w'}, Pres g w g' w' → ∀ (L : List Nat) (j : Nat) (bb : AV) (u : Value), cs[j]? = some bb → us[j]? = some u → Vc g' w' L (cs2.getD j .dead) u) → k .dead cs2 = some r → exwx tk ia = [] →
      K (a.put o.dst undef) (w.setRow B (arr.toList.take j ++ us ++ arr.toList.drop (j + us.length)).toArray) := fun cs2 hn2 hc2 hk he0 => by
    obtain ⟨g', hR, he⟩ := h.store hl hlay hh hφ hheap _ hsz' (j0 := j) (m := n) hj hsame cs2 hn2 id (fun r _ _ p => rfl) (fun g' w' p own i hi => by
      obtain ⟨bb, u, h1, h2, h3, h4⟩ := hnew i hi
      rw [h4]
      exact hc2 p _ i bb u h1 h2)
    refine H _ _ _ g' _ hk ?_ he
    rw [he0, List.append_nil, hd]
    exact hR
  have stripped : ∀ {g' : Gh} {w' : World}, Pres g w g' w' → ∀ (L : List Nat) (j : Nat) (bb : AV) (u : Value), cs[j]? = some bb → us[j]? = some u → Vc g' w' L ((cs.map AV.c1).getD j .dead) u := fun p L j bb u h1 h2 => by
    rw [List.getD_eq_getElem?_getD, List.getElem?_map, h1]
    exact (hcell j bb u h1 h2).moveC p _
  cases ia with
  | k v =>
    have ecs := k_cells hy hc
    subst ecs
    have hk' : k .dead [v] = some r := hk
    refine plain [v] hn (fun {g' w'} p L j bb u h1 h2 => ?_) hk' (by cases tk <;> rfl)
    have hj : j = 0 := by have := lt_of_getq h1; simp at this; exact this
    subst hj
    have hu1 : u = a.eval y := by
      have hst : v.storable = true := by simpa using hs
      have h1c := (rd_k hy a g w []).one hst
      have e0 : (a.eval y).cells = #[a.eval y] := by
        generalize a.eval y = z at h1c
        cases z <;> first | rfl | cases h1c
      rw [e0] at hu
      have e : us = [a.eval y] := by simpa using (congrArg Array.toList hu).symm
      rw [e] at h2; simpa using h2.symm
    rw [hu1]
    exact rd_k hy a g' w' L
  | s s => cases tk with
   | true =>
    obtain ⟨hs1, rfl, rfl⟩ := hsl s rfl
    have hsl' : s < l.length := by rw [h.len]; exact Nat.lt_of_lt_of_le hs1 hl.nt
    have hR1 := h.setA hl hs1 ((h.slots s hs1).strip [s])
    simp only [rd] at hc hcell hv hk
    obtain ⟨g', hR, he⟩ := hR1.store hl hlay (by rw [getD_set_ne _ _ (by omega)]; exact hh) hφ hheap _ hsz' (j0 := j) (m := n) hj hsame cs hn
      (fun L => match L with
        | r :: p => if r = s then (match l.getD s .dead, p with
          | .agg _, i :: q => (b + 1 + j + i) :: q
          | .agg _, [] => [s]
          | _, p => (b + 1 + j) :: p) else r :: p
        | [] => []) (fun r _ hi p => by
        by_cases e : r = s
        · subst e; rw [getD_set_eq _ _ hsl'] at hi; exact absurd (strip_strip _) hi
        · simp [e]) (fun g' w' p own i hi => by
        obtain ⟨bb, u, h1, h2, h3, h4⟩ := hnew i hi
        rw [h3, h4]
        refine (hcell i bb u h1 h2).move p (own _ _ fun q => ?_)
        cases hla : l.getD s .dead with
        | agg xs => simp [locC, hla]
        | _ =>
          have : n = 1 := by rw [← hn]; rw [hla] at hc; cases hc; try rfl
          have : i = 0 := by omega
          subst this
          simp [locC, hla])
    refine H _ _ _ g' _ hk ?_ he
    rw [show exwx true (.s s) = [s] from rfl, setMany_append _ _ _ _ _ (by simp [rng_len, hn]), setMany_one, setMany_set _ _ _ _ _ (by rw [mem_rng]; omega), hd]
    exact hR
   | false => exact plain _ (by simpa using hn) stripped hk rfl
end
end Go.Proofs.Ytafnmkbehjbkdaa.M
