/- A row grows. -/
import Derived.Test.YtafnmkbehjbkdaaMachG
set_option linter.unusedVariables false
set_option linter.unusedSimpArgs false
namespace Go.Proofs.Ytafnmkbehjbkdaa.M
open Go Go.RowKit
def flatVals (n sz : Nat) (val : Nat → Nat → Value) : List Value := (rng 0 (n * sz)).map fun t => val (t / sz) (t % sz)
theorem flat_len (n sz : Nat) (val : Nat → Nat → Value) : (flatVals n sz val).length = n * sz := len_map_rng _ _ _
theorem flat_at {n sz : Nat} {val : Nat → Nat → Value} {i j : Nat} (hi : i < n) (hj : j < sz) : (flatVals n sz val)[i * sz + j]? = some (val i j) := by
  have h2 : i * sz + sz ≤ n * sz := by rw [← Nat.succ_mul]; exact Nat.mul_le_mul_right _ hi
  unfold flatVals
  rw [get_map_rng _ (show i * sz + j < n * sz by omega), Nat.zero_add]
  have hs : 0 < sz := by omega
  rw [show (i * sz + j) / sz = i by rw [Nat.mul_comm, Nat.mul_add_div hs, Nat.div_eq_of_lt hj]; rfl, show (i * sz + j) % sz = j by rw [Nat.mul_comm, Nat.mul_add_mod, Nat.mod_eq_of_lt hj]]
theorem flat_inv {n sz : Nat} {val : Nat → Nat → Value} {t : Nat} {u : Value} (h : (flatVals n sz val)[t]? = some u) : t / sz < n ∧ t % sz < sz ∧ u = val (t / sz) (t % sz) ∧ t = t / sz * sz + t % sz := by
  have hlt : t < n * sz := by have := lt_of_getq h; rwa [flat_len] at this
  have hs : 0 < sz := by rcases Nat.eq_zero_or_pos sz with h0 | h0; · subst h0; omega
                         · exact h0
  have h1 : t / sz < n := (Nat.div_lt_iff_lt_mul hs).2 hlt
  have h2 := Nat.mod_lt t hs
  have h3 : t = t / sz * sz + t % sz := by rw [Nat.mul_comm]; exact (Nat.div_add_mod t sz).symm
  refine ⟨h1, h2, ?_, h3⟩
  rw [h3, flat_at h1 h2] at h
  exact (Option.some.inj h).symm
section
variable {P : Program} {w : World}
theorem run_append_none {t ty e : TypeId} {i : TypeInfo} (ht : P.underlying t = some (.slice e)) (hi : P.info? e = some i) {q : Option Addr} {n c : Nat} (hc : n ≤ c) {b : Option Addr} {c2 : Nat} :
    (Builtin.append_ #[t, t] ty #[.slice q n c, .slice b 0 c2]).run P w = .ok (.slice q n c) w := by
  cases q <;> cases b <;> simp [Builtin.append_, run_underlying ht, sizeOf, typeInfo, hi, Builtin.lenOf, Builtin.firstCells, loadCells, loadCellsFrom, hc, storeCells]
theorem run_append_room' {t ty e : TypeId} {i : TypeInfo} (ht : P.underlying t = some (.slice e)) (hi : P.info? e = some i)
    {g sLen sCap : Nat} {cur : Array Value} {te : TypeId} (hg : w.heap[g]? = some (.cells cur te (0, 0)))
    {a : Addr} {m c : Nat} {news : List Value} (hl : news.length = m * i.size) (hnews : ∀ j u, news[j]? = some u → w.cell? (a.add j) = some u) (h1 : ∀ u ∈ news, u.oneCell' = true)
    (hroom : sLen + m ≤ sCap) (hfit : sLen * i.size + news.length ≤ cur.size) :
    (Builtin.append_ #[t, t] ty #[.slice (some ⟨g, 0, none⟩) sLen sCap, .slice (some a) m c]).run P w =
      .ok (.slice (some ⟨g, 0, none⟩) (sLen + m) sCap) (w.setRow g (cur.toList.take (sLen * i.size) ++ news ++ cur.toList.drop (sLen * i.size + news.length)).toArray) := by
  have hf := run_firstCells_some (P := P) w i.size m a m c news hl hnews
  have hst := run_storeCells_at P g (sLen * i.size) te news 0 cur w hg (by simpa using hfit) h1
  simp only [Nat.add_zero] at hst
  simp [Builtin.append_, run_underlying ht, sizeOf, typeInfo, hi, Builtin.lenOf, hroom, hf, Addr.add_lit, hst]
end
def chkG (P : Program) (t : TypeId) (sz bytes : Nat) : Bool := match P.underlying t with
  | some (.slice e) => match P.info? e with
    | some i => match i.zero with
      | some z => Nat.beq i.size sz && Nat.beq i.bytes bytes && Nat.beq z.cells.size sz && Nat.ble 1 sz && Nat.ble 1 bytes
      | none => false
    | none => false
  | _ => false
theorem chkG_ok {P : Program} {t : TypeId} {sz bytes : Nat} (h : chkG P t sz bytes = true) : ∃ e i z, P.underlying t = some (.slice e) ∧ P.info? e = some i ∧ i.zero = some z ∧ i.size = sz ∧ i.bytes = bytes ∧ z.cells.size = sz ∧ 0 < sz ∧ 0 < bytes := by
  unfold chkG at h
  split at h <;> try cases h
  rename_i e he
  split at h <;> try cases h
  rename_i i hi
  split at h <;> try cases h
  rename_i z hz
  simp only [Bool.and_eq_true] at h
  exact ⟨e, i, z, he, hi, hz, nbeq h.1.1.1.1, nbeq h.1.1.1.2, nbeq h.1.1.2, nble h.1.2, nble h.2⟩
section
variable {P : Program} {f : IFn} {g : Gh} {w : World} {l : List AV} {a : Act} {K : Act → World → Prop} {Q : Exit → Act → World → Prop} {o : Oper} {R : Type} {r : R} {k : AV → List AV → Option R}
theorem V3.vals {L : List Nat} {ap : Bool} {sz n : Nat} {gt : Nat → List AV} {u : Value} (hv : V3 g w L (.row ap sz n gt) u) : ∃ (q : Option Addr) (c : Nat) (val : Nat → Nat → Value), u = .slice q n c ∧ n ≤ c ∧ (q = none → n = 0 ∧ c = 0) ∧
    (∀ i, i < n → (gt i).length = sz) ∧ (∀ (i j : Nat) (a : AV), i < n → (gt i)[j]? = some a → V0 g w a (val i j)) ∧
    (∀ i j, i < n → j < sz → ∃ ad, q = some ad ∧ w.cell? (ad.add (i * sz + j)) = some (val i j)) := by
  rcases hv.row_inv with ⟨rfl, p, h2⟩ | ⟨B, o', c, h2, hv0, _⟩
  · exact ⟨p, 0, fun _ _ => undef, h2, Nat.le_refl _, fun _ => ⟨rfl, rfl⟩, fun i hi => by omega, fun i j a hi _ => by omega, fun i j hi _ => by omega⟩
  · rw [h2] at hv0
    obtain ⟨_, h3, h4, h5, val, h6, h7⟩ := hv0.row_inv
    exact ⟨_, c, val, h2, h3, fun e => (by cases e), h5, h7, fun i j hi hj => ⟨_, rfl, by rw [Addr.add_lit]; have := h6 i j hi hj; rwa [Nat.add_assoc] at this⟩⟩
theorem op_app (hl : LayOk f) (h : Rel f g w l a.tmps) (hd : DstOk f o.dst) {x y : Operand} {ix iy : IA} {t : TypeId} {sz bytes : Nat} {tk : Bool} (hop : o.op = .call { callee := .builtin .append, args := #[x, y], argTypes := #[t, t] })
    (hx : chkA f x ix = true) (hy : chkA f y iy = true) (hg : chkG P t sz bytes = true) (hdst : o.dst.isSome = true) (htk : ∀ s, ix = .s s → tk = true) {n m : Nat} {ap : Bool} {g1 g2 : Nat → List AV} (hrx : rd l ix = .row true sz n g1) (hry : rd l iy = .row ap sz m g2)
    (hfit : (n + m) * bytes ≤ 140737488355328) (hk : cond (tkS tk ix) (k (.row true sz (n + m) (appGet n m g1 g2)) [.row false sz n g1]) (k (.row true sz (n + m) (appGet n m g1 g2)) []) = some r)
    (H : Fin f g w l a o.dst (exwx tk ix) k r K) : o.wp P a w K Q := by
  obtain ⟨e, inf, z, he, hi, hz, hsz, hby, hzs, hs0, hb0⟩ := chkG_ok hg
  obtain ⟨d, hdd⟩ := Option.isSome_iff_exists.1 hdst
  have hdn := hd d hdd
  obtain ⟨L1, hv1, hs1⟩ := rd_ok h hx
  obtain ⟨L2, hv2, _⟩ := rd_ok h hy
  rw [hrx] at hv1; rw [hry] at hv2
  obtain ⟨q1, c1, val1, hu1, hnc1, hq1, hlen1, hel1, hcell1⟩ := hv1.vals
  obtain ⟨q2, c2, val2, hu2, hnc2, hq2, hlen2, hel2, hcell2⟩ := hv2.vals
  have hnm : n + m ≤ 140737488355328 := Nat.le_trans (Nat.le_mul_of_pos_right _ hb0) hfit
  -- the source's slot, without leave
  have hsrc : ∃ l1, Rel f g w l1 a.tmps ∧ (∀ s, ix = .s s → l1 = l.set s (.row false sz n g1)) ∧ ((∀ s, ix ≠ .s s) → l1 = l) := by
    cases ix with
    | s s =>
      obtain ⟨hs, rfl, rfl⟩ := hs1 s rfl
      refine ⟨_, h.setA hl hs (a := .row false sz n g1) ?_, fun s' e => by cases e; rfl, fun hh => absurd rfl (hh s)⟩
      have := (h.slots s hs).strip [s]
      simp only [rd] at hrx
      rw [hrx] at this; exact this
    | k v => exact ⟨l, h, (fun s e => by cases e), fun _ => rfl⟩
  obtain ⟨l1, hR1, hl1, hl1'⟩ := hsrc
  -- the end
  have fin : ∀ {u : Value} {w' : World} {g' : Gh}, (execOp a.eval o).run P w = .ok (.value u) w' → Rel f g' w' (l1.set d (.row true sz (n + m) (appGet n m g1 g2))) (a.tmps.setIfInBounds d u) → Ext g w g' w' → o.wp P a w K Q := fun {u w' g'} hr hR he => by
    refine wp_val hr ?_
    cases ix with
    | s s =>
      have htk' : tkS tk (.s s) = true := htk s rfl
      rw [htk'] at hk
      refine H _ _ u g' w' hk ?_ he
      rw [htk s rfl, show exwx true (.s s) = [s] from rfl, setMany_one, hdd, ← hl1 s rfl]
      exact hR
    | k v =>
      refine H _ _ u g' w' hk ?_ he
      rw [hl1' (fun s e => by cases e)] at hR
      rw [hdd]
      have : setMany l (exwx tk (.k v)) [] = l := by cases tk <;> rfl
      rw [this]; exact hR
  have hargs : (execOp a.eval o).run P w = ((Builtin.append_ #[t, t] o.type #[.slice q1 n c1, .slice q2 m c2]).run P w).andThen fun v w' => .ok (.value v) w' := by
    simp [execOp, hop, resolve, invoke, builtin, hu1, hu2]
  have hg1 : ∀ i, i < n → appGet n m g1 g2 i = g1 i := fun i hi => by simp [appGet, hi]
  have hg2 : ∀ i, i < m → appGet n m g1 g2 (n + i) = g2 i := fun i hi => by simp [appGet, hi, show ¬ (n + i < n) by omega]
  by_cases hm0 : m = 0
  · -- nothing is appended
    subst hm0
    have hr : (execOp a.eval o).run P w = .ok (.value (.slice q1 n c1)) w := by rw [hargs, run_append_none he hi hnc1]; rfl
    cases ix with
    | s s =>
      obtain ⟨hs, rfl, rfl⟩ := hs1 s rfl
      have hl1e := hl1 s rfl
      have hsl : s < l.length := by rw [h.len]; exact Nat.lt_of_lt_of_le hs hl.nt
      refine fin hr (hR1.take hl hdn (ρ := fun L => match L with
        | r :: p => if r = s then d :: p else r :: p
        | [] => []) (fun r' hr' hin p => ?_) ?_) (Ext.ren g w _)
      · by_cases e : r' = s
        · subst e; rw [hl1e, getD_set_eq _ _ hsl] at hin; exact absurd rfl hin
        · simp [e]
      · rw [hu1] at hv1
        have hv1' := hv1.move (Pres.ren g w (fun L => match L with
        | r :: p => if r = s then d :: p else r :: p
        | [] => [])) (L' := [d]) (OwnSame.ren _ _ (fun p => by simp))
        rcases hv1'.row_inv with ⟨rfl, p, h2⟩ | ⟨B, o', c, h2, hv0, ho⟩
        · rw [h2]; cases p with
          | none => exact .c (.c (.nil _ _))
          | some p => exact .c (.c (.zero p _ _))
        · cases h2
          refine .c (.c (.row _ _ _ B o' c1 ?_ (ho rfl)))
          exact hv0.sub (n' := n + 0) (lo := 0) (by omega) hnc1 (.inl (by omega)) _ (fun i hi => by rw [hg1 i hi, Nat.zero_add])
    | k v =>
      have hl1e := hl1' (fun s e => by cases e)
      subst hl1e
      have hconst : n = 0 ∧ q1 = none ∧ c1 = 0 := by
        cases x with
        | const cv =>
          simp only [rd] at hrx; subst hrx
          simp only [chkA] at hx
          simp only [Act.eval] at hu1
          unfold chkV at hx
          split at hx <;> try cases hx
          · rename_i e1 e2; cases e2
          · rename_i e1 e2; cases e2
          · rename_i e1 e2; cases e2
          · rename_i e2; cases e2; simp at hu1; exact ⟨rfl, hu1.1.symm, by omega⟩
          · rename_i e2; cases e2
          · rename_i e2; cases e2
        | tmp t => simp [chkA] at hx
        | global t => simp [chkA] at hx
        | func t => simp only [rd] at hrx; subst hrx; simp [chkA] at hx
      obtain ⟨rfl, rfl, rfl⟩ := hconst
      exact fin hr (h.setSlot hl hdn (.c (.c (.nil _ _)))) (Ext.refl _ _)
  · obtain ⟨ad2, hq2'⟩ : ∃ ad, q2 = some ad := by
      cases q2 with
      | none => exact absurd (hq2 rfl).1 hm0
      | some ad => exact ⟨ad, rfl⟩
    subst hq2'
    let olds := flatVals n sz val1
    let news := flatVals m sz val2
    have hol : olds.length = n * inf.size := by rw [hsz]; exact flat_len _ _ _
    have hnl : news.length = m * inf.size := by rw [hsz]; exact flat_len _ _ _
    have hnews : ∀ j u, news[j]? = some u → w.cell? (ad2.add j) = some u := fun j u hj => by
      obtain ⟨a1, a2, rfl, a4⟩ := flat_inv hj
      obtain ⟨ad, e1, e2⟩ := hcell2 _ _ a1 a2
      cases e1
      rw [← a4] at e2; exact e2
    have hone : ∀ u ∈ news, u.oneCell' = true := fun u hu => by
      obtain ⟨j, hj, rfl⟩ := List.mem_iff_getElem.1 hu
      obtain ⟨a1, a2, a3, a4⟩ := flat_inv (List.getElem?_eq_getElem hj)
      rw [a3]
      have hlt : j % sz < (g2 (j / sz)).length := by rw [hlen2 _ a1]; exact a2
      exact (hel2 _ _ _ a1 (List.getElem?_eq_getElem hlt)).one
    let val : Nat → Nat → Value := fun i j => if i < n then val1 i j else val2 (i - n) j
    have hall : ∀ i j, i < n + m → j < sz → (olds ++ news)[i * sz + j]? = some (val i j) := fun i j hi hj => by
      by_cases h1 : i < n
      · have h2 : i * sz + sz ≤ n * sz := by rw [← Nat.succ_mul]; exact Nat.mul_le_mul_right _ h1
        rw [List.getElem?_append_left (by show _ < (flatVals n sz val1).length; rw [flat_len]; omega), flat_at h1 hj]
        simp [val, h1]
      · have e1 : i * sz + j = n * sz + ((i - n) * sz + j) := by rw [Nat.sub_mul]; have : n * sz ≤ i * sz := Nat.mul_le_mul_right _ (by omega); omega
        rw [List.getElem?_append_right (by show (flatVals n sz val1).length ≤ _; rw [flat_len]; omega), show i * sz + j - olds.length = (i - n) * sz + j by show _ - (flatVals n sz val1).length = _; rw [flat_len]; omega, flat_at (by omega) hj]
        simp [val, h1]
    have hels : ∀ (i j : Nat) (b : AV), i < n + m → (appGet n m g1 g2 i)[j]? = some b → V0 g w b (val i j) := fun i j b hi hb => by
      by_cases h1 : i < n
      · rw [hg1 i h1] at hb; simp only [val, h1, if_true]; exact hel1 _ _ b h1 hb
      · have := hg2 (i - n) (by omega)
        rw [show n + (i - n) = i by omega] at this
        rw [this] at hb; simp only [val, h1, if_false]; exact hel2 _ _ b (by omega) hb
    have hlens : ∀ i, i < n + m → (appGet n m g1 g2 i).length = sz := fun i hi => by
      by_cases h1 : i < n
      · rw [hg1 i h1]; exact hlen1 i h1
      · have := hg2 (i - n) (by omega)
        rw [show n + (i - n) = i by omega] at this
        rw [this]; exact hlen2 _ (by omega)
    -- a new block
    have fresh : ∀ (cap : Nat), n + m ≤ cap → (execOp a.eval o).run P w = .ok (.value (.slice (some ⟨w.heap.size, 0, none⟩) (n + m) cap)) (w.drew.alloc (.cells (olds.toArray ++ news.toArray ++ Builtin.zeroCells z.cells (cap - (n + m))) e (0, 0))) → o.wp P a w K Q := fun cap hcap hr => by
      have hR3 := (hR1.drew).new (.cells (olds.toArray ++ news.toArray ++ Builtin.zeroCells z.cells (cap - (n + m))) e (0, 0)) (some (.row [d])) (some ((n + m) * sz))
      have e3 : Ext g w (g.new w.heap.size (some (.row [d])) (some ((n + m) * sz))) (w.drew.alloc (.cells (olds.toArray ++ news.toArray ++ Builtin.zeroCells z.cells (cap - (n + m))) e (0, 0))) := (Ext.drew g w).trans (Ext.new (w := w.drew) h.fresh _ _ _)
      have p3 := e3.pres (fun _ _ h => h)
      refine fin hr (hR3.setSlot hl hdn (.c (.c (.row _ _ _ w.heap.size 0 cap (.row _ _ _ _ _ _ val hcap (.inr fun x hx => ?_) hlens (fun i j hi' hj => ?_) (fun i j b hi' hb => (hels i j b hi' hb).mono p3.toPresC)) (.inr ⟨?_, rfl, ?_, _, e, heap_alloc_new w.drew _, ?_⟩))))) e3
      · simp [Gh.new] at hx; omega
      · have h1 := hall i j hi' hj
        have h2 : (w.drew.alloc (.cells (olds.toArray ++ news.toArray ++ Builtin.zeroCells z.cells (cap - (n + m))) e (0, 0))).cell? ⟨w.heap.size, 0 + i * sz + j, none⟩ = (olds.toArray ++ news.toArray ++ Builtin.zeroCells z.cells (cap - (n + m)))[0 + i * sz + j]? := World.cell?_alloc_new w.drew _ e _
        rw [h2, Nat.zero_add, Array.getElem?_append_left, ← h1]
        · simp
        · have := lt_of_getq h1; simpa using this
      · simp [Gh.new]
      · simp [Gh.new]
      · simp only [Array.size_append, List.size_toArray, size_zeroCells, hzs, hol, hnl, hsz, ← Nat.add_mul]
        rw [show n + m + (cap - (n + m)) = cap by omega]; exact Nat.le_refl _
    cases q1 with
    | none =>
      obtain ⟨rfl, rfl⟩ := hq1 rfl
      have hr := run_append_nil (P := P) w t o.type e inf z he hi hz ad2 m c2 news hnl hnews (by omega) (by omega) (by rw [hby]; rw [Nat.zero_add] at hfit; omega)
      refine fresh (grownCap w (0 + m) 0 e) (grownCap_ge _ _ _ _) ?_
      rw [hargs, hr]
      simp [Result.andThen, olds, flatVals, rng]
    | some ad1 =>
      have holds : ∀ j v, olds[j]? = some v → w.cell? (ad1.add j) = some v := fun j u hj => by
        obtain ⟨a1, a2, rfl, a4⟩ := flat_inv hj
        obtain ⟨ad, e1, e2⟩ := hcell1 _ _ a1 a2
        cases e1
        rw [← a4] at e2; exact e2
      by_cases hroom : n + m ≤ c1
      · -- in place
        rcases hv1.row_inv with ⟨rfl, p, h2⟩ | ⟨B, o', c, h2, hv0, ho⟩
        · rw [hu1] at h2; cases h2; omega
        · rw [hu1] at h2; cases h2
          rcases ho rfl with hcn | ⟨h3, rfl, h5, cur, te, h6, h7⟩
          · omega
          · obtain ⟨s, rfl⟩ : ∃ s, ix = .s s := by
              cases ix with
              | s s => exact ⟨s, rfl⟩
              | k v =>
                exfalso
                cases x with
                | const cv =>
                  simp only [rd] at hrx; subst hrx
                  simp only [chkA] at hx
                  simp only [Act.eval] at hu1
                  subst hu1
                  simp [chkV] at hx
                | tmp t => simp [chkA] at hx
                | global t => simp [chkA] at hx
                | func t => simp only [rd] at hrx; subst hrx; simp [chkA] at hx
            obtain ⟨hs, rfl, rfl⟩ := hs1 s rfl
            have hl1e := hl1 s rfl
            have hsl : s < l.length := by rw [h.len]; exact Nat.lt_of_lt_of_le hs hl.nt
            have hfits : n * inf.size + news.length ≤ cur.size := by
              rw [hnl, hsz, ← Nat.add_mul]; exact Nat.le_trans (Nat.mul_le_mul_right _ hroom) h7
            have hrun := run_append_room' (P := P) (w := w) (ty := o.type) he hi h6 hnl hnews hone hroom hfits (c := c2)
            have hr : (execOp a.eval o).run P w = .ok (.value (.slice (some ⟨B, 0, none⟩) (n + m) c1)) (w.setRow B (cur.toList.take (n * inf.size) ++ news ++ cur.toList.drop (n * inf.size + news.length)).toArray) := by
              rw [hargs, hrun]; rfl
            let arr := (cur.toList.take (n * inf.size) ++ news ++ cur.toList.drop (n * inf.size + news.length)).toArray
            have harr : arr.size = cur.size := by simp [arr]; omega
            have hsame : ∀ j, j < n * sz → arr[j]? = cur[j]? := fun j hj => by
              simp only [arr, List.getElem?_toArray, List.append_assoc]
              rw [List.getElem?_append_left (by simp; rw [hsz]; rw [hnl, hsz, ] at hfits; omega), List.getElem?_take_of_lt (by rw [hsz]; exact hj), Array.getElem?_toList]
            have hnewc : ∀ j, j < m * sz → arr[n * sz + j]? = news[j]? := fun j hj => by
              simp only [arr, List.getElem?_toArray, List.append_assoc]
              rw [hsz, List.getElem?_append_right (by simp; omega)]
              have e0 : n * sz + j - (List.take (n * sz) cur.toList).length = j := by
                simp; rw [hsz] at hfits; omega
              rw [e0, List.getElem?_append_left (by rw [hnl, hsz]; exact hj)]
            obtain ⟨hR2, he2, p2, hfr2, hω2⟩ := hR1.grow (s := s) (q := []) (B := B) (e := n * sz) (e' := (n + m) * sz) h3 (by rw [hl1e, getD_set_eq _ _ hsl]; rfl) h6 h5 (Nat.mul_le_mul_right _ (by omega)) arr hsame
              (fun L => match L with
                | r :: p => if r = s then d :: p else r :: p
                | [] => []) (fun r' hin p => by
                by_cases e : r' = s
                · subst e; rw [hl1e, getD_set_eq _ _ hsl] at hin; exact absurd rfl hin
                · simp [e])
            refine fin hr (hR2.setSlot hl hdn (.c (.c (.row _ _ _ B 0 c1 (.row _ _ _ _ _ _ val hroom (.inr fun x hx => ?_) hlens (fun i j hi' hj => ?_) (fun i j b hi' hb => (hels i j b hi' hb).mono p2.toPresC)) (.inr ⟨?_, rfl, hfr2, arr, te, setRow_heap w B cur arr te (0, 0) h6, by rw [harr]; exact h7⟩))))) he2
            · rw [hfr2] at hx; cases hx; omega
            · rw [cell_of_row _ _ _ _ _ _ (setRow_heap w B cur arr te (0, 0) h6), Nat.zero_add]
              by_cases h1 : i < n
              · have h2 : i * sz + sz ≤ n * sz := by rw [← Nat.succ_mul]; exact Nat.mul_le_mul_right _ h1
                rw [hsame _ (by omega), ← cell_of_row _ _ _ _ _ _ h6]
                obtain ⟨ad, e1, e2⟩ := hcell1 i j h1 hj
                cases e1
                rw [Addr.add_lit, Nat.zero_add] at e2
                rw [e2]; simp [val, h1]
              · have e1 : i * sz + j = n * sz + ((i - n) * sz + j) := by rw [Nat.sub_mul]; have : n * sz ≤ i * sz := Nat.mul_le_mul_right _ (by omega); omega
                have h2 : (i - n) * sz + sz ≤ m * sz := by rw [← Nat.succ_mul]; exact Nat.mul_le_mul_right _ (by omega)
                rw [e1, hnewc _ (by omega), flat_at (by omega) hj]
                simp [val, h1]
            · rw [hω2]; simp
      · have hr := run_append_grow (P := P) w t o.type e inf z he hi hz ad1 n c1 olds hol holds ad2 m c2 news hnl hnews (by omega) (by omega) (growslice_fits (by omega) (by rw [hby]; exact hfit))
        refine fresh (grownCap w (n + m) c1 e) (grownCap_ge _ _ _ _) ?_
        rw [hargs, hr]; rfl
end
end Go.Proofs.Ytafnmkbehjbkdaa.M
