/- A row that nobody else looks at: grown, looked at, written, frozen. -/
import Derived.Test.YtafnmkbehjbkdaaMachI
set_option linter.unusedVariables false
set_option linter.unusedSimpArgs false
namespace Go.Proofs.Ytafnmkbehjbkdaa.M
open Go Go.RowKit
section
variable {P : Program} {f : IFn} {g : Gh} {w : World} {l : List AV} {a : Act} {K : Act → World → Prop} {Q : Exit → Act → World → Prop} {o : Oper} {R : Type} {r : R} {k : AV → List AV → Option R} {exw : List Nat}
theorem row0_un {L : List Nat} {sz : Nat} {gt : Nat → List AV} {u : Value} (h : V3 g w L (.row true sz 0 gt) u) : Un g w L none sz 0 gt u := by
  rcases h.row_inv with ⟨_, p, h2⟩ | ⟨B, o', c, h2, hv0, ho⟩
  · exact .inl ⟨rfl, p, h2⟩
  · rcases ho rfl with hc | ⟨h3, h4, h5, cs, ty, h6, h7⟩
    · subst hc; exact .inl ⟨rfl, some ⟨B, o', none⟩, h2⟩
    · subst h4
      exact .inr ⟨B, c, cs, ty, h2, by omega, h3, by simpa using h5, h6, h7, fun i hi => by omega, fun i j a hi => by omega, fun s hs => by cases hs⟩
theorem Un.congr {L : List Nat} {k : Option Nat} {sz n : Nat} {gt gt' : Nat → List AV} {u : Value} (h : Un g w L k sz n gt u) (e : ∀ i, i < n → gt' i = gt i) : Un g w L k sz n gt' u := by
  rcases h with h | ⟨B, c, cs, ty, h1, h2, h3, h4, h5, h6, h7, h8, h9⟩
  · exact .inl h
  · exact .inr ⟨B, c, cs, ty, h1, h2, h3, h4, h5, h6, fun i hi => by rw [e i hi]; exact h7 i hi, fun i j a hi ha => by rw [e i hi] at ha; exact h8 i j a hi ha, h9⟩
theorem getD_some {cs : Array Value} {j : Nat} (h : j < cs.size) : cs[j]? = some (cs.getD j undef) := by
  rw [Array.getD_eq_getD_getElem?, Array.getElem?_eq_getElem h]; rfl
theorem op_uapp (hl : LayOk f) (h : Rel f g w l a.tmps) (hd : DstOk f o.dst) {x y : Operand} {iy : IA} {t : TypeId} {sz bytes s : Nat} (hop : o.op = .call { callee := .builtin .append, args := #[x, y], argTypes := #[t, t] })
    (hs : s < f.nt) (hy : chkA f y iy = true) (hg : chkG P t sz bytes = true) (hdst : o.dst.isSome = true) {n m : Nat} {ap : Bool} {g1 g2 : Nat → List AV} (hx : Un g w [s] none sz n g1 (a.eval x)) (hry : rd l iy = .row ap sz m g2)
    (hfit : (n + m) * bytes ≤ 140737488355328) (hk : k (.un none sz (n + m) (appGet n m g1 g2)) [.dead] = some r) (H : Fin f g w l a o.dst [s] k r K) : o.wp P a w K Q := by
  obtain ⟨e, inf, z, he, hi, hz, hsz, hby, hzs, hs0, hb0⟩ := chkG_ok hg
  obtain ⟨d, hdd⟩ := Option.isSome_iff_exists.1 hdst
  have hdn := hd d hdd
  obtain ⟨L2, hv2, _⟩ := rd_ok h hy
  rw [hry] at hv2
  obtain ⟨q2, c2, val2, hu2, hnc2, hq2, hlen2, hel2, hcell2⟩ := hv2.vals
  have hnm : n + m ≤ 140737488355328 := Nat.le_trans (Nat.le_mul_of_pos_right _ hb0) hfit
  have hsl : s < l.length := by rw [h.len]; exact Nat.lt_of_lt_of_le hs hl.nt
  have hR1 := h.setA hl hs (a := .dead) (.dead _)
  have fin : ∀ {u : Value} {w' : World} {g' : Gh}, (execOp a.eval o).run P w = .ok (.value u) w' → Rel f g' w' ((l.set s .dead).set d (.un none sz (n + m) (appGet n m g1 g2))) (a.tmps.setIfInBounds d u) → Ext g w g' w' → o.wp P a w K Q := fun {u w' g'} hr hR he => by
    refine wp_val hr (H _ _ u g' w' hk ?_ he)
    rw [hdd]
    show Rel f g' w' ((setMany l [s] [.dead]).set d _) _
    exact hR
  have hg1 : ∀ i, i < n → appGet n m g1 g2 i = g1 i := fun i hi => by simp [appGet, hi]
  have hg2 : ∀ i, i < m → appGet n m g1 g2 (n + i) = g2 i := fun i hi => by simp [appGet, hi, show ¬ (n + i < n) by omega]
  have hρ : ∀ r', ¬ Inert ((l.set s .dead).getD r' .dead) → ∀ p, (match (r' :: p : List Nat) with
      | r :: p => if r = s then d :: p else r :: p
      | [] => []) = r' :: p := fun r' hin p => by
    by_cases e : r' = s
    · subst e; rw [getD_set_eq _ _ hsl] at hin; exact absurd rfl hin
    · simp [e]
  obtain ⟨q1, c1, hu1, hnc1⟩ : ∃ q c, a.eval x = .slice q n c ∧ n ≤ c := by
    rcases hx with ⟨rfl, p, h2⟩ | ⟨B, c, cs, ty, h1, h2, _⟩
    · exact ⟨_, 0, h2, Nat.le_refl _⟩
    · exact ⟨_, c, h1, h2⟩
  have hargs : (execOp a.eval o).run P w = ((Builtin.append_ #[t, t] o.type #[.slice q1 n c1, .slice q2 m c2]).run P w).andThen fun v w' => .ok (.value v) w' := by
    simp [execOp, hop, resolve, invoke, builtin, hu1, hu2]
  by_cases hm0 : m = 0
  · subst hm0
    have hr : (execOp a.eval o).run P w = .ok (.value (.slice q1 n c1)) w := by rw [hargs, run_append_none he hi hnc1]; rfl
    refine fin hr (hR1.take hl hdn (ρ := fun L => match L with
        | r :: p => if r = s then d :: p else r :: p
        | [] => []) (fun r' hr' hin p => hρ r' hin p) ?_) (Ext.ren g w _)
    rw [hu1] at hx
    exact .c (.c (.un _ _ _ _ _ ((hx.move (Pres.ren g w _).toPresC (L' := [d]) (OwnSame.ren _ _ (fun p => by simp)) (fun s B hs => by cases hs)).congr hg1)))
  · obtain ⟨ad2, hq2'⟩ : ∃ ad, q2 = some ad := by
      cases q2 with
      | none => exact absurd (hq2 rfl).1 hm0
      | some ad => exact ⟨ad, rfl⟩
    subst hq2'
    let news := flatVals m sz val2
    have hnl : news.length = m * inf.size := by rw [hsz]; exact flat_len _ _ _
    have hnews : ∀ j u, news[j]? = some u → w.cell? (ad2.add j) = some u := fun j u hj => by
      obtain ⟨a1, a2, rfl, a4⟩ := flat_inv hj
      obtain ⟨ad, e1, e2⟩ := hcell2 _ _ a1 a2
      cases e1
      rw [← a4] at e2; exact e2
    have hone : ∀ u ∈ news, u.oneCell' = true := fun u hu => by
      obtain ⟨j, hj, rfl⟩ := List.mem_iff_getElem.1 hu
      obtain ⟨a1, a2, a3, a4⟩ := flat_inv (List.getElem?_eq_getElem hj)
      rw [a3]
      have hlt : j % sz < (g2 (j / sz)).length := by rw [hlen2 _ a1]; exact a2
      exact (hel2 _ _ _ a1 (List.getElem?_eq_getElem hlt)).one
    -- what the old elements are
    obtain ⟨val1, hlen1, hel1⟩ : ∃ val1 : Nat → Nat → Value, (∀ i, i < n → (g1 i).length = sz) ∧ (∀ (i j : Nat) (b : AV), i < n → (g1 i)[j]? = some b → V0 g w b (val1 i j)) ∧
        (∀ ad1, q1 = some ad1 → ∀ i j, i < n → j < sz → w.cell? (ad1.add (i * sz + j)) = some (val1 i j)) ∧ (∀ (B : Nat) (cs : Array Value) (ty : TypeId), q1 = some ⟨B, 0, none⟩ → w.heap[B]? = some (.cells cs ty (0, 0)) → c1 * sz ≤ cs.size → ∀ i j, i < n → j < sz → cs[i * sz + j]? = some (val1 i j)) := by
      rcases hx with ⟨rfl, p, h2⟩ | ⟨B, c, cs, ty, h1, h2, h3, h4, h5, h6, h7, h8, _⟩
      · exact ⟨fun _ _ => undef, fun i hi => by omega, fun i j b hi => by omega, fun _ _ i j hi => by omega, fun _ _ _ _ _ _ i j hi => by omega⟩
      · rw [hu1] at h1; cases h1
        have hin : ∀ i j, i < n → j < sz → i * sz + j < cs.size := fun i j hi hj => by
          have := Nat.mul_le_mul_right sz (show i + 1 ≤ c1 by omega)
          rw [Nat.succ_mul] at this; omega
        refine ⟨fun i j => cs.getD (i * sz + j) undef, h7, h8, fun ad1 e1 i j hi hj => ?_, fun B' cs' ty' e1 e2 _ i j hi hj => ?_⟩
        · cases e1
          rw [Addr.add_lit, Nat.zero_add, cell_of_row _ _ _ _ _ _ h5, getD_some (hin i j hi hj)]
        · cases e1; rw [h5] at e2; cases e2
          exact getD_some (hin i j hi hj)
    obtain ⟨hel1, hcell1, hcs1⟩ := hel1
    let olds := flatVals n sz val1
    have hol : olds.length = n * inf.size := by rw [hsz]; exact flat_len _ _ _
    let val : Nat → Nat → Value := fun i j => if i < n then val1 i j else val2 (i - n) j
    have hall : ∀ i j, i < n + m → j < sz → (olds ++ news)[i * sz + j]? = some (val i j) := fun i j hi hj => by
      by_cases h1 : i < n
      · have h2 : i * sz + sz ≤ n * sz := by rw [← Nat.succ_mul]; exact Nat.mul_le_mul_right _ h1
        rw [List.getElem?_append_left (by show _ < (flatVals n sz val1).length; rw [flat_len]; omega), flat_at h1 hj]
        simp [val, h1]
      · have e1 : i * sz + j = n * sz + ((i - n) * sz + j) := by rw [Nat.sub_mul]; have : n * sz ≤ i * sz := Nat.mul_le_mul_right _ (by omega); omega
        rw [List.getElem?_append_right (by show (flatVals n sz val1).length ≤ _; rw [flat_len]; omega), show i * sz + j - olds.length = (i - n) * sz + j by show _ - (flatVals n sz val1).length = _; rw [flat_len]; omega, flat_at (by omega) hj]
        simp [val, h1]
    have hels : ∀ (i j : Nat) (b : AV), i < n + m → (appGet n m g1 g2 i)[j]? = some b → V0 g w b (val i j) := fun i j b hi hb => by
      by_cases h1 : i < n
      · rw [hg1 i h1] at hb; simp only [val, h1, if_true]; exact hel1 _ _ b h1 hb
      · have := hg2 (i - n) (by omega)
        rw [show n + (i - n) = i by omega] at this
        rw [this] at hb; simp only [val, h1, if_false]; exact hel2 _ _ b (by omega) hb
    have hlens : ∀ i, i < n + m → (appGet n m g1 g2 i).length = sz := fun i hi => by
      by_cases h1 : i < n
      · rw [hg1 i h1]; exact hlen1 i h1
      · have := hg2 (i - n) (by omega)
        rw [show n + (i - n) = i by omega] at this
        rw [this]; exact hlen2 _ (by omega)
    have hjlt : ∀ i j b, i < n + m → (appGet n m g1 g2 i)[j]? = some b → j < sz := fun i j b hi hb => by have := lt_of_getq hb; rwa [hlens i hi] at this
    -- a new block
    have fresh : ∀ (cap : Nat), n + m ≤ cap → (execOp a.eval o).run P w = .ok (.value (.slice (some ⟨w.heap.size, 0, none⟩) (n + m) cap)) (w.drew.alloc (.cells (olds.toArray ++ news.toArray ++ Builtin.zeroCells z.cells (cap - (n + m))) e (0, 0))) → o.wp P a w K Q := fun cap hcap hr => by
      have hR3 := (hR1.drew).new (.cells (olds.toArray ++ news.toArray ++ Builtin.zeroCells z.cells (cap - (n + m))) e (0, 0)) (some (.row [d])) (some 0)
      have e3 : Ext g w (g.new w.heap.size (some (.row [d])) (some 0)) (w.drew.alloc (.cells (olds.toArray ++ news.toArray ++ Builtin.zeroCells z.cells (cap - (n + m))) e (0, 0))) := (Ext.drew g w).trans (Ext.new (w := w.drew) h.fresh _ _ _)
      have p3 := e3.pres (fun _ _ h => h)
      refine fin hr (hR3.setSlot hl hdn (.c (.c (.un _ _ _ _ _ (.inr ⟨w.heap.size, cap, _, e, rfl, hcap, ?_, ?_, heap_alloc_new w.drew _, ?_, hlens, fun i j b hi' hb => ?_, fun s hs => by cases hs⟩))))) e3
      · simp [Gh.new]
      · simp [Gh.new]
      · simp only [Array.size_append, List.size_toArray, size_zeroCells, hzs, hol, hnl, hsz, ← Nat.add_mul]
        rw [show n + m + (cap - (n + m)) = cap by omega]; exact Nat.le_refl _
      · have h1 := hall i j hi' (hjlt i j b hi' hb)
        have h2 : (olds.toArray ++ news.toArray ++ Builtin.zeroCells z.cells (cap - (n + m)))[i * sz + j]? = some (val i j) := by
          rw [Array.getElem?_append_left, ← h1]
          · simp
          · have := lt_of_getq h1; simpa using this
        rw [Array.getD_eq_getD_getElem?, h2]
        exact (hels i j b hi' hb).mono p3.toPresC
    rcases hx with ⟨h0, p, h2⟩ | ⟨B, c, cur, te, h1, h2, h3, h5, h6, h7, h8, h9, _⟩
    · subst h0
      have hc1 : c1 = 0 := by rw [hu1] at h2; cases h2; rfl
      subst hc1
      cases q1 with
      | none =>
        have hr := run_append_nil (P := P) w t o.type e inf z he hi hz ad2 m c2 news hnl hnews (by omega) (by omega) (by rw [hby]; rw [Nat.zero_add] at hfit; omega)
        refine fresh (grownCap w (0 + m) 0 e) (grownCap_ge _ _ _ _) ?_
        rw [hargs, hr]
        simp [Result.andThen, olds, flatVals, rng]
      | some ad1 =>
        have hr := run_append_grow (P := P) w t o.type e inf z he hi hz ad1 0 0 olds hol (fun j v hj => by simp [olds, flatVals, rng] at hj) ad2 m c2 news hnl hnews (by omega) (by omega) (growslice_fits (by omega) (by rw [hby]; exact hfit))
        refine fresh (grownCap w (0 + m) 0 e) (grownCap_ge _ _ _ _) ?_
        rw [hargs, hr]; rfl
    · rw [hu1] at h1; cases h1
      by_cases hroom : n + m ≤ c1
      · have hfits : n * inf.size + news.length ≤ cur.size := by
          rw [hnl, hsz, ← Nat.add_mul]; exact Nat.le_trans (Nat.mul_le_mul_right _ hroom) h7
        have hrun := run_append_room' (P := P) (w := w) (ty := o.type) he hi h6 hnl hnews hone hroom hfits (c := c2)
        have hr : (execOp a.eval o).run P w = .ok (.value (.slice (some ⟨B, 0, none⟩) (n + m) c1)) (w.setRow B (cur.toList.take (n * inf.size) ++ news ++ cur.toList.drop (n * inf.size + news.length)).toArray) := by
          rw [hargs, hrun]; rfl
        let arr := (cur.toList.take (n * inf.size) ++ news ++ cur.toList.drop (n * inf.size + news.length)).toArray
        have harr : arr.size = cur.size := by simp [arr]; omega
        have hsame : ∀ j, j < n * sz → arr[j]? = cur[j]? := fun j hj => by
          simp only [arr, List.getElem?_toArray, List.append_assoc]
          rw [List.getElem?_append_left (by simp; rw [hsz]; rw [hnl, hsz, ] at hfits; omega), List.getElem?_take_of_lt (by rw [hsz]; exact hj), Array.getElem?_toList]
        have hnewc : ∀ j, j < m * sz → arr[n * sz + j]? = news[j]? := fun j hj => by
          simp only [arr, List.getElem?_toArray, List.append_assoc]
          rw [hsz, List.getElem?_append_right (by simp; omega)]
          have e0 : n * sz + j - (List.take (n * sz) cur.toList).length = j := by
            simp; rw [hsz] at hfits; omega
          rw [e0, List.getElem?_append_left (by rw [hnl, hsz]; exact hj)]
        obtain ⟨hR2, he2, p2, hfr2, hω2⟩ := hR1.grow (s := s) (q := []) (B := B) (e := 0) (e' := 0) h3 (by rw [getD_set_eq _ _ hsl]; rfl) h6 h5 (Nat.le_refl _) arr (fun j hj => by omega)
          (fun L => match L with
            | r :: p => if r = s then d :: p else r :: p
            | [] => []) (fun r' hin p => hρ r' hin p)
        refine fin hr (hR2.setSlot hl hdn (.c (.c (.un _ _ _ _ _ (.inr ⟨B, c1, arr, te, rfl, hroom, ?_, hfr2, setRow_heap w B cur arr te (0, 0) h6, by rw [harr]; exact h7, hlens, fun i j b hi' hb => ?_, fun s hs => by cases hs⟩))))) he2
        · rw [hω2]; simp
        · have hj := hjlt i j b hi' hb
          have hc : arr[i * sz + j]? = some (val i j) := by
            by_cases h1 : i < n
            · have h2 : i * sz + sz ≤ n * sz := by rw [← Nat.succ_mul]; exact Nat.mul_le_mul_right _ h1
              rw [hsame _ (by omega), hcs1 B cur te rfl h6 h7 i j h1 hj]; simp [val, h1]
            · have e1 : i * sz + j = n * sz + ((i - n) * sz + j) := by rw [Nat.sub_mul]; have : n * sz ≤ i * sz := Nat.mul_le_mul_right _ (by omega); omega
              have h2 : (i - n) * sz + sz ≤ m * sz := by rw [← Nat.succ_mul]; exact Nat.mul_le_mul_right _ (by omega)
              rw [e1, hnewc _ (by omega), flat_at (by omega) hj]
              simp [val, h1]
          rw [Array.getD_eq_getD_getElem?, hc]
          exact (hels i j b hi' hb).mono p2.toPresC
      · have hr := run_append_grow (P := P) w t o.type e inf z he hi hz ⟨B, 0, none⟩ n c1 olds hol (fun j u hj => by
          obtain ⟨a1, a2, rfl, a4⟩ := flat_inv hj
          have := hcell1 _ rfl _ _ a1 a2
          rw [← a4] at this; exact this) ad2 m c2 news hnl hnews (by omega) (by omega) (growslice_fits (by omega) (by rw [hby]; exact hfit))
        refine fresh (grownCap w (n + m) c1 e) (grownCap_ge _ _ _ _) ?_
        rw [hargs, hr]; rfl
theorem op_unew (hl : LayOk f) (h : Rel f g w l a.tmps) (hd : DstOk f o.dst) {x : Operand} (hop : o.op = .move x ∨ o.op = .assign x) (hx : x = .const (.slice none 0 0)) {sz : Nat} {gt : Nat → List AV}
    (hk : k (.un none sz 0 gt) [] = some r) (H : Fin f g w l a o.dst exw k r K) : o.wp P a w K Q := by
  subst hx
  have hr : (execOp a.eval o).run P w = .ok (.value (.slice none 0 0)) w := by
    rcases hop with hop | hop <;> simp [execOp, hop, Act.eval]
  exact wp_val hr (fin0 hl h hd H hk h (Ext.refl _ _) (fun d _ => .c (.c (.un _ _ _ _ _ (.inl ⟨rfl, none, rfl⟩)))))
theorem op_ualias (hl : LayOk f) (h : Rel f g w l a.tmps) (hd : DstOk f o.dst) {x : Operand} {ix : IA} (hop : o.op = .move x ∨ o.op = .assign x) (hx : chkA f x ix = true) {s sz n : Nat} {gt : Nat → List AV} (hrx : rd l ix = .un (some s) sz n gt)
    (hk : k (.ur s sz n) [] = some r) (H : Fin f g w l a o.dst exw k r K) : o.wp P a w K Q := by
  obtain ⟨L1, hv1, _⟩ := rd_ok h hx
  rw [hrx] at hv1
  have hr : (execOp a.eval o).run P w = .ok (.value (a.eval x)) w := by
    rcases hop with hop | hop <;> simp [execOp, hop]
  refine wp_val hr (fin0 hl h hd H hk h (Ext.refl _ _) (fun d _ => .c (.c (.ur _ _ _ _ ?_))))
  rcases hv1.un_inv with h1 | ⟨B, c, cs, ty, h1, h2, h3, h4, h5, h6, h7, h8, h9⟩
  · exact .inl h1
  · exact .inr ⟨B, c, h1, h9 s rfl⟩
theorem op_uidx (hl : LayOk f) (h : Rel f g w l a.tmps) (hd : DstOk f o.dst) {x y : Operand} {ix iy : IA} {t : TypeId} {sz : Nat} (hop : o.op = .indexAddr t x y) (hx : chkA f x ix = true) (hy : chkA f y iy = true) (hs : chkS P t sz = true)
    {s n : Nat} {kd : IntKind} {i : Int} (hrx : rd l ix = .ur s sz n) (hry : rd l iy = .sc (.int kd i))
    (hk : cond (decide (0 ≤ i)) (cond (decide (i < (n : Int))) (k (.up s sz i.toNat 0) []) none) none = some r) (H : Fin f g w l a o.dst exw k r K) : o.wp P a w K Q := by
  obtain ⟨L1, hv1, _⟩ := rd_ok h hx
  obtain ⟨L2, hv2, _⟩ := rd_ok h hy
  rw [hrx] at hv1; rw [hry] at hv2
  obtain ⟨h0, hk⟩ := cond_some hk
  obtain ⟨h1, hk⟩ := cond_some hk
  have h0 := of_decide_eq_true h0
  have h1 := of_decide_eq_true h1
  obtain ⟨e, inf, he, hi, hsz, he', hee⟩ := chkS_ok hs
  rcases hv1.ur_inv with ⟨rfl, _⟩ | ⟨B, c, hu, hB⟩
  · omega
  · have hr : (execOp a.eval o).run P w = .ok (.value (.pointer (some ⟨B, 0 + i.toNat * sz, none⟩))) w := by
      have h1' : (i < (n : Int)) := h1
      simp [execOp, hop, hu, hv2.sc_inv.1, Instr.indexAt, asIntOf, run_underlying he, sizeOf, typeInfo, hi, hsz, h0, h1', Addr.add_lit]
    exact wp_val hr (fin0 hl h hd H hk h (Ext.refl _ _) (fun d _ => by rw [Nat.zero_add]; exact .c (.c (.up s sz i.toNat 0 B hB))))
theorem un_key {L : List Nat} {s sz n B : Nat} {gt : Nat → List AV} {u : Value} (h : Un g w L (some s) sz n gt u) (hB : g.φ s = some B) (hn : 0 < n) :
    ∃ c cs ty, n ≤ c ∧ g.ω B = some (.row L) ∧ g.fr B = some 0 ∧ w.heap[B]? = some (.cells cs ty (0, 0)) ∧ c * sz ≤ cs.size ∧ u = .slice (some ⟨B, 0, none⟩) n c ∧ (∀ i, i < n → (gt i).length = sz) ∧ (∀ (i j : Nat) (a : AV), i < n → (gt i)[j]? = some a → V0 g w a (cs.getD (i * sz + j) undef)) := by
  rcases h with ⟨h0, _⟩ | ⟨B', c, cs, ty, h1, h2, h3, h4, h5, h6, h7, h8, h9⟩
  · omega
  · have := h9 s rfl
    rw [hB] at this; cases this
    exact ⟨c, cs, ty, h2, h3, h4, h5, h6, h1, h7, h8⟩
theorem op_uload (hl : LayOk f) (h : Rel f g w l a.tmps) (hd : DstOk f o.dst) {x : Operand} {ia : IA} {t : TypeId} {n s : Nat} {ag : Bool} (hop : o.op = .load t x) (hx : chkA f x ia = true) (ht : chkT P t ag n = true) (hs : s < f.nt)
    {sz q off m : Nat} {gt : Nat → List AV} (hrx : rd l ia = .up s sz q off) (hrs : l.getD s .dead = .un (some s) sz m gt) (hq : q < m) (hoff : off + n ≤ sz)
    (hk : k (mkv ag (((gt q).drop off).take n)) [] = some r) (H : Fin f g w l a o.dst exw k r K) : o.wp P a w K Q := by
  obtain ⟨L1, hv1, _⟩ := rd_ok h hx
  rw [hrx] at hv1
  obtain ⟨B, hB, hu⟩ := hv1.up_inv
  have hv2 := h.slots s hs
  rw [hrs] at hv2
  obtain ⟨c, cs, ty, c1, c2, c3, c4, c5, _, c6, c7⟩ := un_key hv2.un_inv hB (by omega)
  obtain ⟨dd, i, t1, t2, t3, t4, t5⟩ := chkT_ok ht
  have hin : q * sz + off + n ≤ cs.size := by
    have := Nat.mul_le_mul_right sz (show q + 1 ≤ c by omega)
    rw [Nat.succ_mul] at this; omega
  let us := (cs.toList.drop (q * sz + off)).take n
  have hul : us.length = n := by simp [us]; omega
  have hr : (execOp a.eval o).run P w = .ok (.value (mkval ag us)) w := by
    have := run_loadAt (P := P) (w := w) ht (B := B) (o := q * sz + off) (us := us) hul (fun j v hj => by
      have hjn : j < n := by have := lt_of_getq hj; omega
      rw [cell_of_row _ _ _ _ _ _ c4]
      simp only [us] at hj
      rwa [List.getElem?_take_of_lt hjn, List.getElem?_drop, Array.getElem?_toList] at hj)
    simp [execOp, hop, hu, this]
  refine wp_val hr (fin0 hl h hd H hk h (Ext.refl _ _) (fun d _ => mkv_ok (by simp [us, c6 q hq]; omega) (fun e => by simp [c6 q hq]; have := t5 e; omega) fun j b x hb hx => ?_))
  have hj : j < n := by have := lt_of_getq hx; omega
  rw [List.getElem?_take_of_lt hj, List.getElem?_drop] at hb
  have hx' : x = cs.getD (q * sz + (off + j)) undef := by
    simp only [us] at hx
    rw [List.getElem?_take_of_lt hj, List.getElem?_drop, Array.getElem?_toList, getD_some (by omega)] at hx
    cases hx; rw [Nat.add_assoc]
  rw [hx']
  exact .of0 (c7 q (off + j) b hq hb)
theorem flat_V0 {L : List Nat} {b : AV} {v : Value} (hf : b.flat = true) (h : Vc g w L b v) : V0 g w b v := by
  cases h with
  | of0 h => exact h
  | _ => cases hf
theorem op_ustore (hl : LayOk f) (h : Rel f g w l a.tmps) (hd : o.dst = none) {x y : Operand} {ia iy : IA} {t : TypeId} {n s : Nat} {ag : Bool} (hop : o.op = .store t x y) (hx : chkA f x ia = true) (hy : chkA f y iy = true) (ht : chkT P t ag n = true) (hs : s < f.nt)
    {sz q off m : Nat} {gt : Nat → List AV} (hrx : rd l ia = .up s sz q off) (hrs : l.getD s .dead = .un (some s) sz m gt) (hq : q < m) (hoff : off + n ≤ sz) {cs : List AV} (hc : (rd l iy).cells? = some cs) (hn : cs.length = n) (hfl : (cs.map AV.c1).all AV.flat = true)
    (hk : k .dead [.un (some s) sz m (setGet q off (cs.map AV.c1) gt)] = some r) (H : Fin f g w l a o.dst [s] k r K) : o.wp P a w K Q := by
  obtain ⟨L1, hv1, _⟩ := rd_ok h hx
  rw [hrx] at hv1
  obtain ⟨B, hB, hu⟩ := hv1.up_inv
  have hv2 := h.slots s hs
  rw [hrs] at hv2
  obtain ⟨c, cur, ty, c1, c2, c3, c4, c5, c0, c6, c7⟩ := un_key hv2.un_inv hB (by omega)
  obtain ⟨L2, hv3, _⟩ := rd_ok h hy
  have hst : cs.all AV.storable = true := by
    rw [List.all_eq_true]
    intro b hb
    have := List.all_eq_true.1 hfl b.c1 (List.mem_map_of_mem hb)
    cases b <;> first | rfl | cases this
  obtain ⟨us, hus, hul, hone, hcell⟩ := hv3.cells hc hst
  have hin : q * sz + sz ≤ cur.size := by
    have := Nat.mul_le_mul_right sz (show q + 1 ≤ c by omega)
    rw [Nat.succ_mul] at this; omega
  let arr := (cur.toList.take (q * sz + off) ++ us ++ cur.toList.drop (q * sz + off + us.length)).toArray
  have hr : (execOp a.eval o).run P w = .ok .skip (w.setRow B arr) := by
    have := run_storeAt (P := P) (w := w) ht c4 hus (by omega) hone (j := q * sz + off) (by omega)
    simp [execOp, hop, hu, this, arr]
  have harr : arr.size = cur.size := by simp [arr]; omega
  have hget : ∀ j, arr[j]? = if q * sz + off ≤ j ∧ j < q * sz + off + n then us[j - (q * sz + off)]? else cur[j]? := fun j => by
    simp only [arr, List.getElem?_toArray]
    by_cases h1 : j < q * sz + off
    · rw [if_neg (by omega), List.append_assoc, List.getElem?_append_left (by simp; omega), List.getElem?_take_of_lt h1, Array.getElem?_toList]
    · by_cases h2 : j < q * sz + off + n
      · rw [if_pos (by omega), List.append_assoc, List.getElem?_append_right (by simp; omega), List.getElem?_append_left (by simp; omega)]
        congr 1; simp; omega
      · rw [if_neg (by omega), List.getElem?_append_right (by simp; omega), List.getElem?_drop, Array.getElem?_toList]
        congr 1; simp; omega
  have hsl : s < l.length := by rw [h.len]; exact Nat.lt_of_lt_of_le hs hl.nt
  have hR1 := h.setA hl hs (a := .dead) (.dead _)
  obtain ⟨hR2, he2, p2, hfr2, hω2⟩ := hR1.grow (s := s) (q := []) (B := B) (e := 0) (e' := 0) c2 (by rw [getD_set_eq _ _ hsl]; rfl) c4 c3 (Nat.le_refl _) arr (fun j hj => by omega) id (fun r _ p => rfl)
  refine wp_skp hr ?_
  refine H _ _ _ _ _ hk ?_ he2
  rw [hd]
  show Rel f _ _ (l.set s _) a.tmps
  have hlen : ∀ i, i < m → (setGet q off (cs.map AV.c1) gt i).length = sz := fun i hi => by
    unfold setGet
    by_cases e : i = q
    · rw [decide_eq_true e, cond_true, splice_len _ _ _ (by rw [c6 i hi]; simp; omega)]; exact c6 i hi
    · rw [decide_eq_false e, cond_false]; exact c6 i hi
  have hR3 := hR2.setA hl hs (a := .un (some s) sz m (setGet q off (cs.map AV.c1) gt)) (.c (.c (.un _ _ _ _ _ (.inr ⟨B, c, arr, ty, c0, c1, ?_, hfr2, setRow_heap w B cur arr ty (0, 0) c4, by rw [harr]; exact c5, hlen, fun i j b hi hb => ?_, fun s' e => by cases e; exact hB⟩))))
  · rwa [List.set_set] at hR3
  · rw [hω2]; rfl
  · have hj : j < sz := by have := lt_of_getq hb; rwa [hlen i hi] at this
    rw [Array.getD_eq_getD_getElem?, hget]
    unfold setGet at hb
    by_cases e : i = q
    · subst e
      rw [decide_eq_true rfl, cond_true, splice_get _ _ _ (by rw [c6 i hi]; simp; omega)] at hb
      by_cases h1 : off ≤ j ∧ j < off + n
      · rw [if_pos (by simp; omega), List.getElem?_map] at hb
        rw [if_pos (by omega), show i * sz + j - (i * sz + off) = j - off by omega]
        cases hcj : cs[j - off]? with
        | none => rw [hcj] at hb; cases hb
        | some b' =>
          rw [hcj] at hb; cases hb
          have hlt : j - off < us.length := by have := lt_of_getq hcj; omega
          rw [List.getElem?_eq_getElem hlt]
          have h3 := (hcell (j - off) b' us[j - off] hcj (List.getElem?_eq_getElem hlt)).c1 []
          exact (flat_V0 (List.all_eq_true.1 hfl b'.c1 (List.mem_map_of_mem (List.mem_of_getElem? hcj))) h3).mono p2.toPresC
      · rw [if_neg (by simp; omega)] at hb
        rw [if_neg (by omega)]
        have := (c7 i j b hi hb).mono p2.toPresC
        rwa [Array.getD_eq_getD_getElem?] at this
    · rw [decide_eq_false e, cond_false] at hb
      have hne : ¬ (q * sz + off ≤ i * sz + j ∧ i * sz + j < q * sz + off + n) := by
        intro hh
        rcases Nat.lt_or_ge i q with h1 | h1
        · have := Nat.mul_le_mul_right sz (show i + 1 ≤ q by omega)
          rw [Nat.succ_mul] at this; omega
        · have := Nat.mul_le_mul_right sz (show q + 1 ≤ i by omega)
          rw [Nat.succ_mul] at this; omega
      rw [if_neg hne]
      have := (c7 i j b hi hb).mono p2.toPresC
      rwa [Array.getD_eq_getD_getElem?] at this
theorem Rel.freeze {tm : Array Value} (h : Rel f g w l tm) {s : Nat} {q : List Nat} {B e e' : Nat} {arr : Array Value} {ty : TypeId} (hB : g.ω B = some (.row (s :: q))) (hs : Inert (l.getD s .dead))
    (hheap : w.heap[B]? = some (.cells arr ty (0, 0))) (hfr : g.fr B = some e) (hee : e ≤ e')
    (ρ : List Nat → List Nat) (hρ : ∀ r, ¬ Inert (l.getD r .dead) → ∀ p, ρ (r :: p) = r :: p) :
    Rel f (g.grow ρ B e') w l tm ∧ Ext g w (g.grow ρ B e') w ∧ Pres g w (g.grow ρ B e') w ∧ (g.grow ρ B e').fr B = some e' ∧ (g.grow ρ B e').ω B = some (.row (ρ (s :: q))) := by
  have hBlt : B < w.heap.size := ω_lt h hB
  have e1 : Ext g w (g.grow ρ B e') w := by
    refine ⟨rfl, rfl, rfl, Nat.le_refl _, fun B' hB' ho => ?_, fun B' j hB' hj => rfl, fun B' n' _ hn' => ?_, fun _ _ _ h => h, rfl, rfl⟩
    · have hne : B' ≠ B := fun e => by subst e; rw [hB] at ho; cases ho
      exact ⟨rfl, ren_ω_none.2 ho, by simp [Gh.grow, hne]⟩
    · by_cases hne : B' = B
      · subst hne
        refine ⟨e, hfr, ?_⟩
        simp [Gh.grow] at hn'; omega
      · exact ⟨n', by simpa [Gh.grow, hne] using hn', Nat.le_refl _⟩
  have p : Pres g w (g.grow ρ B e') w := e1.pres fun _ _ h => h
  refine ⟨h.move p rfl (fun r hr B' q' hq => ?_) (fun b B' _ ho => ?_) (fun B' hB' => ?_), e1, p, by simp [Gh.grow], by simp [Gh.grow, Gh.ren, hB]⟩
  · have hne : B' ≠ B := fun e => by
      subst e; rw [hB] at hq
      simp only [Option.some.injEq, Own.row.injEq, List.cons_append, List.nil_append, List.cons.injEq] at hq
      rw [hq.1] at hs; exact hr hs
    refine ⟨?_, by simp [Gh.grow, hne], rfl⟩
    have := hρ r hr q'
    simp only [Gh.grow, Gh.ren, hq, List.cons_append, List.nil_append, this]
  · have hne : B' ≠ B := fun e => by subst e; rw [hB] at ho; cases ho
    exact ⟨by simp [Gh.grow, Gh.ren, ho], by simp [Gh.grow, hne], rfl⟩
  · have hne : B' ≠ B := by omega
    exact ⟨ren_ω_none.2 (h.fresh B' hB').1, by simp [Gh.grow, hne, (h.fresh B' hB').2]⟩
theorem op_ufrz (hl : LayOk f) (h : Rel f g w l a.tmps) (hd : DstOk f o.dst) {x : Operand} {s : Nat} (hop : o.op = .move x ∨ o.op = .assign x) (hx : chkA f x (.s s) = true) (hdst : o.dst.isSome = true) {sz n : Nat} {gt : Nat → List AV} (hrx : l.getD s .dead = .un none sz n gt)
    (hk : k (.row true sz n gt) [.dead] = some r) (H : Fin f g w l a o.dst [s] k r K) : o.wp P a w K Q := by
  obtain ⟨d, hdd⟩ := Option.isSome_iff_exists.1 hdst
  have hdn := hd d hdd
  obtain ⟨L1, hv1, hs1⟩ := rd_ok h hx
  obtain ⟨hs, rfl, rfl⟩ := hs1 s rfl
  have hv1 : V3 g w [s] (l.getD s .dead) _ := hv1
  rw [hrx] at hv1
  have hr : (execOp a.eval o).run P w = .ok (.value (a.eval (.tmp s))) w := by
    rcases hop with hop | hop <;> simp [execOp, hop]
  have hsl : s < l.length := by rw [h.len]; exact Nat.lt_of_lt_of_le hs hl.nt
  have hR1 := h.setA hl hs (a := .dead) (.dead _)
  have fin : ∀ {g' : Gh}, Rel f g' w ((l.set s .dead).set d (.row true sz n gt)) (a.tmps.setIfInBounds d (a.eval (.tmp s))) → Ext g w g' w → o.wp P a w K Q := fun {g'} hR he => by
    refine wp_val hr (H _ _ _ g' w hk ?_ he)
    rw [hdd]
    exact hR
  have hρ : ∀ r', ¬ Inert ((l.set s .dead).getD r' .dead) → ∀ p, (match (r' :: p : List Nat) with
      | r :: p => if r = s then d :: p else r :: p
      | [] => []) = r' :: p := fun r' hin p => by
    by_cases e : r' = s
    · subst e; rw [getD_set_eq _ _ hsl] at hin; exact absurd rfl hin
    · simp [e]
  rcases hv1.un_inv with ⟨rfl, p, h2⟩ | ⟨B, c, cs, ty, h1, h2, h3, h4, h5, h6, h7, h8, _⟩
  · rw [h2] at fin
    refine fin (hR1.setSlot hl hdn (.c (.c ?_))) (Ext.refl _ _)
    cases p with
    | none => exact .nil _ _
    | some ad => exact .zero ad _ _
  · have hsz : ∀ i j, i < n → j < sz → i * sz + j < cs.size := fun i j hi hj => by
      have := Nat.mul_le_mul_right sz (show i + 1 ≤ c by omega)
      rw [Nat.succ_mul] at this; omega
    obtain ⟨hR2, he2, p2, hfr2, hω2⟩ := hR1.freeze (s := s) (q := []) (B := B) (e := 0) (e' := n * sz) h3 (by rw [getD_set_eq _ _ hsl]; rfl) h5 h4 (by omega)
      (fun L => match L with
        | r :: p => if r = s then d :: p else r :: p
        | [] => []) (fun r' hin p => hρ r' hin p)
    rw [h1] at fin
    refine fin (hR2.setSlot hl hdn (.c (.c (.row _ _ _ B 0 c (.row _ _ _ _ _ _ (fun i j => cs.getD (i * sz + j) undef) h2 (.inr fun x hx => ?_) h7 (fun i j hi hj => ?_) (fun i j b hi hb => (h8 i j b hi hb).mono p2.toPresC)) (.inr ⟨?_, rfl, hfr2, cs, ty, h5, h6⟩))))) he2
    · rw [hfr2] at hx; cases hx; omega
    · rw [Nat.zero_add, cell_of_row _ _ _ _ _ _ h5, getD_some (hsz i j hi hj)]
    · rw [hω2]; simp
end
end Go.Proofs.Ytafnmkbehjbkdaa.M
