/- Calls: what a function is handed, what comes back, told in both frames. -/
import Derived.Test.YtafnmkbehjbkdaaMachJ
set_option linter.unusedVariables false
set_option linter.unusedSimpArgs false
namespace Go.Proofs.Ytafnmkbehjbkdaa.M
open Go Go.RowKit
section
variable {g g' : Gh} {w w' : World} {m : List (Nat × Nat)}
theorem look_mem : ∀ {m : List (Nat × Nat)} {h h' : Nat}, look m h = some h' → (h, h') ∈ m
  | [], _, _, hh => by cases hh
  | (a, b) :: r, h, h', hh => by
    simp only [look] at hh
    cases hb : Nat.beq a h with
    | true => rw [hb] at hh; cases hh; have := nbeq hb; subst this; exact .head _
    | false => rw [hb] at hh; exact .tail _ (look_mem hh)
theorem look_of_mem : ∀ {m : List (Nat × Nat)} {h h' : Nat}, (m.map (·.1)).Nodup → (h, h') ∈ m → look m h = some h'
  | (a, b) :: r, h, h', hn, hm => by
    simp only [List.map_cons, List.nodup_cons] at hn
    simp only [look]
    cases hm with
    | head => rw [Nat.beq_refl]; rfl
    | tail _ hm =>
      have hne : Nat.beq a h = false := by
        cases hb : Nat.beq a h with
        | false => rfl
        | true => have := nbeq hb; subst this; exact absurd (List.mem_map.2 ⟨_, hm, rfl⟩) hn.1
      rw [hne]; exact look_of_mem hn.2 hm
theorem look_none {m : List (Nat × Nat)} {h : Nat} (hn : h ∉ m.map (·.1)) : look m h = none := by
  cases hl : look m h with
  | none => rfl
  | some h' => exact absurd (List.mem_map.2 ⟨_, look_mem hl, rfl⟩) hn
theorem trCaps_ok {caps caps' : List (Nat × Nat)} (h : trCaps m caps = some caps') : caps'.length = caps.length ∧ ∀ (i b j : Nat), caps'[i]? = some (b, j) → ∃ b0, caps[i]? = some (b0, j) ∧ look m b0 = some b := by
  induction caps generalizing caps' with
  | nil => simp [trCaps] at h; subst h; exact ⟨rfl, fun i b j h => by simp at h⟩
  | cons c cs ih =>
    obtain ⟨b0, j0⟩ := c
    simp only [trCaps] at h
    split at h
    · rename_i b1 r1 h1 h2
      cases h
      obtain ⟨e1, e2⟩ := ih h2
      refine ⟨by simp [e1], fun i b j hi => ?_⟩
      cases i with
      | zero => simp at hi; obtain ⟨rfl, rfl⟩ := hi; exact ⟨b0, rfl, h1⟩
      | succ i => exact e2 i b j (by simpa using hi)
    · cases h
theorem Vc.tr (hφ : ∀ h h' B, look m h = some h' → g.φ h = some B → g'.φ h' = some B) (p : PresC g w g' w') {L L' : List Nat} {a a' : AV} {v : Value} (hO : a.c1 = a ∨ OwnSame g w g' w' L L')
    (h : Vc g w L a v) (ht : tr1 m a = some a') : Vc g' w' L' a' v := by
  cases h with
  | dead v => cases ht; exact .dead v
  | of0 h =>
    have h' := h.mono p
    cases h with
    | sc v h => cases ht; exact .of0 h'
    | nil sz get => cases ht; exact .of0 h'
    | zero p sz get => cases ht; exact .of0 h'
    | row sz n get B o c val h1 h2 h3 h4 h5 => cases ht; exact .of0 h'
  | nil sz get => cases ht; exact .nil sz get
  | zero p sz get => cases ht; exact .zero p sz get
  | row sz n get B o c h0 ho =>
    cases ht
    refine .row sz n get B o c (h0.mono p) (ho.imp id fun ⟨h1, h2, h3, cs, ty, h4, h5⟩ => ?_)
    rcases hO with hO | hO
    · cases hO
    · obtain ⟨k1, k2, k3⟩ := hO B [] (by simpa using h1)
      exact ⟨by simpa using k1, h2, k2.trans h3, cs, ty, k3.trans h4, h5⟩
  | elt cs B o val hfz hcell hel => cases ht
  | ptr h j B hB =>
    simp only [tr1] at ht
    split at ht
    · rename_i h' hl; cases ht; exact .ptr h' j B (hφ h h' B hl hB)
    · cases ht
  | clo f caps vs hl hv =>
    simp only [tr1] at ht
    split at ht
    · rename_i caps' hc
      cases ht
      obtain ⟨e1, e2⟩ := trCaps_ok hc
      refine .clo f caps' vs (by rw [hl, e1]) fun i b j x hi hx => ?_
      obtain ⟨b0, h1, h2⟩ := e2 i b j hi
      obtain ⟨B, h3, h4⟩ := hv i b0 j x h1 hx
      exact ⟨B, hφ b0 b B h2 h3, h4⟩
    · cases ht
  | yld y h => cases ht
  | un k sz n get v h =>
    cases k with
    | some k => cases ht
    | none =>
      cases ht
      rcases hO with hO | hO
      · cases hO
      · exact .un none sz n get v (h.move p hO fun s B hs => by cases hs)
  | ur k sz n v h => cases ht
  | up k sz q off B h => cases ht
theorem trL_ok : ∀ {as as' : List AV}, trL m as = some as' → as'.length = as.length ∧ ∀ (i : Nat) (a' : AV), as'[i]? = some a' → ∃ a, as[i]? = some a ∧ tr1 m a = some a'
  | [], as', h => by simp [trL] at h; subst h; exact ⟨rfl, fun i a' h => by simp at h⟩
  | a :: as, as', h => by
    simp only [trL] at h
    split at h
    · rename_i x r h1 h2
      cases h
      obtain ⟨e1, e2⟩ := trL_ok h2
      refine ⟨by simp [e1], fun i a' hi => ?_⟩
      cases i with
      | zero => simp at hi; subst hi; exact ⟨a, rfl, h1⟩
      | succ i => exact e2 i a' (by simpa using hi)
    · cases h
theorem V2.tr (hφ : ∀ h h' B, look m h = some h' → g.φ h = some B → g'.φ h' = some B) (p : PresC g w g' w') {L L' : List Nat} {a a' : AV} {v : Value} (hO : a.c2 = a ∨ OwnSame g w g' w' L L')
    (h : V2 g w L a v) (ht : tr2 m a = some a') : V2 g' w' L' a' v := by
  cases h with
  | c h =>
    have h1 : tr1 m a = some a' := by
      cases a <;> first | exact ht | (cases h with | of0 h0 => cases h0)
    refine .c (h.tr hφ p (hO.imp (fun e => ?_) id) h1)
    cases a <;> first | rfl | exact e
  | agg cs vs hl h =>
    simp only [tr2] at ht
    split at ht
    · rename_i cs' hc
      cases ht
      obtain ⟨e1, e2⟩ := trL_ok hc
      refine .agg cs' vs (by rw [e1, hl]) fun i b x hb hx => ?_
      obtain ⟨b0, h1, h2⟩ := e2 i b hb
      refine (h i b0 x h1 hx).tr hφ p (hO.imp (fun e => ?_) fun hO => hO.sub i) h2
      simp only [AV.c2, AV.agg.injEq] at e
      have := congrArg (fun l => l[i]?) e
      simp only [List.getElem?_map, h1, Option.map_some, Option.some.injEq] at this
      exact this
    · cases ht
theorem trL2_ok : ∀ {as as' : List AV}, trL2 m as = some as' → as'.length = as.length ∧ ∀ (i : Nat) (a' : AV), as'[i]? = some a' → ∃ a, as[i]? = some a ∧ tr2 m a = some a'
  | [], as', h => by simp [trL2] at h; subst h; exact ⟨rfl, fun i a' h => by simp at h⟩
  | a :: as, as', h => by
    simp only [trL2] at h
    split at h
    · rename_i x r h1 h2
      cases h
      obtain ⟨e1, e2⟩ := trL2_ok h2
      refine ⟨by simp [e1], fun i a' hi => ?_⟩
      cases i with
      | zero => simp at hi; subst hi; exact ⟨a, rfl, h1⟩
      | succ i => exact e2 i a' (by simpa using hi)
    · cases h
theorem V3.tr (hφ : ∀ h h' B, look m h = some h' → g.φ h = some B → g'.φ h' = some B) (p : PresC g w g' w') {L L' : List Nat} {a a' : AV} {v : Value} (hO : a.strip = a ∨ OwnSame g w g' w' L L')
    (h : V3 g w L a v) (ht : tr3 m a = some a') : V3 g' w' L' a' v := by
  cases h with
  | c h =>
    have h1 : tr2 m a = some a' := by
      cases a <;> first | exact ht | (cases h with | c h => cases h with | of0 h0 => cases h0)
    refine .c (h.tr hφ p (hO.imp (fun e => ?_) id) h1)
    cases a <;> first | rfl | exact e | (cases h with | c h => cases h with | of0 h0 => cases h0)
  | tup cs vs hl h =>
    simp only [tr3] at ht
    split at ht
    · rename_i cs' hc
      cases ht
      obtain ⟨e1, e2⟩ := trL2_ok hc
      refine .tup cs' vs (by rw [e1, hl]) fun i b x hb hx => ?_
      obtain ⟨b0, h1, h2⟩ := e2 i b hb
      refine (h i b0 x h1 hx).tr hφ p (hO.imp (fun e => ?_) fun hO => hO.sub i) h2
      simp only [AV.strip, AV.tup.injEq] at e
      have := congrArg (fun l => l[i]?) e
      simp only [List.getElem?_map, h1, Option.map_some, Option.some.injEq] at this
      exact this
    · cases ht
theorem trLL_ok : ∀ {as as' : List (List AV)}, trLL m as = some as' → as'.length = as.length ∧ ∀ (i : Nat) (a' : List AV), as'[i]? = some a' → ∃ a, as[i]? = some a ∧ trL m a = some a'
  | [], as', h => by simp [trLL] at h; subst h; exact ⟨rfl, fun i a' h => by simp at h⟩
  | a :: as, as', h => by
    simp only [trLL] at h
    split at h
    · rename_i x r h1 h2
      cases h
      obtain ⟨e1, e2⟩ := trLL_ok h2
      refine ⟨by simp [e1], fun i a' hi => ?_⟩
      cases i with
      | zero => simp at hi; subst hi; exact ⟨a, rfl, h1⟩
      | succ i => exact e2 i a' (by simpa using hi)
    · cases h
theorem tr3_2 {a a' : AV} (h : tr2 m a = some a') : tr3 m a = some a' := by
  cases a <;> first | exact h | (simp [tr2, tr1] at h)
end
def BoxAt (g : Gh) (w : World) (h n : Nat) (c : List AV) (B : Nat) : Prop := g.φ h = some B ∧ ∃ arr ty, w.heap[B]? = some (.cells arr ty (0, 0)) ∧ arr.size = n ∧ g.ω B = some (.box h) ∧ g.fr B = some 0 ∧
  ∀ j, j < n → Vc g w [h + 1 + j] (c.getD j .dead) (arr.getD j undef)
def Fresh (g : Gh) (w : World) : Prop := ∀ B, w.heap.size ≤ B → g.ω B = none ∧ g.fr B = some 0
structure Back (f : IFn) (r : Ret) (g : Gh) (w : World) (u : Value) (g' : Gh) (w' : World) : Prop where
  ext : Ext g w g' w'
  fresh : Fresh g' w'
  res : V3 g' w' [f.total] r.res u
  cells : ∀ (k h n : Nat) (cs : List AV), f.pass[k]? = some (h, n) → r.cells[k]? = some cs → ∃ B, BoxAt g' w' h n cs B
  exp : ∀ (k h n : Nat) (cs : List AV), f.exp[k]? = some (h, n) → r.exp[k]? = some cs → ∃ B, BoxAt g' w' h n cs B
structure Handed (f : IFn) (as : List AV) (cells : List (List AV)) (g : Gh) (w : World) (vs : List Value) : Prop where
  len : vs.length = as.length
  args : ∀ (i : Nat) (a : AV) (v : Value), as[i]? = some a → vs[i]? = some v → V3 g w [i] a v
  cells : ∀ (k h n : Nat) (cs : List AV), f.pass[k]? = some (h, n) → cells[k]? = some cs → cs.length = n ∧ ∃ B, BoxAt g w h n cs B
  φin : ∀ h B, g.φ h = some B → ∃ n, (h, n) ∈ f.pass
  pin : ∀ h, g.pin h = f.pass.any fun x => Nat.beq x.1 h
  fresh : Fresh g w
def djP (ts ps : List Nat) : Bool := ts.all fun x => !(ps.any fun b => Nat.beq x b)
def keeps (ps : List Nat) : IC → Bool
  | .skip | .stuck | .exit _ | .ret => true
  | .reg ops => ops.all fun o => djP (o.op.exw ++ o.dst.toList) ps
  | .seq a b | .cond _ a b => keeps ps a && keeps ps b
  | .blk _ b | .loop b => keeps ps b
  | .clr xs hs c | .fin c xs hs => djP xs ps && hs.all (fun x => djP (rng x.1 (x.2 + 1)) ps) && keeps ps c
  | .yreg .. | .rfn .. | .brw .. | .plug .. | .wk .. => false
def passPl (f : IFn) : List Nat := (f.pass.map fun x => rng x.1 (x.2 + 1)).flatten
def roFn (f : IFn) : Bool := keeps (passPl f) f.body && f.pass.all (fun x => Nat.ble f.np x.1 && Nat.blt (x.1 + x.2) f.total) && decide ((passPl f).Nodup)
structure CallOk (P : Program) (T : Nat → Option IFn) (call : Nat → List AV → List (List AV) → Option Ret) : Prop where
  ok : ∀ (id : Nat) (f : IFn) (as : List AV) (cells : List (List AV)) (r : Ret), T id = some f → call id as cells = some r → ∀ (g : Gh) (w : World) (vs : List Value), Handed f as cells g w vs →
    Calls P f.go vs.toArray w fun e w' => ∃ u g', e = .returned u ∧ Back f r g w u g' w'
  ro : ∀ (id : Nat) (f : IFn) (as : List AV) (cells : List (List AV)) (r : Ret), T id = some f → roFn f = true → call id as cells = some r → r.cells = cells
section
variable {f : IFn} {l : List AV}
theorem k_tr {x : Operand} {v v' : AV} {m : List (Nat × Nat)} (hc : chkA f x (.k v) = true) (ht : tr2 m v = some v') : v' = v := by
  unfold chkA at hc
  split at hc
  · rename_i e; cases e
  · rename_i e; cases e
    unfold chkV at hc
    split at hc <;> first | (cases hc; done) | (cases ht; rfl)
  · rename_i e; cases e
    simp [tr2, tr1, trCaps] at ht
    exact ht.symm
  · cases hc
theorem argVals_ok : ∀ {args : List (Bool × IA)} {rest0 as ls rest : List AV}, argVals args (args.map (fun x => rd l x.2) ++ rest0) = some (as, ls, rest) →
    rest = rest0 ∧ as.length = args.length ∧ ls.length = (tkArgs args).length ∧ (∀ (i : Nat) (tk : Bool) (x : IA), args[i]? = some (tk, x) → as[i]? = some (cond (tkS tk x) (rd l x) (kpA tk x (rd l x)))) ∧
    (∀ (j t : Nat), (tkArgs args)[j]? = some t → ls[j]? = some (l.getD t .dead).strip)
  | [], rest0, as, ls, rest, h => by
    simp [argVals] at h
    obtain ⟨rfl, rfl, rfl⟩ := h
    exact ⟨rfl, rfl, rfl, fun i tk x h => by simp at h, fun j t h => by simp [tkArgs] at h⟩
  | (tk, x) :: args, rest0, as, ls, rest, h => by
    simp only [List.map_cons, List.cons_append, argVals] at h
    split at h
    · rename_i as' ls' rest' h1
      obtain ⟨e1, e2, e3, e4, e5⟩ := argVals_ok h1
      cases htk : tkS tk x with
      | true =>
        rw [htk] at h; cases h
        obtain ⟨rfl, s, rfl⟩ := tkS_true htk
        refine ⟨e1, by simp [e2], by simp [tkArgs, exwx, e3], fun i tk' x' hi => ?_, fun j t hj => ?_⟩
        · cases i with
          | zero => simp at hi; obtain ⟨rfl, rfl⟩ := hi; rw [htk]; rfl
          | succ i => exact e4 i tk' x' (by simpa using hi)
        · cases j with
          | zero => simp [tkArgs, exwx] at hj; subst hj; rfl
          | succ j => exact e5 j t (by simpa [tkArgs, exwx] using hj)
      | false =>
        rw [htk] at h; cases h
        have hx := exwx_nil htk
        refine ⟨e1, by simp [e2], by simp [tkArgs, hx, e3], fun i tk' x' hi => ?_, fun j t hj => e5 j t (by simpa [tkArgs, hx] using hj)⟩
        cases i with
        | zero => simp at hi; obtain ⟨rfl, rfl⟩ := hi; rw [htk]; rfl
        | succ i => exact e4 i tk' x' (by simpa using hi)
    · cases h
theorem expDead_ok : ∀ {exp : List (Nat × Nat × Nat)} {rest0 rest : List AV}, expDead exp ((expHds exp).map (rd l) ++ rest0) = some rest → rest = rest0 ∧ ∀ x ∈ exp, l.getD x.2.2 .dead = .dead
  | [], rest0, rest, h => by simp [expDead, expHds] at h; exact ⟨h.symm, fun x hx => by simp at hx⟩
  | (a, n, b) :: exp, rest0, rest, h => by
    simp only [expHds, List.map_cons, List.cons_append] at h
    obtain ⟨v, hv⟩ : ∃ v, rd l (.s b) = v := ⟨_, rfl⟩
    rw [hv] at h
    cases v <;> simp only [expDead, reduceCtorEq] at h
    obtain ⟨e1, e2⟩ := expDead_ok h
    refine ⟨e1, fun x hx => ?_⟩
    cases hx with
    | head => exact hv
    | tail _ hx => exact e2 x hx
theorem passVals_ok : ∀ {pass : List (Nat × Nat × Nat)} {cells : List (List AV)}, passVals pass ((passAll pass).map (rd l)) = some cells → cells.length = pass.length ∧
    ∀ (k h n h' : Nat), pass[k]? = some (h, n, h') → l.getD h .dead = .hdr n ∧ cells[k]? = some ((rng (h + 1) n).map fun t => l.getD t .dead)
  | [], cells, h => by simp [passVals, passAll] at h; subst h; exact ⟨rfl, fun k h n h' hk => by simp at hk⟩
  | (a, n, b) :: pass, cells, h => by
    simp only [passAll, rng, List.map_cons, List.cons_append] at h
    obtain ⟨v, hv⟩ : ∃ v, rd l (.s a) = v := ⟨_, rfl⟩
    rw [hv] at h
    cases v <;> simp only [passVals, reduceCtorEq] at h
    rename_i n'
    obtain ⟨h1, h2⟩ := cond_some h
    simp only [Bool.and_eq_true] at h1
    have := nbeq h1.1; subst this
    have hlen : (((rng (a + 1) n).map IA.s).map (rd l)).length = n := by simp [rng_len]
    rw [List.map_append, List.drop_left' hlen, List.take_left' hlen] at h2
    split at h2
    · rename_i cells' h3
      cases h2
      obtain ⟨e1, e2⟩ := passVals_ok h3
      refine ⟨by simp [e1], fun k b n2 h' hk => ?_⟩
      cases k with
      | zero => simp at hk; obtain ⟨rfl, rfl, rfl⟩ := hk; exact ⟨hv, by rw [rd_rng]; rfl⟩
      | succ k => exact e2 k b n2 h' (by simpa using hk)
    · cases h2
theorem tk_get {ls : List AV} : ∀ {ts : List Nat} {l0 : List AV} {ls : List AV}, ls.length = ts.length → (∀ (j t : Nat), ts[j]? = some t → ls[j]? = some (l.getD t .dead).strip) → (∀ t ∈ ts, t < l0.length) →
    ∀ t, t ∈ ts → (setMany l0 ts ls).getD t .dead = (l.getD t .dead).strip
  | [], l0, ls, _, _, _, t, ht => by simp at ht
  | t0 :: ts, l0, [], hl, _, _, t, ht => by simp at hl
  | t0 :: ts, l0, v :: ls, hl, h, hlt, t, ht => by
    simp only [setMany]
    by_cases h1 : t ∈ ts
    · exact tk_get (ls := ls) (by simpa using hl) (fun j t hj => h (j + 1) t (by simpa using hj)) (fun t ht => by simpa using hlt t (by simp [ht])) t h1
    · have : t = t0 := by simpa [h1] using ht
      subst this
      rw [setMany_out _ _ _ h1, getD_set_eq _ _ (hlt t (by simp))]
      have := h 0 t rfl
      simpa using this
theorem mem_passCells : ∀ {pass : List (Nat × Nat × Nat)} {t : Nat}, t ∈ passCells pass ↔ ∃ x ∈ pass, x.1 + 1 ≤ t ∧ t < x.1 + 1 + x.2.1
  | [], t => by simp [passCells]
  | (h, n, h') :: pass, t => by simp [passCells, mem_rng, mem_passCells (pass := pass)]
theorem mem_expAll : ∀ {exp : List (Nat × Nat × Nat)} {t : Nat}, t ∈ expAll exp ↔ ∃ x ∈ exp, x.2.2 ≤ t ∧ t < x.2.2 + (x.2.1 + 1)
  | [], t => by simp [expAll]
  | (h', n, h) :: exp, t => by simp [expAll, mem_rng, mem_expAll (exp := exp)]
theorem pass_get : ∀ {pass : List (Nat × Nat × Nat)} {cs : List (List AV)} {l0 : List AV}, okLens (pass.map (·.2.1)) cs = true → (∀ x ∈ pass, x.1 + x.2.1 < l0.length) →
    (pass.Pairwise fun x y => x.1 + x.2.1 < y.1 ∨ y.1 + y.2.1 < x.1) → ∀ (k h n h' : Nat) (c : List AV), pass[k]? = some (h, n, h') → cs[k]? = some c → c.length = n ∧ ∀ j, j < n → (setMany l0 (passCells pass) cs.flatten).getD (h + 1 + j) .dead = c.getD j .dead
  | [], cs, l0, _, _, _, k, h, n, h', c, hk, _ => by simp at hk
  | (a, n0, b) :: pass, [], l0, ho, _, _, k, h, n, h', c, hk, hc => by simp [okLens] at ho
  | (a, n0, b) :: pass, c0 :: cs, l0, ho, hlt, hp, k, h, n, h', c, hk, hc => by
    simp only [List.map_cons, okLens, Bool.and_eq_true] at ho
    have hl := nbeq ho.1
    rw [List.pairwise_cons] at hp
    simp only [passCells, List.flatten_cons]
    rw [setMany_append _ _ _ _ _ (by rw [rng_len]; exact hl)]
    cases k with
    | zero =>
      simp at hk hc
      obtain ⟨rfl, rfl, rfl⟩ := hk; subst hc
      refine ⟨hl, fun j hj => ?_⟩
      rw [setMany_out _ _ _ (fun hm => ?_), setMany_rng _ _ _ _ hl hj (by have := hlt (a, n0, b) (by simp); simp only at this; omega)]
      obtain ⟨x, hx, h1, h2⟩ := mem_passCells.1 hm
      have := hp.1 x hx
      simp only at this
      omega
    | succ k =>
      exact pass_get ho.2 (fun x hx => by rw [len_setMany]; exact hlt x (by simp [hx])) hp.2 k h n h' c (by simpa using hk) (by simpa using hc)
theorem exp_get : ∀ {exp : List (Nat × Nat × Nat)} {es : List (List AV)} {l0 : List AV}, okLens (exp.map (·.2.1)) es = true → (∀ x ∈ exp, x.2.2 + x.2.1 < l0.length) →
    (exp.Pairwise fun x y => x.2.2 + x.2.1 < y.2.2 ∨ y.2.2 + y.2.1 < x.2.2) → ∀ (k h' n h : Nat) (c : List AV), exp[k]? = some (h', n, h) → es[k]? = some c → c.length = n ∧ (setMany l0 (expAll exp) (expOut exp es)).getD h .dead = .hdr n ∧
      ∀ j, j < n → (setMany l0 (expAll exp) (expOut exp es)).getD (h + 1 + j) .dead = c.getD j .dead
  | [], es, l0, _, _, _, k, h', n, h, c, hk, _ => by simp at hk
  | (b, n0, a) :: exp, [], l0, ho, _, _, k, h', n, h, c, hk, hc => by simp [okLens] at ho
  | (b, n0, a) :: exp, c0 :: es, l0, ho, hlt, hp, k, h', n, h, c, hk, hc => by
    simp only [List.map_cons, okLens, Bool.and_eq_true] at ho
    have hl := nbeq ho.1
    rw [List.pairwise_cons] at hp
    have hcons : AV.hdr n0 :: (c0 ++ expOut exp es) = (AV.hdr n0 :: c0) ++ expOut exp es := rfl
    simp only [expAll, expOut]
    rw [hcons, setMany_append _ _ _ _ _ (by rw [rng_len]; simp [hl])]
    cases k with
    | zero =>
      simp at hk hc
      obtain ⟨rfl, rfl, rfl⟩ := hk; subst hc
      have hlt0 := hlt (b, n0, a) (by simp)
      have hout : ∀ j, j < n0 + 1 → a + j ∉ expAll exp := fun j hj hm => by
        obtain ⟨x, hx, h1, h2⟩ := mem_expAll.1 hm
        have := hp.1 x hx
        simp only at this
        omega
      refine ⟨hl, ?_, fun j hj => ?_⟩
      · have h1 := hout 0 (by omega)
        rw [Nat.add_zero] at h1
        rw [setMany_out _ _ _ h1]
        have := setMany_rng (n0 + 1) a (.hdr n0 :: c0) l0 (j := 0) (by simp [hl]) (by omega) (by simp only at hlt0; omega)
        simpa using this
      · have h1 := hout (j + 1) (by omega)
        rw [show a + (j + 1) = a + 1 + j by omega] at h1
        rw [setMany_out _ _ _ h1]
        have := setMany_rng (n0 + 1) a (.hdr n0 :: c0) l0 (j := j + 1) (by simp [hl]) (by omega) (by simp only at hlt0; omega)
        rw [show a + (j + 1) = a + 1 + j by omega] at this
        simpa using this
    | succ k =>
      exact exp_get ho.2 (fun x hx => by rw [len_setMany]; exact hlt x (by simp [hx])) hp.2 k h' n h c (by simpa using hk) (by simpa using hc)
end
end Go.Proofs.Ytafnmkbehjbkdaa.M
