/- What an argument's reading says of its cells: a value that reads as data of a type is one of the machine's values, and its rows are as short as its weights and its bulk allow. -/
import Derived.SizedLaws
import Derived.ChangeArms
import Derived.ChangeSlices
import Derived.Deep.Slices
import Derived.WideShapes
import Derived.Below
import Derived.Test.YtafnmkbehjbkdaaRows
import Derived.Test.YtafnmkbehjbkdaaMachX
set_option linter.unusedVariables false
namespace Go.Proofs.Ytafnmkbehjbkdaa.M
open Go Go.ChangeShapes Go.WideShapes Go.RowKit Go.Deep
def Fit {H : Type} (P : Program) (M : Nat) (t : TypeId) (D : DataW H) : Prop := (∀ n ∈ DataW.weights P t D, n ≤ reachBytes) ∧ Rows.uptoBulk D ≤ M
def Rng (k : IntKind) (n : Int) : Prop := k.min ≤ n ∧ n ≤ k.max
theorem rng_of {k : IntKind} {n : Int} (h : (Lit.int k n).wf = true) : Rng k n := by
  simpa [Lit.wf, Rng] using h
theorem Rng.i64 {n : Int} (h : Rng .i64 n) : -9223372036854775808 ≤ n ∧ n ≤ 9223372036854775807 := h
theorem Rng.u64 {n : Int} (h : Rng .u64 n) : 0 ≤ n ∧ n ≤ 18446744073709551615 := h
theorem Rng.u32 {n : Int} (h : Rng .u32 n) : 0 ≤ n ∧ n ≤ 4294967295 := h
theorem Rng.u8 {n : Int} (h : Rng .u8 n) : 0 ≤ n ∧ n ≤ 255 := h
theorem bulkAll_mem {H : Type} {d : DataW H} : ∀ {l : List (DataW H)}, d ∈ l → Rows.uptoBulk d ≤ Rows.uptoBulkAll l
  | [], h => by cases h
  | e :: r, h => by
    rcases List.mem_cons.1 h with rfl | h
    · simp only [Rows.uptoBulkAll]; omega
    · have := bulkAll_mem h
      simp only [Rows.uptoBulkAll]; omega
theorem bulk_pos {H : Type} (d : DataW H) : 1 ≤ Rows.uptoBulk d := by
  cases d with
  | lit l => cases l <;> simp [Rows.uptoBulk]
  | _ => simp [Rows.uptoBulk]
theorem bulkAll_length {H : Type} : ∀ (l : List (DataW H)), l.length ≤ Rows.uptoBulkAll l
  | [] => by simp
  | e :: r => by
    have := bulkAll_length r
    have := bulk_pos e
    simp only [Rows.uptoBulkAll, List.length_cons]; omega
theorem weightsAll_mem {H : Type} {P : Program} {e : TypeId} {d : DataW H} {n : Nat} (hn : n ∈ DataW.weights P e d) : ∀ {l : List (DataW H)}, d ∈ l → n ∈ DataW.weightsAll P e l
  | [], h => by cases h
  | a :: r, h => by
    rcases List.mem_cons.1 h with rfl | h
    · simp only [DataW.weightsAll, List.mem_append]; exact .inl hn
    · simp only [DataW.weightsAll, List.mem_append]; exact .inr (weightsAll_mem hn h)
theorem fit_elem {H : Type} {P : Program} {M : Nat} {t e : TypeId} (ht : P.underlying t = some (.slice e)) {es sp : List (DataW H)} (h : Fit P M t (.slice es sp)) {D : DataW H} (hD : D ∈ es) : Fit P M e D := by
  refine ⟨fun n hn => h.1 n ?_, ?_⟩
  · simp only [DataW.weights, ht, List.mem_cons, List.mem_append]
    exact .inr (.inl (weightsAll_mem hn hD))
  · have h2 := h.2
    simp only [Rows.uptoBulk] at h2
    have := bulkAll_mem hD
    omega
theorem list_of {α : Type} {p : Nat → α → Prop} : ∀ {n : Nat}, (∀ i, i < n → ∃ a, p i a) → ∃ xs : List α, xs.length = n ∧ ∀ i a, xs[i]? = some a → p i a
  | 0, _ => ⟨[], rfl, fun i a h => by simp at h⟩
  | n + 1, h => by
    obtain ⟨xs, hl, hx⟩ := list_of (n := n) fun i hi => h i (by omega)
    obtain ⟨a, ha⟩ := h n (by omega)
    refine ⟨xs ++ [a], by simp [hl], fun i b hb => ?_⟩
    by_cases hi : i < n
    · rw [List.getElem?_append_left (by omega)] at hb; exact hx i b hb
    · rw [List.getElem?_append_right (by omega)] at hb
      have : i - xs.length = 0 := by
        have := (List.getElem?_eq_some_iff.1 hb).1
        simp at this; omega
      rw [this] at hb
      simp at hb
      obtain rfl : i = n := by omega
      exact hb ▸ ha
def g0 (w : World) : Gh := ⟨fun _ => none, fun _ => none, fun B => cond (decide (B < w.heap.size)) none (some 0), fun _ => false, 0⟩
def C0 (w : World) (cs : List AV) (vs : List Value) : Prop := cs.length = vs.length ∧ ∀ (i : Nat) (a : AV) (v : Value), cs[i]? = some a → vs[i]? = some v → V0 (g0 w) w a v
theorem C0.one {w : World} {a : AV} {v : Value} (h : V0 (g0 w) w a v) : C0 w [a] [v] := ⟨rfl, fun i b u hb hu => by
  cases i with
  | zero => simp at hb hu; subst hb; subst hu; exact h
  | succ i => simp at hb⟩
theorem C0.append {w : World} {a b : List AV} {u v : List Value} (h : C0 w a u) (k : C0 w b v) : C0 w (a ++ b) (u ++ v) := by
  refine ⟨by simp [h.1, k.1], fun i x y hx hy => ?_⟩
  by_cases hi : i < a.length
  · rw [List.getElem?_append_left hi] at hx
    rw [List.getElem?_append_left (by rw [← h.1]; exact hi)] at hy
    exact h.2 i x y hx hy
  · rw [List.getElem?_append_right (by omega)] at hx
    rw [List.getElem?_append_right (by rw [← h.1]; omega), ← h.1] at hy
    exact k.2 _ x y hx hy
def Sp (v : Value) : Prop := ∀ a len cap, v = .slice (some a) len cap → a.spot = none
theorem sp_of {P : Program} {w : World} {r : Reach} {base : Nat} {t : TypeId} {v : Value} (h : Cell.okWide P w r base t v) : Sp v := by
  rintro a len cap rfl
  unfold Cell.okWide at h
  have h2 : Cell.ok P w r base t (.slice (some a) len cap) := by
    split at h <;> first | exact h | (rename_i h1; cases h1) | (rename_i h1 _; cases h1)
  unfold Cell.ok at h2
  split at h2 <;> first | (rename_i h1; cases h1; done) | (rename_i h1 _; cases h1; done) | skip
  all_goals first
    | (rename_i e a' len' cap' h1 h3; cases h3; exact h2.2.2.2.1)
    | (cases h2)
theorem sps_of {P : Program} {w : World} {r : Reach} {base : Nat} {t : TypeId} {cs : Array Value} (h : Row.okWide P w r base t cs) : ∀ v ∈ cs.toList, Sp v := by
  obtain ⟨ts, _, _, h3⟩ := h
  intro v hv
  obtain ⟨i, hi⟩ := List.getElem?_of_mem hv
  obtain ⟨u, _, h4⟩ := h3 i v (by simpa using hi)
  exact sp_of h4
def Opens {α : Type} (S : Value → Prop) (P : Program) (M : Nat) (t : TypeId) (c : α → List AV) (G : α → Prop) : Prop :=
  ∀ {H : Type} {enc : TypeId × Value → H} {w : World} {base : Nat} {held : Bool} {fuel : Nat} {cs : List Value} {x : DataW H × List MemPlace},
    (∀ v ∈ cs, S v) → DataW.trod enc P w base (fun _ => true) held fuel t cs = some x → Fit P M t x.1 → ∃ a, C0 w (c a) cs ∧ G a
section
variable {S : Value → Prop} {P : Program} {M : Nat} {t e : TypeId}
theorem opens_int {k : IntKind} (ht : P.underlying t = some (.int k)) : Opens S P M t (fun n => [.sc (.int k n)]) (Rng k) := by
  intro H enc w base held fuel cs x _ h _
  obtain ⟨n, rfl, rfl, hw⟩ := DataW.trod_int ht h
  exact ⟨n, .one (.sc _ rfl), rng_of hw⟩
theorem opens_slice {α : Type} {c : α → List AV} {z : α} {G : α → Prop} {sz : Nat} (ht : P.underlying t = some (.slice e)) (hc : P.cellsOf e = sz) (hz : ∀ a, (c a).length = sz) (h0 : 0 < sz) (he : Opens (fun _ => True) P M e c G) :
    Opens S P M t (fun xs => [.row false sz xs.length (rg c z xs)]) (fun xs => xs.length ≤ 9223372036854775807 ∧ xs.length * P.bytesOf e ≤ 140737488351232 ∧ xs.length ≤ M ∧ ∀ y ∈ xs, G y) := by
  intro H enc w base held fuel cs x hS h hf
  rcases open_slice ht h with ⟨rfl, rfl⟩ | ⟨a, len, cap, m, n, D, Pl, rfl, hba, hl, hm, hmm, rfl, hx⟩
  · exact ⟨[], .one (.nil _ _), by simp, by simp, by simp, by simp⟩
  · have hmc : m = cap := by rw [hmm]; rfl
    have hlm : len ≤ m := by omega
    have hes : ((List.range len).map D).length = len := by simp
    by_cases hcap : cap = 0
    · have hl0 : len = 0 := by omega
      subst hcap hl0
      exact ⟨[], .one (.zero _ _ _), by simp, by simp, by simp, by simp⟩
    have hsp : a.spot = none := by
      obtain ⟨cs', h1, _⟩ := hx 0 (by omega)
      rw [hc, Nat.zero_mul] at h1
      have h2 := (World.cells?_some h1).2.2 0 (by have := (World.cells?_some h1).2.1; omega)
      have h3 : cs'[0]? ≠ none := fun e => by
        have := (World.cells?_some h1).2.1
        rw [List.getElem?_eq_none_iff] at e; omega
      cases hc0 : cs'[0]? with
      | none => exact absurd hc0 h3
      | some u =>
        rw [hc0] at h2
        have := World.cell?_spot h2
        simpa [Addr.add] using this
    obtain ⟨B, o, sp⟩ := a
    simp at hsp
    subst hsp
    have hadd : ∀ o i, (⟨B, o, none⟩ : Addr).add i = ⟨B, o + i, none⟩ := fun o i => by
      unfold Addr.add
      split
      · rename_i h0; subst h0; rfl
      · rfl
    obtain ⟨xs, hxl, hxs⟩ := list_of (α := α) (p := fun i y => G y ∧ ∃ cs', C0 w (c y) cs' ∧ ∀ j u, cs'[j]? = some u → w.cell? ⟨B, o + i * sz + j, none⟩ = some u) (n := len) (fun i hi => by
      obtain ⟨cs', h1, h2⟩ := hx i (by omega)
      obtain ⟨y, hK, hG⟩ := he (fun _ _ => trivial) h2 (fit_elem ht hf (List.mem_map.2 ⟨i, List.mem_range.2 hi, rfl⟩))
      refine ⟨y, hG, cs', hK, fun j u hu => ?_⟩
      rw [hc] at h1
      have hlen := hK.1
      rw [hz] at hlen
      have hj : j < cs'.length := (List.getElem?_eq_some_iff.1 hu).1
      have := (World.cells?_some h1).2.2 j (by omega)
      rw [hadd, hadd] at this
      rw [this, hu])
    refine ⟨xs, ?_, ?_, ?_, ?_, ?_⟩
    · refine .one ?_
      have hget : ∀ i, i < xs.length → ∃ y, xs[i]? = some y ∧ xs.getD i z = y := fun i hi => ⟨xs[i], List.getElem?_eq_getElem hi, by simp [List.getD_eq_getElem?_getD, hi]⟩
      have hcell : ∀ i j, i < xs.length → j < sz → ∃ u, w.cell? ⟨B, o + i * sz + j, none⟩ = some u := fun i j hi hj => by
        obtain ⟨y, h1, _⟩ := hget i hi
        obtain ⟨_, cs', hC, hcs⟩ := hxs i y h1
        have hl := hC.1
        rw [hz] at hl
        exact ⟨_, hcs j cs'[j] (List.getElem?_eq_getElem (by omega))⟩
      rw [show len = xs.length from hxl.symm]
      refine .row sz xs.length _ B o cap (fun i j => (w.cell? ⟨B, o + i * sz + j, none⟩).getD undef) (by omega) ?_ (fun i hi => hz _) (fun i j hi hj => ?_) (fun i j a hi ha => ?_)
      · by_cases h0 : xs.length * sz = 0
        · exact .inl h0
        · have hn0 : 0 < xs.length := Nat.pos_of_ne_zero fun h => h0 (by simp [h])
          have hs0 : 0 < sz := Nat.pos_of_ne_zero fun h => h0 (by simp [h])
          obtain ⟨u, hu⟩ := hcell 0 0 hn0 hs0
          refine .inr fun n hn => ?_
          have hlt : B < w.heap.size := by
            simp only [World.cell?] at hu
            cases hb : w.heap[B]? with
            | none => rw [hb] at hu; cases hu
            | some ob => exact (Array.getElem?_eq_some_iff.1 hb).1
          simp only [g0, hlt, decide_true, cond_true] at hn
          cases hn
      · obtain ⟨u, hu⟩ := hcell i j hi hj
        rw [hu]; rfl
      · obtain ⟨y, h1, h2⟩ := hget i hi
        obtain ⟨_, cs', hC, hcs⟩ := hxs i y h1
        have ha' : (c y)[j]? = some a := by rw [← h2]; exact ha
        have hl := hC.1
        have hj : j < cs'.length := by rw [← hl]; exact (List.getElem?_eq_some_iff.1 ha').1
        rw [hcs j cs'[j] (List.getElem?_eq_getElem hj)]
        exact hC.2 j a _ ha' (List.getElem?_eq_getElem hj)
    · have : cap ≤ 9223372036854775807 := hm; omega
    · have := hf.1 ((((List.range len).map D).length + ((List.range (m - len)).map fun j => D (len + j)).length) * P.bytesOf e) (by simp only [DataW.weights, ht]; exact List.mem_cons_self)
      rw [hes] at this
      have h5 : xs.length * P.bytesOf e ≤ (len + ((List.range (m - len)).map fun j => D (len + j)).length) * P.bytesOf e := Nat.mul_le_mul_right _ (by omega)
      exact Nat.le_trans h5 this
    · have h2 := hf.2
      simp only [Rows.uptoBulk] at h2
      have := bulkAll_length ((List.range len).map D)
      rw [hes] at this
      omega
    · intro y hy
      obtain ⟨i, hi⟩ := List.getElem?_of_mem hy
      exact (hxs i y hi).1
end
theorem fit_arg {H : Type} {P : Program} {ts : List TypeId} {ds : List (DataW H)} (hsz : (DataW.weightsEach P ts ds).all (· ≤ reachBytes) = true) {j : Nat} {t : TypeId} {D : DataW H} (ht : ts[j]? = some t) (hd : ds[j]? = some D) {M : Nat} (hM : Rows.uptoBulk D ≤ M) : Fit P M t D :=
  ⟨fun n hn => by have := List.all_eq_true.1 hsz n (DataW.weights_mem_each ht hd n hn); simpa using this, hM⟩
theorem bulk_arg {H : Type} {ds : List (DataW H)} {M : Nat} (h : Rows.uptoBulkAll ds ≤ M) {j : Nat} {D : DataW H} (hd : ds[j]? = some D) : Rows.uptoBulk D ≤ M := Nat.le_trans (bulkAll_mem (List.mem_of_getElem? hd)) h
theorem arg1 {w : World} {a : AV} {v : Value} {L : List Nat} (h : V0 (g0 w) w a v) : V3 (g0 w) w L a v := .c (.c (.of0 h))
theorem c0_inv {w : World} {a : AV} {vs : List Value} (h : C0 w [a] vs) : ∃ v, vs = [v] ∧ V0 (g0 w) w a v := by
  obtain ⟨h1, h2⟩ := h
  match vs, h1 with
  | [v], _ => exact ⟨v, rfl, h2 0 a v rfl rfl⟩
def ArgsOk (w : World) (av : List AV) (vs : List Value) : Prop := vs.length = av.length ∧ ∀ (i : Nat) (a : AV) (v : Value), av[i]? = some a → vs[i]? = some v → ∀ L, V3 (g0 w) w L a v
theorem args_nil (w : World) : ArgsOk w [] [] := ⟨rfl, fun i a v h => by simp at h⟩
theorem args_cons {w : World} {a : AV} {v : Value} {av : List AV} {vs : List Value} (h : ∀ L, V3 (g0 w) w L a v) (k : ArgsOk w av vs) : ArgsOk w (a :: av) (v :: vs) :=
  ⟨by simp [k.1], fun i b u hb hu => by
    cases i with
    | zero => simp at hb hu; subst hb; subst hu; exact h
    | succ i => exact k.2 i b u (by simpa using hb) (by simpa using hu)⟩
theorem okWide_cells {P : Program} {w : World} {r : Reach} {base : Nat} {t : TypeId} {v : Value} (h : Value.okWide P w r base t v) : (∀ u ∈ v.cells.toList, Sp u) ∧ ((∃ cs, v = .agg cs) ∨ v.cells.toList = [v]) := by
  unfold Value.okWide at h
  split at h
  · obtain ⟨cs, rfl, _, h2⟩ := h
    exact ⟨sps_of h2, .inl ⟨cs, rfl⟩⟩
  · obtain ⟨cs, rfl, _, h2⟩ := h
    exact ⟨sps_of h2, .inl ⟨cs, rfl⟩⟩
  · have h1 := sp_of h
    cases v with
    | agg cs => exact ⟨fun u hu => by
        unfold Cell.okWide at h
        split at h <;> first | (rename_i h1; cases h1; done) | (rename_i h1 _; cases h1; done) | skip
        all_goals
          unfold Cell.ok at h
          split at h <;> first | (rename_i h1; cases h1; done) | (rename_i h1 _; cases h1; done) | (cases h; done), .inl ⟨cs, rfl⟩⟩
    | _ => exact ⟨fun u hu => by simp [Value.cells] at hu; subst hu; exact h1, .inr rfl⟩
theorem law_calls {P : Program} {T : Nat → Option IFn} (hI : ∀ gf sz bytes, plugI gf sz bytes = true → InsOk P gf sz bytes) (hT : ∀ id f, T id = some f → chkFn P T f = true) {k id : Nat} {f : IFn} (hf : T id = some f) (hp : f.pass = []) {av : List AV} {vs : List Value} {w : World}
    (h : runF T k id av [] = some ⟨.sc (.bool true), [], []⟩) (ha : ArgsOk w av vs) :
    Calls P f.go vs.toArray w fun e w' => e = .returned (.bool true) ∧ Below w.heap.size w w' := by
  have hh : Handed f av [] (g0 w) w vs := ⟨ha.1, fun i a v h1 h2 => ha.2 i a v h1 h2 _, fun k h n cs h1 h2 => (by rw [hp] at h1; simp at h1), fun h B hB => (by cases hB), fun h => (by rw [hp]; rfl), fun B hB => ⟨rfl, (by simp only [g0]; rw [decide_eq_false (by omega)]; rfl)⟩⟩
  refine ((runF_ok hI hT k).ok id f av [] _ hf h (g0 w) w vs hh).mono ?_
  rintro e w' ⟨u, g', rfl, hb⟩
  have hu : u = .bool true := by
    have := hb.res
    cases this with
    | c h => cases h with
      | c h => cases h with
        | of0 h => cases h; rfl
  refine ⟨by rw [hu], hb.ext.os, hb.ext.tape, hb.ext.output, hb.ext.size, fun B hB => (hb.ext.out B hB rfl).1⟩
end Go.Proofs.Ytafnmkbehjbkdaa.M
