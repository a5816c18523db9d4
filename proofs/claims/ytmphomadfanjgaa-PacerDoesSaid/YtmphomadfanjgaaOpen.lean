/- What an argument's reading says of its cells, kind by kind: a value that reads as data of a type is of the type's kind, and its rows are as short as its weights and its bulk allow. -/
import Derived.SizedLaws
import Derived.ChangeArms
import Derived.ChangeSlices
import Derived.Deep.Slices
import Derived.WideShapes
import Derived.Test.YtmphomadfanjgaaWWords
import Derived.Test.YtmphomadfanjgaaRows
namespace Go.Proofs.Ytmphomadfanjgaa.Open
open Go.Proofs.YtmphomadfanjgaaW.PrintWords
open Go.ChangeShapes Go.WideShapes Go.Deep

/-- What is given of a reading's data: its weights and its bulk are bounded. -/
def Fit {H : Type} (P : Program) (M : Nat) (t : TypeId) (D : DataW H) : Prop := (∀ n ∈ DataW.weights P t D, n ≤ reachBytes) ∧ Rows.uptoBulk D ≤ M

/-- What reads as a type's data is of the kind d, and G holds of it. -/
def Opens {α : Type} (P : Program) (M : Nat) (t : TypeId) (d : Kd α) (G : α → Prop) : Prop :=
  ∀ {H : Type} {enc : TypeId × Value → H} {w : World} {base : Nat} {spare : Nat → Bool} {held : Bool} {fuel : Nat} {cs : List Value} {x : DataW H × List MemPlace},
    DataW.trod enc P w base spare held fuel t cs = some x → Fit P M t x.1 → ∃ a, d.K w a cs ∧ G a

/-- A whole number's range. -/
def Rng (k : IntKind) (n : Int) : Prop := k.min ≤ n ∧ n ≤ k.max
theorem rng_of {k : IntKind} {n : Int} (h : (Lit.int k n).wf = true) : Rng k n := by
  simpa [Lit.wf, Rng] using h
theorem Rng.i64 {n : Int} (h : Rng .i64 n) : -9223372036854775808 ≤ n ∧ n ≤ 9223372036854775807 := h
theorem Rng.u64 {n : Int} (h : Rng .u64 n) : 0 ≤ n ∧ n ≤ 18446744073709551615 := h
theorem Rng.u32 {n : Int} (h : Rng .u32 n) : 0 ≤ n ∧ n ≤ 4294967295 := h
theorem Rng.u8 {n : Int} (h : Rng .u8 n) : 0 ≤ n ∧ n ≤ 255 := h
theorem Opens.weaken {α : Type} {P : Program} {M : Nat} {t : TypeId} {d : Kd α} {G G' : α → Prop} (h : Opens P M t d G) (hG : ∀ a, G a → G' a) : Opens P M t d G' := by
  intro H enc w base spare held fuel cs x hx hf
  obtain ⟨a, hK, hg⟩ := h hx hf
  exact ⟨a, hK, hG a hg⟩
theorem opens_int {P : Program} {M : Nat} {t : TypeId} {k : IntKind} (ht : P.underlying t = some (.int k)) : Opens P M t (Kd.int k) (Rng k) := by
  intro H enc w base spare held fuel cs x h _
  obtain ⟨n, rfl, rfl, hw⟩ := DataW.trod_int ht h
  exact ⟨n, rfl, rng_of hw⟩
theorem opens_bool {P : Program} {M : Nat} {t : TypeId} (ht : P.underlying t = some .bool) : Opens P M t Kd.bool (fun _ => True) := by
  intro H enc w base spare held fuel cs x h _
  obtain ⟨n, rfl, rfl⟩ := DataW.trod_bool ht h
  exact ⟨n, rfl, trivial⟩
theorem opens_string {P : Program} {M : Nat} {t : TypeId} (ht : P.underlying t = some .string) : Opens P M t Kd.string (fun s => s.size ≤ 140737488351232 ∧ s.size ≤ M) := by
  intro H enc w base spare held fuel cs x h hf
  obtain ⟨n, rfl, rfl, _⟩ := DataW.trod_string ht h
  refine ⟨n, rfl, ?_, ?_⟩
  · have := hf.1 n.data.toList.length (by simp [DataW.weights])
    simpa [reachBytes] using this
  · have := hf.2
    simp only [Rows.uptoBulk, Array.length_toList] at this
    exact Nat.le_trans (Nat.le_succ _) this

theorem bulkAll_mem {H : Type} {d : DataW H} : ∀ {l : List (DataW H)}, d ∈ l → Rows.uptoBulk d ≤ Rows.uptoBulkAll l
  | [], h => by cases h
  | e :: r, h => by
    rcases List.mem_cons.1 h with rfl | h
    · simp only [Rows.uptoBulkAll]; omega
    · have := bulkAll_mem h
      simp only [Rows.uptoBulkAll]; omega
theorem bulk_pos {H : Type} (d : DataW H) : 1 ≤ Rows.uptoBulk d := by
  cases d with
  | lit l => cases l <;> simp [Rows.uptoBulk]
  | _ => simp [Rows.uptoBulk]
theorem bulkAll_length {H : Type} : ∀ (l : List (DataW H)), l.length ≤ Rows.uptoBulkAll l
  | [] => by simp
  | e :: r => by
    have := bulkAll_length r
    have := bulk_pos e
    simp only [Rows.uptoBulkAll, List.length_cons]; omega
theorem weightsAll_mem {H : Type} {P : Program} {e : TypeId} {d : DataW H} {n : Nat} (hn : n ∈ DataW.weights P e d) : ∀ {l : List (DataW H)}, d ∈ l → n ∈ DataW.weightsAll P e l
  | [], h => by cases h
  | a :: r, h => by
    rcases List.mem_cons.1 h with rfl | h
    · simp only [DataW.weightsAll, List.mem_append]; exact .inl hn
    · simp only [DataW.weightsAll, List.mem_append]; exact .inr (weightsAll_mem hn h)

theorem fit_agg {H : Type} {P : Program} {M : Nat} {t : TypeId} {fs : Array Field} (ht : P.underlying t = some (.struct fs)) {parts : List (DataW H)} (h : Fit P M t (.agg parts)) {i : Nat} {f : Field} {D : DataW H} (hf : fs.toList[i]? = some f) (hD : parts[i]? = some D) :
    Fit P M f.type D := by
  refine ⟨fun n hn => h.1 n ?_, ?_⟩
  · simp only [DataW.weights, ht]
    exact DataW.weights_mem_each (j := i) (by simp [List.getElem?_map, hf]) hD n hn
  · have h2 := h.2
    simp only [Rows.uptoBulk] at h2
    have := bulkAll_mem (List.mem_of_getElem? hD)
    omega

theorem fit_elem {H : Type} {P : Program} {M : Nat} {t e : TypeId} (ht : P.underlying t = some (.slice e)) {es sp : List (DataW H)} (h : Fit P M t (.slice es sp)) {D : DataW H} (hD : D ∈ es) : Fit P M e D := by
  refine ⟨fun n hn => h.1 n ?_, ?_⟩
  · simp only [DataW.weights, ht, List.mem_cons, List.mem_append]
    exact .inr (.inl (weightsAll_mem hn hD))
  · have h2 := h.2
    simp only [Rows.uptoBulk] at h2
    have := bulkAll_mem hD
    omega

theorem list_of {α : Type} {p : Nat → α → Prop} : ∀ {n : Nat}, (∀ i, i < n → ∃ a, p i a) → ∃ xs : List α, xs.length = n ∧ ∀ i a, xs[i]? = some a → p i a
  | 0, _ => ⟨[], rfl, fun i a h => by simp at h⟩
  | n + 1, h => by
    obtain ⟨xs, hl, hx⟩ := list_of (n := n) fun i hi => h i (by omega)
    obtain ⟨a, ha⟩ := h n (by omega)
    refine ⟨xs ++ [a], by simp [hl], fun i b hb => ?_⟩
    by_cases hi : i < n
    · rw [List.getElem?_append_left (by omega)] at hb; exact hx i b hb
    · rw [List.getElem?_append_right (by omega)] at hb
      have : i - xs.length = 0 := by
        have := (List.getElem?_eq_some_iff.1 hb).1
        simp at this; omega
      rw [this] at hb
      simp at hb
      obtain rfl : i = n := by omega
      exact hb ▸ ha

theorem opens_slice {α : Type} {P : Program} {M : Nat} {t e : TypeId} {d : Kd α} {G : α → Prop} (ht : P.underlying t = some (.slice e)) (hc : P.cellsOf e = d.sz) (he : Opens P M e d G) :
    Opens P M t (Kd.slice e d) (fun xs => xs.length ≤ 9223372036854775807 ∧ xs.length * P.bytesOf e ≤ 140737488351232 ∧ xs.length ≤ M ∧ ∀ y ∈ xs, G y) := by
  intro H enc w base spare held fuel cs x h hf
  rcases open_slice ht h with ⟨rfl, rfl⟩ | ⟨a, len, cap, m, n, D, Pl, rfl, hba, hl, hm, hmm, rfl, hx⟩
  · exact ⟨[], ⟨none, 0, rfl, Nat.le_refl _, rfl, by simp, fun h => by simp at h⟩, by simp, by simp, by simp, by simp⟩
  · have hlm : len ≤ m := by rw [hmm]; split <;> omega
    have hes : ((List.range len).map D).length = len := by simp
    obtain ⟨xs, hxl, hxs⟩ := list_of (α := α) (p := fun i y => G y ∧ ∃ cs', cs'.length = d.sz ∧ d.K w y cs' ∧ ∀ j u, cs'[j]? = some u → w.cell? (a.add (i * d.sz + j)) = some u) (n := len) (fun i hi => by
      obtain ⟨cs', h1, h2⟩ := hx i (by omega)
      obtain ⟨y, hK, hG⟩ := he h2 (fit_elem ht hf (List.mem_map.2 ⟨i, List.mem_range.2 hi, rfl⟩))
      refine ⟨y, hG, cs', d.K_len hK, hK, fun j u hu => ?_⟩
      rw [hc] at h1
      have hlen := d.K_len hK
      have hj : j < cs'.length := (List.getElem?_eq_some_iff.1 hu).1
      have := (World.cells?_some h1).2.2 j (by omega)
      rw [Go.Deep.add_add] at this
      rw [this, hu])
    refine ⟨xs, ⟨some a, cap, by rw [hxl], by omega, rfl, by have : cap ≤ 9223372036854775807 := hm; omega, fun _ => ⟨a, rfl, fun j p hp => ?_⟩⟩, ?_, ?_, ?_, ?_⟩
    · obtain ⟨_, cs', h1, h2, h3⟩ := hxs j p hp
      exact ⟨cs', h1, h2, h3⟩
    · have : cap ≤ 9223372036854775807 := hm; omega
    · have := hf.1 ((((List.range len).map D).length + ((List.range (m - len)).map fun j => D (len + j)).length) * P.bytesOf e) (by simp only [DataW.weights, ht]; exact List.mem_cons_self)
      rw [hes] at this
      have h5 : xs.length * P.bytesOf e ≤ (len + ((List.range (m - len)).map fun j => D (len + j)).length) * P.bytesOf e := Nat.mul_le_mul_right _ (by omega)
      exact Nat.le_trans h5 this
    · have h2 := hf.2
      simp only [Rows.uptoBulk] at h2
      have := bulkAll_length ((List.range len).map D)
      rw [hes] at this
      omega
    · intro y hy
      obtain ⟨i, hi⟩ := List.getElem?_of_mem hy
      exact (hxs i y hi).1

/-- A struct's fields, from cell 'off' on. -/
def OpensF {α : Type} (P : Program) (M : Nat) (off : Nat) (fs : List Field) (d : Kd α) (G : α → Prop) : Prop :=
  ∀ {H : Type} {enc : TypeId × Value → H} {w : World} {base : Nat} {spare : Nat → Bool} {held : Bool} {n : Nat} {cs : List Value} {xs : List (DataW H × List MemPlace)},
    xs.length = fs.length → (∀ (i : Nat) (f : Field), fs[i]? = some f → DataW.trod enc P w base spare held n f.type ((cs.drop f.offset).take (P.cellsOf f.type)) = xs[i]?) → cs.length = off + d.sz →
    (∀ (i : Nat) (f : Field) (D : DataW H × List MemPlace), fs[i]? = some f → xs[i]? = some D → Fit P M f.type D.1) → ∃ a, d.K w a (cs.drop off) ∧ G a

theorem opensF_one {α : Type} {P : Program} {M off : Nat} {f : Field} {d : Kd α} {G : α → Prop} (ho : f.offset = off) (hc : P.cellsOf f.type = d.sz) (h : Opens P M f.type d G) : OpensF P M off [f] d G := by
  intro H enc w base spare held n cs xs hl ht hs hf
  match xs, hl with
  | [x], _ =>
    have h1 := ht 0 f rfl
    rw [ho, hc, List.take_of_length_le (by simp; omega)] at h1
    exact h h1 (hf 0 f x rfl rfl)
theorem opensF_cons {α β : Type} {P : Program} {M off : Nat} {f : Field} {fs : List Field} {d : Kd α} {d' : Kd β} {G : α → Prop} {G' : β → Prop} (ho : f.offset = off) (hc : P.cellsOf f.type = d.sz) (h : Opens P M f.type d G) (h' : OpensF P M (off + d.sz) fs d' G') :
    OpensF P M off (f :: fs) (Kd.pair d d') (fun x => G x.1 ∧ G' x.2) := by
  intro H enc w base spare held n cs xs hl ht hs hf
  match xs, hl with
  | x :: xs, hl =>
    have h1 := ht 0 f rfl
    rw [ho, hc] at h1
    obtain ⟨a, hK, hG⟩ := h h1 (hf 0 f x rfl rfl)
    have hsz : (Kd.pair d d').sz = d.sz + d'.sz := rfl
    obtain ⟨b, hK', hG'⟩ := h' (cs := cs) (xs := xs) (by simpa using hl) (fun i g hg => ht (i + 1) g hg) (by omega) (fun i g D hg hD => hf (i + 1) g D hg hD)
    refine ⟨(a, b), ⟨_, _, ?_, hK, hK'⟩, hG, hG'⟩
    rw [← List.drop_drop]
    exact (List.take_append_drop _ _).symm
theorem opens_struct {α : Type} {P : Program} {M : Nat} {t : TypeId} {fs : Array Field} {d : Kd α} {G : α → Prop} (ht : P.underlying t = some (.struct fs)) (hc : P.cellsOf t = d.sz) (h : OpensF P M 0 fs.toList d G) : Opens P M t d G := by
  intro H enc w base spare held fuel cs x hx hf
  obtain ⟨xs, n, rfl, rfl, hl, hn, hi⟩ := DataW.trod_struct ht hx
  obtain ⟨a, hK, hG⟩ := h (xs := xs) (by simpa using hn) (fun i f hg => hi i f (by simpa using hg)) (by rw [hl, hc]; simp) (fun i f D hg hD => fit_agg ht hf (i := i) hg (by simp [List.getElem?_map, hD]))
  exact ⟨a, by simpa using hK, hG⟩
theorem opens_iso {α β : Type} {P : Program} {M : Nat} {t : TypeId} {d : Kd α} {G : α → Prop} (h : Opens P M t d G) (f : β → α) (g : α → β) (hfg : ∀ a, f (g a) = a) : Opens P M t (Kd.iso d f) (fun y => G (f y)) := by
  intro H enc w base spare held fuel cs x hx hf
  obtain ⟨a, hK, hG⟩ := h hx hf
  exact ⟨g a, by show d.K w (f (g a)) cs; rw [hfg]; exact hK, by show G (f (g a)); rw [hfg]; exact hG⟩

/-- A value of two cells or more is a whole of parts. -/
theorem agg_of {v : Value} {cs : List Value} (h : v.cells.toList = cs) (h2 : 2 ≤ cs.length) : v = .agg cs.toArray := by
  cases v with
  | agg xs => simp only [Value.cells] at h; rw [← h]
  | _ => simp [Value.cells] at h; subst h; simp at h2

/-- A trodden argument opened. -/
theorem fit_arg {H : Type} {P : Program} {ts : List TypeId} {ds : List (DataW H)} (hsz : (DataW.weightsEach P ts ds).all (· ≤ reachBytes) = true) {j : Nat} {t : TypeId} {D : DataW H} (ht : ts[j]? = some t) (hd : ds[j]? = some D) {M : Nat} (hM : Rows.uptoBulk D ≤ M) : Fit P M t D :=
  ⟨fun n hn => by have := List.all_eq_true.1 hsz n (DataW.weights_mem_each ht hd n hn); simpa using this, hM⟩
theorem bulk_arg {H : Type} {ds : List (DataW H)} {M : Nat} (h : Rows.uptoBulkAll ds ≤ M) {j : Nat} {D : DataW H} (hd : ds[j]? = some D) : Rows.uptoBulk D ≤ M := Nat.le_trans (bulkAll_mem (List.mem_of_getElem? hd)) h
end Go.Proofs.Ytmphomadfanjgaa.Open
