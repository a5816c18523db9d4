/- The contract of slices.Insert at one element, of two cells: walked. -/
import Derived.Shelf.Spec.SlicesInsertGrow
import Derived.Laws.CopyRow
import Derived.Test.YtafnmkbehjbkdaaProg
import Derived.Test.YtafnmkbehjbkdaaMachX
set_option linter.unusedVariables false
set_option linter.unusedSimpArgs false
namespace Go.Proofs.Ytafnmkbehjbkdaa.M
open Go Go.RowKit Go.Lib
noncomputable section
def seg (cur : Array Value) (o : Nat) (cs : List Value) : Array Value := (cur.toList.take o ++ cs ++ cur.toList.drop (o + cs.length)).toArray
section
variable {P : Program}
theorem copy_seg (w : World) (dT sT ty elem : TypeId) (i : TypeInfo) (g o dLen dCap : Nat) (a : Addr) (sLen sCap : Nat) (cur : Array Value) (t : TypeId) (cs : List Value)
    (hu : P.underlying dT = some (.slice elem)) (hi : P.info? elem = some i)
    (hg : w.heap[g]? = some (.cells cur t (0, 0))) (hn : cs.length = Nat.min sLen dLen * i.size)
    (hsrc : ∀ j v, cs[j]? = some v → w.cell? (a.add j) = some v) (hfit : o + cs.length ≤ cur.size) (h1 : ∀ v ∈ cs, v.oneCell' = true) :
    (Builtin.copy_ #[dT, sT] ty #[.slice (some ⟨g, o, none⟩) dLen dCap, .slice (some a) sLen sCap]).run P w = .ok (goInt (Nat.min sLen dLen)) (w.setRow g (seg cur o cs)) := by
  have hl := run_loadCells_list (P := P) w a cs hsrc
  have hst := run_storeCells_at P g o t cs 0 cur w hg (by simpa using hfit) h1
  simp only [Nat.add_zero] at hst
  unfold seg
  simp [Builtin.copy_, run_underlying hu, Builtin.lenOf, Builtin.firstCells, sizeOf, typeInfo, hi, ← hn, hl, hst]
theorem cell_setRow_ne {w : World} {g : Nat} {A : Array Value} {x : Addr} (hx : x.block ≠ g) : (w.setRow g A).cell? x = w.cell? x := by
  unfold World.setRow World.cell?
  simp [Array.getElem?_modify, Ne.symm hx]
theorem setRow_size {w : World} {g : Nat} {A : Array Value} : (w.setRow g A).heap.size = w.heap.size := by
  unfold World.setRow; simp
theorem overlaps_apart (w : World) (tS tR e : TypeId) (ht : P.underlying tS = some (.slice e)) (size : Nat) (hz : ∀ w, (Go.sizeOf e).run P w = .ok size w)
    (a b : Addr) (la ca lb cb : Nat) (hne : a.block ≠ b.block) (ca0 : Array Value) (ta : TypeId) (fa : Nat × Nat) (ha : w.heap[a.block]? = some (.cells ca0 ta fa)) (hka : ca0.size ≠ 0) (cs : Array Value) (ty : TypeId) (hb : w.heap[b.block]? = some (.cells cs ty (0, 0))) (hk : cs.size ≠ 0) :
    (Extern.SlicesOverlaps.overlaps #[tS, tS] #[tR] #[.slice (some a) la ca, .slice (some b) lb cb]).run P w = .ok (.bool false) w := by
  have hnb : (a.block != b.block) = true := by simpa using hne
  have hnb' : (a.block == b.block) = false := by simpa using hne
  have hsb : w.shape? b.block = some (ty, cs.size) := by simp [World.shape?, hb]
  have hfb : ∀ o, w.frozen? { block := b.block, off := o } = false := fun o => by simp [World.frozen?, hb]
  have hfb' : w.frozen? b = false := by simp [World.frozen?, hb]
  have hsa : w.shape? a.block = some (ta, ca0.size) := by simp [World.shape?, ha]
  change Sem.run P (α := Value) (do
    let some t := (#[tS, tS] : Array TypeId)[0]? | stuck "slices.overlaps: no parameter types"
    let .slice elem ← underlying t | stuck "slices.overlaps: slice type expected"
    let size ← sizeOf elem
    match (some a : Option Addr), (some b : Option Addr) with
    | some a, some b =>
      if la = 0 ∨ lb = 0 ∨ size = 0 then pure (Value.bool false)
      else if a.block != b.block && (← frozen a) && (← frozen b) then unsupported .addressObserved
      else do
        if a.block != b.block then do
          noView a; noView b
          if ← mayBeOne a b then return Value.bool ((← choose (.extern "sameAddr.stringBytes" 2)) == 1)
        pure (Value.bool (a.block == b.block && a.off < b.off + lb * size && b.off < a.off + la * size))
    | _, _ => pure (Value.bool false)) w = _
  by_cases h0 : la = 0 ∨ lb = 0 ∨ size = 0
  · simp [run_underlying ht, hz, h0]
  · obtain ⟨k, hk'⟩ : ∃ k, cs.size = k + 1 := ⟨cs.size - 1, by omega⟩
    obtain ⟨k2, hk2⟩ : ∃ k, ca0.size = k + 1 := ⟨ca0.size - 1, by omega⟩
    rw [hk2] at hsa
    cases hfa : w.frozen? a <;> simp [run_underlying ht, hz, h0, hnb, hnb', frozen, noView, viewAt, mayBeOne, stringish, shape, Sem.run, hsa, hsb, hfa, hfb, hfb', hk']
end
theorem u23 : Try.prog.underlying 26 = some (.slice 45) := by kernel_rfl
theorem u3 : Try.prog.underlying 3 = some (.int .i64) := by kernel_rfl
theorem i74 : Try.prog.info? 45 = some Try.t45 := by kernel_rfl
theorem z74 : ∀ w, (Go.sizeOf 45).run Try.prog w = .ok 2 w := fun w => by
  simp [Go.sizeOf, typeInfo, i74, Try.t45]
theorem a23 : ∀ w, (isAgg 26).run Try.prog w = .ok false w := fun w => by
  simp [isAgg, run_underlying u23]
theorem a3 : ∀ w, (isAgg 3).run Try.prog w = .ok false w := fun w => by
  simp [isAgg, run_underlying u3]
set_option maxHeartbeats 4000000 in
set_option maxRecDepth 100000 in
theorem ins_shift (b n c i vb voff vc : Nat) (cur : Array Value) (ty : TypeId) (vs : List Value) (w : World) (hi : i < n) (hroom : n + 1 ≤ c) (hb63 : n + 1 ≤ 9223372036854775807) (hvb : vb ≠ b)
    (hb : w.heap[b]? = some (.cells cur ty (0, 0))) (hcc : c * 2 ≤ cur.size) (hvl : vs.length = 2) (hvs : ∀ j v, vs[j]? = some v → w.cell? ⟨vb, voff + j, none⟩ = some v)
    (h1c : ∀ j, j < n * 2 → (cur.getD j undef).oneCell' = true) (h1v : ∀ v ∈ vs, v.oneCell' = true) :
    Calls Try.prog 45 #[.slice (some ⟨b, 0, none⟩) n c, .int .i64 i, .slice (some ⟨vb, voff, none⟩) 1 vc] w fun e w' =>
      e = .returned (.slice (some ⟨b, 0, none⟩) (n + 1) c) ∧ w' = (w.drew.setRow b (seg cur ((i + 1) * 2) ((cur.toList.drop (i * 2)).take ((n - i) * 2)))).setRow b (seg (seg cur ((i + 1) * 2) ((cur.toList.drop (i * 2)).take ((n - i) * 2))) (i * 2) vs) := by
  have hz2 : ¬ ((i : Int) = (n : Int)) := by omega
  have hov : ∀ lb cb, (callFunc 51 #[.slice (some ⟨vb, voff, none⟩) 1 vc, .slice (some ⟨b, (i + 1) * 2, none⟩) lb cb]).run Try.prog w = .ok (.value (.bool false)) w := fun lb cb => by
    have hv0 := hvs 0 _ (List.getElem?_eq_getElem (by omega))
    obtain ⟨ca0, ta, fa, ha, hka⟩ : ∃ ca0 ta fa, w.heap[vb]? = some (.cells ca0 ta fa) ∧ ca0.size ≠ 0 := by
      unfold World.cell? at hv0
      split at hv0
      · rename_i c0 t0 f0 e0
        refine ⟨c0, t0, _, e0, ?_⟩
        simp at hv0
        intro h
        have := (Array.getElem?_eq_some_iff.1 hv0).1
        omega
      · cases hv0
    rw [run_callFunc_extern Try.func51 (by kernel_rfl) (by kernel_rfl) (by kernel_rfl) (e := Extern.SlicesOverlaps.overlaps #[26, 26] #[4]) (by kernel_rfl),
      overlaps_apart w 26 4 45 u23 2 z74 ⟨vb, voff, none⟩ ⟨b, (i + 1) * 2, none⟩ 1 vc lb cb hvb ca0 ta fa ha hka cur ty hb (by omega)]
    rfl
  have hw1 : IntKind.i64.wrap ((i : Int) + 1) = (i : Int) + 1 := by rw [IntKind.wrap_i64]; omega
  have hw2 : IntKind.i64.wrap ((n : Int) + 1) = (n : Int) + 1 := by rw [IntKind.wrap_i64]; omega
  have hb1 : (0 : Int) ≤ (i : Int) + 1 := by omega
  have hin : i ≤ n := by omega
  have htn : ((i : Int) + 1).toNat = i + 1 := by omega
  have htn2 : ((n : Int) + 1).toNat = n + 1 := by omega
  have hb2 : ¬ (c = i + 1) := by omega
  have hb3 : (i : Int) ≤ (n : Int) + 1 := by omega
  have hb4 : ¬ (c = i) := by omega
  have hu := run_underlying u23
  have hu3 := run_underlying u3
  have ha := a23
  have ha3 := a3
  have hz := z74
  have hdl : ((cur.toList.drop (i * 2)).take ((n - i) * 2)).length = (n - i) * 2 := by
    rw [List.length_take, List.length_drop, Array.length_toList]; omega
  have mixed : Try.prog.follows .mixedOrders = true := by kernel_rfl
  have hcp1 : ∀ ty dc sc, (Builtin.copy_ #[26, 26] ty #[.slice (some ⟨b, (i + 1) * 2, none⟩) (n - i) dc, .slice (some ⟨b, i * 2, none⟩) (n + 1 - i) sc]).run Try.prog w.drew = .ok (goInt ((n - i : Nat) : Int)) (w.drew.setRow b (seg cur ((i + 1) * 2) ((cur.toList.drop (i * 2)).take ((n - i) * 2)))) := fun ty2 dc sc => by
    have h := copy_seg (P := Try.prog) w.drew 26 26 ty2 45 _ b ((i + 1) * 2) (n - i) dc ⟨b, i * 2, none⟩ (n + 1 - i) sc cur ty ((cur.toList.drop (i * 2)).take ((n - i) * 2)) u23 i74 hb
      (by rw [hdl, show Nat.min (n + 1 - i) (n - i) = n - i by simp only [Nat.min_def]; split <;> omega]; rfl)
      (fun j v hj => by
        rw [Addr.add_lit, World.cell?_drew]
        have hj2 : j < (n - i) * 2 := by have := (List.getElem?_eq_some_iff.1 hj).1; omega
        rw [List.getElem?_take_of_lt hj2, List.getElem?_drop, Array.getElem?_toList] at hj
        simpa [World.cell?, hb] using hj) (by rw [hdl]; omega)
      (fun v hv => by
        obtain ⟨j, hj, e⟩ := List.getElem_of_mem hv
        have h2 := h1c (i * 2 + j) (by omega)
        rw [List.getElem_take, List.getElem_drop, Array.getElem_toList] at e
        rw [← e]
        rwa [Array.getD_eq_getD_getElem?, Array.getElem?_eq_getElem (by rw [hdl] at hj; omega)] at h2)
    rw [show Nat.min (n + 1 - i) (n - i) = n - i by simp only [Nat.min_def]; split <;> omega] at h
    exact h
  obtain ⟨A1, hA1⟩ : ∃ A1, A1 = seg cur ((i + 1) * 2) ((cur.toList.drop (i * 2)).take ((n - i) * 2)) := ⟨_, rfl⟩
  have hsz : A1.size = cur.size := by rw [hA1]; unfold seg; simp; omega
  rw [← hA1] at hcp1 ⊢
  obtain ⟨W1, hW1⟩ : ∃ W1, W1 = w.drew.setRow b A1 := ⟨_, rfl⟩
  have hbW : W1.heap[b]? = some (.cells A1 ty (0, 0)) := by rw [hW1]; exact setRow_heap _ _ _ _ _ _ hb
  have hcp2 : ∀ (W : World), W.heap[b]? = some (.cells A1 ty (0, 0)) → (∀ x : Addr, x.block ≠ b → W.cell? x = w.cell? x) → ∀ ty dc, (Builtin.copy_ #[26, 26] ty #[.slice (some ⟨b, i * 2, none⟩) (n + 1 - i) dc, .slice (some ⟨vb, voff, none⟩) 1 vc]).run Try.prog W = .ok (goInt 1) (W.setRow b (seg A1 (i * 2) vs)) := fun W hWb hWc ty2 dc => by
    have h := copy_seg (P := Try.prog) W 26 26 ty2 45 _ b (i * 2) (n + 1 - i) dc ⟨vb, voff, none⟩ 1 vc A1 ty vs u23 i74 hWb
      (by rw [hvl, show Nat.min 1 (n + 1 - i) = 1 by simp only [Nat.min_def]; split <;> omega]; rfl)
      (fun j v hj => by rw [Addr.add_lit, hWc _ hvb]; exact hvs j v hj) (by rw [hvl]; omega) h1v
    rw [show Nat.min 1 (n + 1 - i) = 1 by simp only [Nat.min_def]; split <;> omega] at h
    exact h
  rw [← hW1] at hcp1
  have hWc : ∀ x : Addr, x.block ≠ b → W1.cell? x = w.cell? x := fun x hx => by
    rw [hW1, cell_setRow_ne hx, World.cell?_drew]
  rw [← hW1]
  have hcp3 := hcp2 W1 hbW hWc
  clear hW1 hA1 hcp2
  go_enter Try.func45, Try.ntmps45
  go_wp2_with (simp only [hov])
  go_region_law_o (refine step_copy_runI rfl _ _ 26 26 rfl _ _ (by simp [Act.eval, Act.put]) (by simp [Act.eval, Act.put]) (hcp1 _ _ _) ?_)
  go_wp2_with (at_builtin; refine wpList_copy_runI _ rfl _ _ 26 26 rfl _ _ rfl rfl (hcp3 _ _) ?_)
  go_ret
  exact ⟨rfl, rfl⟩
set_option maxHeartbeats 4000000 in
set_option maxRecDepth 100000 in
theorem ins_room (b n c vb voff vc : Nat) (cur : Array Value) (ty : TypeId) (vs : List Value) (w : World) (hroom : n + 1 ≤ c) (hb63 : n + 1 ≤ 9223372036854775807)
    (hb : w.heap[b]? = some (.cells cur ty (0, 0))) (hcc : c * 2 ≤ cur.size) (hvl : vs.length = 2) (hvs : ∀ j v, vs[j]? = some v → w.cell? ⟨vb, voff + j, none⟩ = some v) (h1v : ∀ v ∈ vs, v.oneCell' = true) :
    Calls Try.prog 45 #[.slice (some ⟨b, 0, none⟩) n c, .int .i64 n, .slice (some ⟨vb, voff, none⟩) 1 vc] w fun e w' =>
      e = .returned (.slice (some ⟨b, 0, none⟩) (n + 1) c) ∧ w' = w.setRow b (seg cur (n * 2) vs) := by
  have hu := run_underlying u23
  have hu3 := run_underlying u3
  have ha := a23
  have ha3 := a3
  have hz := z74
  have mixed : Try.prog.follows .mixedOrders = true := by kernel_rfl
  have hrun : ∀ ty, (Builtin.append_ #[26, 26] ty #[.slice (some ⟨b, 0, none⟩) n c, .slice (some ⟨vb, voff, none⟩) 1 vc]).run Try.prog w = .ok (.slice (some ⟨b, 0, none⟩) (n + 1) c) (w.setRow b (seg cur (n * 2) vs)) := fun ty2 =>
    run_append_room' (P := Try.prog) (w := w) (ty := ty2) u23 i74 hb (by rw [hvl]; rfl) (fun j u hj => by rw [Addr.add_lit]; exact hvs j u hj) h1v hroom (by rw [hvl]; show n * 2 + 2 ≤ _; omega)
  go_enter Try.func45, Try.ntmps45
  go_wp2_with (at_builtin; refine Lib.wpList_append_run _ rfl _ _ _ _ rfl _ _ rfl rfl _ _ (hrun _) ?_)
  go_ret
  exact ⟨rfl, rfl⟩
set_option maxHeartbeats 4000000 in
set_option maxRecDepth 100000 in
theorem ins_end (base : Option Addr) (n c vb voff vc : Nat) (cs vs : List Value) (w : World) (hnc : n ≤ c) (hroom : c < n + 1) (hbig : (n + 1) * 32 ≤ 140737488355328)
    (hcl : cs.length = n * 2) (hvl : vs.length = 2) (hnil : base = none → n = 0) (hcs : ∀ a, base = some a → ∀ j v, cs[j]? = some v → w.cell? (a.add j) = some v)
    (hvs : ∀ j v, vs[j]? = some v → w.cell? ⟨vb, voff + j, none⟩ = some v) (h1v : ∀ v ∈ vs, v.oneCell' = true) :
    Calls Try.prog 45 #[.slice base n c, .int .i64 n, .slice (some ⟨vb, voff, none⟩) 1 vc] w fun e w' =>
      e = .returned (.slice (some ⟨w.heap.size, 0, none⟩) (n + 1) (grownCap w (n + 1) c 45)) ∧
      w' = w.drew.alloc (.cells ((cs ++ vs).toArray ++ Builtin.zeroCells (Value.agg #[Value.int .i64 0, Value.slice none 0 0]).cells (grownCap w (n + 1) c 45 - (n + 1))) 45) := by
  have hu := run_underlying u23
  have hu3 := run_underlying u3
  have ha := a23
  have ha3 := a3
  have hz := z74
  have mixed : Try.prog.follows .mixedOrders = true := by kernel_rfl
  have hsrc : Src Try.prog Try.t45.size 26 (.slice (some ⟨vb, voff, none⟩) 1 vc) 1 vs w := Src.ofSlice w u23 ⟨vb, voff, none⟩ 1 vc vs (by rw [hvl]; rfl) (fun j u hj => by rw [Addr.add_lit]; exact hvs j u hj) h1v
  have hold : (Builtin.firstCells Try.t45.size n (.slice base n c)).run Try.prog w.drew = .ok cs.toArray w.drew := by
    cases base with
    | none =>
      have h0 := hnil rfl
      subst h0
      have hc0 : cs = [] := List.length_eq_zero_iff.1 (by omega)
      rw [hc0]
      exact run_firstCells_none w.drew _ 0 0 c
    | some a => exact run_firstCells_some w.drew _ n a n c cs (by rw [hcl]; rfl) (fun j v hj => hcs a rfl j v hj)
  have hrun : ∀ ty, (Builtin.append_ #[26, 26] ty #[.slice base n c, .slice (some ⟨vb, voff, none⟩) 1 vc]).run Try.prog w = _ := fun ty =>
    run_append_grow_src w 26 26 ty 45 _ _ u23 i74 rfl base n c cs hold _ 1 vs hsrc hroom (by omega) (growslice_fits hroom hbig)
  go_enter Try.func45, Try.ntmps45
  cases base with
  | none =>
    have h0 := hnil rfl
    subst h0
    go_wp2_with (at_builtin; refine Lib.wpList_append_run _ rfl _ _ _ _ rfl _ _ rfl rfl _ _ (hrun _) ?_)
    go_ret
    exact ⟨rfl, rfl⟩
  | some a =>
    obtain ⟨ab, ao, asp⟩ := a
    go_wp2_with (at_builtin; refine Lib.wpList_append_run _ rfl _ _ _ _ rfl _ _ rfl rfl _ _ (hrun _) ?_)
    all_goals (go_ret; exact ⟨rfl, rfl⟩)
set_option maxHeartbeats 4000000 in
set_option maxRecDepth 100000 in
theorem ins_mid (b n c i vb voff vc : Nat) (cs vs : List Value) (w : World) (hi : i < n) (hnc : n ≤ c) (hroom : c < n + 1) (hbig : (n + 1) * 32 ≤ 140737488355328)
    (hcl : cs.length = n * 2) (hvl : vs.length = 2) (hcs : ∀ j v, cs[j]? = some v → w.cell? ⟨b, j, none⟩ = some v)
    (hvs : ∀ j v, vs[j]? = some v → w.cell? ⟨vb, voff + j, none⟩ = some v) (h1c : ∀ v ∈ cs, v.oneCell' = true) (h1v : ∀ v ∈ vs, v.oneCell' = true) (ROW : Array Value)
    (hROW : ROW = (cs.take (i * 2)).toArray ++ Builtin.zeroCells (Value.agg #[Value.int .i64 0, Value.slice none 0 0]).cells (n + 1 - i) ++ Builtin.zeroCells (Value.agg #[Value.int .i64 0, Value.slice none 0 0]).cells (grownCap w (n + 1) c 45 - (n + 1))) :
    Calls Try.prog 45 #[.slice (some ⟨b, 0, none⟩) n c, .int .i64 i, .slice (some ⟨vb, voff, none⟩) 1 vc] w fun e w' =>
      e = .returned (.slice (some ⟨w.heap.size, 0, none⟩) (n + 1) (grownCap w (n + 1) c 45)) ∧
      w' = ((((w.alloc (.cells ROW 45)).drew).setRow w.heap.size (seg ROW (i * 2) vs)).drew).setRow w.heap.size (seg (seg ROW (i * 2) vs) ((i + 1) * 2) (cs.drop (i * 2))) := by
  have hu := run_underlying u23
  have hu3 := run_underlying u3
  have ha := a23
  have ha3 := a3
  have hz := z74
  have mixed : Try.prog.follows .mixedOrders = true := by kernel_rfl
  have hz2 : ¬ ((i : Int) = (n : Int)) := by omega
  have hz3 : (c : Int) < (n : Int) + 1 := by omega
  have hbw : b < w.heap.size := block_lt_of_cell (hcs 0 _ (List.getElem?_eq_getElem (by omega)))
  have hvw : vb < w.heap.size := block_lt_of_cell (hvs 0 _ (List.getElem?_eq_getElem (by omega)))
  have hkk : (n : Int) + 1 - (i : Int) = ((n + 1 - i : Nat) : Int) := by omega
  have hik : i + (n + 1 - i) = n + 1 := by omega
  have hold : (Builtin.firstCells Try.t45.size i (.slice (some ⟨b, 0, none⟩) i c)).run Try.prog w.drew = .ok (cs.take (i * 2)).toArray w.drew :=
    run_firstCells_some w.drew _ i ⟨b, 0, none⟩ i c (cs.take (i * 2)) (by rw [List.length_take]; show min (i * 2) cs.length = i * 2; omega) (fun j v hj => by
      rw [Addr.add_lit, Nat.zero_add]
      rw [List.getElem?_take] at hj
      split at hj
      · exact hcs j v hj
      · cases hj)
  have hrz : ∀ ty, (Builtin.append_ #[26, 3] ty #[.slice (some ⟨b, 0, none⟩) i c, .int .i64 ((n : Int) + 1 - (i : Int))]).run Try.prog w =
      .ok (.slice (some ⟨w.heap.size, 0, none⟩) (n + 1) (grownCap w (n + 1) c 45)) (w.drew.alloc (.cells ROW 45)) := fun ty => by
    have h := Lib.run_append_grow_zeros w 26 3 ty 45 _ _ .i64 .i64 u23 u3 i74 rfl (some ⟨b, 0, none⟩) i c (cs.take (i * 2)) hold (n + 1 - i) (by omega) (by decide) (by omega) (by omega) (by show (n + 1 - i) * 32 ≤ _; omega) (by rw [hik]; exact growslice_fits hroom hbig)
    rw [hik] at h
    rw [hkk, h, hROW]
  obtain ⟨G, hG⟩ : ∃ G, G = grownCap w (n + 1) c 45 := ⟨_, rfl⟩
  have hGn : n + 1 ≤ G := by rw [hG]; exact grownCap_ge w _ _ _
  have hG63 : G ≤ 9223372036854775807 := by
    have := grownCap_le_maxLen w (n + 1) c 45 (by unfold maxLen; omega)
    rw [← hG] at this
    unfold maxLen at this
    omega
  rw [← hG] at hrz ⊢
  have hRl : (n + 1) * 2 ≤ ROW.size := by
    rw [hROW]
    simp [Builtin.zeroCells, Value.cells]
    omega
  have hdl : (cs.drop (i * 2)).length = (n - i) * 2 := by rw [List.length_drop, hcl]; omega
  obtain ⟨A1, hA1⟩ : ∃ A1, A1 = seg ROW (i * 2) vs := ⟨_, rfl⟩
  have hsz : A1.size = ROW.size := by rw [hA1]; unfold seg; simp; omega
  rw [← hA1]
  have hcpA : ∀ ty dc, (Builtin.copy_ #[26, 26] ty #[.slice (some ⟨w.heap.size, i * 2, none⟩) (n + 1 - i) dc, .slice (some ⟨vb, voff, none⟩) 1 vc]).run Try.prog (w.alloc (.cells ROW 45)).drew = .ok (goInt 1) (((w.alloc (.cells ROW 45)).drew).setRow w.heap.size A1) := fun ty2 dc => by
    have h := copy_seg (P := Try.prog) (w.alloc (.cells ROW 45)).drew 26 26 ty2 45 _ w.heap.size (i * 2) (n + 1 - i) dc ⟨vb, voff, none⟩ 1 vc ROW 45 vs u23 i74 (by show (w.heap.push _)[w.heap.size]? = _; simp)
      (by rw [hvl, show Nat.min 1 (n + 1 - i) = 1 by simp only [Nat.min_def]; split <;> omega]; rfl)
      (fun j v hj => by rw [Addr.add_lit, World.cell?_drew, World.cell?_alloc_past _ _ _ hvw]; exact hvs j v hj) (by rw [hvl]; omega) h1v
    rw [show Nat.min 1 (n + 1 - i) = 1 by simp only [Nat.min_def]; split <;> omega, ← hA1] at h
    exact h
  have hGi : ¬ (G = i) := by omega
  have hGim : ¬ (G = i + 1) := by omega
  have hci : ¬ (c = i) := by omega
  have hbN : b ≠ w.heap.size := by omega
  obtain ⟨W2, hW2⟩ : ∃ W2, W2 = ((w.alloc (.cells ROW 45)).drew).setRow w.heap.size A1 := ⟨_, rfl⟩
  have hW2h : W2.heap[w.heap.size]? = some (.cells A1 45 (0, 0)) := by
    rw [hW2]; exact setRow_heap _ _ ROW _ _ _ (by show (w.heap.push _)[w.heap.size]? = _; simp)
  have hW2c : ∀ j v, cs[j]? = some v → W2.cell? ⟨b, j, none⟩ = some v := fun j v hj => by
    have h0 := hcs j v hj
    rw [hW2]
    rw [cell_setRow_ne hbN, World.cell?_drew, World.cell?_alloc_past _ _ _ hbw]
    exact h0
  have hcpB : ∀ ty dc sc, (Builtin.copy_ #[26, 26] ty #[.slice (some ⟨w.heap.size, (i + 1) * 2, none⟩) (n - i) dc, .slice (some ⟨b, i * 2, none⟩) (n - i) sc]).run Try.prog W2.drew = .ok (goInt ((n - i : Nat) : Int)) (W2.drew.setRow w.heap.size (seg A1 ((i + 1) * 2) (cs.drop (i * 2)))) := fun ty2 dc sc => by
    have h := copy_seg (P := Try.prog) W2.drew 26 26 ty2 45 _ w.heap.size ((i + 1) * 2) (n - i) dc ⟨b, i * 2, none⟩ (n - i) sc A1 45 (cs.drop (i * 2)) u23 i74 hW2h
      (by rw [hdl, show Nat.min (n - i) (n - i) = n - i by simp only [Nat.min_def]; split <;> omega]; rfl)
      (fun j v hj => by rw [Addr.add_lit, World.cell?_drew]; exact hW2c _ v (by rwa [List.getElem?_drop] at hj)) (by rw [hdl]; omega) (fun v hv => h1c v (List.mem_of_mem_drop hv))
    rw [show Nat.min (n - i) (n - i) = n - i by simp only [Nat.min_def]; split <;> omega] at h
    exact h
  rw [← hW2] at hcpA ⊢
  have hw1 : IntKind.i64.wrap ((i : Int) + 1) = (i : Int) + 1 := by rw [IntKind.wrap_i64]; omega
  have hw2 : IntKind.i64.wrap ((n : Int) + 1) = (n : Int) + 1 := by rw [IntKind.wrap_i64]; omega
  have hw3 : IntKind.i64.wrap ((n : Int) + 1 - (i : Int)) = (n : Int) + 1 - (i : Int) := by rw [IntKind.wrap_i64]; omega
  have hb1 : (0 : Int) ≤ (i : Int) + 1 := by omega
  have hin : i ≤ n := by omega
  have htn : ((i : Int) + 1).toNat = i + 1 := by omega
  have hb3 : (i : Int) ≤ (n : Int) := by omega
  clear hkk hik hold hROW hG hRl hW2 hA1
  go_enter Try.func45, Try.ntmps45
  go_wp2_with (first
    | (at_builtin; refine Lib.wpList_append_run _ rfl _ _ _ _ rfl _ _ rfl rfl _ _ (hrz _) ?_)
    | (at_builtin; refine wpList_copy_runI _ rfl _ _ 26 26 rfl _ _ rfl rfl (hcpA _ _) ?_))
  go_region_law_o (refine step_copy_runI rfl _ _ 26 26 rfl (.slice (some ⟨w.heap.size, (i + 1) * 2, none⟩) (n - i) (G - (i + 1))) (.slice (some ⟨b, i * 2, none⟩) (n - i) (c - i)) (by simp [Act.eval, Act.put]) (by simp [Act.eval, Act.put]) (hcpB 3 (G - (i + 1)) (c - i)) ?_)
  go_wp2
  go_ret
  exact ⟨rfl, rfl⟩
end
theorem seg_size {cur : Array Value} {o : Nat} {cs : List Value} (h : o + cs.length ≤ cur.size) : (seg cur o cs).size = cur.size := by
  unfold seg; simp; omega
theorem seg_getD {cur : Array Value} {o : Nat} {cs : List Value} (h : o + cs.length ≤ cur.size) (p : Nat) :
    (seg cur o cs).getD p undef = if p < o then cur.getD p undef else if p < o + cs.length then cs.getD (p - o) undef else cur.getD p undef := by
  simp only [Array.getD_eq_getD_getElem?, List.getD_eq_getElem?_getD]
  unfold seg
  rw [List.getElem?_toArray, List.append_assoc]
  by_cases h1 : p < o
  · rw [if_pos h1, List.getElem?_append_left (by simp; omega), List.getElem?_take_of_lt h1, Array.getElem?_toList]
  · rw [if_neg h1, List.getElem?_append_right (by simp; omega)]
    have e0 : p - (List.take o cur.toList).length = p - o := by simp; omega
    rw [e0]
    by_cases h2 : p < o + cs.length
    · rw [if_pos h2, List.getElem?_append_left (by omega)]
    · rw [if_neg h2, List.getElem?_append_right (by omega), List.getElem?_drop, Array.getElem?_toList]
      congr 2; omega
def ownAt (g : Gh) (B : Nat) (L : List Nat) : Gh := { g with ω := fun x => if x = B then some (.row L) else g.ω x }
theorem ext_row {g : Gh} {w : World} {B : Nat} {L : List Nat} (L' : List Nat) (hω : g.ω B = some (.row L)) (hfr : g.fr B = some 0) (arr : Array Value) : Ext g w (ownAt g B L') (w.setRow B arr) where
  os := rfl
  tape := rfl
  output := rfl
  size := by unfold World.setRow; simp
  out B' hB' ho := by
    have hne : B' ≠ B := fun e => by subst e; rw [hω] at ho; cases ho
    refine ⟨?_, by unfold ownAt; simp [hne]; exact ho, rfl⟩
    unfold World.setRow
    simp [Array.getElem?_modify, Ne.symm hne]
  cell B' j hB' hj := by
    have hne : B' ≠ B := fun e => by subst e; exact absurd (hj 0 hfr) (by omega)
    exact cell_setRow_ne hne
  fr B' n' _ h := ⟨n', h, Nat.le_refl _⟩
  φ _ _ _ h := h
  pin := rfl
  yl := rfl
theorem back_of {f : IFn} (hp : f.pass = []) (he : f.exp = []) {r : Ret} {g g' : Gh} {w w' : World} {u : Value} (h1 : Ext g w g' w') (h2 : Fresh g' w') (h3 : V3 g' w' [f.total] r.res u) : Back f r g w u g' w' :=
  ⟨h1, h2, h3, fun k h n cs hk => by rw [hp] at hk; simp at hk, fun k h n cs hk => by rw [he] at hk; simp at hk⟩
theorem div2 {p n : Nat} (h : p < n * 2) : p / 2 < n ∧ p % 2 < 2 ∧ p / 2 * 2 + p % 2 = p := by omega
theorem insOk : InsOk Try.prog 45 2 32 := by
  intro f hgo hpass hexp avs cells r hr g w vs hh
  unfold plugK at hr
  split at hr
  · rename_i sz1 n gt i fl sz2 g2
    obtain ⟨h1, hr⟩ := cond_some hr
    obtain ⟨h2, hr⟩ := cond_some hr
    obtain ⟨h3, hr⟩ := cond_some hr
    obtain ⟨h4, hr⟩ := cond_some hr
    cases hr
    simp only [Bool.and_eq_true] at h1
    have e1 := Nat.eq_of_beq_eq_true h1.1
    have e2 := Nat.eq_of_beq_eq_true h1.2
    subst e1 e2
    have h3 := of_decide_eq_true h3
    have h4 := of_decide_eq_true h4
    obtain ⟨q, rfl⟩ := Int.eq_ofNat_of_zero_le h3
    have hqn : q ≤ n := by omega
    have hbig := capB_iff.1 h2
    have hl := hh.len
    match vs, hl with
    | [v0, v1, v2], _ =>
    have a0 := hh.args 0 _ v0 rfl rfl
    have a1 := hh.args 1 _ v1 rfl rfl
    have a2 := hh.args 2 _ v2 rfl rfl
    obtain ⟨rfl, _⟩ := a1.sc_inv
    obtain ⟨VB, vo, vc, val, hv2, hvc, hvfz, hvl, hvcell, hvel⟩ : ∃ (VB vo vc : Nat) (val : Nat → Value), v2 = .slice (some ⟨VB, vo, none⟩) 1 vc ∧ 1 ≤ vc ∧ Frz g VB (vo + 2) ∧ (g2 0).length = 2 ∧
        (∀ j, j < 2 → w.cell? ⟨VB, vo + j, none⟩ = some (val j)) ∧ ∀ (j : Nat) (a : AV), (g2 0)[j]? = some a → V0 g w a (val j) := by
      rcases a2.row_inv with ⟨h, _⟩ | ⟨B, o, c, e, hv, _⟩
      · cases h
      · rw [e] at hv
        obtain ⟨_, k2, k3, k4, val, k5, k6⟩ := hv.row_inv
        exact ⟨B, o, c, val 0, e, k2, by simpa using k3, k4 0 (by omega), fun j hj => by simpa using k5 0 j (by omega) hj, fun j a ha => k6 0 j a (by omega) ha⟩
    subst hv2
    obtain ⟨ws, hws⟩ : ∃ ws : List Value, ws = [val 0, val 1] := ⟨_, rfl⟩
    have hwl : ws.length = 2 := by rw [hws]; rfl
    have hwg : ∀ j, j < 2 → ws.getD j undef = val j := fun j hj => by
      rw [hws]
      match j, hj with
      | 0, _ => rfl
      | 1, _ => rfl
    have hwv : ∀ j v, ws[j]? = some v → w.cell? ⟨VB, vo + j, none⟩ = some v := fun j v hj => by
      have hj2 : j < 2 := by have := (List.getElem?_eq_some_iff.1 hj).1; omega
      have := hwg j hj2
      rw [List.getD_eq_getElem?_getD, hj] at this
      rw [hvcell j hj2, ← this]; rfl
    have hv1 : ∀ v ∈ ws, v.oneCell' = true := fun v hv => by
      obtain ⟨j, hj, rfl⟩ := List.mem_iff_getElem.1 hv
      have hj2 : j < 2 := by omega
      have e := hwg j hj2
      rw [List.getD_eq_getElem?_getD, List.getElem?_eq_getElem hj] at e
      have hg2 : (g2 0)[j]? = some ((g2 0)[j]'(by omega)) := List.getElem?_eq_getElem (by omega)
      show (ws[j]).oneCell' = true
      rw [show ws[j] = val j from e]
      exact (hvel j _ hg2).one
    -- what stands in the new row
    have done : ∀ (g' : Gh) (w' : World) (B c : Nat) (arr : Array Value) (ty : TypeId) (olds : Nat → Value), Ext g w g' w' → Fresh g' w' → n + 1 ≤ c → g'.ω B = some (.row [f.total]) → g'.fr B = some 0 → w'.heap[B]? = some (.cells arr ty (0, 0)) → c * 2 ≤ arr.size →
        (∀ j, j < n → (gt j).length = 2) → (∀ (j k : Nat) (a : AV), j < n → (gt j)[k]? = some a → V0 g w a (olds (j * 2 + k))) →
        (∀ p, p < q * 2 → arr.getD p undef = olds p) → (∀ k, k < 2 → arr.getD (q * 2 + k) undef = val k) → (∀ p, q * 2 ≤ p → p < n * 2 → arr.getD (p + 2) undef = olds p) →
        Back f ⟨.un none 2 (n + 1) (insGet n (Int.ofNat q).toNat gt g2), [], []⟩ g w (.slice (some ⟨B, 0, none⟩) (n + 1) c) g' w' := by
      intro g' w' B c arr ty olds hext hfresh hc hω hfr hB hsz hgl hge ha1 ha2 ha3
      have hφ : ∀ h B, g.φ h = some B → g'.φ h = some B := fun h B hB => by
        obtain ⟨k, hk⟩ := hh.φin h B hB
        rw [hpass] at hk; cases hk
      have p3 := (hext.pres hφ).toPresC
      refine back_of hpass hexp hext hfresh (.c (.c (.un _ _ _ _ _ (.inr ⟨B, c, arr, ty, rfl, hc, hω, hfr, hB, hsz, fun j hj => ?_, fun j k a hj ha => ?_, fun s hs => by cases hs⟩))))
      · show (insGet n q gt g2 j).length = 2
        unfold insGet
        by_cases c1 : j < q
        · simp only [decide_eq_true c1, cond_true]; exact hgl j (by omega)
        · by_cases c2 : j = q
          · simp only [decide_eq_false c1, decide_eq_true c2, cond_true, cond_false]; exact hvl
          · simp only [decide_eq_false c1, decide_eq_false c2, decide_eq_true hj, cond_true, cond_false]; exact hgl _ (by omega)
      · have hb : (insGet n q gt g2 j)[k]? = some a := ha
        clear ha
        have hk2 : ∀ l : List AV, l.length = 2 → l[k]? = some a → k < 2 := fun l hl hk => by
          have := (List.getElem?_eq_some_iff.1 hk).1; omega
        refine V0.mono p3 ?_
        unfold insGet at hb
        by_cases c1 : j < q
        · simp only [decide_eq_true c1, cond_true] at hb
          have := hk2 _ (hgl j (by omega)) hb
          rw [ha1 _ (by omega)]; exact hge j k a (by omega) hb
        · by_cases c2 : j = q
          · simp only [decide_eq_false c1, decide_eq_true c2, cond_true, cond_false] at hb
            have := hk2 _ hvl hb
            subst c2
            rw [ha2 k this]; exact hvel k a hb
          · simp only [decide_eq_false c1, decide_eq_false c2, decide_eq_true hj, cond_true, cond_false] at hb
            have hl2 := hgl (j - 1) (by omega)
            have := hk2 _ hl2 hb
            have e := ha3 ((j - 1) * 2 + k) (by omega) (by omega)
            rw [show (j - 1) * 2 + k + 2 = j * 2 + k by omega] at e
            rw [e]; exact hge (j - 1) k a (by omega) hb
    have hout : ∀ {e : Ending} {w' : World} {u : Value} {g' : Gh}, e = .returned u → Back f ⟨.un none 2 (n + 1) (insGet n (Int.ofNat q).toNat gt g2), [], []⟩ g w u g' w' → ∃ u g', e = .returned u ∧ Back f ⟨.un none 2 (n + 1) (insGet n (Int.ofNat q).toNat gt g2), [], []⟩ g w u g' w' :=
      fun he hb => ⟨_, _, he, hb⟩
    have hnm : (Int.ofNat q).toNat = q := rfl
    have hu := a0.un_inv
    -- a new block at the end
    have fresh : ∀ (c0 : Nat) (row : Array Value) (W : World) (olds : Nat → Value), (∀ j, j < n → (gt j).length = 2) → (∀ (j k : Nat) (a : AV), j < n → (gt j)[k]? = some a → V0 g w a (olds (j * 2 + k))) →
        row.size = grownCap w (n + 1) c0 45 * 2 → Ext g w (g.new w.heap.size (some (.row [f.total])) (some 0)) W → W.heap[w.heap.size]? = some (.cells row 45 (0, 0)) → W.heap.size = w.heap.size + 1 →
        (∀ p, p < q * 2 → row.getD p undef = olds p) → (∀ k, k < 2 → row.getD (q * 2 + k) undef = val k) → (∀ p, q * 2 ≤ p → p < n * 2 → row.getD (p + 2) undef = olds p) →
        Back f ⟨.un none 2 (n + 1) (insGet n (Int.ofNat q).toNat gt g2), [], []⟩ g w (.slice (some ⟨w.heap.size, 0, none⟩) (n + 1) (grownCap w (n + 1) c0 45)) (g.new w.heap.size (some (.row [f.total])) (some 0)) W := by
      intro c0 row W olds hgl hge hrs hext hW hWs r1 r2 r3
      refine done _ W w.heap.size _ row 45 olds hext (fun B hB => ?_) (grownCap_ge _ _ _ _) (by simp [Gh.new]) (by simp [Gh.new]) hW (by omega) hgl hge r1 r2 r3
      have hne : B ≠ w.heap.size := by omega
      have := hh.fresh B (by omega)
      simpa [Gh.new, hne] using this
    have endg : ∀ (base : Option Addr) (c0 : Nat) (cs : List Value) (olds : Nat → Value), v0 = .slice base n c0 → q = n → n ≤ c0 → c0 < n + 1 → cs.length = n * 2 → (base = none → n = 0) → (∀ a, base = some a → ∀ j v, cs[j]? = some v → w.cell? (a.add j) = some v) →
        (∀ p, p < n * 2 → cs.getD p undef = olds p) → (∀ j, j < n → (gt j).length = 2) → (∀ (j k : Nat) (a : AV), j < n → (gt j)[k]? = some a → V0 g w a (olds (j * 2 + k))) →
        Calls Try.prog 45 [v0, Value.int .i64 (Int.ofNat q), Value.slice (some ⟨VB, vo, none⟩) 1 vc].toArray w fun e w' => ∃ u g', e = .returned u ∧ Back f ⟨.un none 2 (n + 1) (insGet n (Int.ofNat q).toNat gt g2), [], []⟩ g w u g' w' := by
      intro base c0 cs olds e0 hq hc1 hc2 hcl hnil hcs hold hgl hge
      subst e0 hq
      refine (ins_end base q c0 VB vo vc cs ws w hc1 hc2 hbig hcl hwl hnil hcs hwv hv1).mono fun e w' he => ?_
      obtain ⟨rfl, rfl⟩ := he
      refine hout rfl (fresh c0 _ _ olds hgl hge ?_ ((Ext.drew g w).trans (Ext.new (w := w.drew) hh.fresh _ _ _)) (heap_alloc_new w.drew _) ?_ (fun p hp => ?_) (fun k hk => ?_) (fun p hp1 hp2 => by omega))
      · have := grownCap_ge w (q + 1) c0 45
        simp [Builtin.zeroCells, Value.cells, hcl, hwl]
        omega
      · show (w.heap.push _).size = _; simp
      · rw [Array.getD_eq_getD_getElem?, Array.getElem?_append_left (by simp; omega), List.getElem?_toArray, List.getElem?_append_left (by omega), ← List.getD_eq_getElem?_getD]
        exact hold p hp
      · rw [Array.getD_eq_getD_getElem?, Array.getElem?_append_left (by simp; omega), List.getElem?_toArray, List.getElem?_append_right (by omega), show q * 2 + k - cs.length = k by omega, ← List.getD_eq_getElem?_getD]
        exact hwg k hk
    rcases hu with ⟨hn0, p, hv0⟩ | ⟨B, c, cur, ty, h1, h2, h3, h4, h5, h6, h7, h8, _⟩
    · subst hn0
      exact endg p 0 [] (fun _ => undef) hv0 (by omega) (by omega) (by omega) rfl (fun _ => rfl) (fun a _ j v hj => by simp at hj) (fun p hp => by omega) (fun j hj => by omega) (fun j k a hj => by omega)
    · have hin : n * 2 ≤ cur.size := by omega
      have hBl : B < w.heap.size := (Array.getElem?_eq_some_iff.1 h5).1
      have hVB : VB ≠ B := fun e => by
        subst e
        have := hvfz 0 h4
        omega
      have hone : ∀ p, p < n * 2 → (cur.getD p undef).oneCell' = true := fun p hp => by
        obtain ⟨d1, d2, d3⟩ := div2 hp
        have := h8 (p / 2) (p % 2) _ d1 (List.getElem?_eq_getElem (by rw [h7 _ d1]; exact d2))
        rw [d3] at this
        exact this.one
      by_cases hroom : n + 1 ≤ c
      · have inpl : ∀ (arr : Array Value), arr.size = cur.size → (∀ p, p < q * 2 → arr.getD p undef = cur.getD p undef) → (∀ k, k < 2 → arr.getD (q * 2 + k) undef = val k) → (∀ p, q * 2 ≤ p → p < n * 2 → arr.getD (p + 2) undef = cur.getD p undef) →
            ∀ (W : World), W.heap[B]? = some (.cells cur ty (0, 0)) → W.heap.size = w.heap.size → Ext g w g W → Back f ⟨.un none 2 (n + 1) (insGet n (Int.ofNat q).toNat gt g2), [], []⟩ g w (.slice (some ⟨B, 0, none⟩) (n + 1) c) (ownAt g B [f.total]) (W.setRow B arr) := by
          intro arr ha r1 r2 r3 W hW hWs hE
          refine done _ _ B c arr ty (fun p => cur.getD p undef) (hE.trans (ext_row [f.total] h3 h4 arr)) (fun B' hB' => ?_) hroom (by simp [ownAt]) h4 (setRow_heap W B cur arr ty (0, 0) hW) (by omega) h7 h8 r1 r2 r3
          have hs2 : (W.setRow B arr).heap.size = w.heap.size := by unfold World.setRow; simp [hWs]
          have hne : B' ≠ B := by omega
          have := hh.fresh B' (by omega)
          simpa [ownAt, hne] using this
        subst h1
        by_cases hqe : q = n
        · subst hqe
          refine (ins_room B q c VB vo vc cur ty ws w hroom (by omega) h5 h6 hwl hwv hv1).mono fun e w' he => ?_
          obtain ⟨rfl, rfl⟩ := he
          have hf : q * 2 + ws.length ≤ cur.size := by omega
          refine hout rfl (inpl _ (seg_size hf) (fun p hp => ?_) (fun k hk => ?_) (fun p hp1 hp2 => by omega) w h5 rfl (Ext.refl _ _))
          · rw [seg_getD hf, if_pos hp]
          · rw [seg_getD hf, if_neg (by omega), if_pos (by omega), show q * 2 + k - q * 2 = k by omega]
            exact hwg k hk
        · have hql : q < n := by omega
          refine (ins_shift B n c q VB vo vc cur ty ws w hql hroom (by omega) hVB h5 h6 hwl hwv (fun j hj => hone j hj) hv1).mono fun e w' he => ?_
          obtain ⟨rfl, rfl⟩ := he
          have hdl : ((cur.toList.drop (q * 2)).take ((n - q) * 2)).length = (n - q) * 2 := by
            rw [List.length_take, List.length_drop, Array.length_toList]; omega
          have hf1 : (q + 1) * 2 + ((cur.toList.drop (q * 2)).take ((n - q) * 2)).length ≤ cur.size := by rw [hdl]; omega
          have hs1 := seg_size hf1
          have hf2 : q * 2 + ws.length ≤ (seg cur ((q + 1) * 2) ((cur.toList.drop (q * 2)).take ((n - q) * 2))).size := by rw [hs1]; omega
          rw [setRow_setRow]
          refine hout rfl (inpl _ ((seg_size hf2).trans hs1) (fun p hp => ?_) (fun k hk => ?_) (fun p hp1 hp2 => ?_) w.drew h5 rfl (Ext.drew _ _))
          · rw [seg_getD hf2, if_pos hp, seg_getD hf1, if_pos (by omega)]
          · rw [seg_getD hf2, if_neg (by omega), if_pos (by omega), show q * 2 + k - q * 2 = k by omega]
            exact hwg k hk
          · rw [seg_getD hf2, if_neg (by omega), if_neg (by omega), seg_getD hf1, if_neg (by omega), if_pos (by rw [hdl]; omega), List.getD_eq_getElem?_getD, List.getElem?_take_of_lt (by omega), List.getElem?_drop, Array.getElem?_toList,
              show q * 2 + (p + 2 - (q + 1) * 2) = p by omega, ← Array.getD_eq_getD_getElem?]
      · have hcn : c = n := by omega
        have hcl : (cur.toList.take (n * 2)).length = n * 2 := by rw [List.length_take, Array.length_toList]; omega
        have hcs : ∀ j v, (cur.toList.take (n * 2))[j]? = some v → w.cell? ⟨B, j, none⟩ = some v := fun j v hj => by
          have hj2 : j < n * 2 := by have := (List.getElem?_eq_some_iff.1 hj).1; omega
          rw [List.getElem?_take_of_lt hj2, Array.getElem?_toList] at hj
          simpa [World.cell?, h5] using hj
        have hcg : ∀ p, p < n * 2 → (cur.toList.take (n * 2)).getD p undef = cur.getD p undef := fun p hp => by
          rw [List.getD_eq_getElem?_getD, List.getElem?_take_of_lt hp, Array.getElem?_toList, ← Array.getD_eq_getD_getElem?]
        by_cases hqe : q = n
        · exact endg (some ⟨B, 0, none⟩) c _ (fun p => cur.getD p undef) h1 hqe h2 (by omega) hcl (fun h => by cases h) (fun a ha j v hj => by cases ha; rw [Addr.add_lit, Nat.zero_add]; exact hcs j v hj) hcg h7 h8
        · have hql : q < n := by omega
          subst h1
          obtain ⟨ROW, hROW⟩ : ∃ ROW, ROW = ((cur.toList.take (n * 2)).take (q * 2)).toArray ++ Builtin.zeroCells (Value.agg #[Value.int .i64 0, Value.slice none 0 0]).cells (n + 1 - q) ++ Builtin.zeroCells (Value.agg #[Value.int .i64 0, Value.slice none 0 0]).cells (grownCap w (n + 1) c 45 - (n + 1)) := ⟨_, rfl⟩
          refine (ins_mid B n c q VB vo vc _ ws w hql h2 (by omega) hbig hcl hwl hcs hwv (fun v hv => ?_) hv1 ROW hROW).mono fun e w' he => ?_
          · obtain ⟨j, hj, rfl⟩ := List.mem_iff_getElem.1 hv
            have hj2 : j < n * 2 := by omega
            have := hone j hj2
            rw [← hcg j hj2, List.getD_eq_getElem?_getD, List.getElem?_eq_getElem hj] at this
            exact this
          obtain ⟨rfl, rfl⟩ := he
          have hG := grownCap_ge w (n + 1) c 45
          have htl : ((cur.toList.take (n * 2)).take (q * 2)).length = q * 2 := by rw [List.length_take, hcl]; omega
          have hRs : ROW.size = grownCap w (n + 1) c 45 * 2 := by
            rw [hROW]
            simp only [Array.size_append, List.size_toArray, size_zeroCells, htl]
            show q * 2 + (n + 1 - q) * 2 + (grownCap w (n + 1) c 45 - (n + 1)) * 2 = _
            omega
          have hR0 : ∀ p, p < q * 2 → ROW.getD p undef = cur.getD p undef := fun p hp => by
            rw [hROW, Array.getD_eq_getD_getElem?, Array.append_assoc, Array.getElem?_append_left (by simp only [List.size_toArray, htl]; exact hp), List.getElem?_toArray, List.getElem?_take_of_lt hp, ← List.getD_eq_getElem?_getD]
            exact hcg p (by omega)
          have hf1 : q * 2 + ws.length ≤ ROW.size := by omega
          have hs1 := seg_size hf1
          have hdl : ((cur.toList.take (n * 2)).drop (q * 2)).length = (n - q) * 2 := by rw [List.length_drop, hcl]; omega
          have hf2 : (q + 1) * 2 + ((cur.toList.take (n * 2)).drop (q * 2)).length ≤ (seg ROW (q * 2) ws).size := by rw [hs1, hdl]; omega
          have hal : (w.alloc (.cells ROW 45)).drew.heap[w.heap.size]? = some (.cells ROW 45 (0, 0)) := by show (w.heap.push _)[w.heap.size]? = _; simp
          have e3 : Ext g w (g.new w.heap.size (some (.row [f.total])) (some 0)) (w.alloc (.cells ROW 45)).drew := (Ext.new hh.fresh _ _ _).trans (Ext.drew _ _)
          have hn1 : (g.new w.heap.size (some (.row [f.total])) (some 0)).ω w.heap.size = some (.row [f.total]) := by simp [Gh.new]
          have hn2 : (g.new w.heap.size (some (.row [f.total])) (some 0)).fr w.heap.size = some 0 := by simp [Gh.new]
          have hown : ownAt (g.new w.heap.size (some (.row [f.total])) (some 0)) w.heap.size [f.total] = g.new w.heap.size (some (.row [f.total])) (some 0) := by
            unfold ownAt Gh.new
            simp only [Gh.mk.injEq, true_and, and_true]
            funext x
            by_cases hx : x = w.heap.size <;> simp [hx]
          have e4 := e3.trans (ext_row [f.total] hn1 hn2 (seg ROW (q * 2) ws))
          rw [hown] at e4
          have e5 := (e4.trans (Ext.drew _ _)).trans (ext_row [f.total] hn1 hn2 (seg (seg ROW (q * 2) ws) ((q + 1) * 2) ((cur.toList.take (n * 2)).drop (q * 2))))
          rw [hown] at e5
          refine hout rfl (fresh c _ _ (fun p => cur.getD p undef) h7 h8 ((seg_size hf2).trans (hs1.trans hRs)) e5 (setRow_heap _ _ (seg ROW (q * 2) ws) _ _ _ (setRow_heap _ _ ROW _ _ _ hal)) ?_ (fun p hp => ?_) (fun k hk => ?_) (fun p hp1 hp2 => ?_))
          · rw [setRow_size]
            show ((w.alloc (.cells ROW 45)).drew.setRow w.heap.size _).heap.size = _
            rw [setRow_size]
            show (w.heap.push _).size = _
            simp
          · rw [seg_getD hf2, if_pos (by omega), seg_getD hf1, if_pos hp]; exact hR0 p hp
          · rw [seg_getD hf2, if_pos (by omega), seg_getD hf1, if_neg (by omega), if_pos (by omega), show q * 2 + k - q * 2 = k by omega]
            exact hwg k hk
          · rw [seg_getD hf2, if_neg (by omega), if_pos (by rw [hdl]; omega), List.getD_eq_getElem?_getD, List.getElem?_drop, show q * 2 + (p + 2 - (q + 1) * 2) = p by omega, ← List.getD_eq_getElem?_getD]
            exact hcg p hp2
  · cases hr
theorem plugs : ∀ gf sz bytes, plugI gf sz bytes = true → InsOk Try.prog gf sz bytes := by
  intro gf sz bytes h
  unfold plugI at h
  simp only [Bool.and_eq_true] at h
  obtain ⟨⟨h1, h2⟩, h3⟩ := h
  rw [Nat.eq_of_beq_eq_true h1, Nat.eq_of_beq_eq_true h2, Nat.eq_of_beq_eq_true h3]
  exact insOk
end Go.Proofs.Ytafnmkbehjbkdaa.M
