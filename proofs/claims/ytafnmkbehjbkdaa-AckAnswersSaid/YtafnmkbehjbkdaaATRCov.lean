/- Every span of what is late is told. -/
import Derived.Test.YtafnmkbehjbkdaaATROrd
set_option linter.unusedVariables false
set_option linter.unusedSimpArgs false
namespace Go.Proofs.Ytafnmkbehjbkdaa.M
open Go Go.RowKit
noncomputable section
theorem at_mem : ∀ {l : List SPiece} {t : Int}, At l t ≠ none → ∃ p ∈ l, p.xFrom ≤ t ∧ t < endP p
 | [], _, h => absurd rfl h
 | p :: ps, t, h => by
  by_cases c : p.xFrom ≤ t ∧ t < endP p
  ·exact ⟨p, List.mem_cons_self, c⟩
  ·rw [at_out c] at h
   obtain ⟨q, hq, e⟩ := at_mem h
   exact ⟨q, List.mem_cons_of_mem _ hq, e⟩
theorem mem_at : ∀ {l : List SPiece} {p : SPiece} {t : Int}, p ∈ l → p.xFrom ≤ t ∧ t < endP p → At l t ≠ none
 | q :: qs, p, t, h, c => by
  by_cases d : q.xFrom ≤ t ∧ t < endP q
  ·exact at_some d
  ·rw [at_out d]
   rcases List.mem_cons.1 h with rfl | h
   ·exact absurd c d
   ·exact mem_at h c
theorem beside : ∀ {l : List SPiece} {lo : Int} {p : SPiece}, POk lo l → p ∈ l → At l (p.xFrom - 1) = none ∧ At l (endP p) = none
 | q :: qs, lo, p, h, hp => by
  obtain ⟨h1, h2, h3⟩ := h
  have e := end_lt h2
  rcases List.mem_cons.1 hp with rfl | hp
  ·rw [at_out (by omega), at_out (by omega)]
   exact ⟨POk_none h3 (by omega), POk_none h3 (by omega)⟩
  ·have f := POk_from h3 p hp
   have e2 := end_lt f.2
   rw [at_out (by omega), at_out (by omega)]
   exact beside h3 hp
theorem one_piece : ∀ {l : List SPiece} {lo : Int} {p q : SPiece} {t : Int}, POk lo l → p ∈ l → q ∈ l → p.xFrom ≤ t ∧ t < endP p → q.xFrom ≤ t ∧ t < endP q → p = q
 | x :: xs, lo, p, q, t, h, hp, hq, cp, cq => by
  obtain ⟨h1, h2, h3⟩ := h
  rcases List.mem_cons.1 hp with hp | hp <;> rcases List.mem_cons.1 hq with hq | hq
  ·rw [hp, hq]
  ·have := (POk_from h3 q hq).1; rw [hp] at cp; omega
  ·have := (POk_from h3 p hp).1; rw [hq] at cq; omega
  ·exact one_piece h3 hp hq cp cq
theorem find_in : ∀ {l : List SPiece} {lo : Int} {q : SPiece} {s : SSpan}, POk lo l → q ∈ l → s.xFrom < s.xTo → q.xFrom ≤ s.xFrom → s.xTo ≤ endP q → findS (l.map spx) s = some (spx q)
 | x :: xs, lo, q, s, h, hq, h0, h1, h2 => by
  rw [List.map_cons, findS_cons]
  by_cases c : (spx x).xFrom ≤ s.xFrom ∧ s.xTo ≤ (spx x).xTo
  ·rw [if_pos c]
   have c1 : x.xFrom ≤ s.xFrom := c.1
   have c2 : s.xTo ≤ endP x := c.2
   rw [one_piece (p := x) (q := q) (t := s.xFrom) h List.mem_cons_self hq ⟨c1, by omega⟩ ⟨h1, by omega⟩]
  ·rw [if_neg c]
   rcases List.mem_cons.1 hq with rfl | hq
   ·exact absurd ⟨h1, h2⟩ c
   ·exact find_in h.2.2 hq h0 h1 h2
theorem firstsL_keep (all : List SSpan) : ∀ (told out : List SSpan) (y : SSpan), y ∈ out → y ∈ firstsL all out told
 | [], out, y, h => h
 | s :: rest, out, y, h => by
  unfold firstsL
  cases findS all s with
  | none => exact firstsL_keep all rest out y h
  | some z =>
   simp only
   split
   ·exact firstsL_keep all rest out y h
   ·exact firstsL_keep all rest _ y (List.mem_append_left _ h)
theorem firstsL_mem (all : List SSpan) : ∀ (told out : List SSpan) (s y : SSpan), s ∈ told → findS all s = some y → y ∈ firstsL all out told
 | a :: rest, out, s, y, h, hf => by
  unfold firstsL
  rcases List.mem_cons.1 h with rfl | h
  ·rw [hf]
   simp only
   split
   ·rename_i c; exact firstsL_keep all rest out y c
   ·exact firstsL_keep all rest _ y (by simp)
  ·cases findS all a with
   | none => exact firstsL_mem all rest out s y h hf
   | some z =>
    simp only
    split
    ·exact firstsL_mem all rest out s y h hf
    ·exact firstsL_mem all rest _ s y h hf
theorem firstsL_head (all : List SSpan) : ∀ (told out : List SSpan), ∃ m, firstsL all out told = out ++ m
 | [], out => ⟨[], by simp [firstsL]⟩
 | s :: rest, out => by
  unfold firstsL
  cases findS all s with
  | none => exact firstsL_head all rest out
  | some z =>
   simp only
   split
   ·exact firstsL_head all rest out
   ·obtain ⟨m, hm⟩ := firstsL_head all rest (out ++ [z])
    exact ⟨z :: m, by rw [hm]; simp⟩
theorem lastI_is {x e : Int} (q : SPiece) : ∀ (a b : List SPiece) (lo : Int), POk lo (a ++ q :: b) → q.xFrom < e → x < endP q → e ≤ endP q → ∀ i, a.length < i → i ≤ (a ++ q :: b).length → lastI ((a ++ q :: b).map spx) x e i = some (spx q)
 | a, b, lo, h, h1, h2, h3, 0, hi, _ => by omega
 | a, b, lo, h, h1, h2, h3, i + 1, hi, hl => by
  unfold lastI
  by_cases c : i = a.length
  ·have e0 : ((a ++ q :: b).map spx).getD i zSpan = spx q := by
    rw [c, List.getD_eq_getElem?_getD, List.getElem?_map, List.getElem?_append_right (Nat.le_refl _)]; simp
   rw [e0, if_pos (show (spx q).xFrom < e ∧ x < (spx q).xTo from ⟨h1, h2⟩)]
  ·have hi' : i < (a ++ q :: b).length := by omega
   have hb : (a ++ q :: b).getD i zPiece ∈ b := by
    rw [List.getD_eq_getElem?_getD, List.getElem?_append_right (by omega)]
    obtain ⟨j, hj⟩ : ∃ j, i - a.length = j + 1 := ⟨i - a.length - 1, by omega⟩
    rw [hj, List.getElem?_cons_succ]
    have : j < b.length := by rw [List.length_append, List.length_cons] at hi'; omega
    rw [List.getElem?_eq_getElem this]; exact List.getElem_mem _
   have e0 : ((a ++ q :: b).map spx).getD i zSpan = spx ((a ++ q :: b).getD i zPiece) := by
    rw [List.getD_eq_getElem?_getD, List.getElem?_map, List.getElem?_eq_getElem hi', List.getD_eq_getElem?_getD, List.getElem?_eq_getElem hi']; rfl
   have hlate : ∀ (a : List SPiece) (lo : Int), POk lo (a ++ q :: b) → ∀ y ∈ b, endP q < y.xFrom := by
    intro a
    induction a with
    | nil => intro lo h y hy; have := (POk_from h.2.2 y hy).1; omega
    | cons z zs ih => intro lo h y hy; exact ih _ h.2.2 y hy
   have := hlate a lo h _ hb
   rw [e0, if_neg (show ¬ ((spx ((a ++ q :: b).getD i zPiece)).xFrom < e ∧ x < (spx ((a ++ q :: b).getD i zPiece)).xTo) from fun z => by
    have z1 : ((a ++ q :: b).getD i zPiece).xFrom < e := z.1
    omega)]
   exact lastI_is q a b lo h h1 h2 h3 i (by omega) (by omega)
theorem told_head {l : List SPiece} {lo x : Int} {d : List Int} {fs : List SSpan} {q : SPiece} (h : POk lo l) (hq : q ∈ l) (hd : d ≠ []) (h1 : q.xFrom < x + d.length) (h2 : x < endP q) (h3 : x + d.length ≤ endP q) : toldL (l.map spx) x d fs = spx q :: fs := by
 obtain ⟨a, b, rfl⟩ := List.append_of_mem hq
 unfold toldL
 rw [if_neg hd, lastI_is q a b lo h h1 h2 h3 _ (by simp) (by simp)]
def Cov (r : SRecv) : Prop := ∀ p ∈ r.xLate, spx p ∈ r.xFirst
theorem meets {r : SRecv} {s : SSegment} {x : Int} (h : RecvOk r) (hx : inX r s = x) (hE : takeE (midR r s) x s.xData = x + s.xData.length) {t : Int} (ht : (inT r s).xNext ≤ t) (h1 : x ≤ t) (h2 : t < x + s.xData.length) : At (inT r s).xLate t ≠ none := by
 have hn := (inT_eq s h).1
 have ha := inT_at s h t
 rw [hx, hE] at ha
 have hf := full_late (r := inT r s) ht
 rw [hf] at ha
 by_cases c : At (Full r) t = none
 ·rw [if_pos ⟨by omega, h2, c⟩, List.getElem?_eq_getElem (by omega)] at ha
  rw [ha]; simp
 ·rw [if_neg (fun z => c z.2.2)] at ha
  rw [ha]; exact c
theorem holds {r : SRecv} {s : SSegment} {x : Int} (h : RecvOk r) (hx : inX r s = x) (hE : takeE (midR r s) x s.xData = x + s.xData.length) {q : SPiece} (hq : q ∈ (inT r s).xLate) {t : Int} (ht : q.xFrom ≤ t ∧ t < endP q) (h1 : x ≤ t) (h2 : t < x + s.xData.length) : x + s.xData.length ≤ endP q := by
 have hm := inT_mid s h
 rcases Int.lt_or_le (endP q) (x + s.xData.length) with c | c
 ·exfalso
  have hb := (beside hm.2.1.1 hq).2
  have hf := POk_from hm.2.1.1 q hq
  exact meets h hx hE (by omega) (by omega) c hb
 ·exact c
theorem cov_in {r : SRecv} {s : SSegment} {x : Int} (h : RecvOk r) (hc : Cov r) (hx : inX r s = x) (hE : takeE (midR r s) x s.xData = x + s.xData.length) : Cov (inR r s) := by
 intro q hq
 have hq : q ∈ (inT r s).xLate := hq
 have hm := inT_mid s h
 have hmr := mid_of_ok h
 have hf := POk_from hm.2.1.1 q hq
 have he := end_lt hf.2
 have hn := (inT_eq s h).1
 have hfst : (inT r s).xFirst = r.xFirst := by
  obtain ⟨u, b, f, e⟩ := midR_eq r s
  show (midR r s).xFirst = _
  rw [e]
 show spx q ∈ firstsL ((inT r s).xLate.map spx) [] (toldL ((inT r s).xLate.map spx) (inX r s) s.xData (inT r s).xFirst)
 have hfind : findS ((inT r s).xLate.map spx) (spx q) = some (spx q) := find_in hm.2.1.1 hq he (Int.le_refl _) (Int.le_refl _)
 by_cases c : max q.xFrom x < min (endP q) (x + s.xData.length)
 ·have h3 := holds h hx hE hq (t := max q.xFrom x) (by omega) (by omega) (by omega)
  have hd : s.xData ≠ [] := fun z => by rw [z] at c; simp at c; omega
  rw [hx, told_head hm.2.1.1 hq hd (by omega) (by omega) h3]
  exact firstsL_mem _ _ _ _ _ List.mem_cons_self hfind
 ·-- nothing of the segment: the piece was there
  have old : ∀ t, (inT r s).xNext ≤ t → ¬ (x ≤ t ∧ t < x + s.xData.length) → At (inT r s).xLate t = At r.xLate t := fun t h1 h2 => by
   have ha := inT_at s h t
   rw [hx, hE, if_neg (fun z => by omega), full_late h1, full_late (by omega)] at ha
   exact ha
  have mono : ∀ t, (inT r s).xNext ≤ t → At (inT r s).xLate t = none → At r.xLate t = none := fun t h1 h2 => by
   have ha := inT_at s h t
   rw [full_late h1, h2] at ha
   by_cases k : At (Full r) t = none
   ·rw [full_late (by omega)] at k; exact k
   ·rw [if_neg (fun z => k z.2.2)] at ha; exact absurd ha.symm k
  obtain ⟨b1, b2⟩ := beside hm.2.1.1 hq
  have m1 := mono (q.xFrom - 1) (by omega) b1
  have m2 := mono (endP q) (by omega) b2
  have here : ∀ t, q.xFrom ≤ t → t < endP q → At r.xLate t ≠ none := fun t h1 h2 => by
   rw [← old t (by omega) (by omega)]; exact mem_at hq ⟨h1, h2⟩
  obtain ⟨p, hp, p1, p2⟩ := at_mem (here q.xFrom (Int.le_refl _) he)
  have e1 : p.xFrom = q.xFrom := by
   rcases Int.lt_or_le p.xFrom q.xFrom with k | k
   ·exact absurd m1 (mem_at hp ⟨by omega, by omega⟩)
   ·omega
  have e2 : endP p = endP q := by
   rcases Int.lt_trichotomy (endP p) (endP q) with k | k | k
   ·exact absurd (beside hmr.2.1.1 hp).2 (here (endP p) (by omega) k)
   ·exact k
   ·exact absurd m2 (mem_at hp ⟨by omega, k⟩)
  have hs : spx q = spx p := by unfold spx; rw [e1, e2]
  have hin := hc p hp
  rw [← hs] at hin
  refine firstsL_mem _ _ _ (spx q) _ ?_ hfind
  unfold toldL
  rw [hfst]
  split
  ·exact hin
  ·split
   ·exact List.mem_cons_of_mem _ hin
   ·exact hin
end
end Go.Proofs.Ytafnmkbehjbkdaa.M
