/- The law RecvOrders: whatever parts come, in whatever order, what is handed over is a beginning of the text, and all of it once all has come. -/
import Derived.Test.YtilmdmjhdidoiaaSTROrd
import Derived.Test.YtilmdmjhdidoiaaSTRHeads
import Derived.Test.YtilmdmjhdidoiaaPuRecvOrders
set_option linter.unusedVariables false
set_option linter.unusedSimpArgs false
namespace Go.Proofs.Ytilmdmjhdidoiaa.M
open Go Go.RowKit
noncomputable section
def segS (text : List Int) (irs x n : Int) : SSegment := SSegment.mk 0 0 (wr .u32 (irs + wr .u32 x)) 0 (if min (text.length : Int) (x + n) = text.length then 1 else 0) 0 0 (-1) (-1) false true 0 0 [] (List.take ((min (text.length : Int) (x + n)).toNat - x.toNat) (text.drop x.toNat))
theorem segS_part {text : List Int} {irs x n : Int} (h0 : 0 ≤ x) (h1 : x ≤ text.length) (hn : 0 ≤ n) : Part text irs x (segS text irs x n) := by
 have hl : ((segS text irs x n).xData.length : Int) = min (text.length : Int) (x + n) - x := by
  show ((List.take _ _).length : Int) = _
  rw [List.length_take, List.length_drop]; omega
 refine ⟨h0, h1, rfl, rfl, ⟨_, rfl⟩, by omega, fun hB => ?_⟩
 have hB : decide (0 < bits .and .i64 (if min (text.length : Int) (x + n) = text.length then 1 else 0) 1) = true := hB
 by_cases c : min (text.length : Int) (x + n) = text.length
 ·omega
 ·rw [if_neg c] at hB
  exact absurd (of_decide_eq_true hB) (by decide)
section
variable {R : Type} {F : Nat}
theorem seg_F (h : 1 ≤ F) (text : List Int) (irs x n : Int) (k : SSegment → Option R) (h0 : 0 ≤ x) (h1 : x ≤ text.length) (hn : 0 ≤ n) (hn2 : n ≤ 1000) (hl : text.length ≤ 1000) : G19 capB F irs text x n true k = k (segS text irs x n) := by
 obtain ⟨m, rfl⟩ : ∃ m, F = m + 1 := ⟨F - 1, by omega⟩
 simp only [G19]
 rw [cf (by omega), cf (by omega), ct h0, w64_id (n := x + n) (by omega) (by omega), mn_min, ct (by omega), ct (by omega), cond_true]
 unfold segS
 by_cases c : min (text.length : Int) (x + n) = text.length
 ·rw [ct c, if_pos c]
 ·rw [cf c, if_neg c]
end
theorem New8 {R : Type} {F : Nat} (h : 2 ≤ F) (c s p2 p3 : Int) (p4 p5 : Bool) (k : SRecv → Int → Option R) (ok : NewOk c s) : G17 capB F c s p2 p3 p4 p5 k = k (newS c s p2 p3 p4 p5) 0 := by
 obtain ⟨n, rfl⟩ : ∃ n, F = n + 2 := ⟨F - 2, by omega⟩
 rw [New_k, if_pos ok]
theorem newS_ok {c s p2 p3 : Int} {p4 p5 : Bool} (h : NewOk c s) : RecvOk (newS c s p2 p3 p4 p5) := by
 obtain ⟨h1, h2, h3, h4⟩ := h
 obtain ⟨w1, w2, w3⟩ := win_le (r := c) ⟨h3, h4⟩ (by omega)
 refine ⟨⟨Int.le_refl _, by show (0 : Int) ≤ _; omega, h1, h2, h3, h4, by show ((0 : Nat) : Int) ≤ c; omega, by show ((0 : Nat) : Int) ≤ 0; omega⟩, w1, by show win c s ≤ 0 - ((0 : Nat) : Int) + c; omega, by show -1 ≤ (-1 : Int); omega, by show (-1 : Int) ≤ _; omega, fun z => by have z : (0 : Int) ≤ -1 := z; omega, ⟨trivial, trivial⟩, ?_, fun _ => rfl⟩
 show false = true ↔ (-1 : Int) = 0
 exact ⟨fun z => (by cases z), fun z => (by omega)⟩
theorem rem_rng {p b : Int} (hb : 1 ≤ b) (hb2 : b ≤ 1000) : 0 ≤ wr .i64 (Int.tmod (wr .u64 p) (wr .u64 (wr .i64 b))) ∧ wr .i64 (Int.tmod (wr .u64 p) (wr .u64 (wr .i64 b))) ≤ b - 1 := by
 have h1 : wr .u64 (wr .i64 b) = b := by rw [w64_id (by omega) (by omega), wu64]; omega
 have h2 : 0 ≤ wr .u64 p := by rw [wu64]; omega
 rw [h1, Int.tmod_eq_emod_of_nonneg h2]
 have := Int.emod_nonneg (wr .u64 p) (show b ≠ 0 by omega)
 have := Int.emod_lt_of_pos (wr .u64 p) (show 0 < b by omega)
 rw [w64_id (by omega) (by omega)]; omega
theorem len_rng {p : Int} : 1 ≤ wr .i64 (wr .i64 (Int.tmod (shr .u64 (wr .u64 p) 10) 16) + 1) ∧ wr .i64 (wr .i64 (Int.tmod (shr .u64 (wr .u64 p) 10) 16) + 1) ≤ 16 := by
 have h2 : 0 ≤ wr .u64 p := by rw [wu64]; omega
 have h3 : shr .u64 (wr .u64 p) 10 = wr .u64 p / 1024 := by
  unfold shr
  rw [show min (Int.toNat 10) IntKind.u64.bits = 10 from rfl, show (2 : Int) ^ 10 = 1024 from rfl]
  exact Int.fdiv_eq_ediv_of_nonneg _ (by omega)
 have h4 : 0 ≤ wr .u64 p / 1024 := by omega
 rw [h3, Int.tmod_eq_emod_of_nonneg h4, w64_id (n := wr .u64 p / 1024 % 16) (by omega) (by omega), w64_id (by omega) (by omega)]
 omega
theorem segS_len (text : List Int) (irs x n : Int) : (segS text irs x n).xData.length ≤ text.length := by
 show (List.take _ _).length ≤ _
 rw [List.length_take, List.length_drop]; omega
/-- A part comes: the walk. -/
theorem in_F {R : Type} {F : Nat} (h : 4294967260 ≤ F) {text got : List Int} {irs cap x : Int} {r : SRecv} {s : SSegment} (t : Txt text irs cap got r) (p : Part text irs x s) (hs : s.xStamped = true) (hl : text.length ≤ 200) (k : SRecv → SSegment → Bool → Int → Option R) : G12 capB F r s k = k (tellE (inR r s)) (tellS (inR r s) (aheadL r s)) true 0 := by
 have hd := p.hlen
 have x0 := p.x0
 rw [(Input_F h r s k (ok_fits t.ok (by omega)) (by omega)).1 t.ok, if_neg (fun z => by rw [hs] at z; cases z.2), if_neg]
 rintro ⟨_, _, z⟩
 rw [t.hrec, p.hval] at z
 unfold sdiff at z; omega
theorem loop08 {R : Type} (n : Nat) (hn : 4294967290 ≤ n) (text : List Int) (irs : Int) (parts reads : List Int) (hl : text.length ≤ 200) (hp : parts.length ≤ 200) : ∀ (d m i : Nat) (got : List Int) (r : SRecv), i + d = parts.length → d < m → Txt text irs 1000 got r →
  ∃ got' r', Txt text irs 1000 got' r' ∧ ∀ (kr : Option R) (ke : List Int → SRecv → Option R), l6_24 capB n m text irs parts reads got (i : Int) r kr ke = ke got' r'
 | 0, m, i, got, r, hd, hm, t => by
  obtain ⟨m, rfl⟩ : ∃ m', m = m' + 1 := ⟨m - 1, by omega⟩
  refine ⟨got, r, t, fun kr ke => ?_⟩
  simp only [l6_24, G6, s6_1, s6_4, s6_6, s6_9, s6_12, s6_14, s6_16, s6_17, s6_20, s6_22, s6_25, s6_27, s6_29, s6_30, s6_32, s6_35, s6_37, s6_39]
  rw [cf (by omega)]
 | d + 1, m, i, got, r, hd, hm, t => by
  obtain ⟨m, rfl⟩ : ∃ m', m = m' + 1 := ⟨m - 1, by omega⟩
  obtain ⟨x1, x2⟩ := rem_rng (p := parts.getD i zint) (b := (text.length : Int) + 1) (by omega) (by omega)
  obtain ⟨n1, n2⟩ := len_rng (p := parts.getD i zint)
  have hX : ∃ X, X = wr .i64 (Int.tmod (wr .u64 (parts.getD i zint)) (wr .u64 (wr .i64 ((text.length : Int) + 1)))) := ⟨_, rfl⟩
  have hN : ∃ N, N = wr .i64 (wr .i64 (Int.tmod (shr .u64 (wr .u64 (parts.getD i zint)) 10) 16) + 1) := ⟨_, rfl⟩
  obtain ⟨X, hX⟩ := hX
  obtain ⟨N, hN⟩ := hN
  rw [← hX] at x1 x2
  rw [← hN] at n1 n2
  have pt := segS_part (text := text) (irs := irs) (x := X) (n := N) x1 (by omega) (by omega)
  obtain ⟨t1, e1, e2, _, _⟩ := t.input pt hl
  have hin := fun k => in_F (R := R) (F := n) (by omega) t pt rfl hl k
  have hck := fun k => (Check_F (R := R) (F := n) (by omega) (tellE (inR r (segS text irs X N))) k (ok_fits t1.ok (by omega))).1 t1.ok
  have hrd := fun v k => (Read_F (R := R) (F := n) (by omega) (tellE (inR r (segS text irs X N))) v k (ok_fits t1.ok (by omega))).1 t1.ok
  have hne : ¬ wr .u64 (wr .i64 ((text.length : Int) + 1)) = 0 := by rw [w64_id (by omega) (by omega), wu64]; omega
  have hsm : ∀ (xs : List Int) (k : Bool → Option R), G21 capB n xs xs k = k true := fun xs k => by
   obtain ⟨j, hj⟩ : ∃ j, n = j + 1 := ⟨n - 1, by omega⟩
   rw [hj]; exact Same02_k j xs k
  -- behind the read
  have tail : ∀ (got' : List Int) (r' : SRecv) (kn kr : Option R), Txt text irs 1000 got' r' → cond (decide ((text.length : Int) < (got'.length : Int))) kr (cond (decide (0 ≤ (got'.length : Int))) (cond (decide ((got'.length : Int) ≤ (text.length : Int))) (G21 capB n got' (text.take (Int.toNat (got'.length : Int))) fun r102 => cond (!r102) kr (cond (!decide (wr .i64 ((got'.length : Int) + (r'.xUnread.length : Int)) = r'.xNext)) kr kn)) none) none) = kn := fun got' r' kn kr t' => by
   have g1 := t'.gl; have g2 := t'.gt; have g3 := t'.base
   have g4 := t'.next_le; have g5 := t'.ok.1.1
   rw [cf (by omega), ct (by omega), ct (by omega), Int.toNat_natCast, g2, hsm, Bool.not_true, cond_false, w64_id (by omega) (by omega), cnt (by omega)]
  have hw := succ_w (i := i) (by omega)
  have main : ∃ got' r', Txt text irs 1000 got' r' ∧ ∀ (kr : Option R) (kk : List Int → Int → SRecv → Option R) (ke : Option R), s6_22 capB n text irs parts reads got (i : Int) r kk kr ke = kk got' ((i + 1 : Nat) : Int) r' := by
   by_cases c : i < reads.length
   ·have tr := t1.read (bits .and .i64 (reads.getD i zint) 31)
    by_cases c2 : (tellE (inR r (segS text irs X N))).xNext + room (readR (tellE (inR r (segS text irs X N))) (bits .and .i64 (reads.getD i zint) 31)) - (tellE (inR r (segS text irs X N))).xEdge < max ((tellE (inR r (segS text irs X N))).xCap / 2) 1
    ·refine ⟨_, _, tr, fun kr kk ke => ?_⟩
     have hgl := tr.gl
     rw [List.length_append] at hgl
     simp only [G6, s6_1, s6_4, s6_6, s6_9, s6_12, s6_14, s6_16, s6_17, s6_20, s6_22, s6_25, s6_27, s6_29, s6_30, s6_32, s6_35, s6_37, s6_39]
     rw [ct (show (i : Int) < _ by omega), ct (show (0 : Int) ≤ i by omega), ct (show (i : Int) < _ by omega), cf hne, ct (show (0 : Int) ≤ i by omega), ct (show (i : Int) < _ by omega), Int.toNat_natCast, ← hX, ← hN, seg_F (by omega) text irs X N _ x1 (by omega) (by omega) (by omega) (by omega), hin, cnt rfl, Bool.not_true, cond_false, hck, cnt rfl, cf (by omega), cf (by omega), ct (show (i : Int) < _ by omega), ct (show (0 : Int) ≤ i by omega), ct (show (i : Int) < _ by omega), hrd, if_pos c2, cnt rfl, cap_ok (by omega), tail _ _ _ _ tr, hw]
    ·refine ⟨_, _, tr.tell, fun kr kk ke => ?_⟩
     have hgl := tr.gl
     rw [List.length_append] at hgl
     simp only [G6, s6_1, s6_4, s6_6, s6_9, s6_12, s6_14, s6_16, s6_17, s6_20, s6_22, s6_25, s6_27, s6_29, s6_30, s6_32, s6_35, s6_37, s6_39]
     rw [ct (show (i : Int) < _ by omega), ct (show (0 : Int) ≤ i by omega), ct (show (i : Int) < _ by omega), cf hne, ct (show (0 : Int) ≤ i by omega), ct (show (i : Int) < _ by omega), Int.toNat_natCast, ← hX, ← hN, seg_F (by omega) text irs X N _ x1 (by omega) (by omega) (by omega) (by omega), hin, cnt rfl, Bool.not_true, cond_false, hck, cnt rfl, cf (by omega), cf (by omega), ct (show (i : Int) < _ by omega), ct (show (0 : Int) ≤ i by omega), ct (show (i : Int) < _ by omega), hrd, if_neg c2, cnt rfl, cap_ok (by omega), tail _ _ _ _ tr.tell, hw]
   ·refine ⟨_, _, t1, fun kr kk ke => ?_⟩
    simp only [G6, s6_1, s6_4, s6_6, s6_9, s6_12, s6_14, s6_16, s6_17, s6_20, s6_22, s6_25, s6_27, s6_29, s6_30, s6_32, s6_35, s6_37, s6_39]
    rw [ct (show (i : Int) < _ by omega), ct (show (0 : Int) ≤ i by omega), ct (show (i : Int) < _ by omega), cf hne, ct (show (0 : Int) ≤ i by omega), ct (show (i : Int) < _ by omega), Int.toNat_natCast, ← hX, ← hN, seg_F (by omega) text irs X N _ x1 (by omega) (by omega) (by omega) (by omega), hin, cnt rfl, Bool.not_true, cond_false, hck, cnt rfl, cf (by omega), cf (by omega), cf (show ¬ (i : Int) < _ by omega), tail _ _ _ _ t1, hw]
  obtain ⟨got', r', t', hm'⟩ := main
  obtain ⟨got2, r2, t2, h2⟩ := loop08 n hn text irs parts reads hl hp d m (i + 1) got' r' (by omega) (by omega) t'
  refine ⟨got2, r2, t2, fun kr ke => ?_⟩
  rw [l6_24, hm', h2]
theorem law_RecvOrders : LawRecvOrders.Pure := by
 intro M text irs parts reads h0 h1 h2 h3
 obtain ⟨N, hN⟩ : ∃ N : Nat, N = 4294967296 := ⟨_, rfl⟩
 refine ⟨N + 61, fun R k => ?_⟩
 obtain ⟨F, hF⟩ : ∃ F, F = N + 60 := ⟨_, rfl⟩
 have hh : ∀ k : Bool → Option R, G11 capB F k = k true := fun k => by
  obtain ⟨j, hj⟩ : ∃ j, F = j + 40 := ⟨N + 20, by omega⟩
  rw [hj]; exact heads08 j k
 rw [show N + 61 = F + 1 by omega]
 simp only [G6, s6_1, s6_4, s6_6, s6_9, s6_12, s6_14, s6_16, s6_17, s6_20, s6_22, s6_25, s6_27, s6_29, s6_30, s6_32, s6_35, s6_37, s6_39]
 by_cases c1 : 200 < (text.length : Int)
 ·rw [ct c1, hh]
 rw [cf c1]
 by_cases c2 : 200 < (parts.length : Int)
 ·rw [ct c2, hh]
 have hnew : NewOk 1000 2 := by unfold NewOk; omega
 rw [cf c2, New8 (by omega) _ _ _ _ _ _ _ hnew, cnt rfl]
 have t0 : Txt text irs 1000 [] (newS 1000 2 irs 0 true true) := by
  refine ⟨newS_ok hnew, rfl, rfl, rfl, .inl rfl, by simp, by simp, by show (0 : Int) - ((0 : Nat) : Int) = ((0 : Nat) : Int); omega, fun t hn => ?_⟩
  refine absurd ?_ hn
  have : At (Full (newS 1000 2 irs 0 true true)) t = At [] t := at_out (by rw [full_end]; show ¬ ((0 : Int) - ((0 : Nat) : Int) ≤ t ∧ t < 0); omega)
  rw [this]; rfl
 obtain ⟨got, r, t, hloop⟩ := loop08 (R := R) F (by omega) text irs parts reads (by omega) (by omega) parts.length F 0 [] _ (by omega) (by omega) t0
 rw [show ((0 : Nat) : Int) = 0 from rfl] at hloop
 rw [hloop]
 have pt := segS_part (text := text) (irs := irs) (x := 0) (n := text.length) (Int.le_refl _) (by omega) (by omega)
 have hd : (segS text irs 0 text.length).xData = text := by
  show List.take ((min (text.length : Int) (0 + (text.length : Int))).toNat - (0 : Int).toNat) (text.drop (0 : Int).toNat) = text
  rw [show (0 : Int).toNat = 0 from rfl, List.drop_zero]
  exact List.take_of_length_le (by omega)
 have hB : finB (segS text irs 0 text.length) = true := by
  show decide (0 < bits .and .i64 (if min (text.length : Int) (0 + (text.length : Int)) = text.length then 1 else 0) 1) = true
  rw [if_pos (by omega)]; rfl
 have t1 := (t.input pt (by omega)).1
 have hw := t.whole pt (by omega) (by omega) hd
 have hdone := t.whole_fin pt (by omega) (by omega) hd hB
 have hrd := fun k => (Read_F (R := R) (F := F) (by omega) (tellE (inR r (segS text irs 0 text.length))) (text.length : Int) k (ok_fits t1.ok (by omega))).1 t1.ok
 rw [seg_F (by omega) text irs 0 text.length _ (Int.le_refl _) (by omega) (by omega) (by omega) (by omega), in_F (by omega) t pt rfl (by omega), hrd]
 have hu := t1.unread
 have hb := t1.base
 have hnx : (tellE (inR r (segS text irs 0 text.length))).xNext = text.length := hw
 have hul : ((inR r (segS text irs 0 text.length)).xUnread.length : Int) ≤ text.length := by
  have : (tellE (inR r (segS text irs 0 text.length))).xUnread = (inR r (segS text irs 0 text.length)).xUnread := rfl
  rw [this] at hb; omega
 have hk : readN (tellE (inR r (segS text irs 0 text.length))) (text.length : Int) = (tellE (inR r (segS text irs 0 text.length))).xUnread.length := by
  have : (tellE (inR r (segS text irs 0 text.length))).xUnread = (inR r (segS text irs 0 text.length)).xUnread := rfl
  unfold readN; rw [this]; omega
 have hall : got ++ (tellE (inR r (segS text irs 0 text.length))).xUnread.take (readN (tellE (inR r (segS text irs 0 text.length))) (text.length : Int)) = text := by
  have tr := t1.read (text.length : Int)
  have hg := tr.gt
  rw [hk, List.take_length] at hg ⊢
  rw [← hg]
  apply List.take_of_length_le
  rw [List.length_append]; omega
 have hsm : ∀ (xs : List Int) (k : Bool → Option R), G21 capB F xs xs k = k true := fun xs k => by
  obtain ⟨j, hj⟩ : ∃ j, F = j + 1 := ⟨F - 1, by omega⟩
  rw [hj]; exact Same02_k j xs k
 have hcl : got.length + ((tellE (inR r (segS text irs 0 text.length))).xUnread.take (readN (tellE (inR r (segS text irs 0 text.length))) (text.length : Int))).length = text.length := by
  rw [← List.length_append, hall]
 have core : ∀ y : SRecv, y.xDone = true → cond (decide ((0 : Int) = 0)) (cond (decide ((0 : Int) = 0)) (cond y.xDone (cond (capB (got.length + ((tellE (inR r (segS text irs 0 text.length))).xUnread.take (readN (tellE (inR r (segS text irs 0 text.length))) (text.length : Int))).length) 1) (G21 capB F (got ++ (tellE (inR r (segS text irs 0 text.length))).xUnread.take (readN (tellE (inR r (segS text irs 0 text.length))) (text.length : Int))) text fun r139 => cond r139 (G11 capB F fun r140 => k r140) (k false)) none) (k false)) (k false)) (k false) = k true := fun y hy => by
  rw [ct rfl, ct rfl, cT hy, hall, cap_ok (by omega), hsm, cond_true, hh]
 split
 ·exact core _ hdone
 ·exact core _ hdone
end
end Go.Proofs.Ytilmdmjhdidoiaa.M
