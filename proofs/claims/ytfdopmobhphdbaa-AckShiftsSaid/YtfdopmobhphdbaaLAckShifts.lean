/- Only differences of sequence numbers count. -/
import Derived.Test.YtfdopmobhphdbaaTAck2
import Derived.Test.YtfdopmobhphdbaaTSame
import Derived.Test.YtfdopmobhphdbaaPuAckShifts
set_option linter.unusedVariables false
set_option linter.unusedSimpArgs false
namespace Go.Proofs.Ytfdopmobhphdbaa.M
open Go Go.RowKit
theorem Same22_k {R : Type} (cp : Nat → Nat → Bool) (n : Nat) (h : SHeard) (k : Bool → Option R) (hl : h.xSpans.length < 9223372036854775807) (hn : h.xSpans.length + 1 ≤ n) : G_ref22_Same cp (n + 2) h h k = k true := by
  simp only [G_ref22_Same, beq_self_eq_true, decide_true, cond_true]
  exact Same06_k cp n _ _ hl hn
theorem weigh_length (a : SAsked) (s : SSegment) : (weigh a s).xSpans.length ≤ s.xSacks.length := by
  unfold weigh
  split
  · simp only
    cases a.xSacks with
    | false => simp
    | true =>
      refine Nat.le_trans (gather_length _ _ _) ?_
      simp
  · simp
def moveA (a : SAsked) (p q : Int) : SAsked := ⟨a.xUna, a.xNext, (a.xIss + p) % 4294967296, a.xPeer, (a.xIrs + q) % 4294967296, a.xStamps, a.xRecent, a.xNow, a.xSacks⟩
def moveB (p : Int) (b : SBlock) : SBlock := ⟨(b.xFrom + p) % 4294967296, (b.xTo + p) % 4294967296⟩
def moveS (s : SSegment) (p q : Int) : SSegment := ⟨s.xSrcPort, s.xDstPort, (s.xSeq + q) % 4294967296, (s.xAck + p) % 4294967296, s.xFlags, s.xWin, s.xUrg, s.xMss, s.xScale, s.xSackOk, s.xStamped, s.xVal, s.xEcr, s.xSacks.map (moveB p), s.xData⟩
theorem shift (x y p : Int) : ((x + p) % 4294967296 - (y + p) % 4294967296) % 4294967296 = (x - y) % 4294967296 := by omega
theorem weigh_move (a : SAsked) (s : SSegment) (p q : Int) : weigh (moveA a p q) (moveS s p q) = weigh a s := by
  have e1 : cntO (moveA a p q) (moveS s p q) = cntO a s := by
    unfold cntO moveA moveS
    simp only [shift]
  have e2 : (moveS s p q).xSacks.map (offs (moveA a p q)) = s.xSacks.map (offs a) := by
    unfold moveS moveA
    simp only [List.map_map]
    congr 1
    funext b
    unfold offs moveB
    simp only [Function.comp, shift]
  unfold weigh
  rw [e1, e2]
  rfl
theorem Shifts_loop {R : Type} (n : Nat) (a : SAsked) (s : SSegment) (p v217 v218 v219 v220 : Int) (ke : List SBlock → Option R) (hl : s.xSacks.length ≤ 100) : ∀ (r : List SBlock) (i m : Nat) (out : List SBlock), s.xSacks.drop i = r → i ≤ s.xSacks.length → out.length = i → r.length + 1 ≤ m →
    l_law22_AckShifts_21 capB n m a s p v217 v218 v219 v220 (i : Int) out ke = ke (out ++ r.map (moveB p))
  | [], i, 0, out, h, hi, ho, hk => by simp at hk
  | [], i, m + 1, out, h, hi, ho, hk => by
    have := drop_nil h
    simp only [l_law22_AckShifts_21, s_law22_AckShifts_16]
    rw [cf (by omega)]; simp
  | x :: r, i, 0, out, h, hi, ho, hk => by simp at hk
  | x :: r, i, m + 1, out, h, hi, ho, hk => by
    obtain ⟨h1, h2⟩ := drop_lt h
    simp only [l_law22_AckShifts_21, s_law22_AckShifts_16]
    rw [ct (by omega), ct (by omega), ct (by omega), ct (by omega), ct (by omega), rd_at h, cap_ok (by simp only [List.length_cons, List.length_nil]; omega), succ_w (by omega),
      Shifts_loop n a s p v217 v218 v219 v220 ke hl r (i + 1) m _ h2 (by omega) (by simp; omega) (by simpa using hk)]
    simp [moveB, wu32]
theorem law_AckShifts : LawAckShifts.Pure := by
  intro M a s p q ha hs hp hq
  refine ⟨200 + 1 + 1, fun R k => ?_⟩
  have hA : Asks a := ⟨ha.1, ha.2.2.2.1⟩
  have hh : ∀ (k : Bool → Option R), G_law22_heads capB (200 + 1) k = k true := fun k => heads22 161 k
  simp only [G_law22_AckShifts, s_law22_AckShifts_42, s_law22_AckShifts_1, s_law22_AckShifts_40, s_law22_AckShifts_4]
  by_cases hl : 100 < (s.xSacks.length : Int)
  · rw [ct hl, hh]
  rw [cf hl]
  simp only [s_law22_AckShifts_38, s_law22_AckShifts_6, s_law22_AckShifts_36, s_law22_AckShifts_8, s_law22_AckShifts_34, s_law22_AckShifts_10, s_law22_AckShifts_32, s_law22_AckShifts_12, s_law22_AckShifts_30, s_law22_AckShifts_26, s_law22_AckShifts_14, s_law22_AckShifts_24, s_law22_AckShifts_22]
  have h1 := Shifts_loop (201) a s p (wr .u32 (a.xIss + p)) (wr .u32 (a.xIrs + q)) (wr .u32 (s.xSeq + q)) (wr .u32 (s.xAck + p)) (fun v227 => s_law22_AckShifts_27 capB 201 a s (wr .u32 (a.xIss + p)) (wr .u32 (a.xIrs + q)) (wr .u32 (s.xSeq + q)) (wr .u32 (s.xAck + p)) v227 k) (by omega) s.xSacks 0 201 [] rfl (by omega) rfl (by omega)
  refine h1.trans ?_
  simp only [s_law22_AckShifts_27, List.nil_append, wu32]
  have hB : Asks (moveA a p q) := ⟨hA.1, hA.2⟩
  have hlen : (moveS s p q).xSacks.length = s.xSacks.length := by simp [moveS]
  show G_ack_Weigh capB (200 + 1) a s (fun r228 => G_ack_Weigh capB (200 + 1) (moveA a p q) (moveS s p q) fun r229 => _) = _
  rw [Weigh_k _ _ _ hA (by omega) (by omega), Weigh_k _ _ _ hB (by omega) (by omega), weigh_move]
  have := weigh_length a s
  generalize weigh a s = x at *
  show G_ref22_Same capB (199 + 2) x x _ = _
  rw [Same22_k _ _ _ _ (by omega) (by omega), cond_true, hh]
end Go.Proofs.Ytfdopmobhphdbaa.M
