/- The machine's code of the functions, and that it computes them. -/
import Derived.Test.YtilmdmjhdidoiaaOG1a
import Derived.Test.YtilmdmjhdidoiaaProg
import Derived.KernelRfl
set_option maxRecDepth 100000
set_option linter.unusedVariables false
set_option linter.unusedSimpArgs false
namespace Go.Proofs.Ytilmdmjhdidoiaa.M
open Go
noncomputable section
def fr_span_Gaps_44 (p1 : SSpan) (v99 : (List SSpan)) (v100 v101 : Int) (v130 : (List SSpan)) (v131 : Int) : FF := [dc, dc, dc, dc, (.hdr 2) :: ((eSpan p1) ++ ((.hdr 1) :: (.row true (.rSpan v130)) :: (.hdr 1) :: (tL v131) :: (dT 3 ((.hdr 1) :: (.row false (.rSpan v99)) :: (.hdr 2) :: (tL v100) :: (tL v101) :: (dT 1 []))))), dc]
def fr_span_Gaps_46 (p1 : SSpan) (v99 : (List SSpan)) (v100 v101 : Int) : FF := [.yld :: (.ptr 74 0) :: (.ptr 76 0) :: (dT 13 []), dc, dc, dc, (.hdr 2) :: ((eSpan p1) ++ ((.hdr 1) :: (.row true (.rSpan [])) :: (.hdr 1) :: (tL p1.xFrom) :: (dT 3 ((.hdr 1) :: (.row false (.rSpan v99)) :: (.hdr 2) :: (tL v100) :: (tL v101) :: (dT 1 []))))), dc]
theorem s_span_Gaps_45_t {R : Type} (cp : Nat → Nat → Bool) (n : Nat) (p1 : SSpan) (v99 : (List SSpan)) (v100 v101 : Int) (k : Ex → FF → Option R) : XI cp n (y_span_Gaps_6 cp n) i_span_Gaps_3 (fr_span_Gaps_46 p1 v99 v100 v101) k = s_span_Gaps_45 cp n p1 v99 v100 v101 (fun v130 v131 => k .norm (fr_span_Gaps_44 p1 v99 v100 v101 v130 v131)) := ((fun c => (show XI cp n (y_span_Gaps_6 cp n) (.seq (.fin (.reg g_span_Gaps_1000) [1] []) c) (fr_span_Gaps_46 p1 v99 v100 v101) k = s_span_Gaps_8 cp n p1 v99 v100 v101 (fun v102 => XI cp n (y_span_Gaps_6 cp n) c (fr_span_Gaps_9 p1 v99 v100 v101 v102) k) from by kernel_rfl)) i_span_Gaps_13).trans (congrArg (fun q => s_span_Gaps_8 cp n p1 v99 v100 v101 q) (funext fun v102 => (s_span_Gaps_43_t cp n p1 v99 v100 v101 v102 k).trans (show s_span_Gaps_43 cp n p1 v99 v100 v101 v102 (fun v128 v129 => k .norm (fr_span_Gaps_42 p1 v99 v100 v101 v128 v129)) = s_span_Gaps_43 cp n p1 v99 v100 v101 v102 (fun v128 v129 => k .norm (fr_span_Gaps_44 p1 v99 v100 v101 v128 v129)) from by kernel_rfl)))
def fr_span_Gaps_47 (p1 : SSpan) (v132 : (List SSpan)) (v133 : Int) : FF := [dT 3 ((.ptr 64 0) :: (dT 1 ((.ptr 67 0) :: (.ptr 69 0) :: (dT 9 [])))), dc, dc, dc, (.hdr 2) :: ((eSpan p1) ++ ((.hdr 1) :: (.row true (.rSpan v132)) :: (.hdr 1) :: (tL v133) :: (dT 9 []))), dc]
theorem s_span_Gaps_48_t {R : Type} (cp : Nat → Nat → Bool) (n : Nat) (p1 : SSpan) (v99 : (List SSpan)) (v100 v101 : Int) (k : Ex → FF → Option R) : X cp n i_span_Gaps_14 (fr_span_Gaps_5 p1 v99 v100 v101) k = s_span_Gaps_48 cp n p1 v99 v100 v101 (fun v132 v133 => k .norm (fr_span_Gaps_47 p1 v132 v133)) := (show X cp n i_span_Gaps_14 (fr_span_Gaps_5 p1 v99 v100 v101) k = XI cp n (roundK2 4 [23] [64, 67, 69, 74, 76, 79, 82] (fr_span_Gaps_5 p1 v99 v100 v101) (X cp n i_span_Gaps_0) (X cp n i_span_Gaps_1)) i_span_Gaps_3 (fr_span_Gaps_46 p1 v99 v100 v101) (rfnT 4 (fr_span_Gaps_5 p1 v99 v100 v101) (clrT [22] [(74, 1), (76, 2)] k)) from rfn_eq (v := .clo 83 [(74, 0), (76, 0)]) (by kernel_rfl) (by kernel_rfl) (by kernel_rfl) _ _ _).trans ((congrArg (fun Y => XI cp n Y i_span_Gaps_3 (fr_span_Gaps_46 p1 v99 v100 v101) (rfnT 4 (fr_span_Gaps_5 p1 v99 v100 v101) (clrT [22] [(74, 1), (76, 2)] k))) ((rnd_eq 4 [23] [64, 67, 69, 74, 76, 79, 82] (fr_span_Gaps_5 p1 v99 v100 v101) i_span_Gaps_0 i_span_Gaps_1).trans (show rndT 4 [23] [64, 67, 69, 74, 76, 79, 82] (fr_span_Gaps_5 p1 v99 v100 v101) (X cp n i_span_Gaps_2) = (y_span_Gaps_6 cp n) from by kernel_rfl))).trans ((s_span_Gaps_45_t cp n p1 v99 v100 v101 (rfnT 4 (fr_span_Gaps_5 p1 v99 v100 v101) (clrT [22] [(74, 1), (76, 2)] k))).trans (by kernel_rfl)))
def fr_span_Gaps_49 (p1 : SSpan) (v134 : (List SSpan)) (v135 : Int) : FF := [dT 3 ((.ptr 64 0) :: (dT 1 ((.ptr 67 0) :: (.ptr 69 0) :: (dT 9 [])))), dc, dc, dc, (.hdr 2) :: ((eSpan p1) ++ ((.hdr 1) :: (.row true (.rSpan v134)) :: (.hdr 1) :: (tL v135) :: (dT 9 []))), dc]
theorem s_span_Gaps_50_t {R : Type} (cp : Nat → Nat → Bool) (n : Nat) (p1 : SSpan) (v99 : (List SSpan)) (v100 v101 : Int) (k : Ex → FF → Option R) : X cp n i_span_Gaps_15 (fr_span_Gaps_5 p1 v99 v100 v101) k = s_span_Gaps_50 cp n p1 v99 v100 v101 (fun v134 v135 => k .norm (fr_span_Gaps_49 p1 v134 v135)) := (show X cp n i_span_Gaps_15 (fr_span_Gaps_5 p1 v99 v100 v101) k = X cp n i_span_Gaps_14 (fr_span_Gaps_5 p1 v99 v100 v101) (blkT 0 k) from by kernel_rfl).trans ((s_span_Gaps_48_t cp n p1 v99 v100 v101 (blkT 0 k)).trans (by kernel_rfl))
def fr_span_Gaps_51 (p1 : SSpan) (v136 : (List SSpan)) (v137 : Int) : FF := [dT 3 ((.ptr 64 0) :: (dT 1 ((.ptr 67 0) :: (.ptr 69 0) :: (dT 9 [])))), dc, dc, dc, (.hdr 2) :: ((eSpan p1) ++ ((.hdr 1) :: (.row true (.rSpan v136)) :: (.hdr 1) :: (tL v137) :: (dT 9 []))), dc]
theorem s_span_Gaps_52_t {R : Type} (cp : Nat → Nat → Bool) (n : Nat) (p0 : (List SSpan)) (p1 : SSpan) (k : Ex → FF → Option R) : X cp n i_span_Gaps_16 (fr_span_Gaps_2 p0 p1) k = s_span_Gaps_52 cp n p0 p1 (fun v136 v137 => k .norm (fr_span_Gaps_51 p1 v136 v137)) := ((fun c => (show X cp n (.seq (.fin (.reg g_span_Gaps_5) [0, 20, 21] []) c) (fr_span_Gaps_2 p0 p1) k = s_span_Gaps_4 cp n p0 p1 (fun v99 v100 v101 => X cp n c (fr_span_Gaps_5 p1 v99 v100 v101) k) from by kernel_rfl)) i_span_Gaps_15).trans (congrArg (fun q => s_span_Gaps_4 cp n p0 p1 q) (funext fun v99 => funext fun v100 => funext fun v101 => (s_span_Gaps_50_t cp n p1 v99 v100 v101 k).trans (show s_span_Gaps_50 cp n p1 v99 v100 v101 (fun v134 v135 => k .norm (fr_span_Gaps_49 p1 v134 v135)) = s_span_Gaps_50 cp n p1 v99 v100 v101 (fun v134 v135 => k .norm (fr_span_Gaps_51 p1 v134 v135)) from by kernel_rfl)))
def fr_span_Gaps_54 (v138 : (List SSpan)) : FF := [dT 4 ((.row false (.rSpan v138)) :: (dT 11 [])), dc, dc, dc, dc, dc]
theorem s_span_Gaps_53_t {R : Type} (cp : Nat → Nat → Bool) (n : Nat) (p1 : SSpan) (v136 : (List SSpan)) (v137 : Int) (k : Ex → FF → Option R) : X cp n i_span_Gaps_17 (fr_span_Gaps_51 p1 v136 v137) k = s_span_Gaps_53 cp n p1 v136 v137 (fun v138 => k .ret (fr_span_Gaps_54 v138)) := by kernel_rfl
def fr_span_Gaps_55 (v139 : (List SSpan)) : FF := [dT 4 ((.row false (.rSpan v139)) :: (dT 11 [])), dc, dc, dc, dc, dc]
theorem s_span_Gaps_56_t {R : Type} (cp : Nat → Nat → Bool) (n : Nat) (p0 : (List SSpan)) (p1 : SSpan) (k : Ex → FF → Option R) : X cp n i_span_Gaps_18 (fr_span_Gaps_2 p0 p1) k = s_span_Gaps_56 cp n p0 p1 (fun v139 => k .ret (fr_span_Gaps_55 v139)) := (show X cp n i_span_Gaps_18 (fr_span_Gaps_2 p0 p1) k = X cp n i_span_Gaps_16 (fr_span_Gaps_2 p0 p1) (seqT (X cp n) i_span_Gaps_17 k) from by kernel_rfl).trans ((show X cp n i_span_Gaps_16 (fr_span_Gaps_2 p0 p1) (seqT (X cp n) i_span_Gaps_17 k) = s_span_Gaps_52 cp n p0 p1 (fun v136 v137 => X cp n i_span_Gaps_17 (fr_span_Gaps_51 p1 v136 v137) k) from (s_span_Gaps_52_t cp n p0 p1 (seqT (X cp n) i_span_Gaps_17 k)).trans (by kernel_rfl)).trans (congrArg (fun q => s_span_Gaps_52 cp n p0 p1 q) (funext fun v136 => funext fun v137 => (s_span_Gaps_53_t cp n p1 v136 v137 k).trans (show s_span_Gaps_53 cp n p1 v136 v137 (fun v138 => k .ret (fr_span_Gaps_54 v138)) = s_span_Gaps_53 cp n p1 v136 v137 (fun v138 => k .ret (fr_span_Gaps_55 v138)) from by kernel_rfl))))
def fr_span_Gaps_57 (v140 : (List SSpan)) : FF := [dT 4 ((.row false (.rSpan v140)) :: (dT 11 [])), dc, dc, dc, dc, dc]
def fr_span_Gaps_59 (p0 : (List SSpan)) (p1 : SSpan) : FF := [(.row false (.rSpan p0)) :: (.agg (eSpan p1)) :: (dT 14 []), dc, dc, dc, dc, dc]
theorem s_span_Gaps_58_t {R : Type} (cp : Nat → Nat → Bool) (n : Nat) (p0 : (List SSpan)) (p1 : SSpan) (k : Ex → FF → Option R) : X cp n i_span_Gaps_19 (fr_span_Gaps_59 p0 p1) k = s_span_Gaps_58 cp n p0 p1 (fun v140 => k .ret (fr_span_Gaps_57 v140)) := ((fun c => (show X cp n (.seq (.fin (.reg g_span_Gaps_0) [1, 4] []) (.seq (.seq (.fin (.reg g_span_Gaps_1) [8, 9, 10, 11, 12, 13, 14, 15, 16] []) (.fin (.cond (.s 17) (.seq (.fin (.reg g_span_Gaps_2) [0, 3, 17] [(64, 2)]) (.ret)) (.skip)) [17] [])) (.seq (.reg g_span_Gaps_3) (.seq (.fin (.reg g_span_Gaps_4) [18, 19] []) c)))) (fr_span_Gaps_59 p0 p1) k = s_span_Gaps_1 cp n p0 p1 (X cp n c (fr_span_Gaps_2 p0 p1) k) (k .ret (fr_span_Gaps_57 [])) from by kernel_rfl)) i_span_Gaps_18).trans (congrArg (fun q => s_span_Gaps_1 cp n p0 p1 q (k .ret (fr_span_Gaps_57 []))) ((s_span_Gaps_56_t cp n p0 p1 k).trans (show s_span_Gaps_56 cp n p0 p1 (fun v139 => k .ret (fr_span_Gaps_55 v139)) = s_span_Gaps_56 cp n p0 p1 (fun v139 => k .ret (fr_span_Gaps_57 v139)) from by kernel_rfl)))
theorem run_span_Gaps {R : Type} (cp : Nat → Nat → Bool) (n : Nat) (p0 : (List SSpan)) (p1 : SSpan) (k : Ret2 RW → Option R) : G_span_Gaps cp (n + 1) p0 p1 (fun r0 => k ⟨.row false (.rSpan r0), [], []⟩) = run2 U cp (callP cp n) n fn_span_Gaps [.row false (.rSpan p0), .agg (eSpan p1)] [] k := ((X_run (f := fn_span_Gaps) (av := [.row false (.rSpan p0), .agg (eSpan p1)]) (cells := []) (code := i_span_Gaps_19) (fr := (fr_span_Gaps_59 p0 p1)) (k := k) (by kernel_rfl) (fun K => by kernel_rfl)).trans ((s_span_Gaps_58_t cp n p0 p1 (finK2 fn_span_Gaps k)).trans (by kernel_rfl))).symm
/-! tideway/recv.put$1 -/
theorem run_recv_put_1 {R : Type} (cp : Nat → Nat → Bool) (n : Nat) (p0 : SPiece) (p1 : Int) (k : Ret2 RW → Option R) : G_recv_put_1 cp (n + 1) p0 p1 (fun r0 => k ⟨(tL r0), [], []⟩) = run2 U cp (callP cp n) n fn_recv_put_1 [.agg (ePiece p0), (tL p1)] [] k := by kernel_rfl
/-! slices.BinarySearchFunc[[]tideway/api.Piece,tideway/api.Piece,int] -/
def fr_slices_BinarySearchFunc_Piece_2 (p0 : (List SPiece)) (p1 v144 : Int) : FF := [(.row false (.rPiece p0)) :: (tL p1) :: (.clo 74 []) :: (dT 5 ((tL v144) :: (tL 0) :: (tL v144) :: (dT 5 []))), dc, dc, dc]
def fr_slices_BinarySearchFunc_Piece_4 (p0 : (List SPiece)) (p1 v144 v148 v149 : Int) : FF := [(.row false (.rPiece p0)) :: (tL p1) :: (.clo 74 []) :: (dT 5 ((tL v144) :: (tL v148) :: (tL v149) :: (dT 5 []))), dc, dc, dc]
def fr_slices_BinarySearchFunc_Piece_5 (p0 : (List SPiece)) (p1 v144 v145 : Int) : FF := [(.row false (.rPiece p0)) :: (tL p1) :: (.clo 74 []) :: (dT 5 ((tL v144) :: (tL v145) :: (dT 6 []))), dc, dc, dc]
def fr_slices_BinarySearchFunc_Piece_6 (p0 : (List SPiece)) (p1 v144 v145 v146 : Int) : FF := [(.row false (.rPiece p0)) :: (tL p1) :: (.clo 74 []) :: (dT 5 ((tL v144) :: (tL v145) :: (tL v146) :: (dT 5 []))), dc, dc, dc]
theorem s_slices_BinarySearchFunc_Piece_3_t {R : Type} (cp : Nat → Nat → Bool) (n : Nat) (p0 : (List SPiece)) (p1 v144 v145 v146 : Int) (k : Ex → FF → Option R) : X cp n i_slices_BinarySearchFunc_Piece_0 (fr_slices_BinarySearchFunc_Piece_6 p0 p1 v144 v145 v146) k = s_slices_BinarySearchFunc_Piece_3 cp n p0 p1 v144 v145 v146 (fun v148 v149 => k .norm (fr_slices_BinarySearchFunc_Piece_4 p0 p1 v144 v148 v149)) (k (.exit 0) (fr_slices_BinarySearchFunc_Piece_5 p0 p1 v144 v145)) := by kernel_rfl
def fr_slices_BinarySearchFunc_Piece_7 (p0 : (List SPiece)) (p1 v144 v150 : Int) : FF := [(.row false (.rPiece p0)) :: (tL p1) :: (.clo 74 []) :: (dT 5 ((tL v144) :: (tL v150) :: (dT 6 []))), dc, dc, dc]
theorem l_slices_BinarySearchFunc_Piece_8_t {R : Type} (cp : Nat → Nat → Bool) (n : Nat) : ∀ (m : Nat) (p0 : (List SPiece)) (p1 v144 v145 v146 : Int) (k : Ex → FF → Option R), loopN2 (X cp n i_slices_BinarySearchFunc_Piece_0) m (fr_slices_BinarySearchFunc_Piece_6 p0 p1 v144 v145 v146) k = l_slices_BinarySearchFunc_Piece_8 cp n m p0 p1 v144 v145 v146 (fun v150 => k (.exit 0) (fr_slices_BinarySearchFunc_Piece_7 p0 p1 v144 v150))
  | 0, _, _, _, _, _, _ => rfl
  | m + 1, p0, p1, v144, v145, v146, k => (loopN2_succ (X cp n i_slices_BinarySearchFunc_Piece_0) m (fr_slices_BinarySearchFunc_Piece_6 p0 p1 v144 v145 v146) k).trans ((s_slices_BinarySearchFunc_Piece_3_t cp n p0 p1 v144 v145 v146 (loopT (X cp n i_slices_BinarySearchFunc_Piece_0) m k)).trans ((show s_slices_BinarySearchFunc_Piece_3 cp n p0 p1 v144 v145 v146 (fun v148 v149 => loopT (X cp n i_slices_BinarySearchFunc_Piece_0) m k .norm (fr_slices_BinarySearchFunc_Piece_4 p0 p1 v144 v148 v149)) (loopT (X cp n i_slices_BinarySearchFunc_Piece_0) m k (.exit 0) (fr_slices_BinarySearchFunc_Piece_5 p0 p1 v144 v145)) = s_slices_BinarySearchFunc_Piece_3 cp n p0 p1 v144 v145 v146 (fun v148 v149 => loopN2 (X cp n i_slices_BinarySearchFunc_Piece_0) m (fr_slices_BinarySearchFunc_Piece_6 p0 p1 v144 v148 v149) k) (k (.exit 0) (fr_slices_BinarySearchFunc_Piece_7 p0 p1 v144 v145)) from by kernel_rfl).trans (congrArg (fun q => s_slices_BinarySearchFunc_Piece_3 cp n p0 p1 v144 v145 v146 q (k (.exit 0) (fr_slices_BinarySearchFunc_Piece_7 p0 p1 v144 v145))) (funext fun v148 => funext fun v149 => l_slices_BinarySearchFunc_Piece_8_t cp n m p0 p1 v144 v148 v149 k))))
theorem s_slices_BinarySearchFunc_Piece_9_t {R : Type} (cp : Nat → Nat → Bool) (n : Nat) (p0 : (List SPiece)) (p1 v144 : Int) (k : Ex → FF → Option R) : X cp n i_slices_BinarySearchFunc_Piece_1 (fr_slices_BinarySearchFunc_Piece_2 p0 p1 v144) k = s_slices_BinarySearchFunc_Piece_9 cp n p0 p1 v144 (fun v150 => k (.exit 0) (fr_slices_BinarySearchFunc_Piece_7 p0 p1 v144 v150)) := (show X cp n i_slices_BinarySearchFunc_Piece_1 (fr_slices_BinarySearchFunc_Piece_2 p0 p1 v144) k = loopN2 (X cp n i_slices_BinarySearchFunc_Piece_0) n (fr_slices_BinarySearchFunc_Piece_6 p0 p1 v144 0 v144) k from by kernel_rfl).trans (l_slices_BinarySearchFunc_Piece_8_t cp n n p0 p1 v144 0 v144 k)
def fr_slices_BinarySearchFunc_Piece_10 (p0 : (List SPiece)) (p1 v144 v151 : Int) : FF := [(.row false (.rPiece p0)) :: (tL p1) :: (.clo 74 []) :: (dT 5 ((tL v144) :: (tL v151) :: (dT 6 []))), dc, dc, dc]
theorem s_slices_BinarySearchFunc_Piece_11_t {R : Type} (cp : Nat → Nat → Bool) (n : Nat) (p0 : (List SPiece)) (p1 v144 : Int) (k : Ex → FF → Option R) : X cp n i_slices_BinarySearchFunc_Piece_2 (fr_slices_BinarySearchFunc_Piece_2 p0 p1 v144) k = s_slices_BinarySearchFunc_Piece_11 cp n p0 p1 v144 (fun v151 => k .norm (fr_slices_BinarySearchFunc_Piece_10 p0 p1 v144 v151)) := (show X cp n i_slices_BinarySearchFunc_Piece_2 (fr_slices_BinarySearchFunc_Piece_2 p0 p1 v144) k = X cp n i_slices_BinarySearchFunc_Piece_1 (fr_slices_BinarySearchFunc_Piece_2 p0 p1 v144) (blkT 0 k) from by kernel_rfl).trans ((s_slices_BinarySearchFunc_Piece_9_t cp n p0 p1 v144 (blkT 0 k)).trans (by kernel_rfl))
def fr_slices_BinarySearchFunc_Piece_13 (v151 : Int) (v153 : Bool) : FF := [dT 6 ((tL v151) :: (tB v153) :: (dT 8 [])), dc, dc, dc]
theorem s_slices_BinarySearchFunc_Piece_12_t {R : Type} (cp : Nat → Nat → Bool) (n : Nat) (p0 : (List SPiece)) (p1 v144 v151 : Int) (k : Ex → FF → Option R) : X cp n i_slices_BinarySearchFunc_Piece_3 (fr_slices_BinarySearchFunc_Piece_10 p0 p1 v144 v151) k = s_slices_BinarySearchFunc_Piece_12 cp n p0 p1 v144 v151 (fun v153 => k .ret (fr_slices_BinarySearchFunc_Piece_13 v151 v153)) := by kernel_rfl
def fr_slices_BinarySearchFunc_Piece_14 (v154 : Int) (v155 : Bool) : FF := [dT 6 ((tL v154) :: (tB v155) :: (dT 8 [])), dc, dc, dc]
theorem s_slices_BinarySearchFunc_Piece_15_t {R : Type} (cp : Nat → Nat → Bool) (n : Nat) (p0 : (List SPiece)) (p1 v144 : Int) (k : Ex → FF → Option R) : X cp n i_slices_BinarySearchFunc_Piece_4 (fr_slices_BinarySearchFunc_Piece_2 p0 p1 v144) k = s_slices_BinarySearchFunc_Piece_15 cp n p0 p1 v144 (fun v154 v155 => k .ret (fr_slices_BinarySearchFunc_Piece_14 v154 v155)) := (show X cp n i_slices_BinarySearchFunc_Piece_4 (fr_slices_BinarySearchFunc_Piece_2 p0 p1 v144) k = X cp n i_slices_BinarySearchFunc_Piece_2 (fr_slices_BinarySearchFunc_Piece_2 p0 p1 v144) (seqT (X cp n) i_slices_BinarySearchFunc_Piece_3 k) from by kernel_rfl).trans ((show X cp n i_slices_BinarySearchFunc_Piece_2 (fr_slices_BinarySearchFunc_Piece_2 p0 p1 v144) (seqT (X cp n) i_slices_BinarySearchFunc_Piece_3 k) = s_slices_BinarySearchFunc_Piece_11 cp n p0 p1 v144 (fun v151 => X cp n i_slices_BinarySearchFunc_Piece_3 (fr_slices_BinarySearchFunc_Piece_10 p0 p1 v144 v151) k) from (s_slices_BinarySearchFunc_Piece_11_t cp n p0 p1 v144 (seqT (X cp n) i_slices_BinarySearchFunc_Piece_3 k)).trans (by kernel_rfl)).trans (congrArg (fun q => s_slices_BinarySearchFunc_Piece_11 cp n p0 p1 v144 q) (funext fun v151 => (s_slices_BinarySearchFunc_Piece_12_t cp n p0 p1 v144 v151 k).trans (show s_slices_BinarySearchFunc_Piece_12 cp n p0 p1 v144 v151 (fun v153 => k .ret (fr_slices_BinarySearchFunc_Piece_13 v151 v153)) = s_slices_BinarySearchFunc_Piece_12 cp n p0 p1 v144 v151 (fun v153 => k .ret (fr_slices_BinarySearchFunc_Piece_14 v151 v153)) from by kernel_rfl))))
def fr_slices_BinarySearchFunc_Piece_16 (v156 : Int) (v157 : Bool) : FF := [dT 6 ((tL v156) :: (tB v157) :: (dT 8 [])), dc, dc, dc]
def fr_slices_BinarySearchFunc_Piece_18 (p0 : (List SPiece)) (p1 : Int) : FF := [(.row false (.rPiece p0)) :: (tL p1) :: (.clo 74 []) :: (dT 13 []), dc, dc, dc]
theorem s_slices_BinarySearchFunc_Piece_17_t {R : Type} (cp : Nat → Nat → Bool) (n : Nat) (p0 : (List SPiece)) (p1 : Int) (k : Ex → FF → Option R) : X cp n i_slices_BinarySearchFunc_Piece_5 (fr_slices_BinarySearchFunc_Piece_18 p0 p1) k = s_slices_BinarySearchFunc_Piece_17 cp n p0 p1 (fun v156 v157 => k .ret (fr_slices_BinarySearchFunc_Piece_16 v156 v157)) := ((fun c => (show X cp n (.seq (.fin (.reg g_slices_BinarySearchFunc_Piece_0) [6, 7] []) (.seq (.fin (.reg g_slices_BinarySearchFunc_Piece_1) [12, 13] []) (.seq (.fin (.reg g_slices_BinarySearchFunc_Piece_2) [14] []) c))) (fr_slices_BinarySearchFunc_Piece_18 p0 p1) k = s_slices_BinarySearchFunc_Piece_1 cp n p0 p1 (fun v144 => X cp n c (fr_slices_BinarySearchFunc_Piece_2 p0 p1 v144) k) from by kernel_rfl)) i_slices_BinarySearchFunc_Piece_4).trans (congrArg (fun q => s_slices_BinarySearchFunc_Piece_1 cp n p0 p1 q) (funext fun v144 => (s_slices_BinarySearchFunc_Piece_15_t cp n p0 p1 v144 k).trans (show s_slices_BinarySearchFunc_Piece_15 cp n p0 p1 v144 (fun v154 v155 => k .ret (fr_slices_BinarySearchFunc_Piece_14 v154 v155)) = s_slices_BinarySearchFunc_Piece_15 cp n p0 p1 v144 (fun v154 v155 => k .ret (fr_slices_BinarySearchFunc_Piece_16 v154 v155)) from by kernel_rfl)))
theorem run_slices_BinarySearchFunc_Piece {R : Type} (cp : Nat → Nat → Bool) (n : Nat) (p0 : (List SPiece)) (p1 : Int) (k : Ret2 RW → Option R) : G_slices_BinarySearchFunc_Piece cp (n + 1) p0 p1 (fun r0 r1 => k ⟨.tup [(tL r0), (tB r1)], [], []⟩) = run2 U cp (callP cp n) n fn_slices_BinarySearchFunc_Piece [.row false (.rPiece p0), (tL p1), .clo 74 []] [] k := ((X_run (f := fn_slices_BinarySearchFunc_Piece) (av := [.row false (.rPiece p0), (tL p1), .clo 74 []]) (cells := []) (code := i_slices_BinarySearchFunc_Piece_5) (fr := (fr_slices_BinarySearchFunc_Piece_18 p0 p1)) (k := k) (by kernel_rfl) (fun K => by kernel_rfl)).trans ((s_slices_BinarySearchFunc_Piece_17_t cp n p0 p1 (finK2 fn_slices_BinarySearchFunc_Piece k)).trans (by kernel_rfl))).symm
/-! slices.Clip[[]byte,byte] -/
theorem run_slices_Clip_byte {R : Type} (cp : Nat → Nat → Bool) (n : Nat) (p0 : (List Int)) (k : Ret2 RW → Option R) : G_slices_Clip_byte cp (n + 1) p0 (fun r0 => k ⟨.row true (.ruint8 r0), [], []⟩) = run2 U cp (callP cp n) n fn_slices_Clip_byte [.row false (.ruint8 p0)] [] k := by kernel_rfl
/-! tideway/recv.put -/
def fr_recv_put_2 (v175 : (List SPiece)) : FF := [(.row true (.rPiece v175)) :: (dT 6 ((.un none (.rPiece [])) :: (dT 8 []))), dc, dc, dc, dc]
def fr_recv_put_4 (v175 : (List SPiece)) (v176 : Int) : FF := [dT 7 ((.un none (.rPiece [])) :: (dT 8 [])), dT 13 ([.row false (.rPiece v175), (tL v176), (tL 0)]), dc, dc, dc]
def fr_recv_put_6 (v175 : (List SPiece)) (v176 : Int) (v181 : (List SPiece)) (v182 : Int) : FF := [dT 7 ((.un none (.rPiece v181)) :: (dT 8 [])), dT 13 ([.row false (.rPiece v175), (tL v176), (tL v182)]), dc, dc, dc]
def fr_recv_put_7 (v177 : (List SPiece)) : FF := [dT 7 ((.un none (.rPiece v177)) :: (dT 8 [])), dc, dc, dc, dc]
def fr_recv_put_8 (v175 : (List SPiece)) (v176 : Int) (v177 : (List SPiece)) (v178 : Int) : FF := [dT 7 ((.un none (.rPiece v177)) :: (dT 8 [])), dT 13 ([.row false (.rPiece v175), (tL v176), (tL v178)]), dc, dc, dc]
theorem s_recv_put_5_t {R : Type} (cp : Nat → Nat → Bool) (n : Nat) (v175 : (List SPiece)) (v176 : Int) (v177 : (List SPiece)) (v178 : Int) (k : Ex → FF → Option R) : X cp n i_recv_put_0 (fr_recv_put_8 v175 v176 v177 v178) k = s_recv_put_5 cp n v175 v176 v177 v178 (fun v181 v182 => k .norm (fr_recv_put_6 v175 v176 v181 v182)) (k (.exit 0) (fr_recv_put_7 v177)) := by kernel_rfl
def fr_recv_put_9 (v183 : (List SPiece)) : FF := [dT 7 ((.un none (.rPiece v183)) :: (dT 8 [])), dc, dc, dc, dc]
theorem l_recv_put_10_t {R : Type} (cp : Nat → Nat → Bool) (n : Nat) : ∀ (m : Nat) (v175 : (List SPiece)) (v176 : Int) (v177 : (List SPiece)) (v178 : Int) (k : Ex → FF → Option R), loopN2 (X cp n i_recv_put_0) m (fr_recv_put_8 v175 v176 v177 v178) k = l_recv_put_10 cp n m v175 v176 v177 v178 (fun v183 => k (.exit 0) (fr_recv_put_9 v183))
  | 0, _, _, _, _, _ => rfl
  | m + 1, v175, v176, v177, v178, k => (loopN2_succ (X cp n i_recv_put_0) m (fr_recv_put_8 v175 v176 v177 v178) k).trans ((s_recv_put_5_t cp n v175 v176 v177 v178 (loopT (X cp n i_recv_put_0) m k)).trans ((show s_recv_put_5 cp n v175 v176 v177 v178 (fun v181 v182 => loopT (X cp n i_recv_put_0) m k .norm (fr_recv_put_6 v175 v176 v181 v182)) (loopT (X cp n i_recv_put_0) m k (.exit 0) (fr_recv_put_7 v177)) = s_recv_put_5 cp n v175 v176 v177 v178 (fun v181 v182 => loopN2 (X cp n i_recv_put_0) m (fr_recv_put_8 v175 v176 v181 v182) k) (k (.exit 0) (fr_recv_put_9 v177)) from by kernel_rfl).trans (congrArg (fun q => s_recv_put_5 cp n v175 v176 v177 v178 q (k (.exit 0) (fr_recv_put_9 v177))) (funext fun v181 => funext fun v182 => l_recv_put_10_t cp n m v175 v176 v181 v182 k))))
theorem s_recv_put_11_t {R : Type} (cp : Nat → Nat → Bool) (n : Nat) (v175 : (List SPiece)) (v176 : Int) (k : Ex → FF → Option R) : X cp n i_recv_put_1 (fr_recv_put_4 v175 v176) k = s_recv_put_11 cp n v175 v176 (fun v183 => k (.exit 0) (fr_recv_put_9 v183)) := (show X cp n i_recv_put_1 (fr_recv_put_4 v175 v176) k = loopN2 (X cp n i_recv_put_0) n (fr_recv_put_8 v175 v176 [] 0) k from by kernel_rfl).trans (l_recv_put_10_t cp n n v175 v176 [] 0 k)
def fr_recv_put_12 (v184 : (List SPiece)) : FF := [dT 7 ((.un none (.rPiece v184)) :: (dT 8 [])), dc, dc, dc, dc]
theorem s_recv_put_13_t {R : Type} (cp : Nat → Nat → Bool) (n : Nat) (v175 : (List SPiece)) (v176 : Int) (k : Ex → FF → Option R) : X cp n i_recv_put_2 (fr_recv_put_4 v175 v176) k = s_recv_put_13 cp n v175 v176 (fun v184 => k .norm (fr_recv_put_12 v184)) := (show X cp n i_recv_put_2 (fr_recv_put_4 v175 v176) k = X cp n i_recv_put_1 (fr_recv_put_4 v175 v176) (blkT 0 k) from by kernel_rfl).trans ((s_recv_put_11_t cp n v175 v176 (blkT 0 k)).trans (by kernel_rfl))
def fr_recv_put_14 (v185 : (List SPiece)) : FF := [dT 7 ((.un none (.rPiece v185)) :: (dT 8 [])), dc, dc, dc, dc]
theorem s_recv_put_15_t {R : Type} (cp : Nat → Nat → Bool) (n : Nat) (v175 : (List SPiece)) (k : Ex → FF → Option R) : X cp n i_recv_put_3 (fr_recv_put_2 v175) k = s_recv_put_15 cp n v175 (fun v185 => k .norm (fr_recv_put_14 v185)) := ((fun c => (show X cp n (.seq (.fin (.reg g_recv_put_4) [0] []) c) (fr_recv_put_2 v175) k = s_recv_put_3 cp n v175 (fun v176 => X cp n c (fr_recv_put_4 v175 v176) k) from by kernel_rfl)) i_recv_put_2).trans (congrArg (fun q => s_recv_put_3 cp n v175 q) (funext fun v176 => (s_recv_put_13_t cp n v175 v176 k).trans (show s_recv_put_13 cp n v175 v176 (fun v184 => k .norm (fr_recv_put_12 v184)) = s_recv_put_13 cp n v175 v176 (fun v184 => k .norm (fr_recv_put_14 v184)) from by kernel_rfl)))
def fr_recv_put_17 (v185 : (List SPiece)) : FF := [dT 4 ((.row true (.rPiece v185)) :: (dT 11 [])), dc, dc, dc, dc]
theorem s_recv_put_16_t {R : Type} (cp : Nat → Nat → Bool) (n : Nat) (v185 : (List SPiece)) (k : Ex → FF → Option R) : X cp n i_recv_put_4 (fr_recv_put_14 v185) k = s_recv_put_16 cp n v185 (k .ret (fr_recv_put_17 v185)) := by kernel_rfl
def fr_recv_put_18 (v186 : (List SPiece)) : FF := [dT 4 ((.row true (.rPiece v186)) :: (dT 11 [])), dc, dc, dc, dc]
theorem s_recv_put_19_t {R : Type} (cp : Nat → Nat → Bool) (n : Nat) (v175 : (List SPiece)) (k : Ex → FF → Option R) : X cp n i_recv_put_5 (fr_recv_put_2 v175) k = s_recv_put_19 cp n v175 (fun v186 => k .ret (fr_recv_put_18 v186)) := (show X cp n i_recv_put_5 (fr_recv_put_2 v175) k = X cp n i_recv_put_3 (fr_recv_put_2 v175) (seqT (X cp n) i_recv_put_4 k) from by kernel_rfl).trans ((show X cp n i_recv_put_3 (fr_recv_put_2 v175) (seqT (X cp n) i_recv_put_4 k) = s_recv_put_15 cp n v175 (fun v185 => X cp n i_recv_put_4 (fr_recv_put_14 v185) k) from (s_recv_put_15_t cp n v175 (seqT (X cp n) i_recv_put_4 k)).trans (by kernel_rfl)).trans (congrArg (fun q => s_recv_put_15 cp n v175 q) (funext fun v185 => (s_recv_put_16_t cp n v185 k).trans (show s_recv_put_16 cp n v185 (k .ret (fr_recv_put_17 v185)) = s_recv_put_16 cp n v185 (k .ret (fr_recv_put_18 v185)) from by kernel_rfl))))
def fr_recv_put_20 (v187 : (List SPiece)) : FF := [dT 4 ((.row true (.rPiece v187)) :: (dT 11 [])), dc, dc, dc, dc]
def fr_recv_put_22 (p0 : (List SPiece)) (p1 : SPiece) : FF := [(.row false (.rPiece p0)) :: (.agg (ePiece p1)) :: (dT 14 []), dc, dc, dc, dc]
theorem s_recv_put_21_t {R : Type} (cp : Nat → Nat → Bool) (n : Nat) (p0 : (List SPiece)) (p1 : SPiece) (k : Ex → FF → Option R) : X cp n i_recv_put_6 (fr_recv_put_22 p0 p1) k = s_recv_put_21 cp n p0 p1 (fun v187 => k .ret (fr_recv_put_20 v187)) := ((fun c => (show X cp n (.seq (.fin (.reg g_recv_put_0) [1, 4] []) (.seq (.fin (.reg g_recv_put_1) [6, 11, 12, 13, 14, 15, 16, 17] []) (.seq (.fin (.reg g_recv_put_2) [3, 5, 18, 19, 20, 21, 22, 23, 24, 25, 26, 27, 28] [(72, 2)]) (.seq (.reg g_recv_put_3) (.seq (.skip) c))))) (fr_recv_put_22 p0 p1) k = s_recv_put_1 cp n p0 p1 (fun v175 => X cp n c (fr_recv_put_2 v175) k) from by kernel_rfl)) i_recv_put_5).trans (congrArg (fun q => s_recv_put_1 cp n p0 p1 q) (funext fun v175 => (s_recv_put_19_t cp n v175 k).trans (show s_recv_put_19 cp n v175 (fun v186 => k .ret (fr_recv_put_18 v186)) = s_recv_put_19 cp n v175 (fun v186 => k .ret (fr_recv_put_20 v186)) from by kernel_rfl)))
theorem run_recv_put {R : Type} (cp : Nat → Nat → Bool) (n : Nat) (p0 : (List SPiece)) (p1 : SPiece) (k : Ret2 RW → Option R) : G_recv_put cp (n + 1) p0 p1 (fun r0 => k ⟨.row true (.rPiece r0), [], []⟩) = run2 U cp (callP cp n) n fn_recv_put [.row false (.rPiece p0), .agg (ePiece p1)] [] k := ((X_run (f := fn_recv_put) (av := [.row false (.rPiece p0), .agg (ePiece p1)]) (cells := []) (code := i_recv_put_6) (fr := (fr_recv_put_22 p0 p1)) (k := k) (by kernel_rfl) (fun K => by kernel_rfl)).trans ((s_recv_put_21_t cp n p0 p1 (finK2 fn_recv_put k)).trans (by kernel_rfl))).symm
/-! tideway/recv.take$1 -/
theorem run_recv_take_1 {R : Type} (cp : Nat → Nat → Bool) (n : Nat) (p0 : SSpan) (q0 : SRecv) (q1 : Int) (q2 : (List Int)) (q3 : Bool) (k : Ret2 RW → Option R) : G_recv_take_1 cp (n + 1) p0 q0 q1 q2 q3 (fun r0 r1 r2 r3 => k ⟨.tup [], [(eRecvt r0), [(tL r1)], [.row false (.ruint8 r2)], [(tB r3)]], []⟩) = run2 U cp (callP cp n) n fn_recv_take_1 [.agg (eSpan p0), .ptr 43 0, .ptr 23 0, .ptr 41 0, .ptr 39 0] [(eRecvt q0), [(tL q1)], [.row false (.ruint8 q2)], [(tB q3)]] k := by kernel_rfl
/-! tideway/recv.take -/
def fr_recv_take_2 (p0 : SRecv) (p1 : Int) (p2 : (List Int)) (v172 : Int) : FF := [dT 3 ((.ptr 112 0) :: (.ptr 128 0) :: (.ptr 130 0) :: (.ptr 132 0) :: (dT 1 ((tL v172) :: (.ptr 148 0) :: (dT 6 [])))), dc, dc, dc, dc, dc, dc, (.hdr 15) :: (eRecvt p0), [.hdr 1, (tL p1), .hdr 1, .row false (.ruint8 p2), .hdr 15, (tL 0), .row true (.ruint8 []), .row true (.rPiece []), (tL 0), (tL 0), (tL 0), (tI .u32 0), (tB false), (tB false), (tL 0), (tB false)], (.row true (.rSpan [])) :: (tI .u32 0) :: (tI .u32 0) :: (tB false) :: (.hdr 1) :: (.row true (.rSpan [])) :: (dT 10 []), dc, dc]
def fr_recv_take_4 (p0 : SRecv) (p1 : Int) (p2 : (List Int)) (v172 : Int) (v174 : SRecv) : FF := [dT 3 ((.ptr 112 0) :: (.ptr 128 0) :: (.ptr 130 0) :: (.ptr 132 0) :: (dT 1 ((tL v172) :: (.ptr 148 0) :: (dT 6 [])))), dT 15 ([.clo 70 [(158, 0)]]), dc, dc, dc, dc, dc, (.hdr 15) :: (eRecvt p0), [.hdr 1, (tL p1), .hdr 1, .row false (.ruint8 p2), .hdr 15, (tL 0), .row true (.ruint8 []), .row true (.rPiece []), (tL 0), (tL 0), (tL 0), (tI .u32 0), (tB false), (tB false), (tL 0), (tB false)], (.row true (.rSpan [])) :: (tI .u32 0) :: (tI .u32 0) :: (tB false) :: (.hdr 1) :: (.row true (.rSpan [])) :: (dT 8 ((.hdr 15) :: (sl 0 1 (eRecv v174)))), sl 1 14 (eRecv v174) ++ (dT 2 []), dc]
def fr_recv_take_6 (v172 : Int) : FF := [dT 3 ((.ptr 112 0) :: (.ptr 128 0) :: (.ptr 130 0) :: (.ptr 132 0) :: (dT 1 ((tL v172) :: (.ptr 148 0) :: (dT 6 [])))), dT 15 ([.clo 70 [(158, 0)]]), dc, dc, dc, dc, dc, dc, dc, dc, dc, dc]
def y_recv_take_5 {R : Type} (cp : Nat → Nat → Bool) (n : Nat) (v172 : Int) : List (TV RW) → FF → (FF → Option R) → Option R := rndT 7 [32] [112, 128, 130, 132, 148, 158, 174] (fr_recv_take_6 v172) (X cp n i_recv_take_2)
def fr_recv_take_8 (p0 : SRecv) (p1 : Int) (p2 : (List Int)) (v172 : Int) (v174 : SRecv) (v175 : Int) : FF := [.yld :: (dT 5 ((.row false (.rPiece v174.xLate)) :: (tL v175) :: (tL 0) :: (dT 7 []))), dc, dc, dc, dc, dc, dc, (.hdr 15) :: (eRecvt p0), [.hdr 1, (tL p1), .hdr 1, .row false (.ruint8 p2), .hdr 15, (tL 0), .row true (.ruint8 []), .row true (.rPiece []), (tL 0), (tL 0), (tL 0), (tI .u32 0), (tB false), (tB false), (tL 0), (tB false)], (.row true (.rSpan [])) :: (tI .u32 0) :: (tI .u32 0) :: (tB false) :: (.hdr 1) :: (.row true (.rSpan [])) :: (dT 8 ((.hdr 15) :: (sl 0 1 (eRecv v174)))), sl 1 14 (eRecv v174) ++ (dT 2 []), dc]
def fr_recv_take_10 (p0 : SRecv) (p1 : Int) (p2 : (List Int)) (v172 : Int) (v174 : SRecv) (v175 v176 : Int) (v177 : (List SSpan)) : FF := [.yld :: (dT 5 ((.row false (.rPiece v174.xLate)) :: (tL v175) :: (tL v176) :: (dT 7 []))), dc, dc, dc, dc, dc, dc, (.hdr 15) :: (eRecvt p0), [.hdr 1, (tL p1), .hdr 1, .row false (.ruint8 p2), .hdr 15, (tL 0), .row true (.ruint8 []), .row true (.rPiece []), (tL 0), (tL 0), (tL 0), (tI .u32 0), (tB false), (tB false), (tL 0), (tB false)], (.row true (.rSpan [])) :: (tI .u32 0) :: (tI .u32 0) :: (tB false) :: (.hdr 1) :: (.row true (.rSpan v177)) :: (dT 8 ((.hdr 15) :: (sl 0 1 (eRecv v174)))), sl 1 14 (eRecv v174) ++ (dT 2 []), dc]
def fr_recv_take_11 (p0 : SRecv) (p1 : Int) (p2 : (List Int)) (v172 : Int) (v174 : SRecv) (v177 : (List SSpan)) : FF := [dc, dc, dc, dc, dc, dc, dc, (.hdr 15) :: (eRecvt p0), [.hdr 1, (tL p1), .hdr 1, .row false (.ruint8 p2), .hdr 15, (tL 0), .row true (.ruint8 []), .row true (.rPiece []), (tL 0), (tL 0), (tL 0), (tI .u32 0), (tB false), (tB false), (tL 0), (tB false)], (.row true (.rSpan [])) :: (tI .u32 0) :: (tI .u32 0) :: (tB false) :: (.hdr 1) :: (.row true (.rSpan v177)) :: (dT 8 ((.hdr 15) :: (sl 0 1 (eRecv v174)))), sl 1 14 (eRecv v174) ++ (dT 2 []), dc]
def fr_recv_take_13 (p0 : SRecv) (p1 : Int) (p2 : (List Int)) (v172 : Int) (v174 : SRecv) (v175 v176 : Int) (v177 : (List SSpan)) (v178 : Int) (v179 : (List Int)) : FF := [.yld :: (dT 3 ((.ptr 174 0) :: (dT 1 ((.row false (.rPiece v174.xLate)) :: (tL v175) :: (tL v176) :: (dT 7 []))))), dc, dc, dc, dc, dc, dc, (.hdr 15) :: (eRecvt p0), [.hdr 1, (tL p1), .hdr 1, .row false (.ruint8 p2), .hdr 15, (tL 0), .row true (.ruint8 []), .row true (.rPiece []), (tL 0), (tL 0), (tL 0), (tI .u32 0), (tB false), (tB false), (tL 0), (tB false)], (.row true (.rSpan [])) :: (tI .u32 0) :: (tI .u32 0) :: (tB false) :: (.hdr 1) :: (.row true (.rSpan v177)) :: (dT 8 ((.hdr 15) :: (sl 0 1 (eRecv v174)))), sl 1 14 (eRecv v174) ++ [.hdr 2, (tL v178)], (.row false (.ruint8 v179)) :: (dT 15 [])]
def fr_recv_take_15 (p0 : SRecv) (p1 : Int) (p2 : (List Int)) (v172 : Int) (v174 : SRecv) (v175 v176 : Int) (v177 : (List SSpan)) (v178 : Int) (v179 : (List Int)) (v181 v182 : Int) : FF := [.yld :: (dT 3 ((.ptr 174 0) :: (dT 1 ((.row false (.rPiece v174.xLate)) :: (tL v175) :: (tL v176) :: (dT 3 (.yld :: (.agg [(tL v178), .row false (.ruint8 v179)]) :: (.agg [(tL v181), (tL v182)]) :: (dT 1 []))))))), dc, dc, dc, dc, dc, dc, (.hdr 15) :: (eRecvt p0), [.hdr 1, (tL p1), .hdr 1, .row false (.ruint8 p2), .hdr 15, (tL 0), .row true (.ruint8 []), .row true (.rPiece []), (tL 0), (tL 0), (tL 0), (tI .u32 0), (tB false), (tB false), (tL 0), (tB false)], (.row true (.rSpan [])) :: (tI .u32 0) :: (tI .u32 0) :: (tB false) :: (.hdr 1) :: (.row true (.rSpan v177)) :: (dT 8 ((.hdr 15) :: (sl 0 1 (eRecv v174)))), sl 1 14 (eRecv v174) ++ [.hdr 2, (tL v178)], (.row false (.ruint8 v179)) :: (dT 15 [])]
theorem s_recv_take_14_t {R : Type} (cp : Nat → Nat → Bool) (n : Nat) (p0 : SRecv) (p1 : Int) (p2 : (List Int)) (v172 : Int) (v174 : SRecv) (v175 v176 : Int) (v177 : (List SSpan)) (v178 : Int) (v179 : (List Int)) (A B : FF → Option R) : (gF (fr_recv_take_13 p0 p1 p2 v172 v174 v175 v176 v177 v178 v179) fun l => steps2 U cp (callP cp n) g_recv_take_10031 l fun l1 => yGuard2 none l1 (A l1) (B l1)) = s_recv_take_14 cp n p0 p1 p2 v172 v174 v175 v176 v177 v178 v179 (fun v181 v182 => A (fr_recv_take_15 p0 p1 p2 v172 v174 v175 v176 v177 v178 v179 v181 v182)) := by kernel_rfl
def fr_recv_take_17 (p0 : SRecv) (p1 : Int) (p2 : (List Int)) (v172 : Int) (v174 : SRecv) (v178 : Int) (v179 : (List Int)) (v183 : (List SSpan)) : FF := [dT 3 ((.ptr 112 0) :: (.ptr 128 0) :: (.ptr 130 0) :: (.ptr 132 0) :: (dT 1 ((tL v172) :: (.ptr 148 0) :: (dT 6 [])))), dT 15 ([.clo 70 [(158, 0)]]), dc, dc, dc, dc, dc, (.hdr 15) :: (eRecvt p0), [.hdr 1, (tL p1), .hdr 1, .row false (.ruint8 p2), .hdr 15, (tL 0), .row true (.ruint8 []), .row true (.rPiece []), (tL 0), (tL 0), (tL 0), (tI .u32 0), (tB false), (tB false), (tL 0), (tB false)], (.row true (.rSpan [])) :: (tI .u32 0) :: (tI .u32 0) :: (tB false) :: (.hdr 1) :: (.row true (.rSpan v183)) :: (dT 8 ((.hdr 15) :: (sl 0 1 (eRecv v174)))), sl 1 14 (eRecv v174) ++ [.hdr 2, (tL v178)], (.row false (.ruint8 v179)) :: (dT 15 [])]
def fr_recv_take_18 (p0 : SRecv) (p1 : Int) (p2 : (List Int)) (v172 : Int) (v174 : SRecv) (v177 : (List SSpan)) (v178 : Int) (v179 : (List Int)) (v181 v182 : Int) : FF := [dT 3 ((.ptr 112 0) :: (.ptr 128 0) :: (.ptr 130 0) :: (.ptr 132 0) :: (dT 1 ((tL v172) :: (.ptr 148 0) :: (dT 6 [])))), dT 15 ([.clo 70 [(158, 0)]]), (.agg [(tL v181), (tL v182)]) :: (dT 15 []), dc, dc, dc, dc, (.hdr 15) :: (eRecvt p0), [.hdr 1, (tL p1), .hdr 1, .row false (.ruint8 p2), .hdr 15, (tL 0), .row true (.ruint8 []), .row true (.rPiece []), (tL 0), (tL 0), (tL 0), (tI .u32 0), (tB false), (tB false), (tL 0), (tB false)], (.row true (.rSpan [])) :: (tI .u32 0) :: (tI .u32 0) :: (tB false) :: (.hdr 1) :: (.row true (.rSpan v177)) :: (dT 8 ((.hdr 15) :: (sl 0 1 (eRecv v174)))), sl 1 14 (eRecv v174) ++ [.hdr 2, (tL v178)], (.row false (.ruint8 v179)) :: (dT 15 [])]
theorem s_recv_take_16_t {R : Type} (cp : Nat → Nat → Bool) (n : Nat) (p0 : SRecv) (p1 : Int) (p2 : (List Int)) (v172 : Int) (v174 : SRecv) (v177 : (List SSpan)) (v178 : Int) (v179 : (List Int)) (v181 v182 : Int) (k : Ex → FF → Option R) : X cp n i_recv_take_2 (fr_recv_take_18 p0 p1 p2 v172 v174 v177 v178 v179 v181 v182) k = s_recv_take_16 cp n p0 p1 p2 v172 v174 v177 v178 v179 v181 v182 (fun v183 => k .norm (fr_recv_take_17 p0 p1 p2 v172 v174 v178 v179 v183)) := by kernel_rfl
def fr_recv_take_20 (p0 : SRecv) (p1 : Int) (p2 : (List Int)) (v172 : Int) (v174 : SRecv) (v175 v176 v178 : Int) (v179 : (List Int)) (v181 v182 : Int) (v183 : (List SSpan)) : FF := [.yld :: (dT 3 ((.ptr 174 0) :: (dT 1 ((.row false (.rPiece v174.xLate)) :: (tL v175) :: (tL v176) :: (dT 3 ([.yld, .agg [(tL v178), .row false (.ruint8 v179)], .agg [(tL v181), (tL v182)], (tB true)])))))), dc, dc, dc, dc, dc, dc, (.hdr 15) :: (eRecvt p0), [.hdr 1, (tL p1), .hdr 1, .row false (.ruint8 p2), .hdr 15, (tL 0), .row true (.ruint8 []), .row true (.rPiece []), (tL 0), (tL 0), (tL 0), (tI .u32 0), (tB false), (tB false), (tL 0), (tB false)], (.row true (.rSpan [])) :: (tI .u32 0) :: (tI .u32 0) :: (tB false) :: (.hdr 1) :: (.row true (.rSpan v183)) :: (dT 8 ((.hdr 15) :: (sl 0 1 (eRecv v174)))), sl 1 14 (eRecv v174) ++ [.hdr 2, (tL v178)], (.row false (.ruint8 v179)) :: (dT 15 [])]
theorem q_recv_take_19_t {R : Type} (cp : Nat → Nat → Bool) (n : Nat) (p0 : SRecv) (p1 : Int) (p2 : (List Int)) (v172 : Int) (v174 : SRecv) (v175 v176 : Int) (v177 : (List SSpan)) (v178 : Int) (v179 : (List Int)) (v181 v182 : Int) (K : FF → Option R) : yRun2 (y_recv_take_5 cp n v172) (.s 12) [.s 14] 15 (fr_recv_take_15 p0 p1 p2 v172 v174 v175 v176 v177 v178 v179 v181 v182) K = s_recv_take_16 cp n p0 p1 p2 v172 v174 v177 v178 v179 v181 v182 (fun v183 => K (fr_recv_take_20 p0 p1 p2 v172 v174 v175 v176 v178 v179 v181 v182 v183)) := ((fun x => (show yRun2 (rndT 7 [32] [112, 128, 130, 132, 148, 158, 174] (fr_recv_take_6 v172) x) (.s 12) [.s 14] 15 (fr_recv_take_15 p0 p1 p2 v172 v174 v175 v176 v177 v178 v179 v181 v182) K = x (fr_recv_take_18 p0 p1 p2 v172 v174 v177 v178 v179 v181 v182) (roundT 7 (fr_recv_take_15 p0 p1 p2 v172 v174 v175 v176 v177 v178 v179 v181 v182) (fun l2 => putO l2 (some 15) (.sc (.bool true)) K)) from by kernel_rfl)) (X cp n i_recv_take_2)).trans ((s_recv_take_16_t cp n p0 p1 p2 v172 v174 v177 v178 v179 v181 v182 (roundT 7 (fr_recv_take_15 p0 p1 p2 v172 v174 v175 v176 v177 v178 v179 v181 v182) (fun l2 => putO l2 (some 15) (.sc (.bool true)) K))).trans (by kernel_rfl))
def fr_recv_take_21 (p0 : SRecv) (p1 : Int) (p2 : (List Int)) (v172 : Int) (v174 : SRecv) (v175 v176 : Int) (v184 : (List SSpan)) : FF := [.yld :: (dT 5 ((.row false (.rPiece v174.xLate)) :: (tL v175) :: (tL v176) :: (dT 7 []))), (tB false) :: (dT 15 []), dc, dc, dc, dc, dc, (.hdr 15) :: (eRecvt p0), [.hdr 1, (tL p1), .hdr 1, .row false (.ruint8 p2), .hdr 15, (tL 0), .row true (.ruint8 []), .row true (.rPiece []), (tL 0), (tL 0), (tL 0), (tI .u32 0), (tB false), (tB false), (tL 0), (tB false)], (.row true (.rSpan [])) :: (tI .u32 0) :: (tI .u32 0) :: (tB false) :: (.hdr 1) :: (.row true (.rSpan v184)) :: (dT 8 ((.hdr 15) :: (sl 0 1 (eRecv v174)))), sl 1 14 (eRecv v174) ++ (dT 2 []), dc]
theorem s_recv_take_22_t {R : Type} (cp : Nat → Nat → Bool) (n : Nat) (p0 : SRecv) (p1 : Int) (p2 : (List Int)) (v172 : Int) (v174 : SRecv) (v175 v176 : Int) (v177 : (List SSpan)) (v178 : Int) (v179 : (List Int)) (k : Ex → FF → Option R) : XI cp n (y_recv_take_5 cp n v172) i_recv_take_4 (fr_recv_take_13 p0 p1 p2 v172 v174 v175 v176 v177 v178 v179) k = s_recv_take_22 cp n p0 p1 p2 v172 v174 v175 v176 v177 v178 v179 (fun v184 => k .norm (fr_recv_take_21 p0 p1 p2 v172 v174 v175 v176 v184)) := (show XI cp n (y_recv_take_5 cp n v172) i_recv_take_4 (fr_recv_take_13 p0 p1 p2 v172 v174 v175 v176 v177 v178 v179) k = gF (fr_recv_take_13 p0 p1 p2 v172 v174 v175 v176 v177 v178 v179) fun l => steps2 U cp (callP cp n) g_recv_take_10031 l fun l1 => yGuard2 none l1 ((fun l1 => yRun2 (y_recv_take_5 cp n v172) (.s 12) [.s 14] 15 l1 (fun l2 => steps2 U cp (callP cp n) g_recv_take_10032 l2 ((clrT [4, 12, 13, 14, 15] [(174, 2)] k) .norm))) l1) ((fun l1 => putO l1 (some 15) (.tup []) fun l2 => steps2 U cp (callP cp n) g_recv_take_10032 l2 ((clrT [4, 12, 13, 14, 15] [(174, 2)] k) .norm)) l1) from by kernel_rfl).trans ((s_recv_take_14_t cp n p0 p1 p2 v172 v174 v175 v176 v177 v178 v179 (fun l1 => yRun2 (y_recv_take_5 cp n v172) (.s 12) [.s 14] 15 l1 (fun l2 => steps2 U cp (callP cp n) g_recv_take_10032 l2 ((clrT [4, 12, 13, 14, 15] [(174, 2)] k) .norm))) (fun l1 => putO l1 (some 15) (.tup []) fun l2 => steps2 U cp (callP cp n) g_recv_take_10032 l2 ((clrT [4, 12, 13, 14, 15] [(174, 2)] k) .norm))).trans (congrArg (s_recv_take_14 cp n p0 p1 p2 v172 v174 v175 v176 v177 v178 v179) (funext fun v181 => funext fun v182 => (q_recv_take_19_t cp n p0 p1 p2 v172 v174 v175 v176 v177 v178 v179 v181 v182 (fun l2 => steps2 U cp (callP cp n) g_recv_take_10032 l2 ((clrT [4, 12, 13, 14, 15] [(174, 2)] k) .norm))).trans (show s_recv_take_16 cp n p0 p1 p2 v172 v174 v177 v178 v179 v181 v182 (fun v183 => (fun l2 => steps2 U cp (callP cp n) g_recv_take_10032 l2 ((clrT [4, 12, 13, 14, 15] [(174, 2)] k) .norm)) (fr_recv_take_20 p0 p1 p2 v172 v174 v175 v176 v178 v179 v181 v182 v183)) = s_recv_take_16 cp n p0 p1 p2 v172 v174 v177 v178 v179 v181 v182 (fun v183 => k .norm (fr_recv_take_21 p0 p1 p2 v172 v174 v175 v176 v183)) from by kernel_rfl))))
def fr_recv_take_24 (p0 : SRecv) (p1 : Int) (p2 : (List Int)) (v172 : Int) (v174 : SRecv) (v175 v176 : Int) (v184 : (List SSpan)) : FF := [.yld :: (dT 5 ((.row false (.rPiece v174.xLate)) :: (tL v175) :: (tL v176) :: (dT 7 []))), dc, dc, dc, dc, dc, dc, (.hdr 15) :: (eRecvt p0), [.hdr 1, (tL p1), .hdr 1, .row false (.ruint8 p2), .hdr 15, (tL 0), .row true (.ruint8 []), .row true (.rPiece []), (tL 0), (tL 0), (tL 0), (tI .u32 0), (tB false), (tB false), (tL 0), (tB false)], (.row true (.rSpan [])) :: (tI .u32 0) :: (tI .u32 0) :: (tB false) :: (.hdr 1) :: (.row true (.rSpan v184)) :: (dT 8 ((.hdr 15) :: (sl 0 1 (eRecv v174)))), sl 1 14 (eRecv v174) ++ (dT 2 []), dc]
theorem s_recv_take_23_t {R : Type} (cp : Nat → Nat → Bool) (n : Nat) (p0 : SRecv) (p1 : Int) (p2 : (List Int)) (v172 : Int) (v174 : SRecv) (v175 v176 : Int) (v184 : (List SSpan)) (k : Ex → FF → Option R) : XI cp n (y_recv_take_5 cp n v172) i_recv_take_5 (fr_recv_take_21 p0 p1 p2 v172 v174 v175 v176 v184) k = s_recv_take_23 cp n p0 p1 p2 v172 v174 v175 v176 v184 (k .norm (fr_recv_take_24 p0 p1 p2 v172 v174 v175 v176 v184)) := by kernel_rfl
def fr_recv_take_25 (p0 : SRecv) (p1 : Int) (p2 : (List Int)) (v172 : Int) (v174 : SRecv) (v175 v176 : Int) (v185 : (List SSpan)) : FF := [.yld :: (dT 5 ((.row false (.rPiece v174.xLate)) :: (tL v175) :: (tL v176) :: (dT 7 []))), dc, dc, dc, dc, dc, dc, (.hdr 15) :: (eRecvt p0), [.hdr 1, (tL p1), .hdr 1, .row false (.ruint8 p2), .hdr 15, (tL 0), .row true (.ruint8 []), .row true (.rPiece []), (tL 0), (tL 0), (tL 0), (tI .u32 0), (tB false), (tB false), (tL 0), (tB false)], (.row true (.rSpan [])) :: (tI .u32 0) :: (tI .u32 0) :: (tB false) :: (.hdr 1) :: (.row true (.rSpan v185)) :: (dT 8 ((.hdr 15) :: (sl 0 1 (eRecv v174)))), sl 1 14 (eRecv v174) ++ (dT 2 []), dc]
theorem s_recv_take_26_t {R : Type} (cp : Nat → Nat → Bool) (n : Nat) (p0 : SRecv) (p1 : Int) (p2 : (List Int)) (v172 : Int) (v174 : SRecv) (v175 v176 : Int) (v177 : (List SSpan)) (v178 : Int) (v179 : (List Int)) (k : Ex → FF → Option R) : XI cp n (y_recv_take_5 cp n v172) i_recv_take_6 (fr_recv_take_13 p0 p1 p2 v172 v174 v175 v176 v177 v178 v179) k = s_recv_take_26 cp n p0 p1 p2 v172 v174 v175 v176 v177 v178 v179 (fun v185 => k .norm (fr_recv_take_25 p0 p1 p2 v172 v174 v175 v176 v185)) := (show XI cp n (y_recv_take_5 cp n v172) i_recv_take_6 (fr_recv_take_13 p0 p1 p2 v172 v174 v175 v176 v177 v178 v179) k = XI cp n (y_recv_take_5 cp n v172) i_recv_take_4 (fr_recv_take_13 p0 p1 p2 v172 v174 v175 v176 v177 v178 v179) (seqT (XI cp n (y_recv_take_5 cp n v172)) i_recv_take_5 k) from by kernel_rfl).trans ((show XI cp n (y_recv_take_5 cp n v172) i_recv_take_4 (fr_recv_take_13 p0 p1 p2 v172 v174 v175 v176 v177 v178 v179) (seqT (XI cp n (y_recv_take_5 cp n v172)) i_recv_take_5 k) = s_recv_take_22 cp n p0 p1 p2 v172 v174 v175 v176 v177 v178 v179 (fun v184 => XI cp n (y_recv_take_5 cp n v172) i_recv_take_5 (fr_recv_take_21 p0 p1 p2 v172 v174 v175 v176 v184) k) from (s_recv_take_22_t cp n p0 p1 p2 v172 v174 v175 v176 v177 v178 v179 (seqT (XI cp n (y_recv_take_5 cp n v172)) i_recv_take_5 k)).trans (by kernel_rfl)).trans (congrArg (fun q => s_recv_take_22 cp n p0 p1 p2 v172 v174 v175 v176 v177 v178 v179 q) (funext fun v184 => (s_recv_take_23_t cp n p0 p1 p2 v172 v174 v175 v176 v184 k).trans (show s_recv_take_23 cp n p0 p1 p2 v172 v174 v175 v176 v184 (k .norm (fr_recv_take_24 p0 p1 p2 v172 v174 v175 v176 v184)) = s_recv_take_23 cp n p0 p1 p2 v172 v174 v175 v176 v184 (k .norm (fr_recv_take_25 p0 p1 p2 v172 v174 v175 v176 v184)) from by kernel_rfl))))
def fr_recv_take_27 (p0 : SRecv) (p1 : Int) (p2 : (List Int)) (v172 : Int) (v174 : SRecv) (v175 v176 : Int) (v186 : (List SSpan)) : FF := [.yld :: (dT 5 ((.row false (.rPiece v174.xLate)) :: (tL v175) :: (tL v176) :: (dT 7 []))), dc, dc, dc, dc, dc, dc, (.hdr 15) :: (eRecvt p0), [.hdr 1, (tL p1), .hdr 1, .row false (.ruint8 p2), .hdr 15, (tL 0), .row true (.ruint8 []), .row true (.rPiece []), (tL 0), (tL 0), (tL 0), (tI .u32 0), (tB false), (tB false), (tL 0), (tB false)], (.row true (.rSpan [])) :: (tI .u32 0) :: (tI .u32 0) :: (tB false) :: (.hdr 1) :: (.row true (.rSpan v186)) :: (dT 8 ((.hdr 15) :: (sl 0 1 (eRecv v174)))), sl 1 14 (eRecv v174) ++ (dT 2 []), dc]
theorem s_recv_take_28_t {R : Type} (cp : Nat → Nat → Bool) (n : Nat) (p0 : SRecv) (p1 : Int) (p2 : (List Int)) (v172 : Int) (v174 : SRecv) (v175 v176 : Int) (v177 : (List SSpan)) (k : Ex → FF → Option R) : XI cp n (y_recv_take_5 cp n v172) i_recv_take_7 (fr_recv_take_10 p0 p1 p2 v172 v174 v175 v176 v177) k = s_recv_take_28 cp n p0 p1 p2 v172 v174 v175 v176 v177 (fun v186 => k .norm (fr_recv_take_27 p0 p1 p2 v172 v174 v175 v176 v186)) := ((fun c => (show XI cp n (y_recv_take_5 cp n v172) (.seq (.fin (.reg g_recv_take_1002) [10, 11] []) c) (fr_recv_take_10 p0 p1 p2 v172 v174 v175 v176 v177) k = s_recv_take_12 cp n p0 p1 p2 v172 v174 v175 v176 v177 (fun v178 v179 => XI cp n (y_recv_take_5 cp n v172) c (fr_recv_take_13 p0 p1 p2 v172 v174 v175 v176 v177 v178 v179) k) from by kernel_rfl)) i_recv_take_6).trans (congrArg (fun q => s_recv_take_12 cp n p0 p1 p2 v172 v174 v175 v176 v177 q) (funext fun v178 => funext fun v179 => (s_recv_take_26_t cp n p0 p1 p2 v172 v174 v175 v176 v177 v178 v179 k).trans (show s_recv_take_26 cp n p0 p1 p2 v172 v174 v175 v176 v177 v178 v179 (fun v185 => k .norm (fr_recv_take_25 p0 p1 p2 v172 v174 v175 v176 v185)) = s_recv_take_26 cp n p0 p1 p2 v172 v174 v175 v176 v177 v178 v179 (fun v185 => k .norm (fr_recv_take_27 p0 p1 p2 v172 v174 v175 v176 v185)) from by kernel_rfl)))
def fr_recv_take_29 (p0 : SRecv) (p1 : Int) (p2 : (List Int)) (v172 : Int) (v174 : SRecv) (v175 v176 : Int) (v187 : (List SSpan)) : FF := [.yld :: (dT 5 ((.row false (.rPiece v174.xLate)) :: (tL v175) :: (tL v176) :: (dT 7 []))), dc, dc, dc, dc, dc, dc, (.hdr 15) :: (eRecvt p0), [.hdr 1, (tL p1), .hdr 1, .row false (.ruint8 p2), .hdr 15, (tL 0), .row true (.ruint8 []), .row true (.rPiece []), (tL 0), (tL 0), (tL 0), (tI .u32 0), (tB false), (tB false), (tL 0), (tB false)], (.row true (.rSpan [])) :: (tI .u32 0) :: (tI .u32 0) :: (tB false) :: (.hdr 1) :: (.row true (.rSpan v187)) :: (dT 8 ((.hdr 15) :: (sl 0 1 (eRecv v174)))), sl 1 14 (eRecv v174) ++ (dT 2 []), dc]
theorem s_recv_take_30_t {R : Type} (cp : Nat → Nat → Bool) (n : Nat) (p0 : SRecv) (p1 : Int) (p2 : (List Int)) (v172 : Int) (v174 : SRecv) (v175 v176 : Int) (v177 : (List SSpan)) (k : Ex → FF → Option R) : XI cp n (y_recv_take_5 cp n v172) i_recv_take_8 (fr_recv_take_10 p0 p1 p2 v172 v174 v175 v176 v177) k = s_recv_take_30 cp n p0 p1 p2 v172 v174 v175 v176 v177 (fun v187 => k .norm (fr_recv_take_29 p0 p1 p2 v172 v174 v175 v176 v187)) := (show XI cp n (y_recv_take_5 cp n v172) i_recv_take_8 (fr_recv_take_10 p0 p1 p2 v172 v174 v175 v176 v177) k = XI cp n (y_recv_take_5 cp n v172) i_recv_take_7 (fr_recv_take_10 p0 p1 p2 v172 v174 v175 v176 v177) (blkT 1 k) from by kernel_rfl).trans ((s_recv_take_28_t cp n p0 p1 p2 v172 v174 v175 v176 v177 (blkT 1 k)).trans (by kernel_rfl))
def fr_recv_take_32 (p0 : SRecv) (p1 : Int) (p2 : (List Int)) (v172 : Int) (v174 : SRecv) (v175 : Int) (v187 : (List SSpan)) (v188 : Int) : FF := [.yld :: (dT 5 ((.row false (.rPiece v174.xLate)) :: (tL v175) :: (tL v188) :: (dT 7 []))), dc, dc, dc, dc, dc, dc, (.hdr 15) :: (eRecvt p0), [.hdr 1, (tL p1), .hdr 1, .row false (.ruint8 p2), .hdr 15, (tL 0), .row true (.ruint8 []), .row true (.rPiece []), (tL 0), (tL 0), (tL 0), (tI .u32 0), (tB false), (tB false), (tL 0), (tB false)], (.row true (.rSpan [])) :: (tI .u32 0) :: (tI .u32 0) :: (tB false) :: (.hdr 1) :: (.row true (.rSpan v187)) :: (dT 8 ((.hdr 15) :: (sl 0 1 (eRecv v174)))), sl 1 14 (eRecv v174) ++ (dT 2 []), dc]
theorem s_recv_take_31_t {R : Type} (cp : Nat → Nat → Bool) (n : Nat) (p0 : SRecv) (p1 : Int) (p2 : (List Int)) (v172 : Int) (v174 : SRecv) (v175 v176 : Int) (v187 : (List SSpan)) (k : Ex → FF → Option R) : XI cp n (y_recv_take_5 cp n v172) i_recv_take_9 (fr_recv_take_29 p0 p1 p2 v172 v174 v175 v176 v187) k = s_recv_take_31 cp n p0 p1 p2 v172 v174 v175 v176 v187 (fun v188 => k .norm (fr_recv_take_32 p0 p1 p2 v172 v174 v175 v187 v188)) := by kernel_rfl
def fr_recv_take_33 (p0 : SRecv) (p1 : Int) (p2 : (List Int)) (v172 : Int) (v174 : SRecv) (v175 v189 : Int) (v190 : (List SSpan)) : FF := [.yld :: (dT 5 ((.row false (.rPiece v174.xLate)) :: (tL v175) :: (tL v189) :: (dT 7 []))), dc, dc, dc, dc, dc, dc, (.hdr 15) :: (eRecvt p0), [.hdr 1, (tL p1), .hdr 1, .row false (.ruint8 p2), .hdr 15, (tL 0), .row true (.ruint8 []), .row true (.rPiece []), (tL 0), (tL 0), (tL 0), (tI .u32 0), (tB false), (tB false), (tL 0), (tB false)], (.row true (.rSpan [])) :: (tI .u32 0) :: (tI .u32 0) :: (tB false) :: (.hdr 1) :: (.row true (.rSpan v190)) :: (dT 8 ((.hdr 15) :: (sl 0 1 (eRecv v174)))), sl 1 14 (eRecv v174) ++ (dT 2 []), dc]
theorem s_recv_take_34_t {R : Type} (cp : Nat → Nat → Bool) (n : Nat) (p0 : SRecv) (p1 : Int) (p2 : (List Int)) (v172 : Int) (v174 : SRecv) (v175 v176 : Int) (v177 : (List SSpan)) (k : Ex → FF → Option R) : XI cp n (y_recv_take_5 cp n v172) i_recv_take_10 (fr_recv_take_10 p0 p1 p2 v172 v174 v175 v176 v177) k = s_recv_take_34 cp n p0 p1 p2 v172 v174 v175 v176 v177 (fun v189 v190 => k .norm (fr_recv_take_33 p0 p1 p2 v172 v174 v175 v189 v190)) := (show XI cp n (y_recv_take_5 cp n v172) i_recv_take_10 (fr_recv_take_10 p0 p1 p2 v172 v174 v175 v176 v177) k = XI cp n (y_recv_take_5 cp n v172) i_recv_take_8 (fr_recv_take_10 p0 p1 p2 v172 v174 v175 v176 v177) (seqT (XI cp n (y_recv_take_5 cp n v172)) i_recv_take_9 k) from by kernel_rfl).trans ((show XI cp n (y_recv_take_5 cp n v172) i_recv_take_8 (fr_recv_take_10 p0 p1 p2 v172 v174 v175 v176 v177) (seqT (XI cp n (y_recv_take_5 cp n v172)) i_recv_take_9 k) = s_recv_take_30 cp n p0 p1 p2 v172 v174 v175 v176 v177 (fun v187 => XI cp n (y_recv_take_5 cp n v172) i_recv_take_9 (fr_recv_take_29 p0 p1 p2 v172 v174 v175 v176 v187) k) from (s_recv_take_30_t cp n p0 p1 p2 v172 v174 v175 v176 v177 (seqT (XI cp n (y_recv_take_5 cp n v172)) i_recv_take_9 k)).trans (by kernel_rfl)).trans (congrArg (fun q => s_recv_take_30 cp n p0 p1 p2 v172 v174 v175 v176 v177 q) (funext fun v187 => (s_recv_take_31_t cp n p0 p1 p2 v172 v174 v175 v176 v187 k).trans (show s_recv_take_31 cp n p0 p1 p2 v172 v174 v175 v176 v187 (fun v188 => k .norm (fr_recv_take_32 p0 p1 p2 v172 v174 v175 v187 v188)) = s_recv_take_31 cp n p0 p1 p2 v172 v174 v175 v176 v187 (fun v188 => k .norm (fr_recv_take_33 p0 p1 p2 v172 v174 v175 v188 v187)) from by kernel_rfl))))
def fr_recv_take_35 (p0 : SRecv) (p1 : Int) (p2 : (List Int)) (v172 : Int) (v174 : SRecv) (v175 v191 : Int) (v192 : (List SSpan)) : FF := [.yld :: (dT 5 ((.row false (.rPiece v174.xLate)) :: (tL v175) :: (tL v191) :: (dT 7 []))), dc, dc, dc, dc, dc, dc, (.hdr 15) :: (eRecvt p0), [.hdr 1, (tL p1), .hdr 1, .row false (.ruint8 p2), .hdr 15, (tL 0), .row true (.ruint8 []), .row true (.rPiece []), (tL 0), (tL 0), (tL 0), (tI .u32 0), (tB false), (tB false), (tL 0), (tB false)], (.row true (.rSpan [])) :: (tI .u32 0) :: (tI .u32 0) :: (tB false) :: (.hdr 1) :: (.row true (.rSpan v192)) :: (dT 8 ((.hdr 15) :: (sl 0 1 (eRecv v174)))), sl 1 14 (eRecv v174) ++ (dT 2 []), dc]
theorem s_recv_take_36_t {R : Type} (cp : Nat → Nat → Bool) (n : Nat) (p0 : SRecv) (p1 : Int) (p2 : (List Int)) (v172 : Int) (v174 : SRecv) (v175 v176 : Int) (v177 : (List SSpan)) (k : Ex → FF → Option R) : XI cp n (y_recv_take_5 cp n v172) i_recv_take_11 (fr_recv_take_10 p0 p1 p2 v172 v174 v175 v176 v177) k = s_recv_take_36 cp n p0 p1 p2 v172 v174 v175 v176 v177 (fun v191 v192 => k .norm (fr_recv_take_35 p0 p1 p2 v172 v174 v175 v191 v192)) (k (.exit 0) (fr_recv_take_11 p0 p1 p2 v172 v174 v177)) := ((fun c => (show XI cp n (y_recv_take_5 cp n v172) (.seq (.reg g_recv_take_1001) (.seq (.fin (.cond (.s 9) (.skip) (.clr [0, 6, 7, 8, 9] [] (.exit 0))) [9] []) c)) (fr_recv_take_10 p0 p1 p2 v172 v174 v175 v176 v177) k = s_recv_take_9 cp n p0 p1 p2 v172 v174 v175 v176 v177 (XI cp n (y_recv_take_5 cp n v172) c (fr_recv_take_10 p0 p1 p2 v172 v174 v175 v176 v177) k) (k (.exit 0) (fr_recv_take_11 p0 p1 p2 v172 v174 v177)) from by kernel_rfl)) i_recv_take_10).trans (congrArg (fun q => s_recv_take_9 cp n p0 p1 p2 v172 v174 v175 v176 v177 q (k (.exit 0) (fr_recv_take_11 p0 p1 p2 v172 v174 v177))) ((s_recv_take_34_t cp n p0 p1 p2 v172 v174 v175 v176 v177 k).trans (show s_recv_take_34 cp n p0 p1 p2 v172 v174 v175 v176 v177 (fun v189 v190 => k .norm (fr_recv_take_33 p0 p1 p2 v172 v174 v175 v189 v190)) = s_recv_take_34 cp n p0 p1 p2 v172 v174 v175 v176 v177 (fun v189 v190 => k .norm (fr_recv_take_35 p0 p1 p2 v172 v174 v175 v189 v190)) from by kernel_rfl)))
def fr_recv_take_37 (p0 : SRecv) (p1 : Int) (p2 : (List Int)) (v172 : Int) (v174 : SRecv) (v193 : (List SSpan)) : FF := [dc, dc, dc, dc, dc, dc, dc, (.hdr 15) :: (eRecvt p0), [.hdr 1, (tL p1), .hdr 1, .row false (.ruint8 p2), .hdr 15, (tL 0), .row true (.ruint8 []), .row true (.rPiece []), (tL 0), (tL 0), (tL 0), (tI .u32 0), (tB false), (tB false), (tL 0), (tB false)], (.row true (.rSpan [])) :: (tI .u32 0) :: (tI .u32 0) :: (tB false) :: (.hdr 1) :: (.row true (.rSpan v193)) :: (dT 8 ((.hdr 15) :: (sl 0 1 (eRecv v174)))), sl 1 14 (eRecv v174) ++ (dT 2 []), dc]
theorem l_recv_take_38_t {R : Type} (cp : Nat → Nat → Bool) (n : Nat) : ∀ (m : Nat) (p0 : SRecv) (p1 : Int) (p2 : (List Int)) (v172 : Int) (v174 : SRecv) (v175 v176 : Int) (v177 : (List SSpan)) (k : Ex → FF → Option R), loopN2 (XI cp n (y_recv_take_5 cp n v172) i_recv_take_11) m (fr_recv_take_10 p0 p1 p2 v172 v174 v175 v176 v177) k = l_recv_take_38 cp n m p0 p1 p2 v172 v174 v175 v176 v177 (fun v193 => k (.exit 0) (fr_recv_take_37 p0 p1 p2 v172 v174 v193))
  | 0, _, _, _, _, _, _, _, _, _ => rfl
  | m + 1, p0, p1, p2, v172, v174, v175, v176, v177, k => (loopN2_succ (XI cp n (y_recv_take_5 cp n v172) i_recv_take_11) m (fr_recv_take_10 p0 p1 p2 v172 v174 v175 v176 v177) k).trans ((s_recv_take_36_t cp n p0 p1 p2 v172 v174 v175 v176 v177 (loopT (XI cp n (y_recv_take_5 cp n v172) i_recv_take_11) m k)).trans ((show s_recv_take_36 cp n p0 p1 p2 v172 v174 v175 v176 v177 (fun v191 v192 => loopT (XI cp n (y_recv_take_5 cp n v172) i_recv_take_11) m k .norm (fr_recv_take_35 p0 p1 p2 v172 v174 v175 v191 v192)) (loopT (XI cp n (y_recv_take_5 cp n v172) i_recv_take_11) m k (.exit 0) (fr_recv_take_11 p0 p1 p2 v172 v174 v177)) = s_recv_take_36 cp n p0 p1 p2 v172 v174 v175 v176 v177 (fun v191 v192 => loopN2 (XI cp n (y_recv_take_5 cp n v172) i_recv_take_11) m (fr_recv_take_10 p0 p1 p2 v172 v174 v175 v191 v192) k) (k (.exit 0) (fr_recv_take_37 p0 p1 p2 v172 v174 v177)) from by kernel_rfl).trans (congrArg (fun q => s_recv_take_36 cp n p0 p1 p2 v172 v174 v175 v176 v177 q (k (.exit 0) (fr_recv_take_37 p0 p1 p2 v172 v174 v177))) (funext fun v191 => funext fun v192 => l_recv_take_38_t cp n m p0 p1 p2 v172 v174 v175 v191 v192 k))))
theorem s_recv_take_39_t {R : Type} (cp : Nat → Nat → Bool) (n : Nat) (p0 : SRecv) (p1 : Int) (p2 : (List Int)) (v172 : Int) (v174 : SRecv) (v175 : Int) (k : Ex → FF → Option R) : XI cp n (y_recv_take_5 cp n v172) i_recv_take_12 (fr_recv_take_8 p0 p1 p2 v172 v174 v175) k = s_recv_take_39 cp n p0 p1 p2 v172 v174 v175 (fun v193 => k (.exit 0) (fr_recv_take_37 p0 p1 p2 v172 v174 v193)) := (show XI cp n (y_recv_take_5 cp n v172) i_recv_take_12 (fr_recv_take_8 p0 p1 p2 v172 v174 v175) k = loopN2 (XI cp n (y_recv_take_5 cp n v172) i_recv_take_11) n (fr_recv_take_10 p0 p1 p2 v172 v174 v175 0 []) k from by kernel_rfl).trans (l_recv_take_38_t cp n n p0 p1 p2 v172 v174 v175 0 [] k)
def fr_recv_take_40 (p0 : SRecv) (p1 : Int) (p2 : (List Int)) (v172 : Int) (v174 : SRecv) (v194 : (List SSpan)) : FF := [dc, dc, dc, dc, dc, dc, dc, (.hdr 15) :: (eRecvt p0), [.hdr 1, (tL p1), .hdr 1, .row false (.ruint8 p2), .hdr 15, (tL 0), .row true (.ruint8 []), .row true (.rPiece []), (tL 0), (tL 0), (tL 0), (tI .u32 0), (tB false), (tB false), (tL 0), (tB false)], (.row true (.rSpan [])) :: (tI .u32 0) :: (tI .u32 0) :: (tB false) :: (.hdr 1) :: (.row true (.rSpan v194)) :: (dT 8 ((.hdr 15) :: (sl 0 1 (eRecv v174)))), sl 1 14 (eRecv v174) ++ (dT 2 []), dc]
theorem s_recv_take_41_t {R : Type} (cp : Nat → Nat → Bool) (n : Nat) (p0 : SRecv) (p1 : Int) (p2 : (List Int)) (v172 : Int) (v174 : SRecv) (v175 : Int) (k : Ex → FF → Option R) : XI cp n (y_recv_take_5 cp n v172) i_recv_take_13 (fr_recv_take_8 p0 p1 p2 v172 v174 v175) k = s_recv_take_41 cp n p0 p1 p2 v172 v174 v175 (fun v194 => k .norm (fr_recv_take_40 p0 p1 p2 v172 v174 v194)) := (show XI cp n (y_recv_take_5 cp n v172) i_recv_take_13 (fr_recv_take_8 p0 p1 p2 v172 v174 v175) k = XI cp n (y_recv_take_5 cp n v172) i_recv_take_12 (fr_recv_take_8 p0 p1 p2 v172 v174 v175) (blkT 0 k) from by kernel_rfl).trans ((s_recv_take_39_t cp n p0 p1 p2 v172 v174 v175 (blkT 0 k)).trans (by kernel_rfl))
def fr_recv_take_42 (p0 : SRecv) (p1 : Int) (p2 : (List Int)) (v172 : Int) (v174 : SRecv) (v195 : (List SSpan)) : FF := [dc, dc, dc, dc, dc, dc, dc, (.hdr 15) :: (eRecvt p0), [.hdr 1, (tL p1), .hdr 1, .row false (.ruint8 p2), .hdr 15, (tL 0), .row true (.ruint8 []), .row true (.rPiece []), (tL 0), (tL 0), (tL 0), (tI .u32 0), (tB false), (tB false), (tL 0), (tB false)], (.row true (.rSpan [])) :: (tI .u32 0) :: (tI .u32 0) :: (tB false) :: (.hdr 1) :: (.row true (.rSpan v195)) :: (dT 8 ((.hdr 15) :: (sl 0 1 (eRecv v174)))), sl 1 14 (eRecv v174) ++ (dT 2 []), dc]
def fr_recv_take_44 (p0 : SRecv) (p1 : Int) (p2 : (List Int)) (v172 : Int) (v174 : SRecv) : FF := [.yld :: (.ptr 158 0) :: (dT 14 []), dc, dc, dc, dc, dc, dc, (.hdr 15) :: (eRecvt p0), [.hdr 1, (tL p1), .hdr 1, .row false (.ruint8 p2), .hdr 15, (tL 0), .row true (.ruint8 []), .row true (.rPiece []), (tL 0), (tL 0), (tL 0), (tI .u32 0), (tB false), (tB false), (tL 0), (tB false)], (.row true (.rSpan [])) :: (tI .u32 0) :: (tI .u32 0) :: (tB false) :: (.hdr 1) :: (.row true (.rSpan [])) :: (dT 8 ((.hdr 15) :: (sl 0 1 (eRecv v174)))), sl 1 14 (eRecv v174) ++ (dT 2 []), dc]
theorem s_recv_take_43_t {R : Type} (cp : Nat → Nat → Bool) (n : Nat) (p0 : SRecv) (p1 : Int) (p2 : (List Int)) (v172 : Int) (v174 : SRecv) (k : Ex → FF → Option R) : XI cp n (y_recv_take_5 cp n v172) i_recv_take_3 (fr_recv_take_44 p0 p1 p2 v172 v174) k = s_recv_take_43 cp n p0 p1 p2 v172 v174 (fun v195 => k .norm (fr_recv_take_42 p0 p1 p2 v172 v174 v195)) := ((fun c => (show XI cp n (y_recv_take_5 cp n v172) (.seq (.fin (.reg g_recv_take_1000) [1, 5] []) c) (fr_recv_take_44 p0 p1 p2 v172 v174) k = s_recv_take_7 cp n p0 p1 p2 v172 v174 (fun v175 => XI cp n (y_recv_take_5 cp n v172) c (fr_recv_take_8 p0 p1 p2 v172 v174 v175) k) from by kernel_rfl)) i_recv_take_13).trans (congrArg (fun q => s_recv_take_7 cp n p0 p1 p2 v172 v174 q) (funext fun v175 => (s_recv_take_41_t cp n p0 p1 p2 v172 v174 v175 k).trans (show s_recv_take_41 cp n p0 p1 p2 v172 v174 v175 (fun v194 => k .norm (fr_recv_take_40 p0 p1 p2 v172 v174 v194)) = s_recv_take_41 cp n p0 p1 p2 v172 v174 v175 (fun v194 => k .norm (fr_recv_take_42 p0 p1 p2 v172 v174 v194)) from by kernel_rfl)))
def fr_recv_take_45 (p0 : SRecv) (p1 : Int) (p2 : (List Int)) (v172 : Int) (v196 : (List SSpan)) : FF := [dT 3 ((.ptr 112 0) :: (.ptr 128 0) :: (.ptr 130 0) :: (.ptr 132 0) :: (dT 1 ((tL v172) :: (.ptr 148 0) :: (dT 6 [])))), dc, dc, dc, dc, dc, dc, (.hdr 15) :: (eRecvt p0), [.hdr 1, (tL p1), .hdr 1, .row false (.ruint8 p2), .hdr 15, (tL 0), .row true (.ruint8 []), .row true (.rPiece []), (tL 0), (tL 0), (tL 0), (tI .u32 0), (tB false), (tB false), (tL 0), (tB false)], (.row true (.rSpan [])) :: (tI .u32 0) :: (tI .u32 0) :: (tB false) :: (.hdr 1) :: (.row true (.rSpan v196)) :: (dT 10 []), dc, dc]
theorem s_recv_take_46_t {R : Type} (cp : Nat → Nat → Bool) (n : Nat) (p0 : SRecv) (p1 : Int) (p2 : (List Int)) (v172 : Int) (v174 : SRecv) (k : Ex → FF → Option R) : X cp n i_recv_take_14 (fr_recv_take_4 p0 p1 p2 v172 v174) k = s_recv_take_46 cp n p0 p1 p2 v172 v174 (fun v196 => k .norm (fr_recv_take_45 p0 p1 p2 v172 v196)) := (show X cp n i_recv_take_14 (fr_recv_take_4 p0 p1 p2 v172 v174) k = XI cp n (roundK2 7 [32] [112, 128, 130, 132, 148, 158, 174] (fr_recv_take_4 p0 p1 p2 v172 v174) (X cp n i_recv_take_0) (X cp n i_recv_take_1)) i_recv_take_3 (fr_recv_take_44 p0 p1 p2 v172 v174) (rfnT 7 (fr_recv_take_4 p0 p1 p2 v172 v174) (clrT [31] [(158, 15)] k)) from rfn_eq (v := .clo 70 [(158, 0)]) (by kernel_rfl) (by kernel_rfl) (by kernel_rfl) _ _ _).trans ((congrArg (fun Y => XI cp n Y i_recv_take_3 (fr_recv_take_44 p0 p1 p2 v172 v174) (rfnT 7 (fr_recv_take_4 p0 p1 p2 v172 v174) (clrT [31] [(158, 15)] k))) ((rnd_eq 7 [32] [112, 128, 130, 132, 148, 158, 174] (fr_recv_take_4 p0 p1 p2 v172 v174) i_recv_take_0 i_recv_take_1).trans (show rndT 7 [32] [112, 128, 130, 132, 148, 158, 174] (fr_recv_take_4 p0 p1 p2 v172 v174) (X cp n i_recv_take_2) = (y_recv_take_5 cp n v172) from by kernel_rfl))).trans ((s_recv_take_43_t cp n p0 p1 p2 v172 v174 (rfnT 7 (fr_recv_take_4 p0 p1 p2 v172 v174) (clrT [31] [(158, 15)] k))).trans (by kernel_rfl)))
def fr_recv_take_47 (p0 : SRecv) (p1 : Int) (p2 : (List Int)) (v172 : Int) (v197 : (List SSpan)) : FF := [dT 3 ((.ptr 112 0) :: (.ptr 128 0) :: (.ptr 130 0) :: (.ptr 132 0) :: (dT 1 ((tL v172) :: (.ptr 148 0) :: (dT 6 [])))), dc, dc, dc, dc, dc, dc, (.hdr 15) :: (eRecvt p0), [.hdr 1, (tL p1), .hdr 1, .row false (.ruint8 p2), .hdr 15, (tL 0), .row true (.ruint8 []), .row true (.rPiece []), (tL 0), (tL 0), (tL 0), (tI .u32 0), (tB false), (tB false), (tL 0), (tB false)], (.row true (.rSpan [])) :: (tI .u32 0) :: (tI .u32 0) :: (tB false) :: (.hdr 1) :: (.row true (.rSpan v197)) :: (dT 10 []), dc, dc]
theorem s_recv_take_48_t {R : Type} (cp : Nat → Nat → Bool) (n : Nat) (p0 : SRecv) (p1 : Int) (p2 : (List Int)) (v172 : Int) (v174 : SRecv) (k : Ex → FF → Option R) : X cp n i_recv_take_15 (fr_recv_take_4 p0 p1 p2 v172 v174) k = s_recv_take_48 cp n p0 p1 p2 v172 v174 (fun v197 => k .norm (fr_recv_take_47 p0 p1 p2 v172 v197)) := (show X cp n i_recv_take_15 (fr_recv_take_4 p0 p1 p2 v172 v174) k = X cp n i_recv_take_14 (fr_recv_take_4 p0 p1 p2 v172 v174) (blkT 0 k) from by kernel_rfl).trans ((s_recv_take_46_t cp n p0 p1 p2 v172 v174 (blkT 0 k)).trans (by kernel_rfl))
def fr_recv_take_49 (p0 : SRecv) (p1 : Int) (p2 : (List Int)) (v172 : Int) (v198 : (List SSpan)) : FF := [dT 3 ((.ptr 112 0) :: (.ptr 128 0) :: (.ptr 130 0) :: (.ptr 132 0) :: (dT 1 ((tL v172) :: (.ptr 148 0) :: (dT 6 [])))), dc, dc, dc, dc, dc, dc, (.hdr 15) :: (eRecvt p0), [.hdr 1, (tL p1), .hdr 1, .row false (.ruint8 p2), .hdr 15, (tL 0), .row true (.ruint8 []), .row true (.rPiece []), (tL 0), (tL 0), (tL 0), (tI .u32 0), (tB false), (tB false), (tL 0), (tB false)], (.row true (.rSpan [])) :: (tI .u32 0) :: (tI .u32 0) :: (tB false) :: (.hdr 1) :: (.row true (.rSpan v198)) :: (dT 10 []), dc, dc]
theorem s_recv_take_50_t {R : Type} (cp : Nat → Nat → Bool) (n : Nat) (p0 : SRecv) (p1 : Int) (p2 : (List Int)) (v172 : Int) (k : Ex → FF → Option R) : X cp n i_recv_take_16 (fr_recv_take_2 p0 p1 p2 v172) k = s_recv_take_50 cp n p0 p1 p2 v172 (fun v198 => k .norm (fr_recv_take_49 p0 p1 p2 v172 v198)) := ((fun c => (show X cp n (.seq (.fin (.reg g_recv_take_5) [30] []) c) (fr_recv_take_2 p0 p1 p2 v172) k = s_recv_take_3 cp n p0 p1 p2 v172 (fun v174 => X cp n c (fr_recv_take_4 p0 p1 p2 v172 v174) k) from by kernel_rfl)) i_recv_take_15).trans (congrArg (fun q => s_recv_take_3 cp n p0 p1 p2 v172 q) (funext fun v174 => (s_recv_take_48_t cp n p0 p1 p2 v172 v174 k).trans (show s_recv_take_48 cp n p0 p1 p2 v172 v174 (fun v197 => k .norm (fr_recv_take_47 p0 p1 p2 v172 v197)) = s_recv_take_48 cp n p0 p1 p2 v172 v174 (fun v197 => k .norm (fr_recv_take_49 p0 p1 p2 v172 v197)) from by kernel_rfl)))
def fr_recv_take_52 (p0 : SRecv) (p1 : Int) (p2 : (List Int)) (v172 : Int) (v198 : (List SSpan)) : FF := [dT 3 ((.ptr 112 0) :: (.ptr 128 0) :: (dT 1 ((.ptr 132 0) :: (dT 1 ((tL v172) :: (.ptr 148 0) :: (dT 1 ((.ptr 153 0) :: (.clo 59 [(153, 0), (112, 0), (130, 0), (128, 0)]) :: (dT 3 [])))))))), dc, dc, dc, dc, dc, dc, (.hdr 15) :: (eRecvt p0), [.hdr 1, (tL p1), .hdr 1, .row false (.ruint8 p2), .hdr 15, (tL 0), .row true (.ruint8 []), .row true (.rPiece []), (tL 0), (tL 0), (tL 0), (tI .u32 0), (tB false), (tB false), (tL 0), (tB false)], (.row true (.rSpan [])) :: (tI .u32 0) :: (tI .u32 0) :: (tB false) :: (.hdr 1) :: (.row true (.rSpan v198)) :: (dT 3 ((.hdr 1) :: (tB false) :: (dT 5 []))), dc, dc]
def fr_recv_take_54 (p0 : SRecv) (p1 : Int) (p2 : (List Int)) (v172 : Int) (v198 : (List SSpan)) (v199 : Int) (v200 : Bool) : FF := [dT 3 ((.ptr 112 0) :: (dT 2 ((.ptr 132 0) :: (dT 1 ((tL v172) :: (.ptr 148 0) :: (dT 1 ((.ptr 153 0) :: (.clo 59 [(153, 0), (112, 0), (130, 0), (128, 0)]) :: (tL v199) :: (dT 2 [])))))))), dc, dT 12 ((tB v200) :: (dT 3 [])), dc, dc, dc, dc, (.hdr 15) :: (eRecvt p0), [.hdr 1, (tL p1), .hdr 1, .row false (.ruint8 p2), .hdr 15, (tL 0), .row true (.ruint8 []), .row true (.rPiece []), (tL 0), (tL 0), (tL 0), (tI .u32 0), (tB false), (tB false), (tL 0), (tB false)], (.row true (.rSpan [])) :: (tI .u32 0) :: (tI .u32 0) :: (tB false) :: (.hdr 1) :: (.row true (.rSpan v198)) :: (dT 3 ((.hdr 1) :: (tB false) :: (dT 5 []))), dc, dc]
def fr_recv_take_56 (p0 : SRecv) (p1 : Int) (p2 : (List Int)) (v202 : (List SSpan)) (v203 : Int) : FF := [dT 3 ((.ptr 112 0) :: (dT 2 ((.ptr 132 0) :: (dT 4 ((.ptr 153 0) :: (.clo 59 [(153, 0), (112, 0), (130, 0), (128, 0)]) :: (dT 3 [])))))), dc, dc, dT 1 ((.row false (.rSpan v202)) :: (tL v203) :: (tL 0) :: (dT 12 [])), dc, dc, dc, (.hdr 15) :: (eRecvt p0), [.hdr 1, (tL p1), .hdr 1, .row false (.ruint8 p2), .hdr 15, (tL 0), .row true (.ruint8 []), .row true (.rPiece []), (tL 0), (tL 0), (tL 0), (tI .u32 0), (tB false), (tB false), (tL 0), (tB false)], (.row true (.rSpan [])) :: (tI .u32 0) :: (tI .u32 0) :: (tB false) :: (dT 5 ((.hdr 1) :: (tB false) :: (dT 5 []))), dc, dc]
def fr_recv_take_58 (v202 : (List SSpan)) (v203 v213 : Int) (v214 : SRecv) (v215 : Int) (v216 : (List Int)) (v217 : Bool) : FF := [dT 3 ((.ptr 112 0) :: (dT 2 ((.ptr 132 0) :: (dT 4 ((.ptr 153 0) :: (.clo 59 [(153, 0), (112, 0), (130, 0), (128, 0)]) :: (dT 3 [])))))), dc, dc, dT 1 ((.row false (.rSpan v202)) :: (tL v203) :: (tL v213) :: (dT 12 [])), dc, dc, dc, (.hdr 15) :: (eRecvt v214), [.hdr 1, (tL v215), .hdr 1, .row false (.ruint8 v216), .hdr 15, (tL 0), .row true (.ruint8 []), .row true (.rPiece []), (tL 0), (tL 0), (tL 0), (tI .u32 0), (tB false), (tB false), (tL 0), (tB false)], (.row true (.rSpan [])) :: (tI .u32 0) :: (tI .u32 0) :: (tB false) :: (dT 5 ((.hdr 1) :: (tB v217) :: (dT 5 []))), dc, dc]
def fr_recv_take_59 (v205 : SRecv) (v208 : Bool) : FF := [dT 3 ((.ptr 112 0) :: (dT 2 ((.ptr 132 0) :: (dT 4 ((.ptr 153 0) :: (dT 4 [])))))), dc, dc, dc, dc, dc, dc, (.hdr 15) :: (eRecvt v205), dT 4 ([.hdr 15, (tL 0), .row true (.ruint8 []), .row true (.rPiece []), (tL 0), (tL 0), (tL 0), (tI .u32 0), (tB false), (tB false), (tL 0), (tB false)]), (.row true (.rSpan [])) :: (tI .u32 0) :: (tI .u32 0) :: (tB false) :: (dT 5 ((.hdr 1) :: (tB v208) :: (dT 5 []))), dc, dc]
def fr_recv_take_60 (v202 : (List SSpan)) (v203 v204 : Int) (v205 : SRecv) (v206 : Int) (v207 : (List Int)) (v208 : Bool) : FF := [dT 3 ((.ptr 112 0) :: (dT 2 ((.ptr 132 0) :: (dT 4 ((.ptr 153 0) :: (.clo 59 [(153, 0), (112, 0), (130, 0), (128, 0)]) :: (dT 3 [])))))), dc, dc, dT 1 ((.row false (.rSpan v202)) :: (tL v203) :: (tL v204) :: (dT 12 [])), dc, dc, dc, (.hdr 15) :: (eRecvt v205), [.hdr 1, (tL v206), .hdr 1, .row false (.ruint8 v207), .hdr 15, (tL 0), .row true (.ruint8 []), .row true (.rPiece []), (tL 0), (tL 0), (tL 0), (tI .u32 0), (tB false), (tB false), (tL 0), (tB false)], (.row true (.rSpan [])) :: (tI .u32 0) :: (tI .u32 0) :: (tB false) :: (dT 5 ((.hdr 1) :: (tB v208) :: (dT 5 []))), dc, dc]
theorem s_recv_take_57_t {R : Type} (cp : Nat → Nat → Bool) (n : Nat) (v202 : (List SSpan)) (v203 v204 : Int) (v205 : SRecv) (v206 : Int) (v207 : (List Int)) (v208 : Bool) (k : Ex → FF → Option R) : X cp n i_recv_take_17 (fr_recv_take_60 v202 v203 v204 v205 v206 v207 v208) k = s_recv_take_57 cp n v202 v203 v204 v205 v206 v207 v208 (fun v213 v214 v215 v216 v217 => k .norm (fr_recv_take_58 v202 v203 v213 v214 v215 v216 v217)) (k (.exit 2) (fr_recv_take_59 v205 v208)) := by kernel_rfl
def fr_recv_take_61 (v218 : SRecv) (v219 : Bool) : FF := [dT 3 ((.ptr 112 0) :: (dT 2 ((.ptr 132 0) :: (dT 4 ((.ptr 153 0) :: (dT 4 [])))))), dc, dc, dc, dc, dc, dc, (.hdr 15) :: (eRecvt v218), dT 4 ([.hdr 15, (tL 0), .row true (.ruint8 []), .row true (.rPiece []), (tL 0), (tL 0), (tL 0), (tI .u32 0), (tB false), (tB false), (tL 0), (tB false)]), (.row true (.rSpan [])) :: (tI .u32 0) :: (tI .u32 0) :: (tB false) :: (dT 5 ((.hdr 1) :: (tB v219) :: (dT 5 []))), dc, dc]
theorem l_recv_take_62_t {R : Type} (cp : Nat → Nat → Bool) (n : Nat) : ∀ (m : Nat) (v202 : (List SSpan)) (v203 v204 : Int) (v205 : SRecv) (v206 : Int) (v207 : (List Int)) (v208 : Bool) (k : Ex → FF → Option R), loopN2 (X cp n i_recv_take_17) m (fr_recv_take_60 v202 v203 v204 v205 v206 v207 v208) k = l_recv_take_62 cp n m v202 v203 v204 v205 v206 v207 v208 (fun v218 v219 => k (.exit 2) (fr_recv_take_61 v218 v219))
  | 0, _, _, _, _, _, _, _, _ => rfl
  | m + 1, v202, v203, v204, v205, v206, v207, v208, k => (loopN2_succ (X cp n i_recv_take_17) m (fr_recv_take_60 v202 v203 v204 v205 v206 v207 v208) k).trans ((s_recv_take_57_t cp n v202 v203 v204 v205 v206 v207 v208 (loopT (X cp n i_recv_take_17) m k)).trans ((show s_recv_take_57 cp n v202 v203 v204 v205 v206 v207 v208 (fun v213 v214 v215 v216 v217 => loopT (X cp n i_recv_take_17) m k .norm (fr_recv_take_58 v202 v203 v213 v214 v215 v216 v217)) (loopT (X cp n i_recv_take_17) m k (.exit 2) (fr_recv_take_59 v205 v208)) = s_recv_take_57 cp n v202 v203 v204 v205 v206 v207 v208 (fun v213 v214 v215 v216 v217 => loopN2 (X cp n i_recv_take_17) m (fr_recv_take_60 v202 v203 v213 v214 v215 v216 v217) k) (k (.exit 2) (fr_recv_take_61 v205 v208)) from by kernel_rfl).trans (congrArg (fun q => s_recv_take_57 cp n v202 v203 v204 v205 v206 v207 v208 q (k (.exit 2) (fr_recv_take_61 v205 v208))) (funext fun v213 => funext fun v214 => funext fun v215 => funext fun v216 => funext fun v217 => l_recv_take_62_t cp n m v202 v203 v213 v214 v215 v216 v217 k))))
theorem s_recv_take_63_t {R : Type} (cp : Nat → Nat → Bool) (n : Nat) (p0 : SRecv) (p1 : Int) (p2 : (List Int)) (v202 : (List SSpan)) (v203 : Int) (k : Ex → FF → Option R) : X cp n i_recv_take_18 (fr_recv_take_56 p0 p1 p2 v202 v203) k = s_recv_take_63 cp n p0 p1 p2 v202 v203 (fun v218 v219 => k (.exit 2) (fr_recv_take_61 v218 v219)) := (show X cp n i_recv_take_18 (fr_recv_take_56 p0 p1 p2 v202 v203) k = loopN2 (X cp n i_recv_take_17) n (fr_recv_take_60 v202 v203 0 p0 p1 p2 false) k from by kernel_rfl).trans (l_recv_take_62_t cp n n v202 v203 0 p0 p1 p2 false k)
def fr_recv_take_64 (v220 : SRecv) (v221 : Bool) : FF := [dT 3 ((.ptr 112 0) :: (dT 2 ((.ptr 132 0) :: (dT 4 ((.ptr 153 0) :: (dT 4 [])))))), dc, dc, dc, dc, dc, dc, (.hdr 15) :: (eRecvt v220), dT 4 ([.hdr 15, (tL 0), .row true (.ruint8 []), .row true (.rPiece []), (tL 0), (tL 0), (tL 0), (tI .u32 0), (tB false), (tB false), (tL 0), (tB false)]), (.row true (.rSpan [])) :: (tI .u32 0) :: (tI .u32 0) :: (tB false) :: (dT 5 ((.hdr 1) :: (tB v221) :: (dT 5 []))), dc, dc]
theorem s_recv_take_65_t {R : Type} (cp : Nat → Nat → Bool) (n : Nat) (p0 : SRecv) (p1 : Int) (p2 : (List Int)) (v202 : (List SSpan)) (v203 : Int) (k : Ex → FF → Option R) : X cp n i_recv_take_19 (fr_recv_take_56 p0 p1 p2 v202 v203) k = s_recv_take_65 cp n p0 p1 p2 v202 v203 (fun v220 v221 => k .norm (fr_recv_take_64 v220 v221)) := (show X cp n i_recv_take_19 (fr_recv_take_56 p0 p1 p2 v202 v203) k = X cp n i_recv_take_18 (fr_recv_take_56 p0 p1 p2 v202 v203) (blkT 2 k) from by kernel_rfl).trans ((s_recv_take_63_t cp n p0 p1 p2 v202 v203 (blkT 2 k)).trans (by kernel_rfl))
def fr_recv_take_66 (v222 : SRecv) (v223 : Bool) : FF := [dT 3 ((.ptr 112 0) :: (dT 2 ((.ptr 132 0) :: (dT 4 ((.ptr 153 0) :: (dT 4 [])))))), dc, dc, dc, dc, dc, dc, (.hdr 15) :: (eRecvt v222), dT 4 ([.hdr 15, (tL 0), .row true (.ruint8 []), .row true (.rPiece []), (tL 0), (tL 0), (tL 0), (tI .u32 0), (tB false), (tB false), (tL 0), (tB false)]), (.row true (.rSpan [])) :: (tI .u32 0) :: (tI .u32 0) :: (tB false) :: (dT 5 ((.hdr 1) :: (tB v223) :: (dT 5 []))), dc, dc]
theorem s_recv_take_67_t {R : Type} (cp : Nat → Nat → Bool) (n : Nat) (p0 : SRecv) (p1 : Int) (p2 : (List Int)) (v172 : Int) (v198 : (List SSpan)) (v199 : Int) (v200 : Bool) (k : Ex → FF → Option R) : X cp n i_recv_take_20 (fr_recv_take_54 p0 p1 p2 v172 v198 v199 v200) k = s_recv_take_67 cp n p0 p1 p2 v172 v198 v199 v200 (fun v222 v223 => k .norm (fr_recv_take_66 v222 v223)) := ((fun c => (show X cp n (.seq (.fin (.reg g_recv_take_12) [8, 9, 13, 44, 45, 46, 47, 48] [(148, 1)]) c) (fr_recv_take_54 p0 p1 p2 v172 v198 v199 v200) k = s_recv_take_55 cp n p0 p1 p2 v172 v198 v199 v200 (fun v202 v203 => X cp n c (fr_recv_take_56 p0 p1 p2 v202 v203) k) from by kernel_rfl)) i_recv_take_19).trans (congrArg (fun q => s_recv_take_55 cp n p0 p1 p2 v172 v198 v199 v200 q) (funext fun v202 => funext fun v203 => (s_recv_take_65_t cp n p0 p1 p2 v202 v203 k).trans (show s_recv_take_65 cp n p0 p1 p2 v202 v203 (fun v220 v221 => k .norm (fr_recv_take_64 v220 v221)) = s_recv_take_65 cp n p0 p1 p2 v202 v203 (fun v220 v221 => k .norm (fr_recv_take_66 v220 v221)) from by kernel_rfl)))
theorem s_recv_take_68_t {R : Type} (cp : Nat → Nat → Bool) (n : Nat) (p0 : SRecv) (p1 : Int) (p2 : (List Int)) (v172 : Int) (v198 : (List SSpan)) (v199 : Int) (v200 : Bool) (k : Ex → FF → Option R) : X cp n i_recv_take_21 (fr_recv_take_54 p0 p1 p2 v172 v198 v199 v200) k = s_recv_take_68 cp n p0 p1 p2 v172 v198 v199 v200 (k .norm (fr_recv_take_54 p0 p1 p2 v172 v198 v199 v200)) := by kernel_rfl
def fr_recv_take_70 (v224 : SRecv) (v225 : Bool) : FF := [dT 3 ((.ptr 112 0) :: (dT 2 ((.ptr 132 0) :: (dT 4 ((.ptr 153 0) :: (dT 4 [])))))), dc, dc, dc, dc, dc, dc, (.hdr 15) :: (eRecvt v224), dT 4 ([.hdr 15, (tL 0), .row true (.ruint8 []), .row true (.rPiece []), (tL 0), (tL 0), (tL 0), (tI .u32 0), (tB false), (tB false), (tL 0), (tB false)]), (.row true (.rSpan [])) :: (tI .u32 0) :: (tI .u32 0) :: (tB false) :: (dT 5 ((.hdr 1) :: (tB v225) :: (dT 5 []))), dc, dc]
theorem s_recv_take_69_t {R : Type} (cp : Nat → Nat → Bool) (n : Nat) (p0 : SRecv) (p1 : Int) (p2 : (List Int)) (v172 : Int) (v198 : (List SSpan)) (v199 : Int) (v200 : Bool) (k : Ex → FF → Option R) : X cp n i_recv_take_22 (fr_recv_take_54 p0 p1 p2 v172 v198 v199 v200) k = s_recv_take_69 cp n p0 p1 p2 v172 v198 v199 v200 (fun v224 v225 => k .norm (fr_recv_take_70 v224 v225)) := (show X cp n i_recv_take_22 (fr_recv_take_54 p0 p1 p2 v172 v198 v199 v200) k = cond (v200) (X cp n i_recv_take_20 (fr_recv_take_54 p0 p1 p2 v172 v198 v199 v200) (clrT [8, 9, 12, 13, 44] [(128, 1), (130, 1), (148, 1)] k)) (X cp n i_recv_take_21 (fr_recv_take_54 p0 p1 p2 v172 v198 v199 v200) (clrT [8, 9, 12, 13, 44] [(128, 1), (130, 1), (148, 1)] k)) from by kernel_rfl).trans (cc ((s_recv_take_67_t cp n p0 p1 p2 v172 v198 v199 v200 (clrT [8, 9, 12, 13, 44] [(128, 1), (130, 1), (148, 1)] k)).trans (show s_recv_take_67 cp n p0 p1 p2 v172 v198 v199 v200 (fun v222 v223 => (clrT [8, 9, 12, 13, 44] [(128, 1), (130, 1), (148, 1)] k) .norm (fr_recv_take_66 v222 v223)) = s_recv_take_67 cp n p0 p1 p2 v172 v198 v199 v200 (fun v222 v223 => k .norm (fr_recv_take_70 v222 v223)) from by kernel_rfl)) ((s_recv_take_68_t cp n p0 p1 p2 v172 v198 v199 v200 (clrT [8, 9, 12, 13, 44] [(128, 1), (130, 1), (148, 1)] k)).trans (show s_recv_take_68 cp n p0 p1 p2 v172 v198 v199 v200 ((clrT [8, 9, 12, 13, 44] [(128, 1), (130, 1), (148, 1)] k) .norm (fr_recv_take_54 p0 p1 p2 v172 v198 v199 v200)) = s_recv_take_68 cp n p0 p1 p2 v172 v198 v199 v200 (k .norm (fr_recv_take_70 p0 false)) from by kernel_rfl)))
def fr_recv_take_71 (v226 : SRecv) (v227 : Bool) : FF := [dT 3 ((.ptr 112 0) :: (dT 2 ((.ptr 132 0) :: (dT 4 ((.ptr 153 0) :: (dT 4 [])))))), dc, dc, dc, dc, dc, dc, (.hdr 15) :: (eRecvt v226), dT 4 ([.hdr 15, (tL 0), .row true (.ruint8 []), .row true (.rPiece []), (tL 0), (tL 0), (tL 0), (tI .u32 0), (tB false), (tB false), (tL 0), (tB false)]), (.row true (.rSpan [])) :: (tI .u32 0) :: (tI .u32 0) :: (tB false) :: (dT 5 ((.hdr 1) :: (tB v227) :: (dT 5 []))), dc, dc]
theorem s_recv_take_72_t {R : Type} (cp : Nat → Nat → Bool) (n : Nat) (p0 : SRecv) (p1 : Int) (p2 : (List Int)) (v172 : Int) (v198 : (List SSpan)) (k : Ex → FF → Option R) : X cp n i_recv_take_23 (fr_recv_take_52 p0 p1 p2 v172 v198) k = s_recv_take_72 cp n p0 p1 p2 v172 v198 (fun v226 v227 => k .norm (fr_recv_take_71 v226 v227)) := ((fun c => (show X cp n (.seq (.fin (.reg g_recv_take_10) [4, 38, 39, 40, 41] []) (.seq (.fin (.reg g_recv_take_11) [42, 43] []) c)) (fr_recv_take_52 p0 p1 p2 v172 v198) k = s_recv_take_53 cp n p0 p1 p2 v172 v198 (fun v199 v200 => X cp n c (fr_recv_take_54 p0 p1 p2 v172 v198 v199 v200) k) from by kernel_rfl)) i_recv_take_22).trans (congrArg (fun q => s_recv_take_53 cp n p0 p1 p2 v172 v198 q) (funext fun v199 => funext fun v200 => (s_recv_take_69_t cp n p0 p1 p2 v172 v198 v199 v200 k).trans (show s_recv_take_69 cp n p0 p1 p2 v172 v198 v199 v200 (fun v224 v225 => k .norm (fr_recv_take_70 v224 v225)) = s_recv_take_69 cp n p0 p1 p2 v172 v198 v199 v200 (fun v224 v225 => k .norm (fr_recv_take_71 v224 v225)) from by kernel_rfl)))
def fr_recv_take_74 (v227 : Bool) (v229 : SRecv) : FF := [dT 3 ((.ptr 112 0) :: (dT 2 ((.ptr 132 0) :: (dT 4 ((.ptr 153 0) :: (dT 4 [])))))), dc, dc, dc, dc, dc, dc, [.hdr 15, (tL v229.xNext), .row true (.ruint8 v229.xUnread), .row false (.rPiece v229.xLate), (tL v229.xCap), (tL v229.xShift), (tL v229.xEdge), (tI .u32 v229.xRecent), (tB v229.xStamps), (tB v229.xSacks), (tL v229.xFin), (tB v229.xDone), .row true (.rSpan v229.xFirst), (tI .u32 v229.xIrs), (tI .u32 v229.xOwn), (tB v229.xStamp)], dT 4 ([.hdr 15, (tL 0), .row true (.ruint8 []), .row true (.rPiece []), (tL 0), (tL 0), (tL 0), (tI .u32 0), (tB false), (tB false), (tL 0), (tB false)]), (.row true (.rSpan [])) :: (tI .u32 0) :: (tI .u32 0) :: (tB false) :: (dT 5 ((.hdr 1) :: (tB v227) :: (dT 5 []))), dc, dc]
def fr_recv_take_75 (v227 : Bool) (v228 : SRecv) : FF := [dT 3 ((.ptr 112 0) :: (dT 2 ((.ptr 132 0) :: (dT 4 ((.ptr 153 0) :: (dT 4 [])))))), dc, dc, dc, dc, dc, dc, [.hdr 15, (tL v228.xNext), .row true (.ruint8 v228.xUnread), .row false (.rPiece v228.xLate), (tL v228.xCap), (tL v228.xShift), (tL v228.xEdge), (tI .u32 v228.xRecent), (tB v228.xStamps), (tB v228.xSacks), (tL v228.xFin), (tB v228.xDone), .row true (.rSpan v228.xFirst), (tI .u32 v228.xIrs), (tI .u32 v228.xOwn), (tB v228.xStamp)], dT 4 ([.hdr 15, (tL 0), .row true (.ruint8 []), .row true (.rPiece []), (tL 0), (tL 0), (tL 0), (tI .u32 0), (tB false), (tB false), (tL 0), (tB false)]), (.row true (.rSpan [])) :: (tI .u32 0) :: (tI .u32 0) :: (tB false) :: (dT 5 ((.hdr 1) :: (tB v227) :: (dT 5 []))), dc, dc]
theorem s_recv_take_73_t {R : Type} (cp : Nat → Nat → Bool) (n : Nat) (v227 : Bool) (v228 : SRecv) (k : Ex → FF → Option R) : X cp n i_recv_take_24 (fr_recv_take_75 v227 v228) k = s_recv_take_73 cp n v227 v228 (fun v229 => k .norm (fr_recv_take_74 v227 v229)) (k (.exit 4) (fr_recv_take_75 v227 v228)) := by kernel_rfl
def fr_recv_take_76 (v227 : Bool) (v230 : SRecv) : FF := [dT 3 ((.ptr 112 0) :: (dT 2 ((.ptr 132 0) :: (dT 4 ((.ptr 153 0) :: (dT 4 [])))))), dc, dc, dc, dc, dc, dc, [.hdr 15, (tL v230.xNext), .row true (.ruint8 v230.xUnread), .row false (.rPiece v230.xLate), (tL v230.xCap), (tL v230.xShift), (tL v230.xEdge), (tI .u32 v230.xRecent), (tB v230.xStamps), (tB v230.xSacks), (tL v230.xFin), (tB v230.xDone), .row true (.rSpan v230.xFirst), (tI .u32 v230.xIrs), (tI .u32 v230.xOwn), (tB v230.xStamp)], dT 4 ([.hdr 15, (tL 0), .row true (.ruint8 []), .row true (.rPiece []), (tL 0), (tL 0), (tL 0), (tI .u32 0), (tB false), (tB false), (tL 0), (tB false)]), (.row true (.rSpan [])) :: (tI .u32 0) :: (tI .u32 0) :: (tB false) :: (dT 5 ((.hdr 1) :: (tB v227) :: (dT 5 []))), dc, dc]
theorem l_recv_take_77_t {R : Type} (cp : Nat → Nat → Bool) (n : Nat) : ∀ (m : Nat) (v227 : Bool) (v228 : SRecv) (k : Ex → FF → Option R), loopN2 (X cp n i_recv_take_24) m (fr_recv_take_75 v227 v228) k = l_recv_take_77 cp n m v227 v228 (fun v230 => k (.exit 4) (fr_recv_take_76 v227 v230))
  | 0, _, _, _ => rfl
  | m + 1, v227, v228, k => (loopN2_succ (X cp n i_recv_take_24) m (fr_recv_take_75 v227 v228) k).trans ((s_recv_take_73_t cp n v227 v228 (loopT (X cp n i_recv_take_24) m k)).trans ((show s_recv_take_73 cp n v227 v228 (fun v229 => loopT (X cp n i_recv_take_24) m k .norm (fr_recv_take_74 v227 v229)) (loopT (X cp n i_recv_take_24) m k (.exit 4) (fr_recv_take_75 v227 v228)) = s_recv_take_73 cp n v227 v228 (fun v229 => loopN2 (X cp n i_recv_take_24) m (fr_recv_take_75 v227 v229) k) (k (.exit 4) (fr_recv_take_76 v227 v228)) from by kernel_rfl).trans (congrArg (fun q => s_recv_take_73 cp n v227 v228 q (k (.exit 4) (fr_recv_take_76 v227 v228))) (funext fun v229 => l_recv_take_77_t cp n m v227 v229 k))))
def fr_recv_take_79 (v226 : SRecv) (v227 : Bool) : FF := [dT 3 ((.ptr 112 0) :: (dT 2 ((.ptr 132 0) :: (dT 4 ((.ptr 153 0) :: (dT 4 [])))))), dc, dc, dc, dc, dc, dc, [.hdr 15, (tL v226.xNext), .row true (.ruint8 v226.xUnread), .row false (.rPiece v226.xLate), (tL v226.xCap), (tL v226.xShift), (tL v226.xEdge), (tI .u32 v226.xRecent), (tB v226.xStamps), (tB v226.xSacks), (tL v226.xFin), (tB v226.xDone), .row true (.rSpan v226.xFirst), (tI .u32 v226.xIrs), (tI .u32 v226.xOwn), (tB v226.xStamp)], dT 4 ([.hdr 15, (tL 0), .row true (.ruint8 []), .row true (.rPiece []), (tL 0), (tL 0), (tL 0), (tI .u32 0), (tB false), (tB false), (tL 0), (tB false)]), (.row true (.rSpan [])) :: (tI .u32 0) :: (tI .u32 0) :: (tB false) :: (dT 5 ((.hdr 1) :: (tB v227) :: (dT 5 []))), dc, dc]
theorem s_recv_take_78_t {R : Type} (cp : Nat → Nat → Bool) (n : Nat) (v226 : SRecv) (v227 : Bool) (k : Ex → FF → Option R) : X cp n i_recv_take_25 (fr_recv_take_79 v226 v227) k = s_recv_take_78 cp n v226 v227 (fun v230 => k (.exit 4) (fr_recv_take_76 v227 v230)) := (show X cp n i_recv_take_25 (fr_recv_take_79 v226 v227) k = loopN2 (X cp n i_recv_take_24) n (fr_recv_take_75 v227 v226) k from by kernel_rfl).trans (l_recv_take_77_t cp n n v227 v226 k)
theorem s_recv_take_80_t {R : Type} (cp : Nat → Nat → Bool) (n : Nat) (v226 : SRecv) (v227 : Bool) (k : Ex → FF → Option R) : X cp n i_recv_take_26 (fr_recv_take_71 v226 v227) k = s_recv_take_80 cp n v226 v227 (fun v230 => k (.exit 4) (fr_recv_take_76 v227 v230)) := (show X cp n i_recv_take_26 (fr_recv_take_71 v226 v227) k = X cp n i_recv_take_25 (fr_recv_take_79 v226 v227) k from by kernel_rfl).trans (s_recv_take_78_t cp n v226 v227 k)
def fr_recv_take_81 (v227 : Bool) (v231 : SRecv) : FF := [dT 3 ((.ptr 112 0) :: (dT 2 ((.ptr 132 0) :: (dT 4 ((.ptr 153 0) :: (dT 4 [])))))), dc, dc, dc, dc, dc, dc, [.hdr 15, (tL v231.xNext), .row true (.ruint8 v231.xUnread), .row false (.rPiece v231.xLate), (tL v231.xCap), (tL v231.xShift), (tL v231.xEdge), (tI .u32 v231.xRecent), (tB v231.xStamps), (tB v231.xSacks), (tL v231.xFin), (tB v231.xDone), .row true (.rSpan v231.xFirst), (tI .u32 v231.xIrs), (tI .u32 v231.xOwn), (tB v231.xStamp)], dT 4 ([.hdr 15, (tL 0), .row true (.ruint8 []), .row true (.rPiece []), (tL 0), (tL 0), (tL 0), (tI .u32 0), (tB false), (tB false), (tL 0), (tB false)]), (.row true (.rSpan [])) :: (tI .u32 0) :: (tI .u32 0) :: (tB false) :: (dT 5 ((.hdr 1) :: (tB v227) :: (dT 5 []))), dc, dc]
theorem s_recv_take_82_t {R : Type} (cp : Nat → Nat → Bool) (n : Nat) (v226 : SRecv) (v227 : Bool) (k : Ex → FF → Option R) : X cp n i_recv_take_27 (fr_recv_take_71 v226 v227) k = s_recv_take_82 cp n v226 v227 (fun v231 => k .norm (fr_recv_take_81 v227 v231)) := (show X cp n i_recv_take_27 (fr_recv_take_71 v226 v227) k = X cp n i_recv_take_26 (fr_recv_take_71 v226 v227) (blkT 4 k) from by kernel_rfl).trans ((s_recv_take_80_t cp n v226 v227 (blkT 4 k)).trans (by kernel_rfl))
def fr_recv_take_84 (v227 : Bool) (v231 : SRecv) : FF := [dT 6 ((.ptr 132 0) :: (tB v227) :: (dT 8 [])), dc, dc, dc, dc, dc, dc, dc, dT 4 ([.hdr 15, (tL v231.xNext), .row true (.ruint8 v231.xUnread), .row false (.rPiece v231.xLate), (tL v231.xCap), (tL v231.xShift), (tL v231.xEdge), (tI .u32 v231.xRecent), (tB v231.xStamps), (tB v231.xSacks), (tL v231.xFin), (tB v231.xDone)]), (.row true (.rSpan v231.xFirst)) :: (tI .u32 v231.xIrs) :: (tI .u32 v231.xOwn) :: (tB v231.xStamp) :: (dT 12 []), dc, dc]
theorem s_recv_take_83_t {R : Type} (cp : Nat → Nat → Bool) (n : Nat) (v227 : Bool) (v231 : SRecv) (k : Ex → FF → Option R) : X cp n i_recv_take_28 (fr_recv_take_81 v227 v231) k = s_recv_take_83 cp n v227 v231 (k .ret (fr_recv_take_84 v227 v231)) := by kernel_rfl
def fr_recv_take_85 (v227 : Bool) (v232 : SRecv) : FF := [dT 6 ((.ptr 132 0) :: (tB v227) :: (dT 8 [])), dc, dc, dc, dc, dc, dc, dc, dT 4 ([.hdr 15, (tL v232.xNext), .row true (.ruint8 v232.xUnread), .row false (.rPiece v232.xLate), (tL v232.xCap), (tL v232.xShift), (tL v232.xEdge), (tI .u32 v232.xRecent), (tB v232.xStamps), (tB v232.xSacks), (tL v232.xFin), (tB v232.xDone)]), (.row true (.rSpan v232.xFirst)) :: (tI .u32 v232.xIrs) :: (tI .u32 v232.xOwn) :: (tB v232.xStamp) :: (dT 12 []), dc, dc]
theorem s_recv_take_86_t {R : Type} (cp : Nat → Nat → Bool) (n : Nat) (v226 : SRecv) (v227 : Bool) (k : Ex → FF → Option R) : X cp n i_recv_take_29 (fr_recv_take_71 v226 v227) k = s_recv_take_86 cp n v226 v227 (fun v232 => k .ret (fr_recv_take_85 v227 v232)) := (show X cp n i_recv_take_29 (fr_recv_take_71 v226 v227) k = X cp n i_recv_take_27 (fr_recv_take_71 v226 v227) (seqT (X cp n) i_recv_take_28 k) from by kernel_rfl).trans ((show X cp n i_recv_take_27 (fr_recv_take_71 v226 v227) (seqT (X cp n) i_recv_take_28 k) = s_recv_take_82 cp n v226 v227 (fun v231 => X cp n i_recv_take_28 (fr_recv_take_81 v227 v231) k) from (s_recv_take_82_t cp n v226 v227 (seqT (X cp n) i_recv_take_28 k)).trans (by kernel_rfl)).trans (congrArg (fun q => s_recv_take_82 cp n v226 v227 q) (funext fun v231 => (s_recv_take_83_t cp n v227 v231 k).trans (show s_recv_take_83 cp n v227 v231 (k .ret (fr_recv_take_84 v227 v231)) = s_recv_take_83 cp n v227 v231 (k .ret (fr_recv_take_85 v227 v231)) from by kernel_rfl))))
def fr_recv_take_87 (v233 : Bool) (v234 : SRecv) : FF := [dT 6 ((.ptr 132 0) :: (tB v233) :: (dT 8 [])), dc, dc, dc, dc, dc, dc, dc, dT 4 ([.hdr 15, (tL v234.xNext), .row true (.ruint8 v234.xUnread), .row false (.rPiece v234.xLate), (tL v234.xCap), (tL v234.xShift), (tL v234.xEdge), (tI .u32 v234.xRecent), (tB v234.xStamps), (tB v234.xSacks), (tL v234.xFin), (tB v234.xDone)]), (.row true (.rSpan v234.xFirst)) :: (tI .u32 v234.xIrs) :: (tI .u32 v234.xOwn) :: (tB v234.xStamp) :: (dT 12 []), dc, dc]
theorem s_recv_take_88_t {R : Type} (cp : Nat → Nat → Bool) (n : Nat) (p0 : SRecv) (p1 : Int) (p2 : (List Int)) (v172 : Int) (v198 : (List SSpan)) (k : Ex → FF → Option R) : X cp n i_recv_take_30 (fr_recv_take_52 p0 p1 p2 v172 v198) k = s_recv_take_88 cp n p0 p1 p2 v172 v198 (fun v233 v234 => k .ret (fr_recv_take_87 v233 v234)) := (show X cp n i_recv_take_30 (fr_recv_take_52 p0 p1 p2 v172 v198) k = X cp n i_recv_take_23 (fr_recv_take_52 p0 p1 p2 v172 v198) (seqT (X cp n) i_recv_take_29 k) from by kernel_rfl).trans ((show X cp n i_recv_take_23 (fr_recv_take_52 p0 p1 p2 v172 v198) (seqT (X cp n) i_recv_take_29 k) = s_recv_take_72 cp n p0 p1 p2 v172 v198 (fun v226 v227 => X cp n i_recv_take_29 (fr_recv_take_71 v226 v227) k) from (s_recv_take_72_t cp n p0 p1 p2 v172 v198 (seqT (X cp n) i_recv_take_29 k)).trans (by kernel_rfl)).trans (congrArg (fun q => s_recv_take_72 cp n p0 p1 p2 v172 v198 q) (funext fun v226 => funext fun v227 => (s_recv_take_86_t cp n v226 v227 k).trans (show s_recv_take_86 cp n v226 v227 (fun v232 => k .ret (fr_recv_take_85 v227 v232)) = s_recv_take_86 cp n v226 v227 (fun v232 => k .ret (fr_recv_take_87 v227 v232)) from by kernel_rfl))))
def fr_recv_take_89 (v235 : Bool) (v236 : SRecv) : FF := [dT 6 ((.ptr 132 0) :: (tB v235) :: (dT 8 [])), dc, dc, dc, dc, dc, dc, dc, dT 4 ([.hdr 15, (tL v236.xNext), .row true (.ruint8 v236.xUnread), .row false (.rPiece v236.xLate), (tL v236.xCap), (tL v236.xShift), (tL v236.xEdge), (tI .u32 v236.xRecent), (tB v236.xStamps), (tB v236.xSacks), (tL v236.xFin), (tB v236.xDone)]), (.row true (.rSpan v236.xFirst)) :: (tI .u32 v236.xIrs) :: (tI .u32 v236.xOwn) :: (tB v236.xStamp) :: (dT 12 []), dc, dc]
theorem s_recv_take_90_t {R : Type} (cp : Nat → Nat → Bool) (n : Nat) (p0 : SRecv) (p1 : Int) (p2 : (List Int)) (v172 : Int) (v198 : (List SSpan)) (k : Ex → FF → Option R) : X cp n i_recv_take_31 (fr_recv_take_49 p0 p1 p2 v172 v198) k = s_recv_take_90 cp n p0 p1 p2 v172 v198 (fun v235 v236 => k .ret (fr_recv_take_89 v235 v236)) := ((fun c => (show X cp n (.seq (.reg g_recv_take_8) (.seq (.fin (.reg g_recv_take_9) [5, 37] []) c)) (fr_recv_take_49 p0 p1 p2 v172 v198) k = s_recv_take_51 cp n p0 p1 p2 v172 v198 (X cp n c (fr_recv_take_52 p0 p1 p2 v172 v198) k) from by kernel_rfl)) i_recv_take_30).trans (congrArg (fun q => s_recv_take_51 cp n p0 p1 p2 v172 v198 q) ((s_recv_take_88_t cp n p0 p1 p2 v172 v198 k).trans (show s_recv_take_88 cp n p0 p1 p2 v172 v198 (fun v233 v234 => k .ret (fr_recv_take_87 v233 v234)) = s_recv_take_88 cp n p0 p1 p2 v172 v198 (fun v233 v234 => k .ret (fr_recv_take_89 v233 v234)) from by kernel_rfl)))
def fr_recv_take_91 (v237 : Bool) (v238 : SRecv) : FF := [dT 6 ((.ptr 132 0) :: (tB v237) :: (dT 8 [])), dc, dc, dc, dc, dc, dc, dc, dT 4 ([.hdr 15, (tL v238.xNext), .row true (.ruint8 v238.xUnread), .row false (.rPiece v238.xLate), (tL v238.xCap), (tL v238.xShift), (tL v238.xEdge), (tI .u32 v238.xRecent), (tB v238.xStamps), (tB v238.xSacks), (tL v238.xFin), (tB v238.xDone)]), (.row true (.rSpan v238.xFirst)) :: (tI .u32 v238.xIrs) :: (tI .u32 v238.xOwn) :: (tB v238.xStamp) :: (dT 12 []), dc, dc]
theorem s_recv_take_92_t {R : Type} (cp : Nat → Nat → Bool) (n : Nat) (p0 : SRecv) (p1 : Int) (p2 : (List Int)) (v172 : Int) (k : Ex → FF → Option R) : X cp n i_recv_take_32 (fr_recv_take_2 p0 p1 p2 v172) k = s_recv_take_92 cp n p0 p1 p2 v172 (fun v237 v238 => k .ret (fr_recv_take_91 v237 v238)) := (show X cp n i_recv_take_32 (fr_recv_take_2 p0 p1 p2 v172) k = X cp n i_recv_take_16 (fr_recv_take_2 p0 p1 p2 v172) (seqT (X cp n) i_recv_take_31 k) from by kernel_rfl).trans ((show X cp n i_recv_take_16 (fr_recv_take_2 p0 p1 p2 v172) (seqT (X cp n) i_recv_take_31 k) = s_recv_take_50 cp n p0 p1 p2 v172 (fun v198 => X cp n i_recv_take_31 (fr_recv_take_49 p0 p1 p2 v172 v198) k) from (s_recv_take_50_t cp n p0 p1 p2 v172 (seqT (X cp n) i_recv_take_31 k)).trans (by kernel_rfl)).trans (congrArg (fun q => s_recv_take_50 cp n p0 p1 p2 v172 q) (funext fun v198 => (s_recv_take_90_t cp n p0 p1 p2 v172 v198 k).trans (show s_recv_take_90 cp n p0 p1 p2 v172 v198 (fun v235 v236 => k .ret (fr_recv_take_89 v235 v236)) = s_recv_take_90 cp n p0 p1 p2 v172 v198 (fun v235 v236 => k .ret (fr_recv_take_91 v235 v236)) from by kernel_rfl))))
def fr_recv_take_93 (v239 : Bool) (v240 : SRecv) : FF := [dT 6 ((.ptr 132 0) :: (tB v239) :: (dT 8 [])), dc, dc, dc, dc, dc, dc, dc, dT 4 ([.hdr 15, (tL v240.xNext), .row true (.ruint8 v240.xUnread), .row false (.rPiece v240.xLate), (tL v240.xCap), (tL v240.xShift), (tL v240.xEdge), (tI .u32 v240.xRecent), (tB v240.xStamps), (tB v240.xSacks), (tL v240.xFin), (tB v240.xDone)]), (.row true (.rSpan v240.xFirst)) :: (tI .u32 v240.xIrs) :: (tI .u32 v240.xOwn) :: (tB v240.xStamp) :: (dT 12 []), dc, dc]
def fr_recv_take_95 (p0 : SRecv) (p1 : Int) (p2 : (List Int)) : FF := [(.agg (eRecvt p0)) :: (tL p1) :: (.row false (.ruint8 p2)) :: (dT 13 []), dc, dc, dc, dc, dc, dc, dc, dc, dc, dc, dc]
theorem s_recv_take_94_t {R : Type} (cp : Nat → Nat → Bool) (n : Nat) (p0 : SRecv) (p1 : Int) (p2 : (List Int)) (k : Ex → FF → Option R) : X cp n i_recv_take_33 (fr_recv_take_95 p0 p1 p2) k = s_recv_take_94 cp n p0 p1 p2 (fun v239 v240 => k .ret (fr_recv_take_93 v239 v240)) := ((fun c => (show X cp n (.seq (.fin (.reg g_recv_take_0) [0, 1, 2, 7] []) (.seq (.fin (.reg g_recv_take_1) [16, 17, 18, 19, 20, 21, 22] []) (.seq (.seq (.fin (.reg g_recv_take_2) [23, 24] []) (.fin (.cond (.s 25) (.fin (.reg g_recv_take_3) [25, 26, 27, 28, 29] []) i_recv_take_21) [25] [])) (.seq (.reg g_recv_take_4) c)))) (fr_recv_take_95 p0 p1 p2) k = s_recv_take_1 cp n p0 p1 p2 (fun v172 => X cp n c (fr_recv_take_2 p0 p1 p2 v172) k) from by kernel_rfl)) i_recv_take_32).trans (congrArg (fun q => s_recv_take_1 cp n p0 p1 p2 q) (funext fun v172 => (s_recv_take_92_t cp n p0 p1 p2 v172 k).trans (show s_recv_take_92 cp n p0 p1 p2 v172 (fun v237 v238 => k .ret (fr_recv_take_91 v237 v238)) = s_recv_take_92 cp n p0 p1 p2 v172 (fun v237 v238 => k .ret (fr_recv_take_93 v237 v238)) from by kernel_rfl)))
theorem run_recv_take {R : Type} (cp : Nat → Nat → Bool) (n : Nat) (p0 : SRecv) (p1 : Int) (p2 : (List Int)) (k : Ret2 RW → Option R) : G_recv_take cp (n + 1) p0 p1 p2 (fun r0 r1 => k ⟨.tup [.agg [(tL r0.xNext), .row true (.ruint8 r0.xUnread), .row false (.rPiece r0.xLate), (tL r0.xCap), (tL r0.xShift), (tL r0.xEdge), (tI .u32 r0.xRecent), (tB r0.xStamps), (tB r0.xSacks), (tL r0.xFin), (tB r0.xDone), .row true (.rSpan r0.xFirst), (tI .u32 r0.xIrs), (tI .u32 r0.xOwn), (tB r0.xStamp)], (tB r1)], [], []⟩) = run2 U cp (callP cp n) n fn_recv_take [.agg (eRecvt p0), (tL p1), .row false (.ruint8 p2)] [] k := ((X_run (f := fn_recv_take) (av := [.agg (eRecvt p0), (tL p1), .row false (.ruint8 p2)]) (cells := []) (code := i_recv_take_33) (fr := (fr_recv_take_95 p0 p1 p2)) (k := k) (by kernel_rfl) (fun K => by kernel_rfl)).trans ((s_recv_take_94_t cp n p0 p1 p2 (finK2 fn_recv_take k)).trans (by kernel_rfl))).symm
/-! tideway/recv.firsts$1 -/
theorem run_recv_firsts_1 {R : Type} (cp : Nat → Nat → Bool) (n : Nat) (p0 q0 : SSpan) (k : Ret2 RW → Option R) : G_recv_firsts_1 cp (n + 1) p0 q0 (fun r0 r1 => k ⟨(tB r0), [(eSpan r1)], []⟩) = run2 U cp (callP cp n) n fn_recv_firsts_1 [.agg (eSpan p0), .ptr 16 0] [(eSpan q0)] k := by kernel_rfl
/-! slices.IndexFunc[[]tideway/api.Span,tideway/api.Span] -/
def fr_slices_IndexFunc_Span_2 (p0 : (List SSpan)) (q0 : SSpan) : FF := [(.row false (.rSpan p0)) :: (.clo 63 [(19, 0)]) :: (dT 14 []), dT 3 ((.hdr 2) :: ((eSpan q0) ++ (dT 10 [])))]
def fr_slices_IndexFunc_Span_4 (p0 : (List SSpan)) (q0 : SSpan) (v258 : Int) : FF := [(.row false (.rSpan p0)) :: (.clo 63 [(19, 0)]) :: (dT 5 ((tL v258) :: (tL 0) :: (dT 7 []))), dT 3 ((.hdr 2) :: ((eSpan q0) ++ (dT 10 [])))]
def fr_slices_IndexFunc_Span_6 (p0 : (List SSpan)) (v258 v264 v265 v266 : Int) : FF := [(.row false (.rSpan p0)) :: (.clo 63 [(19, 0)]) :: (dT 5 ((tL v258) :: (tL v264) :: (dT 7 []))), dT 3 ((.hdr 2) :: (tL v265) :: (tL v266) :: (dT 10 []))]
def fr_slices_IndexFunc_Span_7 (v259 v267 v268 : Int) : FF := [dT 4 ((tL v259) :: (dT 11 [])), dT 3 ((.hdr 2) :: (tL v267) :: (tL v268) :: (dT 10 []))]
def fr_slices_IndexFunc_Span_8 (v260 v261 : Int) : FF := [dc, dT 3 ((.hdr 2) :: (tL v260) :: (tL v261) :: (dT 10 []))]
def fr_slices_IndexFunc_Span_9 (p0 : (List SSpan)) (v258 v259 v260 v261 : Int) : FF := [(.row false (.rSpan p0)) :: (.clo 63 [(19, 0)]) :: (dT 5 ((tL v258) :: (tL v259) :: (dT 7 []))), dT 3 ((.hdr 2) :: (tL v260) :: (tL v261) :: (dT 10 []))]
theorem s_slices_IndexFunc_Span_5_t {R : Type} (cp : Nat → Nat → Bool) (n : Nat) (p0 : (List SSpan)) (v258 v259 v260 v261 : Int) (k : Ex → FF → Option R) : X cp n i_slices_IndexFunc_Span_0 (fr_slices_IndexFunc_Span_9 p0 v258 v259 v260 v261) k = s_slices_IndexFunc_Span_5 cp n p0 v258 v259 v260 v261 (fun v264 v265 v266 => k .norm (fr_slices_IndexFunc_Span_6 p0 v258 v264 v265 v266)) (fun v267 v268 => k .ret (fr_slices_IndexFunc_Span_7 v259 v267 v268)) (k (.exit 0) (fr_slices_IndexFunc_Span_8 v260 v261)) := by kernel_rfl
def fr_slices_IndexFunc_Span_10 (v269 v270 v271 : Int) : FF := [dT 4 ((tL v269) :: (dT 11 [])), dT 3 ((.hdr 2) :: (tL v270) :: (tL v271) :: (dT 10 []))]
def fr_slices_IndexFunc_Span_11 (v272 v273 : Int) : FF := [dc, dT 3 ((.hdr 2) :: (tL v272) :: (tL v273) :: (dT 10 []))]
theorem l_slices_IndexFunc_Span_12_t {R : Type} (cp : Nat → Nat → Bool) (n : Nat) : ∀ (m : Nat) (p0 : (List SSpan)) (v258 v259 v260 v261 : Int) (k : Ex → FF → Option R), loopN2 (X cp n i_slices_IndexFunc_Span_0) m (fr_slices_IndexFunc_Span_9 p0 v258 v259 v260 v261) k = l_slices_IndexFunc_Span_12 cp n m p0 v258 v259 v260 v261 (fun v269 v270 v271 => k .ret (fr_slices_IndexFunc_Span_10 v269 v270 v271)) (fun v272 v273 => k (.exit 0) (fr_slices_IndexFunc_Span_11 v272 v273))
  | 0, _, _, _, _, _, _ => rfl
  | m + 1, p0, v258, v259, v260, v261, k => (loopN2_succ (X cp n i_slices_IndexFunc_Span_0) m (fr_slices_IndexFunc_Span_9 p0 v258 v259 v260 v261) k).trans ((s_slices_IndexFunc_Span_5_t cp n p0 v258 v259 v260 v261 (loopT (X cp n i_slices_IndexFunc_Span_0) m k)).trans ((show s_slices_IndexFunc_Span_5 cp n p0 v258 v259 v260 v261 (fun v264 v265 v266 => loopT (X cp n i_slices_IndexFunc_Span_0) m k .norm (fr_slices_IndexFunc_Span_6 p0 v258 v264 v265 v266)) (fun v267 v268 => loopT (X cp n i_slices_IndexFunc_Span_0) m k .ret (fr_slices_IndexFunc_Span_7 v259 v267 v268)) (loopT (X cp n i_slices_IndexFunc_Span_0) m k (.exit 0) (fr_slices_IndexFunc_Span_8 v260 v261)) = s_slices_IndexFunc_Span_5 cp n p0 v258 v259 v260 v261 (fun v264 v265 v266 => loopN2 (X cp n i_slices_IndexFunc_Span_0) m (fr_slices_IndexFunc_Span_9 p0 v258 v264 v265 v266) k) (fun v267 v268 => k .ret (fr_slices_IndexFunc_Span_10 v259 v267 v268)) (k (.exit 0) (fr_slices_IndexFunc_Span_11 v260 v261)) from by kernel_rfl).trans (congrArg (fun q => s_slices_IndexFunc_Span_5 cp n p0 v258 v259 v260 v261 q (fun v267 v268 => k .ret (fr_slices_IndexFunc_Span_10 v259 v267 v268)) (k (.exit 0) (fr_slices_IndexFunc_Span_11 v260 v261))) (funext fun v264 => funext fun v265 => funext fun v266 => l_slices_IndexFunc_Span_12_t cp n m p0 v258 v264 v265 v266 k))))
theorem s_slices_IndexFunc_Span_13_t {R : Type} (cp : Nat → Nat → Bool) (n : Nat) (p0 : (List SSpan)) (q0 : SSpan) (v258 : Int) (k : Ex → FF → Option R) : X cp n i_slices_IndexFunc_Span_1 (fr_slices_IndexFunc_Span_4 p0 q0 v258) k = s_slices_IndexFunc_Span_13 cp n p0 q0 v258 (fun v269 v270 v271 => k .ret (fr_slices_IndexFunc_Span_10 v269 v270 v271)) (fun v272 v273 => k (.exit 0) (fr_slices_IndexFunc_Span_11 v272 v273)) := (show X cp n i_slices_IndexFunc_Span_1 (fr_slices_IndexFunc_Span_4 p0 q0 v258) k = loopN2 (X cp n i_slices_IndexFunc_Span_0) n (fr_slices_IndexFunc_Span_9 p0 v258 0 q0.xFrom q0.xTo) k from by kernel_rfl).trans (l_slices_IndexFunc_Span_12_t cp n n p0 v258 0 q0.xFrom q0.xTo k)
def fr_slices_IndexFunc_Span_14 (v274 v275 : Int) : FF := [dc, dT 3 ((.hdr 2) :: (tL v274) :: (tL v275) :: (dT 10 []))]
def fr_slices_IndexFunc_Span_15 (v276 v277 v278 : Int) : FF := [dT 4 ((tL v276) :: (dT 11 [])), dT 3 ((.hdr 2) :: (tL v277) :: (tL v278) :: (dT 10 []))]
theorem s_slices_IndexFunc_Span_16_t {R : Type} (cp : Nat → Nat → Bool) (n : Nat) (p0 : (List SSpan)) (q0 : SSpan) (v258 : Int) (k : Ex → FF → Option R) : X cp n i_slices_IndexFunc_Span_2 (fr_slices_IndexFunc_Span_4 p0 q0 v258) k = s_slices_IndexFunc_Span_16 cp n p0 q0 v258 (fun v274 v275 => k .norm (fr_slices_IndexFunc_Span_14 v274 v275)) (fun v276 v277 v278 => k .ret (fr_slices_IndexFunc_Span_15 v276 v277 v278)) := (show X cp n i_slices_IndexFunc_Span_2 (fr_slices_IndexFunc_Span_4 p0 q0 v258) k = X cp n i_slices_IndexFunc_Span_1 (fr_slices_IndexFunc_Span_4 p0 q0 v258) (blkT 0 k) from by kernel_rfl).trans ((s_slices_IndexFunc_Span_13_t cp n p0 q0 v258 (blkT 0 k)).trans (by kernel_rfl))
def fr_slices_IndexFunc_Span_17 (v279 v280 : Int) : FF := [dc, dT 3 ((.hdr 2) :: (tL v279) :: (tL v280) :: (dT 10 []))]
def fr_slices_IndexFunc_Span_18 (v281 v282 v283 : Int) : FF := [dT 4 ((tL v281) :: (dT 11 [])), dT 3 ((.hdr 2) :: (tL v282) :: (tL v283) :: (dT 10 []))]
theorem s_slices_IndexFunc_Span_19_t {R : Type} (cp : Nat → Nat → Bool) (n : Nat) (p0 : (List SSpan)) (q0 : SSpan) (k : Ex → FF → Option R) : X cp n i_slices_IndexFunc_Span_3 (fr_slices_IndexFunc_Span_2 p0 q0) k = s_slices_IndexFunc_Span_19 cp n p0 q0 (fun v279 v280 => k .norm (fr_slices_IndexFunc_Span_17 v279 v280)) (fun v281 v282 v283 => k .ret (fr_slices_IndexFunc_Span_18 v281 v282 v283)) := ((fun c => (show X cp n (.seq (.fin (.reg g_slices_IndexFunc_Span_1) [6] []) c) (fr_slices_IndexFunc_Span_2 p0 q0) k = s_slices_IndexFunc_Span_3 cp n p0 q0 (fun v258 => X cp n c (fr_slices_IndexFunc_Span_4 p0 q0 v258) k) from by kernel_rfl)) i_slices_IndexFunc_Span_2).trans (congrArg (fun q => s_slices_IndexFunc_Span_3 cp n p0 q0 q) (funext fun v258 => (s_slices_IndexFunc_Span_16_t cp n p0 q0 v258 k).trans (show s_slices_IndexFunc_Span_16 cp n p0 q0 v258 (fun v274 v275 => k .norm (fr_slices_IndexFunc_Span_14 v274 v275)) (fun v276 v277 v278 => k .ret (fr_slices_IndexFunc_Span_15 v276 v277 v278)) = s_slices_IndexFunc_Span_16 cp n p0 q0 v258 (fun v274 v275 => k .norm (fr_slices_IndexFunc_Span_17 v274 v275)) (fun v276 v277 v278 => k .ret (fr_slices_IndexFunc_Span_18 v276 v277 v278)) from by kernel_rfl)))
def fr_slices_IndexFunc_Span_21 (v279 v280 : Int) : FF := [dT 4 ((tL (-1)) :: (dT 11 [])), dT 3 ((.hdr 2) :: (tL v279) :: (tL v280) :: (dT 10 []))]
theorem s_slices_IndexFunc_Span_20_t {R : Type} (cp : Nat → Nat → Bool) (n : Nat) (v279 v280 : Int) (k : Ex → FF → Option R) : X cp n i_slices_IndexFunc_Span_4 (fr_slices_IndexFunc_Span_17 v279 v280) k = s_slices_IndexFunc_Span_20 cp n v279 v280 (k .ret (fr_slices_IndexFunc_Span_21 v279 v280)) := by kernel_rfl
def fr_slices_IndexFunc_Span_22 (v284 v285 v286 : Int) : FF := [dT 4 ((tL v284) :: (dT 11 [])), dT 3 ((.hdr 2) :: (tL v285) :: (tL v286) :: (dT 10 []))]
theorem s_slices_IndexFunc_Span_23_t {R : Type} (cp : Nat → Nat → Bool) (n : Nat) (p0 : (List SSpan)) (q0 : SSpan) (k : Ex → FF → Option R) : X cp n i_slices_IndexFunc_Span_5 (fr_slices_IndexFunc_Span_2 p0 q0) k = s_slices_IndexFunc_Span_23 cp n p0 q0 (fun v284 v285 v286 => k .ret (fr_slices_IndexFunc_Span_22 v284 v285 v286)) := (show X cp n i_slices_IndexFunc_Span_5 (fr_slices_IndexFunc_Span_2 p0 q0) k = X cp n i_slices_IndexFunc_Span_3 (fr_slices_IndexFunc_Span_2 p0 q0) (seqT (X cp n) i_slices_IndexFunc_Span_4 k) from by kernel_rfl).trans ((show X cp n i_slices_IndexFunc_Span_3 (fr_slices_IndexFunc_Span_2 p0 q0) (seqT (X cp n) i_slices_IndexFunc_Span_4 k) = s_slices_IndexFunc_Span_19 cp n p0 q0 (fun v279 v280 => X cp n i_slices_IndexFunc_Span_4 (fr_slices_IndexFunc_Span_17 v279 v280) k) (fun v281 v282 v283 => k .ret (fr_slices_IndexFunc_Span_22 v281 v282 v283)) from (s_slices_IndexFunc_Span_19_t cp n p0 q0 (seqT (X cp n) i_slices_IndexFunc_Span_4 k)).trans (by kernel_rfl)).trans (congrArg (fun q => s_slices_IndexFunc_Span_19 cp n p0 q0 q (fun v281 v282 v283 => k .ret (fr_slices_IndexFunc_Span_22 v281 v282 v283))) (funext fun v279 => funext fun v280 => (s_slices_IndexFunc_Span_20_t cp n v279 v280 k).trans (show s_slices_IndexFunc_Span_20 cp n v279 v280 (k .ret (fr_slices_IndexFunc_Span_21 v279 v280)) = s_slices_IndexFunc_Span_20 cp n v279 v280 (k .ret (fr_slices_IndexFunc_Span_22 (-1) v279 v280)) from by kernel_rfl))))
def fr_slices_IndexFunc_Span_24 (v287 v288 v289 : Int) : FF := [dT 4 ((tL v287) :: (dT 11 [])), dT 3 ((.hdr 2) :: (tL v288) :: (tL v289) :: (dT 10 []))]
theorem s_slices_IndexFunc_Span_25_t {R : Type} (cp : Nat → Nat → Bool) (n : Nat) (p0 : (List SSpan)) (q0 : SSpan) (k : Ex → FF → Option R) : X cp n i_slices_IndexFunc_Span_6 (fr_slices_IndexFunc_Span_2 p0 q0) k = s_slices_IndexFunc_Span_25 cp n p0 q0 (fun v287 v288 v289 => k .ret (fr_slices_IndexFunc_Span_24 v287 v288 v289)) := ((fun c => (show X cp n (.seq (.fin (.reg g_slices_IndexFunc_Span_0) [4] []) c) (fr_slices_IndexFunc_Span_2 p0 q0) k = s_slices_IndexFunc_Span_1 cp n p0 q0 (X cp n c (fr_slices_IndexFunc_Span_2 p0 q0) k) from by kernel_rfl)) i_slices_IndexFunc_Span_5).trans (congrArg (fun q => s_slices_IndexFunc_Span_1 cp n p0 q0 q) ((s_slices_IndexFunc_Span_23_t cp n p0 q0 k).trans (show s_slices_IndexFunc_Span_23 cp n p0 q0 (fun v284 v285 v286 => k .ret (fr_slices_IndexFunc_Span_22 v284 v285 v286)) = s_slices_IndexFunc_Span_23 cp n p0 q0 (fun v284 v285 v286 => k .ret (fr_slices_IndexFunc_Span_24 v284 v285 v286)) from by kernel_rfl)))
theorem run_slices_IndexFunc_Span {R : Type} (cp : Nat → Nat → Bool) (n : Nat) (p0 : (List SSpan)) (q0 : SSpan) (k : Ret2 RW → Option R) : G_slices_IndexFunc_Span cp (n + 1) p0 q0 (fun r0 r1 => k ⟨(tL r0), [(eSpan r1)], []⟩) = run2 U cp (callP cp n) n fn_slices_IndexFunc_Span [.row false (.rSpan p0), .clo 63 [(19, 0)]] [(eSpan q0)] k := ((X_run (f := fn_slices_IndexFunc_Span) (av := [.row false (.rSpan p0), .clo 63 [(19, 0)]]) (cells := [(eSpan q0)]) (code := i_slices_IndexFunc_Span_6) (fr := (fr_slices_IndexFunc_Span_2 p0 q0)) (k := k) (by kernel_rfl) (fun K => by kernel_rfl)).trans ((s_slices_IndexFunc_Span_25_t cp n p0 q0 (finK2 fn_slices_IndexFunc_Span k)).trans (by kernel_rfl))).symm
/-! tideway/recv.firsts -/
def fr_recv_firsts_2 (p0 : SRecv) (p1 : Int) (p2 : (List Int)) (v249 : (List SSpan)) : FF := [dT 1 ((tL p1) :: (.row false (.ruint8 p2)) :: (dT 4 ((.row false (.rSpan v249)) :: (.row false (.rSpan p0.xFirst)) :: (dT 7 [])))), dc, dc, dc, dc, dc, dc, dc]
def fr_recv_firsts_4 (p0 : SRecv) (p1 : Int) (p2 : (List Int)) (v249 : (List SSpan)) (v250 : Int) : FF := [dT 1 ((tL p1) :: (.row false (.ruint8 p2)) :: (dT 4 ((.row false (.rSpan v249)) :: (.row false (.rSpan p0.xFirst)) :: (tL v250) :: (dT 6 [])))), dc, dc, dc, dc, dc, dc, dc]
def fr_recv_firsts_6 (p0 : SRecv) (p1 : Int) (p2 : (List Int)) (v249 : (List SSpan)) (v252 : Int) : FF := [dT 1 ((tL p1) :: (.row false (.ruint8 p2)) :: (dT 4 ((.row false (.rSpan v249)) :: (.row false (.rSpan p0.xFirst)) :: (tL v252) :: (dT 6 [])))), dc, dc, dc, dc, dc, dc, dc]
def fr_recv_firsts_7 (v249 v253 : (List SSpan)) : FF := [dT 7 ((.row false (.rSpan v249)) :: (.row false (.rSpan v253)) :: (dT 7 [])), dc, dc, dc, dc, dc, dc, dc]
def fr_recv_firsts_8 (p0 : SRecv) (p1 : Int) (p2 : (List Int)) (v249 : (List SSpan)) (v251 : Int) : FF := [dT 1 ((tL p1) :: (.row false (.ruint8 p2)) :: (dT 4 ((.row false (.rSpan v249)) :: (.row false (.rSpan p0.xFirst)) :: (tL v251) :: (dT 6 [])))), dc, dc, dc, dc, dc, dc, dc]
theorem s_recv_firsts_5_t {R : Type} (cp : Nat → Nat → Bool) (n : Nat) (p0 : SRecv) (p1 : Int) (p2 : (List Int)) (v249 : (List SSpan)) (v251 : Int) (k : Ex → FF → Option R) : X cp n i_recv_firsts_0 (fr_recv_firsts_8 p0 p1 p2 v249 v251) k = s_recv_firsts_5 cp n p0 p1 p2 v249 v251 (fun v252 => k .norm (fr_recv_firsts_6 p0 p1 p2 v249 v252)) (fun v253 => k (.exit 0) (fr_recv_firsts_7 v249 v253)) := by kernel_rfl
def fr_recv_firsts_9 (v249 v254 : (List SSpan)) : FF := [dT 7 ((.row false (.rSpan v249)) :: (.row false (.rSpan v254)) :: (dT 7 [])), dc, dc, dc, dc, dc, dc, dc]
theorem l_recv_firsts_10_t {R : Type} (cp : Nat → Nat → Bool) (n : Nat) : ∀ (m : Nat) (p0 : SRecv) (p1 : Int) (p2 : (List Int)) (v249 : (List SSpan)) (v251 : Int) (k : Ex → FF → Option R), loopN2 (X cp n i_recv_firsts_0) m (fr_recv_firsts_8 p0 p1 p2 v249 v251) k = l_recv_firsts_10 cp n m p0 p1 p2 v249 v251 (fun v254 => k (.exit 0) (fr_recv_firsts_9 v249 v254))
  | 0, _, _, _, _, _, _ => rfl
  | m + 1, p0, p1, p2, v249, v251, k => (loopN2_succ (X cp n i_recv_firsts_0) m (fr_recv_firsts_8 p0 p1 p2 v249 v251) k).trans ((s_recv_firsts_5_t cp n p0 p1 p2 v249 v251 (loopT (X cp n i_recv_firsts_0) m k)).trans ((show s_recv_firsts_5 cp n p0 p1 p2 v249 v251 (fun v252 => loopT (X cp n i_recv_firsts_0) m k .norm (fr_recv_firsts_6 p0 p1 p2 v249 v252)) (fun v253 => loopT (X cp n i_recv_firsts_0) m k (.exit 0) (fr_recv_firsts_7 v249 v253)) = s_recv_firsts_5 cp n p0 p1 p2 v249 v251 (fun v252 => loopN2 (X cp n i_recv_firsts_0) m (fr_recv_firsts_8 p0 p1 p2 v249 v252) k) (fun v253 => k (.exit 0) (fr_recv_firsts_9 v249 v253)) from by kernel_rfl).trans (congrArg (fun q => s_recv_firsts_5 cp n p0 p1 p2 v249 v251 q (fun v253 => k (.exit 0) (fr_recv_firsts_9 v249 v253))) (funext fun v252 => l_recv_firsts_10_t cp n m p0 p1 p2 v249 v252 k))))
theorem s_recv_firsts_11_t {R : Type} (cp : Nat → Nat → Bool) (n : Nat) (p0 : SRecv) (p1 : Int) (p2 : (List Int)) (v249 : (List SSpan)) (v250 : Int) (k : Ex → FF → Option R) : X cp n i_recv_firsts_1 (fr_recv_firsts_4 p0 p1 p2 v249 v250) k = s_recv_firsts_11 cp n p0 p1 p2 v249 v250 (fun v254 => k (.exit 0) (fr_recv_firsts_9 v249 v254)) := (show X cp n i_recv_firsts_1 (fr_recv_firsts_4 p0 p1 p2 v249 v250) k = loopN2 (X cp n i_recv_firsts_0) n (fr_recv_firsts_8 p0 p1 p2 v249 v250) k from by kernel_rfl).trans (l_recv_firsts_10_t cp n n p0 p1 p2 v249 v250 k)
def fr_recv_firsts_12 (v249 v255 : (List SSpan)) : FF := [dT 7 ((.row false (.rSpan v249)) :: (.row false (.rSpan v255)) :: (dT 7 [])), dc, dc, dc, dc, dc, dc, dc]
theorem s_recv_firsts_13_t {R : Type} (cp : Nat → Nat → Bool) (n : Nat) (p0 : SRecv) (p1 : Int) (p2 : (List Int)) (v249 : (List SSpan)) (v250 : Int) (k : Ex → FF → Option R) : X cp n i_recv_firsts_2 (fr_recv_firsts_4 p0 p1 p2 v249 v250) k = s_recv_firsts_13 cp n p0 p1 p2 v249 v250 (fun v255 => k .norm (fr_recv_firsts_12 v249 v255)) := (show X cp n i_recv_firsts_2 (fr_recv_firsts_4 p0 p1 p2 v249 v250) k = X cp n i_recv_firsts_1 (fr_recv_firsts_4 p0 p1 p2 v249 v250) (blkT 0 k) from by kernel_rfl).trans ((s_recv_firsts_11_t cp n p0 p1 p2 v249 v250 (blkT 0 k)).trans (by kernel_rfl))
def fr_recv_firsts_14 (v249 v256 : (List SSpan)) : FF := [dT 7 ((.row false (.rSpan v249)) :: (.row false (.rSpan v256)) :: (dT 7 [])), dc, dc, dc, dc, dc, dc, dc]
theorem s_recv_firsts_15_t {R : Type} (cp : Nat → Nat → Bool) (n : Nat) (p0 : SRecv) (p1 : Int) (p2 : (List Int)) (v249 : (List SSpan)) (k : Ex → FF → Option R) : X cp n i_recv_firsts_3 (fr_recv_firsts_2 p0 p1 p2 v249) k = s_recv_firsts_15 cp n p0 p1 p2 v249 (fun v256 => k .norm (fr_recv_firsts_14 v249 v256)) := ((fun c => (show X cp n (.seq (.fin (.reg g_recv_firsts_3) [19, 20, 21] []) c) (fr_recv_firsts_2 p0 p1 p2 v249) k = s_recv_firsts_3 cp n p0 p1 p2 v249 (fun v250 => X cp n c (fr_recv_firsts_4 p0 p1 p2 v249 v250) k) from by kernel_rfl)) i_recv_firsts_2).trans (congrArg (fun q => s_recv_firsts_3 cp n p0 p1 p2 v249 q) (funext fun v250 => (s_recv_firsts_13_t cp n p0 p1 p2 v249 v250 k).trans (show s_recv_firsts_13 cp n p0 p1 p2 v249 v250 (fun v255 => k .norm (fr_recv_firsts_12 v249 v255)) = s_recv_firsts_13 cp n p0 p1 p2 v249 v250 (fun v255 => k .norm (fr_recv_firsts_14 v249 v255)) from by kernel_rfl)))
def fr_recv_firsts_17 (v249 v256 : (List SSpan)) : FF := [dT 7 ((.row false (.rSpan v249)) :: (.row false (.rSpan v256)) :: (dT 1 ((.row true (.rSpan [])) :: (dT 5 [])))), dc, dc, dc, dc, dc, dc, dc]
def fr_recv_firsts_19 (v249 v256 : (List SSpan)) (v257 : Int) : FF := [dT 7 ((.row false (.rSpan v249)) :: (dT 2 ((.row true (.rSpan [])) :: (dT 5 [])))), dc, dc, dT 9 ((.row false (.rSpan v256)) :: (tL v257) :: (tL 0) :: (dT 4 [])), dc, dc, dc, dc]
def fr_recv_firsts_21 (v249 v256 : (List SSpan)) (v257 : Int) (v263 : (List SSpan)) (v264 : Int) : FF := [dT 7 ((.row false (.rSpan v249)) :: (dT 2 ((.row true (.rSpan v263)) :: (dT 5 [])))), dc, dc, dT 9 ((.row false (.rSpan v256)) :: (tL v257) :: (tL v264) :: (dT 4 [])), dc, dc, dc, dc]
def fr_recv_firsts_22 (v258 : (List SSpan)) : FF := [dT 10 ((.row true (.rSpan v258)) :: (dT 5 [])), dc, dc, dc, dc, dc, dc, dc]
def fr_recv_firsts_23 (v249 v256 : (List SSpan)) (v257 : Int) (v258 : (List SSpan)) (v259 : Int) : FF := [dT 7 ((.row false (.rSpan v249)) :: (dT 2 ((.row true (.rSpan v258)) :: (dT 5 [])))), dc, dc, dT 9 ((.row false (.rSpan v256)) :: (tL v257) :: (tL v259) :: (dT 4 [])), dc, dc, dc, dc]
theorem s_recv_firsts_20_t {R : Type} (cp : Nat → Nat → Bool) (n : Nat) (v249 v256 : (List SSpan)) (v257 : Int) (v258 : (List SSpan)) (v259 : Int) (k : Ex → FF → Option R) : X cp n i_recv_firsts_4 (fr_recv_firsts_23 v249 v256 v257 v258 v259) k = s_recv_firsts_20 cp n v249 v256 v257 v258 v259 (fun v263 v264 => k .norm (fr_recv_firsts_21 v249 v256 v257 v263 v264)) (k (.exit 2) (fr_recv_firsts_22 v258)) := by kernel_rfl
def fr_recv_firsts_24 (v265 : (List SSpan)) : FF := [dT 10 ((.row true (.rSpan v265)) :: (dT 5 [])), dc, dc, dc, dc, dc, dc, dc]
theorem l_recv_firsts_25_t {R : Type} (cp : Nat → Nat → Bool) (n : Nat) : ∀ (m : Nat) (v249 v256 : (List SSpan)) (v257 : Int) (v258 : (List SSpan)) (v259 : Int) (k : Ex → FF → Option R), loopN2 (X cp n i_recv_firsts_4) m (fr_recv_firsts_23 v249 v256 v257 v258 v259) k = l_recv_firsts_25 cp n m v249 v256 v257 v258 v259 (fun v265 => k (.exit 2) (fr_recv_firsts_24 v265))
  | 0, _, _, _, _, _, _ => rfl
  | m + 1, v249, v256, v257, v258, v259, k => (loopN2_succ (X cp n i_recv_firsts_4) m (fr_recv_firsts_23 v249 v256 v257 v258 v259) k).trans ((s_recv_firsts_20_t cp n v249 v256 v257 v258 v259 (loopT (X cp n i_recv_firsts_4) m k)).trans ((show s_recv_firsts_20 cp n v249 v256 v257 v258 v259 (fun v263 v264 => loopT (X cp n i_recv_firsts_4) m k .norm (fr_recv_firsts_21 v249 v256 v257 v263 v264)) (loopT (X cp n i_recv_firsts_4) m k (.exit 2) (fr_recv_firsts_22 v258)) = s_recv_firsts_20 cp n v249 v256 v257 v258 v259 (fun v263 v264 => loopN2 (X cp n i_recv_firsts_4) m (fr_recv_firsts_23 v249 v256 v257 v263 v264) k) (k (.exit 2) (fr_recv_firsts_24 v258)) from by kernel_rfl).trans (congrArg (fun q => s_recv_firsts_20 cp n v249 v256 v257 v258 v259 q (k (.exit 2) (fr_recv_firsts_24 v258))) (funext fun v263 => funext fun v264 => l_recv_firsts_25_t cp n m v249 v256 v257 v263 v264 k))))
theorem s_recv_firsts_26_t {R : Type} (cp : Nat → Nat → Bool) (n : Nat) (v249 v256 : (List SSpan)) (v257 : Int) (k : Ex → FF → Option R) : X cp n i_recv_firsts_5 (fr_recv_firsts_19 v249 v256 v257) k = s_recv_firsts_26 cp n v249 v256 v257 (fun v265 => k (.exit 2) (fr_recv_firsts_24 v265)) := (show X cp n i_recv_firsts_5 (fr_recv_firsts_19 v249 v256 v257) k = loopN2 (X cp n i_recv_firsts_4) n (fr_recv_firsts_23 v249 v256 v257 [] 0) k from by kernel_rfl).trans (l_recv_firsts_25_t cp n n v249 v256 v257 [] 0 k)
def fr_recv_firsts_27 (v266 : (List SSpan)) : FF := [dT 10 ((.row true (.rSpan v266)) :: (dT 5 [])), dc, dc, dc, dc, dc, dc, dc]
theorem s_recv_firsts_28_t {R : Type} (cp : Nat → Nat → Bool) (n : Nat) (v249 v256 : (List SSpan)) (v257 : Int) (k : Ex → FF → Option R) : X cp n i_recv_firsts_6 (fr_recv_firsts_19 v249 v256 v257) k = s_recv_firsts_28 cp n v249 v256 v257 (fun v266 => k .norm (fr_recv_firsts_27 v266)) := (show X cp n i_recv_firsts_6 (fr_recv_firsts_19 v249 v256 v257) k = X cp n i_recv_firsts_5 (fr_recv_firsts_19 v249 v256 v257) (blkT 2 k) from by kernel_rfl).trans ((s_recv_firsts_26_t cp n v249 v256 v257 (blkT 2 k)).trans (by kernel_rfl))
def fr_recv_firsts_29 (v267 : (List SSpan)) : FF := [dT 10 ((.row true (.rSpan v267)) :: (dT 5 [])), dc, dc, dc, dc, dc, dc, dc]
theorem s_recv_firsts_30_t {R : Type} (cp : Nat → Nat → Bool) (n : Nat) (v249 v256 : (List SSpan)) (k : Ex → FF → Option R) : X cp n i_recv_firsts_7 (fr_recv_firsts_17 v249 v256) k = s_recv_firsts_30 cp n v249 v256 (fun v267 => k .norm (fr_recv_firsts_29 v267)) := ((fun c => (show X cp n (.seq (.fin (.reg g_recv_firsts_9) [8] []) c) (fr_recv_firsts_17 v249 v256) k = s_recv_firsts_18 cp n v249 v256 (fun v257 => X cp n c (fr_recv_firsts_19 v249 v256 v257) k) from by kernel_rfl)) i_recv_firsts_6).trans (congrArg (fun q => s_recv_firsts_18 cp n v249 v256 q) (funext fun v257 => (s_recv_firsts_28_t cp n v249 v256 v257 k).trans (show s_recv_firsts_28 cp n v249 v256 v257 (fun v266 => k .norm (fr_recv_firsts_27 v266)) = s_recv_firsts_28 cp n v249 v256 v257 (fun v266 => k .norm (fr_recv_firsts_29 v266)) from by kernel_rfl)))
def fr_recv_firsts_32 (v267 : (List SSpan)) : FF := [dT 6 ((.row true (.rSpan v267)) :: (dT 9 [])), dc, dc, dc, dc, dc, dc, dc]
theorem s_recv_firsts_31_t {R : Type} (cp : Nat → Nat → Bool) (n : Nat) (v267 : (List SSpan)) (k : Ex → FF → Option R) : X cp n i_recv_firsts_8 (fr_recv_firsts_29 v267) k = s_recv_firsts_31 cp n v267 (k .ret (fr_recv_firsts_32 v267)) := by kernel_rfl
def fr_recv_firsts_33 (v268 : (List SSpan)) : FF := [dT 6 ((.row true (.rSpan v268)) :: (dT 9 [])), dc, dc, dc, dc, dc, dc, dc]
theorem s_recv_firsts_34_t {R : Type} (cp : Nat → Nat → Bool) (n : Nat) (v249 v256 : (List SSpan)) (k : Ex → FF → Option R) : X cp n i_recv_firsts_9 (fr_recv_firsts_17 v249 v256) k = s_recv_firsts_34 cp n v249 v256 (fun v268 => k .ret (fr_recv_firsts_33 v268)) := (show X cp n i_recv_firsts_9 (fr_recv_firsts_17 v249 v256) k = X cp n i_recv_firsts_7 (fr_recv_firsts_17 v249 v256) (seqT (X cp n) i_recv_firsts_8 k) from by kernel_rfl).trans ((show X cp n i_recv_firsts_7 (fr_recv_firsts_17 v249 v256) (seqT (X cp n) i_recv_firsts_8 k) = s_recv_firsts_30 cp n v249 v256 (fun v267 => X cp n i_recv_firsts_8 (fr_recv_firsts_29 v267) k) from (s_recv_firsts_30_t cp n v249 v256 (seqT (X cp n) i_recv_firsts_8 k)).trans (by kernel_rfl)).trans (congrArg (fun q => s_recv_firsts_30 cp n v249 v256 q) (funext fun v267 => (s_recv_firsts_31_t cp n v267 k).trans (show s_recv_firsts_31 cp n v267 (k .ret (fr_recv_firsts_32 v267)) = s_recv_firsts_31 cp n v267 (k .ret (fr_recv_firsts_33 v267)) from by kernel_rfl))))
def fr_recv_firsts_35 (v269 : (List SSpan)) : FF := [dT 6 ((.row true (.rSpan v269)) :: (dT 9 [])), dc, dc, dc, dc, dc, dc, dc]
theorem s_recv_firsts_36_t {R : Type} (cp : Nat → Nat → Bool) (n : Nat) (v249 v256 : (List SSpan)) (k : Ex → FF → Option R) : X cp n i_recv_firsts_10 (fr_recv_firsts_14 v249 v256) k = s_recv_firsts_36 cp n v249 v256 (fun v269 => k .ret (fr_recv_firsts_35 v269)) := ((fun c => (show X cp n (.seq (.reg g_recv_firsts_8) c) (fr_recv_firsts_14 v249 v256) k = s_recv_firsts_16 cp n v249 v256 (X cp n c (fr_recv_firsts_17 v249 v256) k) from by kernel_rfl)) i_recv_firsts_9).trans (congrArg (fun q => s_recv_firsts_16 cp n v249 v256 q) ((s_recv_firsts_34_t cp n v249 v256 k).trans (show s_recv_firsts_34 cp n v249 v256 (fun v268 => k .ret (fr_recv_firsts_33 v268)) = s_recv_firsts_34 cp n v249 v256 (fun v268 => k .ret (fr_recv_firsts_35 v268)) from by kernel_rfl)))
def fr_recv_firsts_37 (v270 : (List SSpan)) : FF := [dT 6 ((.row true (.rSpan v270)) :: (dT 9 [])), dc, dc, dc, dc, dc, dc, dc]
theorem s_recv_firsts_38_t {R : Type} (cp : Nat → Nat → Bool) (n : Nat) (p0 : SRecv) (p1 : Int) (p2 : (List Int)) (v249 : (List SSpan)) (k : Ex → FF → Option R) : X cp n i_recv_firsts_11 (fr_recv_firsts_2 p0 p1 p2 v249) k = s_recv_firsts_38 cp n p0 p1 p2 v249 (fun v270 => k .ret (fr_recv_firsts_37 v270)) := (show X cp n i_recv_firsts_11 (fr_recv_firsts_2 p0 p1 p2 v249) k = X cp n i_recv_firsts_3 (fr_recv_firsts_2 p0 p1 p2 v249) (seqT (X cp n) i_recv_firsts_10 k) from by kernel_rfl).trans ((show X cp n i_recv_firsts_3 (fr_recv_firsts_2 p0 p1 p2 v249) (seqT (X cp n) i_recv_firsts_10 k) = s_recv_firsts_15 cp n p0 p1 p2 v249 (fun v256 => X cp n i_recv_firsts_10 (fr_recv_firsts_14 v249 v256) k) from (s_recv_firsts_15_t cp n p0 p1 p2 v249 (seqT (X cp n) i_recv_firsts_10 k)).trans (by kernel_rfl)).trans (congrArg (fun q => s_recv_firsts_15 cp n p0 p1 p2 v249 q) (funext fun v256 => (s_recv_firsts_36_t cp n v249 v256 k).trans (show s_recv_firsts_36 cp n v249 v256 (fun v269 => k .ret (fr_recv_firsts_35 v269)) = s_recv_firsts_36 cp n v249 v256 (fun v269 => k .ret (fr_recv_firsts_37 v269)) from by kernel_rfl))))
def fr_recv_firsts_39 (v271 : (List SSpan)) : FF := [dT 6 ((.row true (.rSpan v271)) :: (dT 9 [])), dc, dc, dc, dc, dc, dc, dc]
def fr_recv_firsts_41 (p0 : SRecv) (p1 : Int) (p2 : (List Int)) : FF := [(.agg (eRecv p0)) :: (tL p1) :: (.row false (.ruint8 p2)) :: (dT 13 []), dc, dc, dc, dc, dc, dc, dc]
theorem s_recv_firsts_40_t {R : Type} (cp : Nat → Nat → Bool) (n : Nat) (p0 : SRecv) (p1 : Int) (p2 : (List Int)) (k : Ex → FF → Option R) : X cp n i_recv_firsts_12 (fr_recv_firsts_41 p0 p1 p2) k = s_recv_firsts_40 cp n p0 p1 p2 (fun v271 => k .ret (fr_recv_firsts_39 v271)) := ((fun c => (show X cp n (.seq (.fin (.reg g_recv_firsts_0) [0, 6] []) (.seq (.fin (.reg g_recv_firsts_1) [14, 15, 16] [(105, 15)]) (.seq (.fin (.reg g_recv_firsts_2) [3, 17, 18] [(86, 15)]) c))) (fr_recv_firsts_41 p0 p1 p2) k = s_recv_firsts_1 cp n p0 p1 p2 (fun v249 => X cp n c (fr_recv_firsts_2 p0 p1 p2 v249) k) from by kernel_rfl)) i_recv_firsts_11).trans (congrArg (fun q => s_recv_firsts_1 cp n p0 p1 p2 q) (funext fun v249 => (s_recv_firsts_38_t cp n p0 p1 p2 v249 k).trans (show s_recv_firsts_38 cp n p0 p1 p2 v249 (fun v270 => k .ret (fr_recv_firsts_37 v270)) = s_recv_firsts_38 cp n p0 p1 p2 v249 (fun v270 => k .ret (fr_recv_firsts_39 v270)) from by kernel_rfl)))
theorem run_recv_firsts {R : Type} (cp : Nat → Nat → Bool) (n : Nat) (p0 : SRecv) (p1 : Int) (p2 : (List Int)) (k : Ret2 RW → Option R) : G_recv_firsts cp (n + 1) p0 p1 p2 (fun r0 => k ⟨.row true (.rSpan r0), [], []⟩) = run2 U cp (callP cp n) n fn_recv_firsts [.agg (eRecv p0), (tL p1), .row false (.ruint8 p2)] [] k := ((X_run (f := fn_recv_firsts) (av := [.agg (eRecv p0), (tL p1), .row false (.ruint8 p2)]) (cells := []) (code := i_recv_firsts_12) (fr := (fr_recv_firsts_41 p0 p1 p2)) (k := k) (by kernel_rfl) (fun K => by kernel_rfl)).trans ((s_recv_firsts_40_t cp n p0 p1 p2 (finK2 fn_recv_firsts k)).trans (by kernel_rfl))).symm
/-! tideway/recv.Input -/
def fr_recv_Input_2 (p1 : SSegment) (v19 : Int) (v20 : SRecv) : FF := [dT 2 ((.ptr 140 0) :: (.ptr 156 0) :: (.ptr 172 0) :: (.ptr 188 0) :: (dT 3 ((tL v19) :: (dT 6 [])))), dc, dc, dc, dc, dc, dc, dc, dT 12 ((.hdr 15) :: (sl 0 3 (eRecvt v20))), sl 3 12 (eRecvt v20) ++ ((.hdr 15) :: (sl 0 3 (eSegment p1))), sl 3 12 (eSegment p1) ++ [.hdr 15, (tL 0), .row false (.ruint8 []), .row false (.rPiece [])], [(tL 0), (tL 0), (tL 0), (tI .u32 0), (tB false), (tB false), (tL 0), (tB false), .row false (.rSpan []), (tI .u32 0), (tI .u32 0), (tB false), .hdr 15, (tL 0), (tL 0), (tI .u32 0)], (tI .u32 0) :: (tL 0) :: (tL 0) :: (tL 0) :: (tL 0) :: (tL 0) :: (tB false) :: (tB false) :: (tI .u32 0) :: (tI .u32 0) :: (.row false (.rBlock [])) :: (.row false (.ruint8 [])) :: (dT 4 []), dc, dc, dc]
def fr_recv_Input_3 (v21 : Int) (v22 : SRecv) : FF := [dT 4 ((.ptr 172 0) :: (.ptr 188 0) :: (tB false) :: (tL v21) :: (dT 8 [])), dc, dc, dc, dc, dc, dc, dc, dc, dc, dT 12 ((.hdr 15) :: (sl 0 3 (eRecv v22))), sl 3 12 (eRecv v22) ++ [.hdr 15, (tL 0), (tL 0), (tI .u32 0)], (tI .u32 0) :: (tL 0) :: (tL 0) :: (tL 0) :: (tL 0) :: (tL 0) :: (tB false) :: (tB false) :: (tI .u32 0) :: (tI .u32 0) :: (.row false (.rBlock [])) :: (.row false (.ruint8 [])) :: (dT 4 []), dc, dc, dc]
def fr_recv_Input_5 (v26 : SRecv) (v27 : SSegment) : FF := [dT 4 ((.ptr 172 0) :: (.ptr 188 0) :: (tB true) :: (tL 0) :: (dT 8 [])), dc, dc, dc, dc, dc, dc, dc, dc, dc, dT 12 ((.hdr 15) :: (sl 0 3 (eRecv v26))), sl 3 12 (eRecv v26) ++ ((.hdr 15) :: (sl 0 3 (eSegment v27))), sl 3 12 (eSegment v27) ++ (dT 4 []), dc, dc, dc]
def fr_recv_Input_7 (p1 : SSegment) (v19 : Int) (v20 : SRecv) (v28 : Int) (v29 : Bool) : FF := [dT 2 ((.ptr 140 0) :: (.ptr 156 0) :: (.ptr 172 0) :: (.ptr 188 0) :: (dT 3 ((tL v19) :: (dT 6 [])))), dc, dc, dc, dc, dc, dc, dc, dT 12 ([.hdr 15, (tL v20.xNext), .row true (.ruint8 v20.xUnread), .row true (.rPiece v20.xLate)]), (tL v20.xCap) :: (tL v20.xShift) :: (tL v20.xEdge) :: (tI .u32 v28) :: (tB v20.xStamps) :: (tB v20.xSacks) :: (tL v20.xFin) :: (tB v20.xDone) :: (.row true (.rSpan v20.xFirst)) :: (tI .u32 v20.xIrs) :: (tI .u32 v20.xOwn) :: (tB v29) :: (.hdr 15) :: (sl 0 3 (eSegment p1)), sl 3 12 (eSegment p1) ++ [.hdr 15, (tL 0), .row false (.ruint8 []), .row false (.rPiece [])], [(tL 0), (tL 0), (tL 0), (tI .u32 0), (tB false), (tB false), (tL 0), (tB false), .row false (.rSpan []), (tI .u32 0), (tI .u32 0), (tB false), .hdr 15, (tL 0), (tL 0), (tI .u32 0)], (tI .u32 0) :: (tL 0) :: (tL 0) :: (tL 0) :: (tL 0) :: (tL 0) :: (tB false) :: (tB false) :: (tI .u32 0) :: (tI .u32 0) :: (.row false (.rBlock [])) :: (.row false (.ruint8 [])) :: (dT 4 []), dc, dc, dc]
def fr_recv_Input_9 (p1 : SSegment) (v19 : Int) (v41 : Bool) (v42 : SRecv) : FF := [dT 2 ((.ptr 140 0) :: (.ptr 156 0) :: (.ptr 172 0) :: (.ptr 188 0) :: (dT 3 ((tL v19) :: (dT 2 ((tB v41) :: (dT 3 [])))))), dc, dc, dc, dc, dc, dc, dc, dT 12 ([.hdr 15, (tL v42.xNext), .row true (.ruint8 v42.xUnread), .row false (.rPiece v42.xLate)]), (tL v42.xCap) :: (tL v42.xShift) :: (tL v42.xEdge) :: (tI .u32 v42.xRecent) :: (tB v42.xStamps) :: (tB v42.xSacks) :: (tL v42.xFin) :: (tB v42.xDone) :: (.row true (.rSpan v42.xFirst)) :: (tI .u32 v42.xIrs) :: (tI .u32 v42.xOwn) :: (tB v42.xStamp) :: (.hdr 15) :: (sl 0 3 (eSegment p1)), sl 3 12 (eSegment p1) ++ [.hdr 15, (tL 0), .row false (.ruint8 []), .row false (.rPiece [])], [(tL 0), (tL 0), (tL 0), (tI .u32 0), (tB false), (tB false), (tL 0), (tB false), .row false (.rSpan []), (tI .u32 0), (tI .u32 0), (tB false), .hdr 15, (tL 0), (tL 0), (tI .u32 0)], (tI .u32 0) :: (tL 0) :: (tL 0) :: (tL 0) :: (tL 0) :: (tL 0) :: (tB false) :: (tB false) :: (tI .u32 0) :: (tI .u32 0) :: (.row false (.rBlock [])) :: (.row false (.ruint8 [])) :: (dT 4 []), dc, dc, dc]
def fr_recv_Input_11 (p1 : SSegment) (v19 : Int) (v41 : Bool) (v42 : SRecv) (v45 : (List SSpan)) : FF := [dT 2 ((.ptr 140 0) :: (.ptr 156 0) :: (.ptr 172 0) :: (.ptr 188 0) :: (dT 3 ((tL v19) :: (dT 2 ((tB v41) :: (.row true (.rBlock [])) :: (dT 2 [])))))), dc, dc, dc, dc, dc, dc, dc, dT 12 ([.hdr 15, (tL v42.xNext), .row true (.ruint8 v42.xUnread), .row false (.rPiece v42.xLate)]), (tL v42.xCap) :: (tL v42.xShift) :: (tL v42.xEdge) :: (tI .u32 v42.xRecent) :: (tB v42.xStamps) :: (tB v42.xSacks) :: (tL v42.xFin) :: (tB v42.xDone) :: (.row true (.rSpan v45)) :: (tI .u32 v42.xIrs) :: (tI .u32 v42.xOwn) :: (tB v42.xStamp) :: (.hdr 15) :: (sl 0 3 (eSegment p1)), sl 3 12 (eSegment p1) ++ [.hdr 15, (tL 0), .row false (.ruint8 []), .row false (.rPiece [])], [(tL 0), (tL 0), (tL 0), (tI .u32 0), (tB false), (tB false), (tL 0), (tB false), .row false (.rSpan []), (tI .u32 0), (tI .u32 0), (tB false), .hdr 15, (tL 0), (tL 0), (tI .u32 0)], (tI .u32 0) :: (tL 0) :: (tL 0) :: (tL 0) :: (tL 0) :: (tL 0) :: (tB false) :: (tB false) :: (tI .u32 0) :: (tI .u32 0) :: (.row false (.rBlock [])) :: (.row false (.ruint8 [])) :: (dT 4 []), dc, dc, dc]
def fr_recv_Input_13 (v42 : SRecv) (v45 : (List SSpan)) (v47 : (List SBlock)) : FF := [dT 2 ((.ptr 140 0) :: (dT 1 ((.ptr 172 0) :: (.ptr 188 0) :: (dT 7 ((.row true (.rBlock v47)) :: (dT 2 [])))))), dc, dc, dc, dc, dc, dc, dc, dT 12 ([.hdr 15, (tL v42.xNext), .row true (.ruint8 v42.xUnread), .row false (.rPiece v42.xLate)]), (tL v42.xCap) :: (tL v42.xShift) :: (tL v42.xEdge) :: (tI .u32 v42.xRecent) :: (tB v42.xStamps) :: (tB v42.xSacks) :: (tL v42.xFin) :: (tB v42.xDone) :: (.row true (.rSpan v45)) :: (tI .u32 v42.xIrs) :: (tI .u32 v42.xOwn) :: (tB v42.xStamp) :: (dT 4 []), dT 12 ([.hdr 15, (tL 0), .row false (.ruint8 []), .row false (.rPiece [])]), [(tL 0), (tL 0), (tL 0), (tI .u32 0), (tB false), (tB false), (tL 0), (tB false), .row false (.rSpan []), (tI .u32 0), (tI .u32 0), (tB false), .hdr 15, (tL 0), (tL 0), (tI .u32 0)], (tI .u32 0) :: (tL 0) :: (tL 0) :: (tL 0) :: (tL 0) :: (tL 0) :: (tB false) :: (tB false) :: (tI .u32 0) :: (tI .u32 0) :: (.row false (.rBlock [])) :: (.row false (.ruint8 [])) :: (dT 4 []), dc, dc, dc]
def fr_recv_Input_15 (v50 : SRecv) (v51 : SSegment) : FF := [dT 4 ((.ptr 172 0) :: (.ptr 188 0) :: (tB true) :: (tL 0) :: (dT 8 [])), dc, dc, dc, dc, dc, dc, dc, dc, dc, dT 12 ((.hdr 15) :: (sl 0 3 (eRecv v50))), sl 3 12 (eRecv v50) ++ ((.hdr 15) :: (sl 0 3 (eSegment v51))), sl 3 12 (eSegment v51) ++ (dT 4 []), dc, dc, dc]
theorem s_recv_Input_14_t {R : Type} (cp : Nat → Nat → Bool) (n : Nat) (v42 : SRecv) (v45 : (List SSpan)) (v47 : (List SBlock)) (k : Ex → FF → Option R) : X cp n i_recv_Input_0 (fr_recv_Input_13 v42 v45 v47) k = s_recv_Input_14 cp n v42 v45 v47 (fun v50 v51 => k .ret (fr_recv_Input_15 v50 v51)) := by kernel_rfl
def fr_recv_Input_16 (v52 : SRecv) (v53 : SSegment) : FF := [dT 4 ((.ptr 172 0) :: (.ptr 188 0) :: (tB true) :: (tL 0) :: (dT 8 [])), dc, dc, dc, dc, dc, dc, dc, dc, dc, dT 12 ((.hdr 15) :: (sl 0 3 (eRecv v52))), sl 3 12 (eRecv v52) ++ ((.hdr 15) :: (sl 0 3 (eSegment v53))), sl 3 12 (eSegment v53) ++ (dT 4 []), dc, dc, dc]
theorem s_recv_Input_17_t {R : Type} (cp : Nat → Nat → Bool) (n : Nat) (p1 : SSegment) (v19 : Int) (v41 : Bool) (v42 : SRecv) (v45 : (List SSpan)) (k : Ex → FF → Option R) : X cp n i_recv_Input_1 (fr_recv_Input_11 p1 v19 v41 v42 v45) k = s_recv_Input_17 cp n p1 v19 v41 v42 v45 (fun v52 v53 => k .ret (fr_recv_Input_16 v52 v53)) := ((fun c => (show X cp n (.seq (.seq (.fin (.reg g_recv_Input_19) [9, 12, 106, 107, 108, 109, 110, 111, 112, 113, 114, 115, 116, 117, 118, 119, 120] []) (.fin (.cond (.s 121) (.fin (.reg g_recv_Input_20) [3, 121, 122, 123, 124, 125, 126, 127, 128, 129, 130, 131] [(156, 15)]) (.skip)) [3, 121] [(156, 15)])) c) (fr_recv_Input_11 p1 v19 v41 v42 v45) k = s_recv_Input_12 cp n p1 v19 v41 v42 v45 (fun v47 => X cp n c (fr_recv_Input_13 v42 v45 v47) k) from by kernel_rfl)) i_recv_Input_0).trans (congrArg (fun q => s_recv_Input_12 cp n p1 v19 v41 v42 v45 q) (funext fun v47 => (s_recv_Input_14_t cp n v42 v45 v47 k).trans (show s_recv_Input_14 cp n v42 v45 v47 (fun v50 v51 => k .ret (fr_recv_Input_15 v50 v51)) = s_recv_Input_14 cp n v42 v45 v47 (fun v50 v51 => k .ret (fr_recv_Input_16 v50 v51)) from by kernel_rfl)))
def fr_recv_Input_18 (v54 : SRecv) (v55 : SSegment) : FF := [dT 4 ((.ptr 172 0) :: (.ptr 188 0) :: (tB true) :: (tL 0) :: (dT 8 [])), dc, dc, dc, dc, dc, dc, dc, dc, dc, dT 12 ((.hdr 15) :: (sl 0 3 (eRecv v54))), sl 3 12 (eRecv v54) ++ ((.hdr 15) :: (sl 0 3 (eSegment v55))), sl 3 12 (eSegment v55) ++ (dT 4 []), dc, dc, dc]
theorem s_recv_Input_19_t {R : Type} (cp : Nat → Nat → Bool) (n : Nat) (p1 : SSegment) (v19 : Int) (v41 : Bool) (v42 : SRecv) (k : Ex → FF → Option R) : X cp n i_recv_Input_2 (fr_recv_Input_9 p1 v19 v41 v42) k = s_recv_Input_19 cp n p1 v19 v41 v42 (fun v54 v55 => k .ret (fr_recv_Input_18 v54 v55)) := ((fun c => (show X cp n (.seq (.fin (.reg g_recv_Input_17) [100, 101, 102, 103, 104, 105] []) (.seq (.reg g_recv_Input_18) c)) (fr_recv_Input_9 p1 v19 v41 v42) k = s_recv_Input_10 cp n p1 v19 v41 v42 (fun v45 => X cp n c (fr_recv_Input_11 p1 v19 v41 v42 v45) k) from by kernel_rfl)) i_recv_Input_1).trans (congrArg (fun q => s_recv_Input_10 cp n p1 v19 v41 v42 q) (funext fun v45 => (s_recv_Input_17_t cp n p1 v19 v41 v42 v45 k).trans (show s_recv_Input_17 cp n p1 v19 v41 v42 v45 (fun v52 v53 => k .ret (fr_recv_Input_16 v52 v53)) = s_recv_Input_17 cp n p1 v19 v41 v42 v45 (fun v52 v53 => k .ret (fr_recv_Input_18 v52 v53)) from by kernel_rfl)))
def fr_recv_Input_20 (v56 : SRecv) (v57 : SSegment) : FF := [dT 4 ((.ptr 172 0) :: (.ptr 188 0) :: (tB true) :: (tL 0) :: (dT 8 [])), dc, dc, dc, dc, dc, dc, dc, dc, dc, dT 12 ((.hdr 15) :: (sl 0 3 (eRecv v56))), sl 3 12 (eRecv v56) ++ ((.hdr 15) :: (sl 0 3 (eSegment v57))), sl 3 12 (eSegment v57) ++ (dT 4 []), dc, dc, dc]
theorem s_recv_Input_21_t {R : Type} (cp : Nat → Nat → Bool) (n : Nat) (p1 : SSegment) (v19 : Int) (v20 : SRecv) (v28 : Int) (v29 : Bool) (k : Ex → FF → Option R) : X cp n i_recv_Input_3 (fr_recv_Input_7 p1 v19 v20 v28 v29) k = s_recv_Input_21 cp n p1 v19 v20 v28 v29 (fun v56 v57 => k .ret (fr_recv_Input_20 v56 v57)) := ((fun c => (show X cp n (.seq (.seq (.fin (.reg g_recv_Input_13) [74, 75, 76] []) (.fin (.cond (.s 77) (.fin (.reg g_recv_Input_14) [77, 78, 79, 80, 81, 82, 83, 84, 85] []) (.skip)) [77] [])) (.seq (.fin (.reg g_recv_Input_15) [86, 87, 88, 89, 90, 91, 92, 93] []) (.seq (.fin (.reg g_recv_Input_16) [94, 95, 96, 97, 98, 99] []) c))) (fr_recv_Input_7 p1 v19 v20 v28 v29) k = s_recv_Input_8 cp n p1 v19 v20 v28 v29 (fun v41 v42 => X cp n c (fr_recv_Input_9 p1 v19 v41 v42) k) from by kernel_rfl)) i_recv_Input_2).trans (congrArg (fun q => s_recv_Input_8 cp n p1 v19 v20 v28 v29 q) (funext fun v41 => funext fun v42 => (s_recv_Input_19_t cp n p1 v19 v41 v42 k).trans (show s_recv_Input_19 cp n p1 v19 v41 v42 (fun v54 v55 => k .ret (fr_recv_Input_18 v54 v55)) = s_recv_Input_19 cp n p1 v19 v41 v42 (fun v54 v55 => k .ret (fr_recv_Input_20 v54 v55)) from by kernel_rfl)))
def fr_recv_Input_22 (v58 : SRecv) (v59 : SSegment) : FF := [dT 4 ((.ptr 172 0) :: (.ptr 188 0) :: (tB true) :: (tL 0) :: (dT 8 [])), dc, dc, dc, dc, dc, dc, dc, dc, dc, dT 12 ((.hdr 15) :: (sl 0 3 (eRecv v58))), sl 3 12 (eRecv v58) ++ ((.hdr 15) :: (sl 0 3 (eSegment v59))), sl 3 12 (eSegment v59) ++ (dT 4 []), dc, dc, dc]
theorem s_recv_Input_23_t {R : Type} (cp : Nat → Nat → Bool) (n : Nat) (p1 : SSegment) (v19 : Int) (v20 : SRecv) (k : Ex → FF → Option R) : X cp n i_recv_Input_4 (fr_recv_Input_2 p1 v19 v20) k = s_recv_Input_23 cp n p1 v19 v20 (fun v58 v59 => k .ret (fr_recv_Input_22 v58 v59)) := ((fun c => (show X cp n (.seq (.seq (.fin (.reg g_recv_Input_11) [62, 63, 64, 65, 66, 67, 68] []) (.fin (.cond (.s 69) (.fin (.reg g_recv_Input_12) [69, 70, 71, 72, 73] []) (.skip)) [69] [])) c) (fr_recv_Input_2 p1 v19 v20) k = s_recv_Input_6 cp n p1 v19 v20 (fun v28 v29 => X cp n c (fr_recv_Input_7 p1 v19 v20 v28 v29) k) from by kernel_rfl)) i_recv_Input_3).trans (congrArg (fun q => s_recv_Input_6 cp n p1 v19 v20 q) (funext fun v28 => funext fun v29 => (s_recv_Input_21_t cp n p1 v19 v20 v28 v29 k).trans (show s_recv_Input_21 cp n p1 v19 v20 v28 v29 (fun v56 v57 => k .ret (fr_recv_Input_20 v56 v57)) = s_recv_Input_21 cp n p1 v19 v20 v28 v29 (fun v56 v57 => k .ret (fr_recv_Input_22 v56 v57)) from by kernel_rfl)))
def fr_recv_Input_24 (v60 : SRecv) (v61 : SSegment) : FF := [dT 4 ((.ptr 172 0) :: (.ptr 188 0) :: (tB true) :: (tL 0) :: (dT 8 [])), dc, dc, dc, dc, dc, dc, dc, dc, dc, dT 12 ((.hdr 15) :: (sl 0 3 (eRecv v60))), sl 3 12 (eRecv v60) ++ ((.hdr 15) :: (sl 0 3 (eSegment v61))), sl 3 12 (eSegment v61) ++ (dT 4 []), dc, dc, dc]
theorem s_recv_Input_25_t {R : Type} (cp : Nat → Nat → Bool) (n : Nat) (p1 : SSegment) (v19 : Int) (v20 : SRecv) (k : Ex → FF → Option R) : X cp n i_recv_Input_5 (fr_recv_Input_2 p1 v19 v20) k = s_recv_Input_25 cp n p1 v19 v20 (fun v60 v61 => k .ret (fr_recv_Input_24 v60 v61)) := ((fun c => (show X cp n (.seq (.seq (.fin (.reg g_recv_Input_8) [41, 42, 43, 44, 45, 46, 47, 48, 49, 50, 51, 52, 53] []) (.fin (.cond (.s 54) (.seq (.fin (.reg g_recv_Input_9) [2, 3, 9, 54, 55, 56, 57, 58, 59] [(140, 15), (156, 15)]) (.seq (.fin (.reg g_recv_Input_10) [10, 11, 60, 61] [(204, 15), (220, 15)]) (.wk [6, 7] (.ret)))) (.skip)) [54] [])) c) (fr_recv_Input_2 p1 v19 v20) k = s_recv_Input_4 cp n p1 v19 v20 (X cp n c (fr_recv_Input_2 p1 v19 v20) k) (fun v26 v27 => k .ret (fr_recv_Input_24 v26 v27)) from by kernel_rfl)) i_recv_Input_4).trans (congrArg (fun q => s_recv_Input_4 cp n p1 v19 v20 q (fun v26 v27 => k .ret (fr_recv_Input_24 v26 v27))) ((s_recv_Input_23_t cp n p1 v19 v20 k).trans (show s_recv_Input_23 cp n p1 v19 v20 (fun v58 v59 => k .ret (fr_recv_Input_22 v58 v59)) = s_recv_Input_23 cp n p1 v19 v20 (fun v58 v59 => k .ret (fr_recv_Input_24 v58 v59)) from by kernel_rfl)))
def fr_recv_Input_26 (v62 : Bool) (v63 : Int) (v64 : SRecv) (v65 : SSegment) : FF := [dT 4 ((.ptr 172 0) :: (.ptr 188 0) :: (tB v62) :: (tL v63) :: (dT 8 [])), dc, dc, dc, dc, dc, dc, dc, dc, dc, dT 12 ((.hdr 15) :: (sl 0 3 (eRecv v64))), sl 3 12 (eRecv v64) ++ ((.hdr 15) :: (sl 0 3 (eSegment v65))), sl 3 12 (eSegment v65) ++ (dT 4 []), dc, dc, dc]
def fr_recv_Input_28 (p0 : SRecv) (p1 : SSegment) : FF := [(.agg (eRecv p0)) :: (.agg (eSegment p1)) :: (dT 14 []), dc, dc, dc, dc, dc, dc, dc, dc, dc, dc, dc, dc, dc, dc, dc]
theorem s_recv_Input_27_t {R : Type} (cp : Nat → Nat → Bool) (n : Nat) (p0 : SRecv) (p1 : SSegment) (k : Ex → FF → Option R) : X cp n i_recv_Input_6 (fr_recv_Input_28 p0 p1) k = s_recv_Input_27 cp n p0 p1 (fun v62 v63 v64 v65 => k .ret (fr_recv_Input_26 v62 v63 v64 v65)) := ((fun c => (show X cp n (.seq (.fin (.reg g_recv_Input_0) [0, 1, 6, 7] []) (.seq (.seq (.fin (.reg g_recv_Input_1) [15, 16] []) (.seq (.fin (.reg g_recv_Input_2) [17] []) (.fin (.cond (.s 18) (.seq (.fin (.reg g_recv_Input_3) [2, 3, 8, 18, 19, 20, 21] [(140, 15), (156, 15)]) (.wk [6, 7] (.ret))) (.skip)) [8, 18] []))) (.seq (.fin (.reg g_recv_Input_4) [22, 23] []) (.seq (.seq (.fin (.reg g_recv_Input_5) [24, 25, 26, 27, 28, 29] []) (.fin (.cond (.s 30) (.seq (.fin (.reg g_recv_Input_6) [2, 3, 30, 31, 32] [(140, 15), (156, 15)]) (.wk [6, 7] (.ret))) (.skip)) [30] [])) (.seq (.fin (.reg g_recv_Input_7) [33, 34, 35, 36, 37, 38, 39, 40] []) c))))) (fr_recv_Input_28 p0 p1) k = s_recv_Input_1 cp n p0 p1 (fun v19 v20 => X cp n c (fr_recv_Input_2 p1 v19 v20) k) (fun v21 v22 => k .ret (fr_recv_Input_26 false v21 v22 (SSegment.mk 0 0 0 0 0 0 0 0 0 false false 0 0 [] []))) from by kernel_rfl)) i_recv_Input_5).trans (congrArg (fun q => s_recv_Input_1 cp n p0 p1 q (fun v21 v22 => k .ret (fr_recv_Input_26 false v21 v22 (SSegment.mk 0 0 0 0 0 0 0 0 0 false false 0 0 [] [])))) (funext fun v19 => funext fun v20 => (s_recv_Input_25_t cp n p1 v19 v20 k).trans (show s_recv_Input_25 cp n p1 v19 v20 (fun v60 v61 => k .ret (fr_recv_Input_24 v60 v61)) = s_recv_Input_25 cp n p1 v19 v20 (fun v60 v61 => k .ret (fr_recv_Input_26 true 0 v60 v61)) from by kernel_rfl)))
theorem run_recv_Input {R : Type} (cp : Nat → Nat → Bool) (n : Nat) (p0 : SRecv) (p1 : SSegment) (k : Ret2 RW → Option R) : G_recv_Input cp (n + 1) p0 p1 (fun r0 r1 r2 r3 => k ⟨.tup [.agg (eRecv r0), .agg (eSegment r1), (tB r2), (tL r3)], [], []⟩) = run2 U cp (callP cp n) n fn_recv_Input [.agg (eRecv p0), .agg (eSegment p1)] [] k := ((X_run (f := fn_recv_Input) (av := [.agg (eRecv p0), .agg (eSegment p1)]) (cells := []) (code := i_recv_Input_6) (fr := (fr_recv_Input_28 p0 p1)) (k := k) (by kernel_rfl) (fun K => by kernel_rfl)).trans ((s_recv_Input_27_t cp n p0 p1 (finK2 fn_recv_Input k)).trans (by kernel_rfl))).symm
/-! tideway/seq.Clamp -/
theorem run_seq_Clamp {R : Type} (cp : Nat → Nat → Bool) (n : Nat) (p0 p1 p2 : Int) (k : Ret2 RW → Option R) : G_seq_Clamp cp (n + 1) p0 p1 p2 (fun r0 => k ⟨(tL r0), [], []⟩) = run2 U cp (callP cp n) n fn_seq_Clamp [(tL p0), (tL p1), (tL p2)] [] k := by kernel_rfl
/-! tideway/recv.Read -/
def fr_recv_Read_2 (v88 : (List Int)) (v89 : SRecv) : FF := [dT 2 ((.ptr 60 0) :: (dT 1 ((.ptr 76 0) :: (dT 1 ((.ptr 92 0) :: (dT 3 ((.row false (.ruint8 v88)) :: (dT 5 [])))))))), dc, dc, dT 12 ((.hdr 15) :: (sl 0 3 (eRecv v89))), sl 3 12 (eRecv v89) ++ [.hdr 15, (tL 0), .row false (.ruint8 []), .row false (.rPiece [])], [(tL 0), (tL 0), (tL 0), (tI .u32 0), (tB false), (tB false), (tL 0), (tB false), .row false (.rSpan []), (tI .u32 0), (tI .u32 0), (tB false), .hdr 15, (tL 0), (tL 0), (tI .u32 0)], (tI .u32 0) :: (tL 0) :: (tL 0) :: (tL 0) :: (tL 0) :: (tL 0) :: (tB false) :: (tB false) :: (tI .u32 0) :: (tI .u32 0) :: (.row false (.rBlock [])) :: (.row false (.ruint8 [])) :: (dT 4 []), dc]
def fr_recv_Read_3 (v90 : Int) : FF := [dT 4 ((.ptr 76 0) :: (.row false (.ruint8 [])) :: (.ptr 92 0) :: (tB false) :: (tL v90) :: (dT 7 [])), dc, dc, dc, dT 12 ([.hdr 15, (tL 0), .row false (.ruint8 []), .row false (.rPiece [])]), [(tL 0), (tL 0), (tL 0), (tI .u32 0), (tB false), (tB false), (tL 0), (tB false), .row false (.rSpan []), (tI .u32 0), (tI .u32 0), (tB false), .hdr 15, (tL 0), (tL 0), (tI .u32 0)], (tI .u32 0) :: (tL 0) :: (tL 0) :: (tL 0) :: (tL 0) :: (tL 0) :: (tB false) :: (tB false) :: (tI .u32 0) :: (tI .u32 0) :: (.row false (.rBlock [])) :: (.row false (.ruint8 [])) :: (dT 4 []), dc]
def fr_recv_Read_5 (v88 : (List Int)) (v94 : Bool) (v95 : SRecv) (v96 : SSegment) : FF := [dT 4 ((.ptr 76 0) :: (.row false (.ruint8 v88)) :: (.ptr 92 0) :: (tB v94) :: (tL 0) :: (dT 7 [])), dc, dc, dc, dT 12 ((.hdr 15) :: (sl 0 3 (eRecv v95))), sl 3 12 (eRecv v95) ++ ((.hdr 15) :: (sl 0 3 (eSegment v96))), sl 3 12 (eSegment v96) ++ (dT 4 []), dc]
theorem s_recv_Read_4_t {R : Type} (cp : Nat → Nat → Bool) (n : Nat) (v88 : (List Int)) (v89 : SRecv) (k : Ex → FF → Option R) : X cp n i_recv_Read_0 (fr_recv_Read_2 v88 v89) k = s_recv_Read_4 cp n v88 v89 (fun v94 v95 v96 => k .ret (fr_recv_Read_5 v88 v94 v95 v96)) := by kernel_rfl
def fr_recv_Read_6 (v97 : (List Int)) (v98 : Bool) (v99 : Int) (v100 : SRecv) (v101 : SSegment) : FF := [dT 4 ((.ptr 76 0) :: (.row false (.ruint8 v97)) :: (.ptr 92 0) :: (tB v98) :: (tL v99) :: (dT 7 [])), dc, dc, dc, dT 12 ((.hdr 15) :: (sl 0 3 (eRecv v100))), sl 3 12 (eRecv v100) ++ ((.hdr 15) :: (sl 0 3 (eSegment v101))), sl 3 12 (eSegment v101) ++ (dT 4 []), dc]
def fr_recv_Read_8 (p0 : SRecv) (p1 : Int) : FF := [(.agg (eRecv p0)) :: (tL p1) :: (dT 14 []), dc, dc, dc, dc, dc, dc, dc]
theorem s_recv_Read_7_t {R : Type} (cp : Nat → Nat → Bool) (n : Nat) (p0 : SRecv) (p1 : Int) (k : Ex → FF → Option R) : X cp n i_recv_Read_1 (fr_recv_Read_8 p0 p1) k = s_recv_Read_7 cp n p0 p1 (fun v97 v98 v99 v100 v101 => k .ret (fr_recv_Read_6 v97 v98 v99 v100 v101)) := ((fun c => (show X cp n (.seq (.fin (.reg g_recv_Read_0) [0, 5, 7, 8] []) (.seq (.seq (.fin (.reg g_recv_Read_1) [12, 13] []) (.seq (.fin (.reg g_recv_Read_2) [14] []) (.fin (.cond (.s 15) (.seq (.fin (.reg g_recv_Read_3) [1, 2, 9, 15, 16, 17, 18] [(60, 15)]) (.wk [5, 7, 8] (.ret))) (.skip)) [9, 15] []))) (.seq (.fin (.reg g_recv_Read_4) [19, 20] []) (.seq (.fin (.reg g_recv_Read_5) [21, 22, 23, 24, 25] []) (.seq (.fin (.reg g_recv_Read_6) [26, 27, 28, 29, 30] []) (.seq (.fin (.reg g_recv_Read_7) [1, 31, 32, 33, 34, 35] []) c)))))) (fr_recv_Read_8 p0 p1) k = s_recv_Read_1 cp n p0 p1 (fun v88 v89 => X cp n c (fr_recv_Read_2 v88 v89) k) (fun v90 => k .ret (fr_recv_Read_6 [] false v90 (SRecv.mk 0 [] [] 0 0 0 0 false false 0 false [] 0 0 false) (SSegment.mk 0 0 0 0 0 0 0 0 0 false false 0 0 [] []))) from by kernel_rfl)) i_recv_Read_0).trans (congrArg (fun q => s_recv_Read_1 cp n p0 p1 q (fun v90 => k .ret (fr_recv_Read_6 [] false v90 (SRecv.mk 0 [] [] 0 0 0 0 false false 0 false [] 0 0 false) (SSegment.mk 0 0 0 0 0 0 0 0 0 false false 0 0 [] [])))) (funext fun v88 => funext fun v89 => (s_recv_Read_4_t cp n v88 v89 k).trans (show s_recv_Read_4 cp n v88 v89 (fun v94 v95 v96 => k .ret (fr_recv_Read_5 v88 v94 v95 v96)) = s_recv_Read_4 cp n v88 v89 (fun v94 v95 v96 => k .ret (fr_recv_Read_6 v88 v94 0 v95 v96)) from by kernel_rfl)))
theorem run_recv_Read {R : Type} (cp : Nat → Nat → Bool) (n : Nat) (p0 : SRecv) (p1 : Int) (k : Ret2 RW → Option R) : G_recv_Read cp (n + 1) p0 p1 (fun r0 r1 r2 r3 r4 => k ⟨.tup [.agg (eRecv r0), .row false (.ruint8 r1), .agg (eSegment r2), (tB r3), (tL r4)], [], []⟩) = run2 U cp (callP cp n) n fn_recv_Read [.agg (eRecv p0), (tL p1)] [] k := ((X_run (f := fn_recv_Read) (av := [.agg (eRecv p0), (tL p1)]) (cells := []) (code := i_recv_Read_1) (fr := (fr_recv_Read_8 p0 p1)) (k := k) (by kernel_rfl) (fun K => by kernel_rfl)).trans ((s_recv_Read_7_t cp n p0 p1 (finK2 fn_recv_Read k)).trans (by kernel_rfl))).symm
/-! tideway/recv.Window -/
theorem run_recv_Window {R : Type} (cp : Nat → Nat → Bool) (n : Nat) (p0 : SRecv) (k : Ret2 RW → Option R) : G_recv_Window cp (n + 1) p0 (fun r0 => k ⟨(tL r0), [], []⟩) = run2 U cp (callP cp n) n fn_recv_Window [.agg (eRecv p0)] [] k := by kernel_rfl
/-! tideway/tidewaylaw08.heads -/
def fr_law08_heads_2 (v40 : Int) (v41 : Bool) (v42 : Int) (v43 : Bool) (v44 : Int) (v45 : (List Int)) (v46 : Int) (v47 : SRecv) (v48 : SSegment) (v49 : SRecv) (v50 : SSegment) (v51 : SRecv) : FF := [dT 1 ((.ptr 124 0) :: (tL v40) :: (dT 1 ((.ptr 156 0) :: (tB v41) :: (tL v42) :: (.ptr 172 0) :: (.ptr 188 0) :: (tB v43) :: (tL v44) :: (.ptr 204 0) :: (.row false (.ruint8 v45)) :: (dT 2 ([(tL v46)]))))), dc, dc, dc, dc, dc, dc, dT 12 ((.hdr 15) :: (sl 0 3 (eRecv v47))), sl 3 12 (eRecv v47) ++ (dT 4 []), dT 12 ((.hdr 15) :: (sl 0 3 (eSegment v48))), sl 3 12 (eSegment v48) ++ ((.hdr 15) :: (sl 0 3 (eRecv v49))), sl 3 12 (eRecv v49) ++ ((.hdr 15) :: (sl 0 3 (eSegment v50))), sl 3 12 (eSegment v50) ++ ((.hdr 15) :: (sl 0 3 (eRecv v51))), sl 3 12 (eRecv v51) ++ (dT 4 []), dc, dc]
def fr_law08_heads_4 (v57 : Bool) : FF := [(tB v57) :: (dT 15 []), dc, dc, dc, dc, dc, dc, dc, dc, dc, dc, dc, dc, dc, dc, dc]
theorem s_law08_heads_3_t {R : Type} (cp : Nat → Nat → Bool) (n : Nat) (v40 : Int) (v41 : Bool) (v42 : Int) (v43 : Bool) (v44 : Int) (v45 : (List Int)) (v46 : Int) (v47 : SRecv) (v48 : SSegment) (v49 : SRecv) (v50 : SSegment) (v51 : SRecv) (k : Ex → FF → Option R) : X cp n i_law08_heads_0 (fr_law08_heads_2 v40 v41 v42 v43 v44 v45 v46 v47 v48 v49 v50 v51) k = s_law08_heads_3 cp n v40 v41 v42 v43 v44 v45 v46 v47 v48 v49 v50 v51 (fun v57 => k .ret (fr_law08_heads_4 v57)) := by kernel_rfl
def fr_law08_heads_5 (v58 : Bool) : FF := [(tB v58) :: (dT 15 []), dc, dc, dc, dc, dc, dc, dc, dc, dc, dc, dc, dc, dc, dc, dc]
def fr_law08_heads_7 : FF := [dc, dc, dc, dc, dc, dc, dc, dc, dc, dc, dc, dc, dc, dc, dc, dc]
theorem s_law08_heads_6_t {R : Type} (cp : Nat → Nat → Bool) (n : Nat) (k : Ex → FF → Option R) : X cp n i_law08_heads_1 fr_law08_heads_7 k = s_law08_heads_6 cp n (fun v58 => k .ret (fr_law08_heads_5 v58)) := ((fun c => (show X cp n (.seq (.fin (.reg g_law08_heads_0) [0] []) (.seq (.fin (.reg g_law08_heads_1) [18, 19, 20, 21] []) (.seq (.fin (.reg g_law08_heads_2) [22, 23, 24, 25, 26, 27, 28, 29, 30, 31] []) (.seq (.fin (.reg g_law08_heads_3) [3, 32, 33, 34, 35, 36, 37, 38, 39, 40, 41] [(140, 15)]) (.seq (.fin (.reg g_law08_heads_4) [13, 14, 42, 43, 44, 45, 46, 47, 48, 49] [(220, 15)]) c))))) fr_law08_heads_7 k = s_law08_heads_1 cp n (fun v40 v41 v42 v43 v44 v45 v46 v47 v48 v49 v50 v51 => X cp n c (fr_law08_heads_2 v40 v41 v42 v43 v44 v45 v46 v47 v48 v49 v50 v51) k) from by kernel_rfl)) i_law08_heads_0).trans (congrArg (fun q => s_law08_heads_1 cp n q) (funext fun v40 => funext fun v41 => funext fun v42 => funext fun v43 => funext fun v44 => funext fun v45 => funext fun v46 => funext fun v47 => funext fun v48 => funext fun v49 => funext fun v50 => funext fun v51 => (s_law08_heads_3_t cp n v40 v41 v42 v43 v44 v45 v46 v47 v48 v49 v50 v51 k).trans (show s_law08_heads_3 cp n v40 v41 v42 v43 v44 v45 v46 v47 v48 v49 v50 v51 (fun v57 => k .ret (fr_law08_heads_4 v57)) = s_law08_heads_3 cp n v40 v41 v42 v43 v44 v45 v46 v47 v48 v49 v50 v51 (fun v57 => k .ret (fr_law08_heads_5 v57)) from by kernel_rfl)))
theorem run_law08_heads {R : Type} (cp : Nat → Nat → Bool) (n : Nat) (k : Ret2 RW → Option R) : G_law08_heads cp (n + 1) (fun r0 => k ⟨(tB r0), [], []⟩) = run2 U cp (callP cp n) n fn_law08_heads [] [] k := ((X_run (f := fn_law08_heads) (av := []) (cells := []) (code := i_law08_heads_1) (fr := fr_law08_heads_7) (k := k) (by kernel_rfl) (fun K => by kernel_rfl)).trans ((s_law08_heads_6_t cp n  (finK2 fn_law08_heads k)).trans (by kernel_rfl))).symm
/-! tideway/tidewaylaw08.RecvOld -/
def fr_law08_RecvOld_2 (p0 : SRecv) (p1 : SSegment) (p2 : Int) : FF := [dT 2 ((tL p2) :: (.ptr 94 0) :: (.ptr 110 0) :: (dT 11 [])), dc, dc, dc, dc, dT 14 ((.hdr 15) :: (sl 0 1 (eRecv p0))), sl 1 14 (eRecv p0) ++ ((.hdr 15) :: (sl 0 1 (eSegment p1))), sl 1 14 (eSegment p1) ++ (dT 2 []), dc, dc, dc]
def fr_law08_RecvOld_4 (p0 : SRecv) (p1 : SSegment) (p2 : Int) (v2 : Bool) : FF := [dT 2 ((tL p2) :: (.ptr 94 0) :: (.ptr 110 0) :: (dT 11 [])), dc, dT 6 ((tB v2) :: (dT 9 [])), dc, dc, dT 14 ((.hdr 15) :: (sl 0 1 (eRecv p0))), sl 1 14 (eRecv p0) ++ ((.hdr 15) :: (sl 0 1 (eSegment p1))), sl 1 14 (eSegment p1) ++ (dT 2 []), dc, dc, dc]
def fr_law08_RecvOld_6 (v4 : Bool) : FF := [dT 6 ((tB v4) :: (dT 9 [])), dc, dc, dc, dc, dc, dc, dc, dc, dc, dc]
theorem s_law08_RecvOld_5_t {R : Type} (cp : Nat → Nat → Bool) (n : Nat) (p0 : SRecv) (p1 : SSegment) (p2 : Int) (v2 : Bool) (k : Ex → FF → Option R) : X cp n i_law08_RecvOld_0 (fr_law08_RecvOld_4 p0 p1 p2 v2) k = s_law08_RecvOld_5 cp n p0 p1 p2 v2 (k .norm (fr_law08_RecvOld_2 p0 p1 p2)) (fun v4 => k .ret (fr_law08_RecvOld_6 v4)) := by kernel_rfl
def fr_law08_RecvOld_7 (v5 : Bool) : FF := [dT 6 ((tB v5) :: (dT 9 [])), dc, dc, dc, dc, dc, dc, dc, dc, dc, dc]
theorem s_law08_RecvOld_8_t {R : Type} (cp : Nat → Nat → Bool) (n : Nat) (p0 : SRecv) (p1 : SSegment) (p2 : Int) (k : Ex → FF → Option R) : X cp n i_law08_RecvOld_1 (fr_law08_RecvOld_2 p0 p1 p2) k = s_law08_RecvOld_8 cp n p0 p1 p2 (k .norm (fr_law08_RecvOld_2 p0 p1 p2)) (fun v5 => k .ret (fr_law08_RecvOld_7 v5)) := ((fun c => (show X cp n (.seq (.fin (.reg g_law08_RecvOld_1) [12, 13, 14, 15, 16, 17, 18, 19, 20, 21, 22, 23, 24, 25, 26, 27, 28, 29, 30, 31, 32, 33, 34, 35, 36, 37] []) c) (fr_law08_RecvOld_2 p0 p1 p2) k = s_law08_RecvOld_3 cp n p0 p1 p2 (fun v2 => X cp n c (fr_law08_RecvOld_4 p0 p1 p2 v2) k) from by kernel_rfl)) i_law08_RecvOld_0).trans (congrArg (fun q => s_law08_RecvOld_3 cp n p0 p1 p2 q) (funext fun v2 => (s_law08_RecvOld_5_t cp n p0 p1 p2 v2 k).trans (show s_law08_RecvOld_5 cp n p0 p1 p2 v2 (k .norm (fr_law08_RecvOld_2 p0 p1 p2)) (fun v4 => k .ret (fr_law08_RecvOld_6 v4)) = s_law08_RecvOld_5 cp n p0 p1 p2 v2 (k .norm (fr_law08_RecvOld_2 p0 p1 p2)) (fun v4 => k .ret (fr_law08_RecvOld_7 v4)) from by kernel_rfl)))
def fr_law08_RecvOld_10 (v11 : Bool) : FF := [dT 6 ((tB v11) :: (dT 9 [])), dc, dc, dc, dc, dc, dc, dc, dc, dc, dc]
theorem s_law08_RecvOld_9_t {R : Type} (cp : Nat → Nat → Bool) (n : Nat) (p0 : SRecv) (p1 : SSegment) (p2 : Int) (k : Ex → FF → Option R) : X cp n i_law08_RecvOld_2 (fr_law08_RecvOld_2 p0 p1 p2) k = s_law08_RecvOld_9 cp n p0 p1 p2 (fun v11 => k .ret (fr_law08_RecvOld_10 v11)) := by kernel_rfl
def fr_law08_RecvOld_11 (v12 : Bool) : FF := [dT 6 ((tB v12) :: (dT 9 [])), dc, dc, dc, dc, dc, dc, dc, dc, dc, dc]
theorem s_law08_RecvOld_12_t {R : Type} (cp : Nat → Nat → Bool) (n : Nat) (p0 : SRecv) (p1 : SSegment) (p2 : Int) (k : Ex → FF → Option R) : X cp n i_law08_RecvOld_3 (fr_law08_RecvOld_2 p0 p1 p2) k = s_law08_RecvOld_12 cp n p0 p1 p2 (fun v12 => k .ret (fr_law08_RecvOld_11 v12)) := (show X cp n i_law08_RecvOld_3 (fr_law08_RecvOld_2 p0 p1 p2) k = X cp n i_law08_RecvOld_1 (fr_law08_RecvOld_2 p0 p1 p2) (seqT (X cp n) i_law08_RecvOld_2 k) from by kernel_rfl).trans ((show X cp n i_law08_RecvOld_1 (fr_law08_RecvOld_2 p0 p1 p2) (seqT (X cp n) i_law08_RecvOld_2 k) = s_law08_RecvOld_8 cp n p0 p1 p2 (X cp n i_law08_RecvOld_2 (fr_law08_RecvOld_2 p0 p1 p2) k) (fun v5 => k .ret (fr_law08_RecvOld_11 v5)) from (s_law08_RecvOld_8_t cp n p0 p1 p2 (seqT (X cp n) i_law08_RecvOld_2 k)).trans (by kernel_rfl)).trans (congrArg (fun q => s_law08_RecvOld_8 cp n p0 p1 p2 q (fun v5 => k .ret (fr_law08_RecvOld_11 v5))) ((s_law08_RecvOld_9_t cp n p0 p1 p2 k).trans (show s_law08_RecvOld_9 cp n p0 p1 p2 (fun v11 => k .ret (fr_law08_RecvOld_10 v11)) = s_law08_RecvOld_9 cp n p0 p1 p2 (fun v11 => k .ret (fr_law08_RecvOld_11 v11)) from by kernel_rfl))))
def fr_law08_RecvOld_13 (v13 : Bool) : FF := [dT 6 ((tB v13) :: (dT 9 [])), dc, dc, dc, dc, dc, dc, dc, dc, dc, dc]
def fr_law08_RecvOld_15 (p0 : SRecv) (p1 : SSegment) (p2 : Int) : FF := [(.agg (eRecv p0)) :: (.agg (eSegment p1)) :: (tL p2) :: (dT 13 []), dc, dc, dc, dc, dc, dc, dc, dc, dc, dc]
theorem s_law08_RecvOld_14_t {R : Type} (cp : Nat → Nat → Bool) (n : Nat) (p0 : SRecv) (p1 : SSegment) (p2 : Int) (k : Ex → FF → Option R) : X cp n i_law08_RecvOld_4 (fr_law08_RecvOld_15 p0 p1 p2) k = s_law08_RecvOld_14 cp n p0 p1 p2 (fun v13 => k .ret (fr_law08_RecvOld_13 v13)) := ((fun c => (show X cp n (.seq (.fin (.reg g_law08_RecvOld_0) [0, 1, 6] []) c) (fr_law08_RecvOld_15 p0 p1 p2) k = s_law08_RecvOld_1 cp n p0 p1 p2 (X cp n c (fr_law08_RecvOld_2 p0 p1 p2) k) from by kernel_rfl)) i_law08_RecvOld_3).trans (congrArg (fun q => s_law08_RecvOld_1 cp n p0 p1 p2 q) ((s_law08_RecvOld_12_t cp n p0 p1 p2 k).trans (show s_law08_RecvOld_12 cp n p0 p1 p2 (fun v12 => k .ret (fr_law08_RecvOld_11 v12)) = s_law08_RecvOld_12 cp n p0 p1 p2 (fun v12 => k .ret (fr_law08_RecvOld_13 v12)) from by kernel_rfl)))
theorem run_law08_RecvOld {R : Type} (cp : Nat → Nat → Bool) (n : Nat) (p0 : SRecv) (p1 : SSegment) (p2 : Int) (k : Ret2 RW → Option R) : G_law08_RecvOld cp (n + 1) p0 p1 p2 (fun r0 => k ⟨(tB r0), [], []⟩) = run2 U cp (callP cp n) n fn_law08_RecvOld [.agg (eRecv p0), .agg (eSegment p1), (tL p2)] [] k := ((X_run (f := fn_law08_RecvOld) (av := [.agg (eRecv p0), .agg (eSegment p1), (tL p2)]) (cells := []) (code := i_law08_RecvOld_4) (fr := (fr_law08_RecvOld_15 p0 p1 p2)) (k := k) (by kernel_rfl) (fun K => by kernel_rfl)).trans ((s_law08_RecvOld_14_t cp n p0 p1 p2 (finK2 fn_law08_RecvOld k)).trans (by kernel_rfl))).symm
def tbl : Nat → Option IFn
  | 27 => some (fn_recv_reach.lo U)
  | 53 => some (fn_recv_limit.lo U)
  | 55 => some (fn_recv_late.lo U)
  | 71 => some (fn_recv_of.lo U)
  | 1007 => some (fn_slices_AppendSeq_Span.lo U)
  | 1006 => some (fn_slices_Collect.lo U)
  | 72 => some (fn_slices_Index_Span.lo U)
  | 56 => some (fn_slices_Contains_Span.lo U)
  | 28 => some (fn_recv_pieces.lo U)
  | 10 => some (fn_recv_Check.lo U)
  | 49 => some (fn_recv_window.lo U)
  | 17 => some (fn_recv_New.lo U)
  | 57 => some fn_slices_Clone_Span
  | 52 => some fn_bytes_Clone
  | 29 => some (fn_recv_copied.lo U)
  | 31 => some (fn_seq_Diff.lo U)
  | 58 => some (fn_seq_Sum.lo U)
  | 30 => some (fn_seq_Unwrap.lo U)
  | 36 => some (fn_seq_Add.lo U)
  | 32 => some (fn_recv_tell.lo U)
  | 33 => some (fn_recv_end.lo U)
  | 82 => some (fn_span_may.lo U)
  | 78 => some (fn_span_Check.lo U)
  | 79 => some (fn_span_within.lo U)
  | 61 => some (fn_span_Gaps.lo U)
  | 74 => some (fn_recv_put_1.lo U)
  | 1031 => some (fn_slices_BinarySearchFunc_Piece.lo U)
  | 1033 => some fn_slices_Clone_Piece
  | 75 => some fn_slices_Insert_Piece
  | 77 => some (fn_slices_Clip_byte.lo U)
  | 60 => some (fn_recv_put.lo U)
  | 1029 => some (fn_recv_take_1.lo U)
  | 34 => some (fn_recv_take.lo U)
  | 1038 => some (fn_recv_firsts_1.lo U)
  | 1037 => some (fn_slices_IndexFunc_Span.lo U)
  | 35 => some (fn_recv_firsts.lo U)
  | 12 => some (fn_recv_Input.lo U)
  | 51 => some (fn_seq_Clamp.lo U)
  | 20 => some (fn_recv_Read.lo U)
  | 22 => some (fn_recv_Window.lo U)
  | 11 => some (fn_law08_heads.lo U)
  | 3 => some (fn_law08_RecvOld.lo U)
  | _ => none
theorem chk_recv_reach : chkFn Try.prog tbl (fn_recv_reach.lo U) = true := by kernel_rfl
theorem chk_recv_limit : chkFn Try.prog tbl (fn_recv_limit.lo U) = true := by kernel_rfl
theorem chk_recv_late : chkFn Try.prog tbl (fn_recv_late.lo U) = true := by kernel_rfl
theorem chk_recv_of : chkFn Try.prog tbl (fn_recv_of.lo U) = true := by kernel_rfl
theorem chk_slices_AppendSeq_Span : chkFn Try.prog tbl (fn_slices_AppendSeq_Span.lo U) = true := by kernel_rfl
theorem chk_slices_Collect : chkFn Try.prog tbl (fn_slices_Collect.lo U) = true := by kernel_rfl
theorem chk_slices_Index_Span : chkFn Try.prog tbl (fn_slices_Index_Span.lo U) = true := by kernel_rfl
theorem chk_slices_Contains_Span : chkFn Try.prog tbl (fn_slices_Contains_Span.lo U) = true := by kernel_rfl
theorem chk_recv_pieces : chkFn Try.prog tbl (fn_recv_pieces.lo U) = true := by kernel_rfl
theorem chk_recv_Check : chkFn Try.prog tbl (fn_recv_Check.lo U) = true := by kernel_rfl
theorem chk_recv_window : chkFn Try.prog tbl (fn_recv_window.lo U) = true := by kernel_rfl
theorem chk_recv_New : chkFn Try.prog tbl (fn_recv_New.lo U) = true := by kernel_rfl
theorem chk_slices_Clone_Span : chkFn Try.prog tbl fn_slices_Clone_Span = true := by kernel_rfl
theorem chk_bytes_Clone : chkFn Try.prog tbl fn_bytes_Clone = true := by kernel_rfl
theorem chk_recv_copied : chkFn Try.prog tbl (fn_recv_copied.lo U) = true := by kernel_rfl
theorem chk_seq_Diff : chkFn Try.prog tbl (fn_seq_Diff.lo U) = true := by kernel_rfl
theorem chk_seq_Sum : chkFn Try.prog tbl (fn_seq_Sum.lo U) = true := by kernel_rfl
theorem chk_seq_Unwrap : chkFn Try.prog tbl (fn_seq_Unwrap.lo U) = true := by kernel_rfl
theorem chk_seq_Add : chkFn Try.prog tbl (fn_seq_Add.lo U) = true := by kernel_rfl
theorem chk_recv_tell : chkFn Try.prog tbl (fn_recv_tell.lo U) = true := by kernel_rfl
theorem chk_recv_end : chkFn Try.prog tbl (fn_recv_end.lo U) = true := by kernel_rfl
theorem chk_span_may : chkFn Try.prog tbl (fn_span_may.lo U) = true := by kernel_rfl
theorem chk_span_Check : chkFn Try.prog tbl (fn_span_Check.lo U) = true := by kernel_rfl
theorem chk_span_within : chkFn Try.prog tbl (fn_span_within.lo U) = true := by kernel_rfl
theorem chk_span_Gaps : chkFn Try.prog tbl (fn_span_Gaps.lo U) = true := by kernel_rfl
theorem chk_recv_put_1 : chkFn Try.prog tbl (fn_recv_put_1.lo U) = true := by kernel_rfl
theorem chk_slices_BinarySearchFunc_Piece : chkFn Try.prog tbl (fn_slices_BinarySearchFunc_Piece.lo U) = true := by kernel_rfl
theorem chk_slices_Clone_Piece : chkFn Try.prog tbl fn_slices_Clone_Piece = true := by kernel_rfl
theorem chk_slices_Insert_Piece : chkFn Try.prog tbl fn_slices_Insert_Piece = true := by kernel_rfl
theorem chk_slices_Clip_byte : chkFn Try.prog tbl (fn_slices_Clip_byte.lo U) = true := by kernel_rfl
theorem chk_recv_put : chkFn Try.prog tbl (fn_recv_put.lo U) = true := by kernel_rfl
theorem chk_recv_take_1 : chkFn Try.prog tbl (fn_recv_take_1.lo U) = true := by kernel_rfl
theorem chk_recv_take : chkFn Try.prog tbl (fn_recv_take.lo U) = true := by kernel_rfl
theorem chk_recv_firsts_1 : chkFn Try.prog tbl (fn_recv_firsts_1.lo U) = true := by kernel_rfl
theorem chk_slices_IndexFunc_Span : chkFn Try.prog tbl (fn_slices_IndexFunc_Span.lo U) = true := by kernel_rfl
theorem chk_recv_firsts : chkFn Try.prog tbl (fn_recv_firsts.lo U) = true := by kernel_rfl
theorem chk_recv_Input : chkFn Try.prog tbl (fn_recv_Input.lo U) = true := by kernel_rfl
theorem chk_seq_Clamp : chkFn Try.prog tbl (fn_seq_Clamp.lo U) = true := by kernel_rfl
theorem chk_recv_Read : chkFn Try.prog tbl (fn_recv_Read.lo U) = true := by kernel_rfl
theorem chk_recv_Window : chkFn Try.prog tbl (fn_recv_Window.lo U) = true := by kernel_rfl
theorem chk_law08_heads : chkFn Try.prog tbl (fn_law08_heads.lo U) = true := by kernel_rfl
theorem chk_law08_RecvOld : chkFn Try.prog tbl (fn_law08_RecvOld.lo U) = true := by kernel_rfl
theorem chkAll : ∀ (id : Nat) (f : IFn), tbl id = some f → chkFn Try.prog tbl f = true := by
  intro id f h
  unfold tbl at h
  split at h
  · cases h; exact chk_recv_reach
  · cases h; exact chk_recv_limit
  · cases h; exact chk_recv_late
  · cases h; exact chk_recv_of
  · cases h; exact chk_slices_AppendSeq_Span
  · cases h; exact chk_slices_Collect
  · cases h; exact chk_slices_Index_Span
  · cases h; exact chk_slices_Contains_Span
  · cases h; exact chk_recv_pieces
  · cases h; exact chk_recv_Check
  · cases h; exact chk_recv_window
  · cases h; exact chk_recv_New
  · cases h; exact chk_slices_Clone_Span
  · cases h; exact chk_bytes_Clone
  · cases h; exact chk_recv_copied
  · cases h; exact chk_seq_Diff
  · cases h; exact chk_seq_Sum
  · cases h; exact chk_seq_Unwrap
  · cases h; exact chk_seq_Add
  · cases h; exact chk_recv_tell
  · cases h; exact chk_recv_end
  · cases h; exact chk_span_may
  · cases h; exact chk_span_Check
  · cases h; exact chk_span_within
  · cases h; exact chk_span_Gaps
  · cases h; exact chk_recv_put_1
  · cases h; exact chk_slices_BinarySearchFunc_Piece
  · cases h; exact chk_slices_Clone_Piece
  · cases h; exact chk_slices_Insert_Piece
  · cases h; exact chk_slices_Clip_byte
  · cases h; exact chk_recv_put
  · cases h; exact chk_recv_take_1
  · cases h; exact chk_recv_take
  · cases h; exact chk_recv_firsts_1
  · cases h; exact chk_slices_IndexFunc_Span
  · cases h; exact chk_recv_firsts
  · cases h; exact chk_recv_Input
  · cases h; exact chk_seq_Clamp
  · cases h; exact chk_recv_Read
  · cases h; exact chk_recv_Window
  · cases h; exact chk_law08_heads
  · cases h; exact chk_law08_RecvOld
  · cases h
theorem clone_slices_Clone_Span (n : Nat) (xs : (List SSpan)) (hc : capB (0 + xs.length) 16 = true) : runF tbl (n + 1) 57 [.row false 2 xs.length (rg cSpan zSpan xs)] [] = some ⟨.row true 2 xs.length (rg cSpan zSpan xs), [], []⟩ :=
  clone_fin (F := fun m g => runF tbl (n + 1) 57 [.row false 2 m g] []) (fun g => show runF tbl (n + 1) 57 [.row false 2 0 g] [] = both (some ⟨.row true 2 0 (fun _ => [.sc (.int .i64 0), .sc (.int .i64 0)]), [], []⟩) (cond (capB (0 + 0) 16) (some ⟨.row true 2 (0 + 0) (appGet 0 0 (litGet 2 0 [.sc (.int .i64 0), .sc (.int .i64 0)] []) g), [], []⟩) none) from by kernel_rfl) (fun m g => show runF tbl (n + 1) 57 [.row false 2 (m + 1) g] [] = (cond (capB (0 + (m + 1)) 16) (some ⟨.row true 2 (0 + (m + 1)) (appGet 0 (m + 1) (litGet 2 0 [.sc (.int .i64 0), .sc (.int .i64 0)] []) g), [], []⟩) none) from by kernel_rfl) (show cSpan zSpan = [.sc (.int .i64 0), .sc (.int .i64 0)] from by kernel_rfl) xs hc
theorem clone_bytes_Clone (n : Nat) (xs : (List Int)) (hc : capB (0 + xs.length) 1 = true) : runF tbl (n + 1) 52 [.row false 1 xs.length (rg cuint8 zuint8 xs)] [] = some ⟨.row true 1 xs.length (rg cuint8 zuint8 xs), [], []⟩ :=
  clone_fin (F := fun m g => runF tbl (n + 1) 52 [.row false 1 m g] []) (fun g => show runF tbl (n + 1) 52 [.row false 1 0 g] [] = both (some ⟨.row true 1 0 (fun _ => [.sc (.int .u8 0)]), [], []⟩) (cond (capB (0 + 0) 1) (some ⟨.row true 1 (0 + 0) (appGet 0 0 (litGet 1 0 [.sc (.int .u8 0)] []) g), [], []⟩) none) from by kernel_rfl) (fun m g => show runF tbl (n + 1) 52 [.row false 1 (m + 1) g] [] = (cond (capB (0 + (m + 1)) 1) (some ⟨.row true 1 (0 + (m + 1)) (appGet 0 (m + 1) (litGet 1 0 [.sc (.int .u8 0)] []) g), [], []⟩) none) from by kernel_rfl) (show cuint8 zuint8 = [.sc (.int .u8 0)] from by kernel_rfl) xs hc
theorem clone_slices_Clone_Piece (n : Nat) (xs : (List SPiece)) (hc : capB (0 + xs.length) 32 = true) : runF tbl (n + 1) 1033 [.row false 2 xs.length (rg cPiece zPiece xs)] [] = some ⟨.un none 2 xs.length (rg cPiece zPiece xs), [], []⟩ :=
  uclone_fin (F := fun m g => runF tbl (n + 1) 1033 [.row false 2 m g] []) (fun g => show runF tbl (n + 1) 1033 [.row false 2 0 g] [] = both (some ⟨.un none 2 0 (fun _ => [.sc (.int .i64 0), .row false 1 0 (fun _ => [.sc (.int .u8 0)])]), [], []⟩) (cond (capB (0 + 0) 32) (some ⟨.un none 2 (0 + 0) (appGet 0 0 (litGet 2 0 [.sc (.int .i64 0), .row false 1 0 (fun _ => [.sc (.int .u8 0)])] []) g), [], []⟩) none) from by kernel_rfl) (fun m g => show runF tbl (n + 1) 1033 [.row false 2 (m + 1) g] [] = (cond (capB (0 + (m + 1)) 32) (some ⟨.un none 2 (0 + (m + 1)) (appGet 0 (m + 1) (litGet 2 0 [.sc (.int .i64 0), .row false 1 0 (fun _ => [.sc (.int .u8 0)])] []) g), [], []⟩) none) from by kernel_rfl) (show cPiece zPiece = [.sc (.int .i64 0), .row false 1 0 (fun _ => [.sc (.int .u8 0)])] from by kernel_rfl) xs hc
theorem clone_slices_Insert_Piece (n : Nat) (a : Bool) (xs : (List SPiece)) (i : Int) (x : SPiece) (hc : capB (xs.length + 1) 32 = true) (h0 : decide (0 ≤ i) = true) (h1 : decide (i ≤ (xs.length : Int)) = true) : runF tbl (n + 1) 75 [.un none 2 xs.length (rg cPiece zPiece xs), .sc (.int .i64 i), .row a 2 1 (rg cPiece zPiece [x])] [] = some ⟨.un none 2 (insL xs (Int.toNat i) x).length (rg cPiece zPiece (insL xs (Int.toNat i) x)), [], []⟩ :=
  ins_fin (show runF tbl (n + 1) 75 [.un none 2 xs.length (rg cPiece zPiece xs), .sc (.int .i64 i), .row a 2 1 (rg cPiece zPiece [x])] [] = cond (capB (xs.length + 1) 32) (cond (decide (0 ≤ i)) (cond (decide (i ≤ (xs.length : Int))) (some ⟨.un none 2 (xs.length + 1) (insGet xs.length (Int.toNat i) (rg cPiece zPiece xs) (rg cPiece zPiece [x])), [], []⟩) none) none) none from by kernel_rfl) hc h0 h1
theorem dI_ok {kd : IntKind} {y : TV RW} {a : Int} (h : dI kd y = some a) : y = .sc (.int kd a) := by
  unfold dI at h
  split at h
  · obtain ⟨h1, h2⟩ := cond_some h
    cases h2
    rw [of_decide_eq_true h1]
  · cases h
theorem dB_ok {y : TV RW} {a : Bool} (h : dB y = some a) : y = .sc (.bool a) := by
  unfold dB at h
  split at h <;> cases h
  rfl
theorem dS_ok {y : TV RW} {a : ByteArray} (h : dS y = some a) : y = .sc (.string a) := by
  unfold dS at h
  split at h <;> cases h
  rfl
theorem dA_ok {y : TV RW} {a : Fr} (h : dA y = some a) : y = .agg a := by
  unfold dA at h
  split at h <;> cases h
  rfl
theorem dOne_ok {y : Fr} {a : TV RW} (h : dOne y = some a) : y = [a] := by
  unfold dOne at h
  split at h <;> cases h
  rfl
theorem dP_ok {a b : Nat} {y : TV RW} {u : Unit} (h : dP a b y = some u) : y = .ptr a b := by
  unfold dP at h
  split at h
  · obtain ⟨h1, h2⟩ := cond_some h
    simp only [Bool.and_eq_true] at h1
    rw [nbeq h1.1, nbeq h1.2]
  · cases h
theorem dC_ok {a : Nat} {b : List (Nat × Nat)} {y : TV RW} {u : Unit} (h : dC a b y = some u) : y = .clo a b := by
  unfold dC at h
  split at h
  · obtain ⟨h1, h2⟩ := cond_some h
    simp only [Bool.and_eq_true] at h1
    rw [nbeq h1.1, of_decide_eq_true h1.2]
  · cases h
theorem dRuint8_ok {fl : Bool} {y : TV RW} {a : List Int} (h : dRuint8 fl y = some a) : y = .row fl (.ruint8 a) := by
  unfold dRuint8 at h
  split at h
  · obtain ⟨h1, h2⟩ := cond_some h
    cases h2
    rw [eq_of_beq h1]
  · cases h
theorem dRPiece_ok {fl : Bool} {y : TV RW} {a : List SPiece} (h : dRPiece fl y = some a) : y = .row fl (.rPiece a) := by
  unfold dRPiece at h
  split at h
  · obtain ⟨h1, h2⟩ := cond_some h
    cases h2
    rw [eq_of_beq h1]
  · cases h
theorem dRSpan_ok {fl : Bool} {y : TV RW} {a : List SSpan} (h : dRSpan fl y = some a) : y = .row fl (.rSpan a) := by
  unfold dRSpan at h
  split at h
  · obtain ⟨h1, h2⟩ := cond_some h
    cases h2
    rw [eq_of_beq h1]
  · cases h
theorem dRBlock_ok {fl : Bool} {y : TV RW} {a : List SBlock} (h : dRBlock fl y = some a) : y = .row fl (.rBlock a) := by
  unfold dRBlock at h
  split at h
  · obtain ⟨h1, h2⟩ := cond_some h
    cases h2
    rw [eq_of_beq h1]
  · cases h
theorem dRecv_ok {L : Fr} {a : SRecv} (h : dRecv L = some a) : L = eRecv a := by
  unfold dRecv at h
  split at h
  · simp only [Option.bind_eq_some_iff] at h
    obtain ⟨a0, h0, a1, h1, a2, h2, a3, h3, a4, h4, a5, h5, a6, h6, a7, h7, a8, h8, a9, h9, a10, h10, a11, h11, a12, h12, a13, h13, a14, h14, h⟩ := h
    cases h
    obtain rfl := dI_ok h0
    obtain rfl := dRuint8_ok h1
    obtain rfl := dRPiece_ok h2
    obtain rfl := dI_ok h3
    obtain rfl := dI_ok h4
    obtain rfl := dI_ok h5
    obtain rfl := dI_ok h6
    obtain rfl := dB_ok h7
    obtain rfl := dB_ok h8
    obtain rfl := dI_ok h9
    obtain rfl := dB_ok h10
    obtain rfl := dRSpan_ok h11
    obtain rfl := dI_ok h12
    obtain rfl := dI_ok h13
    obtain rfl := dB_ok h14
    rfl
  · cases h
theorem dRecvt_ok {L : Fr} {a : SRecv} (h : dRecvt L = some a) : L = eRecvt a := by
  unfold dRecvt at h
  split at h
  · simp only [Option.bind_eq_some_iff] at h
    obtain ⟨a0, h0, a1, h1, a2, h2, a3, h3, a4, h4, a5, h5, a6, h6, a7, h7, a8, h8, a9, h9, a10, h10, a11, h11, a12, h12, a13, h13, a14, h14, h⟩ := h
    cases h
    obtain rfl := dI_ok h0
    obtain rfl := dRuint8_ok h1
    obtain rfl := dRPiece_ok h2
    obtain rfl := dI_ok h3
    obtain rfl := dI_ok h4
    obtain rfl := dI_ok h5
    obtain rfl := dI_ok h6
    obtain rfl := dB_ok h7
    obtain rfl := dB_ok h8
    obtain rfl := dI_ok h9
    obtain rfl := dB_ok h10
    obtain rfl := dRSpan_ok h11
    obtain rfl := dI_ok h12
    obtain rfl := dI_ok h13
    obtain rfl := dB_ok h14
    rfl
  · cases h
theorem dPiece_ok {L : Fr} {a : SPiece} (h : dPiece L = some a) : L = ePiece a := by
  unfold dPiece at h
  split at h
  · simp only [Option.bind_eq_some_iff] at h
    obtain ⟨a0, h0, a1, h1, h⟩ := h
    cases h
    obtain rfl := dI_ok h0
    obtain rfl := dRuint8_ok h1
    rfl
  · cases h
theorem dPiecet_ok {L : Fr} {a : SPiece} (h : dPiecet L = some a) : L = ePiecet a := by
  unfold dPiecet at h
  split at h
  · simp only [Option.bind_eq_some_iff] at h
    obtain ⟨a0, h0, a1, h1, h⟩ := h
    cases h
    obtain rfl := dI_ok h0
    obtain rfl := dRuint8_ok h1
    rfl
  · cases h
theorem dSpan_ok {L : Fr} {a : SSpan} (h : dSpan L = some a) : L = eSpan a := by
  unfold dSpan at h
  split at h
  · simp only [Option.bind_eq_some_iff] at h
    obtain ⟨a0, h0, a1, h1, h⟩ := h
    cases h
    obtain rfl := dI_ok h0
    obtain rfl := dI_ok h1
    rfl
  · cases h
theorem dSegment_ok {L : Fr} {a : SSegment} (h : dSegment L = some a) : L = eSegment a := by
  unfold dSegment at h
  split at h
  · simp only [Option.bind_eq_some_iff] at h
    obtain ⟨a0, h0, a1, h1, a2, h2, a3, h3, a4, h4, a5, h5, a6, h6, a7, h7, a8, h8, a9, h9, a10, h10, a11, h11, a12, h12, a13, h13, a14, h14, h⟩ := h
    cases h
    obtain rfl := dI_ok h0
    obtain rfl := dI_ok h1
    obtain rfl := dI_ok h2
    obtain rfl := dI_ok h3
    obtain rfl := dI_ok h4
    obtain rfl := dI_ok h5
    obtain rfl := dI_ok h6
    obtain rfl := dI_ok h7
    obtain rfl := dI_ok h8
    obtain rfl := dB_ok h9
    obtain rfl := dB_ok h10
    obtain rfl := dI_ok h11
    obtain rfl := dI_ok h12
    obtain rfl := dRBlock_ok h13
    obtain rfl := dRuint8_ok h14
    rfl
  · cases h
theorem dSegmentt_ok {L : Fr} {a : SSegment} (h : dSegmentt L = some a) : L = eSegmentt a := by
  unfold dSegmentt at h
  split at h
  · simp only [Option.bind_eq_some_iff] at h
    obtain ⟨a0, h0, a1, h1, a2, h2, a3, h3, a4, h4, a5, h5, a6, h6, a7, h7, a8, h8, a9, h9, a10, h10, a11, h11, a12, h12, a13, h13, a14, h14, h⟩ := h
    cases h
    obtain rfl := dI_ok h0
    obtain rfl := dI_ok h1
    obtain rfl := dI_ok h2
    obtain rfl := dI_ok h3
    obtain rfl := dI_ok h4
    obtain rfl := dI_ok h5
    obtain rfl := dI_ok h6
    obtain rfl := dI_ok h7
    obtain rfl := dI_ok h8
    obtain rfl := dB_ok h9
    obtain rfl := dB_ok h10
    obtain rfl := dI_ok h11
    obtain rfl := dI_ok h12
    obtain rfl := dRBlock_ok h13
    obtain rfl := dRuint8_ok h14
    rfl
  · cases h
theorem dBlock_ok {L : Fr} {a : SBlock} (h : dBlock L = some a) : L = eBlock a := by
  unfold dBlock at h
  split at h
  · simp only [Option.bind_eq_some_iff] at h
    obtain ⟨a0, h0, a1, h1, h⟩ := h
    cases h
    obtain rfl := dI_ok h0
    obtain rfl := dI_ok h1
    rfl
  · cases h
theorem puint8_ok : ∀ {L : Fr} {xs : List Int}, puint8_ L = some xs → TV.los U L = (xs.map cuint8).flatten
  | [], xs, h => by cases h; rfl
  | y0 :: r, xs, h => by
    simp only [puint8_, Option.bind_eq_some_iff] at h
    obtain ⟨a0, h0, xs', h', h⟩ := h
    cases h
    have ih := puint8_ok h'
    obtain rfl := dI_ok h0
    show _ :: TV.los U r = _
    rw [ih]; rfl
theorem pPiece_ok : ∀ {L : Fr} {xs : List SPiece}, pPiece_ L = some xs → TV.los U L = (xs.map cPiece).flatten
  | [], xs, h => by cases h; rfl
  | [_], xs, h => by cases h
  | y0 :: y1 :: r, xs, h => by
    simp only [pPiece_, Option.bind_eq_some_iff] at h
    obtain ⟨a0, h0, a1, h1, xs', h', h⟩ := h
    cases h
    have ih := pPiece_ok h'
    obtain rfl := dI_ok h0
    obtain rfl := dRuint8_ok h1
    show _ :: _ :: TV.los U r = _
    rw [ih]; rfl
theorem pSpan_ok : ∀ {L : Fr} {xs : List SSpan}, pSpan_ L = some xs → TV.los U L = (xs.map cSpan).flatten
  | [], xs, h => by cases h; rfl
  | [_], xs, h => by cases h
  | y0 :: y1 :: r, xs, h => by
    simp only [pSpan_, Option.bind_eq_some_iff] at h
    obtain ⟨a0, h0, a1, h1, xs', h', h⟩ := h
    cases h
    have ih := pSpan_ok h'
    obtain rfl := dI_ok h0
    obtain rfl := dI_ok h1
    show _ :: _ :: TV.los U r = _
    rw [ih]; rfl
theorem pBlock_ok : ∀ {L : Fr} {xs : List SBlock}, pBlock_ L = some xs → TV.los U L = (xs.map cBlock).flatten
  | [], xs, h => by cases h; rfl
  | [_], xs, h => by cases h
  | y0 :: y1 :: r, xs, h => by
    simp only [pBlock_, Option.bind_eq_some_iff] at h
    obtain ⟨a0, h0, a1, h1, xs', h', h⟩ := h
    cases h
    have ih := pBlock_ok h'
    obtain rfl := dI_ok h0
    obtain rfl := dI_ok h1
    show _ :: _ :: TV.los U r = _
    rw [ih]; rfl
theorem dUPiece_ok {y : TV RW} {a : List SPiece} (h : dUPiece y = some a) : y = .un none (.rPiece a) := by
  unfold dUPiece at h
  split at h <;> cases h
  rfl
theorem dXPiece_ok {y : TV RW} {a : SPiece} (h : dXPiece y = some a) : ∃ fl, y = .row fl (.rPiece [a]) := by
  unfold dXPiece at h
  split at h <;> cases h
  exact ⟨_, rfl⟩
theorem UOk : UniOk U where
  get := fun r i => match r with
    | .ruint8 xs => by kernel_rfl
    | .rPiece xs => by kernel_rfl
    | .rSpan xs => by kernel_rfl
    | .rBlock xs => by kernel_rfl
  app := fun r q x h => by cases r <;> cases q <;> first | (cases h; done) | (cases h; exact ⟨rfl, rfl, List.length_append, (rg_app (c := cuint8) (z := zuint8)).symm⟩) | (cases h; exact ⟨rfl, rfl, List.length_append, (rg_app (c := cPiece) (z := zPiece)).symm⟩) | (cases h; exact ⟨rfl, rfl, List.length_append, (rg_app (c := cSpan) (z := zSpan)).symm⟩) | (cases h; exact ⟨rfl, rfl, List.length_append, (rg_app (c := cBlock) (z := zBlock)).symm⟩)
  sub := fun lo n r h => by cases r <;> first | exact ⟨rfl, sub_len h, (rg_sub (c := cuint8) (z := zuint8) h).symm⟩ | exact ⟨rfl, sub_len h, (rg_sub (c := cPiece) (z := zPiece) h).symm⟩ | exact ⟨rfl, sub_len h, (rg_sub (c := cSpan) (z := zSpan) h).symm⟩ | exact ⟨rfl, sub_len h, (rg_sub (c := cBlock) (z := zBlock) h).symm⟩
  lit := fun t n L r h => by
    unfold U at h
    dsimp only at h
    split at h
    · obtain ⟨xs, h1, rfl, rfl⟩ := bind_lit h
      have e := puint8_ok h1
      exact ⟨rfl, rfl, by rw [e]; exact (rg_lit (c := cuint8) (sz := 1) (z := zuint8) (fun _ => rfl)).symm, by rw [e]; exact all_flat (fun _ => rfl) xs⟩
    · obtain ⟨xs, h1, rfl, rfl⟩ := bind_lit h
      have e := pPiece_ok h1
      exact ⟨rfl, rfl, by rw [e]; exact (rg_lit (c := cPiece) (sz := 2) (z := zPiece) (fun _ => rfl)).symm, by rw [e]; exact all_flat (fun _ => rfl) xs⟩
    · obtain ⟨xs, h1, rfl, rfl⟩ := bind_lit h
      have e := pSpan_ok h1
      exact ⟨rfl, rfl, by rw [e]; exact (rg_lit (c := cSpan) (sz := 2) (z := zSpan) (fun _ => rfl)).symm, by rw [e]; exact all_flat (fun _ => rfl) xs⟩
    · obtain ⟨xs, h1, rfl, rfl⟩ := bind_lit h
      have e := pBlock_ok h1
      exact ⟨rfl, rfl, by rw [e]; exact (rg_lit (c := cBlock) (sz := 2) (z := zBlock) (fun _ => rfl)).symm, by rw [e]; exact all_flat (fun _ => rfl) xs⟩
    · cases h
  set := fun r q off cs r' hq h => by
    unfold U at h hq
    dsimp only at h hq
    split at h
    · cases h
    · obtain ⟨x, h1, h2⟩ := Option.bind_eq_some_iff.1 h
      cases h2
      obtain ⟨a1, a2, a3⟩ := set_fin (U := U) (c := cPiece) (z := zPiece) (e := ePiece) (fun _ => by kernel_rfl) (fun _ => rfl) hq (dPiece_ok h1)
      exact ⟨rfl, a1, a2, a3⟩
    · obtain ⟨x, h1, h2⟩ := Option.bind_eq_some_iff.1 h
      cases h2
      obtain ⟨a1, a2, a3⟩ := set_fin (U := U) (c := cSpan) (z := zSpan) (e := eSpan) (fun _ => by kernel_rfl) (fun _ => rfl) hq (dSpan_ok h1)
      exact ⟨rfl, a1, a2, a3⟩
    · obtain ⟨x, h1, h2⟩ := Option.bind_eq_some_iff.1 h
      cases h2
      obtain ⟨a1, a2, a3⟩ := set_fin (U := U) (c := cBlock) (z := zBlock) (e := eBlock) (fun _ => by kernel_rfl) (fun _ => rfl) hq (dBlock_ok h1)
      exact ⟨rfl, a1, a2, a3⟩
  str := fun r l h => by
    unfold U at h
    dsimp only at h
    split at h
    · cases h
      exact ⟨rfl, bytes_rg (fun _ => rfl) l⟩
    · cases h
    · cases h
    · cases h

theorem ok_recv_reach {R : Type} {r : R} : ∀ {n : Nat}, (∀ m, n = m + 1 → CallOk2 (R := R) U (callP capB m) (runF tbl m)) → ∀ {av : Fr} {cs : List Fr} {k : Ret2 RW → Option R}, ca_recv_reach capB n av cs k = some r → ∃ q : Ret2 RW, runF tbl n 27 (TV.los U av) (cs.map (TV.los U)) = some (q.lo U) ∧ k q = some r := by
  intro n ih av cs k h
  unfold ca_recv_reach at h
  split at h
  · simp only [Option.bind_eq_some_iff] at h
    obtain ⟨c0_, h0, p0, g0, h⟩ := h
    obtain rfl := dA_ok h0
    obtain rfl := dRecv_ok g0
    cases n with
    | zero => cases h
    | succ n =>
      exact run2_ok UOk (ih n rfl) (f := fn_recv_reach) rfl ((run_recv_reach capB n p0 k).symm.trans h)
  · cases h
theorem ok_recv_limit {R : Type} {r : R} : ∀ {n : Nat}, (∀ m, n = m + 1 → CallOk2 (R := R) U (callP capB m) (runF tbl m)) → ∀ {av : Fr} {cs : List Fr} {k : Ret2 RW → Option R}, ca_recv_limit capB n av cs k = some r → ∃ q : Ret2 RW, runF tbl n 53 (TV.los U av) (cs.map (TV.los U)) = some (q.lo U) ∧ k q = some r := by
  intro n ih av cs k h
  unfold ca_recv_limit at h
  split at h
  · simp only [Option.bind_eq_some_iff] at h
    obtain ⟨c0_, h0, p0, g0, h⟩ := h
    obtain rfl := dA_ok h0
    obtain rfl := dRecv_ok g0
    cases n with
    | zero => cases h
    | succ n =>
      exact run2_ok UOk (ih n rfl) (f := fn_recv_limit) rfl ((run_recv_limit capB n p0 k).symm.trans h)
  · cases h
theorem ok_recv_late {R : Type} {r : R} : ∀ {n : Nat}, (∀ m, n = m + 1 → CallOk2 (R := R) U (callP capB m) (runF tbl m)) → ∀ {av : Fr} {cs : List Fr} {k : Ret2 RW → Option R}, ca_recv_late capB n av cs k = some r → ∃ q : Ret2 RW, runF tbl n 55 (TV.los U av) (cs.map (TV.los U)) = some (q.lo U) ∧ k q = some r := by
  intro n ih av cs k h
  unfold ca_recv_late at h
  split at h
  · simp only [Option.bind_eq_some_iff] at h
    obtain ⟨c0_, h0, p0, g0, h⟩ := h
    obtain rfl := dA_ok h0
    obtain rfl := dRecv_ok g0
    cases n with
    | zero => cases h
    | succ n =>
      exact run2_ok UOk (ih n rfl) (f := fn_recv_late) rfl ((run_recv_late capB n p0 k).symm.trans h)
  · cases h
theorem ok_recv_of {R : Type} {r : R} : ∀ {n : Nat}, (∀ m, n = m + 1 → CallOk2 (R := R) U (callP capB m) (runF tbl m)) → ∀ {av : Fr} {cs : List Fr} {k : Ret2 RW → Option R}, ca_recv_of capB n av cs k = some r → ∃ q : Ret2 RW, runF tbl n 71 (TV.los U av) (cs.map (TV.los U)) = some (q.lo U) ∧ k q = some r := by
  intro n ih av cs k h
  unfold ca_recv_of at h
  split at h
  · simp only [Option.bind_eq_some_iff] at h
    obtain ⟨c0_, h0, p0, g0, h⟩ := h
    obtain rfl := dA_ok h0
    obtain rfl := dPiece_ok g0
    cases n with
    | zero => cases h
    | succ n =>
      exact run2_ok UOk (ih n rfl) (f := fn_recv_of) rfl ((run_recv_of capB n p0 k).symm.trans h)
  · cases h
theorem ok_slices_AppendSeq_Span {R : Type} {r : R} : ∀ {n : Nat}, (∀ m, n = m + 1 → CallOk2 (R := R) U (callP capB m) (runF tbl m)) → ∀ {av : Fr} {cs : List Fr} {k : Ret2 RW → Option R}, ca_slices_AppendSeq_Span capB n av cs k = some r → ∃ q : Ret2 RW, runF tbl n 1007 (TV.los U av) (cs.map (TV.los U)) = some (q.lo U) ∧ k q = some r := by
  intro n ih av cs k h
  unfold ca_slices_AppendSeq_Span at h
  split at h
  · simp only [Option.bind_eq_some_iff] at h
    obtain ⟨p0, h0, u1, h1, q0, i0, h⟩ := h
    obtain rfl := dRSpan_ok h0
    obtain rfl := dC_ok h1
    obtain rfl := dRecv_ok i0
    cases n with
    | zero => cases h
    | succ n =>
      exact run2_ok UOk (ih n rfl) (f := fn_slices_AppendSeq_Span) rfl ((run_slices_AppendSeq_Span capB n p0 q0 k).symm.trans h)
  · cases h
theorem ok_slices_Collect {R : Type} {r : R} : ∀ {n : Nat}, (∀ m, n = m + 1 → CallOk2 (R := R) U (callP capB m) (runF tbl m)) → ∀ {av : Fr} {cs : List Fr} {k : Ret2 RW → Option R}, ca_slices_Collect capB n av cs k = some r → ∃ q : Ret2 RW, runF tbl n 1006 (TV.los U av) (cs.map (TV.los U)) = some (q.lo U) ∧ k q = some r := by
  intro n ih av cs k h
  unfold ca_slices_Collect at h
  split at h
  · simp only [Option.bind_eq_some_iff] at h
    obtain ⟨u0, h0, q0, i0, h⟩ := h
    obtain rfl := dC_ok h0
    obtain rfl := dRecv_ok i0
    cases n with
    | zero => cases h
    | succ n =>
      exact run2_ok UOk (ih n rfl) (f := fn_slices_Collect) rfl ((run_slices_Collect capB n q0 k).symm.trans h)
  · cases h
theorem ok_slices_Index_Span {R : Type} {r : R} : ∀ {n : Nat}, (∀ m, n = m + 1 → CallOk2 (R := R) U (callP capB m) (runF tbl m)) → ∀ {av : Fr} {cs : List Fr} {k : Ret2 RW → Option R}, ca_slices_Index_Span capB n av cs k = some r → ∃ q : Ret2 RW, runF tbl n 72 (TV.los U av) (cs.map (TV.los U)) = some (q.lo U) ∧ k q = some r := by
  intro n ih av cs k h
  unfold ca_slices_Index_Span at h
  split at h
  · simp only [Option.bind_eq_some_iff] at h
    obtain ⟨p0, h0, c1_, h1, p1, g1, h⟩ := h
    obtain rfl := dRSpan_ok h0
    obtain rfl := dA_ok h1
    obtain rfl := dSpan_ok g1
    cases n with
    | zero => cases h
    | succ n =>
      exact run2_ok UOk (ih n rfl) (f := fn_slices_Index_Span) rfl ((run_slices_Index_Span capB n p0 p1 k).symm.trans h)
  · cases h
theorem ok_slices_Contains_Span {R : Type} {r : R} : ∀ {n : Nat}, (∀ m, n = m + 1 → CallOk2 (R := R) U (callP capB m) (runF tbl m)) → ∀ {av : Fr} {cs : List Fr} {k : Ret2 RW → Option R}, ca_slices_Contains_Span capB n av cs k = some r → ∃ q : Ret2 RW, runF tbl n 56 (TV.los U av) (cs.map (TV.los U)) = some (q.lo U) ∧ k q = some r := by
  intro n ih av cs k h
  unfold ca_slices_Contains_Span at h
  split at h
  · simp only [Option.bind_eq_some_iff] at h
    obtain ⟨p0, h0, c1_, h1, p1, g1, h⟩ := h
    obtain rfl := dRSpan_ok h0
    obtain rfl := dA_ok h1
    obtain rfl := dSpan_ok g1
    cases n with
    | zero => cases h
    | succ n =>
      exact run2_ok UOk (ih n rfl) (f := fn_slices_Contains_Span) rfl ((run_slices_Contains_Span capB n p0 p1 k).symm.trans h)
  · cases h
theorem ok_recv_pieces {R : Type} {r : R} : ∀ {n : Nat}, (∀ m, n = m + 1 → CallOk2 (R := R) U (callP capB m) (runF tbl m)) → ∀ {av : Fr} {cs : List Fr} {k : Ret2 RW → Option R}, ca_recv_pieces capB n av cs k = some r → ∃ q : Ret2 RW, runF tbl n 28 (TV.los U av) (cs.map (TV.los U)) = some (q.lo U) ∧ k q = some r := by
  intro n ih av cs k h
  unfold ca_recv_pieces at h
  split at h
  · simp only [Option.bind_eq_some_iff] at h
    obtain ⟨c0_, h0, p0, g0, h⟩ := h
    obtain rfl := dA_ok h0
    obtain rfl := dRecv_ok g0
    cases n with
    | zero => cases h
    | succ n =>
      exact run2_ok UOk (ih n rfl) (f := fn_recv_pieces) rfl ((run_recv_pieces capB n p0 k).symm.trans h)
  · cases h
theorem ok_recv_Check {R : Type} {r : R} : ∀ {n : Nat}, (∀ m, n = m + 1 → CallOk2 (R := R) U (callP capB m) (runF tbl m)) → ∀ {av : Fr} {cs : List Fr} {k : Ret2 RW → Option R}, ca_recv_Check capB n av cs k = some r → ∃ q : Ret2 RW, runF tbl n 10 (TV.los U av) (cs.map (TV.los U)) = some (q.lo U) ∧ k q = some r := by
  intro n ih av cs k h
  unfold ca_recv_Check at h
  split at h
  · simp only [Option.bind_eq_some_iff] at h
    obtain ⟨c0_, h0, p0, g0, h⟩ := h
    obtain rfl := dA_ok h0
    obtain rfl := dRecv_ok g0
    cases n with
    | zero => cases h
    | succ n =>
      exact run2_ok UOk (ih n rfl) (f := fn_recv_Check) rfl ((run_recv_Check capB n p0 k).symm.trans h)
  · cases h
theorem ok_recv_window {R : Type} {r : R} : ∀ {n : Nat}, (∀ m, n = m + 1 → CallOk2 (R := R) U (callP capB m) (runF tbl m)) → ∀ {av : Fr} {cs : List Fr} {k : Ret2 RW → Option R}, ca_recv_window capB n av cs k = some r → ∃ q : Ret2 RW, runF tbl n 49 (TV.los U av) (cs.map (TV.los U)) = some (q.lo U) ∧ k q = some r := by
  intro n ih av cs k h
  unfold ca_recv_window at h
  split at h
  · simp only [Option.bind_eq_some_iff] at h
    obtain ⟨c0_, h0, p0, g0, h⟩ := h
    obtain rfl := dA_ok h0
    obtain rfl := dRecv_ok g0
    cases n with
    | zero => cases h
    | succ n =>
      exact run2_ok UOk (ih n rfl) (f := fn_recv_window) rfl ((run_recv_window capB n p0 k).symm.trans h)
  · cases h
theorem ok_recv_New {R : Type} {r : R} : ∀ {n : Nat}, (∀ m, n = m + 1 → CallOk2 (R := R) U (callP capB m) (runF tbl m)) → ∀ {av : Fr} {cs : List Fr} {k : Ret2 RW → Option R}, ca_recv_New capB n av cs k = some r → ∃ q : Ret2 RW, runF tbl n 17 (TV.los U av) (cs.map (TV.los U)) = some (q.lo U) ∧ k q = some r := by
  intro n ih av cs k h
  unfold ca_recv_New at h
  split at h
  · simp only [Option.bind_eq_some_iff] at h
    obtain ⟨p0, h0, p1, h1, p2, h2, p3, h3, p4, h4, p5, h5, h⟩ := h
    obtain rfl := dI_ok h0
    obtain rfl := dI_ok h1
    obtain rfl := dI_ok h2
    obtain rfl := dI_ok h3
    obtain rfl := dB_ok h4
    obtain rfl := dB_ok h5
    cases n with
    | zero => cases h
    | succ n =>
      exact run2_ok UOk (ih n rfl) (f := fn_recv_New) rfl ((run_recv_New capB n p0 p1 p2 p3 p4 p5 k).symm.trans h)
  · cases h
theorem ok_slices_Clone_Span {R : Type} {r : R} : ∀ {n : Nat}, (∀ m, n = m + 1 → CallOk2 (R := R) U (callP capB m) (runF tbl m)) → ∀ {av : Fr} {cs : List Fr} {k : Ret2 RW → Option R}, ca_slices_Clone_Span capB n av cs k = some r → ∃ q : Ret2 RW, runF tbl n 57 (TV.los U av) (cs.map (TV.los U)) = some (q.lo U) ∧ k q = some r := by
  intro n ih av cs k h
  unfold ca_slices_Clone_Span at h
  split at h
  · simp only [Option.bind_eq_some_iff] at h
    obtain ⟨p0, h0, h⟩ := h
    obtain rfl := dRSpan_ok h0
    cases n with
    | zero => cases h
    | succ n =>
      obtain ⟨h1, h2⟩ := cond_some h
      exact ⟨⟨.row true (.rSpan p0), [], []⟩, clone_slices_Clone_Span n p0 h1, h2⟩
  · cases h
theorem ok_bytes_Clone {R : Type} {r : R} : ∀ {n : Nat}, (∀ m, n = m + 1 → CallOk2 (R := R) U (callP capB m) (runF tbl m)) → ∀ {av : Fr} {cs : List Fr} {k : Ret2 RW → Option R}, ca_bytes_Clone capB n av cs k = some r → ∃ q : Ret2 RW, runF tbl n 52 (TV.los U av) (cs.map (TV.los U)) = some (q.lo U) ∧ k q = some r := by
  intro n ih av cs k h
  unfold ca_bytes_Clone at h
  split at h
  · simp only [Option.bind_eq_some_iff] at h
    obtain ⟨p0, h0, h⟩ := h
    obtain rfl := dRuint8_ok h0
    cases n with
    | zero => cases h
    | succ n =>
      obtain ⟨h1, h2⟩ := cond_some h
      exact ⟨⟨.row true (.ruint8 p0), [], []⟩, clone_bytes_Clone n p0 h1, h2⟩
  · cases h
theorem ok_recv_copied {R : Type} {r : R} : ∀ {n : Nat}, (∀ m, n = m + 1 → CallOk2 (R := R) U (callP capB m) (runF tbl m)) → ∀ {av : Fr} {cs : List Fr} {k : Ret2 RW → Option R}, ca_recv_copied capB n av cs k = some r → ∃ q : Ret2 RW, runF tbl n 29 (TV.los U av) (cs.map (TV.los U)) = some (q.lo U) ∧ k q = some r := by
  intro n ih av cs k h
  unfold ca_recv_copied at h
  split at h
  · simp only [Option.bind_eq_some_iff] at h
    obtain ⟨c0_, h0, p0, g0, h⟩ := h
    obtain rfl := dA_ok h0
    obtain rfl := dRecv_ok g0
    cases n with
    | zero => cases h
    | succ n =>
      exact run2_ok UOk (ih n rfl) (f := fn_recv_copied) rfl ((run_recv_copied capB n p0 k).symm.trans h)
  · cases h
theorem ok_seq_Diff {R : Type} {r : R} : ∀ {n : Nat}, (∀ m, n = m + 1 → CallOk2 (R := R) U (callP capB m) (runF tbl m)) → ∀ {av : Fr} {cs : List Fr} {k : Ret2 RW → Option R}, ca_seq_Diff capB n av cs k = some r → ∃ q : Ret2 RW, runF tbl n 31 (TV.los U av) (cs.map (TV.los U)) = some (q.lo U) ∧ k q = some r := by
  intro n ih av cs k h
  unfold ca_seq_Diff at h
  split at h
  · simp only [Option.bind_eq_some_iff] at h
    obtain ⟨p0, h0, p1, h1, h⟩ := h
    obtain rfl := dI_ok h0
    obtain rfl := dI_ok h1
    cases n with
    | zero => cases h
    | succ n =>
      exact run2_ok UOk (ih n rfl) (f := fn_seq_Diff) rfl ((run_seq_Diff capB n p0 p1 k).symm.trans h)
  · cases h
theorem ok_seq_Sum {R : Type} {r : R} : ∀ {n : Nat}, (∀ m, n = m + 1 → CallOk2 (R := R) U (callP capB m) (runF tbl m)) → ∀ {av : Fr} {cs : List Fr} {k : Ret2 RW → Option R}, ca_seq_Sum capB n av cs k = some r → ∃ q : Ret2 RW, runF tbl n 58 (TV.los U av) (cs.map (TV.los U)) = some (q.lo U) ∧ k q = some r := by
  intro n ih av cs k h
  unfold ca_seq_Sum at h
  split at h
  · simp only [Option.bind_eq_some_iff] at h
    obtain ⟨p0, h0, p1, h1, h⟩ := h
    obtain rfl := dI_ok h0
    obtain rfl := dI_ok h1
    cases n with
    | zero => cases h
    | succ n =>
      exact run2_ok UOk (ih n rfl) (f := fn_seq_Sum) rfl ((run_seq_Sum capB n p0 p1 k).symm.trans h)
  · cases h
theorem ok_seq_Unwrap {R : Type} {r : R} : ∀ {n : Nat}, (∀ m, n = m + 1 → CallOk2 (R := R) U (callP capB m) (runF tbl m)) → ∀ {av : Fr} {cs : List Fr} {k : Ret2 RW → Option R}, ca_seq_Unwrap capB n av cs k = some r → ∃ q : Ret2 RW, runF tbl n 30 (TV.los U av) (cs.map (TV.los U)) = some (q.lo U) ∧ k q = some r := by
  intro n ih av cs k h
  unfold ca_seq_Unwrap at h
  split at h
  · simp only [Option.bind_eq_some_iff] at h
    obtain ⟨p0, h0, p1, h1, h⟩ := h
    obtain rfl := dI_ok h0
    obtain rfl := dI_ok h1
    cases n with
    | zero => cases h
    | succ n =>
      exact run2_ok UOk (ih n rfl) (f := fn_seq_Unwrap) rfl ((run_seq_Unwrap capB n p0 p1 k).symm.trans h)
  · cases h
theorem ok_seq_Add {R : Type} {r : R} : ∀ {n : Nat}, (∀ m, n = m + 1 → CallOk2 (R := R) U (callP capB m) (runF tbl m)) → ∀ {av : Fr} {cs : List Fr} {k : Ret2 RW → Option R}, ca_seq_Add capB n av cs k = some r → ∃ q : Ret2 RW, runF tbl n 36 (TV.los U av) (cs.map (TV.los U)) = some (q.lo U) ∧ k q = some r := by
  intro n ih av cs k h
  unfold ca_seq_Add at h
  split at h
  · simp only [Option.bind_eq_some_iff] at h
    obtain ⟨p0, h0, p1, h1, h⟩ := h
    obtain rfl := dI_ok h0
    obtain rfl := dI_ok h1
    cases n with
    | zero => cases h
    | succ n =>
      exact run2_ok UOk (ih n rfl) (f := fn_seq_Add) rfl ((run_seq_Add capB n p0 p1 k).symm.trans h)
  · cases h
theorem ok_recv_tell {R : Type} {r : R} : ∀ {n : Nat}, (∀ m, n = m + 1 → CallOk2 (R := R) U (callP capB m) (runF tbl m)) → ∀ {av : Fr} {cs : List Fr} {k : Ret2 RW → Option R}, ca_recv_tell capB n av cs k = some r → ∃ q : Ret2 RW, runF tbl n 32 (TV.los U av) (cs.map (TV.los U)) = some (q.lo U) ∧ k q = some r := by
  intro n ih av cs k h
  unfold ca_recv_tell at h
  split at h
  · simp only [Option.bind_eq_some_iff] at h
    obtain ⟨c0_, h0, p0, g0, p1, h1, h⟩ := h
    obtain rfl := dA_ok h0
    obtain rfl := dRecv_ok g0
    obtain rfl := dRBlock_ok h1
    cases n with
    | zero => cases h
    | succ n =>
      exact run2_ok UOk (ih n rfl) (f := fn_recv_tell) rfl ((run_recv_tell capB n p0 p1 k).symm.trans h)
  · cases h
theorem ok_recv_end {R : Type} {r : R} : ∀ {n : Nat}, (∀ m, n = m + 1 → CallOk2 (R := R) U (callP capB m) (runF tbl m)) → ∀ {av : Fr} {cs : List Fr} {k : Ret2 RW → Option R}, ca_recv_end capB n av cs k = some r → ∃ q : Ret2 RW, runF tbl n 33 (TV.los U av) (cs.map (TV.los U)) = some (q.lo U) ∧ k q = some r := by
  intro n ih av cs k h
  unfold ca_recv_end at h
  split at h
  · simp only [Option.bind_eq_some_iff] at h
    obtain ⟨c0_, h0, p0, g0, p1, h1, h⟩ := h
    obtain rfl := dA_ok h0
    obtain rfl := dRecv_ok g0
    obtain rfl := dI_ok h1
    cases n with
    | zero => cases h
    | succ n =>
      exact run2_ok UOk (ih n rfl) (f := fn_recv_end) rfl ((run_recv_end capB n p0 p1 k).symm.trans h)
  · cases h
theorem ok_span_may {R : Type} {r : R} : ∀ {n : Nat}, (∀ m, n = m + 1 → CallOk2 (R := R) U (callP capB m) (runF tbl m)) → ∀ {av : Fr} {cs : List Fr} {k : Ret2 RW → Option R}, ca_span_may capB n av cs k = some r → ∃ q : Ret2 RW, runF tbl n 82 (TV.los U av) (cs.map (TV.los U)) = some (q.lo U) ∧ k q = some r := by
  intro n ih av cs k h
  unfold ca_span_may at h
  split at h
  · simp only [Option.bind_eq_some_iff] at h
    obtain ⟨c0_, h0, p0, g0, h⟩ := h
    obtain rfl := dA_ok h0
    obtain rfl := dSpan_ok g0
    cases n with
    | zero => cases h
    | succ n =>
      exact run2_ok UOk (ih n rfl) (f := fn_span_may) rfl ((run_span_may capB n p0 k).symm.trans h)
  · cases h
theorem ok_span_Check {R : Type} {r : R} : ∀ {n : Nat}, (∀ m, n = m + 1 → CallOk2 (R := R) U (callP capB m) (runF tbl m)) → ∀ {av : Fr} {cs : List Fr} {k : Ret2 RW → Option R}, ca_span_Check capB n av cs k = some r → ∃ q : Ret2 RW, runF tbl n 78 (TV.los U av) (cs.map (TV.los U)) = some (q.lo U) ∧ k q = some r := by
  intro n ih av cs k h
  unfold ca_span_Check at h
  split at h
  · simp only [Option.bind_eq_some_iff] at h
    obtain ⟨p0, h0, h⟩ := h
    obtain rfl := dRSpan_ok h0
    cases n with
    | zero => cases h
    | succ n =>
      exact run2_ok UOk (ih n rfl) (f := fn_span_Check) rfl ((run_span_Check capB n p0 k).symm.trans h)
  · cases h
theorem ok_span_within {R : Type} {r : R} : ∀ {n : Nat}, (∀ m, n = m + 1 → CallOk2 (R := R) U (callP capB m) (runF tbl m)) → ∀ {av : Fr} {cs : List Fr} {k : Ret2 RW → Option R}, ca_span_within capB n av cs k = some r → ∃ q : Ret2 RW, runF tbl n 79 (TV.los U av) (cs.map (TV.los U)) = some (q.lo U) ∧ k q = some r := by
  intro n ih av cs k h
  unfold ca_span_within at h
  split at h
  · simp only [Option.bind_eq_some_iff] at h
    obtain ⟨p0, h0, c1_, h1, p1, g1, h⟩ := h
    obtain rfl := dRSpan_ok h0
    obtain rfl := dA_ok h1
    obtain rfl := dSpan_ok g1
    cases n with
    | zero => cases h
    | succ n =>
      exact run2_ok UOk (ih n rfl) (f := fn_span_within) rfl ((run_span_within capB n p0 p1 k).symm.trans h)
  · cases h
theorem ok_span_Gaps {R : Type} {r : R} : ∀ {n : Nat}, (∀ m, n = m + 1 → CallOk2 (R := R) U (callP capB m) (runF tbl m)) → ∀ {av : Fr} {cs : List Fr} {k : Ret2 RW → Option R}, ca_span_Gaps capB n av cs k = some r → ∃ q : Ret2 RW, runF tbl n 61 (TV.los U av) (cs.map (TV.los U)) = some (q.lo U) ∧ k q = some r := by
  intro n ih av cs k h
  unfold ca_span_Gaps at h
  split at h
  · simp only [Option.bind_eq_some_iff] at h
    obtain ⟨p0, h0, c1_, h1, p1, g1, h⟩ := h
    obtain rfl := dRSpan_ok h0
    obtain rfl := dA_ok h1
    obtain rfl := dSpan_ok g1
    cases n with
    | zero => cases h
    | succ n =>
      exact run2_ok UOk (ih n rfl) (f := fn_span_Gaps) rfl ((run_span_Gaps capB n p0 p1 k).symm.trans h)
  · cases h
theorem ok_recv_put_1 {R : Type} {r : R} : ∀ {n : Nat}, (∀ m, n = m + 1 → CallOk2 (R := R) U (callP capB m) (runF tbl m)) → ∀ {av : Fr} {cs : List Fr} {k : Ret2 RW → Option R}, ca_recv_put_1 capB n av cs k = some r → ∃ q : Ret2 RW, runF tbl n 74 (TV.los U av) (cs.map (TV.los U)) = some (q.lo U) ∧ k q = some r := by
  intro n ih av cs k h
  unfold ca_recv_put_1 at h
  split at h
  · simp only [Option.bind_eq_some_iff] at h
    obtain ⟨c0_, h0, p0, g0, p1, h1, h⟩ := h
    obtain rfl := dA_ok h0
    obtain rfl := dPiece_ok g0
    obtain rfl := dI_ok h1
    cases n with
    | zero => cases h
    | succ n =>
      exact run2_ok UOk (ih n rfl) (f := fn_recv_put_1) rfl ((run_recv_put_1 capB n p0 p1 k).symm.trans h)
  · cases h
theorem ok_slices_BinarySearchFunc_Piece {R : Type} {r : R} : ∀ {n : Nat}, (∀ m, n = m + 1 → CallOk2 (R := R) U (callP capB m) (runF tbl m)) → ∀ {av : Fr} {cs : List Fr} {k : Ret2 RW → Option R}, ca_slices_BinarySearchFunc_Piece capB n av cs k = some r → ∃ q : Ret2 RW, runF tbl n 1031 (TV.los U av) (cs.map (TV.los U)) = some (q.lo U) ∧ k q = some r := by
  intro n ih av cs k h
  unfold ca_slices_BinarySearchFunc_Piece at h
  split at h
  · simp only [Option.bind_eq_some_iff] at h
    obtain ⟨p0, h0, p1, h1, u2, h2, h⟩ := h
    obtain rfl := dRPiece_ok h0
    obtain rfl := dI_ok h1
    obtain rfl := dC_ok h2
    cases n with
    | zero => cases h
    | succ n =>
      exact run2_ok UOk (ih n rfl) (f := fn_slices_BinarySearchFunc_Piece) rfl ((run_slices_BinarySearchFunc_Piece capB n p0 p1 k).symm.trans h)
  · cases h
theorem ok_slices_Clone_Piece {R : Type} {r : R} : ∀ {n : Nat}, (∀ m, n = m + 1 → CallOk2 (R := R) U (callP capB m) (runF tbl m)) → ∀ {av : Fr} {cs : List Fr} {k : Ret2 RW → Option R}, ca_slices_Clone_Piece capB n av cs k = some r → ∃ q : Ret2 RW, runF tbl n 1033 (TV.los U av) (cs.map (TV.los U)) = some (q.lo U) ∧ k q = some r := by
  intro n ih av cs k h
  unfold ca_slices_Clone_Piece at h
  split at h
  · simp only [Option.bind_eq_some_iff] at h
    obtain ⟨p0, h0, h⟩ := h
    obtain rfl := dRPiece_ok h0
    cases n with
    | zero => cases h
    | succ n =>
      obtain ⟨h1, h2⟩ := cond_some h
      exact ⟨⟨.un none (.rPiece p0), [], []⟩, clone_slices_Clone_Piece n p0 h1, h2⟩
  · cases h
theorem ok_slices_Insert_Piece {R : Type} {r : R} : ∀ {n : Nat}, (∀ m, n = m + 1 → CallOk2 (R := R) U (callP capB m) (runF tbl m)) → ∀ {av : Fr} {cs : List Fr} {k : Ret2 RW → Option R}, ca_slices_Insert_Piece capB n av cs k = some r → ∃ q : Ret2 RW, runF tbl n 75 (TV.los U av) (cs.map (TV.los U)) = some (q.lo U) ∧ k q = some r := by
  intro n ih av cs k h
  unfold ca_slices_Insert_Piece at h
  split at h
  · simp only [Option.bind_eq_some_iff] at h
    obtain ⟨p0, h0, p1, h1, p2, h2, h⟩ := h
    obtain rfl := dUPiece_ok h0
    obtain rfl := dI_ok h1
    obtain ⟨a2, rfl⟩ := dXPiece_ok h2
    cases n with
    | zero => cases h
    | succ n =>
      obtain ⟨h1, h2⟩ := cond_some h
      obtain ⟨h3, h4⟩ := cond_some h2
      obtain ⟨h5, h6⟩ := cond_some h4
      exact ⟨⟨.un none (.rPiece (insL p0 (Int.toNat p1) p2)), [], []⟩, clone_slices_Insert_Piece n a2 p0 p1 p2 h1 h3 h5, h6⟩
  · cases h
theorem ok_slices_Clip_byte {R : Type} {r : R} : ∀ {n : Nat}, (∀ m, n = m + 1 → CallOk2 (R := R) U (callP capB m) (runF tbl m)) → ∀ {av : Fr} {cs : List Fr} {k : Ret2 RW → Option R}, ca_slices_Clip_byte capB n av cs k = some r → ∃ q : Ret2 RW, runF tbl n 77 (TV.los U av) (cs.map (TV.los U)) = some (q.lo U) ∧ k q = some r := by
  intro n ih av cs k h
  unfold ca_slices_Clip_byte at h
  split at h
  · simp only [Option.bind_eq_some_iff] at h
    obtain ⟨p0, h0, h⟩ := h
    obtain rfl := dRuint8_ok h0
    cases n with
    | zero => cases h
    | succ n =>
      exact run2_ok UOk (ih n rfl) (f := fn_slices_Clip_byte) rfl ((run_slices_Clip_byte capB n p0 k).symm.trans h)
  · cases h
theorem ok_recv_put {R : Type} {r : R} : ∀ {n : Nat}, (∀ m, n = m + 1 → CallOk2 (R := R) U (callP capB m) (runF tbl m)) → ∀ {av : Fr} {cs : List Fr} {k : Ret2 RW → Option R}, ca_recv_put capB n av cs k = some r → ∃ q : Ret2 RW, runF tbl n 60 (TV.los U av) (cs.map (TV.los U)) = some (q.lo U) ∧ k q = some r := by
  intro n ih av cs k h
  unfold ca_recv_put at h
  split at h
  · simp only [Option.bind_eq_some_iff] at h
    obtain ⟨p0, h0, c1_, h1, p1, g1, h⟩ := h
    obtain rfl := dRPiece_ok h0
    obtain rfl := dA_ok h1
    obtain rfl := dPiece_ok g1
    cases n with
    | zero => cases h
    | succ n =>
      exact run2_ok UOk (ih n rfl) (f := fn_recv_put) rfl ((run_recv_put capB n p0 p1 k).symm.trans h)
  · cases h
theorem ok_recv_take_1 {R : Type} {r : R} : ∀ {n : Nat}, (∀ m, n = m + 1 → CallOk2 (R := R) U (callP capB m) (runF tbl m)) → ∀ {av : Fr} {cs : List Fr} {k : Ret2 RW → Option R}, ca_recv_take_1 capB n av cs k = some r → ∃ q : Ret2 RW, runF tbl n 1029 (TV.los U av) (cs.map (TV.los U)) = some (q.lo U) ∧ k q = some r := by
  intro n ih av cs k h
  unfold ca_recv_take_1 at h
  split at h
  · simp only [Option.bind_eq_some_iff] at h
    obtain ⟨c0_, h0, p0, g0, u1, h1, u2, h2, u3, h3, u4, h4, q0, i0, u_1, j1, q1, i1, u_2, j2, q2, i2, u_3, j3, q3, i3, h⟩ := h
    obtain rfl := dA_ok h0
    obtain rfl := dSpan_ok g0
    obtain rfl := dP_ok h1
    obtain rfl := dP_ok h2
    obtain rfl := dP_ok h3
    obtain rfl := dP_ok h4
    obtain rfl := dRecvt_ok i0
    obtain rfl := dOne_ok j1
    obtain rfl := dI_ok i1
    obtain rfl := dOne_ok j2
    obtain rfl := dRuint8_ok i2
    obtain rfl := dOne_ok j3
    obtain rfl := dB_ok i3
    cases n with
    | zero => cases h
    | succ n =>
      exact run2_ok UOk (ih n rfl) (f := fn_recv_take_1) rfl ((run_recv_take_1 capB n p0 q0 q1 q2 q3 k).symm.trans h)
  · cases h
theorem ok_recv_take {R : Type} {r : R} : ∀ {n : Nat}, (∀ m, n = m + 1 → CallOk2 (R := R) U (callP capB m) (runF tbl m)) → ∀ {av : Fr} {cs : List Fr} {k : Ret2 RW → Option R}, ca_recv_take capB n av cs k = some r → ∃ q : Ret2 RW, runF tbl n 34 (TV.los U av) (cs.map (TV.los U)) = some (q.lo U) ∧ k q = some r := by
  intro n ih av cs k h
  unfold ca_recv_take at h
  split at h
  · simp only [Option.bind_eq_some_iff] at h
    obtain ⟨c0_, h0, p0, g0, p1, h1, p2, h2, h⟩ := h
    obtain rfl := dA_ok h0
    obtain rfl := dRecvt_ok g0
    obtain rfl := dI_ok h1
    obtain rfl := dRuint8_ok h2
    cases n with
    | zero => cases h
    | succ n =>
      exact run2_ok UOk (ih n rfl) (f := fn_recv_take) rfl ((run_recv_take capB n p0 p1 p2 k).symm.trans h)
  · cases h
theorem ok_recv_firsts_1 {R : Type} {r : R} : ∀ {n : Nat}, (∀ m, n = m + 1 → CallOk2 (R := R) U (callP capB m) (runF tbl m)) → ∀ {av : Fr} {cs : List Fr} {k : Ret2 RW → Option R}, ca_recv_firsts_1 capB n av cs k = some r → ∃ q : Ret2 RW, runF tbl n 1038 (TV.los U av) (cs.map (TV.los U)) = some (q.lo U) ∧ k q = some r := by
  intro n ih av cs k h
  unfold ca_recv_firsts_1 at h
  split at h
  · simp only [Option.bind_eq_some_iff] at h
    obtain ⟨c0_, h0, p0, g0, u1, h1, q0, i0, h⟩ := h
    obtain rfl := dA_ok h0
    obtain rfl := dSpan_ok g0
    obtain rfl := dP_ok h1
    obtain rfl := dSpan_ok i0
    cases n with
    | zero => cases h
    | succ n =>
      exact run2_ok UOk (ih n rfl) (f := fn_recv_firsts_1) rfl ((run_recv_firsts_1 capB n p0 q0 k).symm.trans h)
  · cases h
theorem ok_slices_IndexFunc_Span {R : Type} {r : R} : ∀ {n : Nat}, (∀ m, n = m + 1 → CallOk2 (R := R) U (callP capB m) (runF tbl m)) → ∀ {av : Fr} {cs : List Fr} {k : Ret2 RW → Option R}, ca_slices_IndexFunc_Span capB n av cs k = some r → ∃ q : Ret2 RW, runF tbl n 1037 (TV.los U av) (cs.map (TV.los U)) = some (q.lo U) ∧ k q = some r := by
  intro n ih av cs k h
  unfold ca_slices_IndexFunc_Span at h
  split at h
  · simp only [Option.bind_eq_some_iff] at h
    obtain ⟨p0, h0, u1, h1, q0, i0, h⟩ := h
    obtain rfl := dRSpan_ok h0
    obtain rfl := dC_ok h1
    obtain rfl := dSpan_ok i0
    cases n with
    | zero => cases h
    | succ n =>
      exact run2_ok UOk (ih n rfl) (f := fn_slices_IndexFunc_Span) rfl ((run_slices_IndexFunc_Span capB n p0 q0 k).symm.trans h)
  · cases h
theorem ok_recv_firsts {R : Type} {r : R} : ∀ {n : Nat}, (∀ m, n = m + 1 → CallOk2 (R := R) U (callP capB m) (runF tbl m)) → ∀ {av : Fr} {cs : List Fr} {k : Ret2 RW → Option R}, ca_recv_firsts capB n av cs k = some r → ∃ q : Ret2 RW, runF tbl n 35 (TV.los U av) (cs.map (TV.los U)) = some (q.lo U) ∧ k q = some r := by
  intro n ih av cs k h
  unfold ca_recv_firsts at h
  split at h
  · simp only [Option.bind_eq_some_iff] at h
    obtain ⟨c0_, h0, p0, g0, p1, h1, p2, h2, h⟩ := h
    obtain rfl := dA_ok h0
    obtain rfl := dRecv_ok g0
    obtain rfl := dI_ok h1
    obtain rfl := dRuint8_ok h2
    cases n with
    | zero => cases h
    | succ n =>
      exact run2_ok UOk (ih n rfl) (f := fn_recv_firsts) rfl ((run_recv_firsts capB n p0 p1 p2 k).symm.trans h)
  · cases h
theorem ok_recv_Input {R : Type} {r : R} : ∀ {n : Nat}, (∀ m, n = m + 1 → CallOk2 (R := R) U (callP capB m) (runF tbl m)) → ∀ {av : Fr} {cs : List Fr} {k : Ret2 RW → Option R}, ca_recv_Input capB n av cs k = some r → ∃ q : Ret2 RW, runF tbl n 12 (TV.los U av) (cs.map (TV.los U)) = some (q.lo U) ∧ k q = some r := by
  intro n ih av cs k h
  unfold ca_recv_Input at h
  split at h
  · simp only [Option.bind_eq_some_iff] at h
    obtain ⟨c0_, h0, p0, g0, c1_, h1, p1, g1, h⟩ := h
    obtain rfl := dA_ok h0
    obtain rfl := dRecv_ok g0
    obtain rfl := dA_ok h1
    obtain rfl := dSegment_ok g1
    cases n with
    | zero => cases h
    | succ n =>
      exact run2_ok UOk (ih n rfl) (f := fn_recv_Input) rfl ((run_recv_Input capB n p0 p1 k).symm.trans h)
  · cases h
theorem ok_seq_Clamp {R : Type} {r : R} : ∀ {n : Nat}, (∀ m, n = m + 1 → CallOk2 (R := R) U (callP capB m) (runF tbl m)) → ∀ {av : Fr} {cs : List Fr} {k : Ret2 RW → Option R}, ca_seq_Clamp capB n av cs k = some r → ∃ q : Ret2 RW, runF tbl n 51 (TV.los U av) (cs.map (TV.los U)) = some (q.lo U) ∧ k q = some r := by
  intro n ih av cs k h
  unfold ca_seq_Clamp at h
  split at h
  · simp only [Option.bind_eq_some_iff] at h
    obtain ⟨p0, h0, p1, h1, p2, h2, h⟩ := h
    obtain rfl := dI_ok h0
    obtain rfl := dI_ok h1
    obtain rfl := dI_ok h2
    cases n with
    | zero => cases h
    | succ n =>
      exact run2_ok UOk (ih n rfl) (f := fn_seq_Clamp) rfl ((run_seq_Clamp capB n p0 p1 p2 k).symm.trans h)
  · cases h
theorem ok_recv_Read {R : Type} {r : R} : ∀ {n : Nat}, (∀ m, n = m + 1 → CallOk2 (R := R) U (callP capB m) (runF tbl m)) → ∀ {av : Fr} {cs : List Fr} {k : Ret2 RW → Option R}, ca_recv_Read capB n av cs k = some r → ∃ q : Ret2 RW, runF tbl n 20 (TV.los U av) (cs.map (TV.los U)) = some (q.lo U) ∧ k q = some r := by
  intro n ih av cs k h
  unfold ca_recv_Read at h
  split at h
  · simp only [Option.bind_eq_some_iff] at h
    obtain ⟨c0_, h0, p0, g0, p1, h1, h⟩ := h
    obtain rfl := dA_ok h0
    obtain rfl := dRecv_ok g0
    obtain rfl := dI_ok h1
    cases n with
    | zero => cases h
    | succ n =>
      exact run2_ok UOk (ih n rfl) (f := fn_recv_Read) rfl ((run_recv_Read capB n p0 p1 k).symm.trans h)
  · cases h
theorem ok_recv_Window {R : Type} {r : R} : ∀ {n : Nat}, (∀ m, n = m + 1 → CallOk2 (R := R) U (callP capB m) (runF tbl m)) → ∀ {av : Fr} {cs : List Fr} {k : Ret2 RW → Option R}, ca_recv_Window capB n av cs k = some r → ∃ q : Ret2 RW, runF tbl n 22 (TV.los U av) (cs.map (TV.los U)) = some (q.lo U) ∧ k q = some r := by
  intro n ih av cs k h
  unfold ca_recv_Window at h
  split at h
  · simp only [Option.bind_eq_some_iff] at h
    obtain ⟨c0_, h0, p0, g0, h⟩ := h
    obtain rfl := dA_ok h0
    obtain rfl := dRecv_ok g0
    cases n with
    | zero => cases h
    | succ n =>
      exact run2_ok UOk (ih n rfl) (f := fn_recv_Window) rfl ((run_recv_Window capB n p0 k).symm.trans h)
  · cases h
theorem ok_law08_heads {R : Type} {r : R} : ∀ {n : Nat}, (∀ m, n = m + 1 → CallOk2 (R := R) U (callP capB m) (runF tbl m)) → ∀ {av : Fr} {cs : List Fr} {k : Ret2 RW → Option R}, ca_law08_heads capB n av cs k = some r → ∃ q : Ret2 RW, runF tbl n 11 (TV.los U av) (cs.map (TV.los U)) = some (q.lo U) ∧ k q = some r := by
  intro n ih av cs k h
  unfold ca_law08_heads at h
  split at h
  · cases n with
    | zero => cases h
    | succ n =>
      exact run2_ok UOk (ih n rfl) (f := fn_law08_heads) rfl ((run_law08_heads capB n  k).symm.trans h)
  · cases h
theorem ok_law08_RecvOld {R : Type} {r : R} : ∀ {n : Nat}, (∀ m, n = m + 1 → CallOk2 (R := R) U (callP capB m) (runF tbl m)) → ∀ {av : Fr} {cs : List Fr} {k : Ret2 RW → Option R}, ca_law08_RecvOld capB n av cs k = some r → ∃ q : Ret2 RW, runF tbl n 3 (TV.los U av) (cs.map (TV.los U)) = some (q.lo U) ∧ k q = some r := by
  intro n ih av cs k h
  unfold ca_law08_RecvOld at h
  split at h
  · simp only [Option.bind_eq_some_iff] at h
    obtain ⟨c0_, h0, p0, g0, c1_, h1, p1, g1, p2, h2, h⟩ := h
    obtain rfl := dA_ok h0
    obtain rfl := dRecv_ok g0
    obtain rfl := dA_ok h1
    obtain rfl := dSegment_ok g1
    obtain rfl := dI_ok h2
    cases n with
    | zero => cases h
    | succ n =>
      exact run2_ok UOk (ih n rfl) (f := fn_law08_RecvOld) rfl ((run_law08_RecvOld capB n p0 p1 p2 k).symm.trans h)
  · cases h
theorem callOk {R : Type} : ∀ n, CallOk2 (R := R) U (callP capB n) (runF tbl n)
  | n => fun id av cells k r h => by
    have ih : ∀ m, n = m + 1 → CallOk2 (R := R) U (callP capB m) (runF tbl m) := fun m e => callOk m
    unfold callP at h
    split at h
    · exact ok_recv_reach ih h
    · exact ok_recv_limit ih h
    · exact ok_recv_late ih h
    · exact ok_recv_of ih h
    · exact ok_slices_AppendSeq_Span ih h
    · exact ok_slices_Collect ih h
    · exact ok_slices_Index_Span ih h
    · exact ok_slices_Contains_Span ih h
    · exact ok_recv_pieces ih h
    · exact ok_recv_Check ih h
    · exact ok_recv_window ih h
    · exact ok_recv_New ih h
    · exact ok_slices_Clone_Span ih h
    · exact ok_bytes_Clone ih h
    · exact ok_recv_copied ih h
    · exact ok_seq_Diff ih h
    · exact ok_seq_Sum ih h
    · exact ok_seq_Unwrap ih h
    · exact ok_seq_Add ih h
    · exact ok_recv_tell ih h
    · exact ok_recv_end ih h
    · exact ok_span_may ih h
    · exact ok_span_Check ih h
    · exact ok_span_within ih h
    · exact ok_span_Gaps ih h
    · exact ok_recv_put_1 ih h
    · exact ok_slices_BinarySearchFunc_Piece ih h
    · exact ok_slices_Clone_Piece ih h
    · exact ok_slices_Insert_Piece ih h
    · exact ok_slices_Clip_byte ih h
    · exact ok_recv_put ih h
    · exact ok_recv_take_1 ih h
    · exact ok_recv_take ih h
    · exact ok_recv_firsts_1 ih h
    · exact ok_slices_IndexFunc_Span ih h
    · exact ok_recv_firsts ih h
    · exact ok_recv_Input ih h
    · exact ok_seq_Clamp ih h
    · exact ok_recv_Read ih h
    · exact ok_recv_Window ih h
    · exact ok_law08_heads ih h
    · exact ok_law08_RecvOld ih h
    · cases h
termination_by n => n
decreasing_by omega
end
end Go.Proofs.Ytilmdmjhdidoiaa.M
