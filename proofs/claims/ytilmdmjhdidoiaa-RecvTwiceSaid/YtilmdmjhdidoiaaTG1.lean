/- The machine's code of the functions, and that it computes them. -/
import Derived.Test.YtilmdmjhdidoiaaTG1a
import Derived.Test.YtilmdmjhdidoiaaProg
import Derived.KernelRfl
set_option maxRecDepth 100000
set_option linter.unusedVariables false
set_option linter.unusedSimpArgs false
namespace Go.Proofs.Ytilmdmjhdidoiaa.M
open Go
noncomputable section
variable {R : Type}
def fr61_46 (p1 : SSpan) (v90 : (List SSpan)) (v91 v92 : Int) : FF := [.yld :: (.ptr 74 0) :: (.ptr 76 0) :: (dT 13 []), dc, dc, dc, (.hdr 2) :: ((eSpan p1) ++ ((.hdr 1) :: (.row true (.rSpan [])) :: (.hdr 1) :: (tL p1.xFrom) :: (dT 3 ((.hdr 1) :: (.row false (.rSpan v90)) :: (.hdr 2) :: (tL v91) :: (tL v92) :: (dT 1 []))))), dc]
theorem s61_45_t (cp : CP) (n : Nat) (p1 : SSpan) (v90 : (List SSpan)) (v91 v92 : Int) (k : KX R) : XI cp n (y61_6 cp n) i61_3 (fr61_46 p1 v90 v91 v92) k = s61_45 cp n p1 v90 v91 v92 (fun v121 v122 => k .norm (fr61_44 p1 v90 v91 v92 v121 v122)) := ((fun c => (show XI cp n (y61_6 cp n) (.seq (.fin (.reg g61_1000) [1] []) c) (fr61_46 p1 v90 v91 v92) k = s61_8 cp n p1 v90 v91 v92 (fun v93 => XI cp n (y61_6 cp n) c (fr61_9 p1 v90 v91 v92 v93) k) from by kernel_rfl)) i61_13).trans (congrArg (fun q => s61_8 cp n p1 v90 v91 v92 q) (funext fun v93 => (s61_43_t cp n p1 v90 v91 v92 v93 k).trans (show s61_43 cp n p1 v90 v91 v92 v93 (fun v119 v120 => k .norm (fr61_42 p1 v90 v91 v92 v119 v120)) = s61_43 cp n p1 v90 v91 v92 v93 (fun v119 v120 => k .norm (fr61_44 p1 v90 v91 v92 v119 v120)) from by kernel_rfl)))
def fr61_47 (p1 : SSpan) (v123 : (List SSpan)) (v124 : Int) : FF := [dT 3 ((.ptr 64 0) :: (dT 1 ((.ptr 67 0) :: (.ptr 69 0) :: (dT 9 [])))), dc, dc, dc, (.hdr 2) :: ((eSpan p1) ++ ((.hdr 1) :: (.row true (.rSpan v123)) :: (.hdr 1) :: (tL v124) :: (dT 9 []))), dc]
theorem s61_48_t (cp : CP) (n : Nat) (p1 : SSpan) (v90 : (List SSpan)) (v91 v92 : Int) (k : KX R) : X cp n i61_14 (fr61_5 p1 v90 v91 v92) k = s61_48 cp n p1 v90 v91 v92 (fun v123 v124 => k .norm (fr61_47 p1 v123 v124)) := (show X cp n i61_14 (fr61_5 p1 v90 v91 v92) k = XI cp n (roundK2 4 [23] [64, 67, 69, 74, 76, 79, 82] (fr61_5 p1 v90 v91 v92) (X cp n i61_0) (X cp n i61_1)) i61_3 (fr61_46 p1 v90 v91 v92) (rfnT 4 (fr61_5 p1 v90 v91 v92) (clrT [22] [(74, 1), (76, 2)] k)) from rfn_eq (v := .clo 83 [(74, 0), (76, 0)]) (by kernel_rfl) (by kernel_rfl) (by kernel_rfl) _ _ _).trans ((congrArg (fun Y => XI cp n Y i61_3 (fr61_46 p1 v90 v91 v92) (rfnT 4 (fr61_5 p1 v90 v91 v92) (clrT [22] [(74, 1), (76, 2)] k))) ((rnd_eq 4 [23] [64, 67, 69, 74, 76, 79, 82] (fr61_5 p1 v90 v91 v92) i61_0 i61_1).trans (show rndT 4 [23] [64, 67, 69, 74, 76, 79, 82] (fr61_5 p1 v90 v91 v92) (X cp n i61_2) = (y61_6 cp n) from by kernel_rfl))).trans ((s61_45_t cp n p1 v90 v91 v92 (rfnT 4 (fr61_5 p1 v90 v91 v92) (clrT [22] [(74, 1), (76, 2)] k))).trans (by kernel_rfl)))
def fr61_49 (p1 : SSpan) (v125 : (List SSpan)) (v126 : Int) : FF := [dT 3 ((.ptr 64 0) :: (dT 1 ((.ptr 67 0) :: (.ptr 69 0) :: (dT 9 [])))), dc, dc, dc, (.hdr 2) :: ((eSpan p1) ++ ((.hdr 1) :: (.row true (.rSpan v125)) :: (.hdr 1) :: (tL v126) :: (dT 9 []))), dc]
theorem s61_50_t (cp : CP) (n : Nat) (p1 : SSpan) (v90 : (List SSpan)) (v91 v92 : Int) (k : KX R) : X cp n i61_15 (fr61_5 p1 v90 v91 v92) k = s61_50 cp n p1 v90 v91 v92 (fun v125 v126 => k .norm (fr61_49 p1 v125 v126)) := (show X cp n i61_15 (fr61_5 p1 v90 v91 v92) k = X cp n i61_14 (fr61_5 p1 v90 v91 v92) (blkT 0 k) from by kernel_rfl).trans ((s61_48_t cp n p1 v90 v91 v92 (blkT 0 k)).trans (by kernel_rfl))
def fr61_51 (p1 : SSpan) (v127 : (List SSpan)) (v128 : Int) : FF := [dT 3 ((.ptr 64 0) :: (dT 1 ((.ptr 67 0) :: (.ptr 69 0) :: (dT 9 [])))), dc, dc, dc, (.hdr 2) :: ((eSpan p1) ++ ((.hdr 1) :: (.row true (.rSpan v127)) :: (.hdr 1) :: (tL v128) :: (dT 9 []))), dc]
theorem s61_52_t (cp : CP) (n : Nat) (p0 : (List SSpan)) (p1 : SSpan) (k : KX R) : X cp n i61_16 (fr61_2 p0 p1) k = s61_52 cp n p0 p1 (fun v127 v128 => k .norm (fr61_51 p1 v127 v128)) := ((fun c => (show X cp n (.seq (.fin (.reg g61_5) [0, 20, 21] []) c) (fr61_2 p0 p1) k = s61_4 cp n p0 p1 (fun v90 v91 v92 => X cp n c (fr61_5 p1 v90 v91 v92) k) from by kernel_rfl)) i61_15).trans (congrArg (fun q => s61_4 cp n p0 p1 q) (funext fun v90 => funext fun v91 => funext fun v92 => (s61_50_t cp n p1 v90 v91 v92 k).trans (show s61_50 cp n p1 v90 v91 v92 (fun v125 v126 => k .norm (fr61_49 p1 v125 v126)) = s61_50 cp n p1 v90 v91 v92 (fun v125 v126 => k .norm (fr61_51 p1 v125 v126)) from by kernel_rfl)))
def fr61_54 (v129 : (List SSpan)) : FF := [dT 4 ((.row false (.rSpan v129)) :: (dT 11 [])), dc, dc, dc, dc, dc]
theorem s61_53_t (cp : CP) (n : Nat) (p1 : SSpan) (v127 : (List SSpan)) (v128 : Int) (k : KX R) : X cp n i61_17 (fr61_51 p1 v127 v128) k = s61_53 cp n p1 v127 v128 (fun v129 => k .ret (fr61_54 v129)) := by kernel_rfl
def fr61_55 (v130 : (List SSpan)) : FF := [dT 4 ((.row false (.rSpan v130)) :: (dT 11 [])), dc, dc, dc, dc, dc]
theorem s61_56_t (cp : CP) (n : Nat) (p0 : (List SSpan)) (p1 : SSpan) (k : KX R) : X cp n i61_18 (fr61_2 p0 p1) k = s61_56 cp n p0 p1 (fun v130 => k .ret (fr61_55 v130)) := (show X cp n i61_18 (fr61_2 p0 p1) k = X cp n i61_16 (fr61_2 p0 p1) (seqT (X cp n) i61_17 k) from by kernel_rfl).trans ((show X cp n i61_16 (fr61_2 p0 p1) (seqT (X cp n) i61_17 k) = s61_52 cp n p0 p1 (fun v127 v128 => X cp n i61_17 (fr61_51 p1 v127 v128) k) from (s61_52_t cp n p0 p1 (seqT (X cp n) i61_17 k)).trans (by kernel_rfl)).trans (congrArg (fun q => s61_52 cp n p0 p1 q) (funext fun v127 => funext fun v128 => (s61_53_t cp n p1 v127 v128 k).trans (show s61_53 cp n p1 v127 v128 (fun v129 => k .ret (fr61_54 v129)) = s61_53 cp n p1 v127 v128 (fun v129 => k .ret (fr61_55 v129)) from by kernel_rfl))))
def fr61_57 (v131 : (List SSpan)) : FF := [dT 4 ((.row false (.rSpan v131)) :: (dT 11 [])), dc, dc, dc, dc, dc]
def fr61_59 (p0 : (List SSpan)) (p1 : SSpan) : FF := [(.row false (.rSpan p0)) :: (.agg (eSpan p1)) :: (dT 14 []), dc, dc, dc, dc, dc]
theorem s61_58_t (cp : CP) (n : Nat) (p0 : (List SSpan)) (p1 : SSpan) (k : KX R) : X cp n i61_19 (fr61_59 p0 p1) k = s61_58 cp n p0 p1 (fun v131 => k .ret (fr61_57 v131)) := ((fun c => (show X cp n (.seq (.fin (.reg g61_0) [1, 4] []) (.seq (.seq (.fin (.reg g61_1) [8, 9, 10, 11, 12, 13, 14, 15, 16] []) (.fin (.cond (.s 17) (.seq (.fin (.reg g61_2) [0, 3, 17] [(64, 2)]) (.ret)) (.skip)) [17] [])) (.seq (.reg g61_3) (.seq (.fin (.reg g61_4) [18, 19] []) c)))) (fr61_59 p0 p1) k = s61_1 cp n p0 p1 (X cp n c (fr61_2 p0 p1) k) (k .ret (fr61_57 [])) from by kernel_rfl)) i61_18).trans (congrArg (fun q => s61_1 cp n p0 p1 q (k .ret (fr61_57 []))) ((s61_56_t cp n p0 p1 k).trans (show s61_56 cp n p0 p1 (fun v130 => k .ret (fr61_55 v130)) = s61_56 cp n p0 p1 (fun v130 => k .ret (fr61_57 v130)) from by kernel_rfl)))
theorem run61 (cp : CP) (n : Nat) (p0 : (List SSpan)) (p1 : SSpan) (k : Ret2 RW → Option R) : G61 cp (n + 1) p0 p1 (fun r0 => k ⟨.row false (.rSpan r0), [], []⟩) = run2 U cp (callP cp n) n fn61 [.row false (.rSpan p0), .agg (eSpan p1)] [] k := ((X_run (f := fn61) (av := [.row false (.rSpan p0), .agg (eSpan p1)]) (cells := []) (code := i61_19) (fr := (fr61_59 p0 p1)) (k := k) (by kernel_rfl) (fun K => by kernel_rfl)).trans ((s61_58_t cp n p0 p1 (finK2 fn61 k)).trans (by kernel_rfl))).symm
/-! tideway/recv.put$1 -/
theorem run74 (cp : CP) (n : Nat) (p0 : SPiece) (p1 : Int) (k : Ret2 RW → Option R) : G74 cp (n + 1) p0 p1 (fun r0 => k ⟨(tL r0), [], []⟩) = run2 U cp (callP cp n) n fn74 [.agg (ePiece p0), (tL p1)] [] k := by kernel_rfl
/-! slices.BinarySearchFunc[[]tideway/api.Piece,tideway/api.Piece,int] -/
def fr1029_2 (p0 : (List SPiece)) (p1 v135 : Int) : FF := [(.row false (.rPiece p0)) :: (tL p1) :: (.clo 74 []) :: (dT 5 ((tL v135) :: (tL 0) :: (tL v135) :: (dT 5 []))), dc, dc, dc]
def fr1029_4 (p0 : (List SPiece)) (p1 v135 v139 v140 : Int) : FF := [(.row false (.rPiece p0)) :: (tL p1) :: (.clo 74 []) :: (dT 5 ((tL v135) :: (tL v139) :: (tL v140) :: (dT 5 []))), dc, dc, dc]
def fr1029_5 (p0 : (List SPiece)) (p1 v135 v136 : Int) : FF := [(.row false (.rPiece p0)) :: (tL p1) :: (.clo 74 []) :: (dT 5 ((tL v135) :: (tL v136) :: (dT 6 []))), dc, dc, dc]
def fr1029_6 (p0 : (List SPiece)) (p1 v135 v136 v137 : Int) : FF := [(.row false (.rPiece p0)) :: (tL p1) :: (.clo 74 []) :: (dT 5 ((tL v135) :: (tL v136) :: (tL v137) :: (dT 5 []))), dc, dc, dc]
theorem s1029_3_t (cp : CP) (n : Nat) (p0 : (List SPiece)) (p1 v135 v136 v137 : Int) (k : KX R) : X cp n i1029_0 (fr1029_6 p0 p1 v135 v136 v137) k = s1029_3 cp n p0 p1 v135 v136 v137 (fun v139 v140 => k .norm (fr1029_4 p0 p1 v135 v139 v140)) (k (.exit 0) (fr1029_5 p0 p1 v135 v136)) := by kernel_rfl
def fr1029_7 (p0 : (List SPiece)) (p1 v135 v141 : Int) : FF := [(.row false (.rPiece p0)) :: (tL p1) :: (.clo 74 []) :: (dT 5 ((tL v135) :: (tL v141) :: (dT 6 []))), dc, dc, dc]
theorem l1029_8_t (cp : CP) (n : Nat) : ∀ (m : Nat) (p0 : (List SPiece)) (p1 v135 v136 v137 : Int) (k : KX R), loopN2 (X cp n i1029_0) m (fr1029_6 p0 p1 v135 v136 v137) k = l1029_8 cp n m p0 p1 v135 v136 v137 (fun v141 => k (.exit 0) (fr1029_7 p0 p1 v135 v141))
  | 0, _, _, _, _, _, _ => rfl
  | m + 1, p0, p1, v135, v136, v137, k => (loopN2_succ (X cp n i1029_0) m (fr1029_6 p0 p1 v135 v136 v137) k).trans ((s1029_3_t cp n p0 p1 v135 v136 v137 (loopT (X cp n i1029_0) m k)).trans ((show s1029_3 cp n p0 p1 v135 v136 v137 (fun v139 v140 => loopT (X cp n i1029_0) m k .norm (fr1029_4 p0 p1 v135 v139 v140)) (loopT (X cp n i1029_0) m k (.exit 0) (fr1029_5 p0 p1 v135 v136)) = s1029_3 cp n p0 p1 v135 v136 v137 (fun v139 v140 => loopN2 (X cp n i1029_0) m (fr1029_6 p0 p1 v135 v139 v140) k) (k (.exit 0) (fr1029_7 p0 p1 v135 v136)) from by kernel_rfl).trans (congrArg (fun q => s1029_3 cp n p0 p1 v135 v136 v137 q (k (.exit 0) (fr1029_7 p0 p1 v135 v136))) (funext fun v139 => funext fun v140 => l1029_8_t cp n m p0 p1 v135 v139 v140 k))))
theorem s1029_9_t (cp : CP) (n : Nat) (p0 : (List SPiece)) (p1 v135 : Int) (k : KX R) : X cp n i1029_1 (fr1029_2 p0 p1 v135) k = s1029_9 cp n p0 p1 v135 (fun v141 => k (.exit 0) (fr1029_7 p0 p1 v135 v141)) := (show X cp n i1029_1 (fr1029_2 p0 p1 v135) k = loopN2 (X cp n i1029_0) n (fr1029_6 p0 p1 v135 0 v135) k from by kernel_rfl).trans (l1029_8_t cp n n p0 p1 v135 0 v135 k)
def fr1029_10 (p0 : (List SPiece)) (p1 v135 v142 : Int) : FF := [(.row false (.rPiece p0)) :: (tL p1) :: (.clo 74 []) :: (dT 5 ((tL v135) :: (tL v142) :: (dT 6 []))), dc, dc, dc]
theorem s1029_11_t (cp : CP) (n : Nat) (p0 : (List SPiece)) (p1 v135 : Int) (k : KX R) : X cp n i1029_2 (fr1029_2 p0 p1 v135) k = s1029_11 cp n p0 p1 v135 (fun v142 => k .norm (fr1029_10 p0 p1 v135 v142)) := (show X cp n i1029_2 (fr1029_2 p0 p1 v135) k = X cp n i1029_1 (fr1029_2 p0 p1 v135) (blkT 0 k) from by kernel_rfl).trans ((s1029_9_t cp n p0 p1 v135 (blkT 0 k)).trans (by kernel_rfl))
def fr1029_13 (v142 : Int) (v144 : Bool) : FF := [dT 6 ((tL v142) :: (tB v144) :: (dT 8 [])), dc, dc, dc]
theorem s1029_12_t (cp : CP) (n : Nat) (p0 : (List SPiece)) (p1 v135 v142 : Int) (k : KX R) : X cp n i1029_3 (fr1029_10 p0 p1 v135 v142) k = s1029_12 cp n p0 p1 v135 v142 (fun v144 => k .ret (fr1029_13 v142 v144)) := by kernel_rfl
def fr1029_14 (v145 : Int) (v146 : Bool) : FF := [dT 6 ((tL v145) :: (tB v146) :: (dT 8 [])), dc, dc, dc]
theorem s1029_15_t (cp : CP) (n : Nat) (p0 : (List SPiece)) (p1 v135 : Int) (k : KX R) : X cp n i1029_4 (fr1029_2 p0 p1 v135) k = s1029_15 cp n p0 p1 v135 (fun v145 v146 => k .ret (fr1029_14 v145 v146)) := (show X cp n i1029_4 (fr1029_2 p0 p1 v135) k = X cp n i1029_2 (fr1029_2 p0 p1 v135) (seqT (X cp n) i1029_3 k) from by kernel_rfl).trans ((show X cp n i1029_2 (fr1029_2 p0 p1 v135) (seqT (X cp n) i1029_3 k) = s1029_11 cp n p0 p1 v135 (fun v142 => X cp n i1029_3 (fr1029_10 p0 p1 v135 v142) k) from (s1029_11_t cp n p0 p1 v135 (seqT (X cp n) i1029_3 k)).trans (by kernel_rfl)).trans (congrArg (fun q => s1029_11 cp n p0 p1 v135 q) (funext fun v142 => (s1029_12_t cp n p0 p1 v135 v142 k).trans (show s1029_12 cp n p0 p1 v135 v142 (fun v144 => k .ret (fr1029_13 v142 v144)) = s1029_12 cp n p0 p1 v135 v142 (fun v144 => k .ret (fr1029_14 v142 v144)) from by kernel_rfl))))
def fr1029_16 (v147 : Int) (v148 : Bool) : FF := [dT 6 ((tL v147) :: (tB v148) :: (dT 8 [])), dc, dc, dc]
def fr1029_18 (p0 : (List SPiece)) (p1 : Int) : FF := [(.row false (.rPiece p0)) :: (tL p1) :: (.clo 74 []) :: (dT 13 []), dc, dc, dc]
theorem s1029_17_t (cp : CP) (n : Nat) (p0 : (List SPiece)) (p1 : Int) (k : KX R) : X cp n i1029_5 (fr1029_18 p0 p1) k = s1029_17 cp n p0 p1 (fun v147 v148 => k .ret (fr1029_16 v147 v148)) := ((fun c => (show X cp n (.seq (.fin (.reg g1029_0) [6, 7] []) (.seq (.fin (.reg g1029_1) [12, 13] []) (.seq (.fin (.reg g1029_2) [14] []) c))) (fr1029_18 p0 p1) k = s1029_1 cp n p0 p1 (fun v135 => X cp n c (fr1029_2 p0 p1 v135) k) from by kernel_rfl)) i1029_4).trans (congrArg (fun q => s1029_1 cp n p0 p1 q) (funext fun v135 => (s1029_15_t cp n p0 p1 v135 k).trans (show s1029_15 cp n p0 p1 v135 (fun v145 v146 => k .ret (fr1029_14 v145 v146)) = s1029_15 cp n p0 p1 v135 (fun v145 v146 => k .ret (fr1029_16 v145 v146)) from by kernel_rfl)))
theorem run1029 (cp : CP) (n : Nat) (p0 : (List SPiece)) (p1 : Int) (k : Ret2 RW → Option R) : G1029 cp (n + 1) p0 p1 (fun r0 r1 => k ⟨.tup [(tL r0), (tB r1)], [], []⟩) = run2 U cp (callP cp n) n fn1029 [.row false (.rPiece p0), (tL p1), .clo 74 []] [] k := ((X_run (f := fn1029) (av := [.row false (.rPiece p0), (tL p1), .clo 74 []]) (cells := []) (code := i1029_5) (fr := (fr1029_18 p0 p1)) (k := k) (by kernel_rfl) (fun K => by kernel_rfl)).trans ((s1029_17_t cp n p0 p1 (finK2 fn1029 k)).trans (by kernel_rfl))).symm
/-! slices.Clip[[]byte,byte] -/
theorem run77 (cp : CP) (n : Nat) (p0 : (List Int)) (k : Ret2 RW → Option R) : G77 cp (n + 1) p0 (fun r0 => k ⟨.row true (.ruint8 r0), [], []⟩) = run2 U cp (callP cp n) n fn77 [.row false (.ruint8 p0)] [] k := by kernel_rfl
/-! tideway/recv.put -/
def fr60_2 (v166 : (List SPiece)) : FF := [(.row true (.rPiece v166)) :: (dT 6 ((.un none (.rPiece [])) :: (dT 8 []))), dc, dc, dc, dc]
def fr60_4 (v166 : (List SPiece)) (v167 : Int) : FF := [dT 7 ((.un none (.rPiece [])) :: (dT 8 [])), dT 13 ([.row false (.rPiece v166), (tL v167), (tL 0)]), dc, dc, dc]
def fr60_6 (v166 : (List SPiece)) (v167 : Int) (v172 : (List SPiece)) (v173 : Int) : FF := [dT 7 ((.un none (.rPiece v172)) :: (dT 8 [])), dT 13 ([.row false (.rPiece v166), (tL v167), (tL v173)]), dc, dc, dc]
def fr60_7 (v168 : (List SPiece)) : FF := [dT 7 ((.un none (.rPiece v168)) :: (dT 8 [])), dc, dc, dc, dc]
def fr60_8 (v166 : (List SPiece)) (v167 : Int) (v168 : (List SPiece)) (v169 : Int) : FF := [dT 7 ((.un none (.rPiece v168)) :: (dT 8 [])), dT 13 ([.row false (.rPiece v166), (tL v167), (tL v169)]), dc, dc, dc]
theorem s60_5_t (cp : CP) (n : Nat) (v166 : (List SPiece)) (v167 : Int) (v168 : (List SPiece)) (v169 : Int) (k : KX R) : X cp n i60_0 (fr60_8 v166 v167 v168 v169) k = s60_5 cp n v166 v167 v168 v169 (fun v172 v173 => k .norm (fr60_6 v166 v167 v172 v173)) (k (.exit 0) (fr60_7 v168)) := by kernel_rfl
def fr60_9 (v174 : (List SPiece)) : FF := [dT 7 ((.un none (.rPiece v174)) :: (dT 8 [])), dc, dc, dc, dc]
theorem l60_10_t (cp : CP) (n : Nat) : ∀ (m : Nat) (v166 : (List SPiece)) (v167 : Int) (v168 : (List SPiece)) (v169 : Int) (k : KX R), loopN2 (X cp n i60_0) m (fr60_8 v166 v167 v168 v169) k = l60_10 cp n m v166 v167 v168 v169 (fun v174 => k (.exit 0) (fr60_9 v174))
  | 0, _, _, _, _, _ => rfl
  | m + 1, v166, v167, v168, v169, k => (loopN2_succ (X cp n i60_0) m (fr60_8 v166 v167 v168 v169) k).trans ((s60_5_t cp n v166 v167 v168 v169 (loopT (X cp n i60_0) m k)).trans ((show s60_5 cp n v166 v167 v168 v169 (fun v172 v173 => loopT (X cp n i60_0) m k .norm (fr60_6 v166 v167 v172 v173)) (loopT (X cp n i60_0) m k (.exit 0) (fr60_7 v168)) = s60_5 cp n v166 v167 v168 v169 (fun v172 v173 => loopN2 (X cp n i60_0) m (fr60_8 v166 v167 v172 v173) k) (k (.exit 0) (fr60_9 v168)) from by kernel_rfl).trans (congrArg (fun q => s60_5 cp n v166 v167 v168 v169 q (k (.exit 0) (fr60_9 v168))) (funext fun v172 => funext fun v173 => l60_10_t cp n m v166 v167 v172 v173 k))))
theorem s60_11_t (cp : CP) (n : Nat) (v166 : (List SPiece)) (v167 : Int) (k : KX R) : X cp n i60_1 (fr60_4 v166 v167) k = s60_11 cp n v166 v167 (fun v174 => k (.exit 0) (fr60_9 v174)) := (show X cp n i60_1 (fr60_4 v166 v167) k = loopN2 (X cp n i60_0) n (fr60_8 v166 v167 [] 0) k from by kernel_rfl).trans (l60_10_t cp n n v166 v167 [] 0 k)
def fr60_12 (v175 : (List SPiece)) : FF := [dT 7 ((.un none (.rPiece v175)) :: (dT 8 [])), dc, dc, dc, dc]
theorem s60_13_t (cp : CP) (n : Nat) (v166 : (List SPiece)) (v167 : Int) (k : KX R) : X cp n i60_2 (fr60_4 v166 v167) k = s60_13 cp n v166 v167 (fun v175 => k .norm (fr60_12 v175)) := (show X cp n i60_2 (fr60_4 v166 v167) k = X cp n i60_1 (fr60_4 v166 v167) (blkT 0 k) from by kernel_rfl).trans ((s60_11_t cp n v166 v167 (blkT 0 k)).trans (by kernel_rfl))
def fr60_14 (v176 : (List SPiece)) : FF := [dT 7 ((.un none (.rPiece v176)) :: (dT 8 [])), dc, dc, dc, dc]
theorem s60_15_t (cp : CP) (n : Nat) (v166 : (List SPiece)) (k : KX R) : X cp n i60_3 (fr60_2 v166) k = s60_15 cp n v166 (fun v176 => k .norm (fr60_14 v176)) := ((fun c => (show X cp n (.seq (.fin (.reg g60_4) [0] []) c) (fr60_2 v166) k = s60_3 cp n v166 (fun v167 => X cp n c (fr60_4 v166 v167) k) from by kernel_rfl)) i60_2).trans (congrArg (fun q => s60_3 cp n v166 q) (funext fun v167 => (s60_13_t cp n v166 v167 k).trans (show s60_13 cp n v166 v167 (fun v175 => k .norm (fr60_12 v175)) = s60_13 cp n v166 v167 (fun v175 => k .norm (fr60_14 v175)) from by kernel_rfl)))
def fr60_17 (v176 : (List SPiece)) : FF := [dT 4 ((.row true (.rPiece v176)) :: (dT 11 [])), dc, dc, dc, dc]
theorem s60_16_t (cp : CP) (n : Nat) (v176 : (List SPiece)) (k : KX R) : X cp n i60_4 (fr60_14 v176) k = s60_16 cp n v176 (k .ret (fr60_17 v176)) := by kernel_rfl
def fr60_18 (v177 : (List SPiece)) : FF := [dT 4 ((.row true (.rPiece v177)) :: (dT 11 [])), dc, dc, dc, dc]
theorem s60_19_t (cp : CP) (n : Nat) (v166 : (List SPiece)) (k : KX R) : X cp n i60_5 (fr60_2 v166) k = s60_19 cp n v166 (fun v177 => k .ret (fr60_18 v177)) := (show X cp n i60_5 (fr60_2 v166) k = X cp n i60_3 (fr60_2 v166) (seqT (X cp n) i60_4 k) from by kernel_rfl).trans ((show X cp n i60_3 (fr60_2 v166) (seqT (X cp n) i60_4 k) = s60_15 cp n v166 (fun v176 => X cp n i60_4 (fr60_14 v176) k) from (s60_15_t cp n v166 (seqT (X cp n) i60_4 k)).trans (by kernel_rfl)).trans (congrArg (fun q => s60_15 cp n v166 q) (funext fun v176 => (s60_16_t cp n v176 k).trans (show s60_16 cp n v176 (k .ret (fr60_17 v176)) = s60_16 cp n v176 (k .ret (fr60_18 v176)) from by kernel_rfl))))
def fr60_20 (v178 : (List SPiece)) : FF := [dT 4 ((.row true (.rPiece v178)) :: (dT 11 [])), dc, dc, dc, dc]
def fr60_22 (p0 : (List SPiece)) (p1 : SPiece) : FF := [(.row false (.rPiece p0)) :: (.agg (ePiece p1)) :: (dT 14 []), dc, dc, dc, dc]
theorem s60_21_t (cp : CP) (n : Nat) (p0 : (List SPiece)) (p1 : SPiece) (k : KX R) : X cp n i60_6 (fr60_22 p0 p1) k = s60_21 cp n p0 p1 (fun v178 => k .ret (fr60_20 v178)) := ((fun c => (show X cp n (.seq (.fin (.reg g60_0) [1, 4] []) (.seq (.fin (.reg g60_1) [6, 11, 12, 13, 14, 15, 16, 17] []) (.seq (.fin (.reg g60_2) [3, 5, 18, 19, 20, 21, 22, 23, 24, 25, 26, 27, 28] [(72, 2)]) (.seq (.reg g60_3) (.seq (.skip) c))))) (fr60_22 p0 p1) k = s60_1 cp n p0 p1 (fun v166 => X cp n c (fr60_2 v166) k) from by kernel_rfl)) i60_5).trans (congrArg (fun q => s60_1 cp n p0 p1 q) (funext fun v166 => (s60_19_t cp n v166 k).trans (show s60_19 cp n v166 (fun v177 => k .ret (fr60_18 v177)) = s60_19 cp n v166 (fun v177 => k .ret (fr60_20 v177)) from by kernel_rfl)))
theorem run60 (cp : CP) (n : Nat) (p0 : (List SPiece)) (p1 : SPiece) (k : Ret2 RW → Option R) : G60 cp (n + 1) p0 p1 (fun r0 => k ⟨.row true (.rPiece r0), [], []⟩) = run2 U cp (callP cp n) n fn60 [.row false (.rPiece p0), .agg (ePiece p1)] [] k := ((X_run (f := fn60) (av := [.row false (.rPiece p0), .agg (ePiece p1)]) (cells := []) (code := i60_6) (fr := (fr60_22 p0 p1)) (k := k) (by kernel_rfl) (fun K => by kernel_rfl)).trans ((s60_21_t cp n p0 p1 (finK2 fn60 k)).trans (by kernel_rfl))).symm
/-! tideway/recv.take$1 -/
theorem run1027 (cp : CP) (n : Nat) (p0 : SSpan) (q0 : SRecv) (q1 : Int) (q2 : (List Int)) (q3 : Bool) (k : Ret2 RW → Option R) : G1027 cp (n + 1) p0 q0 q1 q2 q3 (fun r0 r1 r2 r3 => k ⟨.tup [], [(eRecvt r0), [(tL r1)], [.row false (.ruint8 r2)], [(tB r3)]], []⟩) = run2 U cp (callP cp n) n fn1027 [.agg (eSpan p0), .ptr 43 0, .ptr 23 0, .ptr 41 0, .ptr 39 0] [(eRecvt q0), [(tL q1)], [.row false (.ruint8 q2)], [(tB q3)]] k := by kernel_rfl
/-! tideway/recv.take -/
def fr34_2 (p0 : SRecv) (p1 : Int) (p2 : (List Int)) (v163 : Int) : FF := [dT 3 ((.ptr 112 0) :: (.ptr 128 0) :: (.ptr 130 0) :: (.ptr 132 0) :: (dT 1 ((tL v163) :: (.ptr 148 0) :: (dT 6 [])))), dc, dc, dc, dc, dc, dc, (.hdr 15) :: (eRecvt p0), [.hdr 1, (tL p1), .hdr 1, .row false (.ruint8 p2), .hdr 15, (tL 0), .row true (.ruint8 []), .row true (.rPiece []), (tL 0), (tL 0), (tL 0), (tI .u32 0), (tB false), (tB false), (tL 0), (tB false)], (.row true (.rSpan [])) :: (tI .u32 0) :: (tI .u32 0) :: (tB false) :: (.hdr 1) :: (.row true (.rSpan [])) :: (dT 10 []), dc, dc]
def fr34_4 (p0 : SRecv) (p1 : Int) (p2 : (List Int)) (v163 : Int) (v165 : SRecv) : FF := [dT 3 ((.ptr 112 0) :: (.ptr 128 0) :: (.ptr 130 0) :: (.ptr 132 0) :: (dT 1 ((tL v163) :: (.ptr 148 0) :: (dT 6 [])))), dT 15 ([.clo 70 [(158, 0)]]), dc, dc, dc, dc, dc, (.hdr 15) :: (eRecvt p0), [.hdr 1, (tL p1), .hdr 1, .row false (.ruint8 p2), .hdr 15, (tL 0), .row true (.ruint8 []), .row true (.rPiece []), (tL 0), (tL 0), (tL 0), (tI .u32 0), (tB false), (tB false), (tL 0), (tB false)], (.row true (.rSpan [])) :: (tI .u32 0) :: (tI .u32 0) :: (tB false) :: (.hdr 1) :: (.row true (.rSpan [])) :: (dT 8 ((.hdr 15) :: (sl 0 1 (eRecv v165)))), sl 1 14 (eRecv v165) ++ (dT 2 []), dc]
def fr34_6 (v163 : Int) : FF := [dT 3 ((.ptr 112 0) :: (.ptr 128 0) :: (.ptr 130 0) :: (.ptr 132 0) :: (dT 1 ((tL v163) :: (.ptr 148 0) :: (dT 6 [])))), dT 15 ([.clo 70 [(158, 0)]]), dc, dc, dc, dc, dc, dc, dc, dc, dc, dc]
def y34_5 (cp : CP) (n : Nat) (v163 : Int) : List (TV RW) → FF → (FF → Option R) → Option R := rndT 7 [32] [112, 128, 130, 132, 148, 158, 174] (fr34_6 v163) (X cp n i34_2)
def fr34_8 (p0 : SRecv) (p1 : Int) (p2 : (List Int)) (v163 : Int) (v165 : SRecv) (v166 : Int) : FF := [.yld :: (dT 5 ((.row false (.rPiece v165.xLate)) :: (tL v166) :: (tL 0) :: (dT 7 []))), dc, dc, dc, dc, dc, dc, (.hdr 15) :: (eRecvt p0), [.hdr 1, (tL p1), .hdr 1, .row false (.ruint8 p2), .hdr 15, (tL 0), .row true (.ruint8 []), .row true (.rPiece []), (tL 0), (tL 0), (tL 0), (tI .u32 0), (tB false), (tB false), (tL 0), (tB false)], (.row true (.rSpan [])) :: (tI .u32 0) :: (tI .u32 0) :: (tB false) :: (.hdr 1) :: (.row true (.rSpan [])) :: (dT 8 ((.hdr 15) :: (sl 0 1 (eRecv v165)))), sl 1 14 (eRecv v165) ++ (dT 2 []), dc]
def fr34_10 (p0 : SRecv) (p1 : Int) (p2 : (List Int)) (v163 : Int) (v165 : SRecv) (v166 v167 : Int) (v168 : (List SSpan)) : FF := [.yld :: (dT 5 ((.row false (.rPiece v165.xLate)) :: (tL v166) :: (tL v167) :: (dT 7 []))), dc, dc, dc, dc, dc, dc, (.hdr 15) :: (eRecvt p0), [.hdr 1, (tL p1), .hdr 1, .row false (.ruint8 p2), .hdr 15, (tL 0), .row true (.ruint8 []), .row true (.rPiece []), (tL 0), (tL 0), (tL 0), (tI .u32 0), (tB false), (tB false), (tL 0), (tB false)], (.row true (.rSpan [])) :: (tI .u32 0) :: (tI .u32 0) :: (tB false) :: (.hdr 1) :: (.row true (.rSpan v168)) :: (dT 8 ((.hdr 15) :: (sl 0 1 (eRecv v165)))), sl 1 14 (eRecv v165) ++ (dT 2 []), dc]
def fr34_11 (p0 : SRecv) (p1 : Int) (p2 : (List Int)) (v163 : Int) (v165 : SRecv) (v168 : (List SSpan)) : FF := [dc, dc, dc, dc, dc, dc, dc, (.hdr 15) :: (eRecvt p0), [.hdr 1, (tL p1), .hdr 1, .row false (.ruint8 p2), .hdr 15, (tL 0), .row true (.ruint8 []), .row true (.rPiece []), (tL 0), (tL 0), (tL 0), (tI .u32 0), (tB false), (tB false), (tL 0), (tB false)], (.row true (.rSpan [])) :: (tI .u32 0) :: (tI .u32 0) :: (tB false) :: (.hdr 1) :: (.row true (.rSpan v168)) :: (dT 8 ((.hdr 15) :: (sl 0 1 (eRecv v165)))), sl 1 14 (eRecv v165) ++ (dT 2 []), dc]
def fr34_13 (p0 : SRecv) (p1 : Int) (p2 : (List Int)) (v163 : Int) (v165 : SRecv) (v166 v167 : Int) (v168 : (List SSpan)) (v169 : Int) (v170 : (List Int)) : FF := [.yld :: (dT 3 ((.ptr 174 0) :: (dT 1 ((.row false (.rPiece v165.xLate)) :: (tL v166) :: (tL v167) :: (dT 7 []))))), dc, dc, dc, dc, dc, dc, (.hdr 15) :: (eRecvt p0), [.hdr 1, (tL p1), .hdr 1, .row false (.ruint8 p2), .hdr 15, (tL 0), .row true (.ruint8 []), .row true (.rPiece []), (tL 0), (tL 0), (tL 0), (tI .u32 0), (tB false), (tB false), (tL 0), (tB false)], (.row true (.rSpan [])) :: (tI .u32 0) :: (tI .u32 0) :: (tB false) :: (.hdr 1) :: (.row true (.rSpan v168)) :: (dT 8 ((.hdr 15) :: (sl 0 1 (eRecv v165)))), sl 1 14 (eRecv v165) ++ [.hdr 2, (tL v169)], (.row false (.ruint8 v170)) :: (dT 15 [])]
def fr34_15 (p0 : SRecv) (p1 : Int) (p2 : (List Int)) (v163 : Int) (v165 : SRecv) (v166 v167 : Int) (v168 : (List SSpan)) (v169 : Int) (v170 : (List Int)) (v172 v173 : Int) : FF := [.yld :: (dT 3 ((.ptr 174 0) :: (dT 1 ((.row false (.rPiece v165.xLate)) :: (tL v166) :: (tL v167) :: (dT 3 (.yld :: (.agg [(tL v169), .row false (.ruint8 v170)]) :: (.agg [(tL v172), (tL v173)]) :: (dT 1 []))))))), dc, dc, dc, dc, dc, dc, (.hdr 15) :: (eRecvt p0), [.hdr 1, (tL p1), .hdr 1, .row false (.ruint8 p2), .hdr 15, (tL 0), .row true (.ruint8 []), .row true (.rPiece []), (tL 0), (tL 0), (tL 0), (tI .u32 0), (tB false), (tB false), (tL 0), (tB false)], (.row true (.rSpan [])) :: (tI .u32 0) :: (tI .u32 0) :: (tB false) :: (.hdr 1) :: (.row true (.rSpan v168)) :: (dT 8 ((.hdr 15) :: (sl 0 1 (eRecv v165)))), sl 1 14 (eRecv v165) ++ [.hdr 2, (tL v169)], (.row false (.ruint8 v170)) :: (dT 15 [])]
theorem s34_14_t (cp : CP) (n : Nat) (p0 : SRecv) (p1 : Int) (p2 : (List Int)) (v163 : Int) (v165 : SRecv) (v166 v167 : Int) (v168 : (List SSpan)) (v169 : Int) (v170 : (List Int)) (A B : FF → Option R) : (gF (fr34_13 p0 p1 p2 v163 v165 v166 v167 v168 v169 v170) fun l => steps2 U cp (callP cp n) g34_10031 l fun l1 => yGuard2 none l1 (A l1) (B l1)) = s34_14 cp n p0 p1 p2 v163 v165 v166 v167 v168 v169 v170 (fun v172 v173 => A (fr34_15 p0 p1 p2 v163 v165 v166 v167 v168 v169 v170 v172 v173)) := by kernel_rfl
def fr34_17 (p0 : SRecv) (p1 : Int) (p2 : (List Int)) (v163 : Int) (v165 : SRecv) (v169 : Int) (v170 : (List Int)) (v174 : (List SSpan)) : FF := [dT 3 ((.ptr 112 0) :: (.ptr 128 0) :: (.ptr 130 0) :: (.ptr 132 0) :: (dT 1 ((tL v163) :: (.ptr 148 0) :: (dT 6 [])))), dT 15 ([.clo 70 [(158, 0)]]), dc, dc, dc, dc, dc, (.hdr 15) :: (eRecvt p0), [.hdr 1, (tL p1), .hdr 1, .row false (.ruint8 p2), .hdr 15, (tL 0), .row true (.ruint8 []), .row true (.rPiece []), (tL 0), (tL 0), (tL 0), (tI .u32 0), (tB false), (tB false), (tL 0), (tB false)], (.row true (.rSpan [])) :: (tI .u32 0) :: (tI .u32 0) :: (tB false) :: (.hdr 1) :: (.row true (.rSpan v174)) :: (dT 8 ((.hdr 15) :: (sl 0 1 (eRecv v165)))), sl 1 14 (eRecv v165) ++ [.hdr 2, (tL v169)], (.row false (.ruint8 v170)) :: (dT 15 [])]
def fr34_18 (p0 : SRecv) (p1 : Int) (p2 : (List Int)) (v163 : Int) (v165 : SRecv) (v168 : (List SSpan)) (v169 : Int) (v170 : (List Int)) (v172 v173 : Int) : FF := [dT 3 ((.ptr 112 0) :: (.ptr 128 0) :: (.ptr 130 0) :: (.ptr 132 0) :: (dT 1 ((tL v163) :: (.ptr 148 0) :: (dT 6 [])))), dT 15 ([.clo 70 [(158, 0)]]), (.agg [(tL v172), (tL v173)]) :: (dT 15 []), dc, dc, dc, dc, (.hdr 15) :: (eRecvt p0), [.hdr 1, (tL p1), .hdr 1, .row false (.ruint8 p2), .hdr 15, (tL 0), .row true (.ruint8 []), .row true (.rPiece []), (tL 0), (tL 0), (tL 0), (tI .u32 0), (tB false), (tB false), (tL 0), (tB false)], (.row true (.rSpan [])) :: (tI .u32 0) :: (tI .u32 0) :: (tB false) :: (.hdr 1) :: (.row true (.rSpan v168)) :: (dT 8 ((.hdr 15) :: (sl 0 1 (eRecv v165)))), sl 1 14 (eRecv v165) ++ [.hdr 2, (tL v169)], (.row false (.ruint8 v170)) :: (dT 15 [])]
theorem s34_16_t (cp : CP) (n : Nat) (p0 : SRecv) (p1 : Int) (p2 : (List Int)) (v163 : Int) (v165 : SRecv) (v168 : (List SSpan)) (v169 : Int) (v170 : (List Int)) (v172 v173 : Int) (k : KX R) : X cp n i34_2 (fr34_18 p0 p1 p2 v163 v165 v168 v169 v170 v172 v173) k = s34_16 cp n p0 p1 p2 v163 v165 v168 v169 v170 v172 v173 (fun v174 => k .norm (fr34_17 p0 p1 p2 v163 v165 v169 v170 v174)) := by kernel_rfl
def fr34_20 (p0 : SRecv) (p1 : Int) (p2 : (List Int)) (v163 : Int) (v165 : SRecv) (v166 v167 v169 : Int) (v170 : (List Int)) (v172 v173 : Int) (v174 : (List SSpan)) : FF := [.yld :: (dT 3 ((.ptr 174 0) :: (dT 1 ((.row false (.rPiece v165.xLate)) :: (tL v166) :: (tL v167) :: (dT 3 ([.yld, .agg [(tL v169), .row false (.ruint8 v170)], .agg [(tL v172), (tL v173)], (tB true)])))))), dc, dc, dc, dc, dc, dc, (.hdr 15) :: (eRecvt p0), [.hdr 1, (tL p1), .hdr 1, .row false (.ruint8 p2), .hdr 15, (tL 0), .row true (.ruint8 []), .row true (.rPiece []), (tL 0), (tL 0), (tL 0), (tI .u32 0), (tB false), (tB false), (tL 0), (tB false)], (.row true (.rSpan [])) :: (tI .u32 0) :: (tI .u32 0) :: (tB false) :: (.hdr 1) :: (.row true (.rSpan v174)) :: (dT 8 ((.hdr 15) :: (sl 0 1 (eRecv v165)))), sl 1 14 (eRecv v165) ++ [.hdr 2, (tL v169)], (.row false (.ruint8 v170)) :: (dT 15 [])]
theorem q34_19_t (cp : CP) (n : Nat) (p0 : SRecv) (p1 : Int) (p2 : (List Int)) (v163 : Int) (v165 : SRecv) (v166 v167 : Int) (v168 : (List SSpan)) (v169 : Int) (v170 : (List Int)) (v172 v173 : Int) (K : FF → Option R) : yRun2 (y34_5 cp n v163) (.s 12) [.s 14] 15 (fr34_15 p0 p1 p2 v163 v165 v166 v167 v168 v169 v170 v172 v173) K = s34_16 cp n p0 p1 p2 v163 v165 v168 v169 v170 v172 v173 (fun v174 => K (fr34_20 p0 p1 p2 v163 v165 v166 v167 v169 v170 v172 v173 v174)) := ((fun x => (show yRun2 (rndT 7 [32] [112, 128, 130, 132, 148, 158, 174] (fr34_6 v163) x) (.s 12) [.s 14] 15 (fr34_15 p0 p1 p2 v163 v165 v166 v167 v168 v169 v170 v172 v173) K = x (fr34_18 p0 p1 p2 v163 v165 v168 v169 v170 v172 v173) (roundT 7 (fr34_15 p0 p1 p2 v163 v165 v166 v167 v168 v169 v170 v172 v173) (fun l2 => putO l2 (some 15) (.sc (.bool true)) K)) from by kernel_rfl)) (X cp n i34_2)).trans ((s34_16_t cp n p0 p1 p2 v163 v165 v168 v169 v170 v172 v173 (roundT 7 (fr34_15 p0 p1 p2 v163 v165 v166 v167 v168 v169 v170 v172 v173) (fun l2 => putO l2 (some 15) (.sc (.bool true)) K))).trans (by kernel_rfl))
def fr34_21 (p0 : SRecv) (p1 : Int) (p2 : (List Int)) (v163 : Int) (v165 : SRecv) (v166 v167 : Int) (v175 : (List SSpan)) : FF := [.yld :: (dT 5 ((.row false (.rPiece v165.xLate)) :: (tL v166) :: (tL v167) :: (dT 7 []))), (tB false) :: (dT 15 []), dc, dc, dc, dc, dc, (.hdr 15) :: (eRecvt p0), [.hdr 1, (tL p1), .hdr 1, .row false (.ruint8 p2), .hdr 15, (tL 0), .row true (.ruint8 []), .row true (.rPiece []), (tL 0), (tL 0), (tL 0), (tI .u32 0), (tB false), (tB false), (tL 0), (tB false)], (.row true (.rSpan [])) :: (tI .u32 0) :: (tI .u32 0) :: (tB false) :: (.hdr 1) :: (.row true (.rSpan v175)) :: (dT 8 ((.hdr 15) :: (sl 0 1 (eRecv v165)))), sl 1 14 (eRecv v165) ++ (dT 2 []), dc]
theorem s34_22_t (cp : CP) (n : Nat) (p0 : SRecv) (p1 : Int) (p2 : (List Int)) (v163 : Int) (v165 : SRecv) (v166 v167 : Int) (v168 : (List SSpan)) (v169 : Int) (v170 : (List Int)) (k : KX R) : XI cp n (y34_5 cp n v163) i34_4 (fr34_13 p0 p1 p2 v163 v165 v166 v167 v168 v169 v170) k = s34_22 cp n p0 p1 p2 v163 v165 v166 v167 v168 v169 v170 (fun v175 => k .norm (fr34_21 p0 p1 p2 v163 v165 v166 v167 v175)) := (show XI cp n (y34_5 cp n v163) i34_4 (fr34_13 p0 p1 p2 v163 v165 v166 v167 v168 v169 v170) k = gF (fr34_13 p0 p1 p2 v163 v165 v166 v167 v168 v169 v170) fun l => steps2 U cp (callP cp n) g34_10031 l fun l1 => yGuard2 none l1 ((fun l1 => yRun2 (y34_5 cp n v163) (.s 12) [.s 14] 15 l1 (fun l2 => steps2 U cp (callP cp n) g34_10032 l2 ((clrT [4, 12, 13, 14, 15] [(174, 2)] k) .norm))) l1) ((fun l1 => putO l1 (some 15) (.tup []) fun l2 => steps2 U cp (callP cp n) g34_10032 l2 ((clrT [4, 12, 13, 14, 15] [(174, 2)] k) .norm)) l1) from by kernel_rfl).trans ((s34_14_t cp n p0 p1 p2 v163 v165 v166 v167 v168 v169 v170 (fun l1 => yRun2 (y34_5 cp n v163) (.s 12) [.s 14] 15 l1 (fun l2 => steps2 U cp (callP cp n) g34_10032 l2 ((clrT [4, 12, 13, 14, 15] [(174, 2)] k) .norm))) (fun l1 => putO l1 (some 15) (.tup []) fun l2 => steps2 U cp (callP cp n) g34_10032 l2 ((clrT [4, 12, 13, 14, 15] [(174, 2)] k) .norm))).trans (congrArg (s34_14 cp n p0 p1 p2 v163 v165 v166 v167 v168 v169 v170) (funext fun v172 => funext fun v173 => (q34_19_t cp n p0 p1 p2 v163 v165 v166 v167 v168 v169 v170 v172 v173 (fun l2 => steps2 U cp (callP cp n) g34_10032 l2 ((clrT [4, 12, 13, 14, 15] [(174, 2)] k) .norm))).trans (show s34_16 cp n p0 p1 p2 v163 v165 v168 v169 v170 v172 v173 (fun v174 => (fun l2 => steps2 U cp (callP cp n) g34_10032 l2 ((clrT [4, 12, 13, 14, 15] [(174, 2)] k) .norm)) (fr34_20 p0 p1 p2 v163 v165 v166 v167 v169 v170 v172 v173 v174)) = s34_16 cp n p0 p1 p2 v163 v165 v168 v169 v170 v172 v173 (fun v174 => k .norm (fr34_21 p0 p1 p2 v163 v165 v166 v167 v174)) from by kernel_rfl))))
def fr34_24 (p0 : SRecv) (p1 : Int) (p2 : (List Int)) (v163 : Int) (v165 : SRecv) (v166 v167 : Int) (v175 : (List SSpan)) : FF := [.yld :: (dT 5 ((.row false (.rPiece v165.xLate)) :: (tL v166) :: (tL v167) :: (dT 7 []))), dc, dc, dc, dc, dc, dc, (.hdr 15) :: (eRecvt p0), [.hdr 1, (tL p1), .hdr 1, .row false (.ruint8 p2), .hdr 15, (tL 0), .row true (.ruint8 []), .row true (.rPiece []), (tL 0), (tL 0), (tL 0), (tI .u32 0), (tB false), (tB false), (tL 0), (tB false)], (.row true (.rSpan [])) :: (tI .u32 0) :: (tI .u32 0) :: (tB false) :: (.hdr 1) :: (.row true (.rSpan v175)) :: (dT 8 ((.hdr 15) :: (sl 0 1 (eRecv v165)))), sl 1 14 (eRecv v165) ++ (dT 2 []), dc]
theorem s34_23_t (cp : CP) (n : Nat) (p0 : SRecv) (p1 : Int) (p2 : (List Int)) (v163 : Int) (v165 : SRecv) (v166 v167 : Int) (v175 : (List SSpan)) (k : KX R) : XI cp n (y34_5 cp n v163) i34_5 (fr34_21 p0 p1 p2 v163 v165 v166 v167 v175) k = s34_23 cp n p0 p1 p2 v163 v165 v166 v167 v175 (k .norm (fr34_24 p0 p1 p2 v163 v165 v166 v167 v175)) := by kernel_rfl
def fr34_25 (p0 : SRecv) (p1 : Int) (p2 : (List Int)) (v163 : Int) (v165 : SRecv) (v166 v167 : Int) (v176 : (List SSpan)) : FF := [.yld :: (dT 5 ((.row false (.rPiece v165.xLate)) :: (tL v166) :: (tL v167) :: (dT 7 []))), dc, dc, dc, dc, dc, dc, (.hdr 15) :: (eRecvt p0), [.hdr 1, (tL p1), .hdr 1, .row false (.ruint8 p2), .hdr 15, (tL 0), .row true (.ruint8 []), .row true (.rPiece []), (tL 0), (tL 0), (tL 0), (tI .u32 0), (tB false), (tB false), (tL 0), (tB false)], (.row true (.rSpan [])) :: (tI .u32 0) :: (tI .u32 0) :: (tB false) :: (.hdr 1) :: (.row true (.rSpan v176)) :: (dT 8 ((.hdr 15) :: (sl 0 1 (eRecv v165)))), sl 1 14 (eRecv v165) ++ (dT 2 []), dc]
theorem s34_26_t (cp : CP) (n : Nat) (p0 : SRecv) (p1 : Int) (p2 : (List Int)) (v163 : Int) (v165 : SRecv) (v166 v167 : Int) (v168 : (List SSpan)) (v169 : Int) (v170 : (List Int)) (k : KX R) : XI cp n (y34_5 cp n v163) i34_6 (fr34_13 p0 p1 p2 v163 v165 v166 v167 v168 v169 v170) k = s34_26 cp n p0 p1 p2 v163 v165 v166 v167 v168 v169 v170 (fun v176 => k .norm (fr34_25 p0 p1 p2 v163 v165 v166 v167 v176)) := (show XI cp n (y34_5 cp n v163) i34_6 (fr34_13 p0 p1 p2 v163 v165 v166 v167 v168 v169 v170) k = XI cp n (y34_5 cp n v163) i34_4 (fr34_13 p0 p1 p2 v163 v165 v166 v167 v168 v169 v170) (seqT (XI cp n (y34_5 cp n v163)) i34_5 k) from by kernel_rfl).trans ((show XI cp n (y34_5 cp n v163) i34_4 (fr34_13 p0 p1 p2 v163 v165 v166 v167 v168 v169 v170) (seqT (XI cp n (y34_5 cp n v163)) i34_5 k) = s34_22 cp n p0 p1 p2 v163 v165 v166 v167 v168 v169 v170 (fun v175 => XI cp n (y34_5 cp n v163) i34_5 (fr34_21 p0 p1 p2 v163 v165 v166 v167 v175) k) from (s34_22_t cp n p0 p1 p2 v163 v165 v166 v167 v168 v169 v170 (seqT (XI cp n (y34_5 cp n v163)) i34_5 k)).trans (by kernel_rfl)).trans (congrArg (fun q => s34_22 cp n p0 p1 p2 v163 v165 v166 v167 v168 v169 v170 q) (funext fun v175 => (s34_23_t cp n p0 p1 p2 v163 v165 v166 v167 v175 k).trans (show s34_23 cp n p0 p1 p2 v163 v165 v166 v167 v175 (k .norm (fr34_24 p0 p1 p2 v163 v165 v166 v167 v175)) = s34_23 cp n p0 p1 p2 v163 v165 v166 v167 v175 (k .norm (fr34_25 p0 p1 p2 v163 v165 v166 v167 v175)) from by kernel_rfl))))
def fr34_27 (p0 : SRecv) (p1 : Int) (p2 : (List Int)) (v163 : Int) (v165 : SRecv) (v166 v167 : Int) (v177 : (List SSpan)) : FF := [.yld :: (dT 5 ((.row false (.rPiece v165.xLate)) :: (tL v166) :: (tL v167) :: (dT 7 []))), dc, dc, dc, dc, dc, dc, (.hdr 15) :: (eRecvt p0), [.hdr 1, (tL p1), .hdr 1, .row false (.ruint8 p2), .hdr 15, (tL 0), .row true (.ruint8 []), .row true (.rPiece []), (tL 0), (tL 0), (tL 0), (tI .u32 0), (tB false), (tB false), (tL 0), (tB false)], (.row true (.rSpan [])) :: (tI .u32 0) :: (tI .u32 0) :: (tB false) :: (.hdr 1) :: (.row true (.rSpan v177)) :: (dT 8 ((.hdr 15) :: (sl 0 1 (eRecv v165)))), sl 1 14 (eRecv v165) ++ (dT 2 []), dc]
theorem s34_28_t (cp : CP) (n : Nat) (p0 : SRecv) (p1 : Int) (p2 : (List Int)) (v163 : Int) (v165 : SRecv) (v166 v167 : Int) (v168 : (List SSpan)) (k : KX R) : XI cp n (y34_5 cp n v163) i34_7 (fr34_10 p0 p1 p2 v163 v165 v166 v167 v168) k = s34_28 cp n p0 p1 p2 v163 v165 v166 v167 v168 (fun v177 => k .norm (fr34_27 p0 p1 p2 v163 v165 v166 v167 v177)) := ((fun c => (show XI cp n (y34_5 cp n v163) (.seq (.fin (.reg g34_1002) [10, 11] []) c) (fr34_10 p0 p1 p2 v163 v165 v166 v167 v168) k = s34_12 cp n p0 p1 p2 v163 v165 v166 v167 v168 (fun v169 v170 => XI cp n (y34_5 cp n v163) c (fr34_13 p0 p1 p2 v163 v165 v166 v167 v168 v169 v170) k) from by kernel_rfl)) i34_6).trans (congrArg (fun q => s34_12 cp n p0 p1 p2 v163 v165 v166 v167 v168 q) (funext fun v169 => funext fun v170 => (s34_26_t cp n p0 p1 p2 v163 v165 v166 v167 v168 v169 v170 k).trans (show s34_26 cp n p0 p1 p2 v163 v165 v166 v167 v168 v169 v170 (fun v176 => k .norm (fr34_25 p0 p1 p2 v163 v165 v166 v167 v176)) = s34_26 cp n p0 p1 p2 v163 v165 v166 v167 v168 v169 v170 (fun v176 => k .norm (fr34_27 p0 p1 p2 v163 v165 v166 v167 v176)) from by kernel_rfl)))
def fr34_29 (p0 : SRecv) (p1 : Int) (p2 : (List Int)) (v163 : Int) (v165 : SRecv) (v166 v167 : Int) (v178 : (List SSpan)) : FF := [.yld :: (dT 5 ((.row false (.rPiece v165.xLate)) :: (tL v166) :: (tL v167) :: (dT 7 []))), dc, dc, dc, dc, dc, dc, (.hdr 15) :: (eRecvt p0), [.hdr 1, (tL p1), .hdr 1, .row false (.ruint8 p2), .hdr 15, (tL 0), .row true (.ruint8 []), .row true (.rPiece []), (tL 0), (tL 0), (tL 0), (tI .u32 0), (tB false), (tB false), (tL 0), (tB false)], (.row true (.rSpan [])) :: (tI .u32 0) :: (tI .u32 0) :: (tB false) :: (.hdr 1) :: (.row true (.rSpan v178)) :: (dT 8 ((.hdr 15) :: (sl 0 1 (eRecv v165)))), sl 1 14 (eRecv v165) ++ (dT 2 []), dc]
theorem s34_30_t (cp : CP) (n : Nat) (p0 : SRecv) (p1 : Int) (p2 : (List Int)) (v163 : Int) (v165 : SRecv) (v166 v167 : Int) (v168 : (List SSpan)) (k : KX R) : XI cp n (y34_5 cp n v163) i34_8 (fr34_10 p0 p1 p2 v163 v165 v166 v167 v168) k = s34_30 cp n p0 p1 p2 v163 v165 v166 v167 v168 (fun v178 => k .norm (fr34_29 p0 p1 p2 v163 v165 v166 v167 v178)) := (show XI cp n (y34_5 cp n v163) i34_8 (fr34_10 p0 p1 p2 v163 v165 v166 v167 v168) k = XI cp n (y34_5 cp n v163) i34_7 (fr34_10 p0 p1 p2 v163 v165 v166 v167 v168) (blkT 1 k) from by kernel_rfl).trans ((s34_28_t cp n p0 p1 p2 v163 v165 v166 v167 v168 (blkT 1 k)).trans (by kernel_rfl))
def fr34_32 (p0 : SRecv) (p1 : Int) (p2 : (List Int)) (v163 : Int) (v165 : SRecv) (v166 : Int) (v178 : (List SSpan)) (v179 : Int) : FF := [.yld :: (dT 5 ((.row false (.rPiece v165.xLate)) :: (tL v166) :: (tL v179) :: (dT 7 []))), dc, dc, dc, dc, dc, dc, (.hdr 15) :: (eRecvt p0), [.hdr 1, (tL p1), .hdr 1, .row false (.ruint8 p2), .hdr 15, (tL 0), .row true (.ruint8 []), .row true (.rPiece []), (tL 0), (tL 0), (tL 0), (tI .u32 0), (tB false), (tB false), (tL 0), (tB false)], (.row true (.rSpan [])) :: (tI .u32 0) :: (tI .u32 0) :: (tB false) :: (.hdr 1) :: (.row true (.rSpan v178)) :: (dT 8 ((.hdr 15) :: (sl 0 1 (eRecv v165)))), sl 1 14 (eRecv v165) ++ (dT 2 []), dc]
theorem s34_31_t (cp : CP) (n : Nat) (p0 : SRecv) (p1 : Int) (p2 : (List Int)) (v163 : Int) (v165 : SRecv) (v166 v167 : Int) (v178 : (List SSpan)) (k : KX R) : XI cp n (y34_5 cp n v163) i34_9 (fr34_29 p0 p1 p2 v163 v165 v166 v167 v178) k = s34_31 cp n p0 p1 p2 v163 v165 v166 v167 v178 (fun v179 => k .norm (fr34_32 p0 p1 p2 v163 v165 v166 v178 v179)) := by kernel_rfl
def fr34_33 (p0 : SRecv) (p1 : Int) (p2 : (List Int)) (v163 : Int) (v165 : SRecv) (v166 v180 : Int) (v181 : (List SSpan)) : FF := [.yld :: (dT 5 ((.row false (.rPiece v165.xLate)) :: (tL v166) :: (tL v180) :: (dT 7 []))), dc, dc, dc, dc, dc, dc, (.hdr 15) :: (eRecvt p0), [.hdr 1, (tL p1), .hdr 1, .row false (.ruint8 p2), .hdr 15, (tL 0), .row true (.ruint8 []), .row true (.rPiece []), (tL 0), (tL 0), (tL 0), (tI .u32 0), (tB false), (tB false), (tL 0), (tB false)], (.row true (.rSpan [])) :: (tI .u32 0) :: (tI .u32 0) :: (tB false) :: (.hdr 1) :: (.row true (.rSpan v181)) :: (dT 8 ((.hdr 15) :: (sl 0 1 (eRecv v165)))), sl 1 14 (eRecv v165) ++ (dT 2 []), dc]
theorem s34_34_t (cp : CP) (n : Nat) (p0 : SRecv) (p1 : Int) (p2 : (List Int)) (v163 : Int) (v165 : SRecv) (v166 v167 : Int) (v168 : (List SSpan)) (k : KX R) : XI cp n (y34_5 cp n v163) i34_10 (fr34_10 p0 p1 p2 v163 v165 v166 v167 v168) k = s34_34 cp n p0 p1 p2 v163 v165 v166 v167 v168 (fun v180 v181 => k .norm (fr34_33 p0 p1 p2 v163 v165 v166 v180 v181)) := (show XI cp n (y34_5 cp n v163) i34_10 (fr34_10 p0 p1 p2 v163 v165 v166 v167 v168) k = XI cp n (y34_5 cp n v163) i34_8 (fr34_10 p0 p1 p2 v163 v165 v166 v167 v168) (seqT (XI cp n (y34_5 cp n v163)) i34_9 k) from by kernel_rfl).trans ((show XI cp n (y34_5 cp n v163) i34_8 (fr34_10 p0 p1 p2 v163 v165 v166 v167 v168) (seqT (XI cp n (y34_5 cp n v163)) i34_9 k) = s34_30 cp n p0 p1 p2 v163 v165 v166 v167 v168 (fun v178 => XI cp n (y34_5 cp n v163) i34_9 (fr34_29 p0 p1 p2 v163 v165 v166 v167 v178) k) from (s34_30_t cp n p0 p1 p2 v163 v165 v166 v167 v168 (seqT (XI cp n (y34_5 cp n v163)) i34_9 k)).trans (by kernel_rfl)).trans (congrArg (fun q => s34_30 cp n p0 p1 p2 v163 v165 v166 v167 v168 q) (funext fun v178 => (s34_31_t cp n p0 p1 p2 v163 v165 v166 v167 v178 k).trans (show s34_31 cp n p0 p1 p2 v163 v165 v166 v167 v178 (fun v179 => k .norm (fr34_32 p0 p1 p2 v163 v165 v166 v178 v179)) = s34_31 cp n p0 p1 p2 v163 v165 v166 v167 v178 (fun v179 => k .norm (fr34_33 p0 p1 p2 v163 v165 v166 v179 v178)) from by kernel_rfl))))
def fr34_35 (p0 : SRecv) (p1 : Int) (p2 : (List Int)) (v163 : Int) (v165 : SRecv) (v166 v182 : Int) (v183 : (List SSpan)) : FF := [.yld :: (dT 5 ((.row false (.rPiece v165.xLate)) :: (tL v166) :: (tL v182) :: (dT 7 []))), dc, dc, dc, dc, dc, dc, (.hdr 15) :: (eRecvt p0), [.hdr 1, (tL p1), .hdr 1, .row false (.ruint8 p2), .hdr 15, (tL 0), .row true (.ruint8 []), .row true (.rPiece []), (tL 0), (tL 0), (tL 0), (tI .u32 0), (tB false), (tB false), (tL 0), (tB false)], (.row true (.rSpan [])) :: (tI .u32 0) :: (tI .u32 0) :: (tB false) :: (.hdr 1) :: (.row true (.rSpan v183)) :: (dT 8 ((.hdr 15) :: (sl 0 1 (eRecv v165)))), sl 1 14 (eRecv v165) ++ (dT 2 []), dc]
theorem s34_36_t (cp : CP) (n : Nat) (p0 : SRecv) (p1 : Int) (p2 : (List Int)) (v163 : Int) (v165 : SRecv) (v166 v167 : Int) (v168 : (List SSpan)) (k : KX R) : XI cp n (y34_5 cp n v163) i34_11 (fr34_10 p0 p1 p2 v163 v165 v166 v167 v168) k = s34_36 cp n p0 p1 p2 v163 v165 v166 v167 v168 (fun v182 v183 => k .norm (fr34_35 p0 p1 p2 v163 v165 v166 v182 v183)) (k (.exit 0) (fr34_11 p0 p1 p2 v163 v165 v168)) := ((fun c => (show XI cp n (y34_5 cp n v163) (.seq (.reg g34_1001) (.seq (.fin (.cond (.s 9) (.skip) (.clr [0, 6, 7, 8, 9] [] (.exit 0))) [9] []) c)) (fr34_10 p0 p1 p2 v163 v165 v166 v167 v168) k = s34_9 cp n p0 p1 p2 v163 v165 v166 v167 v168 (XI cp n (y34_5 cp n v163) c (fr34_10 p0 p1 p2 v163 v165 v166 v167 v168) k) (k (.exit 0) (fr34_11 p0 p1 p2 v163 v165 v168)) from by kernel_rfl)) i34_10).trans (congrArg (fun q => s34_9 cp n p0 p1 p2 v163 v165 v166 v167 v168 q (k (.exit 0) (fr34_11 p0 p1 p2 v163 v165 v168))) ((s34_34_t cp n p0 p1 p2 v163 v165 v166 v167 v168 k).trans (show s34_34 cp n p0 p1 p2 v163 v165 v166 v167 v168 (fun v180 v181 => k .norm (fr34_33 p0 p1 p2 v163 v165 v166 v180 v181)) = s34_34 cp n p0 p1 p2 v163 v165 v166 v167 v168 (fun v180 v181 => k .norm (fr34_35 p0 p1 p2 v163 v165 v166 v180 v181)) from by kernel_rfl)))
def fr34_37 (p0 : SRecv) (p1 : Int) (p2 : (List Int)) (v163 : Int) (v165 : SRecv) (v184 : (List SSpan)) : FF := [dc, dc, dc, dc, dc, dc, dc, (.hdr 15) :: (eRecvt p0), [.hdr 1, (tL p1), .hdr 1, .row false (.ruint8 p2), .hdr 15, (tL 0), .row true (.ruint8 []), .row true (.rPiece []), (tL 0), (tL 0), (tL 0), (tI .u32 0), (tB false), (tB false), (tL 0), (tB false)], (.row true (.rSpan [])) :: (tI .u32 0) :: (tI .u32 0) :: (tB false) :: (.hdr 1) :: (.row true (.rSpan v184)) :: (dT 8 ((.hdr 15) :: (sl 0 1 (eRecv v165)))), sl 1 14 (eRecv v165) ++ (dT 2 []), dc]
theorem l34_38_t (cp : CP) (n : Nat) : ∀ (m : Nat) (p0 : SRecv) (p1 : Int) (p2 : (List Int)) (v163 : Int) (v165 : SRecv) (v166 v167 : Int) (v168 : (List SSpan)) (k : KX R), loopN2 (XI cp n (y34_5 cp n v163) i34_11) m (fr34_10 p0 p1 p2 v163 v165 v166 v167 v168) k = l34_38 cp n m p0 p1 p2 v163 v165 v166 v167 v168 (fun v184 => k (.exit 0) (fr34_37 p0 p1 p2 v163 v165 v184))
  | 0, _, _, _, _, _, _, _, _, _ => rfl
  | m + 1, p0, p1, p2, v163, v165, v166, v167, v168, k => (loopN2_succ (XI cp n (y34_5 cp n v163) i34_11) m (fr34_10 p0 p1 p2 v163 v165 v166 v167 v168) k).trans ((s34_36_t cp n p0 p1 p2 v163 v165 v166 v167 v168 (loopT (XI cp n (y34_5 cp n v163) i34_11) m k)).trans ((show s34_36 cp n p0 p1 p2 v163 v165 v166 v167 v168 (fun v182 v183 => loopT (XI cp n (y34_5 cp n v163) i34_11) m k .norm (fr34_35 p0 p1 p2 v163 v165 v166 v182 v183)) (loopT (XI cp n (y34_5 cp n v163) i34_11) m k (.exit 0) (fr34_11 p0 p1 p2 v163 v165 v168)) = s34_36 cp n p0 p1 p2 v163 v165 v166 v167 v168 (fun v182 v183 => loopN2 (XI cp n (y34_5 cp n v163) i34_11) m (fr34_10 p0 p1 p2 v163 v165 v166 v182 v183) k) (k (.exit 0) (fr34_37 p0 p1 p2 v163 v165 v168)) from by kernel_rfl).trans (congrArg (fun q => s34_36 cp n p0 p1 p2 v163 v165 v166 v167 v168 q (k (.exit 0) (fr34_37 p0 p1 p2 v163 v165 v168))) (funext fun v182 => funext fun v183 => l34_38_t cp n m p0 p1 p2 v163 v165 v166 v182 v183 k))))
theorem s34_39_t (cp : CP) (n : Nat) (p0 : SRecv) (p1 : Int) (p2 : (List Int)) (v163 : Int) (v165 : SRecv) (v166 : Int) (k : KX R) : XI cp n (y34_5 cp n v163) i34_12 (fr34_8 p0 p1 p2 v163 v165 v166) k = s34_39 cp n p0 p1 p2 v163 v165 v166 (fun v184 => k (.exit 0) (fr34_37 p0 p1 p2 v163 v165 v184)) := (show XI cp n (y34_5 cp n v163) i34_12 (fr34_8 p0 p1 p2 v163 v165 v166) k = loopN2 (XI cp n (y34_5 cp n v163) i34_11) n (fr34_10 p0 p1 p2 v163 v165 v166 0 []) k from by kernel_rfl).trans (l34_38_t cp n n p0 p1 p2 v163 v165 v166 0 [] k)
def fr34_40 (p0 : SRecv) (p1 : Int) (p2 : (List Int)) (v163 : Int) (v165 : SRecv) (v185 : (List SSpan)) : FF := [dc, dc, dc, dc, dc, dc, dc, (.hdr 15) :: (eRecvt p0), [.hdr 1, (tL p1), .hdr 1, .row false (.ruint8 p2), .hdr 15, (tL 0), .row true (.ruint8 []), .row true (.rPiece []), (tL 0), (tL 0), (tL 0), (tI .u32 0), (tB false), (tB false), (tL 0), (tB false)], (.row true (.rSpan [])) :: (tI .u32 0) :: (tI .u32 0) :: (tB false) :: (.hdr 1) :: (.row true (.rSpan v185)) :: (dT 8 ((.hdr 15) :: (sl 0 1 (eRecv v165)))), sl 1 14 (eRecv v165) ++ (dT 2 []), dc]
theorem s34_41_t (cp : CP) (n : Nat) (p0 : SRecv) (p1 : Int) (p2 : (List Int)) (v163 : Int) (v165 : SRecv) (v166 : Int) (k : KX R) : XI cp n (y34_5 cp n v163) i34_13 (fr34_8 p0 p1 p2 v163 v165 v166) k = s34_41 cp n p0 p1 p2 v163 v165 v166 (fun v185 => k .norm (fr34_40 p0 p1 p2 v163 v165 v185)) := (show XI cp n (y34_5 cp n v163) i34_13 (fr34_8 p0 p1 p2 v163 v165 v166) k = XI cp n (y34_5 cp n v163) i34_12 (fr34_8 p0 p1 p2 v163 v165 v166) (blkT 0 k) from by kernel_rfl).trans ((s34_39_t cp n p0 p1 p2 v163 v165 v166 (blkT 0 k)).trans (by kernel_rfl))
def fr34_42 (p0 : SRecv) (p1 : Int) (p2 : (List Int)) (v163 : Int) (v165 : SRecv) (v186 : (List SSpan)) : FF := [dc, dc, dc, dc, dc, dc, dc, (.hdr 15) :: (eRecvt p0), [.hdr 1, (tL p1), .hdr 1, .row false (.ruint8 p2), .hdr 15, (tL 0), .row true (.ruint8 []), .row true (.rPiece []), (tL 0), (tL 0), (tL 0), (tI .u32 0), (tB false), (tB false), (tL 0), (tB false)], (.row true (.rSpan [])) :: (tI .u32 0) :: (tI .u32 0) :: (tB false) :: (.hdr 1) :: (.row true (.rSpan v186)) :: (dT 8 ((.hdr 15) :: (sl 0 1 (eRecv v165)))), sl 1 14 (eRecv v165) ++ (dT 2 []), dc]
def fr34_44 (p0 : SRecv) (p1 : Int) (p2 : (List Int)) (v163 : Int) (v165 : SRecv) : FF := [.yld :: (.ptr 158 0) :: (dT 14 []), dc, dc, dc, dc, dc, dc, (.hdr 15) :: (eRecvt p0), [.hdr 1, (tL p1), .hdr 1, .row false (.ruint8 p2), .hdr 15, (tL 0), .row true (.ruint8 []), .row true (.rPiece []), (tL 0), (tL 0), (tL 0), (tI .u32 0), (tB false), (tB false), (tL 0), (tB false)], (.row true (.rSpan [])) :: (tI .u32 0) :: (tI .u32 0) :: (tB false) :: (.hdr 1) :: (.row true (.rSpan [])) :: (dT 8 ((.hdr 15) :: (sl 0 1 (eRecv v165)))), sl 1 14 (eRecv v165) ++ (dT 2 []), dc]
theorem s34_43_t (cp : CP) (n : Nat) (p0 : SRecv) (p1 : Int) (p2 : (List Int)) (v163 : Int) (v165 : SRecv) (k : KX R) : XI cp n (y34_5 cp n v163) i34_3 (fr34_44 p0 p1 p2 v163 v165) k = s34_43 cp n p0 p1 p2 v163 v165 (fun v186 => k .norm (fr34_42 p0 p1 p2 v163 v165 v186)) := ((fun c => (show XI cp n (y34_5 cp n v163) (.seq (.fin (.reg g34_1000) [1, 5] []) c) (fr34_44 p0 p1 p2 v163 v165) k = s34_7 cp n p0 p1 p2 v163 v165 (fun v166 => XI cp n (y34_5 cp n v163) c (fr34_8 p0 p1 p2 v163 v165 v166) k) from by kernel_rfl)) i34_13).trans (congrArg (fun q => s34_7 cp n p0 p1 p2 v163 v165 q) (funext fun v166 => (s34_41_t cp n p0 p1 p2 v163 v165 v166 k).trans (show s34_41 cp n p0 p1 p2 v163 v165 v166 (fun v185 => k .norm (fr34_40 p0 p1 p2 v163 v165 v185)) = s34_41 cp n p0 p1 p2 v163 v165 v166 (fun v185 => k .norm (fr34_42 p0 p1 p2 v163 v165 v185)) from by kernel_rfl)))
def fr34_45 (p0 : SRecv) (p1 : Int) (p2 : (List Int)) (v163 : Int) (v187 : (List SSpan)) : FF := [dT 3 ((.ptr 112 0) :: (.ptr 128 0) :: (.ptr 130 0) :: (.ptr 132 0) :: (dT 1 ((tL v163) :: (.ptr 148 0) :: (dT 6 [])))), dc, dc, dc, dc, dc, dc, (.hdr 15) :: (eRecvt p0), [.hdr 1, (tL p1), .hdr 1, .row false (.ruint8 p2), .hdr 15, (tL 0), .row true (.ruint8 []), .row true (.rPiece []), (tL 0), (tL 0), (tL 0), (tI .u32 0), (tB false), (tB false), (tL 0), (tB false)], (.row true (.rSpan [])) :: (tI .u32 0) :: (tI .u32 0) :: (tB false) :: (.hdr 1) :: (.row true (.rSpan v187)) :: (dT 10 []), dc, dc]
theorem s34_46_t (cp : CP) (n : Nat) (p0 : SRecv) (p1 : Int) (p2 : (List Int)) (v163 : Int) (v165 : SRecv) (k : KX R) : X cp n i34_14 (fr34_4 p0 p1 p2 v163 v165) k = s34_46 cp n p0 p1 p2 v163 v165 (fun v187 => k .norm (fr34_45 p0 p1 p2 v163 v187)) := (show X cp n i34_14 (fr34_4 p0 p1 p2 v163 v165) k = XI cp n (roundK2 7 [32] [112, 128, 130, 132, 148, 158, 174] (fr34_4 p0 p1 p2 v163 v165) (X cp n i34_0) (X cp n i34_1)) i34_3 (fr34_44 p0 p1 p2 v163 v165) (rfnT 7 (fr34_4 p0 p1 p2 v163 v165) (clrT [31] [(158, 15)] k)) from rfn_eq (v := .clo 70 [(158, 0)]) (by kernel_rfl) (by kernel_rfl) (by kernel_rfl) _ _ _).trans ((congrArg (fun Y => XI cp n Y i34_3 (fr34_44 p0 p1 p2 v163 v165) (rfnT 7 (fr34_4 p0 p1 p2 v163 v165) (clrT [31] [(158, 15)] k))) ((rnd_eq 7 [32] [112, 128, 130, 132, 148, 158, 174] (fr34_4 p0 p1 p2 v163 v165) i34_0 i34_1).trans (show rndT 7 [32] [112, 128, 130, 132, 148, 158, 174] (fr34_4 p0 p1 p2 v163 v165) (X cp n i34_2) = (y34_5 cp n v163) from by kernel_rfl))).trans ((s34_43_t cp n p0 p1 p2 v163 v165 (rfnT 7 (fr34_4 p0 p1 p2 v163 v165) (clrT [31] [(158, 15)] k))).trans (by kernel_rfl)))
def fr34_47 (p0 : SRecv) (p1 : Int) (p2 : (List Int)) (v163 : Int) (v188 : (List SSpan)) : FF := [dT 3 ((.ptr 112 0) :: (.ptr 128 0) :: (.ptr 130 0) :: (.ptr 132 0) :: (dT 1 ((tL v163) :: (.ptr 148 0) :: (dT 6 [])))), dc, dc, dc, dc, dc, dc, (.hdr 15) :: (eRecvt p0), [.hdr 1, (tL p1), .hdr 1, .row false (.ruint8 p2), .hdr 15, (tL 0), .row true (.ruint8 []), .row true (.rPiece []), (tL 0), (tL 0), (tL 0), (tI .u32 0), (tB false), (tB false), (tL 0), (tB false)], (.row true (.rSpan [])) :: (tI .u32 0) :: (tI .u32 0) :: (tB false) :: (.hdr 1) :: (.row true (.rSpan v188)) :: (dT 10 []), dc, dc]
theorem s34_48_t (cp : CP) (n : Nat) (p0 : SRecv) (p1 : Int) (p2 : (List Int)) (v163 : Int) (v165 : SRecv) (k : KX R) : X cp n i34_15 (fr34_4 p0 p1 p2 v163 v165) k = s34_48 cp n p0 p1 p2 v163 v165 (fun v188 => k .norm (fr34_47 p0 p1 p2 v163 v188)) := (show X cp n i34_15 (fr34_4 p0 p1 p2 v163 v165) k = X cp n i34_14 (fr34_4 p0 p1 p2 v163 v165) (blkT 0 k) from by kernel_rfl).trans ((s34_46_t cp n p0 p1 p2 v163 v165 (blkT 0 k)).trans (by kernel_rfl))
def fr34_49 (p0 : SRecv) (p1 : Int) (p2 : (List Int)) (v163 : Int) (v189 : (List SSpan)) : FF := [dT 3 ((.ptr 112 0) :: (.ptr 128 0) :: (.ptr 130 0) :: (.ptr 132 0) :: (dT 1 ((tL v163) :: (.ptr 148 0) :: (dT 6 [])))), dc, dc, dc, dc, dc, dc, (.hdr 15) :: (eRecvt p0), [.hdr 1, (tL p1), .hdr 1, .row false (.ruint8 p2), .hdr 15, (tL 0), .row true (.ruint8 []), .row true (.rPiece []), (tL 0), (tL 0), (tL 0), (tI .u32 0), (tB false), (tB false), (tL 0), (tB false)], (.row true (.rSpan [])) :: (tI .u32 0) :: (tI .u32 0) :: (tB false) :: (.hdr 1) :: (.row true (.rSpan v189)) :: (dT 10 []), dc, dc]
theorem s34_50_t (cp : CP) (n : Nat) (p0 : SRecv) (p1 : Int) (p2 : (List Int)) (v163 : Int) (k : KX R) : X cp n i34_16 (fr34_2 p0 p1 p2 v163) k = s34_50 cp n p0 p1 p2 v163 (fun v189 => k .norm (fr34_49 p0 p1 p2 v163 v189)) := ((fun c => (show X cp n (.seq (.fin (.reg g34_5) [30] []) c) (fr34_2 p0 p1 p2 v163) k = s34_3 cp n p0 p1 p2 v163 (fun v165 => X cp n c (fr34_4 p0 p1 p2 v163 v165) k) from by kernel_rfl)) i34_15).trans (congrArg (fun q => s34_3 cp n p0 p1 p2 v163 q) (funext fun v165 => (s34_48_t cp n p0 p1 p2 v163 v165 k).trans (show s34_48 cp n p0 p1 p2 v163 v165 (fun v188 => k .norm (fr34_47 p0 p1 p2 v163 v188)) = s34_48 cp n p0 p1 p2 v163 v165 (fun v188 => k .norm (fr34_49 p0 p1 p2 v163 v188)) from by kernel_rfl)))
def fr34_52 (p0 : SRecv) (p1 : Int) (p2 : (List Int)) (v163 : Int) (v189 : (List SSpan)) : FF := [dT 3 ((.ptr 112 0) :: (.ptr 128 0) :: (dT 1 ((.ptr 132 0) :: (dT 1 ((tL v163) :: (.ptr 148 0) :: (dT 1 ((.ptr 153 0) :: (.clo 59 [(153, 0), (112, 0), (130, 0), (128, 0)]) :: (dT 3 [])))))))), dc, dc, dc, dc, dc, dc, (.hdr 15) :: (eRecvt p0), [.hdr 1, (tL p1), .hdr 1, .row false (.ruint8 p2), .hdr 15, (tL 0), .row true (.ruint8 []), .row true (.rPiece []), (tL 0), (tL 0), (tL 0), (tI .u32 0), (tB false), (tB false), (tL 0), (tB false)], (.row true (.rSpan [])) :: (tI .u32 0) :: (tI .u32 0) :: (tB false) :: (.hdr 1) :: (.row true (.rSpan v189)) :: (dT 3 ((.hdr 1) :: (tB false) :: (dT 5 []))), dc, dc]
def fr34_54 (p0 : SRecv) (p1 : Int) (p2 : (List Int)) (v163 : Int) (v189 : (List SSpan)) (v190 : Int) (v191 : Bool) : FF := [dT 3 ((.ptr 112 0) :: (dT 2 ((.ptr 132 0) :: (dT 1 ((tL v163) :: (.ptr 148 0) :: (dT 1 ((.ptr 153 0) :: (.clo 59 [(153, 0), (112, 0), (130, 0), (128, 0)]) :: (tL v190) :: (dT 2 [])))))))), dc, dT 12 ((tB v191) :: (dT 3 [])), dc, dc, dc, dc, (.hdr 15) :: (eRecvt p0), [.hdr 1, (tL p1), .hdr 1, .row false (.ruint8 p2), .hdr 15, (tL 0), .row true (.ruint8 []), .row true (.rPiece []), (tL 0), (tL 0), (tL 0), (tI .u32 0), (tB false), (tB false), (tL 0), (tB false)], (.row true (.rSpan [])) :: (tI .u32 0) :: (tI .u32 0) :: (tB false) :: (.hdr 1) :: (.row true (.rSpan v189)) :: (dT 3 ((.hdr 1) :: (tB false) :: (dT 5 []))), dc, dc]
def fr34_56 (p0 : SRecv) (p1 : Int) (p2 : (List Int)) (v193 : (List SSpan)) (v194 : Int) : FF := [dT 3 ((.ptr 112 0) :: (dT 2 ((.ptr 132 0) :: (dT 4 ((.ptr 153 0) :: (.clo 59 [(153, 0), (112, 0), (130, 0), (128, 0)]) :: (dT 3 [])))))), dc, dc, dT 1 ((.row false (.rSpan v193)) :: (tL v194) :: (tL 0) :: (dT 12 [])), dc, dc, dc, (.hdr 15) :: (eRecvt p0), [.hdr 1, (tL p1), .hdr 1, .row false (.ruint8 p2), .hdr 15, (tL 0), .row true (.ruint8 []), .row true (.rPiece []), (tL 0), (tL 0), (tL 0), (tI .u32 0), (tB false), (tB false), (tL 0), (tB false)], (.row true (.rSpan [])) :: (tI .u32 0) :: (tI .u32 0) :: (tB false) :: (dT 5 ((.hdr 1) :: (tB false) :: (dT 5 []))), dc, dc]
def fr34_58 (v193 : (List SSpan)) (v194 v204 : Int) (v205 : SRecv) (v206 : Int) (v207 : (List Int)) (v208 : Bool) : FF := [dT 3 ((.ptr 112 0) :: (dT 2 ((.ptr 132 0) :: (dT 4 ((.ptr 153 0) :: (.clo 59 [(153, 0), (112, 0), (130, 0), (128, 0)]) :: (dT 3 [])))))), dc, dc, dT 1 ((.row false (.rSpan v193)) :: (tL v194) :: (tL v204) :: (dT 12 [])), dc, dc, dc, (.hdr 15) :: (eRecvt v205), [.hdr 1, (tL v206), .hdr 1, .row false (.ruint8 v207), .hdr 15, (tL 0), .row true (.ruint8 []), .row true (.rPiece []), (tL 0), (tL 0), (tL 0), (tI .u32 0), (tB false), (tB false), (tL 0), (tB false)], (.row true (.rSpan [])) :: (tI .u32 0) :: (tI .u32 0) :: (tB false) :: (dT 5 ((.hdr 1) :: (tB v208) :: (dT 5 []))), dc, dc]
def fr34_59 (v196 : SRecv) (v199 : Bool) : FF := [dT 3 ((.ptr 112 0) :: (dT 2 ((.ptr 132 0) :: (dT 4 ((.ptr 153 0) :: (dT 4 [])))))), dc, dc, dc, dc, dc, dc, (.hdr 15) :: (eRecvt v196), dT 4 ([.hdr 15, (tL 0), .row true (.ruint8 []), .row true (.rPiece []), (tL 0), (tL 0), (tL 0), (tI .u32 0), (tB false), (tB false), (tL 0), (tB false)]), (.row true (.rSpan [])) :: (tI .u32 0) :: (tI .u32 0) :: (tB false) :: (dT 5 ((.hdr 1) :: (tB v199) :: (dT 5 []))), dc, dc]
def fr34_60 (v193 : (List SSpan)) (v194 v195 : Int) (v196 : SRecv) (v197 : Int) (v198 : (List Int)) (v199 : Bool) : FF := [dT 3 ((.ptr 112 0) :: (dT 2 ((.ptr 132 0) :: (dT 4 ((.ptr 153 0) :: (.clo 59 [(153, 0), (112, 0), (130, 0), (128, 0)]) :: (dT 3 [])))))), dc, dc, dT 1 ((.row false (.rSpan v193)) :: (tL v194) :: (tL v195) :: (dT 12 [])), dc, dc, dc, (.hdr 15) :: (eRecvt v196), [.hdr 1, (tL v197), .hdr 1, .row false (.ruint8 v198), .hdr 15, (tL 0), .row true (.ruint8 []), .row true (.rPiece []), (tL 0), (tL 0), (tL 0), (tI .u32 0), (tB false), (tB false), (tL 0), (tB false)], (.row true (.rSpan [])) :: (tI .u32 0) :: (tI .u32 0) :: (tB false) :: (dT 5 ((.hdr 1) :: (tB v199) :: (dT 5 []))), dc, dc]
theorem s34_57_t (cp : CP) (n : Nat) (v193 : (List SSpan)) (v194 v195 : Int) (v196 : SRecv) (v197 : Int) (v198 : (List Int)) (v199 : Bool) (k : KX R) : X cp n i34_17 (fr34_60 v193 v194 v195 v196 v197 v198 v199) k = s34_57 cp n v193 v194 v195 v196 v197 v198 v199 (fun v204 v205 v206 v207 v208 => k .norm (fr34_58 v193 v194 v204 v205 v206 v207 v208)) (k (.exit 2) (fr34_59 v196 v199)) := by kernel_rfl
def fr34_61 (v209 : SRecv) (v210 : Bool) : FF := [dT 3 ((.ptr 112 0) :: (dT 2 ((.ptr 132 0) :: (dT 4 ((.ptr 153 0) :: (dT 4 [])))))), dc, dc, dc, dc, dc, dc, (.hdr 15) :: (eRecvt v209), dT 4 ([.hdr 15, (tL 0), .row true (.ruint8 []), .row true (.rPiece []), (tL 0), (tL 0), (tL 0), (tI .u32 0), (tB false), (tB false), (tL 0), (tB false)]), (.row true (.rSpan [])) :: (tI .u32 0) :: (tI .u32 0) :: (tB false) :: (dT 5 ((.hdr 1) :: (tB v210) :: (dT 5 []))), dc, dc]
theorem l34_62_t (cp : CP) (n : Nat) : ∀ (m : Nat) (v193 : (List SSpan)) (v194 v195 : Int) (v196 : SRecv) (v197 : Int) (v198 : (List Int)) (v199 : Bool) (k : KX R), loopN2 (X cp n i34_17) m (fr34_60 v193 v194 v195 v196 v197 v198 v199) k = l34_62 cp n m v193 v194 v195 v196 v197 v198 v199 (fun v209 v210 => k (.exit 2) (fr34_61 v209 v210))
  | 0, _, _, _, _, _, _, _, _ => rfl
  | m + 1, v193, v194, v195, v196, v197, v198, v199, k => (loopN2_succ (X cp n i34_17) m (fr34_60 v193 v194 v195 v196 v197 v198 v199) k).trans ((s34_57_t cp n v193 v194 v195 v196 v197 v198 v199 (loopT (X cp n i34_17) m k)).trans ((show s34_57 cp n v193 v194 v195 v196 v197 v198 v199 (fun v204 v205 v206 v207 v208 => loopT (X cp n i34_17) m k .norm (fr34_58 v193 v194 v204 v205 v206 v207 v208)) (loopT (X cp n i34_17) m k (.exit 2) (fr34_59 v196 v199)) = s34_57 cp n v193 v194 v195 v196 v197 v198 v199 (fun v204 v205 v206 v207 v208 => loopN2 (X cp n i34_17) m (fr34_60 v193 v194 v204 v205 v206 v207 v208) k) (k (.exit 2) (fr34_61 v196 v199)) from by kernel_rfl).trans (congrArg (fun q => s34_57 cp n v193 v194 v195 v196 v197 v198 v199 q (k (.exit 2) (fr34_61 v196 v199))) (funext fun v204 => funext fun v205 => funext fun v206 => funext fun v207 => funext fun v208 => l34_62_t cp n m v193 v194 v204 v205 v206 v207 v208 k))))
theorem s34_63_t (cp : CP) (n : Nat) (p0 : SRecv) (p1 : Int) (p2 : (List Int)) (v193 : (List SSpan)) (v194 : Int) (k : KX R) : X cp n i34_18 (fr34_56 p0 p1 p2 v193 v194) k = s34_63 cp n p0 p1 p2 v193 v194 (fun v209 v210 => k (.exit 2) (fr34_61 v209 v210)) := (show X cp n i34_18 (fr34_56 p0 p1 p2 v193 v194) k = loopN2 (X cp n i34_17) n (fr34_60 v193 v194 0 p0 p1 p2 false) k from by kernel_rfl).trans (l34_62_t cp n n v193 v194 0 p0 p1 p2 false k)
def fr34_64 (v211 : SRecv) (v212 : Bool) : FF := [dT 3 ((.ptr 112 0) :: (dT 2 ((.ptr 132 0) :: (dT 4 ((.ptr 153 0) :: (dT 4 [])))))), dc, dc, dc, dc, dc, dc, (.hdr 15) :: (eRecvt v211), dT 4 ([.hdr 15, (tL 0), .row true (.ruint8 []), .row true (.rPiece []), (tL 0), (tL 0), (tL 0), (tI .u32 0), (tB false), (tB false), (tL 0), (tB false)]), (.row true (.rSpan [])) :: (tI .u32 0) :: (tI .u32 0) :: (tB false) :: (dT 5 ((.hdr 1) :: (tB v212) :: (dT 5 []))), dc, dc]
theorem s34_65_t (cp : CP) (n : Nat) (p0 : SRecv) (p1 : Int) (p2 : (List Int)) (v193 : (List SSpan)) (v194 : Int) (k : KX R) : X cp n i34_19 (fr34_56 p0 p1 p2 v193 v194) k = s34_65 cp n p0 p1 p2 v193 v194 (fun v211 v212 => k .norm (fr34_64 v211 v212)) := (show X cp n i34_19 (fr34_56 p0 p1 p2 v193 v194) k = X cp n i34_18 (fr34_56 p0 p1 p2 v193 v194) (blkT 2 k) from by kernel_rfl).trans ((s34_63_t cp n p0 p1 p2 v193 v194 (blkT 2 k)).trans (by kernel_rfl))
def fr34_66 (v213 : SRecv) (v214 : Bool) : FF := [dT 3 ((.ptr 112 0) :: (dT 2 ((.ptr 132 0) :: (dT 4 ((.ptr 153 0) :: (dT 4 [])))))), dc, dc, dc, dc, dc, dc, (.hdr 15) :: (eRecvt v213), dT 4 ([.hdr 15, (tL 0), .row true (.ruint8 []), .row true (.rPiece []), (tL 0), (tL 0), (tL 0), (tI .u32 0), (tB false), (tB false), (tL 0), (tB false)]), (.row true (.rSpan [])) :: (tI .u32 0) :: (tI .u32 0) :: (tB false) :: (dT 5 ((.hdr 1) :: (tB v214) :: (dT 5 []))), dc, dc]
theorem s34_67_t (cp : CP) (n : Nat) (p0 : SRecv) (p1 : Int) (p2 : (List Int)) (v163 : Int) (v189 : (List SSpan)) (v190 : Int) (v191 : Bool) (k : KX R) : X cp n i34_20 (fr34_54 p0 p1 p2 v163 v189 v190 v191) k = s34_67 cp n p0 p1 p2 v163 v189 v190 v191 (fun v213 v214 => k .norm (fr34_66 v213 v214)) := ((fun c => (show X cp n (.seq (.fin (.reg g34_12) [8, 9, 13, 44, 45, 46, 47, 48] [(148, 1)]) c) (fr34_54 p0 p1 p2 v163 v189 v190 v191) k = s34_55 cp n p0 p1 p2 v163 v189 v190 v191 (fun v193 v194 => X cp n c (fr34_56 p0 p1 p2 v193 v194) k) from by kernel_rfl)) i34_19).trans (congrArg (fun q => s34_55 cp n p0 p1 p2 v163 v189 v190 v191 q) (funext fun v193 => funext fun v194 => (s34_65_t cp n p0 p1 p2 v193 v194 k).trans (show s34_65 cp n p0 p1 p2 v193 v194 (fun v211 v212 => k .norm (fr34_64 v211 v212)) = s34_65 cp n p0 p1 p2 v193 v194 (fun v211 v212 => k .norm (fr34_66 v211 v212)) from by kernel_rfl)))
theorem s34_68_t (cp : CP) (n : Nat) (p0 : SRecv) (p1 : Int) (p2 : (List Int)) (v163 : Int) (v189 : (List SSpan)) (v190 : Int) (v191 : Bool) (k : KX R) : X cp n i34_21 (fr34_54 p0 p1 p2 v163 v189 v190 v191) k = s34_68 cp n p0 p1 p2 v163 v189 v190 v191 (k .norm (fr34_54 p0 p1 p2 v163 v189 v190 v191)) := by kernel_rfl
def fr34_70 (v215 : SRecv) (v216 : Bool) : FF := [dT 3 ((.ptr 112 0) :: (dT 2 ((.ptr 132 0) :: (dT 4 ((.ptr 153 0) :: (dT 4 [])))))), dc, dc, dc, dc, dc, dc, (.hdr 15) :: (eRecvt v215), dT 4 ([.hdr 15, (tL 0), .row true (.ruint8 []), .row true (.rPiece []), (tL 0), (tL 0), (tL 0), (tI .u32 0), (tB false), (tB false), (tL 0), (tB false)]), (.row true (.rSpan [])) :: (tI .u32 0) :: (tI .u32 0) :: (tB false) :: (dT 5 ((.hdr 1) :: (tB v216) :: (dT 5 []))), dc, dc]
theorem s34_69_t (cp : CP) (n : Nat) (p0 : SRecv) (p1 : Int) (p2 : (List Int)) (v163 : Int) (v189 : (List SSpan)) (v190 : Int) (v191 : Bool) (k : KX R) : X cp n i34_22 (fr34_54 p0 p1 p2 v163 v189 v190 v191) k = s34_69 cp n p0 p1 p2 v163 v189 v190 v191 (fun v215 v216 => k .norm (fr34_70 v215 v216)) := (show X cp n i34_22 (fr34_54 p0 p1 p2 v163 v189 v190 v191) k = cond (v191) (X cp n i34_20 (fr34_54 p0 p1 p2 v163 v189 v190 v191) (clrT [8, 9, 12, 13, 44] [(128, 1), (130, 1), (148, 1)] k)) (X cp n i34_21 (fr34_54 p0 p1 p2 v163 v189 v190 v191) (clrT [8, 9, 12, 13, 44] [(128, 1), (130, 1), (148, 1)] k)) from by kernel_rfl).trans (cc ((s34_67_t cp n p0 p1 p2 v163 v189 v190 v191 (clrT [8, 9, 12, 13, 44] [(128, 1), (130, 1), (148, 1)] k)).trans (show s34_67 cp n p0 p1 p2 v163 v189 v190 v191 (fun v213 v214 => (clrT [8, 9, 12, 13, 44] [(128, 1), (130, 1), (148, 1)] k) .norm (fr34_66 v213 v214)) = s34_67 cp n p0 p1 p2 v163 v189 v190 v191 (fun v213 v214 => k .norm (fr34_70 v213 v214)) from by kernel_rfl)) ((s34_68_t cp n p0 p1 p2 v163 v189 v190 v191 (clrT [8, 9, 12, 13, 44] [(128, 1), (130, 1), (148, 1)] k)).trans (show s34_68 cp n p0 p1 p2 v163 v189 v190 v191 ((clrT [8, 9, 12, 13, 44] [(128, 1), (130, 1), (148, 1)] k) .norm (fr34_54 p0 p1 p2 v163 v189 v190 v191)) = s34_68 cp n p0 p1 p2 v163 v189 v190 v191 (k .norm (fr34_70 p0 false)) from by kernel_rfl)))
def fr34_71 (v217 : SRecv) (v218 : Bool) : FF := [dT 3 ((.ptr 112 0) :: (dT 2 ((.ptr 132 0) :: (dT 4 ((.ptr 153 0) :: (dT 4 [])))))), dc, dc, dc, dc, dc, dc, (.hdr 15) :: (eRecvt v217), dT 4 ([.hdr 15, (tL 0), .row true (.ruint8 []), .row true (.rPiece []), (tL 0), (tL 0), (tL 0), (tI .u32 0), (tB false), (tB false), (tL 0), (tB false)]), (.row true (.rSpan [])) :: (tI .u32 0) :: (tI .u32 0) :: (tB false) :: (dT 5 ((.hdr 1) :: (tB v218) :: (dT 5 []))), dc, dc]
theorem s34_72_t (cp : CP) (n : Nat) (p0 : SRecv) (p1 : Int) (p2 : (List Int)) (v163 : Int) (v189 : (List SSpan)) (k : KX R) : X cp n i34_23 (fr34_52 p0 p1 p2 v163 v189) k = s34_72 cp n p0 p1 p2 v163 v189 (fun v217 v218 => k .norm (fr34_71 v217 v218)) := ((fun c => (show X cp n (.seq (.fin (.reg g34_10) [4, 38, 39, 40, 41] []) (.seq (.fin (.reg g34_11) [42, 43] []) c)) (fr34_52 p0 p1 p2 v163 v189) k = s34_53 cp n p0 p1 p2 v163 v189 (fun v190 v191 => X cp n c (fr34_54 p0 p1 p2 v163 v189 v190 v191) k) from by kernel_rfl)) i34_22).trans (congrArg (fun q => s34_53 cp n p0 p1 p2 v163 v189 q) (funext fun v190 => funext fun v191 => (s34_69_t cp n p0 p1 p2 v163 v189 v190 v191 k).trans (show s34_69 cp n p0 p1 p2 v163 v189 v190 v191 (fun v215 v216 => k .norm (fr34_70 v215 v216)) = s34_69 cp n p0 p1 p2 v163 v189 v190 v191 (fun v215 v216 => k .norm (fr34_71 v215 v216)) from by kernel_rfl)))
def fr34_74 (v218 : Bool) (v220 : SRecv) : FF := [dT 3 ((.ptr 112 0) :: (dT 2 ((.ptr 132 0) :: (dT 4 ((.ptr 153 0) :: (dT 4 [])))))), dc, dc, dc, dc, dc, dc, [.hdr 15, (tL v220.xNext), .row true (.ruint8 v220.xUnread), .row false (.rPiece v220.xLate), (tL v220.xCap), (tL v220.xShift), (tL v220.xEdge), (tI .u32 v220.xRecent), (tB v220.xStamps), (tB v220.xSacks), (tL v220.xFin), (tB v220.xDone), .row true (.rSpan v220.xFirst), (tI .u32 v220.xIrs), (tI .u32 v220.xOwn), (tB v220.xStamp)], dT 4 ([.hdr 15, (tL 0), .row true (.ruint8 []), .row true (.rPiece []), (tL 0), (tL 0), (tL 0), (tI .u32 0), (tB false), (tB false), (tL 0), (tB false)]), (.row true (.rSpan [])) :: (tI .u32 0) :: (tI .u32 0) :: (tB false) :: (dT 5 ((.hdr 1) :: (tB v218) :: (dT 5 []))), dc, dc]
def fr34_75 (v218 : Bool) (v219 : SRecv) : FF := [dT 3 ((.ptr 112 0) :: (dT 2 ((.ptr 132 0) :: (dT 4 ((.ptr 153 0) :: (dT 4 [])))))), dc, dc, dc, dc, dc, dc, [.hdr 15, (tL v219.xNext), .row true (.ruint8 v219.xUnread), .row false (.rPiece v219.xLate), (tL v219.xCap), (tL v219.xShift), (tL v219.xEdge), (tI .u32 v219.xRecent), (tB v219.xStamps), (tB v219.xSacks), (tL v219.xFin), (tB v219.xDone), .row true (.rSpan v219.xFirst), (tI .u32 v219.xIrs), (tI .u32 v219.xOwn), (tB v219.xStamp)], dT 4 ([.hdr 15, (tL 0), .row true (.ruint8 []), .row true (.rPiece []), (tL 0), (tL 0), (tL 0), (tI .u32 0), (tB false), (tB false), (tL 0), (tB false)]), (.row true (.rSpan [])) :: (tI .u32 0) :: (tI .u32 0) :: (tB false) :: (dT 5 ((.hdr 1) :: (tB v218) :: (dT 5 []))), dc, dc]
theorem s34_73_t (cp : CP) (n : Nat) (v218 : Bool) (v219 : SRecv) (k : KX R) : X cp n i34_24 (fr34_75 v218 v219) k = s34_73 cp n v218 v219 (fun v220 => k .norm (fr34_74 v218 v220)) (k (.exit 4) (fr34_75 v218 v219)) := by kernel_rfl
def fr34_76 (v218 : Bool) (v221 : SRecv) : FF := [dT 3 ((.ptr 112 0) :: (dT 2 ((.ptr 132 0) :: (dT 4 ((.ptr 153 0) :: (dT 4 [])))))), dc, dc, dc, dc, dc, dc, [.hdr 15, (tL v221.xNext), .row true (.ruint8 v221.xUnread), .row false (.rPiece v221.xLate), (tL v221.xCap), (tL v221.xShift), (tL v221.xEdge), (tI .u32 v221.xRecent), (tB v221.xStamps), (tB v221.xSacks), (tL v221.xFin), (tB v221.xDone), .row true (.rSpan v221.xFirst), (tI .u32 v221.xIrs), (tI .u32 v221.xOwn), (tB v221.xStamp)], dT 4 ([.hdr 15, (tL 0), .row true (.ruint8 []), .row true (.rPiece []), (tL 0), (tL 0), (tL 0), (tI .u32 0), (tB false), (tB false), (tL 0), (tB false)]), (.row true (.rSpan [])) :: (tI .u32 0) :: (tI .u32 0) :: (tB false) :: (dT 5 ((.hdr 1) :: (tB v218) :: (dT 5 []))), dc, dc]
theorem l34_77_t (cp : CP) (n : Nat) : ∀ (m : Nat) (v218 : Bool) (v219 : SRecv) (k : KX R), loopN2 (X cp n i34_24) m (fr34_75 v218 v219) k = l34_77 cp n m v218 v219 (fun v221 => k (.exit 4) (fr34_76 v218 v221))
  | 0, _, _, _ => rfl
  | m + 1, v218, v219, k => (loopN2_succ (X cp n i34_24) m (fr34_75 v218 v219) k).trans ((s34_73_t cp n v218 v219 (loopT (X cp n i34_24) m k)).trans ((show s34_73 cp n v218 v219 (fun v220 => loopT (X cp n i34_24) m k .norm (fr34_74 v218 v220)) (loopT (X cp n i34_24) m k (.exit 4) (fr34_75 v218 v219)) = s34_73 cp n v218 v219 (fun v220 => loopN2 (X cp n i34_24) m (fr34_75 v218 v220) k) (k (.exit 4) (fr34_76 v218 v219)) from by kernel_rfl).trans (congrArg (fun q => s34_73 cp n v218 v219 q (k (.exit 4) (fr34_76 v218 v219))) (funext fun v220 => l34_77_t cp n m v218 v220 k))))
def fr34_79 (v217 : SRecv) (v218 : Bool) : FF := [dT 3 ((.ptr 112 0) :: (dT 2 ((.ptr 132 0) :: (dT 4 ((.ptr 153 0) :: (dT 4 [])))))), dc, dc, dc, dc, dc, dc, [.hdr 15, (tL v217.xNext), .row true (.ruint8 v217.xUnread), .row false (.rPiece v217.xLate), (tL v217.xCap), (tL v217.xShift), (tL v217.xEdge), (tI .u32 v217.xRecent), (tB v217.xStamps), (tB v217.xSacks), (tL v217.xFin), (tB v217.xDone), .row true (.rSpan v217.xFirst), (tI .u32 v217.xIrs), (tI .u32 v217.xOwn), (tB v217.xStamp)], dT 4 ([.hdr 15, (tL 0), .row true (.ruint8 []), .row true (.rPiece []), (tL 0), (tL 0), (tL 0), (tI .u32 0), (tB false), (tB false), (tL 0), (tB false)]), (.row true (.rSpan [])) :: (tI .u32 0) :: (tI .u32 0) :: (tB false) :: (dT 5 ((.hdr 1) :: (tB v218) :: (dT 5 []))), dc, dc]
theorem s34_78_t (cp : CP) (n : Nat) (v217 : SRecv) (v218 : Bool) (k : KX R) : X cp n i34_25 (fr34_79 v217 v218) k = s34_78 cp n v217 v218 (fun v221 => k (.exit 4) (fr34_76 v218 v221)) := (show X cp n i34_25 (fr34_79 v217 v218) k = loopN2 (X cp n i34_24) n (fr34_75 v218 v217) k from by kernel_rfl).trans (l34_77_t cp n n v218 v217 k)
theorem s34_80_t (cp : CP) (n : Nat) (v217 : SRecv) (v218 : Bool) (k : KX R) : X cp n i34_26 (fr34_71 v217 v218) k = s34_80 cp n v217 v218 (fun v221 => k (.exit 4) (fr34_76 v218 v221)) := (show X cp n i34_26 (fr34_71 v217 v218) k = X cp n i34_25 (fr34_79 v217 v218) k from by kernel_rfl).trans (s34_78_t cp n v217 v218 k)
def fr34_81 (v218 : Bool) (v222 : SRecv) : FF := [dT 3 ((.ptr 112 0) :: (dT 2 ((.ptr 132 0) :: (dT 4 ((.ptr 153 0) :: (dT 4 [])))))), dc, dc, dc, dc, dc, dc, [.hdr 15, (tL v222.xNext), .row true (.ruint8 v222.xUnread), .row false (.rPiece v222.xLate), (tL v222.xCap), (tL v222.xShift), (tL v222.xEdge), (tI .u32 v222.xRecent), (tB v222.xStamps), (tB v222.xSacks), (tL v222.xFin), (tB v222.xDone), .row true (.rSpan v222.xFirst), (tI .u32 v222.xIrs), (tI .u32 v222.xOwn), (tB v222.xStamp)], dT 4 ([.hdr 15, (tL 0), .row true (.ruint8 []), .row true (.rPiece []), (tL 0), (tL 0), (tL 0), (tI .u32 0), (tB false), (tB false), (tL 0), (tB false)]), (.row true (.rSpan [])) :: (tI .u32 0) :: (tI .u32 0) :: (tB false) :: (dT 5 ((.hdr 1) :: (tB v218) :: (dT 5 []))), dc, dc]
theorem s34_82_t (cp : CP) (n : Nat) (v217 : SRecv) (v218 : Bool) (k : KX R) : X cp n i34_27 (fr34_71 v217 v218) k = s34_82 cp n v217 v218 (fun v222 => k .norm (fr34_81 v218 v222)) := (show X cp n i34_27 (fr34_71 v217 v218) k = X cp n i34_26 (fr34_71 v217 v218) (blkT 4 k) from by kernel_rfl).trans ((s34_80_t cp n v217 v218 (blkT 4 k)).trans (by kernel_rfl))
def fr34_84 (v218 : Bool) (v222 : SRecv) : FF := [dT 6 ((.ptr 132 0) :: (tB v218) :: (dT 8 [])), dc, dc, dc, dc, dc, dc, dc, dT 4 ([.hdr 15, (tL v222.xNext), .row true (.ruint8 v222.xUnread), .row false (.rPiece v222.xLate), (tL v222.xCap), (tL v222.xShift), (tL v222.xEdge), (tI .u32 v222.xRecent), (tB v222.xStamps), (tB v222.xSacks), (tL v222.xFin), (tB v222.xDone)]), (.row true (.rSpan v222.xFirst)) :: (tI .u32 v222.xIrs) :: (tI .u32 v222.xOwn) :: (tB v222.xStamp) :: (dT 12 []), dc, dc]
theorem s34_83_t (cp : CP) (n : Nat) (v218 : Bool) (v222 : SRecv) (k : KX R) : X cp n i34_28 (fr34_81 v218 v222) k = s34_83 cp n v218 v222 (k .ret (fr34_84 v218 v222)) := by kernel_rfl
def fr34_85 (v218 : Bool) (v223 : SRecv) : FF := [dT 6 ((.ptr 132 0) :: (tB v218) :: (dT 8 [])), dc, dc, dc, dc, dc, dc, dc, dT 4 ([.hdr 15, (tL v223.xNext), .row true (.ruint8 v223.xUnread), .row false (.rPiece v223.xLate), (tL v223.xCap), (tL v223.xShift), (tL v223.xEdge), (tI .u32 v223.xRecent), (tB v223.xStamps), (tB v223.xSacks), (tL v223.xFin), (tB v223.xDone)]), (.row true (.rSpan v223.xFirst)) :: (tI .u32 v223.xIrs) :: (tI .u32 v223.xOwn) :: (tB v223.xStamp) :: (dT 12 []), dc, dc]
theorem s34_86_t (cp : CP) (n : Nat) (v217 : SRecv) (v218 : Bool) (k : KX R) : X cp n i34_29 (fr34_71 v217 v218) k = s34_86 cp n v217 v218 (fun v223 => k .ret (fr34_85 v218 v223)) := (show X cp n i34_29 (fr34_71 v217 v218) k = X cp n i34_27 (fr34_71 v217 v218) (seqT (X cp n) i34_28 k) from by kernel_rfl).trans ((show X cp n i34_27 (fr34_71 v217 v218) (seqT (X cp n) i34_28 k) = s34_82 cp n v217 v218 (fun v222 => X cp n i34_28 (fr34_81 v218 v222) k) from (s34_82_t cp n v217 v218 (seqT (X cp n) i34_28 k)).trans (by kernel_rfl)).trans (congrArg (fun q => s34_82 cp n v217 v218 q) (funext fun v222 => (s34_83_t cp n v218 v222 k).trans (show s34_83 cp n v218 v222 (k .ret (fr34_84 v218 v222)) = s34_83 cp n v218 v222 (k .ret (fr34_85 v218 v222)) from by kernel_rfl))))
def fr34_87 (v224 : Bool) (v225 : SRecv) : FF := [dT 6 ((.ptr 132 0) :: (tB v224) :: (dT 8 [])), dc, dc, dc, dc, dc, dc, dc, dT 4 ([.hdr 15, (tL v225.xNext), .row true (.ruint8 v225.xUnread), .row false (.rPiece v225.xLate), (tL v225.xCap), (tL v225.xShift), (tL v225.xEdge), (tI .u32 v225.xRecent), (tB v225.xStamps), (tB v225.xSacks), (tL v225.xFin), (tB v225.xDone)]), (.row true (.rSpan v225.xFirst)) :: (tI .u32 v225.xIrs) :: (tI .u32 v225.xOwn) :: (tB v225.xStamp) :: (dT 12 []), dc, dc]
theorem s34_88_t (cp : CP) (n : Nat) (p0 : SRecv) (p1 : Int) (p2 : (List Int)) (v163 : Int) (v189 : (List SSpan)) (k : KX R) : X cp n i34_30 (fr34_52 p0 p1 p2 v163 v189) k = s34_88 cp n p0 p1 p2 v163 v189 (fun v224 v225 => k .ret (fr34_87 v224 v225)) := (show X cp n i34_30 (fr34_52 p0 p1 p2 v163 v189) k = X cp n i34_23 (fr34_52 p0 p1 p2 v163 v189) (seqT (X cp n) i34_29 k) from by kernel_rfl).trans ((show X cp n i34_23 (fr34_52 p0 p1 p2 v163 v189) (seqT (X cp n) i34_29 k) = s34_72 cp n p0 p1 p2 v163 v189 (fun v217 v218 => X cp n i34_29 (fr34_71 v217 v218) k) from (s34_72_t cp n p0 p1 p2 v163 v189 (seqT (X cp n) i34_29 k)).trans (by kernel_rfl)).trans (congrArg (fun q => s34_72 cp n p0 p1 p2 v163 v189 q) (funext fun v217 => funext fun v218 => (s34_86_t cp n v217 v218 k).trans (show s34_86 cp n v217 v218 (fun v223 => k .ret (fr34_85 v218 v223)) = s34_86 cp n v217 v218 (fun v223 => k .ret (fr34_87 v218 v223)) from by kernel_rfl))))
def fr34_89 (v226 : Bool) (v227 : SRecv) : FF := [dT 6 ((.ptr 132 0) :: (tB v226) :: (dT 8 [])), dc, dc, dc, dc, dc, dc, dc, dT 4 ([.hdr 15, (tL v227.xNext), .row true (.ruint8 v227.xUnread), .row false (.rPiece v227.xLate), (tL v227.xCap), (tL v227.xShift), (tL v227.xEdge), (tI .u32 v227.xRecent), (tB v227.xStamps), (tB v227.xSacks), (tL v227.xFin), (tB v227.xDone)]), (.row true (.rSpan v227.xFirst)) :: (tI .u32 v227.xIrs) :: (tI .u32 v227.xOwn) :: (tB v227.xStamp) :: (dT 12 []), dc, dc]
theorem s34_90_t (cp : CP) (n : Nat) (p0 : SRecv) (p1 : Int) (p2 : (List Int)) (v163 : Int) (v189 : (List SSpan)) (k : KX R) : X cp n i34_31 (fr34_49 p0 p1 p2 v163 v189) k = s34_90 cp n p0 p1 p2 v163 v189 (fun v226 v227 => k .ret (fr34_89 v226 v227)) := ((fun c => (show X cp n (.seq (.reg g34_8) (.seq (.fin (.reg g34_9) [5, 37] []) c)) (fr34_49 p0 p1 p2 v163 v189) k = s34_51 cp n p0 p1 p2 v163 v189 (X cp n c (fr34_52 p0 p1 p2 v163 v189) k) from by kernel_rfl)) i34_30).trans (congrArg (fun q => s34_51 cp n p0 p1 p2 v163 v189 q) ((s34_88_t cp n p0 p1 p2 v163 v189 k).trans (show s34_88 cp n p0 p1 p2 v163 v189 (fun v224 v225 => k .ret (fr34_87 v224 v225)) = s34_88 cp n p0 p1 p2 v163 v189 (fun v224 v225 => k .ret (fr34_89 v224 v225)) from by kernel_rfl)))
def fr34_91 (v228 : Bool) (v229 : SRecv) : FF := [dT 6 ((.ptr 132 0) :: (tB v228) :: (dT 8 [])), dc, dc, dc, dc, dc, dc, dc, dT 4 ([.hdr 15, (tL v229.xNext), .row true (.ruint8 v229.xUnread), .row false (.rPiece v229.xLate), (tL v229.xCap), (tL v229.xShift), (tL v229.xEdge), (tI .u32 v229.xRecent), (tB v229.xStamps), (tB v229.xSacks), (tL v229.xFin), (tB v229.xDone)]), (.row true (.rSpan v229.xFirst)) :: (tI .u32 v229.xIrs) :: (tI .u32 v229.xOwn) :: (tB v229.xStamp) :: (dT 12 []), dc, dc]
theorem s34_92_t (cp : CP) (n : Nat) (p0 : SRecv) (p1 : Int) (p2 : (List Int)) (v163 : Int) (k : KX R) : X cp n i34_32 (fr34_2 p0 p1 p2 v163) k = s34_92 cp n p0 p1 p2 v163 (fun v228 v229 => k .ret (fr34_91 v228 v229)) := (show X cp n i34_32 (fr34_2 p0 p1 p2 v163) k = X cp n i34_16 (fr34_2 p0 p1 p2 v163) (seqT (X cp n) i34_31 k) from by kernel_rfl).trans ((show X cp n i34_16 (fr34_2 p0 p1 p2 v163) (seqT (X cp n) i34_31 k) = s34_50 cp n p0 p1 p2 v163 (fun v189 => X cp n i34_31 (fr34_49 p0 p1 p2 v163 v189) k) from (s34_50_t cp n p0 p1 p2 v163 (seqT (X cp n) i34_31 k)).trans (by kernel_rfl)).trans (congrArg (fun q => s34_50 cp n p0 p1 p2 v163 q) (funext fun v189 => (s34_90_t cp n p0 p1 p2 v163 v189 k).trans (show s34_90 cp n p0 p1 p2 v163 v189 (fun v226 v227 => k .ret (fr34_89 v226 v227)) = s34_90 cp n p0 p1 p2 v163 v189 (fun v226 v227 => k .ret (fr34_91 v226 v227)) from by kernel_rfl))))
def fr34_93 (v230 : Bool) (v231 : SRecv) : FF := [dT 6 ((.ptr 132 0) :: (tB v230) :: (dT 8 [])), dc, dc, dc, dc, dc, dc, dc, dT 4 ([.hdr 15, (tL v231.xNext), .row true (.ruint8 v231.xUnread), .row false (.rPiece v231.xLate), (tL v231.xCap), (tL v231.xShift), (tL v231.xEdge), (tI .u32 v231.xRecent), (tB v231.xStamps), (tB v231.xSacks), (tL v231.xFin), (tB v231.xDone)]), (.row true (.rSpan v231.xFirst)) :: (tI .u32 v231.xIrs) :: (tI .u32 v231.xOwn) :: (tB v231.xStamp) :: (dT 12 []), dc, dc]
def fr34_95 (p0 : SRecv) (p1 : Int) (p2 : (List Int)) : FF := [(.agg (eRecvt p0)) :: (tL p1) :: (.row false (.ruint8 p2)) :: (dT 13 []), dc, dc, dc, dc, dc, dc, dc, dc, dc, dc, dc]
theorem s34_94_t (cp : CP) (n : Nat) (p0 : SRecv) (p1 : Int) (p2 : (List Int)) (k : KX R) : X cp n i34_33 (fr34_95 p0 p1 p2) k = s34_94 cp n p0 p1 p2 (fun v230 v231 => k .ret (fr34_93 v230 v231)) := ((fun c => (show X cp n (.seq (.fin (.reg g34_0) [0, 1, 2, 7] []) (.seq (.fin (.reg g34_1) [16, 17, 18, 19, 20, 21, 22] []) (.seq (.seq (.fin (.reg g34_2) [23, 24] []) (.fin (.cond (.s 25) (.fin (.reg g34_3) [25, 26, 27, 28, 29] []) i34_21) [25] [])) (.seq (.reg g34_4) c)))) (fr34_95 p0 p1 p2) k = s34_1 cp n p0 p1 p2 (fun v163 => X cp n c (fr34_2 p0 p1 p2 v163) k) from by kernel_rfl)) i34_32).trans (congrArg (fun q => s34_1 cp n p0 p1 p2 q) (funext fun v163 => (s34_92_t cp n p0 p1 p2 v163 k).trans (show s34_92 cp n p0 p1 p2 v163 (fun v228 v229 => k .ret (fr34_91 v228 v229)) = s34_92 cp n p0 p1 p2 v163 (fun v228 v229 => k .ret (fr34_93 v228 v229)) from by kernel_rfl)))
theorem run34 (cp : CP) (n : Nat) (p0 : SRecv) (p1 : Int) (p2 : (List Int)) (k : Ret2 RW → Option R) : G34 cp (n + 1) p0 p1 p2 (fun r0 r1 => k ⟨.tup [.agg [(tL r0.xNext), .row true (.ruint8 r0.xUnread), .row false (.rPiece r0.xLate), (tL r0.xCap), (tL r0.xShift), (tL r0.xEdge), (tI .u32 r0.xRecent), (tB r0.xStamps), (tB r0.xSacks), (tL r0.xFin), (tB r0.xDone), .row true (.rSpan r0.xFirst), (tI .u32 r0.xIrs), (tI .u32 r0.xOwn), (tB r0.xStamp)], (tB r1)], [], []⟩) = run2 U cp (callP cp n) n fn34 [.agg (eRecvt p0), (tL p1), .row false (.ruint8 p2)] [] k := ((X_run (f := fn34) (av := [.agg (eRecvt p0), (tL p1), .row false (.ruint8 p2)]) (cells := []) (code := i34_33) (fr := (fr34_95 p0 p1 p2)) (k := k) (by kernel_rfl) (fun K => by kernel_rfl)).trans ((s34_94_t cp n p0 p1 p2 (finK2 fn34 k)).trans (by kernel_rfl))).symm
/-! tideway/recv.firsts$1 -/
theorem run1036 (cp : CP) (n : Nat) (p0 q0 : SSpan) (k : Ret2 RW → Option R) : G1036 cp (n + 1) p0 q0 (fun r0 r1 => k ⟨(tB r0), [(eSpan r1)], []⟩) = run2 U cp (callP cp n) n fn1036 [.agg (eSpan p0), .ptr 16 0] [(eSpan q0)] k := by kernel_rfl
/-! slices.IndexFunc[[]tideway/api.Span,tideway/api.Span] -/
def fr1035_2 (p0 : (List SSpan)) (q0 : SSpan) : FF := [(.row false (.rSpan p0)) :: (.clo 63 [(19, 0)]) :: (dT 14 []), dT 3 ((.hdr 2) :: ((eSpan q0) ++ (dT 10 [])))]
def fr1035_4 (p0 : (List SSpan)) (q0 : SSpan) (v249 : Int) : FF := [(.row false (.rSpan p0)) :: (.clo 63 [(19, 0)]) :: (dT 5 ((tL v249) :: (tL 0) :: (dT 7 []))), dT 3 ((.hdr 2) :: ((eSpan q0) ++ (dT 10 [])))]
def fr1035_6 (p0 : (List SSpan)) (v249 v255 v256 v257 : Int) : FF := [(.row false (.rSpan p0)) :: (.clo 63 [(19, 0)]) :: (dT 5 ((tL v249) :: (tL v255) :: (dT 7 []))), dT 3 ((.hdr 2) :: (tL v256) :: (tL v257) :: (dT 10 []))]
def fr1035_7 (v250 v258 v259 : Int) : FF := [dT 4 ((tL v250) :: (dT 11 [])), dT 3 ((.hdr 2) :: (tL v258) :: (tL v259) :: (dT 10 []))]
def fr1035_8 (v251 v252 : Int) : FF := [dc, dT 3 ((.hdr 2) :: (tL v251) :: (tL v252) :: (dT 10 []))]
def fr1035_9 (p0 : (List SSpan)) (v249 v250 v251 v252 : Int) : FF := [(.row false (.rSpan p0)) :: (.clo 63 [(19, 0)]) :: (dT 5 ((tL v249) :: (tL v250) :: (dT 7 []))), dT 3 ((.hdr 2) :: (tL v251) :: (tL v252) :: (dT 10 []))]
theorem s1035_5_t (cp : CP) (n : Nat) (p0 : (List SSpan)) (v249 v250 v251 v252 : Int) (k : KX R) : X cp n i1035_0 (fr1035_9 p0 v249 v250 v251 v252) k = s1035_5 cp n p0 v249 v250 v251 v252 (fun v255 v256 v257 => k .norm (fr1035_6 p0 v249 v255 v256 v257)) (fun v258 v259 => k .ret (fr1035_7 v250 v258 v259)) (k (.exit 0) (fr1035_8 v251 v252)) := by kernel_rfl
def fr1035_10 (v260 v261 v262 : Int) : FF := [dT 4 ((tL v260) :: (dT 11 [])), dT 3 ((.hdr 2) :: (tL v261) :: (tL v262) :: (dT 10 []))]
def fr1035_11 (v263 v264 : Int) : FF := [dc, dT 3 ((.hdr 2) :: (tL v263) :: (tL v264) :: (dT 10 []))]
theorem l1035_12_t (cp : CP) (n : Nat) : ∀ (m : Nat) (p0 : (List SSpan)) (v249 v250 v251 v252 : Int) (k : KX R), loopN2 (X cp n i1035_0) m (fr1035_9 p0 v249 v250 v251 v252) k = l1035_12 cp n m p0 v249 v250 v251 v252 (fun v260 v261 v262 => k .ret (fr1035_10 v260 v261 v262)) (fun v263 v264 => k (.exit 0) (fr1035_11 v263 v264))
  | 0, _, _, _, _, _, _ => rfl
  | m + 1, p0, v249, v250, v251, v252, k => (loopN2_succ (X cp n i1035_0) m (fr1035_9 p0 v249 v250 v251 v252) k).trans ((s1035_5_t cp n p0 v249 v250 v251 v252 (loopT (X cp n i1035_0) m k)).trans ((show s1035_5 cp n p0 v249 v250 v251 v252 (fun v255 v256 v257 => loopT (X cp n i1035_0) m k .norm (fr1035_6 p0 v249 v255 v256 v257)) (fun v258 v259 => loopT (X cp n i1035_0) m k .ret (fr1035_7 v250 v258 v259)) (loopT (X cp n i1035_0) m k (.exit 0) (fr1035_8 v251 v252)) = s1035_5 cp n p0 v249 v250 v251 v252 (fun v255 v256 v257 => loopN2 (X cp n i1035_0) m (fr1035_9 p0 v249 v255 v256 v257) k) (fun v258 v259 => k .ret (fr1035_10 v250 v258 v259)) (k (.exit 0) (fr1035_11 v251 v252)) from by kernel_rfl).trans (congrArg (fun q => s1035_5 cp n p0 v249 v250 v251 v252 q (fun v258 v259 => k .ret (fr1035_10 v250 v258 v259)) (k (.exit 0) (fr1035_11 v251 v252))) (funext fun v255 => funext fun v256 => funext fun v257 => l1035_12_t cp n m p0 v249 v255 v256 v257 k))))
theorem s1035_13_t (cp : CP) (n : Nat) (p0 : (List SSpan)) (q0 : SSpan) (v249 : Int) (k : KX R) : X cp n i1035_1 (fr1035_4 p0 q0 v249) k = s1035_13 cp n p0 q0 v249 (fun v260 v261 v262 => k .ret (fr1035_10 v260 v261 v262)) (fun v263 v264 => k (.exit 0) (fr1035_11 v263 v264)) := (show X cp n i1035_1 (fr1035_4 p0 q0 v249) k = loopN2 (X cp n i1035_0) n (fr1035_9 p0 v249 0 q0.xFrom q0.xTo) k from by kernel_rfl).trans (l1035_12_t cp n n p0 v249 0 q0.xFrom q0.xTo k)
def fr1035_14 (v265 v266 : Int) : FF := [dc, dT 3 ((.hdr 2) :: (tL v265) :: (tL v266) :: (dT 10 []))]
def fr1035_15 (v267 v268 v269 : Int) : FF := [dT 4 ((tL v267) :: (dT 11 [])), dT 3 ((.hdr 2) :: (tL v268) :: (tL v269) :: (dT 10 []))]
theorem s1035_16_t (cp : CP) (n : Nat) (p0 : (List SSpan)) (q0 : SSpan) (v249 : Int) (k : KX R) : X cp n i1035_2 (fr1035_4 p0 q0 v249) k = s1035_16 cp n p0 q0 v249 (fun v265 v266 => k .norm (fr1035_14 v265 v266)) (fun v267 v268 v269 => k .ret (fr1035_15 v267 v268 v269)) := (show X cp n i1035_2 (fr1035_4 p0 q0 v249) k = X cp n i1035_1 (fr1035_4 p0 q0 v249) (blkT 0 k) from by kernel_rfl).trans ((s1035_13_t cp n p0 q0 v249 (blkT 0 k)).trans (by kernel_rfl))
def fr1035_17 (v270 v271 : Int) : FF := [dc, dT 3 ((.hdr 2) :: (tL v270) :: (tL v271) :: (dT 10 []))]
def fr1035_18 (v272 v273 v274 : Int) : FF := [dT 4 ((tL v272) :: (dT 11 [])), dT 3 ((.hdr 2) :: (tL v273) :: (tL v274) :: (dT 10 []))]
theorem s1035_19_t (cp : CP) (n : Nat) (p0 : (List SSpan)) (q0 : SSpan) (k : KX R) : X cp n i1035_3 (fr1035_2 p0 q0) k = s1035_19 cp n p0 q0 (fun v270 v271 => k .norm (fr1035_17 v270 v271)) (fun v272 v273 v274 => k .ret (fr1035_18 v272 v273 v274)) := ((fun c => (show X cp n (.seq (.fin (.reg g1035_1) [6] []) c) (fr1035_2 p0 q0) k = s1035_3 cp n p0 q0 (fun v249 => X cp n c (fr1035_4 p0 q0 v249) k) from by kernel_rfl)) i1035_2).trans (congrArg (fun q => s1035_3 cp n p0 q0 q) (funext fun v249 => (s1035_16_t cp n p0 q0 v249 k).trans (show s1035_16 cp n p0 q0 v249 (fun v265 v266 => k .norm (fr1035_14 v265 v266)) (fun v267 v268 v269 => k .ret (fr1035_15 v267 v268 v269)) = s1035_16 cp n p0 q0 v249 (fun v265 v266 => k .norm (fr1035_17 v265 v266)) (fun v267 v268 v269 => k .ret (fr1035_18 v267 v268 v269)) from by kernel_rfl)))
def fr1035_21 (v270 v271 : Int) : FF := [dT 4 ((tL (-1)) :: (dT 11 [])), dT 3 ((.hdr 2) :: (tL v270) :: (tL v271) :: (dT 10 []))]
theorem s1035_20_t (cp : CP) (n : Nat) (v270 v271 : Int) (k : KX R) : X cp n i1035_4 (fr1035_17 v270 v271) k = s1035_20 cp n v270 v271 (k .ret (fr1035_21 v270 v271)) := by kernel_rfl
def fr1035_22 (v275 v276 v277 : Int) : FF := [dT 4 ((tL v275) :: (dT 11 [])), dT 3 ((.hdr 2) :: (tL v276) :: (tL v277) :: (dT 10 []))]
theorem s1035_23_t (cp : CP) (n : Nat) (p0 : (List SSpan)) (q0 : SSpan) (k : KX R) : X cp n i1035_5 (fr1035_2 p0 q0) k = s1035_23 cp n p0 q0 (fun v275 v276 v277 => k .ret (fr1035_22 v275 v276 v277)) := (show X cp n i1035_5 (fr1035_2 p0 q0) k = X cp n i1035_3 (fr1035_2 p0 q0) (seqT (X cp n) i1035_4 k) from by kernel_rfl).trans ((show X cp n i1035_3 (fr1035_2 p0 q0) (seqT (X cp n) i1035_4 k) = s1035_19 cp n p0 q0 (fun v270 v271 => X cp n i1035_4 (fr1035_17 v270 v271) k) (fun v272 v273 v274 => k .ret (fr1035_22 v272 v273 v274)) from (s1035_19_t cp n p0 q0 (seqT (X cp n) i1035_4 k)).trans (by kernel_rfl)).trans (congrArg (fun q => s1035_19 cp n p0 q0 q (fun v272 v273 v274 => k .ret (fr1035_22 v272 v273 v274))) (funext fun v270 => funext fun v271 => (s1035_20_t cp n v270 v271 k).trans (show s1035_20 cp n v270 v271 (k .ret (fr1035_21 v270 v271)) = s1035_20 cp n v270 v271 (k .ret (fr1035_22 (-1) v270 v271)) from by kernel_rfl))))
def fr1035_24 (v278 v279 v280 : Int) : FF := [dT 4 ((tL v278) :: (dT 11 [])), dT 3 ((.hdr 2) :: (tL v279) :: (tL v280) :: (dT 10 []))]
theorem s1035_25_t (cp : CP) (n : Nat) (p0 : (List SSpan)) (q0 : SSpan) (k : KX R) : X cp n i1035_6 (fr1035_2 p0 q0) k = s1035_25 cp n p0 q0 (fun v278 v279 v280 => k .ret (fr1035_24 v278 v279 v280)) := ((fun c => (show X cp n (.seq (.fin (.reg g1035_0) [4] []) c) (fr1035_2 p0 q0) k = s1035_1 cp n p0 q0 (X cp n c (fr1035_2 p0 q0) k) from by kernel_rfl)) i1035_5).trans (congrArg (fun q => s1035_1 cp n p0 q0 q) ((s1035_23_t cp n p0 q0 k).trans (show s1035_23 cp n p0 q0 (fun v275 v276 v277 => k .ret (fr1035_22 v275 v276 v277)) = s1035_23 cp n p0 q0 (fun v275 v276 v277 => k .ret (fr1035_24 v275 v276 v277)) from by kernel_rfl)))
theorem run1035 (cp : CP) (n : Nat) (p0 : (List SSpan)) (q0 : SSpan) (k : Ret2 RW → Option R) : G1035 cp (n + 1) p0 q0 (fun r0 r1 => k ⟨(tL r0), [(eSpan r1)], []⟩) = run2 U cp (callP cp n) n fn1035 [.row false (.rSpan p0), .clo 63 [(19, 0)]] [(eSpan q0)] k := ((X_run (f := fn1035) (av := [.row false (.rSpan p0), .clo 63 [(19, 0)]]) (cells := [(eSpan q0)]) (code := i1035_6) (fr := (fr1035_2 p0 q0)) (k := k) (by kernel_rfl) (fun K => by kernel_rfl)).trans ((s1035_25_t cp n p0 q0 (finK2 fn1035 k)).trans (by kernel_rfl))).symm
/-! tideway/recv.firsts -/
def fr35_2 (p0 : SRecv) (p1 : Int) (p2 : (List Int)) (v240 : (List SSpan)) : FF := [dT 1 ((tL p1) :: (.row false (.ruint8 p2)) :: (dT 4 ((.row false (.rSpan v240)) :: (.row false (.rSpan p0.xFirst)) :: (dT 7 [])))), dc, dc, dc, dc, dc, dc, dc]
def fr35_4 (p0 : SRecv) (p1 : Int) (p2 : (List Int)) (v240 : (List SSpan)) (v241 : Int) : FF := [dT 1 ((tL p1) :: (.row false (.ruint8 p2)) :: (dT 4 ((.row false (.rSpan v240)) :: (.row false (.rSpan p0.xFirst)) :: (tL v241) :: (dT 6 [])))), dc, dc, dc, dc, dc, dc, dc]
def fr35_6 (p0 : SRecv) (p1 : Int) (p2 : (List Int)) (v240 : (List SSpan)) (v243 : Int) : FF := [dT 1 ((tL p1) :: (.row false (.ruint8 p2)) :: (dT 4 ((.row false (.rSpan v240)) :: (.row false (.rSpan p0.xFirst)) :: (tL v243) :: (dT 6 [])))), dc, dc, dc, dc, dc, dc, dc]
def fr35_7 (v240 v244 : (List SSpan)) : FF := [dT 7 ((.row false (.rSpan v240)) :: (.row false (.rSpan v244)) :: (dT 7 [])), dc, dc, dc, dc, dc, dc, dc]
def fr35_8 (p0 : SRecv) (p1 : Int) (p2 : (List Int)) (v240 : (List SSpan)) (v242 : Int) : FF := [dT 1 ((tL p1) :: (.row false (.ruint8 p2)) :: (dT 4 ((.row false (.rSpan v240)) :: (.row false (.rSpan p0.xFirst)) :: (tL v242) :: (dT 6 [])))), dc, dc, dc, dc, dc, dc, dc]
theorem s35_5_t (cp : CP) (n : Nat) (p0 : SRecv) (p1 : Int) (p2 : (List Int)) (v240 : (List SSpan)) (v242 : Int) (k : KX R) : X cp n i35_0 (fr35_8 p0 p1 p2 v240 v242) k = s35_5 cp n p0 p1 p2 v240 v242 (fun v243 => k .norm (fr35_6 p0 p1 p2 v240 v243)) (fun v244 => k (.exit 0) (fr35_7 v240 v244)) := by kernel_rfl
def fr35_9 (v240 v245 : (List SSpan)) : FF := [dT 7 ((.row false (.rSpan v240)) :: (.row false (.rSpan v245)) :: (dT 7 [])), dc, dc, dc, dc, dc, dc, dc]
theorem l35_10_t (cp : CP) (n : Nat) : ∀ (m : Nat) (p0 : SRecv) (p1 : Int) (p2 : (List Int)) (v240 : (List SSpan)) (v242 : Int) (k : KX R), loopN2 (X cp n i35_0) m (fr35_8 p0 p1 p2 v240 v242) k = l35_10 cp n m p0 p1 p2 v240 v242 (fun v245 => k (.exit 0) (fr35_9 v240 v245))
  | 0, _, _, _, _, _, _ => rfl
  | m + 1, p0, p1, p2, v240, v242, k => (loopN2_succ (X cp n i35_0) m (fr35_8 p0 p1 p2 v240 v242) k).trans ((s35_5_t cp n p0 p1 p2 v240 v242 (loopT (X cp n i35_0) m k)).trans ((show s35_5 cp n p0 p1 p2 v240 v242 (fun v243 => loopT (X cp n i35_0) m k .norm (fr35_6 p0 p1 p2 v240 v243)) (fun v244 => loopT (X cp n i35_0) m k (.exit 0) (fr35_7 v240 v244)) = s35_5 cp n p0 p1 p2 v240 v242 (fun v243 => loopN2 (X cp n i35_0) m (fr35_8 p0 p1 p2 v240 v243) k) (fun v244 => k (.exit 0) (fr35_9 v240 v244)) from by kernel_rfl).trans (congrArg (fun q => s35_5 cp n p0 p1 p2 v240 v242 q (fun v244 => k (.exit 0) (fr35_9 v240 v244))) (funext fun v243 => l35_10_t cp n m p0 p1 p2 v240 v243 k))))
theorem s35_11_t (cp : CP) (n : Nat) (p0 : SRecv) (p1 : Int) (p2 : (List Int)) (v240 : (List SSpan)) (v241 : Int) (k : KX R) : X cp n i35_1 (fr35_4 p0 p1 p2 v240 v241) k = s35_11 cp n p0 p1 p2 v240 v241 (fun v245 => k (.exit 0) (fr35_9 v240 v245)) := (show X cp n i35_1 (fr35_4 p0 p1 p2 v240 v241) k = loopN2 (X cp n i35_0) n (fr35_8 p0 p1 p2 v240 v241) k from by kernel_rfl).trans (l35_10_t cp n n p0 p1 p2 v240 v241 k)
def fr35_12 (v240 v246 : (List SSpan)) : FF := [dT 7 ((.row false (.rSpan v240)) :: (.row false (.rSpan v246)) :: (dT 7 [])), dc, dc, dc, dc, dc, dc, dc]
theorem s35_13_t (cp : CP) (n : Nat) (p0 : SRecv) (p1 : Int) (p2 : (List Int)) (v240 : (List SSpan)) (v241 : Int) (k : KX R) : X cp n i35_2 (fr35_4 p0 p1 p2 v240 v241) k = s35_13 cp n p0 p1 p2 v240 v241 (fun v246 => k .norm (fr35_12 v240 v246)) := (show X cp n i35_2 (fr35_4 p0 p1 p2 v240 v241) k = X cp n i35_1 (fr35_4 p0 p1 p2 v240 v241) (blkT 0 k) from by kernel_rfl).trans ((s35_11_t cp n p0 p1 p2 v240 v241 (blkT 0 k)).trans (by kernel_rfl))
def fr35_14 (v240 v247 : (List SSpan)) : FF := [dT 7 ((.row false (.rSpan v240)) :: (.row false (.rSpan v247)) :: (dT 7 [])), dc, dc, dc, dc, dc, dc, dc]
theorem s35_15_t (cp : CP) (n : Nat) (p0 : SRecv) (p1 : Int) (p2 : (List Int)) (v240 : (List SSpan)) (k : KX R) : X cp n i35_3 (fr35_2 p0 p1 p2 v240) k = s35_15 cp n p0 p1 p2 v240 (fun v247 => k .norm (fr35_14 v240 v247)) := ((fun c => (show X cp n (.seq (.fin (.reg g35_3) [19, 20, 21] []) c) (fr35_2 p0 p1 p2 v240) k = s35_3 cp n p0 p1 p2 v240 (fun v241 => X cp n c (fr35_4 p0 p1 p2 v240 v241) k) from by kernel_rfl)) i35_2).trans (congrArg (fun q => s35_3 cp n p0 p1 p2 v240 q) (funext fun v241 => (s35_13_t cp n p0 p1 p2 v240 v241 k).trans (show s35_13 cp n p0 p1 p2 v240 v241 (fun v246 => k .norm (fr35_12 v240 v246)) = s35_13 cp n p0 p1 p2 v240 v241 (fun v246 => k .norm (fr35_14 v240 v246)) from by kernel_rfl)))
def fr35_17 (v240 v247 : (List SSpan)) : FF := [dT 7 ((.row false (.rSpan v240)) :: (.row false (.rSpan v247)) :: (dT 1 ((.row true (.rSpan [])) :: (dT 5 [])))), dc, dc, dc, dc, dc, dc, dc]
def fr35_19 (v240 v247 : (List SSpan)) (v248 : Int) : FF := [dT 7 ((.row false (.rSpan v240)) :: (dT 2 ((.row true (.rSpan [])) :: (dT 5 [])))), dc, dc, dT 9 ((.row false (.rSpan v247)) :: (tL v248) :: (tL 0) :: (dT 4 [])), dc, dc, dc, dc]
def fr35_21 (v240 v247 : (List SSpan)) (v248 : Int) (v254 : (List SSpan)) (v255 : Int) : FF := [dT 7 ((.row false (.rSpan v240)) :: (dT 2 ((.row true (.rSpan v254)) :: (dT 5 [])))), dc, dc, dT 9 ((.row false (.rSpan v247)) :: (tL v248) :: (tL v255) :: (dT 4 [])), dc, dc, dc, dc]
def fr35_22 (v249 : (List SSpan)) : FF := [dT 10 ((.row true (.rSpan v249)) :: (dT 5 [])), dc, dc, dc, dc, dc, dc, dc]
def fr35_23 (v240 v247 : (List SSpan)) (v248 : Int) (v249 : (List SSpan)) (v250 : Int) : FF := [dT 7 ((.row false (.rSpan v240)) :: (dT 2 ((.row true (.rSpan v249)) :: (dT 5 [])))), dc, dc, dT 9 ((.row false (.rSpan v247)) :: (tL v248) :: (tL v250) :: (dT 4 [])), dc, dc, dc, dc]
theorem s35_20_t (cp : CP) (n : Nat) (v240 v247 : (List SSpan)) (v248 : Int) (v249 : (List SSpan)) (v250 : Int) (k : KX R) : X cp n i35_4 (fr35_23 v240 v247 v248 v249 v250) k = s35_20 cp n v240 v247 v248 v249 v250 (fun v254 v255 => k .norm (fr35_21 v240 v247 v248 v254 v255)) (k (.exit 2) (fr35_22 v249)) := by kernel_rfl
def fr35_24 (v256 : (List SSpan)) : FF := [dT 10 ((.row true (.rSpan v256)) :: (dT 5 [])), dc, dc, dc, dc, dc, dc, dc]
theorem l35_25_t (cp : CP) (n : Nat) : ∀ (m : Nat) (v240 v247 : (List SSpan)) (v248 : Int) (v249 : (List SSpan)) (v250 : Int) (k : KX R), loopN2 (X cp n i35_4) m (fr35_23 v240 v247 v248 v249 v250) k = l35_25 cp n m v240 v247 v248 v249 v250 (fun v256 => k (.exit 2) (fr35_24 v256))
  | 0, _, _, _, _, _, _ => rfl
  | m + 1, v240, v247, v248, v249, v250, k => (loopN2_succ (X cp n i35_4) m (fr35_23 v240 v247 v248 v249 v250) k).trans ((s35_20_t cp n v240 v247 v248 v249 v250 (loopT (X cp n i35_4) m k)).trans ((show s35_20 cp n v240 v247 v248 v249 v250 (fun v254 v255 => loopT (X cp n i35_4) m k .norm (fr35_21 v240 v247 v248 v254 v255)) (loopT (X cp n i35_4) m k (.exit 2) (fr35_22 v249)) = s35_20 cp n v240 v247 v248 v249 v250 (fun v254 v255 => loopN2 (X cp n i35_4) m (fr35_23 v240 v247 v248 v254 v255) k) (k (.exit 2) (fr35_24 v249)) from by kernel_rfl).trans (congrArg (fun q => s35_20 cp n v240 v247 v248 v249 v250 q (k (.exit 2) (fr35_24 v249))) (funext fun v254 => funext fun v255 => l35_25_t cp n m v240 v247 v248 v254 v255 k))))
theorem s35_26_t (cp : CP) (n : Nat) (v240 v247 : (List SSpan)) (v248 : Int) (k : KX R) : X cp n i35_5 (fr35_19 v240 v247 v248) k = s35_26 cp n v240 v247 v248 (fun v256 => k (.exit 2) (fr35_24 v256)) := (show X cp n i35_5 (fr35_19 v240 v247 v248) k = loopN2 (X cp n i35_4) n (fr35_23 v240 v247 v248 [] 0) k from by kernel_rfl).trans (l35_25_t cp n n v240 v247 v248 [] 0 k)
def fr35_27 (v257 : (List SSpan)) : FF := [dT 10 ((.row true (.rSpan v257)) :: (dT 5 [])), dc, dc, dc, dc, dc, dc, dc]
theorem s35_28_t (cp : CP) (n : Nat) (v240 v247 : (List SSpan)) (v248 : Int) (k : KX R) : X cp n i35_6 (fr35_19 v240 v247 v248) k = s35_28 cp n v240 v247 v248 (fun v257 => k .norm (fr35_27 v257)) := (show X cp n i35_6 (fr35_19 v240 v247 v248) k = X cp n i35_5 (fr35_19 v240 v247 v248) (blkT 2 k) from by kernel_rfl).trans ((s35_26_t cp n v240 v247 v248 (blkT 2 k)).trans (by kernel_rfl))
def fr35_29 (v258 : (List SSpan)) : FF := [dT 10 ((.row true (.rSpan v258)) :: (dT 5 [])), dc, dc, dc, dc, dc, dc, dc]
theorem s35_30_t (cp : CP) (n : Nat) (v240 v247 : (List SSpan)) (k : KX R) : X cp n i35_7 (fr35_17 v240 v247) k = s35_30 cp n v240 v247 (fun v258 => k .norm (fr35_29 v258)) := ((fun c => (show X cp n (.seq (.fin (.reg g35_9) [8] []) c) (fr35_17 v240 v247) k = s35_18 cp n v240 v247 (fun v248 => X cp n c (fr35_19 v240 v247 v248) k) from by kernel_rfl)) i35_6).trans (congrArg (fun q => s35_18 cp n v240 v247 q) (funext fun v248 => (s35_28_t cp n v240 v247 v248 k).trans (show s35_28 cp n v240 v247 v248 (fun v257 => k .norm (fr35_27 v257)) = s35_28 cp n v240 v247 v248 (fun v257 => k .norm (fr35_29 v257)) from by kernel_rfl)))
def fr35_32 (v258 : (List SSpan)) : FF := [dT 6 ((.row true (.rSpan v258)) :: (dT 9 [])), dc, dc, dc, dc, dc, dc, dc]
theorem s35_31_t (cp : CP) (n : Nat) (v258 : (List SSpan)) (k : KX R) : X cp n i35_8 (fr35_29 v258) k = s35_31 cp n v258 (k .ret (fr35_32 v258)) := by kernel_rfl
def fr35_33 (v259 : (List SSpan)) : FF := [dT 6 ((.row true (.rSpan v259)) :: (dT 9 [])), dc, dc, dc, dc, dc, dc, dc]
theorem s35_34_t (cp : CP) (n : Nat) (v240 v247 : (List SSpan)) (k : KX R) : X cp n i35_9 (fr35_17 v240 v247) k = s35_34 cp n v240 v247 (fun v259 => k .ret (fr35_33 v259)) := (show X cp n i35_9 (fr35_17 v240 v247) k = X cp n i35_7 (fr35_17 v240 v247) (seqT (X cp n) i35_8 k) from by kernel_rfl).trans ((show X cp n i35_7 (fr35_17 v240 v247) (seqT (X cp n) i35_8 k) = s35_30 cp n v240 v247 (fun v258 => X cp n i35_8 (fr35_29 v258) k) from (s35_30_t cp n v240 v247 (seqT (X cp n) i35_8 k)).trans (by kernel_rfl)).trans (congrArg (fun q => s35_30 cp n v240 v247 q) (funext fun v258 => (s35_31_t cp n v258 k).trans (show s35_31 cp n v258 (k .ret (fr35_32 v258)) = s35_31 cp n v258 (k .ret (fr35_33 v258)) from by kernel_rfl))))
def fr35_35 (v260 : (List SSpan)) : FF := [dT 6 ((.row true (.rSpan v260)) :: (dT 9 [])), dc, dc, dc, dc, dc, dc, dc]
theorem s35_36_t (cp : CP) (n : Nat) (v240 v247 : (List SSpan)) (k : KX R) : X cp n i35_10 (fr35_14 v240 v247) k = s35_36 cp n v240 v247 (fun v260 => k .ret (fr35_35 v260)) := ((fun c => (show X cp n (.seq (.reg g35_8) c) (fr35_14 v240 v247) k = s35_16 cp n v240 v247 (X cp n c (fr35_17 v240 v247) k) from by kernel_rfl)) i35_9).trans (congrArg (fun q => s35_16 cp n v240 v247 q) ((s35_34_t cp n v240 v247 k).trans (show s35_34 cp n v240 v247 (fun v259 => k .ret (fr35_33 v259)) = s35_34 cp n v240 v247 (fun v259 => k .ret (fr35_35 v259)) from by kernel_rfl)))
def fr35_37 (v261 : (List SSpan)) : FF := [dT 6 ((.row true (.rSpan v261)) :: (dT 9 [])), dc, dc, dc, dc, dc, dc, dc]
theorem s35_38_t (cp : CP) (n : Nat) (p0 : SRecv) (p1 : Int) (p2 : (List Int)) (v240 : (List SSpan)) (k : KX R) : X cp n i35_11 (fr35_2 p0 p1 p2 v240) k = s35_38 cp n p0 p1 p2 v240 (fun v261 => k .ret (fr35_37 v261)) := (show X cp n i35_11 (fr35_2 p0 p1 p2 v240) k = X cp n i35_3 (fr35_2 p0 p1 p2 v240) (seqT (X cp n) i35_10 k) from by kernel_rfl).trans ((show X cp n i35_3 (fr35_2 p0 p1 p2 v240) (seqT (X cp n) i35_10 k) = s35_15 cp n p0 p1 p2 v240 (fun v247 => X cp n i35_10 (fr35_14 v240 v247) k) from (s35_15_t cp n p0 p1 p2 v240 (seqT (X cp n) i35_10 k)).trans (by kernel_rfl)).trans (congrArg (fun q => s35_15 cp n p0 p1 p2 v240 q) (funext fun v247 => (s35_36_t cp n v240 v247 k).trans (show s35_36 cp n v240 v247 (fun v260 => k .ret (fr35_35 v260)) = s35_36 cp n v240 v247 (fun v260 => k .ret (fr35_37 v260)) from by kernel_rfl))))
def fr35_39 (v262 : (List SSpan)) : FF := [dT 6 ((.row true (.rSpan v262)) :: (dT 9 [])), dc, dc, dc, dc, dc, dc, dc]
def fr35_41 (p0 : SRecv) (p1 : Int) (p2 : (List Int)) : FF := [(.agg (eRecv p0)) :: (tL p1) :: (.row false (.ruint8 p2)) :: (dT 13 []), dc, dc, dc, dc, dc, dc, dc]
theorem s35_40_t (cp : CP) (n : Nat) (p0 : SRecv) (p1 : Int) (p2 : (List Int)) (k : KX R) : X cp n i35_12 (fr35_41 p0 p1 p2) k = s35_40 cp n p0 p1 p2 (fun v262 => k .ret (fr35_39 v262)) := ((fun c => (show X cp n (.seq (.fin (.reg g35_0) [0, 6] []) (.seq (.fin (.reg g35_1) [14, 15, 16] [(105, 15)]) (.seq (.fin (.reg g35_2) [3, 17, 18] [(86, 15)]) c))) (fr35_41 p0 p1 p2) k = s35_1 cp n p0 p1 p2 (fun v240 => X cp n c (fr35_2 p0 p1 p2 v240) k) from by kernel_rfl)) i35_11).trans (congrArg (fun q => s35_1 cp n p0 p1 p2 q) (funext fun v240 => (s35_38_t cp n p0 p1 p2 v240 k).trans (show s35_38 cp n p0 p1 p2 v240 (fun v261 => k .ret (fr35_37 v261)) = s35_38 cp n p0 p1 p2 v240 (fun v261 => k .ret (fr35_39 v261)) from by kernel_rfl)))
theorem run35 (cp : CP) (n : Nat) (p0 : SRecv) (p1 : Int) (p2 : (List Int)) (k : Ret2 RW → Option R) : G35 cp (n + 1) p0 p1 p2 (fun r0 => k ⟨.row true (.rSpan r0), [], []⟩) = run2 U cp (callP cp n) n fn35 [.agg (eRecv p0), (tL p1), .row false (.ruint8 p2)] [] k := ((X_run (f := fn35) (av := [.agg (eRecv p0), (tL p1), .row false (.ruint8 p2)]) (cells := []) (code := i35_12) (fr := (fr35_41 p0 p1 p2)) (k := k) (by kernel_rfl) (fun K => by kernel_rfl)).trans ((s35_40_t cp n p0 p1 p2 (finK2 fn35 k)).trans (by kernel_rfl))).symm
/-! tideway/recv.Input -/
def fr12_2 (p1 : SSegment) (v10 : Int) (v11 : SRecv) : FF := [dT 2 ((.ptr 140 0) :: (.ptr 156 0) :: (.ptr 172 0) :: (.ptr 188 0) :: (dT 3 ((tL v10) :: (dT 6 [])))), dc, dc, dc, dc, dc, dc, dc, dT 12 ((.hdr 15) :: (sl 0 3 (eRecvt v11))), sl 3 12 (eRecvt v11) ++ ((.hdr 15) :: (sl 0 3 (eSegment p1))), sl 3 12 (eSegment p1) ++ [.hdr 15, (tL 0), .row false (.ruint8 []), .row false (.rPiece [])], [(tL 0), (tL 0), (tL 0), (tI .u32 0), (tB false), (tB false), (tL 0), (tB false), .row false (.rSpan []), (tI .u32 0), (tI .u32 0), (tB false), .hdr 15, (tL 0), (tL 0), (tI .u32 0)], (tI .u32 0) :: (tL 0) :: (tL 0) :: (tL 0) :: (tL 0) :: (tL 0) :: (tB false) :: (tB false) :: (tI .u32 0) :: (tI .u32 0) :: (.row false (.rBlock [])) :: (.row false (.ruint8 [])) :: (dT 4 []), dc, dc, dc]
def fr12_3 (v12 : Int) (v13 : SRecv) : FF := [dT 4 ((.ptr 172 0) :: (.ptr 188 0) :: (tB false) :: (tL v12) :: (dT 8 [])), dc, dc, dc, dc, dc, dc, dc, dc, dc, dT 12 ((.hdr 15) :: (sl 0 3 (eRecv v13))), sl 3 12 (eRecv v13) ++ [.hdr 15, (tL 0), (tL 0), (tI .u32 0)], (tI .u32 0) :: (tL 0) :: (tL 0) :: (tL 0) :: (tL 0) :: (tL 0) :: (tB false) :: (tB false) :: (tI .u32 0) :: (tI .u32 0) :: (.row false (.rBlock [])) :: (.row false (.ruint8 [])) :: (dT 4 []), dc, dc, dc]
def fr12_5 (v17 : SRecv) (v18 : SSegment) : FF := [dT 4 ((.ptr 172 0) :: (.ptr 188 0) :: (tB true) :: (tL 0) :: (dT 8 [])), dc, dc, dc, dc, dc, dc, dc, dc, dc, dT 12 ((.hdr 15) :: (sl 0 3 (eRecv v17))), sl 3 12 (eRecv v17) ++ ((.hdr 15) :: (sl 0 3 (eSegment v18))), sl 3 12 (eSegment v18) ++ (dT 4 []), dc, dc, dc]
def fr12_7 (p1 : SSegment) (v10 : Int) (v11 : SRecv) (v19 : Int) (v20 : Bool) : FF := [dT 2 ((.ptr 140 0) :: (.ptr 156 0) :: (.ptr 172 0) :: (.ptr 188 0) :: (dT 3 ((tL v10) :: (dT 6 [])))), dc, dc, dc, dc, dc, dc, dc, dT 12 ([.hdr 15, (tL v11.xNext), .row true (.ruint8 v11.xUnread), .row true (.rPiece v11.xLate)]), (tL v11.xCap) :: (tL v11.xShift) :: (tL v11.xEdge) :: (tI .u32 v19) :: (tB v11.xStamps) :: (tB v11.xSacks) :: (tL v11.xFin) :: (tB v11.xDone) :: (.row true (.rSpan v11.xFirst)) :: (tI .u32 v11.xIrs) :: (tI .u32 v11.xOwn) :: (tB v20) :: (.hdr 15) :: (sl 0 3 (eSegment p1)), sl 3 12 (eSegment p1) ++ [.hdr 15, (tL 0), .row false (.ruint8 []), .row false (.rPiece [])], [(tL 0), (tL 0), (tL 0), (tI .u32 0), (tB false), (tB false), (tL 0), (tB false), .row false (.rSpan []), (tI .u32 0), (tI .u32 0), (tB false), .hdr 15, (tL 0), (tL 0), (tI .u32 0)], (tI .u32 0) :: (tL 0) :: (tL 0) :: (tL 0) :: (tL 0) :: (tL 0) :: (tB false) :: (tB false) :: (tI .u32 0) :: (tI .u32 0) :: (.row false (.rBlock [])) :: (.row false (.ruint8 [])) :: (dT 4 []), dc, dc, dc]
def fr12_9 (p1 : SSegment) (v10 : Int) (v32 : Bool) (v33 : SRecv) : FF := [dT 2 ((.ptr 140 0) :: (.ptr 156 0) :: (.ptr 172 0) :: (.ptr 188 0) :: (dT 3 ((tL v10) :: (dT 2 ((tB v32) :: (dT 3 [])))))), dc, dc, dc, dc, dc, dc, dc, dT 12 ([.hdr 15, (tL v33.xNext), .row true (.ruint8 v33.xUnread), .row false (.rPiece v33.xLate)]), (tL v33.xCap) :: (tL v33.xShift) :: (tL v33.xEdge) :: (tI .u32 v33.xRecent) :: (tB v33.xStamps) :: (tB v33.xSacks) :: (tL v33.xFin) :: (tB v33.xDone) :: (.row true (.rSpan v33.xFirst)) :: (tI .u32 v33.xIrs) :: (tI .u32 v33.xOwn) :: (tB v33.xStamp) :: (.hdr 15) :: (sl 0 3 (eSegment p1)), sl 3 12 (eSegment p1) ++ [.hdr 15, (tL 0), .row false (.ruint8 []), .row false (.rPiece [])], [(tL 0), (tL 0), (tL 0), (tI .u32 0), (tB false), (tB false), (tL 0), (tB false), .row false (.rSpan []), (tI .u32 0), (tI .u32 0), (tB false), .hdr 15, (tL 0), (tL 0), (tI .u32 0)], (tI .u32 0) :: (tL 0) :: (tL 0) :: (tL 0) :: (tL 0) :: (tL 0) :: (tB false) :: (tB false) :: (tI .u32 0) :: (tI .u32 0) :: (.row false (.rBlock [])) :: (.row false (.ruint8 [])) :: (dT 4 []), dc, dc, dc]
def fr12_11 (p1 : SSegment) (v10 : Int) (v32 : Bool) (v33 : SRecv) (v36 : (List SSpan)) : FF := [dT 2 ((.ptr 140 0) :: (.ptr 156 0) :: (.ptr 172 0) :: (.ptr 188 0) :: (dT 3 ((tL v10) :: (dT 2 ((tB v32) :: (.row true (.rBlock [])) :: (dT 2 [])))))), dc, dc, dc, dc, dc, dc, dc, dT 12 ([.hdr 15, (tL v33.xNext), .row true (.ruint8 v33.xUnread), .row false (.rPiece v33.xLate)]), (tL v33.xCap) :: (tL v33.xShift) :: (tL v33.xEdge) :: (tI .u32 v33.xRecent) :: (tB v33.xStamps) :: (tB v33.xSacks) :: (tL v33.xFin) :: (tB v33.xDone) :: (.row true (.rSpan v36)) :: (tI .u32 v33.xIrs) :: (tI .u32 v33.xOwn) :: (tB v33.xStamp) :: (.hdr 15) :: (sl 0 3 (eSegment p1)), sl 3 12 (eSegment p1) ++ [.hdr 15, (tL 0), .row false (.ruint8 []), .row false (.rPiece [])], [(tL 0), (tL 0), (tL 0), (tI .u32 0), (tB false), (tB false), (tL 0), (tB false), .row false (.rSpan []), (tI .u32 0), (tI .u32 0), (tB false), .hdr 15, (tL 0), (tL 0), (tI .u32 0)], (tI .u32 0) :: (tL 0) :: (tL 0) :: (tL 0) :: (tL 0) :: (tL 0) :: (tB false) :: (tB false) :: (tI .u32 0) :: (tI .u32 0) :: (.row false (.rBlock [])) :: (.row false (.ruint8 [])) :: (dT 4 []), dc, dc, dc]
def fr12_13 (v33 : SRecv) (v36 : (List SSpan)) (v38 : (List SBlock)) : FF := [dT 2 ((.ptr 140 0) :: (dT 1 ((.ptr 172 0) :: (.ptr 188 0) :: (dT 7 ((.row true (.rBlock v38)) :: (dT 2 [])))))), dc, dc, dc, dc, dc, dc, dc, dT 12 ([.hdr 15, (tL v33.xNext), .row true (.ruint8 v33.xUnread), .row false (.rPiece v33.xLate)]), (tL v33.xCap) :: (tL v33.xShift) :: (tL v33.xEdge) :: (tI .u32 v33.xRecent) :: (tB v33.xStamps) :: (tB v33.xSacks) :: (tL v33.xFin) :: (tB v33.xDone) :: (.row true (.rSpan v36)) :: (tI .u32 v33.xIrs) :: (tI .u32 v33.xOwn) :: (tB v33.xStamp) :: (dT 4 []), dT 12 ([.hdr 15, (tL 0), .row false (.ruint8 []), .row false (.rPiece [])]), [(tL 0), (tL 0), (tL 0), (tI .u32 0), (tB false), (tB false), (tL 0), (tB false), .row false (.rSpan []), (tI .u32 0), (tI .u32 0), (tB false), .hdr 15, (tL 0), (tL 0), (tI .u32 0)], (tI .u32 0) :: (tL 0) :: (tL 0) :: (tL 0) :: (tL 0) :: (tL 0) :: (tB false) :: (tB false) :: (tI .u32 0) :: (tI .u32 0) :: (.row false (.rBlock [])) :: (.row false (.ruint8 [])) :: (dT 4 []), dc, dc, dc]
def fr12_15 (v41 : SRecv) (v42 : SSegment) : FF := [dT 4 ((.ptr 172 0) :: (.ptr 188 0) :: (tB true) :: (tL 0) :: (dT 8 [])), dc, dc, dc, dc, dc, dc, dc, dc, dc, dT 12 ((.hdr 15) :: (sl 0 3 (eRecv v41))), sl 3 12 (eRecv v41) ++ ((.hdr 15) :: (sl 0 3 (eSegment v42))), sl 3 12 (eSegment v42) ++ (dT 4 []), dc, dc, dc]
theorem s12_14_t (cp : CP) (n : Nat) (v33 : SRecv) (v36 : (List SSpan)) (v38 : (List SBlock)) (k : KX R) : X cp n i12_0 (fr12_13 v33 v36 v38) k = s12_14 cp n v33 v36 v38 (fun v41 v42 => k .ret (fr12_15 v41 v42)) := by kernel_rfl
def fr12_16 (v43 : SRecv) (v44 : SSegment) : FF := [dT 4 ((.ptr 172 0) :: (.ptr 188 0) :: (tB true) :: (tL 0) :: (dT 8 [])), dc, dc, dc, dc, dc, dc, dc, dc, dc, dT 12 ((.hdr 15) :: (sl 0 3 (eRecv v43))), sl 3 12 (eRecv v43) ++ ((.hdr 15) :: (sl 0 3 (eSegment v44))), sl 3 12 (eSegment v44) ++ (dT 4 []), dc, dc, dc]
theorem s12_17_t (cp : CP) (n : Nat) (p1 : SSegment) (v10 : Int) (v32 : Bool) (v33 : SRecv) (v36 : (List SSpan)) (k : KX R) : X cp n i12_1 (fr12_11 p1 v10 v32 v33 v36) k = s12_17 cp n p1 v10 v32 v33 v36 (fun v43 v44 => k .ret (fr12_16 v43 v44)) := ((fun c => (show X cp n (.seq (.seq (.fin (.reg g12_19) [9, 12, 106, 107, 108, 109, 110, 111, 112, 113, 114, 115, 116, 117, 118, 119, 120] []) (.fin (.cond (.s 121) (.fin (.reg g12_20) [3, 121, 122, 123, 124, 125, 126, 127, 128, 129, 130, 131] [(156, 15)]) (.skip)) [3, 121] [(156, 15)])) c) (fr12_11 p1 v10 v32 v33 v36) k = s12_12 cp n p1 v10 v32 v33 v36 (fun v38 => X cp n c (fr12_13 v33 v36 v38) k) from by kernel_rfl)) i12_0).trans (congrArg (fun q => s12_12 cp n p1 v10 v32 v33 v36 q) (funext fun v38 => (s12_14_t cp n v33 v36 v38 k).trans (show s12_14 cp n v33 v36 v38 (fun v41 v42 => k .ret (fr12_15 v41 v42)) = s12_14 cp n v33 v36 v38 (fun v41 v42 => k .ret (fr12_16 v41 v42)) from by kernel_rfl)))
def fr12_18 (v45 : SRecv) (v46 : SSegment) : FF := [dT 4 ((.ptr 172 0) :: (.ptr 188 0) :: (tB true) :: (tL 0) :: (dT 8 [])), dc, dc, dc, dc, dc, dc, dc, dc, dc, dT 12 ((.hdr 15) :: (sl 0 3 (eRecv v45))), sl 3 12 (eRecv v45) ++ ((.hdr 15) :: (sl 0 3 (eSegment v46))), sl 3 12 (eSegment v46) ++ (dT 4 []), dc, dc, dc]
theorem s12_19_t (cp : CP) (n : Nat) (p1 : SSegment) (v10 : Int) (v32 : Bool) (v33 : SRecv) (k : KX R) : X cp n i12_2 (fr12_9 p1 v10 v32 v33) k = s12_19 cp n p1 v10 v32 v33 (fun v45 v46 => k .ret (fr12_18 v45 v46)) := ((fun c => (show X cp n (.seq (.fin (.reg g12_17) [100, 101, 102, 103, 104, 105] []) (.seq (.reg g12_18) c)) (fr12_9 p1 v10 v32 v33) k = s12_10 cp n p1 v10 v32 v33 (fun v36 => X cp n c (fr12_11 p1 v10 v32 v33 v36) k) from by kernel_rfl)) i12_1).trans (congrArg (fun q => s12_10 cp n p1 v10 v32 v33 q) (funext fun v36 => (s12_17_t cp n p1 v10 v32 v33 v36 k).trans (show s12_17 cp n p1 v10 v32 v33 v36 (fun v43 v44 => k .ret (fr12_16 v43 v44)) = s12_17 cp n p1 v10 v32 v33 v36 (fun v43 v44 => k .ret (fr12_18 v43 v44)) from by kernel_rfl)))
def fr12_20 (v47 : SRecv) (v48 : SSegment) : FF := [dT 4 ((.ptr 172 0) :: (.ptr 188 0) :: (tB true) :: (tL 0) :: (dT 8 [])), dc, dc, dc, dc, dc, dc, dc, dc, dc, dT 12 ((.hdr 15) :: (sl 0 3 (eRecv v47))), sl 3 12 (eRecv v47) ++ ((.hdr 15) :: (sl 0 3 (eSegment v48))), sl 3 12 (eSegment v48) ++ (dT 4 []), dc, dc, dc]
theorem s12_21_t (cp : CP) (n : Nat) (p1 : SSegment) (v10 : Int) (v11 : SRecv) (v19 : Int) (v20 : Bool) (k : KX R) : X cp n i12_3 (fr12_7 p1 v10 v11 v19 v20) k = s12_21 cp n p1 v10 v11 v19 v20 (fun v47 v48 => k .ret (fr12_20 v47 v48)) := ((fun c => (show X cp n (.seq (.seq (.fin (.reg g12_13) [74, 75, 76] []) (.fin (.cond (.s 77) (.fin (.reg g12_14) [77, 78, 79, 80, 81, 82, 83, 84, 85] []) (.skip)) [77] [])) (.seq (.fin (.reg g12_15) [86, 87, 88, 89, 90, 91, 92, 93] []) (.seq (.fin (.reg g12_16) [94, 95, 96, 97, 98, 99] []) c))) (fr12_7 p1 v10 v11 v19 v20) k = s12_8 cp n p1 v10 v11 v19 v20 (fun v32 v33 => X cp n c (fr12_9 p1 v10 v32 v33) k) from by kernel_rfl)) i12_2).trans (congrArg (fun q => s12_8 cp n p1 v10 v11 v19 v20 q) (funext fun v32 => funext fun v33 => (s12_19_t cp n p1 v10 v32 v33 k).trans (show s12_19 cp n p1 v10 v32 v33 (fun v45 v46 => k .ret (fr12_18 v45 v46)) = s12_19 cp n p1 v10 v32 v33 (fun v45 v46 => k .ret (fr12_20 v45 v46)) from by kernel_rfl)))
def fr12_22 (v49 : SRecv) (v50 : SSegment) : FF := [dT 4 ((.ptr 172 0) :: (.ptr 188 0) :: (tB true) :: (tL 0) :: (dT 8 [])), dc, dc, dc, dc, dc, dc, dc, dc, dc, dT 12 ((.hdr 15) :: (sl 0 3 (eRecv v49))), sl 3 12 (eRecv v49) ++ ((.hdr 15) :: (sl 0 3 (eSegment v50))), sl 3 12 (eSegment v50) ++ (dT 4 []), dc, dc, dc]
theorem s12_23_t (cp : CP) (n : Nat) (p1 : SSegment) (v10 : Int) (v11 : SRecv) (k : KX R) : X cp n i12_4 (fr12_2 p1 v10 v11) k = s12_23 cp n p1 v10 v11 (fun v49 v50 => k .ret (fr12_22 v49 v50)) := ((fun c => (show X cp n (.seq (.seq (.fin (.reg g12_11) [62, 63, 64, 65, 66, 67, 68] []) (.fin (.cond (.s 69) (.fin (.reg g12_12) [69, 70, 71, 72, 73] []) (.skip)) [69] [])) c) (fr12_2 p1 v10 v11) k = s12_6 cp n p1 v10 v11 (fun v19 v20 => X cp n c (fr12_7 p1 v10 v11 v19 v20) k) from by kernel_rfl)) i12_3).trans (congrArg (fun q => s12_6 cp n p1 v10 v11 q) (funext fun v19 => funext fun v20 => (s12_21_t cp n p1 v10 v11 v19 v20 k).trans (show s12_21 cp n p1 v10 v11 v19 v20 (fun v47 v48 => k .ret (fr12_20 v47 v48)) = s12_21 cp n p1 v10 v11 v19 v20 (fun v47 v48 => k .ret (fr12_22 v47 v48)) from by kernel_rfl)))
def fr12_24 (v51 : SRecv) (v52 : SSegment) : FF := [dT 4 ((.ptr 172 0) :: (.ptr 188 0) :: (tB true) :: (tL 0) :: (dT 8 [])), dc, dc, dc, dc, dc, dc, dc, dc, dc, dT 12 ((.hdr 15) :: (sl 0 3 (eRecv v51))), sl 3 12 (eRecv v51) ++ ((.hdr 15) :: (sl 0 3 (eSegment v52))), sl 3 12 (eSegment v52) ++ (dT 4 []), dc, dc, dc]
theorem s12_25_t (cp : CP) (n : Nat) (p1 : SSegment) (v10 : Int) (v11 : SRecv) (k : KX R) : X cp n i12_5 (fr12_2 p1 v10 v11) k = s12_25 cp n p1 v10 v11 (fun v51 v52 => k .ret (fr12_24 v51 v52)) := ((fun c => (show X cp n (.seq (.seq (.fin (.reg g12_8) [41, 42, 43, 44, 45, 46, 47, 48, 49, 50, 51, 52, 53] []) (.fin (.cond (.s 54) (.seq (.fin (.reg g12_9) [2, 3, 9, 54, 55, 56, 57, 58, 59] [(140, 15), (156, 15)]) (.seq (.fin (.reg g12_10) [10, 11, 60, 61] [(204, 15), (220, 15)]) (.wk [6, 7] (.ret)))) (.skip)) [54] [])) c) (fr12_2 p1 v10 v11) k = s12_4 cp n p1 v10 v11 (X cp n c (fr12_2 p1 v10 v11) k) (fun v17 v18 => k .ret (fr12_24 v17 v18)) from by kernel_rfl)) i12_4).trans (congrArg (fun q => s12_4 cp n p1 v10 v11 q (fun v17 v18 => k .ret (fr12_24 v17 v18))) ((s12_23_t cp n p1 v10 v11 k).trans (show s12_23 cp n p1 v10 v11 (fun v49 v50 => k .ret (fr12_22 v49 v50)) = s12_23 cp n p1 v10 v11 (fun v49 v50 => k .ret (fr12_24 v49 v50)) from by kernel_rfl)))
def fr12_26 (v53 : Bool) (v54 : Int) (v55 : SRecv) (v56 : SSegment) : FF := [dT 4 ((.ptr 172 0) :: (.ptr 188 0) :: (tB v53) :: (tL v54) :: (dT 8 [])), dc, dc, dc, dc, dc, dc, dc, dc, dc, dT 12 ((.hdr 15) :: (sl 0 3 (eRecv v55))), sl 3 12 (eRecv v55) ++ ((.hdr 15) :: (sl 0 3 (eSegment v56))), sl 3 12 (eSegment v56) ++ (dT 4 []), dc, dc, dc]
def fr12_28 (p0 : SRecv) (p1 : SSegment) : FF := [(.agg (eRecv p0)) :: (.agg (eSegment p1)) :: (dT 14 []), dc, dc, dc, dc, dc, dc, dc, dc, dc, dc, dc, dc, dc, dc, dc]
theorem s12_27_t (cp : CP) (n : Nat) (p0 : SRecv) (p1 : SSegment) (k : KX R) : X cp n i12_6 (fr12_28 p0 p1) k = s12_27 cp n p0 p1 (fun v53 v54 v55 v56 => k .ret (fr12_26 v53 v54 v55 v56)) := ((fun c => (show X cp n (.seq (.fin (.reg g12_0) [0, 1, 6, 7] []) (.seq (.seq (.fin (.reg g12_1) [15, 16] []) (.seq (.fin (.reg g12_2) [17] []) (.fin (.cond (.s 18) (.seq (.fin (.reg g12_3) [2, 3, 8, 18, 19, 20, 21] [(140, 15), (156, 15)]) (.wk [6, 7] (.ret))) (.skip)) [8, 18] []))) (.seq (.fin (.reg g12_4) [22, 23] []) (.seq (.seq (.fin (.reg g12_5) [24, 25, 26, 27, 28, 29] []) (.fin (.cond (.s 30) (.seq (.fin (.reg g12_6) [2, 3, 30, 31, 32] [(140, 15), (156, 15)]) (.wk [6, 7] (.ret))) (.skip)) [30] [])) (.seq (.fin (.reg g12_7) [33, 34, 35, 36, 37, 38, 39, 40] []) c))))) (fr12_28 p0 p1) k = s12_1 cp n p0 p1 (fun v10 v11 => X cp n c (fr12_2 p1 v10 v11) k) (fun v12 v13 => k .ret (fr12_26 false v12 v13 (SSegment.mk 0 0 0 0 0 0 0 0 0 false false 0 0 [] []))) from by kernel_rfl)) i12_5).trans (congrArg (fun q => s12_1 cp n p0 p1 q (fun v12 v13 => k .ret (fr12_26 false v12 v13 (SSegment.mk 0 0 0 0 0 0 0 0 0 false false 0 0 [] [])))) (funext fun v10 => funext fun v11 => (s12_25_t cp n p1 v10 v11 k).trans (show s12_25 cp n p1 v10 v11 (fun v51 v52 => k .ret (fr12_24 v51 v52)) = s12_25 cp n p1 v10 v11 (fun v51 v52 => k .ret (fr12_26 true 0 v51 v52)) from by kernel_rfl)))
theorem run12 (cp : CP) (n : Nat) (p0 : SRecv) (p1 : SSegment) (k : Ret2 RW → Option R) : G12 cp (n + 1) p0 p1 (fun r0 r1 r2 r3 => k ⟨.tup [.agg (eRecv r0), .agg (eSegment r1), (tB r2), (tL r3)], [], []⟩) = run2 U cp (callP cp n) n fn12 [.agg (eRecv p0), .agg (eSegment p1)] [] k := ((X_run (f := fn12) (av := [.agg (eRecv p0), .agg (eSegment p1)]) (cells := []) (code := i12_6) (fr := (fr12_28 p0 p1)) (k := k) (by kernel_rfl) (fun K => by kernel_rfl)).trans ((s12_27_t cp n p0 p1 (finK2 fn12 k)).trans (by kernel_rfl))).symm
/-! tideway/recv.New -/
theorem run17 (cp : CP) (n : Nat) (p0 p1 p2 p3 : Int) (p4 p5 : Bool) (k : Ret2 RW → Option R) : G17 cp (n + 1) p0 p1 p2 p3 p4 p5 (fun r0 r1 => k ⟨.tup [.agg (eRecv r0), (tL r1)], [], []⟩) = run2 U cp (callP cp n) n fn17 [(tL p0), (tL p1), (tI .u32 p2), (tI .u32 p3), (tB p4), (tB p5)] [] k := by kernel_rfl
/-! tideway/seq.Clamp -/
theorem run51 (cp : CP) (n : Nat) (p0 p1 p2 : Int) (k : Ret2 RW → Option R) : G51 cp (n + 1) p0 p1 p2 (fun r0 => k ⟨(tL r0), [], []⟩) = run2 U cp (callP cp n) n fn51 [(tL p0), (tL p1), (tL p2)] [] k := by kernel_rfl
/-! tideway/recv.Read -/
def fr20_2 (v86 : (List Int)) (v87 : SRecv) : FF := [dT 2 ((.ptr 60 0) :: (dT 1 ((.ptr 76 0) :: (dT 1 ((.ptr 92 0) :: (dT 3 ((.row false (.ruint8 v86)) :: (dT 5 [])))))))), dc, dc, dT 12 ((.hdr 15) :: (sl 0 3 (eRecv v87))), sl 3 12 (eRecv v87) ++ [.hdr 15, (tL 0), .row false (.ruint8 []), .row false (.rPiece [])], [(tL 0), (tL 0), (tL 0), (tI .u32 0), (tB false), (tB false), (tL 0), (tB false), .row false (.rSpan []), (tI .u32 0), (tI .u32 0), (tB false), .hdr 15, (tL 0), (tL 0), (tI .u32 0)], (tI .u32 0) :: (tL 0) :: (tL 0) :: (tL 0) :: (tL 0) :: (tL 0) :: (tB false) :: (tB false) :: (tI .u32 0) :: (tI .u32 0) :: (.row false (.rBlock [])) :: (.row false (.ruint8 [])) :: (dT 4 []), dc]
def fr20_3 (v88 : Int) : FF := [dT 4 ((.ptr 76 0) :: (.row false (.ruint8 [])) :: (.ptr 92 0) :: (tB false) :: (tL v88) :: (dT 7 [])), dc, dc, dc, dT 12 ([.hdr 15, (tL 0), .row false (.ruint8 []), .row false (.rPiece [])]), [(tL 0), (tL 0), (tL 0), (tI .u32 0), (tB false), (tB false), (tL 0), (tB false), .row false (.rSpan []), (tI .u32 0), (tI .u32 0), (tB false), .hdr 15, (tL 0), (tL 0), (tI .u32 0)], (tI .u32 0) :: (tL 0) :: (tL 0) :: (tL 0) :: (tL 0) :: (tL 0) :: (tB false) :: (tB false) :: (tI .u32 0) :: (tI .u32 0) :: (.row false (.rBlock [])) :: (.row false (.ruint8 [])) :: (dT 4 []), dc]
def fr20_5 (v86 : (List Int)) (v92 : Bool) (v93 : SRecv) (v94 : SSegment) : FF := [dT 4 ((.ptr 76 0) :: (.row false (.ruint8 v86)) :: (.ptr 92 0) :: (tB v92) :: (tL 0) :: (dT 7 [])), dc, dc, dc, dT 12 ((.hdr 15) :: (sl 0 3 (eRecv v93))), sl 3 12 (eRecv v93) ++ ((.hdr 15) :: (sl 0 3 (eSegment v94))), sl 3 12 (eSegment v94) ++ (dT 4 []), dc]
theorem s20_4_t (cp : CP) (n : Nat) (v86 : (List Int)) (v87 : SRecv) (k : KX R) : X cp n i20_0 (fr20_2 v86 v87) k = s20_4 cp n v86 v87 (fun v92 v93 v94 => k .ret (fr20_5 v86 v92 v93 v94)) := by kernel_rfl
def fr20_6 (v95 : (List Int)) (v96 : Bool) (v97 : Int) (v98 : SRecv) (v99 : SSegment) : FF := [dT 4 ((.ptr 76 0) :: (.row false (.ruint8 v95)) :: (.ptr 92 0) :: (tB v96) :: (tL v97) :: (dT 7 [])), dc, dc, dc, dT 12 ((.hdr 15) :: (sl 0 3 (eRecv v98))), sl 3 12 (eRecv v98) ++ ((.hdr 15) :: (sl 0 3 (eSegment v99))), sl 3 12 (eSegment v99) ++ (dT 4 []), dc]
def fr20_8 (p0 : SRecv) (p1 : Int) : FF := [(.agg (eRecv p0)) :: (tL p1) :: (dT 14 []), dc, dc, dc, dc, dc, dc, dc]
theorem s20_7_t (cp : CP) (n : Nat) (p0 : SRecv) (p1 : Int) (k : KX R) : X cp n i20_1 (fr20_8 p0 p1) k = s20_7 cp n p0 p1 (fun v95 v96 v97 v98 v99 => k .ret (fr20_6 v95 v96 v97 v98 v99)) := ((fun c => (show X cp n (.seq (.fin (.reg g20_0) [0, 5, 7, 8] []) (.seq (.seq (.fin (.reg g20_1) [12, 13] []) (.seq (.fin (.reg g20_2) [14] []) (.fin (.cond (.s 15) (.seq (.fin (.reg g20_3) [1, 2, 9, 15, 16, 17, 18] [(60, 15)]) (.wk [5, 7, 8] (.ret))) (.skip)) [9, 15] []))) (.seq (.fin (.reg g20_4) [19, 20] []) (.seq (.fin (.reg g20_5) [21, 22, 23, 24, 25] []) (.seq (.fin (.reg g20_6) [26, 27, 28, 29, 30] []) (.seq (.fin (.reg g20_7) [1, 31, 32, 33, 34, 35] []) c)))))) (fr20_8 p0 p1) k = s20_1 cp n p0 p1 (fun v86 v87 => X cp n c (fr20_2 v86 v87) k) (fun v88 => k .ret (fr20_6 [] false v88 (SRecv.mk 0 [] [] 0 0 0 0 false false 0 false [] 0 0 false) (SSegment.mk 0 0 0 0 0 0 0 0 0 false false 0 0 [] []))) from by kernel_rfl)) i20_0).trans (congrArg (fun q => s20_1 cp n p0 p1 q (fun v88 => k .ret (fr20_6 [] false v88 (SRecv.mk 0 [] [] 0 0 0 0 false false 0 false [] 0 0 false) (SSegment.mk 0 0 0 0 0 0 0 0 0 false false 0 0 [] [])))) (funext fun v86 => funext fun v87 => (s20_4_t cp n v86 v87 k).trans (show s20_4 cp n v86 v87 (fun v92 v93 v94 => k .ret (fr20_5 v86 v92 v93 v94)) = s20_4 cp n v86 v87 (fun v92 v93 v94 => k .ret (fr20_6 v86 v92 0 v93 v94)) from by kernel_rfl)))
theorem run20 (cp : CP) (n : Nat) (p0 : SRecv) (p1 : Int) (k : Ret2 RW → Option R) : G20 cp (n + 1) p0 p1 (fun r0 r1 r2 r3 r4 => k ⟨.tup [.agg (eRecv r0), .row false (.ruint8 r1), .agg (eSegment r2), (tB r3), (tL r4)], [], []⟩) = run2 U cp (callP cp n) n fn20 [.agg (eRecv p0), (tL p1)] [] k := ((X_run (f := fn20) (av := [.agg (eRecv p0), (tL p1)]) (cells := []) (code := i20_1) (fr := (fr20_8 p0 p1)) (k := k) (by kernel_rfl) (fun K => by kernel_rfl)).trans ((s20_7_t cp n p0 p1 (finK2 fn20 k)).trans (by kernel_rfl))).symm
/-! tideway/recv.Window -/
theorem run22 (cp : CP) (n : Nat) (p0 : SRecv) (k : Ret2 RW → Option R) : G22 cp (n + 1) p0 (fun r0 => k ⟨(tL r0), [], []⟩) = run2 U cp (callP cp n) n fn22 [.agg (eRecv p0)] [] k := by kernel_rfl
/-! tideway/tidewaylaw08.heads -/
def fr11_2 (v94 : Int) (v95 : Bool) (v96 : Int) (v97 : Bool) (v98 : Int) (v99 : (List Int)) (v100 : Int) (v101 : SRecv) (v102 : SSegment) (v103 : SRecv) (v104 : SSegment) (v105 : SRecv) : FF := [dT 1 ((.ptr 124 0) :: (tL v94) :: (dT 1 ((.ptr 156 0) :: (tB v95) :: (tL v96) :: (.ptr 172 0) :: (.ptr 188 0) :: (tB v97) :: (tL v98) :: (.ptr 204 0) :: (.row false (.ruint8 v99)) :: (dT 2 ([(tL v100)]))))), dc, dc, dc, dc, dc, dc, dT 12 ((.hdr 15) :: (sl 0 3 (eRecv v101))), sl 3 12 (eRecv v101) ++ (dT 4 []), dT 12 ((.hdr 15) :: (sl 0 3 (eSegment v102))), sl 3 12 (eSegment v102) ++ ((.hdr 15) :: (sl 0 3 (eRecv v103))), sl 3 12 (eRecv v103) ++ ((.hdr 15) :: (sl 0 3 (eSegment v104))), sl 3 12 (eSegment v104) ++ ((.hdr 15) :: (sl 0 3 (eRecv v105))), sl 3 12 (eRecv v105) ++ (dT 4 []), dc, dc]
def fr11_4 (v111 : Bool) : FF := [(tB v111) :: (dT 15 []), dc, dc, dc, dc, dc, dc, dc, dc, dc, dc, dc, dc, dc, dc, dc]
theorem s11_3_t (cp : CP) (n : Nat) (v94 : Int) (v95 : Bool) (v96 : Int) (v97 : Bool) (v98 : Int) (v99 : (List Int)) (v100 : Int) (v101 : SRecv) (v102 : SSegment) (v103 : SRecv) (v104 : SSegment) (v105 : SRecv) (k : KX R) : X cp n i11_0 (fr11_2 v94 v95 v96 v97 v98 v99 v100 v101 v102 v103 v104 v105) k = s11_3 cp n v94 v95 v96 v97 v98 v99 v100 v101 v102 v103 v104 v105 (fun v111 => k .ret (fr11_4 v111)) := by kernel_rfl
def fr11_5 (v112 : Bool) : FF := [(tB v112) :: (dT 15 []), dc, dc, dc, dc, dc, dc, dc, dc, dc, dc, dc, dc, dc, dc, dc]
def fr11_7 : FF := [dc, dc, dc, dc, dc, dc, dc, dc, dc, dc, dc, dc, dc, dc, dc, dc]
theorem s11_6_t (cp : CP) (n : Nat) (k : KX R) : X cp n i11_1 fr11_7 k = s11_6 cp n (fun v112 => k .ret (fr11_5 v112)) := ((fun c => (show X cp n (.seq (.fin (.reg g11_0) [0] []) (.seq (.fin (.reg g11_1) [18, 19, 20, 21] []) (.seq (.fin (.reg g11_2) [22, 23, 24, 25, 26, 27, 28, 29, 30, 31] []) (.seq (.fin (.reg g11_3) [3, 32, 33, 34, 35, 36, 37, 38, 39, 40, 41] [(140, 15)]) (.seq (.fin (.reg g11_4) [13, 14, 42, 43, 44, 45, 46, 47, 48, 49] [(220, 15)]) c))))) fr11_7 k = s11_1 cp n (fun v94 v95 v96 v97 v98 v99 v100 v101 v102 v103 v104 v105 => X cp n c (fr11_2 v94 v95 v96 v97 v98 v99 v100 v101 v102 v103 v104 v105) k) from by kernel_rfl)) i11_0).trans (congrArg (fun q => s11_1 cp n q) (funext fun v94 => funext fun v95 => funext fun v96 => funext fun v97 => funext fun v98 => funext fun v99 => funext fun v100 => funext fun v101 => funext fun v102 => funext fun v103 => funext fun v104 => funext fun v105 => (s11_3_t cp n v94 v95 v96 v97 v98 v99 v100 v101 v102 v103 v104 v105 k).trans (show s11_3 cp n v94 v95 v96 v97 v98 v99 v100 v101 v102 v103 v104 v105 (fun v111 => k .ret (fr11_4 v111)) = s11_3 cp n v94 v95 v96 v97 v98 v99 v100 v101 v102 v103 v104 v105 (fun v111 => k .ret (fr11_5 v111)) from by kernel_rfl)))
theorem run11 (cp : CP) (n : Nat) (k : Ret2 RW → Option R) : G11 cp (n + 1) (fun r0 => k ⟨(tB r0), [], []⟩) = run2 U cp (callP cp n) n fn11 [] [] k := ((X_run (f := fn11) (av := []) (cells := []) (code := i11_1) (fr := fr11_7) (k := k) (by kernel_rfl) (fun K => by kernel_rfl)).trans ((s11_6_t cp n  (finK2 fn11 k)).trans (by kernel_rfl))).symm
/-! tideway/tidewayref02.Same -/
theorem run21 (cp : CP) (n : Nat) (p0 p1 : (List Int)) (k : Ret2 RW → Option R) : G21 cp (n + 1) p0 p1 (fun r0 => k ⟨(tB r0), [], []⟩) = run2 U cp (callP cp n) n fn21 [.row false (.ruint8 p0), .row false (.ruint8 p1)] [] k := by kernel_rfl
/-! tideway/tidewaylaw08.RecvTwice -/
def fr7_2 (p0 : SRecv) (v21 v22 : Bool) (v23 : Int) (v24 v25 : SRecv) : FF := [dT 2 ((.ptr 104 0) :: (dT 2 ((.ptr 136 0) :: (dT 1 ((tB v21) :: (dT 1 ((.ptr 168 0) :: (dT 1 ((tB v22) :: (tL v23) :: (dT 3 [])))))))))), dc, dc, dc, dc, dc, dT 8 ((.hdr 15) :: (sl 0 7 (eRecv p0))), sl 7 8 (eRecv p0) ++ (dT 8 []), dT 8 ((.hdr 15) :: (sl 0 7 (eRecv v24))), sl 7 8 (eRecv v24) ++ (dT 8 []), dT 8 ((.hdr 15) :: (sl 0 7 (eRecv v25))), sl 7 8 (eRecv v25) ++ (dT 8 []), dc]
def fr7_3 (v26 : Bool) : FF := [dT 4 ((tB v26) :: (dT 11 [])), dc, dc, dc, dc, dc, dc, dc, dc, dc, dc, dc, dc]
def fr7_5 (v30 : Bool) : FF := [dT 4 ((tB v30) :: (dT 11 [])), dc, dc, dc, dc, dc, dc, dc, dc, dc, dc, dc, dc]
theorem s7_4_t (cp : CP) (n : Nat) (p0 : SRecv) (v21 v22 : Bool) (v23 : Int) (v24 v25 : SRecv) (k : KX R) : X cp n i7_0 (fr7_2 p0 v21 v22 v23 v24 v25) k = s7_4 cp n p0 v21 v22 v23 v24 v25 (fun v30 => k .ret (fr7_5 v30)) := by kernel_rfl
def fr7_6 (v31 : Bool) : FF := [dT 4 ((tB v31) :: (dT 11 [])), dc, dc, dc, dc, dc, dc, dc, dc, dc, dc, dc, dc]
def fr7_8 (p0 : SRecv) (p1 : SSegment) : FF := [(.agg (eRecv p0)) :: (.agg (eSegment p1)) :: (dT 14 []), dc, dc, dc, dc, dc, dc, dc, dc, dc, dc, dc, dc]
theorem s7_7_t (cp : CP) (n : Nat) (p0 : SRecv) (p1 : SSegment) (k : KX R) : X cp n i7_1 (fr7_8 p0 p1) k = s7_7 cp n p0 p1 (fun v31 => k .ret (fr7_6 v31)) := ((fun c => (show X cp n (.seq (.fin (.reg g7_0) [0, 1, 4] []) (.seq (.fin (.reg g7_1) [6, 13, 14, 15, 16, 17, 18, 19, 20] [(152, 15)]) (.seq (.seq (.fin (.reg g7_2) [8, 21, 22, 23, 24, 25, 26, 27] []) (.fin (.cond (.s 28) (.seq (.fin (.reg g7_3) [2, 3, 5, 7, 28, 29] [(104, 15), (120, 15), (136, 15)]) (.ret)) (.skip)) [28] [])) (.seq (.fin (.reg g7_4) [3, 10, 30, 31, 32, 33, 34, 35, 36, 37] [(120, 15), (184, 15)]) c)))) (fr7_8 p0 p1) k = s7_1 cp n p0 p1 (fun v21 v22 v23 v24 v25 => X cp n c (fr7_2 p0 v21 v22 v23 v24 v25) k) (fun v26 => k .ret (fr7_6 v26)) from by kernel_rfl)) i7_0).trans (congrArg (fun q => s7_1 cp n p0 p1 q (fun v26 => k .ret (fr7_6 v26))) (funext fun v21 => funext fun v22 => funext fun v23 => funext fun v24 => funext fun v25 => (s7_4_t cp n p0 v21 v22 v23 v24 v25 k).trans (show s7_4 cp n p0 v21 v22 v23 v24 v25 (fun v30 => k .ret (fr7_5 v30)) = s7_4 cp n p0 v21 v22 v23 v24 v25 (fun v30 => k .ret (fr7_6 v30)) from by kernel_rfl)))
theorem run7 (cp : CP) (n : Nat) (p0 : SRecv) (p1 : SSegment) (k : Ret2 RW → Option R) : G7 cp (n + 1) p0 p1 (fun r0 => k ⟨(tB r0), [], []⟩) = run2 U cp (callP cp n) n fn7 [.agg (eRecv p0), .agg (eSegment p1)] [] k := ((X_run (f := fn7) (av := [.agg (eRecv p0), .agg (eSegment p1)]) (cells := []) (code := i7_1) (fr := (fr7_8 p0 p1)) (k := k) (by kernel_rfl) (fun K => by kernel_rfl)).trans ((s7_7_t cp n p0 p1 (finK2 fn7 k)).trans (by kernel_rfl))).symm
def tbl : Nat → Option IFn
  | 27 => some (fn27.lo U)
  | 53 => some (fn53.lo U)
  | 55 => some (fn55.lo U)
  | 71 => some (fn71.lo U)
  | 1008 => some (fn1008.lo U)
  | 1007 => some (fn1007.lo U)
  | 72 => some (fn72.lo U)
  | 56 => some (fn56.lo U)
  | 28 => some (fn28.lo U)
  | 10 => some (fn10.lo U)
  | 57 => some fn57
  | 52 => some fn52
  | 29 => some (fn29.lo U)
  | 31 => some (fn31.lo U)
  | 58 => some (fn58.lo U)
  | 30 => some (fn30.lo U)
  | 36 => some (fn36.lo U)
  | 49 => some (fn49.lo U)
  | 32 => some (fn32.lo U)
  | 33 => some (fn33.lo U)
  | 82 => some (fn82.lo U)
  | 78 => some (fn78.lo U)
  | 79 => some (fn79.lo U)
  | 61 => some (fn61.lo U)
  | 74 => some (fn74.lo U)
  | 1029 => some (fn1029.lo U)
  | 1031 => some fn1031
  | 75 => some fn75
  | 77 => some (fn77.lo U)
  | 60 => some (fn60.lo U)
  | 1027 => some (fn1027.lo U)
  | 34 => some (fn34.lo U)
  | 1036 => some (fn1036.lo U)
  | 1035 => some (fn1035.lo U)
  | 35 => some (fn35.lo U)
  | 12 => some (fn12.lo U)
  | 17 => some (fn17.lo U)
  | 51 => some (fn51.lo U)
  | 20 => some (fn20.lo U)
  | 22 => some (fn22.lo U)
  | 11 => some (fn11.lo U)
  | 21 => some (fn21.lo U)
  | 7 => some (fn7.lo U)
  | _ => none
theorem chk27 : chkFn Try.prog tbl (fn27.lo U) = true := by kernel_rfl
theorem chk53 : chkFn Try.prog tbl (fn53.lo U) = true := by kernel_rfl
theorem chk55 : chkFn Try.prog tbl (fn55.lo U) = true := by kernel_rfl
theorem chk71 : chkFn Try.prog tbl (fn71.lo U) = true := by kernel_rfl
theorem chk1008 : chkFn Try.prog tbl (fn1008.lo U) = true := by kernel_rfl
theorem chk1007 : chkFn Try.prog tbl (fn1007.lo U) = true := by kernel_rfl
theorem chk72 : chkFn Try.prog tbl (fn72.lo U) = true := by kernel_rfl
theorem chk56 : chkFn Try.prog tbl (fn56.lo U) = true := by kernel_rfl
theorem chk28 : chkFn Try.prog tbl (fn28.lo U) = true := by kernel_rfl
theorem chk10 : chkFn Try.prog tbl (fn10.lo U) = true := by kernel_rfl
theorem chk57 : chkFn Try.prog tbl fn57 = true := by kernel_rfl
theorem chk52 : chkFn Try.prog tbl fn52 = true := by kernel_rfl
theorem chk29 : chkFn Try.prog tbl (fn29.lo U) = true := by kernel_rfl
theorem chk31 : chkFn Try.prog tbl (fn31.lo U) = true := by kernel_rfl
theorem chk58 : chkFn Try.prog tbl (fn58.lo U) = true := by kernel_rfl
theorem chk30 : chkFn Try.prog tbl (fn30.lo U) = true := by kernel_rfl
theorem chk36 : chkFn Try.prog tbl (fn36.lo U) = true := by kernel_rfl
theorem chk49 : chkFn Try.prog tbl (fn49.lo U) = true := by kernel_rfl
theorem chk32 : chkFn Try.prog tbl (fn32.lo U) = true := by kernel_rfl
theorem chk33 : chkFn Try.prog tbl (fn33.lo U) = true := by kernel_rfl
theorem chk82 : chkFn Try.prog tbl (fn82.lo U) = true := by kernel_rfl
theorem chk78 : chkFn Try.prog tbl (fn78.lo U) = true := by kernel_rfl
theorem chk79 : chkFn Try.prog tbl (fn79.lo U) = true := by kernel_rfl
theorem chk61 : chkFn Try.prog tbl (fn61.lo U) = true := by kernel_rfl
theorem chk74 : chkFn Try.prog tbl (fn74.lo U) = true := by kernel_rfl
theorem chk1029 : chkFn Try.prog tbl (fn1029.lo U) = true := by kernel_rfl
theorem chk1031 : chkFn Try.prog tbl fn1031 = true := by kernel_rfl
theorem chk75 : chkFn Try.prog tbl fn75 = true := by kernel_rfl
theorem chk77 : chkFn Try.prog tbl (fn77.lo U) = true := by kernel_rfl
theorem chk60 : chkFn Try.prog tbl (fn60.lo U) = true := by kernel_rfl
theorem chk1027 : chkFn Try.prog tbl (fn1027.lo U) = true := by kernel_rfl
theorem chk34 : chkFn Try.prog tbl (fn34.lo U) = true := by kernel_rfl
theorem chk1036 : chkFn Try.prog tbl (fn1036.lo U) = true := by kernel_rfl
theorem chk1035 : chkFn Try.prog tbl (fn1035.lo U) = true := by kernel_rfl
theorem chk35 : chkFn Try.prog tbl (fn35.lo U) = true := by kernel_rfl
theorem chk12 : chkFn Try.prog tbl (fn12.lo U) = true := by kernel_rfl
theorem chk17 : chkFn Try.prog tbl (fn17.lo U) = true := by kernel_rfl
theorem chk51 : chkFn Try.prog tbl (fn51.lo U) = true := by kernel_rfl
theorem chk20 : chkFn Try.prog tbl (fn20.lo U) = true := by kernel_rfl
theorem chk22 : chkFn Try.prog tbl (fn22.lo U) = true := by kernel_rfl
theorem chk11 : chkFn Try.prog tbl (fn11.lo U) = true := by kernel_rfl
theorem chk21 : chkFn Try.prog tbl (fn21.lo U) = true := by kernel_rfl
theorem chk7 : chkFn Try.prog tbl (fn7.lo U) = true := by kernel_rfl
theorem chkAll : ∀ (id : Nat) (f : IFn), tbl id = some f → chkFn Try.prog tbl f = true := by
  intro id f h
  unfold tbl at h
  split at h
  · cases h; exact chk27
  · cases h; exact chk53
  · cases h; exact chk55
  · cases h; exact chk71
  · cases h; exact chk1008
  · cases h; exact chk1007
  · cases h; exact chk72
  · cases h; exact chk56
  · cases h; exact chk28
  · cases h; exact chk10
  · cases h; exact chk57
  · cases h; exact chk52
  · cases h; exact chk29
  · cases h; exact chk31
  · cases h; exact chk58
  · cases h; exact chk30
  · cases h; exact chk36
  · cases h; exact chk49
  · cases h; exact chk32
  · cases h; exact chk33
  · cases h; exact chk82
  · cases h; exact chk78
  · cases h; exact chk79
  · cases h; exact chk61
  · cases h; exact chk74
  · cases h; exact chk1029
  · cases h; exact chk1031
  · cases h; exact chk75
  · cases h; exact chk77
  · cases h; exact chk60
  · cases h; exact chk1027
  · cases h; exact chk34
  · cases h; exact chk1036
  · cases h; exact chk1035
  · cases h; exact chk35
  · cases h; exact chk12
  · cases h; exact chk17
  · cases h; exact chk51
  · cases h; exact chk20
  · cases h; exact chk22
  · cases h; exact chk11
  · cases h; exact chk21
  · cases h; exact chk7
  · cases h
theorem clone57 (n : Nat) (xs : (List SSpan)) (hc : capB (0 + xs.length) 16 = true) : runF tbl (n + 1) 57 [.row false 2 xs.length (rg cSpan zSpan xs)] [] = some ⟨.row true 2 xs.length (rg cSpan zSpan xs), [], []⟩ :=
  clone_fin (F := fun m g => runF tbl (n + 1) 57 [.row false 2 m g] []) (fun g => show runF tbl (n + 1) 57 [.row false 2 0 g] [] = both (some ⟨.row true 2 0 (fun _ => [.sc (.int .i64 0), .sc (.int .i64 0)]), [], []⟩) (cond (capB (0 + 0) 16) (some ⟨.row true 2 (0 + 0) (appGet 0 0 (litGet 2 0 [.sc (.int .i64 0), .sc (.int .i64 0)] []) g), [], []⟩) none) from by kernel_rfl) (fun m g => show runF tbl (n + 1) 57 [.row false 2 (m + 1) g] [] = (cond (capB (0 + (m + 1)) 16) (some ⟨.row true 2 (0 + (m + 1)) (appGet 0 (m + 1) (litGet 2 0 [.sc (.int .i64 0), .sc (.int .i64 0)] []) g), [], []⟩) none) from by kernel_rfl) (show cSpan zSpan = [.sc (.int .i64 0), .sc (.int .i64 0)] from by kernel_rfl) xs hc
theorem clone52 (n : Nat) (xs : (List Int)) (hc : capB (0 + xs.length) 1 = true) : runF tbl (n + 1) 52 [.row false 1 xs.length (rg cuint8 zuint8 xs)] [] = some ⟨.row true 1 xs.length (rg cuint8 zuint8 xs), [], []⟩ :=
  clone_fin (F := fun m g => runF tbl (n + 1) 52 [.row false 1 m g] []) (fun g => show runF tbl (n + 1) 52 [.row false 1 0 g] [] = both (some ⟨.row true 1 0 (fun _ => [.sc (.int .u8 0)]), [], []⟩) (cond (capB (0 + 0) 1) (some ⟨.row true 1 (0 + 0) (appGet 0 0 (litGet 1 0 [.sc (.int .u8 0)] []) g), [], []⟩) none) from by kernel_rfl) (fun m g => show runF tbl (n + 1) 52 [.row false 1 (m + 1) g] [] = (cond (capB (0 + (m + 1)) 1) (some ⟨.row true 1 (0 + (m + 1)) (appGet 0 (m + 1) (litGet 1 0 [.sc (.int .u8 0)] []) g), [], []⟩) none) from by kernel_rfl) (show cuint8 zuint8 = [.sc (.int .u8 0)] from by kernel_rfl) xs hc
theorem clone1031 (n : Nat) (xs : (List SPiece)) (hc : capB (0 + xs.length) 32 = true) : runF tbl (n + 1) 1031 [.row false 2 xs.length (rg cPiece zPiece xs)] [] = some ⟨.un none 2 xs.length (rg cPiece zPiece xs), [], []⟩ :=
  uclone_fin (F := fun m g => runF tbl (n + 1) 1031 [.row false 2 m g] []) (fun g => show runF tbl (n + 1) 1031 [.row false 2 0 g] [] = both (some ⟨.un none 2 0 (fun _ => [.sc (.int .i64 0), .row false 1 0 (fun _ => [.sc (.int .u8 0)])]), [], []⟩) (cond (capB (0 + 0) 32) (some ⟨.un none 2 (0 + 0) (appGet 0 0 (litGet 2 0 [.sc (.int .i64 0), .row false 1 0 (fun _ => [.sc (.int .u8 0)])] []) g), [], []⟩) none) from by kernel_rfl) (fun m g => show runF tbl (n + 1) 1031 [.row false 2 (m + 1) g] [] = (cond (capB (0 + (m + 1)) 32) (some ⟨.un none 2 (0 + (m + 1)) (appGet 0 (m + 1) (litGet 2 0 [.sc (.int .i64 0), .row false 1 0 (fun _ => [.sc (.int .u8 0)])] []) g), [], []⟩) none) from by kernel_rfl) (show cPiece zPiece = [.sc (.int .i64 0), .row false 1 0 (fun _ => [.sc (.int .u8 0)])] from by kernel_rfl) xs hc
theorem clone75 (n : Nat) (a : Bool) (xs : (List SPiece)) (i : Int) (x : SPiece) (hc : capB (xs.length + 1) 32 = true) (h0 : decide (0 ≤ i) = true) (h1 : decide (i ≤ (xs.length : Int)) = true) : runF tbl (n + 1) 75 [.un none 2 xs.length (rg cPiece zPiece xs), .sc (.int .i64 i), .row a 2 1 (rg cPiece zPiece [x])] [] = some ⟨.un none 2 (insL xs (Int.toNat i) x).length (rg cPiece zPiece (insL xs (Int.toNat i) x)), [], []⟩ :=
  ins_fin (show runF tbl (n + 1) 75 [.un none 2 xs.length (rg cPiece zPiece xs), .sc (.int .i64 i), .row a 2 1 (rg cPiece zPiece [x])] [] = cond (capB (xs.length + 1) 32) (cond (decide (0 ≤ i)) (cond (decide (i ≤ (xs.length : Int))) (some ⟨.un none 2 (xs.length + 1) (insGet xs.length (Int.toNat i) (rg cPiece zPiece xs) (rg cPiece zPiece [x])), [], []⟩) none) none) none from by kernel_rfl) hc h0 h1
theorem dI_ok {kd : IntKind} {y : TV RW} {a : Int} (h : dI kd y = some a) : y = .sc (.int kd a) := by
  unfold dI at h
  split at h
  · obtain ⟨h1, h2⟩ := cond_some h
    cases h2
    rw [of_decide_eq_true h1]
  · cases h
theorem dB_ok {y : TV RW} {a : Bool} (h : dB y = some a) : y = .sc (.bool a) := by
  unfold dB at h
  split at h <;> cases h
  rfl
theorem dS_ok {y : TV RW} {a : ByteArray} (h : dS y = some a) : y = .sc (.string a) := by
  unfold dS at h
  split at h <;> cases h
  rfl
theorem dA_ok {y : TV RW} {a : Fr} (h : dA y = some a) : y = .agg a := by
  unfold dA at h
  split at h <;> cases h
  rfl
theorem dOne_ok {y : Fr} {a : TV RW} (h : dOne y = some a) : y = [a] := by
  unfold dOne at h
  split at h <;> cases h
  rfl
theorem dP_ok {a b : Nat} {y : TV RW} {u : Unit} (h : dP a b y = some u) : y = .ptr a b := by
  unfold dP at h
  split at h
  · obtain ⟨h1, h2⟩ := cond_some h
    simp only [Bool.and_eq_true] at h1
    rw [nbeq h1.1, nbeq h1.2]
  · cases h
theorem dC_ok {a : Nat} {b : List (Nat × Nat)} {y : TV RW} {u : Unit} (h : dC a b y = some u) : y = .clo a b := by
  unfold dC at h
  split at h
  · obtain ⟨h1, h2⟩ := cond_some h
    simp only [Bool.and_eq_true] at h1
    rw [nbeq h1.1, of_decide_eq_true h1.2]
  · cases h
theorem dRuint8_ok {fl : Bool} {y : TV RW} {a : List Int} (h : dRuint8 fl y = some a) : y = .row fl (.ruint8 a) := by
  unfold dRuint8 at h
  split at h
  · obtain ⟨h1, h2⟩ := cond_some h
    cases h2
    rw [eq_of_beq h1]
  · cases h
theorem dRPiece_ok {fl : Bool} {y : TV RW} {a : List SPiece} (h : dRPiece fl y = some a) : y = .row fl (.rPiece a) := by
  unfold dRPiece at h
  split at h
  · obtain ⟨h1, h2⟩ := cond_some h
    cases h2
    rw [eq_of_beq h1]
  · cases h
theorem dRSpan_ok {fl : Bool} {y : TV RW} {a : List SSpan} (h : dRSpan fl y = some a) : y = .row fl (.rSpan a) := by
  unfold dRSpan at h
  split at h
  · obtain ⟨h1, h2⟩ := cond_some h
    cases h2
    rw [eq_of_beq h1]
  · cases h
theorem dRBlock_ok {fl : Bool} {y : TV RW} {a : List SBlock} (h : dRBlock fl y = some a) : y = .row fl (.rBlock a) := by
  unfold dRBlock at h
  split at h
  · obtain ⟨h1, h2⟩ := cond_some h
    cases h2
    rw [eq_of_beq h1]
  · cases h
theorem dRecv_ok {L : Fr} {a : SRecv} (h : dRecv L = some a) : L = eRecv a := by
  unfold dRecv at h
  split at h
  · simp only [Option.bind_eq_some_iff] at h
    obtain ⟨a0, h0, a1, h1, a2, h2, a3, h3, a4, h4, a5, h5, a6, h6, a7, h7, a8, h8, a9, h9, a10, h10, a11, h11, a12, h12, a13, h13, a14, h14, h⟩ := h
    cases h
    obtain rfl := dI_ok h0
    obtain rfl := dRuint8_ok h1
    obtain rfl := dRPiece_ok h2
    obtain rfl := dI_ok h3
    obtain rfl := dI_ok h4
    obtain rfl := dI_ok h5
    obtain rfl := dI_ok h6
    obtain rfl := dB_ok h7
    obtain rfl := dB_ok h8
    obtain rfl := dI_ok h9
    obtain rfl := dB_ok h10
    obtain rfl := dRSpan_ok h11
    obtain rfl := dI_ok h12
    obtain rfl := dI_ok h13
    obtain rfl := dB_ok h14
    rfl
  · cases h
theorem dRecvt_ok {L : Fr} {a : SRecv} (h : dRecvt L = some a) : L = eRecvt a := by
  unfold dRecvt at h
  split at h
  · simp only [Option.bind_eq_some_iff] at h
    obtain ⟨a0, h0, a1, h1, a2, h2, a3, h3, a4, h4, a5, h5, a6, h6, a7, h7, a8, h8, a9, h9, a10, h10, a11, h11, a12, h12, a13, h13, a14, h14, h⟩ := h
    cases h
    obtain rfl := dI_ok h0
    obtain rfl := dRuint8_ok h1
    obtain rfl := dRPiece_ok h2
    obtain rfl := dI_ok h3
    obtain rfl := dI_ok h4
    obtain rfl := dI_ok h5
    obtain rfl := dI_ok h6
    obtain rfl := dB_ok h7
    obtain rfl := dB_ok h8
    obtain rfl := dI_ok h9
    obtain rfl := dB_ok h10
    obtain rfl := dRSpan_ok h11
    obtain rfl := dI_ok h12
    obtain rfl := dI_ok h13
    obtain rfl := dB_ok h14
    rfl
  · cases h
theorem dPiece_ok {L : Fr} {a : SPiece} (h : dPiece L = some a) : L = ePiece a := by
  unfold dPiece at h
  split at h
  · simp only [Option.bind_eq_some_iff] at h
    obtain ⟨a0, h0, a1, h1, h⟩ := h
    cases h
    obtain rfl := dI_ok h0
    obtain rfl := dRuint8_ok h1
    rfl
  · cases h
theorem dPiecet_ok {L : Fr} {a : SPiece} (h : dPiecet L = some a) : L = ePiecet a := by
  unfold dPiecet at h
  split at h
  · simp only [Option.bind_eq_some_iff] at h
    obtain ⟨a0, h0, a1, h1, h⟩ := h
    cases h
    obtain rfl := dI_ok h0
    obtain rfl := dRuint8_ok h1
    rfl
  · cases h
theorem dSpan_ok {L : Fr} {a : SSpan} (h : dSpan L = some a) : L = eSpan a := by
  unfold dSpan at h
  split at h
  · simp only [Option.bind_eq_some_iff] at h
    obtain ⟨a0, h0, a1, h1, h⟩ := h
    cases h
    obtain rfl := dI_ok h0
    obtain rfl := dI_ok h1
    rfl
  · cases h
theorem dSegment_ok {L : Fr} {a : SSegment} (h : dSegment L = some a) : L = eSegment a := by
  unfold dSegment at h
  split at h
  · simp only [Option.bind_eq_some_iff] at h
    obtain ⟨a0, h0, a1, h1, a2, h2, a3, h3, a4, h4, a5, h5, a6, h6, a7, h7, a8, h8, a9, h9, a10, h10, a11, h11, a12, h12, a13, h13, a14, h14, h⟩ := h
    cases h
    obtain rfl := dI_ok h0
    obtain rfl := dI_ok h1
    obtain rfl := dI_ok h2
    obtain rfl := dI_ok h3
    obtain rfl := dI_ok h4
    obtain rfl := dI_ok h5
    obtain rfl := dI_ok h6
    obtain rfl := dI_ok h7
    obtain rfl := dI_ok h8
    obtain rfl := dB_ok h9
    obtain rfl := dB_ok h10
    obtain rfl := dI_ok h11
    obtain rfl := dI_ok h12
    obtain rfl := dRBlock_ok h13
    obtain rfl := dRuint8_ok h14
    rfl
  · cases h
theorem dSegmentt_ok {L : Fr} {a : SSegment} (h : dSegmentt L = some a) : L = eSegmentt a := by
  unfold dSegmentt at h
  split at h
  · simp only [Option.bind_eq_some_iff] at h
    obtain ⟨a0, h0, a1, h1, a2, h2, a3, h3, a4, h4, a5, h5, a6, h6, a7, h7, a8, h8, a9, h9, a10, h10, a11, h11, a12, h12, a13, h13, a14, h14, h⟩ := h
    cases h
    obtain rfl := dI_ok h0
    obtain rfl := dI_ok h1
    obtain rfl := dI_ok h2
    obtain rfl := dI_ok h3
    obtain rfl := dI_ok h4
    obtain rfl := dI_ok h5
    obtain rfl := dI_ok h6
    obtain rfl := dI_ok h7
    obtain rfl := dI_ok h8
    obtain rfl := dB_ok h9
    obtain rfl := dB_ok h10
    obtain rfl := dI_ok h11
    obtain rfl := dI_ok h12
    obtain rfl := dRBlock_ok h13
    obtain rfl := dRuint8_ok h14
    rfl
  · cases h
theorem dBlock_ok {L : Fr} {a : SBlock} (h : dBlock L = some a) : L = eBlock a := by
  unfold dBlock at h
  split at h
  · simp only [Option.bind_eq_some_iff] at h
    obtain ⟨a0, h0, a1, h1, h⟩ := h
    cases h
    obtain rfl := dI_ok h0
    obtain rfl := dI_ok h1
    rfl
  · cases h
theorem puint8_ok : ∀ {L : Fr} {xs : List Int}, puint8_ L = some xs → TV.los U L = (xs.map cuint8).flatten
  | [], xs, h => by cases h; rfl
  | y0 :: r, xs, h => by
    simp only [puint8_, Option.bind_eq_some_iff] at h
    obtain ⟨a0, h0, xs', h', h⟩ := h
    cases h
    have ih := puint8_ok h'
    obtain rfl := dI_ok h0
    show _ :: TV.los U r = _
    rw [ih]; rfl
theorem pPiece_ok : ∀ {L : Fr} {xs : List SPiece}, pPiece_ L = some xs → TV.los U L = (xs.map cPiece).flatten
  | [], xs, h => by cases h; rfl
  | [_], xs, h => by cases h
  | y0 :: y1 :: r, xs, h => by
    simp only [pPiece_, Option.bind_eq_some_iff] at h
    obtain ⟨a0, h0, a1, h1, xs', h', h⟩ := h
    cases h
    have ih := pPiece_ok h'
    obtain rfl := dI_ok h0
    obtain rfl := dRuint8_ok h1
    show _ :: _ :: TV.los U r = _
    rw [ih]; rfl
theorem pSpan_ok : ∀ {L : Fr} {xs : List SSpan}, pSpan_ L = some xs → TV.los U L = (xs.map cSpan).flatten
  | [], xs, h => by cases h; rfl
  | [_], xs, h => by cases h
  | y0 :: y1 :: r, xs, h => by
    simp only [pSpan_, Option.bind_eq_some_iff] at h
    obtain ⟨a0, h0, a1, h1, xs', h', h⟩ := h
    cases h
    have ih := pSpan_ok h'
    obtain rfl := dI_ok h0
    obtain rfl := dI_ok h1
    show _ :: _ :: TV.los U r = _
    rw [ih]; rfl
theorem pBlock_ok : ∀ {L : Fr} {xs : List SBlock}, pBlock_ L = some xs → TV.los U L = (xs.map cBlock).flatten
  | [], xs, h => by cases h; rfl
  | [_], xs, h => by cases h
  | y0 :: y1 :: r, xs, h => by
    simp only [pBlock_, Option.bind_eq_some_iff] at h
    obtain ⟨a0, h0, a1, h1, xs', h', h⟩ := h
    cases h
    have ih := pBlock_ok h'
    obtain rfl := dI_ok h0
    obtain rfl := dI_ok h1
    show _ :: _ :: TV.los U r = _
    rw [ih]; rfl
theorem dUPiece_ok {y : TV RW} {a : List SPiece} (h : dUPiece y = some a) : y = .un none (.rPiece a) := by
  unfold dUPiece at h
  split at h <;> cases h
  rfl
theorem dXPiece_ok {y : TV RW} {a : SPiece} (h : dXPiece y = some a) : ∃ fl, y = .row fl (.rPiece [a]) := by
  unfold dXPiece at h
  split at h <;> cases h
  exact ⟨_, rfl⟩
theorem UOk : UniOk U where
  get := fun r i => match r with
    | .ruint8 xs => by kernel_rfl
    | .rPiece xs => by kernel_rfl
    | .rSpan xs => by kernel_rfl
    | .rBlock xs => by kernel_rfl
  app := fun r q x h => by cases r <;> cases q <;> first | (cases h; done) | (cases h; exact ⟨rfl, rfl, List.length_append, (rg_app (c := cuint8) (z := zuint8)).symm⟩) | (cases h; exact ⟨rfl, rfl, List.length_append, (rg_app (c := cPiece) (z := zPiece)).symm⟩) | (cases h; exact ⟨rfl, rfl, List.length_append, (rg_app (c := cSpan) (z := zSpan)).symm⟩) | (cases h; exact ⟨rfl, rfl, List.length_append, (rg_app (c := cBlock) (z := zBlock)).symm⟩)
  sub := fun lo n r h => by cases r <;> first | exact ⟨rfl, sub_len h, (rg_sub (c := cuint8) (z := zuint8) h).symm⟩ | exact ⟨rfl, sub_len h, (rg_sub (c := cPiece) (z := zPiece) h).symm⟩ | exact ⟨rfl, sub_len h, (rg_sub (c := cSpan) (z := zSpan) h).symm⟩ | exact ⟨rfl, sub_len h, (rg_sub (c := cBlock) (z := zBlock) h).symm⟩
  lit := fun t n L r h => by
    unfold U at h
    dsimp only at h
    split at h
    · obtain ⟨xs, h1, rfl, rfl⟩ := bind_lit h
      have e := puint8_ok h1
      exact ⟨rfl, rfl, by rw [e]; exact (rg_lit (c := cuint8) (sz := 1) (z := zuint8) (fun _ => rfl)).symm, by rw [e]; exact all_flat (fun _ => rfl) xs⟩
    · obtain ⟨xs, h1, rfl, rfl⟩ := bind_lit h
      have e := pPiece_ok h1
      exact ⟨rfl, rfl, by rw [e]; exact (rg_lit (c := cPiece) (sz := 2) (z := zPiece) (fun _ => rfl)).symm, by rw [e]; exact all_flat (fun _ => rfl) xs⟩
    · obtain ⟨xs, h1, rfl, rfl⟩ := bind_lit h
      have e := pSpan_ok h1
      exact ⟨rfl, rfl, by rw [e]; exact (rg_lit (c := cSpan) (sz := 2) (z := zSpan) (fun _ => rfl)).symm, by rw [e]; exact all_flat (fun _ => rfl) xs⟩
    · obtain ⟨xs, h1, rfl, rfl⟩ := bind_lit h
      have e := pBlock_ok h1
      exact ⟨rfl, rfl, by rw [e]; exact (rg_lit (c := cBlock) (sz := 2) (z := zBlock) (fun _ => rfl)).symm, by rw [e]; exact all_flat (fun _ => rfl) xs⟩
    · cases h
  set := fun r q off cs r' hq h => by
    unfold U at h hq
    dsimp only at h hq
    split at h
    · cases h
    · obtain ⟨x, h1, h2⟩ := Option.bind_eq_some_iff.1 h
      cases h2
      obtain ⟨a1, a2, a3⟩ := set_fin (U := U) (c := cPiece) (z := zPiece) (e := ePiece) (fun _ => by kernel_rfl) (fun _ => rfl) hq (dPiece_ok h1)
      exact ⟨rfl, a1, a2, a3⟩
    · obtain ⟨x, h1, h2⟩ := Option.bind_eq_some_iff.1 h
      cases h2
      obtain ⟨a1, a2, a3⟩ := set_fin (U := U) (c := cSpan) (z := zSpan) (e := eSpan) (fun _ => by kernel_rfl) (fun _ => rfl) hq (dSpan_ok h1)
      exact ⟨rfl, a1, a2, a3⟩
    · obtain ⟨x, h1, h2⟩ := Option.bind_eq_some_iff.1 h
      cases h2
      obtain ⟨a1, a2, a3⟩ := set_fin (U := U) (c := cBlock) (z := zBlock) (e := eBlock) (fun _ => by kernel_rfl) (fun _ => rfl) hq (dBlock_ok h1)
      exact ⟨rfl, a1, a2, a3⟩
  str := fun r l h => by
    unfold U at h
    dsimp only at h
    split at h
    · cases h
      exact ⟨rfl, bytes_rg (fun _ => rfl) l⟩
    · cases h
    · cases h
    · cases h

theorem ok27 {R : Type} {r : R} : ∀ {n : Nat}, (∀ m, n = m + 1 → CallOk2 (R := R) U (callP capB m) (runF tbl m)) → ∀ {av : Fr} {cs : List Fr} {k : Ret2 RW → Option R}, ca27 capB n av cs k = some r → ∃ q : Ret2 RW, runF tbl n 27 (TV.los U av) (cs.map (TV.los U)) = some (q.lo U) ∧ k q = some r := by
  intro n ih av cs k h
  unfold ca27 at h
  split at h
  · simp only [Option.bind_eq_some_iff] at h
    obtain ⟨c0_, h0, p0, g0, h⟩ := h
    obtain rfl := dA_ok h0
    obtain rfl := dRecv_ok g0
    cases n with
    | zero => cases h
    | succ n =>
      exact run2_ok UOk (ih n rfl) (f := fn27) rfl ((run27 capB n p0 k).symm.trans h)
  · cases h
theorem ok53 {R : Type} {r : R} : ∀ {n : Nat}, (∀ m, n = m + 1 → CallOk2 (R := R) U (callP capB m) (runF tbl m)) → ∀ {av : Fr} {cs : List Fr} {k : Ret2 RW → Option R}, ca53 capB n av cs k = some r → ∃ q : Ret2 RW, runF tbl n 53 (TV.los U av) (cs.map (TV.los U)) = some (q.lo U) ∧ k q = some r := by
  intro n ih av cs k h
  unfold ca53 at h
  split at h
  · simp only [Option.bind_eq_some_iff] at h
    obtain ⟨c0_, h0, p0, g0, h⟩ := h
    obtain rfl := dA_ok h0
    obtain rfl := dRecv_ok g0
    cases n with
    | zero => cases h
    | succ n =>
      exact run2_ok UOk (ih n rfl) (f := fn53) rfl ((run53 capB n p0 k).symm.trans h)
  · cases h
theorem ok55 {R : Type} {r : R} : ∀ {n : Nat}, (∀ m, n = m + 1 → CallOk2 (R := R) U (callP capB m) (runF tbl m)) → ∀ {av : Fr} {cs : List Fr} {k : Ret2 RW → Option R}, ca55 capB n av cs k = some r → ∃ q : Ret2 RW, runF tbl n 55 (TV.los U av) (cs.map (TV.los U)) = some (q.lo U) ∧ k q = some r := by
  intro n ih av cs k h
  unfold ca55 at h
  split at h
  · simp only [Option.bind_eq_some_iff] at h
    obtain ⟨c0_, h0, p0, g0, h⟩ := h
    obtain rfl := dA_ok h0
    obtain rfl := dRecv_ok g0
    cases n with
    | zero => cases h
    | succ n =>
      exact run2_ok UOk (ih n rfl) (f := fn55) rfl ((run55 capB n p0 k).symm.trans h)
  · cases h
theorem ok71 {R : Type} {r : R} : ∀ {n : Nat}, (∀ m, n = m + 1 → CallOk2 (R := R) U (callP capB m) (runF tbl m)) → ∀ {av : Fr} {cs : List Fr} {k : Ret2 RW → Option R}, ca71 capB n av cs k = some r → ∃ q : Ret2 RW, runF tbl n 71 (TV.los U av) (cs.map (TV.los U)) = some (q.lo U) ∧ k q = some r := by
  intro n ih av cs k h
  unfold ca71 at h
  split at h
  · simp only [Option.bind_eq_some_iff] at h
    obtain ⟨c0_, h0, p0, g0, h⟩ := h
    obtain rfl := dA_ok h0
    obtain rfl := dPiece_ok g0
    cases n with
    | zero => cases h
    | succ n =>
      exact run2_ok UOk (ih n rfl) (f := fn71) rfl ((run71 capB n p0 k).symm.trans h)
  · cases h
theorem ok1008 {R : Type} {r : R} : ∀ {n : Nat}, (∀ m, n = m + 1 → CallOk2 (R := R) U (callP capB m) (runF tbl m)) → ∀ {av : Fr} {cs : List Fr} {k : Ret2 RW → Option R}, ca1008 capB n av cs k = some r → ∃ q : Ret2 RW, runF tbl n 1008 (TV.los U av) (cs.map (TV.los U)) = some (q.lo U) ∧ k q = some r := by
  intro n ih av cs k h
  unfold ca1008 at h
  split at h
  · simp only [Option.bind_eq_some_iff] at h
    obtain ⟨p0, h0, u1, h1, q0, i0, h⟩ := h
    obtain rfl := dRSpan_ok h0
    obtain rfl := dC_ok h1
    obtain rfl := dRecv_ok i0
    cases n with
    | zero => cases h
    | succ n =>
      exact run2_ok UOk (ih n rfl) (f := fn1008) rfl ((run1008 capB n p0 q0 k).symm.trans h)
  · cases h
theorem ok1007 {R : Type} {r : R} : ∀ {n : Nat}, (∀ m, n = m + 1 → CallOk2 (R := R) U (callP capB m) (runF tbl m)) → ∀ {av : Fr} {cs : List Fr} {k : Ret2 RW → Option R}, ca1007 capB n av cs k = some r → ∃ q : Ret2 RW, runF tbl n 1007 (TV.los U av) (cs.map (TV.los U)) = some (q.lo U) ∧ k q = some r := by
  intro n ih av cs k h
  unfold ca1007 at h
  split at h
  · simp only [Option.bind_eq_some_iff] at h
    obtain ⟨u0, h0, q0, i0, h⟩ := h
    obtain rfl := dC_ok h0
    obtain rfl := dRecv_ok i0
    cases n with
    | zero => cases h
    | succ n =>
      exact run2_ok UOk (ih n rfl) (f := fn1007) rfl ((run1007 capB n q0 k).symm.trans h)
  · cases h
theorem ok72 {R : Type} {r : R} : ∀ {n : Nat}, (∀ m, n = m + 1 → CallOk2 (R := R) U (callP capB m) (runF tbl m)) → ∀ {av : Fr} {cs : List Fr} {k : Ret2 RW → Option R}, ca72 capB n av cs k = some r → ∃ q : Ret2 RW, runF tbl n 72 (TV.los U av) (cs.map (TV.los U)) = some (q.lo U) ∧ k q = some r := by
  intro n ih av cs k h
  unfold ca72 at h
  split at h
  · simp only [Option.bind_eq_some_iff] at h
    obtain ⟨p0, h0, c1_, h1, p1, g1, h⟩ := h
    obtain rfl := dRSpan_ok h0
    obtain rfl := dA_ok h1
    obtain rfl := dSpan_ok g1
    cases n with
    | zero => cases h
    | succ n =>
      exact run2_ok UOk (ih n rfl) (f := fn72) rfl ((run72 capB n p0 p1 k).symm.trans h)
  · cases h
theorem ok56 {R : Type} {r : R} : ∀ {n : Nat}, (∀ m, n = m + 1 → CallOk2 (R := R) U (callP capB m) (runF tbl m)) → ∀ {av : Fr} {cs : List Fr} {k : Ret2 RW → Option R}, ca56 capB n av cs k = some r → ∃ q : Ret2 RW, runF tbl n 56 (TV.los U av) (cs.map (TV.los U)) = some (q.lo U) ∧ k q = some r := by
  intro n ih av cs k h
  unfold ca56 at h
  split at h
  · simp only [Option.bind_eq_some_iff] at h
    obtain ⟨p0, h0, c1_, h1, p1, g1, h⟩ := h
    obtain rfl := dRSpan_ok h0
    obtain rfl := dA_ok h1
    obtain rfl := dSpan_ok g1
    cases n with
    | zero => cases h
    | succ n =>
      exact run2_ok UOk (ih n rfl) (f := fn56) rfl ((run56 capB n p0 p1 k).symm.trans h)
  · cases h
theorem ok28 {R : Type} {r : R} : ∀ {n : Nat}, (∀ m, n = m + 1 → CallOk2 (R := R) U (callP capB m) (runF tbl m)) → ∀ {av : Fr} {cs : List Fr} {k : Ret2 RW → Option R}, ca28 capB n av cs k = some r → ∃ q : Ret2 RW, runF tbl n 28 (TV.los U av) (cs.map (TV.los U)) = some (q.lo U) ∧ k q = some r := by
  intro n ih av cs k h
  unfold ca28 at h
  split at h
  · simp only [Option.bind_eq_some_iff] at h
    obtain ⟨c0_, h0, p0, g0, h⟩ := h
    obtain rfl := dA_ok h0
    obtain rfl := dRecv_ok g0
    cases n with
    | zero => cases h
    | succ n =>
      exact run2_ok UOk (ih n rfl) (f := fn28) rfl ((run28 capB n p0 k).symm.trans h)
  · cases h
theorem ok10 {R : Type} {r : R} : ∀ {n : Nat}, (∀ m, n = m + 1 → CallOk2 (R := R) U (callP capB m) (runF tbl m)) → ∀ {av : Fr} {cs : List Fr} {k : Ret2 RW → Option R}, ca10 capB n av cs k = some r → ∃ q : Ret2 RW, runF tbl n 10 (TV.los U av) (cs.map (TV.los U)) = some (q.lo U) ∧ k q = some r := by
  intro n ih av cs k h
  unfold ca10 at h
  split at h
  · simp only [Option.bind_eq_some_iff] at h
    obtain ⟨c0_, h0, p0, g0, h⟩ := h
    obtain rfl := dA_ok h0
    obtain rfl := dRecv_ok g0
    cases n with
    | zero => cases h
    | succ n =>
      exact run2_ok UOk (ih n rfl) (f := fn10) rfl ((run10 capB n p0 k).symm.trans h)
  · cases h
theorem ok57 {R : Type} {r : R} : ∀ {n : Nat}, (∀ m, n = m + 1 → CallOk2 (R := R) U (callP capB m) (runF tbl m)) → ∀ {av : Fr} {cs : List Fr} {k : Ret2 RW → Option R}, ca57 capB n av cs k = some r → ∃ q : Ret2 RW, runF tbl n 57 (TV.los U av) (cs.map (TV.los U)) = some (q.lo U) ∧ k q = some r := by
  intro n ih av cs k h
  unfold ca57 at h
  split at h
  · simp only [Option.bind_eq_some_iff] at h
    obtain ⟨p0, h0, h⟩ := h
    obtain rfl := dRSpan_ok h0
    cases n with
    | zero => cases h
    | succ n =>
      obtain ⟨h1, h2⟩ := cond_some h
      exact ⟨⟨.row true (.rSpan p0), [], []⟩, clone57 n p0 h1, h2⟩
  · cases h
theorem ok52 {R : Type} {r : R} : ∀ {n : Nat}, (∀ m, n = m + 1 → CallOk2 (R := R) U (callP capB m) (runF tbl m)) → ∀ {av : Fr} {cs : List Fr} {k : Ret2 RW → Option R}, ca52 capB n av cs k = some r → ∃ q : Ret2 RW, runF tbl n 52 (TV.los U av) (cs.map (TV.los U)) = some (q.lo U) ∧ k q = some r := by
  intro n ih av cs k h
  unfold ca52 at h
  split at h
  · simp only [Option.bind_eq_some_iff] at h
    obtain ⟨p0, h0, h⟩ := h
    obtain rfl := dRuint8_ok h0
    cases n with
    | zero => cases h
    | succ n =>
      obtain ⟨h1, h2⟩ := cond_some h
      exact ⟨⟨.row true (.ruint8 p0), [], []⟩, clone52 n p0 h1, h2⟩
  · cases h
theorem ok29 {R : Type} {r : R} : ∀ {n : Nat}, (∀ m, n = m + 1 → CallOk2 (R := R) U (callP capB m) (runF tbl m)) → ∀ {av : Fr} {cs : List Fr} {k : Ret2 RW → Option R}, ca29 capB n av cs k = some r → ∃ q : Ret2 RW, runF tbl n 29 (TV.los U av) (cs.map (TV.los U)) = some (q.lo U) ∧ k q = some r := by
  intro n ih av cs k h
  unfold ca29 at h
  split at h
  · simp only [Option.bind_eq_some_iff] at h
    obtain ⟨c0_, h0, p0, g0, h⟩ := h
    obtain rfl := dA_ok h0
    obtain rfl := dRecv_ok g0
    cases n with
    | zero => cases h
    | succ n =>
      exact run2_ok UOk (ih n rfl) (f := fn29) rfl ((run29 capB n p0 k).symm.trans h)
  · cases h
theorem ok31 {R : Type} {r : R} : ∀ {n : Nat}, (∀ m, n = m + 1 → CallOk2 (R := R) U (callP capB m) (runF tbl m)) → ∀ {av : Fr} {cs : List Fr} {k : Ret2 RW → Option R}, ca31 capB n av cs k = some r → ∃ q : Ret2 RW, runF tbl n 31 (TV.los U av) (cs.map (TV.los U)) = some (q.lo U) ∧ k q = some r := by
  intro n ih av cs k h
  unfold ca31 at h
  split at h
  · simp only [Option.bind_eq_some_iff] at h
    obtain ⟨p0, h0, p1, h1, h⟩ := h
    obtain rfl := dI_ok h0
    obtain rfl := dI_ok h1
    cases n with
    | zero => cases h
    | succ n =>
      exact run2_ok UOk (ih n rfl) (f := fn31) rfl ((run31 capB n p0 p1 k).symm.trans h)
  · cases h
theorem ok58 {R : Type} {r : R} : ∀ {n : Nat}, (∀ m, n = m + 1 → CallOk2 (R := R) U (callP capB m) (runF tbl m)) → ∀ {av : Fr} {cs : List Fr} {k : Ret2 RW → Option R}, ca58 capB n av cs k = some r → ∃ q : Ret2 RW, runF tbl n 58 (TV.los U av) (cs.map (TV.los U)) = some (q.lo U) ∧ k q = some r := by
  intro n ih av cs k h
  unfold ca58 at h
  split at h
  · simp only [Option.bind_eq_some_iff] at h
    obtain ⟨p0, h0, p1, h1, h⟩ := h
    obtain rfl := dI_ok h0
    obtain rfl := dI_ok h1
    cases n with
    | zero => cases h
    | succ n =>
      exact run2_ok UOk (ih n rfl) (f := fn58) rfl ((run58 capB n p0 p1 k).symm.trans h)
  · cases h
theorem ok30 {R : Type} {r : R} : ∀ {n : Nat}, (∀ m, n = m + 1 → CallOk2 (R := R) U (callP capB m) (runF tbl m)) → ∀ {av : Fr} {cs : List Fr} {k : Ret2 RW → Option R}, ca30 capB n av cs k = some r → ∃ q : Ret2 RW, runF tbl n 30 (TV.los U av) (cs.map (TV.los U)) = some (q.lo U) ∧ k q = some r := by
  intro n ih av cs k h
  unfold ca30 at h
  split at h
  · simp only [Option.bind_eq_some_iff] at h
    obtain ⟨p0, h0, p1, h1, h⟩ := h
    obtain rfl := dI_ok h0
    obtain rfl := dI_ok h1
    cases n with
    | zero => cases h
    | succ n =>
      exact run2_ok UOk (ih n rfl) (f := fn30) rfl ((run30 capB n p0 p1 k).symm.trans h)
  · cases h
theorem ok36 {R : Type} {r : R} : ∀ {n : Nat}, (∀ m, n = m + 1 → CallOk2 (R := R) U (callP capB m) (runF tbl m)) → ∀ {av : Fr} {cs : List Fr} {k : Ret2 RW → Option R}, ca36 capB n av cs k = some r → ∃ q : Ret2 RW, runF tbl n 36 (TV.los U av) (cs.map (TV.los U)) = some (q.lo U) ∧ k q = some r := by
  intro n ih av cs k h
  unfold ca36 at h
  split at h
  · simp only [Option.bind_eq_some_iff] at h
    obtain ⟨p0, h0, p1, h1, h⟩ := h
    obtain rfl := dI_ok h0
    obtain rfl := dI_ok h1
    cases n with
    | zero => cases h
    | succ n =>
      exact run2_ok UOk (ih n rfl) (f := fn36) rfl ((run36 capB n p0 p1 k).symm.trans h)
  · cases h
theorem ok49 {R : Type} {r : R} : ∀ {n : Nat}, (∀ m, n = m + 1 → CallOk2 (R := R) U (callP capB m) (runF tbl m)) → ∀ {av : Fr} {cs : List Fr} {k : Ret2 RW → Option R}, ca49 capB n av cs k = some r → ∃ q : Ret2 RW, runF tbl n 49 (TV.los U av) (cs.map (TV.los U)) = some (q.lo U) ∧ k q = some r := by
  intro n ih av cs k h
  unfold ca49 at h
  split at h
  · simp only [Option.bind_eq_some_iff] at h
    obtain ⟨c0_, h0, p0, g0, h⟩ := h
    obtain rfl := dA_ok h0
    obtain rfl := dRecv_ok g0
    cases n with
    | zero => cases h
    | succ n =>
      exact run2_ok UOk (ih n rfl) (f := fn49) rfl ((run49 capB n p0 k).symm.trans h)
  · cases h
theorem ok32 {R : Type} {r : R} : ∀ {n : Nat}, (∀ m, n = m + 1 → CallOk2 (R := R) U (callP capB m) (runF tbl m)) → ∀ {av : Fr} {cs : List Fr} {k : Ret2 RW → Option R}, ca32 capB n av cs k = some r → ∃ q : Ret2 RW, runF tbl n 32 (TV.los U av) (cs.map (TV.los U)) = some (q.lo U) ∧ k q = some r := by
  intro n ih av cs k h
  unfold ca32 at h
  split at h
  · simp only [Option.bind_eq_some_iff] at h
    obtain ⟨c0_, h0, p0, g0, p1, h1, h⟩ := h
    obtain rfl := dA_ok h0
    obtain rfl := dRecv_ok g0
    obtain rfl := dRBlock_ok h1
    cases n with
    | zero => cases h
    | succ n =>
      exact run2_ok UOk (ih n rfl) (f := fn32) rfl ((run32 capB n p0 p1 k).symm.trans h)
  · cases h
theorem ok33 {R : Type} {r : R} : ∀ {n : Nat}, (∀ m, n = m + 1 → CallOk2 (R := R) U (callP capB m) (runF tbl m)) → ∀ {av : Fr} {cs : List Fr} {k : Ret2 RW → Option R}, ca33 capB n av cs k = some r → ∃ q : Ret2 RW, runF tbl n 33 (TV.los U av) (cs.map (TV.los U)) = some (q.lo U) ∧ k q = some r := by
  intro n ih av cs k h
  unfold ca33 at h
  split at h
  · simp only [Option.bind_eq_some_iff] at h
    obtain ⟨c0_, h0, p0, g0, p1, h1, h⟩ := h
    obtain rfl := dA_ok h0
    obtain rfl := dRecv_ok g0
    obtain rfl := dI_ok h1
    cases n with
    | zero => cases h
    | succ n =>
      exact run2_ok UOk (ih n rfl) (f := fn33) rfl ((run33 capB n p0 p1 k).symm.trans h)
  · cases h
theorem ok82 {R : Type} {r : R} : ∀ {n : Nat}, (∀ m, n = m + 1 → CallOk2 (R := R) U (callP capB m) (runF tbl m)) → ∀ {av : Fr} {cs : List Fr} {k : Ret2 RW → Option R}, ca82 capB n av cs k = some r → ∃ q : Ret2 RW, runF tbl n 82 (TV.los U av) (cs.map (TV.los U)) = some (q.lo U) ∧ k q = some r := by
  intro n ih av cs k h
  unfold ca82 at h
  split at h
  · simp only [Option.bind_eq_some_iff] at h
    obtain ⟨c0_, h0, p0, g0, h⟩ := h
    obtain rfl := dA_ok h0
    obtain rfl := dSpan_ok g0
    cases n with
    | zero => cases h
    | succ n =>
      exact run2_ok UOk (ih n rfl) (f := fn82) rfl ((run82 capB n p0 k).symm.trans h)
  · cases h
theorem ok78 {R : Type} {r : R} : ∀ {n : Nat}, (∀ m, n = m + 1 → CallOk2 (R := R) U (callP capB m) (runF tbl m)) → ∀ {av : Fr} {cs : List Fr} {k : Ret2 RW → Option R}, ca78 capB n av cs k = some r → ∃ q : Ret2 RW, runF tbl n 78 (TV.los U av) (cs.map (TV.los U)) = some (q.lo U) ∧ k q = some r := by
  intro n ih av cs k h
  unfold ca78 at h
  split at h
  · simp only [Option.bind_eq_some_iff] at h
    obtain ⟨p0, h0, h⟩ := h
    obtain rfl := dRSpan_ok h0
    cases n with
    | zero => cases h
    | succ n =>
      exact run2_ok UOk (ih n rfl) (f := fn78) rfl ((run78 capB n p0 k).symm.trans h)
  · cases h
theorem ok79 {R : Type} {r : R} : ∀ {n : Nat}, (∀ m, n = m + 1 → CallOk2 (R := R) U (callP capB m) (runF tbl m)) → ∀ {av : Fr} {cs : List Fr} {k : Ret2 RW → Option R}, ca79 capB n av cs k = some r → ∃ q : Ret2 RW, runF tbl n 79 (TV.los U av) (cs.map (TV.los U)) = some (q.lo U) ∧ k q = some r := by
  intro n ih av cs k h
  unfold ca79 at h
  split at h
  · simp only [Option.bind_eq_some_iff] at h
    obtain ⟨p0, h0, c1_, h1, p1, g1, h⟩ := h
    obtain rfl := dRSpan_ok h0
    obtain rfl := dA_ok h1
    obtain rfl := dSpan_ok g1
    cases n with
    | zero => cases h
    | succ n =>
      exact run2_ok UOk (ih n rfl) (f := fn79) rfl ((run79 capB n p0 p1 k).symm.trans h)
  · cases h
theorem ok61 {R : Type} {r : R} : ∀ {n : Nat}, (∀ m, n = m + 1 → CallOk2 (R := R) U (callP capB m) (runF tbl m)) → ∀ {av : Fr} {cs : List Fr} {k : Ret2 RW → Option R}, ca61 capB n av cs k = some r → ∃ q : Ret2 RW, runF tbl n 61 (TV.los U av) (cs.map (TV.los U)) = some (q.lo U) ∧ k q = some r := by
  intro n ih av cs k h
  unfold ca61 at h
  split at h
  · simp only [Option.bind_eq_some_iff] at h
    obtain ⟨p0, h0, c1_, h1, p1, g1, h⟩ := h
    obtain rfl := dRSpan_ok h0
    obtain rfl := dA_ok h1
    obtain rfl := dSpan_ok g1
    cases n with
    | zero => cases h
    | succ n =>
      exact run2_ok UOk (ih n rfl) (f := fn61) rfl ((run61 capB n p0 p1 k).symm.trans h)
  · cases h
theorem ok74 {R : Type} {r : R} : ∀ {n : Nat}, (∀ m, n = m + 1 → CallOk2 (R := R) U (callP capB m) (runF tbl m)) → ∀ {av : Fr} {cs : List Fr} {k : Ret2 RW → Option R}, ca74 capB n av cs k = some r → ∃ q : Ret2 RW, runF tbl n 74 (TV.los U av) (cs.map (TV.los U)) = some (q.lo U) ∧ k q = some r := by
  intro n ih av cs k h
  unfold ca74 at h
  split at h
  · simp only [Option.bind_eq_some_iff] at h
    obtain ⟨c0_, h0, p0, g0, p1, h1, h⟩ := h
    obtain rfl := dA_ok h0
    obtain rfl := dPiece_ok g0
    obtain rfl := dI_ok h1
    cases n with
    | zero => cases h
    | succ n =>
      exact run2_ok UOk (ih n rfl) (f := fn74) rfl ((run74 capB n p0 p1 k).symm.trans h)
  · cases h
theorem ok1029 {R : Type} {r : R} : ∀ {n : Nat}, (∀ m, n = m + 1 → CallOk2 (R := R) U (callP capB m) (runF tbl m)) → ∀ {av : Fr} {cs : List Fr} {k : Ret2 RW → Option R}, ca1029 capB n av cs k = some r → ∃ q : Ret2 RW, runF tbl n 1029 (TV.los U av) (cs.map (TV.los U)) = some (q.lo U) ∧ k q = some r := by
  intro n ih av cs k h
  unfold ca1029 at h
  split at h
  · simp only [Option.bind_eq_some_iff] at h
    obtain ⟨p0, h0, p1, h1, u2, h2, h⟩ := h
    obtain rfl := dRPiece_ok h0
    obtain rfl := dI_ok h1
    obtain rfl := dC_ok h2
    cases n with
    | zero => cases h
    | succ n =>
      exact run2_ok UOk (ih n rfl) (f := fn1029) rfl ((run1029 capB n p0 p1 k).symm.trans h)
  · cases h
theorem ok1031 {R : Type} {r : R} : ∀ {n : Nat}, (∀ m, n = m + 1 → CallOk2 (R := R) U (callP capB m) (runF tbl m)) → ∀ {av : Fr} {cs : List Fr} {k : Ret2 RW → Option R}, ca1031 capB n av cs k = some r → ∃ q : Ret2 RW, runF tbl n 1031 (TV.los U av) (cs.map (TV.los U)) = some (q.lo U) ∧ k q = some r := by
  intro n ih av cs k h
  unfold ca1031 at h
  split at h
  · simp only [Option.bind_eq_some_iff] at h
    obtain ⟨p0, h0, h⟩ := h
    obtain rfl := dRPiece_ok h0
    cases n with
    | zero => cases h
    | succ n =>
      obtain ⟨h1, h2⟩ := cond_some h
      exact ⟨⟨.un none (.rPiece p0), [], []⟩, clone1031 n p0 h1, h2⟩
  · cases h
theorem ok75 {R : Type} {r : R} : ∀ {n : Nat}, (∀ m, n = m + 1 → CallOk2 (R := R) U (callP capB m) (runF tbl m)) → ∀ {av : Fr} {cs : List Fr} {k : Ret2 RW → Option R}, ca75 capB n av cs k = some r → ∃ q : Ret2 RW, runF tbl n 75 (TV.los U av) (cs.map (TV.los U)) = some (q.lo U) ∧ k q = some r := by
  intro n ih av cs k h
  unfold ca75 at h
  split at h
  · simp only [Option.bind_eq_some_iff] at h
    obtain ⟨p0, h0, p1, h1, p2, h2, h⟩ := h
    obtain rfl := dUPiece_ok h0
    obtain rfl := dI_ok h1
    obtain ⟨a2, rfl⟩ := dXPiece_ok h2
    cases n with
    | zero => cases h
    | succ n =>
      obtain ⟨h1, h2⟩ := cond_some h
      obtain ⟨h3, h4⟩ := cond_some h2
      obtain ⟨h5, h6⟩ := cond_some h4
      exact ⟨⟨.un none (.rPiece (insL p0 (Int.toNat p1) p2)), [], []⟩, clone75 n a2 p0 p1 p2 h1 h3 h5, h6⟩
  · cases h
theorem ok77 {R : Type} {r : R} : ∀ {n : Nat}, (∀ m, n = m + 1 → CallOk2 (R := R) U (callP capB m) (runF tbl m)) → ∀ {av : Fr} {cs : List Fr} {k : Ret2 RW → Option R}, ca77 capB n av cs k = some r → ∃ q : Ret2 RW, runF tbl n 77 (TV.los U av) (cs.map (TV.los U)) = some (q.lo U) ∧ k q = some r := by
  intro n ih av cs k h
  unfold ca77 at h
  split at h
  · simp only [Option.bind_eq_some_iff] at h
    obtain ⟨p0, h0, h⟩ := h
    obtain rfl := dRuint8_ok h0
    cases n with
    | zero => cases h
    | succ n =>
      exact run2_ok UOk (ih n rfl) (f := fn77) rfl ((run77 capB n p0 k).symm.trans h)
  · cases h
theorem ok60 {R : Type} {r : R} : ∀ {n : Nat}, (∀ m, n = m + 1 → CallOk2 (R := R) U (callP capB m) (runF tbl m)) → ∀ {av : Fr} {cs : List Fr} {k : Ret2 RW → Option R}, ca60 capB n av cs k = some r → ∃ q : Ret2 RW, runF tbl n 60 (TV.los U av) (cs.map (TV.los U)) = some (q.lo U) ∧ k q = some r := by
  intro n ih av cs k h
  unfold ca60 at h
  split at h
  · simp only [Option.bind_eq_some_iff] at h
    obtain ⟨p0, h0, c1_, h1, p1, g1, h⟩ := h
    obtain rfl := dRPiece_ok h0
    obtain rfl := dA_ok h1
    obtain rfl := dPiece_ok g1
    cases n with
    | zero => cases h
    | succ n =>
      exact run2_ok UOk (ih n rfl) (f := fn60) rfl ((run60 capB n p0 p1 k).symm.trans h)
  · cases h
theorem ok1027 {R : Type} {r : R} : ∀ {n : Nat}, (∀ m, n = m + 1 → CallOk2 (R := R) U (callP capB m) (runF tbl m)) → ∀ {av : Fr} {cs : List Fr} {k : Ret2 RW → Option R}, ca1027 capB n av cs k = some r → ∃ q : Ret2 RW, runF tbl n 1027 (TV.los U av) (cs.map (TV.los U)) = some (q.lo U) ∧ k q = some r := by
  intro n ih av cs k h
  unfold ca1027 at h
  split at h
  · simp only [Option.bind_eq_some_iff] at h
    obtain ⟨c0_, h0, p0, g0, u1, h1, u2, h2, u3, h3, u4, h4, q0, i0, u_1, j1, q1, i1, u_2, j2, q2, i2, u_3, j3, q3, i3, h⟩ := h
    obtain rfl := dA_ok h0
    obtain rfl := dSpan_ok g0
    obtain rfl := dP_ok h1
    obtain rfl := dP_ok h2
    obtain rfl := dP_ok h3
    obtain rfl := dP_ok h4
    obtain rfl := dRecvt_ok i0
    obtain rfl := dOne_ok j1
    obtain rfl := dI_ok i1
    obtain rfl := dOne_ok j2
    obtain rfl := dRuint8_ok i2
    obtain rfl := dOne_ok j3
    obtain rfl := dB_ok i3
    cases n with
    | zero => cases h
    | succ n =>
      exact run2_ok UOk (ih n rfl) (f := fn1027) rfl ((run1027 capB n p0 q0 q1 q2 q3 k).symm.trans h)
  · cases h
theorem ok34 {R : Type} {r : R} : ∀ {n : Nat}, (∀ m, n = m + 1 → CallOk2 (R := R) U (callP capB m) (runF tbl m)) → ∀ {av : Fr} {cs : List Fr} {k : Ret2 RW → Option R}, ca34 capB n av cs k = some r → ∃ q : Ret2 RW, runF tbl n 34 (TV.los U av) (cs.map (TV.los U)) = some (q.lo U) ∧ k q = some r := by
  intro n ih av cs k h
  unfold ca34 at h
  split at h
  · simp only [Option.bind_eq_some_iff] at h
    obtain ⟨c0_, h0, p0, g0, p1, h1, p2, h2, h⟩ := h
    obtain rfl := dA_ok h0
    obtain rfl := dRecvt_ok g0
    obtain rfl := dI_ok h1
    obtain rfl := dRuint8_ok h2
    cases n with
    | zero => cases h
    | succ n =>
      exact run2_ok UOk (ih n rfl) (f := fn34) rfl ((run34 capB n p0 p1 p2 k).symm.trans h)
  · cases h
theorem ok1036 {R : Type} {r : R} : ∀ {n : Nat}, (∀ m, n = m + 1 → CallOk2 (R := R) U (callP capB m) (runF tbl m)) → ∀ {av : Fr} {cs : List Fr} {k : Ret2 RW → Option R}, ca1036 capB n av cs k = some r → ∃ q : Ret2 RW, runF tbl n 1036 (TV.los U av) (cs.map (TV.los U)) = some (q.lo U) ∧ k q = some r := by
  intro n ih av cs k h
  unfold ca1036 at h
  split at h
  · simp only [Option.bind_eq_some_iff] at h
    obtain ⟨c0_, h0, p0, g0, u1, h1, q0, i0, h⟩ := h
    obtain rfl := dA_ok h0
    obtain rfl := dSpan_ok g0
    obtain rfl := dP_ok h1
    obtain rfl := dSpan_ok i0
    cases n with
    | zero => cases h
    | succ n =>
      exact run2_ok UOk (ih n rfl) (f := fn1036) rfl ((run1036 capB n p0 q0 k).symm.trans h)
  · cases h
theorem ok1035 {R : Type} {r : R} : ∀ {n : Nat}, (∀ m, n = m + 1 → CallOk2 (R := R) U (callP capB m) (runF tbl m)) → ∀ {av : Fr} {cs : List Fr} {k : Ret2 RW → Option R}, ca1035 capB n av cs k = some r → ∃ q : Ret2 RW, runF tbl n 1035 (TV.los U av) (cs.map (TV.los U)) = some (q.lo U) ∧ k q = some r := by
  intro n ih av cs k h
  unfold ca1035 at h
  split at h
  · simp only [Option.bind_eq_some_iff] at h
    obtain ⟨p0, h0, u1, h1, q0, i0, h⟩ := h
    obtain rfl := dRSpan_ok h0
    obtain rfl := dC_ok h1
    obtain rfl := dSpan_ok i0
    cases n with
    | zero => cases h
    | succ n =>
      exact run2_ok UOk (ih n rfl) (f := fn1035) rfl ((run1035 capB n p0 q0 k).symm.trans h)
  · cases h
theorem ok35 {R : Type} {r : R} : ∀ {n : Nat}, (∀ m, n = m + 1 → CallOk2 (R := R) U (callP capB m) (runF tbl m)) → ∀ {av : Fr} {cs : List Fr} {k : Ret2 RW → Option R}, ca35 capB n av cs k = some r → ∃ q : Ret2 RW, runF tbl n 35 (TV.los U av) (cs.map (TV.los U)) = some (q.lo U) ∧ k q = some r := by
  intro n ih av cs k h
  unfold ca35 at h
  split at h
  · simp only [Option.bind_eq_some_iff] at h
    obtain ⟨c0_, h0, p0, g0, p1, h1, p2, h2, h⟩ := h
    obtain rfl := dA_ok h0
    obtain rfl := dRecv_ok g0
    obtain rfl := dI_ok h1
    obtain rfl := dRuint8_ok h2
    cases n with
    | zero => cases h
    | succ n =>
      exact run2_ok UOk (ih n rfl) (f := fn35) rfl ((run35 capB n p0 p1 p2 k).symm.trans h)
  · cases h
theorem ok12 {R : Type} {r : R} : ∀ {n : Nat}, (∀ m, n = m + 1 → CallOk2 (R := R) U (callP capB m) (runF tbl m)) → ∀ {av : Fr} {cs : List Fr} {k : Ret2 RW → Option R}, ca12 capB n av cs k = some r → ∃ q : Ret2 RW, runF tbl n 12 (TV.los U av) (cs.map (TV.los U)) = some (q.lo U) ∧ k q = some r := by
  intro n ih av cs k h
  unfold ca12 at h
  split at h
  · simp only [Option.bind_eq_some_iff] at h
    obtain ⟨c0_, h0, p0, g0, c1_, h1, p1, g1, h⟩ := h
    obtain rfl := dA_ok h0
    obtain rfl := dRecv_ok g0
    obtain rfl := dA_ok h1
    obtain rfl := dSegment_ok g1
    cases n with
    | zero => cases h
    | succ n =>
      exact run2_ok UOk (ih n rfl) (f := fn12) rfl ((run12 capB n p0 p1 k).symm.trans h)
  · cases h
theorem ok17 {R : Type} {r : R} : ∀ {n : Nat}, (∀ m, n = m + 1 → CallOk2 (R := R) U (callP capB m) (runF tbl m)) → ∀ {av : Fr} {cs : List Fr} {k : Ret2 RW → Option R}, ca17 capB n av cs k = some r → ∃ q : Ret2 RW, runF tbl n 17 (TV.los U av) (cs.map (TV.los U)) = some (q.lo U) ∧ k q = some r := by
  intro n ih av cs k h
  unfold ca17 at h
  split at h
  · simp only [Option.bind_eq_some_iff] at h
    obtain ⟨p0, h0, p1, h1, p2, h2, p3, h3, p4, h4, p5, h5, h⟩ := h
    obtain rfl := dI_ok h0
    obtain rfl := dI_ok h1
    obtain rfl := dI_ok h2
    obtain rfl := dI_ok h3
    obtain rfl := dB_ok h4
    obtain rfl := dB_ok h5
    cases n with
    | zero => cases h
    | succ n =>
      exact run2_ok UOk (ih n rfl) (f := fn17) rfl ((run17 capB n p0 p1 p2 p3 p4 p5 k).symm.trans h)
  · cases h
theorem ok51 {R : Type} {r : R} : ∀ {n : Nat}, (∀ m, n = m + 1 → CallOk2 (R := R) U (callP capB m) (runF tbl m)) → ∀ {av : Fr} {cs : List Fr} {k : Ret2 RW → Option R}, ca51 capB n av cs k = some r → ∃ q : Ret2 RW, runF tbl n 51 (TV.los U av) (cs.map (TV.los U)) = some (q.lo U) ∧ k q = some r := by
  intro n ih av cs k h
  unfold ca51 at h
  split at h
  · simp only [Option.bind_eq_some_iff] at h
    obtain ⟨p0, h0, p1, h1, p2, h2, h⟩ := h
    obtain rfl := dI_ok h0
    obtain rfl := dI_ok h1
    obtain rfl := dI_ok h2
    cases n with
    | zero => cases h
    | succ n =>
      exact run2_ok UOk (ih n rfl) (f := fn51) rfl ((run51 capB n p0 p1 p2 k).symm.trans h)
  · cases h
theorem ok20 {R : Type} {r : R} : ∀ {n : Nat}, (∀ m, n = m + 1 → CallOk2 (R := R) U (callP capB m) (runF tbl m)) → ∀ {av : Fr} {cs : List Fr} {k : Ret2 RW → Option R}, ca20 capB n av cs k = some r → ∃ q : Ret2 RW, runF tbl n 20 (TV.los U av) (cs.map (TV.los U)) = some (q.lo U) ∧ k q = some r := by
  intro n ih av cs k h
  unfold ca20 at h
  split at h
  · simp only [Option.bind_eq_some_iff] at h
    obtain ⟨c0_, h0, p0, g0, p1, h1, h⟩ := h
    obtain rfl := dA_ok h0
    obtain rfl := dRecv_ok g0
    obtain rfl := dI_ok h1
    cases n with
    | zero => cases h
    | succ n =>
      exact run2_ok UOk (ih n rfl) (f := fn20) rfl ((run20 capB n p0 p1 k).symm.trans h)
  · cases h
theorem ok22 {R : Type} {r : R} : ∀ {n : Nat}, (∀ m, n = m + 1 → CallOk2 (R := R) U (callP capB m) (runF tbl m)) → ∀ {av : Fr} {cs : List Fr} {k : Ret2 RW → Option R}, ca22 capB n av cs k = some r → ∃ q : Ret2 RW, runF tbl n 22 (TV.los U av) (cs.map (TV.los U)) = some (q.lo U) ∧ k q = some r := by
  intro n ih av cs k h
  unfold ca22 at h
  split at h
  · simp only [Option.bind_eq_some_iff] at h
    obtain ⟨c0_, h0, p0, g0, h⟩ := h
    obtain rfl := dA_ok h0
    obtain rfl := dRecv_ok g0
    cases n with
    | zero => cases h
    | succ n =>
      exact run2_ok UOk (ih n rfl) (f := fn22) rfl ((run22 capB n p0 k).symm.trans h)
  · cases h
theorem ok11 {R : Type} {r : R} : ∀ {n : Nat}, (∀ m, n = m + 1 → CallOk2 (R := R) U (callP capB m) (runF tbl m)) → ∀ {av : Fr} {cs : List Fr} {k : Ret2 RW → Option R}, ca11 capB n av cs k = some r → ∃ q : Ret2 RW, runF tbl n 11 (TV.los U av) (cs.map (TV.los U)) = some (q.lo U) ∧ k q = some r := by
  intro n ih av cs k h
  unfold ca11 at h
  split at h
  · cases n with
    | zero => cases h
    | succ n =>
      exact run2_ok UOk (ih n rfl) (f := fn11) rfl ((run11 capB n  k).symm.trans h)
  · cases h
theorem ok21 {R : Type} {r : R} : ∀ {n : Nat}, (∀ m, n = m + 1 → CallOk2 (R := R) U (callP capB m) (runF tbl m)) → ∀ {av : Fr} {cs : List Fr} {k : Ret2 RW → Option R}, ca21 capB n av cs k = some r → ∃ q : Ret2 RW, runF tbl n 21 (TV.los U av) (cs.map (TV.los U)) = some (q.lo U) ∧ k q = some r := by
  intro n ih av cs k h
  unfold ca21 at h
  split at h
  · simp only [Option.bind_eq_some_iff] at h
    obtain ⟨p0, h0, p1, h1, h⟩ := h
    obtain rfl := dRuint8_ok h0
    obtain rfl := dRuint8_ok h1
    cases n with
    | zero => cases h
    | succ n =>
      exact run2_ok UOk (ih n rfl) (f := fn21) rfl ((run21 capB n p0 p1 k).symm.trans h)
  · cases h
theorem ok7 {R : Type} {r : R} : ∀ {n : Nat}, (∀ m, n = m + 1 → CallOk2 (R := R) U (callP capB m) (runF tbl m)) → ∀ {av : Fr} {cs : List Fr} {k : Ret2 RW → Option R}, ca7 capB n av cs k = some r → ∃ q : Ret2 RW, runF tbl n 7 (TV.los U av) (cs.map (TV.los U)) = some (q.lo U) ∧ k q = some r := by
  intro n ih av cs k h
  unfold ca7 at h
  split at h
  · simp only [Option.bind_eq_some_iff] at h
    obtain ⟨c0_, h0, p0, g0, c1_, h1, p1, g1, h⟩ := h
    obtain rfl := dA_ok h0
    obtain rfl := dRecv_ok g0
    obtain rfl := dA_ok h1
    obtain rfl := dSegment_ok g1
    cases n with
    | zero => cases h
    | succ n =>
      exact run2_ok UOk (ih n rfl) (f := fn7) rfl ((run7 capB n p0 p1 k).symm.trans h)
  · cases h
theorem callOk {R : Type} : ∀ n, CallOk2 (R := R) U (callP capB n) (runF tbl n)
  | n => fun id av cells k r h => by
    have ih : ∀ m, n = m + 1 → CallOk2 (R := R) U (callP capB m) (runF tbl m) := fun m e => callOk m
    unfold callP at h
    split at h
    · exact ok27 ih h
    · exact ok53 ih h
    · exact ok55 ih h
    · exact ok71 ih h
    · exact ok1008 ih h
    · exact ok1007 ih h
    · exact ok72 ih h
    · exact ok56 ih h
    · exact ok28 ih h
    · exact ok10 ih h
    · exact ok57 ih h
    · exact ok52 ih h
    · exact ok29 ih h
    · exact ok31 ih h
    · exact ok58 ih h
    · exact ok30 ih h
    · exact ok36 ih h
    · exact ok49 ih h
    · exact ok32 ih h
    · exact ok33 ih h
    · exact ok82 ih h
    · exact ok78 ih h
    · exact ok79 ih h
    · exact ok61 ih h
    · exact ok74 ih h
    · exact ok1029 ih h
    · exact ok1031 ih h
    · exact ok75 ih h
    · exact ok77 ih h
    · exact ok60 ih h
    · exact ok1027 ih h
    · exact ok34 ih h
    · exact ok1036 ih h
    · exact ok1035 ih h
    · exact ok35 ih h
    · exact ok12 ih h
    · exact ok17 ih h
    · exact ok51 ih h
    · exact ok20 ih h
    · exact ok22 ih h
    · exact ok11 ih h
    · exact ok21 ih h
    · exact ok7 ih h
    · cases h
termination_by n => n
decreasing_by omega
end
end Go.Proofs.Ytilmdmjhdidoiaa.M
