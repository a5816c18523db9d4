/- The machine's code of the functions, and that it computes them. -/
import Derived.Test.YtilmdmjhdidoiaaWG1a
import Derived.Test.YtilmdmjhdidoiaaProg
import Derived.KernelRfl
set_option maxRecDepth 100000
set_option linter.unusedVariables false
set_option linter.unusedSimpArgs false
namespace Go.Proofs.Ytilmdmjhdidoiaa.M
open Go
noncomputable section
variable {R : Type}
def fr61_39 (p1 : SSpan) (v102 : (List SSpan)) (v103 v104 : Int) (v129 : (List SSpan)) (v130 : Int) : FF := [dc, dc, dc, dc, (.hdr 2) :: ((eSpan p1) ++ ((.hdr 1) :: (.row true (.rSpan v129)) :: (.hdr 1) :: (tL v130) :: (dT 3 ((.hdr 1) :: (.row false (.rSpan v102)) :: (.hdr 2) :: (tL v103) :: (tL v104) :: (dT 1 []))))), dc]
theorem l61_40_t (cp : CP) (n : Nat) : ∀ (m : Nat) (p1 : SSpan) (v102 : (List SSpan)) (v103 v104 v105 v106 : Int) (v107 : (List SSpan)) (v108 : Int) (k : KX R), loopN2 (XI cp n (y61_6 cp n) i61_11) m (fr61_11 p1 v102 v103 v104 v105 v106 v107 v108) k = l61_40 cp n m p1 v102 v103 v104 v105 v106 v107 v108 (fun v129 v130 => k (.exit 0) (fr61_39 p1 v102 v103 v104 v129 v130))
  | 0, _, _, _, _, _, _, _, _, _ => rfl
  | m + 1, p1, v102, v103, v104, v105, v106, v107, v108, k => (loopN2_succ (XI cp n (y61_6 cp n) i61_11) m (fr61_11 p1 v102 v103 v104 v105 v106 v107 v108) k).trans ((s61_38_t cp n p1 v102 v103 v104 v105 v106 v107 v108 (loopT (XI cp n (y61_6 cp n) i61_11) m k)).trans ((show s61_38 cp n p1 v102 v103 v104 v105 v106 v107 v108 (fun v126 v127 v128 => loopT (XI cp n (y61_6 cp n) i61_11) m k .norm (fr61_37 p1 v102 v103 v104 v105 v126 v127 v128)) (loopT (XI cp n (y61_6 cp n) i61_11) m k (.exit 0) (fr61_12 p1 v102 v103 v104 v107 v108)) = s61_38 cp n p1 v102 v103 v104 v105 v106 v107 v108 (fun v126 v127 v128 => loopN2 (XI cp n (y61_6 cp n) i61_11) m (fr61_11 p1 v102 v103 v104 v105 v126 v127 v128) k) (k (.exit 0) (fr61_39 p1 v102 v103 v104 v107 v108)) from by kernel_rfl).trans (congrArg (fun q => s61_38 cp n p1 v102 v103 v104 v105 v106 v107 v108 q (k (.exit 0) (fr61_39 p1 v102 v103 v104 v107 v108))) (funext fun v126 => funext fun v127 => funext fun v128 => l61_40_t cp n m p1 v102 v103 v104 v105 v126 v127 v128 k))))
theorem s61_41_t (cp : CP) (n : Nat) (p1 : SSpan) (v102 : (List SSpan)) (v103 v104 v105 : Int) (k : KX R) : XI cp n (y61_6 cp n) i61_12 (fr61_9 p1 v102 v103 v104 v105) k = s61_41 cp n p1 v102 v103 v104 v105 (fun v129 v130 => k (.exit 0) (fr61_39 p1 v102 v103 v104 v129 v130)) := (show XI cp n (y61_6 cp n) i61_12 (fr61_9 p1 v102 v103 v104 v105) k = loopN2 (XI cp n (y61_6 cp n) i61_11) n (fr61_11 p1 v102 v103 v104 v105 0 [] p1.xFrom) k from by kernel_rfl).trans (l61_40_t cp n n p1 v102 v103 v104 v105 0 [] p1.xFrom k)
def fr61_42 (p1 : SSpan) (v102 : (List SSpan)) (v103 v104 : Int) (v131 : (List SSpan)) (v132 : Int) : FF := [dc, dc, dc, dc, (.hdr 2) :: ((eSpan p1) ++ ((.hdr 1) :: (.row true (.rSpan v131)) :: (.hdr 1) :: (tL v132) :: (dT 3 ((.hdr 1) :: (.row false (.rSpan v102)) :: (.hdr 2) :: (tL v103) :: (tL v104) :: (dT 1 []))))), dc]
theorem s61_43_t (cp : CP) (n : Nat) (p1 : SSpan) (v102 : (List SSpan)) (v103 v104 v105 : Int) (k : KX R) : XI cp n (y61_6 cp n) i61_13 (fr61_9 p1 v102 v103 v104 v105) k = s61_43 cp n p1 v102 v103 v104 v105 (fun v131 v132 => k .norm (fr61_42 p1 v102 v103 v104 v131 v132)) := (show XI cp n (y61_6 cp n) i61_13 (fr61_9 p1 v102 v103 v104 v105) k = XI cp n (y61_6 cp n) i61_12 (fr61_9 p1 v102 v103 v104 v105) (blkT 0 k) from by kernel_rfl).trans ((s61_41_t cp n p1 v102 v103 v104 v105 (blkT 0 k)).trans (by kernel_rfl))
def fr61_44 (p1 : SSpan) (v102 : (List SSpan)) (v103 v104 : Int) (v133 : (List SSpan)) (v134 : Int) : FF := [dc, dc, dc, dc, (.hdr 2) :: ((eSpan p1) ++ ((.hdr 1) :: (.row true (.rSpan v133)) :: (.hdr 1) :: (tL v134) :: (dT 3 ((.hdr 1) :: (.row false (.rSpan v102)) :: (.hdr 2) :: (tL v103) :: (tL v104) :: (dT 1 []))))), dc]
def fr61_46 (p1 : SSpan) (v102 : (List SSpan)) (v103 v104 : Int) : FF := [.yld :: (.ptr 74 0) :: (.ptr 76 0) :: (dT 13 []), dc, dc, dc, (.hdr 2) :: ((eSpan p1) ++ ((.hdr 1) :: (.row true (.rSpan [])) :: (.hdr 1) :: (tL p1.xFrom) :: (dT 3 ((.hdr 1) :: (.row false (.rSpan v102)) :: (.hdr 2) :: (tL v103) :: (tL v104) :: (dT 1 []))))), dc]
theorem s61_45_t (cp : CP) (n : Nat) (p1 : SSpan) (v102 : (List SSpan)) (v103 v104 : Int) (k : KX R) : XI cp n (y61_6 cp n) i61_3 (fr61_46 p1 v102 v103 v104) k = s61_45 cp n p1 v102 v103 v104 (fun v133 v134 => k .norm (fr61_44 p1 v102 v103 v104 v133 v134)) := ((fun c => (show XI cp n (y61_6 cp n) (.seq (.fin (.reg g61_1000) [1] []) c) (fr61_46 p1 v102 v103 v104) k = s61_8 cp n p1 v102 v103 v104 (fun v105 => XI cp n (y61_6 cp n) c (fr61_9 p1 v102 v103 v104 v105) k) from by kernel_rfl)) i61_13).trans (congrArg (fun q => s61_8 cp n p1 v102 v103 v104 q) (funext fun v105 => (s61_43_t cp n p1 v102 v103 v104 v105 k).trans (show s61_43 cp n p1 v102 v103 v104 v105 (fun v131 v132 => k .norm (fr61_42 p1 v102 v103 v104 v131 v132)) = s61_43 cp n p1 v102 v103 v104 v105 (fun v131 v132 => k .norm (fr61_44 p1 v102 v103 v104 v131 v132)) from by kernel_rfl)))
def fr61_47 (p1 : SSpan) (v135 : (List SSpan)) (v136 : Int) : FF := [dT 3 ((.ptr 64 0) :: (dT 1 ((.ptr 67 0) :: (.ptr 69 0) :: (dT 9 [])))), dc, dc, dc, (.hdr 2) :: ((eSpan p1) ++ ((.hdr 1) :: (.row true (.rSpan v135)) :: (.hdr 1) :: (tL v136) :: (dT 9 []))), dc]
theorem s61_48_t (cp : CP) (n : Nat) (p1 : SSpan) (v102 : (List SSpan)) (v103 v104 : Int) (k : KX R) : X cp n i61_14 (fr61_5 p1 v102 v103 v104) k = s61_48 cp n p1 v102 v103 v104 (fun v135 v136 => k .norm (fr61_47 p1 v135 v136)) := (show X cp n i61_14 (fr61_5 p1 v102 v103 v104) k = XI cp n (roundK2 4 [23] [64, 67, 69, 74, 76, 79, 82] (fr61_5 p1 v102 v103 v104) (X cp n i61_0) (X cp n i61_1)) i61_3 (fr61_46 p1 v102 v103 v104) (rfnT 4 (fr61_5 p1 v102 v103 v104) (clrT [22] [(74, 1), (76, 2)] k)) from rfn_eq (v := .clo 83 [(74, 0), (76, 0)]) (by kernel_rfl) (by kernel_rfl) (by kernel_rfl) _ _ _).trans ((congrArg (fun Y => XI cp n Y i61_3 (fr61_46 p1 v102 v103 v104) (rfnT 4 (fr61_5 p1 v102 v103 v104) (clrT [22] [(74, 1), (76, 2)] k))) ((rnd_eq 4 [23] [64, 67, 69, 74, 76, 79, 82] (fr61_5 p1 v102 v103 v104) i61_0 i61_1).trans (show rndT 4 [23] [64, 67, 69, 74, 76, 79, 82] (fr61_5 p1 v102 v103 v104) (X cp n i61_2) = (y61_6 cp n) from by kernel_rfl))).trans ((s61_45_t cp n p1 v102 v103 v104 (rfnT 4 (fr61_5 p1 v102 v103 v104) (clrT [22] [(74, 1), (76, 2)] k))).trans (by kernel_rfl)))
def fr61_49 (p1 : SSpan) (v137 : (List SSpan)) (v138 : Int) : FF := [dT 3 ((.ptr 64 0) :: (dT 1 ((.ptr 67 0) :: (.ptr 69 0) :: (dT 9 [])))), dc, dc, dc, (.hdr 2) :: ((eSpan p1) ++ ((.hdr 1) :: (.row true (.rSpan v137)) :: (.hdr 1) :: (tL v138) :: (dT 9 []))), dc]
theorem s61_50_t (cp : CP) (n : Nat) (p1 : SSpan) (v102 : (List SSpan)) (v103 v104 : Int) (k : KX R) : X cp n i61_15 (fr61_5 p1 v102 v103 v104) k = s61_50 cp n p1 v102 v103 v104 (fun v137 v138 => k .norm (fr61_49 p1 v137 v138)) := (show X cp n i61_15 (fr61_5 p1 v102 v103 v104) k = X cp n i61_14 (fr61_5 p1 v102 v103 v104) (blkT 0 k) from by kernel_rfl).trans ((s61_48_t cp n p1 v102 v103 v104 (blkT 0 k)).trans (by kernel_rfl))
def fr61_51 (p1 : SSpan) (v139 : (List SSpan)) (v140 : Int) : FF := [dT 3 ((.ptr 64 0) :: (dT 1 ((.ptr 67 0) :: (.ptr 69 0) :: (dT 9 [])))), dc, dc, dc, (.hdr 2) :: ((eSpan p1) ++ ((.hdr 1) :: (.row true (.rSpan v139)) :: (.hdr 1) :: (tL v140) :: (dT 9 []))), dc]
theorem s61_52_t (cp : CP) (n : Nat) (p0 : (List SSpan)) (p1 : SSpan) (k : KX R) : X cp n i61_16 (fr61_2 p0 p1) k = s61_52 cp n p0 p1 (fun v139 v140 => k .norm (fr61_51 p1 v139 v140)) := ((fun c => (show X cp n (.seq (.fin (.reg g61_5) [0, 20, 21] []) c) (fr61_2 p0 p1) k = s61_4 cp n p0 p1 (fun v102 v103 v104 => X cp n c (fr61_5 p1 v102 v103 v104) k) from by kernel_rfl)) i61_15).trans (congrArg (fun q => s61_4 cp n p0 p1 q) (funext fun v102 => funext fun v103 => funext fun v104 => (s61_50_t cp n p1 v102 v103 v104 k).trans (show s61_50 cp n p1 v102 v103 v104 (fun v137 v138 => k .norm (fr61_49 p1 v137 v138)) = s61_50 cp n p1 v102 v103 v104 (fun v137 v138 => k .norm (fr61_51 p1 v137 v138)) from by kernel_rfl)))
def fr61_54 (v141 : (List SSpan)) : FF := [dT 4 ((.row false (.rSpan v141)) :: (dT 11 [])), dc, dc, dc, dc, dc]
theorem s61_53_t (cp : CP) (n : Nat) (p1 : SSpan) (v139 : (List SSpan)) (v140 : Int) (k : KX R) : X cp n i61_17 (fr61_51 p1 v139 v140) k = s61_53 cp n p1 v139 v140 (fun v141 => k .ret (fr61_54 v141)) := by kernel_rfl
def fr61_55 (v142 : (List SSpan)) : FF := [dT 4 ((.row false (.rSpan v142)) :: (dT 11 [])), dc, dc, dc, dc, dc]
theorem s61_56_t (cp : CP) (n : Nat) (p0 : (List SSpan)) (p1 : SSpan) (k : KX R) : X cp n i61_18 (fr61_2 p0 p1) k = s61_56 cp n p0 p1 (fun v142 => k .ret (fr61_55 v142)) := (show X cp n i61_18 (fr61_2 p0 p1) k = X cp n i61_16 (fr61_2 p0 p1) (seqT (X cp n) i61_17 k) from by kernel_rfl).trans ((show X cp n i61_16 (fr61_2 p0 p1) (seqT (X cp n) i61_17 k) = s61_52 cp n p0 p1 (fun v139 v140 => X cp n i61_17 (fr61_51 p1 v139 v140) k) from (s61_52_t cp n p0 p1 (seqT (X cp n) i61_17 k)).trans (by kernel_rfl)).trans (congrArg (fun q => s61_52 cp n p0 p1 q) (funext fun v139 => funext fun v140 => (s61_53_t cp n p1 v139 v140 k).trans (show s61_53 cp n p1 v139 v140 (fun v141 => k .ret (fr61_54 v141)) = s61_53 cp n p1 v139 v140 (fun v141 => k .ret (fr61_55 v141)) from by kernel_rfl))))
def fr61_57 (v143 : (List SSpan)) : FF := [dT 4 ((.row false (.rSpan v143)) :: (dT 11 [])), dc, dc, dc, dc, dc]
def fr61_59 (p0 : (List SSpan)) (p1 : SSpan) : FF := [(.row false (.rSpan p0)) :: (.agg (eSpan p1)) :: (dT 14 []), dc, dc, dc, dc, dc]
theorem s61_58_t (cp : CP) (n : Nat) (p0 : (List SSpan)) (p1 : SSpan) (k : KX R) : X cp n i61_19 (fr61_59 p0 p1) k = s61_58 cp n p0 p1 (fun v143 => k .ret (fr61_57 v143)) := ((fun c => (show X cp n (.seq (.fin (.reg g61_0) [1, 4] []) (.seq (.seq (.fin (.reg g61_1) [8, 9, 10, 11, 12, 13, 14, 15, 16] []) (.fin (.cond (.s 17) (.seq (.fin (.reg g61_2) [0, 3, 17] [(64, 2)]) (.ret)) (.skip)) [17] [])) (.seq (.reg g61_3) (.seq (.fin (.reg g61_4) [18, 19] []) c)))) (fr61_59 p0 p1) k = s61_1 cp n p0 p1 (X cp n c (fr61_2 p0 p1) k) (k .ret (fr61_57 [])) from by kernel_rfl)) i61_18).trans (congrArg (fun q => s61_1 cp n p0 p1 q (k .ret (fr61_57 []))) ((s61_56_t cp n p0 p1 k).trans (show s61_56 cp n p0 p1 (fun v142 => k .ret (fr61_55 v142)) = s61_56 cp n p0 p1 (fun v142 => k .ret (fr61_57 v142)) from by kernel_rfl)))
theorem run61 (cp : CP) (n : Nat) (p0 : (List SSpan)) (p1 : SSpan) (k : Ret2 RW → Option R) : G61 cp (n + 1) p0 p1 (fun r0 => k ⟨.row false (.rSpan r0), [], []⟩) = run2 U cp (callP cp n) n fn61 [.row false (.rSpan p0), .agg (eSpan p1)] [] k := ((X_run (f := fn61) (av := [.row false (.rSpan p0), .agg (eSpan p1)]) (cells := []) (code := i61_19) (fr := (fr61_59 p0 p1)) (k := k) (by kernel_rfl) (fun K => by kernel_rfl)).trans ((s61_58_t cp n p0 p1 (finK2 fn61 k)).trans (by kernel_rfl))).symm
/-! tideway/recv.put$1 -/
theorem run74 (cp : CP) (n : Nat) (p0 : SPiece) (p1 : Int) (k : Ret2 RW → Option R) : G74 cp (n + 1) p0 p1 (fun r0 => k ⟨(tL r0), [], []⟩) = run2 U cp (callP cp n) n fn74 [.agg (ePiece p0), (tL p1)] [] k := by kernel_rfl
/-! slices.BinarySearchFunc[[]tideway/api.Piece,tideway/api.Piece,int] -/
def fr1032_2 (p0 : (List SPiece)) (p1 v147 : Int) : FF := [(.row false (.rPiece p0)) :: (tL p1) :: (.clo 74 []) :: (dT 5 ((tL v147) :: (tL 0) :: (tL v147) :: (dT 5 []))), dc, dc, dc]
def fr1032_4 (p0 : (List SPiece)) (p1 v147 v151 v152 : Int) : FF := [(.row false (.rPiece p0)) :: (tL p1) :: (.clo 74 []) :: (dT 5 ((tL v147) :: (tL v151) :: (tL v152) :: (dT 5 []))), dc, dc, dc]
def fr1032_5 (p0 : (List SPiece)) (p1 v147 v148 : Int) : FF := [(.row false (.rPiece p0)) :: (tL p1) :: (.clo 74 []) :: (dT 5 ((tL v147) :: (tL v148) :: (dT 6 []))), dc, dc, dc]
def fr1032_6 (p0 : (List SPiece)) (p1 v147 v148 v149 : Int) : FF := [(.row false (.rPiece p0)) :: (tL p1) :: (.clo 74 []) :: (dT 5 ((tL v147) :: (tL v148) :: (tL v149) :: (dT 5 []))), dc, dc, dc]
theorem s1032_3_t (cp : CP) (n : Nat) (p0 : (List SPiece)) (p1 v147 v148 v149 : Int) (k : KX R) : X cp n i1032_0 (fr1032_6 p0 p1 v147 v148 v149) k = s1032_3 cp n p0 p1 v147 v148 v149 (fun v151 v152 => k .norm (fr1032_4 p0 p1 v147 v151 v152)) (k (.exit 0) (fr1032_5 p0 p1 v147 v148)) := by kernel_rfl
def fr1032_7 (p0 : (List SPiece)) (p1 v147 v153 : Int) : FF := [(.row false (.rPiece p0)) :: (tL p1) :: (.clo 74 []) :: (dT 5 ((tL v147) :: (tL v153) :: (dT 6 []))), dc, dc, dc]
theorem l1032_8_t (cp : CP) (n : Nat) : ∀ (m : Nat) (p0 : (List SPiece)) (p1 v147 v148 v149 : Int) (k : KX R), loopN2 (X cp n i1032_0) m (fr1032_6 p0 p1 v147 v148 v149) k = l1032_8 cp n m p0 p1 v147 v148 v149 (fun v153 => k (.exit 0) (fr1032_7 p0 p1 v147 v153))
  | 0, _, _, _, _, _, _ => rfl
  | m + 1, p0, p1, v147, v148, v149, k => (loopN2_succ (X cp n i1032_0) m (fr1032_6 p0 p1 v147 v148 v149) k).trans ((s1032_3_t cp n p0 p1 v147 v148 v149 (loopT (X cp n i1032_0) m k)).trans ((show s1032_3 cp n p0 p1 v147 v148 v149 (fun v151 v152 => loopT (X cp n i1032_0) m k .norm (fr1032_4 p0 p1 v147 v151 v152)) (loopT (X cp n i1032_0) m k (.exit 0) (fr1032_5 p0 p1 v147 v148)) = s1032_3 cp n p0 p1 v147 v148 v149 (fun v151 v152 => loopN2 (X cp n i1032_0) m (fr1032_6 p0 p1 v147 v151 v152) k) (k (.exit 0) (fr1032_7 p0 p1 v147 v148)) from by kernel_rfl).trans (congrArg (fun q => s1032_3 cp n p0 p1 v147 v148 v149 q (k (.exit 0) (fr1032_7 p0 p1 v147 v148))) (funext fun v151 => funext fun v152 => l1032_8_t cp n m p0 p1 v147 v151 v152 k))))
theorem s1032_9_t (cp : CP) (n : Nat) (p0 : (List SPiece)) (p1 v147 : Int) (k : KX R) : X cp n i1032_1 (fr1032_2 p0 p1 v147) k = s1032_9 cp n p0 p1 v147 (fun v153 => k (.exit 0) (fr1032_7 p0 p1 v147 v153)) := (show X cp n i1032_1 (fr1032_2 p0 p1 v147) k = loopN2 (X cp n i1032_0) n (fr1032_6 p0 p1 v147 0 v147) k from by kernel_rfl).trans (l1032_8_t cp n n p0 p1 v147 0 v147 k)
def fr1032_10 (p0 : (List SPiece)) (p1 v147 v154 : Int) : FF := [(.row false (.rPiece p0)) :: (tL p1) :: (.clo 74 []) :: (dT 5 ((tL v147) :: (tL v154) :: (dT 6 []))), dc, dc, dc]
theorem s1032_11_t (cp : CP) (n : Nat) (p0 : (List SPiece)) (p1 v147 : Int) (k : KX R) : X cp n i1032_2 (fr1032_2 p0 p1 v147) k = s1032_11 cp n p0 p1 v147 (fun v154 => k .norm (fr1032_10 p0 p1 v147 v154)) := (show X cp n i1032_2 (fr1032_2 p0 p1 v147) k = X cp n i1032_1 (fr1032_2 p0 p1 v147) (blkT 0 k) from by kernel_rfl).trans ((s1032_9_t cp n p0 p1 v147 (blkT 0 k)).trans (by kernel_rfl))
def fr1032_13 (v154 : Int) (v156 : Bool) : FF := [dT 6 ((tL v154) :: (tB v156) :: (dT 8 [])), dc, dc, dc]
theorem s1032_12_t (cp : CP) (n : Nat) (p0 : (List SPiece)) (p1 v147 v154 : Int) (k : KX R) : X cp n i1032_3 (fr1032_10 p0 p1 v147 v154) k = s1032_12 cp n p0 p1 v147 v154 (fun v156 => k .ret (fr1032_13 v154 v156)) := by kernel_rfl
def fr1032_14 (v157 : Int) (v158 : Bool) : FF := [dT 6 ((tL v157) :: (tB v158) :: (dT 8 [])), dc, dc, dc]
theorem s1032_15_t (cp : CP) (n : Nat) (p0 : (List SPiece)) (p1 v147 : Int) (k : KX R) : X cp n i1032_4 (fr1032_2 p0 p1 v147) k = s1032_15 cp n p0 p1 v147 (fun v157 v158 => k .ret (fr1032_14 v157 v158)) := (show X cp n i1032_4 (fr1032_2 p0 p1 v147) k = X cp n i1032_2 (fr1032_2 p0 p1 v147) (seqT (X cp n) i1032_3 k) from by kernel_rfl).trans ((show X cp n i1032_2 (fr1032_2 p0 p1 v147) (seqT (X cp n) i1032_3 k) = s1032_11 cp n p0 p1 v147 (fun v154 => X cp n i1032_3 (fr1032_10 p0 p1 v147 v154) k) from (s1032_11_t cp n p0 p1 v147 (seqT (X cp n) i1032_3 k)).trans (by kernel_rfl)).trans (congrArg (fun q => s1032_11 cp n p0 p1 v147 q) (funext fun v154 => (s1032_12_t cp n p0 p1 v147 v154 k).trans (show s1032_12 cp n p0 p1 v147 v154 (fun v156 => k .ret (fr1032_13 v154 v156)) = s1032_12 cp n p0 p1 v147 v154 (fun v156 => k .ret (fr1032_14 v154 v156)) from by kernel_rfl))))
def fr1032_16 (v159 : Int) (v160 : Bool) : FF := [dT 6 ((tL v159) :: (tB v160) :: (dT 8 [])), dc, dc, dc]
def fr1032_18 (p0 : (List SPiece)) (p1 : Int) : FF := [(.row false (.rPiece p0)) :: (tL p1) :: (.clo 74 []) :: (dT 13 []), dc, dc, dc]
theorem s1032_17_t (cp : CP) (n : Nat) (p0 : (List SPiece)) (p1 : Int) (k : KX R) : X cp n i1032_5 (fr1032_18 p0 p1) k = s1032_17 cp n p0 p1 (fun v159 v160 => k .ret (fr1032_16 v159 v160)) := ((fun c => (show X cp n (.seq (.fin (.reg g1032_0) [6, 7] []) (.seq (.fin (.reg g1032_1) [12, 13] []) (.seq (.fin (.reg g1032_2) [14] []) c))) (fr1032_18 p0 p1) k = s1032_1 cp n p0 p1 (fun v147 => X cp n c (fr1032_2 p0 p1 v147) k) from by kernel_rfl)) i1032_4).trans (congrArg (fun q => s1032_1 cp n p0 p1 q) (funext fun v147 => (s1032_15_t cp n p0 p1 v147 k).trans (show s1032_15 cp n p0 p1 v147 (fun v157 v158 => k .ret (fr1032_14 v157 v158)) = s1032_15 cp n p0 p1 v147 (fun v157 v158 => k .ret (fr1032_16 v157 v158)) from by kernel_rfl)))
theorem run1032 (cp : CP) (n : Nat) (p0 : (List SPiece)) (p1 : Int) (k : Ret2 RW → Option R) : G1032 cp (n + 1) p0 p1 (fun r0 r1 => k ⟨.tup [(tL r0), (tB r1)], [], []⟩) = run2 U cp (callP cp n) n fn1032 [.row false (.rPiece p0), (tL p1), .clo 74 []] [] k := ((X_run (f := fn1032) (av := [.row false (.rPiece p0), (tL p1), .clo 74 []]) (cells := []) (code := i1032_5) (fr := (fr1032_18 p0 p1)) (k := k) (by kernel_rfl) (fun K => by kernel_rfl)).trans ((s1032_17_t cp n p0 p1 (finK2 fn1032 k)).trans (by kernel_rfl))).symm
/-! slices.Clip[[]byte,byte] -/
theorem run77 (cp : CP) (n : Nat) (p0 : (List Int)) (k : Ret2 RW → Option R) : G77 cp (n + 1) p0 (fun r0 => k ⟨.row true (.ruint8 r0), [], []⟩) = run2 U cp (callP cp n) n fn77 [.row false (.ruint8 p0)] [] k := by kernel_rfl
/-! tideway/recv.put -/
def fr60_2 (v178 : (List SPiece)) : FF := [(.row true (.rPiece v178)) :: (dT 6 ((.un none (.rPiece [])) :: (dT 8 []))), dc, dc, dc, dc]
def fr60_4 (v178 : (List SPiece)) (v179 : Int) : FF := [dT 7 ((.un none (.rPiece [])) :: (dT 8 [])), dT 13 ([.row false (.rPiece v178), (tL v179), (tL 0)]), dc, dc, dc]
def fr60_6 (v178 : (List SPiece)) (v179 : Int) (v184 : (List SPiece)) (v185 : Int) : FF := [dT 7 ((.un none (.rPiece v184)) :: (dT 8 [])), dT 13 ([.row false (.rPiece v178), (tL v179), (tL v185)]), dc, dc, dc]
def fr60_7 (v180 : (List SPiece)) : FF := [dT 7 ((.un none (.rPiece v180)) :: (dT 8 [])), dc, dc, dc, dc]
def fr60_8 (v178 : (List SPiece)) (v179 : Int) (v180 : (List SPiece)) (v181 : Int) : FF := [dT 7 ((.un none (.rPiece v180)) :: (dT 8 [])), dT 13 ([.row false (.rPiece v178), (tL v179), (tL v181)]), dc, dc, dc]
theorem s60_5_t (cp : CP) (n : Nat) (v178 : (List SPiece)) (v179 : Int) (v180 : (List SPiece)) (v181 : Int) (k : KX R) : X cp n i60_0 (fr60_8 v178 v179 v180 v181) k = s60_5 cp n v178 v179 v180 v181 (fun v184 v185 => k .norm (fr60_6 v178 v179 v184 v185)) (k (.exit 0) (fr60_7 v180)) := by kernel_rfl
def fr60_9 (v186 : (List SPiece)) : FF := [dT 7 ((.un none (.rPiece v186)) :: (dT 8 [])), dc, dc, dc, dc]
theorem l60_10_t (cp : CP) (n : Nat) : ∀ (m : Nat) (v178 : (List SPiece)) (v179 : Int) (v180 : (List SPiece)) (v181 : Int) (k : KX R), loopN2 (X cp n i60_0) m (fr60_8 v178 v179 v180 v181) k = l60_10 cp n m v178 v179 v180 v181 (fun v186 => k (.exit 0) (fr60_9 v186))
  | 0, _, _, _, _, _ => rfl
  | m + 1, v178, v179, v180, v181, k => (loopN2_succ (X cp n i60_0) m (fr60_8 v178 v179 v180 v181) k).trans ((s60_5_t cp n v178 v179 v180 v181 (loopT (X cp n i60_0) m k)).trans ((show s60_5 cp n v178 v179 v180 v181 (fun v184 v185 => loopT (X cp n i60_0) m k .norm (fr60_6 v178 v179 v184 v185)) (loopT (X cp n i60_0) m k (.exit 0) (fr60_7 v180)) = s60_5 cp n v178 v179 v180 v181 (fun v184 v185 => loopN2 (X cp n i60_0) m (fr60_8 v178 v179 v184 v185) k) (k (.exit 0) (fr60_9 v180)) from by kernel_rfl).trans (congrArg (fun q => s60_5 cp n v178 v179 v180 v181 q (k (.exit 0) (fr60_9 v180))) (funext fun v184 => funext fun v185 => l60_10_t cp n m v178 v179 v184 v185 k))))
theorem s60_11_t (cp : CP) (n : Nat) (v178 : (List SPiece)) (v179 : Int) (k : KX R) : X cp n i60_1 (fr60_4 v178 v179) k = s60_11 cp n v178 v179 (fun v186 => k (.exit 0) (fr60_9 v186)) := (show X cp n i60_1 (fr60_4 v178 v179) k = loopN2 (X cp n i60_0) n (fr60_8 v178 v179 [] 0) k from by kernel_rfl).trans (l60_10_t cp n n v178 v179 [] 0 k)
def fr60_12 (v187 : (List SPiece)) : FF := [dT 7 ((.un none (.rPiece v187)) :: (dT 8 [])), dc, dc, dc, dc]
theorem s60_13_t (cp : CP) (n : Nat) (v178 : (List SPiece)) (v179 : Int) (k : KX R) : X cp n i60_2 (fr60_4 v178 v179) k = s60_13 cp n v178 v179 (fun v187 => k .norm (fr60_12 v187)) := (show X cp n i60_2 (fr60_4 v178 v179) k = X cp n i60_1 (fr60_4 v178 v179) (blkT 0 k) from by kernel_rfl).trans ((s60_11_t cp n v178 v179 (blkT 0 k)).trans (by kernel_rfl))
def fr60_14 (v188 : (List SPiece)) : FF := [dT 7 ((.un none (.rPiece v188)) :: (dT 8 [])), dc, dc, dc, dc]
theorem s60_15_t (cp : CP) (n : Nat) (v178 : (List SPiece)) (k : KX R) : X cp n i60_3 (fr60_2 v178) k = s60_15 cp n v178 (fun v188 => k .norm (fr60_14 v188)) := ((fun c => (show X cp n (.seq (.fin (.reg g60_4) [0] []) c) (fr60_2 v178) k = s60_3 cp n v178 (fun v179 => X cp n c (fr60_4 v178 v179) k) from by kernel_rfl)) i60_2).trans (congrArg (fun q => s60_3 cp n v178 q) (funext fun v179 => (s60_13_t cp n v178 v179 k).trans (show s60_13 cp n v178 v179 (fun v187 => k .norm (fr60_12 v187)) = s60_13 cp n v178 v179 (fun v187 => k .norm (fr60_14 v187)) from by kernel_rfl)))
def fr60_17 (v188 : (List SPiece)) : FF := [dT 4 ((.row true (.rPiece v188)) :: (dT 11 [])), dc, dc, dc, dc]
theorem s60_16_t (cp : CP) (n : Nat) (v188 : (List SPiece)) (k : KX R) : X cp n i60_4 (fr60_14 v188) k = s60_16 cp n v188 (k .ret (fr60_17 v188)) := by kernel_rfl
def fr60_18 (v189 : (List SPiece)) : FF := [dT 4 ((.row true (.rPiece v189)) :: (dT 11 [])), dc, dc, dc, dc]
theorem s60_19_t (cp : CP) (n : Nat) (v178 : (List SPiece)) (k : KX R) : X cp n i60_5 (fr60_2 v178) k = s60_19 cp n v178 (fun v189 => k .ret (fr60_18 v189)) := (show X cp n i60_5 (fr60_2 v178) k = X cp n i60_3 (fr60_2 v178) (seqT (X cp n) i60_4 k) from by kernel_rfl).trans ((show X cp n i60_3 (fr60_2 v178) (seqT (X cp n) i60_4 k) = s60_15 cp n v178 (fun v188 => X cp n i60_4 (fr60_14 v188) k) from (s60_15_t cp n v178 (seqT (X cp n) i60_4 k)).trans (by kernel_rfl)).trans (congrArg (fun q => s60_15 cp n v178 q) (funext fun v188 => (s60_16_t cp n v188 k).trans (show s60_16 cp n v188 (k .ret (fr60_17 v188)) = s60_16 cp n v188 (k .ret (fr60_18 v188)) from by kernel_rfl))))
def fr60_20 (v190 : (List SPiece)) : FF := [dT 4 ((.row true (.rPiece v190)) :: (dT 11 [])), dc, dc, dc, dc]
def fr60_22 (p0 : (List SPiece)) (p1 : SPiece) : FF := [(.row false (.rPiece p0)) :: (.agg (ePiece p1)) :: (dT 14 []), dc, dc, dc, dc]
theorem s60_21_t (cp : CP) (n : Nat) (p0 : (List SPiece)) (p1 : SPiece) (k : KX R) : X cp n i60_6 (fr60_22 p0 p1) k = s60_21 cp n p0 p1 (fun v190 => k .ret (fr60_20 v190)) := ((fun c => (show X cp n (.seq (.fin (.reg g60_0) [1, 4] []) (.seq (.fin (.reg g60_1) [6, 11, 12, 13, 14, 15, 16, 17] []) (.seq (.fin (.reg g60_2) [3, 5, 18, 19, 20, 21, 22, 23, 24, 25, 26, 27, 28] [(72, 2)]) (.seq (.reg g60_3) (.seq (.skip) c))))) (fr60_22 p0 p1) k = s60_1 cp n p0 p1 (fun v178 => X cp n c (fr60_2 v178) k) from by kernel_rfl)) i60_5).trans (congrArg (fun q => s60_1 cp n p0 p1 q) (funext fun v178 => (s60_19_t cp n v178 k).trans (show s60_19 cp n v178 (fun v189 => k .ret (fr60_18 v189)) = s60_19 cp n v178 (fun v189 => k .ret (fr60_20 v189)) from by kernel_rfl)))
theorem run60 (cp : CP) (n : Nat) (p0 : (List SPiece)) (p1 : SPiece) (k : Ret2 RW → Option R) : G60 cp (n + 1) p0 p1 (fun r0 => k ⟨.row true (.rPiece r0), [], []⟩) = run2 U cp (callP cp n) n fn60 [.row false (.rPiece p0), .agg (ePiece p1)] [] k := ((X_run (f := fn60) (av := [.row false (.rPiece p0), .agg (ePiece p1)]) (cells := []) (code := i60_6) (fr := (fr60_22 p0 p1)) (k := k) (by kernel_rfl) (fun K => by kernel_rfl)).trans ((s60_21_t cp n p0 p1 (finK2 fn60 k)).trans (by kernel_rfl))).symm
/-! tideway/recv.take$1 -/
theorem run1030 (cp : CP) (n : Nat) (p0 : SSpan) (q0 : SRecv) (q1 : Int) (q2 : (List Int)) (q3 : Bool) (k : Ret2 RW → Option R) : G1030 cp (n + 1) p0 q0 q1 q2 q3 (fun r0 r1 r2 r3 => k ⟨.tup [], [(eRecvt r0), [(tL r1)], [.row false (.ruint8 r2)], [(tB r3)]], []⟩) = run2 U cp (callP cp n) n fn1030 [.agg (eSpan p0), .ptr 43 0, .ptr 23 0, .ptr 41 0, .ptr 39 0] [(eRecvt q0), [(tL q1)], [.row false (.ruint8 q2)], [(tB q3)]] k := by kernel_rfl
/-! tideway/recv.take -/
def fr34_2 (p0 : SRecv) (p1 : Int) (p2 : (List Int)) (v175 : Int) : FF := [dT 3 ((.ptr 112 0) :: (.ptr 128 0) :: (.ptr 130 0) :: (.ptr 132 0) :: (dT 1 ((tL v175) :: (.ptr 148 0) :: (dT 6 [])))), dc, dc, dc, dc, dc, dc, (.hdr 15) :: (eRecvt p0), [.hdr 1, (tL p1), .hdr 1, .row false (.ruint8 p2), .hdr 15, (tL 0), .row true (.ruint8 []), .row true (.rPiece []), (tL 0), (tL 0), (tL 0), (tI .u32 0), (tB false), (tB false), (tL 0), (tB false)], (.row true (.rSpan [])) :: (tI .u32 0) :: (tI .u32 0) :: (tB false) :: (.hdr 1) :: (.row true (.rSpan [])) :: (dT 10 []), dc, dc]
def fr34_4 (p0 : SRecv) (p1 : Int) (p2 : (List Int)) (v175 : Int) (v177 : SRecv) : FF := [dT 3 ((.ptr 112 0) :: (.ptr 128 0) :: (.ptr 130 0) :: (.ptr 132 0) :: (dT 1 ((tL v175) :: (.ptr 148 0) :: (dT 6 [])))), dT 15 ([.clo 70 [(158, 0)]]), dc, dc, dc, dc, dc, (.hdr 15) :: (eRecvt p0), [.hdr 1, (tL p1), .hdr 1, .row false (.ruint8 p2), .hdr 15, (tL 0), .row true (.ruint8 []), .row true (.rPiece []), (tL 0), (tL 0), (tL 0), (tI .u32 0), (tB false), (tB false), (tL 0), (tB false)], (.row true (.rSpan [])) :: (tI .u32 0) :: (tI .u32 0) :: (tB false) :: (.hdr 1) :: (.row true (.rSpan [])) :: (dT 8 ((.hdr 15) :: (sl 0 1 (eRecv v177)))), sl 1 14 (eRecv v177) ++ (dT 2 []), dc]
def fr34_6 (v175 : Int) : FF := [dT 3 ((.ptr 112 0) :: (.ptr 128 0) :: (.ptr 130 0) :: (.ptr 132 0) :: (dT 1 ((tL v175) :: (.ptr 148 0) :: (dT 6 [])))), dT 15 ([.clo 70 [(158, 0)]]), dc, dc, dc, dc, dc, dc, dc, dc, dc, dc]
def y34_5 (cp : CP) (n : Nat) (v175 : Int) : List (TV RW) → FF → (FF → Option R) → Option R := rndT 7 [32] [112, 128, 130, 132, 148, 158, 174] (fr34_6 v175) (X cp n i34_2)
def fr34_8 (p0 : SRecv) (p1 : Int) (p2 : (List Int)) (v175 : Int) (v177 : SRecv) (v178 : Int) : FF := [.yld :: (dT 5 ((.row false (.rPiece v177.xLate)) :: (tL v178) :: (tL 0) :: (dT 7 []))), dc, dc, dc, dc, dc, dc, (.hdr 15) :: (eRecvt p0), [.hdr 1, (tL p1), .hdr 1, .row false (.ruint8 p2), .hdr 15, (tL 0), .row true (.ruint8 []), .row true (.rPiece []), (tL 0), (tL 0), (tL 0), (tI .u32 0), (tB false), (tB false), (tL 0), (tB false)], (.row true (.rSpan [])) :: (tI .u32 0) :: (tI .u32 0) :: (tB false) :: (.hdr 1) :: (.row true (.rSpan [])) :: (dT 8 ((.hdr 15) :: (sl 0 1 (eRecv v177)))), sl 1 14 (eRecv v177) ++ (dT 2 []), dc]
def fr34_10 (p0 : SRecv) (p1 : Int) (p2 : (List Int)) (v175 : Int) (v177 : SRecv) (v178 v179 : Int) (v180 : (List SSpan)) : FF := [.yld :: (dT 5 ((.row false (.rPiece v177.xLate)) :: (tL v178) :: (tL v179) :: (dT 7 []))), dc, dc, dc, dc, dc, dc, (.hdr 15) :: (eRecvt p0), [.hdr 1, (tL p1), .hdr 1, .row false (.ruint8 p2), .hdr 15, (tL 0), .row true (.ruint8 []), .row true (.rPiece []), (tL 0), (tL 0), (tL 0), (tI .u32 0), (tB false), (tB false), (tL 0), (tB false)], (.row true (.rSpan [])) :: (tI .u32 0) :: (tI .u32 0) :: (tB false) :: (.hdr 1) :: (.row true (.rSpan v180)) :: (dT 8 ((.hdr 15) :: (sl 0 1 (eRecv v177)))), sl 1 14 (eRecv v177) ++ (dT 2 []), dc]
def fr34_11 (p0 : SRecv) (p1 : Int) (p2 : (List Int)) (v175 : Int) (v177 : SRecv) (v180 : (List SSpan)) : FF := [dc, dc, dc, dc, dc, dc, dc, (.hdr 15) :: (eRecvt p0), [.hdr 1, (tL p1), .hdr 1, .row false (.ruint8 p2), .hdr 15, (tL 0), .row true (.ruint8 []), .row true (.rPiece []), (tL 0), (tL 0), (tL 0), (tI .u32 0), (tB false), (tB false), (tL 0), (tB false)], (.row true (.rSpan [])) :: (tI .u32 0) :: (tI .u32 0) :: (tB false) :: (.hdr 1) :: (.row true (.rSpan v180)) :: (dT 8 ((.hdr 15) :: (sl 0 1 (eRecv v177)))), sl 1 14 (eRecv v177) ++ (dT 2 []), dc]
def fr34_13 (p0 : SRecv) (p1 : Int) (p2 : (List Int)) (v175 : Int) (v177 : SRecv) (v178 v179 : Int) (v180 : (List SSpan)) (v181 : Int) (v182 : (List Int)) : FF := [.yld :: (dT 3 ((.ptr 174 0) :: (dT 1 ((.row false (.rPiece v177.xLate)) :: (tL v178) :: (tL v179) :: (dT 7 []))))), dc, dc, dc, dc, dc, dc, (.hdr 15) :: (eRecvt p0), [.hdr 1, (tL p1), .hdr 1, .row false (.ruint8 p2), .hdr 15, (tL 0), .row true (.ruint8 []), .row true (.rPiece []), (tL 0), (tL 0), (tL 0), (tI .u32 0), (tB false), (tB false), (tL 0), (tB false)], (.row true (.rSpan [])) :: (tI .u32 0) :: (tI .u32 0) :: (tB false) :: (.hdr 1) :: (.row true (.rSpan v180)) :: (dT 8 ((.hdr 15) :: (sl 0 1 (eRecv v177)))), sl 1 14 (eRecv v177) ++ [.hdr 2, (tL v181)], (.row false (.ruint8 v182)) :: (dT 15 [])]
def fr34_15 (p0 : SRecv) (p1 : Int) (p2 : (List Int)) (v175 : Int) (v177 : SRecv) (v178 v179 : Int) (v180 : (List SSpan)) (v181 : Int) (v182 : (List Int)) (v184 v185 : Int) : FF := [.yld :: (dT 3 ((.ptr 174 0) :: (dT 1 ((.row false (.rPiece v177.xLate)) :: (tL v178) :: (tL v179) :: (dT 3 (.yld :: (.agg [(tL v181), .row false (.ruint8 v182)]) :: (.agg [(tL v184), (tL v185)]) :: (dT 1 []))))))), dc, dc, dc, dc, dc, dc, (.hdr 15) :: (eRecvt p0), [.hdr 1, (tL p1), .hdr 1, .row false (.ruint8 p2), .hdr 15, (tL 0), .row true (.ruint8 []), .row true (.rPiece []), (tL 0), (tL 0), (tL 0), (tI .u32 0), (tB false), (tB false), (tL 0), (tB false)], (.row true (.rSpan [])) :: (tI .u32 0) :: (tI .u32 0) :: (tB false) :: (.hdr 1) :: (.row true (.rSpan v180)) :: (dT 8 ((.hdr 15) :: (sl 0 1 (eRecv v177)))), sl 1 14 (eRecv v177) ++ [.hdr 2, (tL v181)], (.row false (.ruint8 v182)) :: (dT 15 [])]
theorem s34_14_t (cp : CP) (n : Nat) (p0 : SRecv) (p1 : Int) (p2 : (List Int)) (v175 : Int) (v177 : SRecv) (v178 v179 : Int) (v180 : (List SSpan)) (v181 : Int) (v182 : (List Int)) (A B : FF → Option R) : (gF (fr34_13 p0 p1 p2 v175 v177 v178 v179 v180 v181 v182) fun l => steps2 U cp (callP cp n) g34_10031 l fun l1 => yGuard2 none l1 (A l1) (B l1)) = s34_14 cp n p0 p1 p2 v175 v177 v178 v179 v180 v181 v182 (fun v184 v185 => A (fr34_15 p0 p1 p2 v175 v177 v178 v179 v180 v181 v182 v184 v185)) := by kernel_rfl
def fr34_17 (p0 : SRecv) (p1 : Int) (p2 : (List Int)) (v175 : Int) (v177 : SRecv) (v181 : Int) (v182 : (List Int)) (v186 : (List SSpan)) : FF := [dT 3 ((.ptr 112 0) :: (.ptr 128 0) :: (.ptr 130 0) :: (.ptr 132 0) :: (dT 1 ((tL v175) :: (.ptr 148 0) :: (dT 6 [])))), dT 15 ([.clo 70 [(158, 0)]]), dc, dc, dc, dc, dc, (.hdr 15) :: (eRecvt p0), [.hdr 1, (tL p1), .hdr 1, .row false (.ruint8 p2), .hdr 15, (tL 0), .row true (.ruint8 []), .row true (.rPiece []), (tL 0), (tL 0), (tL 0), (tI .u32 0), (tB false), (tB false), (tL 0), (tB false)], (.row true (.rSpan [])) :: (tI .u32 0) :: (tI .u32 0) :: (tB false) :: (.hdr 1) :: (.row true (.rSpan v186)) :: (dT 8 ((.hdr 15) :: (sl 0 1 (eRecv v177)))), sl 1 14 (eRecv v177) ++ [.hdr 2, (tL v181)], (.row false (.ruint8 v182)) :: (dT 15 [])]
def fr34_18 (p0 : SRecv) (p1 : Int) (p2 : (List Int)) (v175 : Int) (v177 : SRecv) (v180 : (List SSpan)) (v181 : Int) (v182 : (List Int)) (v184 v185 : Int) : FF := [dT 3 ((.ptr 112 0) :: (.ptr 128 0) :: (.ptr 130 0) :: (.ptr 132 0) :: (dT 1 ((tL v175) :: (.ptr 148 0) :: (dT 6 [])))), dT 15 ([.clo 70 [(158, 0)]]), (.agg [(tL v184), (tL v185)]) :: (dT 15 []), dc, dc, dc, dc, (.hdr 15) :: (eRecvt p0), [.hdr 1, (tL p1), .hdr 1, .row false (.ruint8 p2), .hdr 15, (tL 0), .row true (.ruint8 []), .row true (.rPiece []), (tL 0), (tL 0), (tL 0), (tI .u32 0), (tB false), (tB false), (tL 0), (tB false)], (.row true (.rSpan [])) :: (tI .u32 0) :: (tI .u32 0) :: (tB false) :: (.hdr 1) :: (.row true (.rSpan v180)) :: (dT 8 ((.hdr 15) :: (sl 0 1 (eRecv v177)))), sl 1 14 (eRecv v177) ++ [.hdr 2, (tL v181)], (.row false (.ruint8 v182)) :: (dT 15 [])]
theorem s34_16_t (cp : CP) (n : Nat) (p0 : SRecv) (p1 : Int) (p2 : (List Int)) (v175 : Int) (v177 : SRecv) (v180 : (List SSpan)) (v181 : Int) (v182 : (List Int)) (v184 v185 : Int) (k : KX R) : X cp n i34_2 (fr34_18 p0 p1 p2 v175 v177 v180 v181 v182 v184 v185) k = s34_16 cp n p0 p1 p2 v175 v177 v180 v181 v182 v184 v185 (fun v186 => k .norm (fr34_17 p0 p1 p2 v175 v177 v181 v182 v186)) := by kernel_rfl
def fr34_20 (p0 : SRecv) (p1 : Int) (p2 : (List Int)) (v175 : Int) (v177 : SRecv) (v178 v179 v181 : Int) (v182 : (List Int)) (v184 v185 : Int) (v186 : (List SSpan)) : FF := [.yld :: (dT 3 ((.ptr 174 0) :: (dT 1 ((.row false (.rPiece v177.xLate)) :: (tL v178) :: (tL v179) :: (dT 3 ([.yld, .agg [(tL v181), .row false (.ruint8 v182)], .agg [(tL v184), (tL v185)], (tB true)])))))), dc, dc, dc, dc, dc, dc, (.hdr 15) :: (eRecvt p0), [.hdr 1, (tL p1), .hdr 1, .row false (.ruint8 p2), .hdr 15, (tL 0), .row true (.ruint8 []), .row true (.rPiece []), (tL 0), (tL 0), (tL 0), (tI .u32 0), (tB false), (tB false), (tL 0), (tB false)], (.row true (.rSpan [])) :: (tI .u32 0) :: (tI .u32 0) :: (tB false) :: (.hdr 1) :: (.row true (.rSpan v186)) :: (dT 8 ((.hdr 15) :: (sl 0 1 (eRecv v177)))), sl 1 14 (eRecv v177) ++ [.hdr 2, (tL v181)], (.row false (.ruint8 v182)) :: (dT 15 [])]
theorem q34_19_t (cp : CP) (n : Nat) (p0 : SRecv) (p1 : Int) (p2 : (List Int)) (v175 : Int) (v177 : SRecv) (v178 v179 : Int) (v180 : (List SSpan)) (v181 : Int) (v182 : (List Int)) (v184 v185 : Int) (K : FF → Option R) : yRun2 (y34_5 cp n v175) (.s 12) [.s 14] 15 (fr34_15 p0 p1 p2 v175 v177 v178 v179 v180 v181 v182 v184 v185) K = s34_16 cp n p0 p1 p2 v175 v177 v180 v181 v182 v184 v185 (fun v186 => K (fr34_20 p0 p1 p2 v175 v177 v178 v179 v181 v182 v184 v185 v186)) := ((fun x => (show yRun2 (rndT 7 [32] [112, 128, 130, 132, 148, 158, 174] (fr34_6 v175) x) (.s 12) [.s 14] 15 (fr34_15 p0 p1 p2 v175 v177 v178 v179 v180 v181 v182 v184 v185) K = x (fr34_18 p0 p1 p2 v175 v177 v180 v181 v182 v184 v185) (roundT 7 (fr34_15 p0 p1 p2 v175 v177 v178 v179 v180 v181 v182 v184 v185) (fun l2 => putO l2 (some 15) (.sc (.bool true)) K)) from by kernel_rfl)) (X cp n i34_2)).trans ((s34_16_t cp n p0 p1 p2 v175 v177 v180 v181 v182 v184 v185 (roundT 7 (fr34_15 p0 p1 p2 v175 v177 v178 v179 v180 v181 v182 v184 v185) (fun l2 => putO l2 (some 15) (.sc (.bool true)) K))).trans (by kernel_rfl))
def fr34_21 (p0 : SRecv) (p1 : Int) (p2 : (List Int)) (v175 : Int) (v177 : SRecv) (v178 v179 : Int) (v187 : (List SSpan)) : FF := [.yld :: (dT 5 ((.row false (.rPiece v177.xLate)) :: (tL v178) :: (tL v179) :: (dT 7 []))), (tB false) :: (dT 15 []), dc, dc, dc, dc, dc, (.hdr 15) :: (eRecvt p0), [.hdr 1, (tL p1), .hdr 1, .row false (.ruint8 p2), .hdr 15, (tL 0), .row true (.ruint8 []), .row true (.rPiece []), (tL 0), (tL 0), (tL 0), (tI .u32 0), (tB false), (tB false), (tL 0), (tB false)], (.row true (.rSpan [])) :: (tI .u32 0) :: (tI .u32 0) :: (tB false) :: (.hdr 1) :: (.row true (.rSpan v187)) :: (dT 8 ((.hdr 15) :: (sl 0 1 (eRecv v177)))), sl 1 14 (eRecv v177) ++ (dT 2 []), dc]
theorem s34_22_t (cp : CP) (n : Nat) (p0 : SRecv) (p1 : Int) (p2 : (List Int)) (v175 : Int) (v177 : SRecv) (v178 v179 : Int) (v180 : (List SSpan)) (v181 : Int) (v182 : (List Int)) (k : KX R) : XI cp n (y34_5 cp n v175) i34_4 (fr34_13 p0 p1 p2 v175 v177 v178 v179 v180 v181 v182) k = s34_22 cp n p0 p1 p2 v175 v177 v178 v179 v180 v181 v182 (fun v187 => k .norm (fr34_21 p0 p1 p2 v175 v177 v178 v179 v187)) := (show XI cp n (y34_5 cp n v175) i34_4 (fr34_13 p0 p1 p2 v175 v177 v178 v179 v180 v181 v182) k = gF (fr34_13 p0 p1 p2 v175 v177 v178 v179 v180 v181 v182) fun l => steps2 U cp (callP cp n) g34_10031 l fun l1 => yGuard2 none l1 ((fun l1 => yRun2 (y34_5 cp n v175) (.s 12) [.s 14] 15 l1 (fun l2 => steps2 U cp (callP cp n) g34_10032 l2 ((clrT [4, 12, 13, 14, 15] [(174, 2)] k) .norm))) l1) ((fun l1 => putO l1 (some 15) (.tup []) fun l2 => steps2 U cp (callP cp n) g34_10032 l2 ((clrT [4, 12, 13, 14, 15] [(174, 2)] k) .norm)) l1) from by kernel_rfl).trans ((s34_14_t cp n p0 p1 p2 v175 v177 v178 v179 v180 v181 v182 (fun l1 => yRun2 (y34_5 cp n v175) (.s 12) [.s 14] 15 l1 (fun l2 => steps2 U cp (callP cp n) g34_10032 l2 ((clrT [4, 12, 13, 14, 15] [(174, 2)] k) .norm))) (fun l1 => putO l1 (some 15) (.tup []) fun l2 => steps2 U cp (callP cp n) g34_10032 l2 ((clrT [4, 12, 13, 14, 15] [(174, 2)] k) .norm))).trans (congrArg (s34_14 cp n p0 p1 p2 v175 v177 v178 v179 v180 v181 v182) (funext fun v184 => funext fun v185 => (q34_19_t cp n p0 p1 p2 v175 v177 v178 v179 v180 v181 v182 v184 v185 (fun l2 => steps2 U cp (callP cp n) g34_10032 l2 ((clrT [4, 12, 13, 14, 15] [(174, 2)] k) .norm))).trans (show s34_16 cp n p0 p1 p2 v175 v177 v180 v181 v182 v184 v185 (fun v186 => (fun l2 => steps2 U cp (callP cp n) g34_10032 l2 ((clrT [4, 12, 13, 14, 15] [(174, 2)] k) .norm)) (fr34_20 p0 p1 p2 v175 v177 v178 v179 v181 v182 v184 v185 v186)) = s34_16 cp n p0 p1 p2 v175 v177 v180 v181 v182 v184 v185 (fun v186 => k .norm (fr34_21 p0 p1 p2 v175 v177 v178 v179 v186)) from by kernel_rfl))))
def fr34_24 (p0 : SRecv) (p1 : Int) (p2 : (List Int)) (v175 : Int) (v177 : SRecv) (v178 v179 : Int) (v187 : (List SSpan)) : FF := [.yld :: (dT 5 ((.row false (.rPiece v177.xLate)) :: (tL v178) :: (tL v179) :: (dT 7 []))), dc, dc, dc, dc, dc, dc, (.hdr 15) :: (eRecvt p0), [.hdr 1, (tL p1), .hdr 1, .row false (.ruint8 p2), .hdr 15, (tL 0), .row true (.ruint8 []), .row true (.rPiece []), (tL 0), (tL 0), (tL 0), (tI .u32 0), (tB false), (tB false), (tL 0), (tB false)], (.row true (.rSpan [])) :: (tI .u32 0) :: (tI .u32 0) :: (tB false) :: (.hdr 1) :: (.row true (.rSpan v187)) :: (dT 8 ((.hdr 15) :: (sl 0 1 (eRecv v177)))), sl 1 14 (eRecv v177) ++ (dT 2 []), dc]
theorem s34_23_t (cp : CP) (n : Nat) (p0 : SRecv) (p1 : Int) (p2 : (List Int)) (v175 : Int) (v177 : SRecv) (v178 v179 : Int) (v187 : (List SSpan)) (k : KX R) : XI cp n (y34_5 cp n v175) i34_5 (fr34_21 p0 p1 p2 v175 v177 v178 v179 v187) k = s34_23 cp n p0 p1 p2 v175 v177 v178 v179 v187 (k .norm (fr34_24 p0 p1 p2 v175 v177 v178 v179 v187)) := by kernel_rfl
def fr34_25 (p0 : SRecv) (p1 : Int) (p2 : (List Int)) (v175 : Int) (v177 : SRecv) (v178 v179 : Int) (v188 : (List SSpan)) : FF := [.yld :: (dT 5 ((.row false (.rPiece v177.xLate)) :: (tL v178) :: (tL v179) :: (dT 7 []))), dc, dc, dc, dc, dc, dc, (.hdr 15) :: (eRecvt p0), [.hdr 1, (tL p1), .hdr 1, .row false (.ruint8 p2), .hdr 15, (tL 0), .row true (.ruint8 []), .row true (.rPiece []), (tL 0), (tL 0), (tL 0), (tI .u32 0), (tB false), (tB false), (tL 0), (tB false)], (.row true (.rSpan [])) :: (tI .u32 0) :: (tI .u32 0) :: (tB false) :: (.hdr 1) :: (.row true (.rSpan v188)) :: (dT 8 ((.hdr 15) :: (sl 0 1 (eRecv v177)))), sl 1 14 (eRecv v177) ++ (dT 2 []), dc]
theorem s34_26_t (cp : CP) (n : Nat) (p0 : SRecv) (p1 : Int) (p2 : (List Int)) (v175 : Int) (v177 : SRecv) (v178 v179 : Int) (v180 : (List SSpan)) (v181 : Int) (v182 : (List Int)) (k : KX R) : XI cp n (y34_5 cp n v175) i34_6 (fr34_13 p0 p1 p2 v175 v177 v178 v179 v180 v181 v182) k = s34_26 cp n p0 p1 p2 v175 v177 v178 v179 v180 v181 v182 (fun v188 => k .norm (fr34_25 p0 p1 p2 v175 v177 v178 v179 v188)) := (show XI cp n (y34_5 cp n v175) i34_6 (fr34_13 p0 p1 p2 v175 v177 v178 v179 v180 v181 v182) k = XI cp n (y34_5 cp n v175) i34_4 (fr34_13 p0 p1 p2 v175 v177 v178 v179 v180 v181 v182) (seqT (XI cp n (y34_5 cp n v175)) i34_5 k) from by kernel_rfl).trans ((show XI cp n (y34_5 cp n v175) i34_4 (fr34_13 p0 p1 p2 v175 v177 v178 v179 v180 v181 v182) (seqT (XI cp n (y34_5 cp n v175)) i34_5 k) = s34_22 cp n p0 p1 p2 v175 v177 v178 v179 v180 v181 v182 (fun v187 => XI cp n (y34_5 cp n v175) i34_5 (fr34_21 p0 p1 p2 v175 v177 v178 v179 v187) k) from (s34_22_t cp n p0 p1 p2 v175 v177 v178 v179 v180 v181 v182 (seqT (XI cp n (y34_5 cp n v175)) i34_5 k)).trans (by kernel_rfl)).trans (congrArg (fun q => s34_22 cp n p0 p1 p2 v175 v177 v178 v179 v180 v181 v182 q) (funext fun v187 => (s34_23_t cp n p0 p1 p2 v175 v177 v178 v179 v187 k).trans (show s34_23 cp n p0 p1 p2 v175 v177 v178 v179 v187 (k .norm (fr34_24 p0 p1 p2 v175 v177 v178 v179 v187)) = s34_23 cp n p0 p1 p2 v175 v177 v178 v179 v187 (k .norm (fr34_25 p0 p1 p2 v175 v177 v178 v179 v187)) from by kernel_rfl))))
def fr34_27 (p0 : SRecv) (p1 : Int) (p2 : (List Int)) (v175 : Int) (v177 : SRecv) (v178 v179 : Int) (v189 : (List SSpan)) : FF := [.yld :: (dT 5 ((.row false (.rPiece v177.xLate)) :: (tL v178) :: (tL v179) :: (dT 7 []))), dc, dc, dc, dc, dc, dc, (.hdr 15) :: (eRecvt p0), [.hdr 1, (tL p1), .hdr 1, .row false (.ruint8 p2), .hdr 15, (tL 0), .row true (.ruint8 []), .row true (.rPiece []), (tL 0), (tL 0), (tL 0), (tI .u32 0), (tB false), (tB false), (tL 0), (tB false)], (.row true (.rSpan [])) :: (tI .u32 0) :: (tI .u32 0) :: (tB false) :: (.hdr 1) :: (.row true (.rSpan v189)) :: (dT 8 ((.hdr 15) :: (sl 0 1 (eRecv v177)))), sl 1 14 (eRecv v177) ++ (dT 2 []), dc]
theorem s34_28_t (cp : CP) (n : Nat) (p0 : SRecv) (p1 : Int) (p2 : (List Int)) (v175 : Int) (v177 : SRecv) (v178 v179 : Int) (v180 : (List SSpan)) (k : KX R) : XI cp n (y34_5 cp n v175) i34_7 (fr34_10 p0 p1 p2 v175 v177 v178 v179 v180) k = s34_28 cp n p0 p1 p2 v175 v177 v178 v179 v180 (fun v189 => k .norm (fr34_27 p0 p1 p2 v175 v177 v178 v179 v189)) := ((fun c => (show XI cp n (y34_5 cp n v175) (.seq (.fin (.reg g34_1002) [10, 11] []) c) (fr34_10 p0 p1 p2 v175 v177 v178 v179 v180) k = s34_12 cp n p0 p1 p2 v175 v177 v178 v179 v180 (fun v181 v182 => XI cp n (y34_5 cp n v175) c (fr34_13 p0 p1 p2 v175 v177 v178 v179 v180 v181 v182) k) from by kernel_rfl)) i34_6).trans (congrArg (fun q => s34_12 cp n p0 p1 p2 v175 v177 v178 v179 v180 q) (funext fun v181 => funext fun v182 => (s34_26_t cp n p0 p1 p2 v175 v177 v178 v179 v180 v181 v182 k).trans (show s34_26 cp n p0 p1 p2 v175 v177 v178 v179 v180 v181 v182 (fun v188 => k .norm (fr34_25 p0 p1 p2 v175 v177 v178 v179 v188)) = s34_26 cp n p0 p1 p2 v175 v177 v178 v179 v180 v181 v182 (fun v188 => k .norm (fr34_27 p0 p1 p2 v175 v177 v178 v179 v188)) from by kernel_rfl)))
def fr34_29 (p0 : SRecv) (p1 : Int) (p2 : (List Int)) (v175 : Int) (v177 : SRecv) (v178 v179 : Int) (v190 : (List SSpan)) : FF := [.yld :: (dT 5 ((.row false (.rPiece v177.xLate)) :: (tL v178) :: (tL v179) :: (dT 7 []))), dc, dc, dc, dc, dc, dc, (.hdr 15) :: (eRecvt p0), [.hdr 1, (tL p1), .hdr 1, .row false (.ruint8 p2), .hdr 15, (tL 0), .row true (.ruint8 []), .row true (.rPiece []), (tL 0), (tL 0), (tL 0), (tI .u32 0), (tB false), (tB false), (tL 0), (tB false)], (.row true (.rSpan [])) :: (tI .u32 0) :: (tI .u32 0) :: (tB false) :: (.hdr 1) :: (.row true (.rSpan v190)) :: (dT 8 ((.hdr 15) :: (sl 0 1 (eRecv v177)))), sl 1 14 (eRecv v177) ++ (dT 2 []), dc]
theorem s34_30_t (cp : CP) (n : Nat) (p0 : SRecv) (p1 : Int) (p2 : (List Int)) (v175 : Int) (v177 : SRecv) (v178 v179 : Int) (v180 : (List SSpan)) (k : KX R) : XI cp n (y34_5 cp n v175) i34_8 (fr34_10 p0 p1 p2 v175 v177 v178 v179 v180) k = s34_30 cp n p0 p1 p2 v175 v177 v178 v179 v180 (fun v190 => k .norm (fr34_29 p0 p1 p2 v175 v177 v178 v179 v190)) := (show XI cp n (y34_5 cp n v175) i34_8 (fr34_10 p0 p1 p2 v175 v177 v178 v179 v180) k = XI cp n (y34_5 cp n v175) i34_7 (fr34_10 p0 p1 p2 v175 v177 v178 v179 v180) (blkT 1 k) from by kernel_rfl).trans ((s34_28_t cp n p0 p1 p2 v175 v177 v178 v179 v180 (blkT 1 k)).trans (by kernel_rfl))
def fr34_32 (p0 : SRecv) (p1 : Int) (p2 : (List Int)) (v175 : Int) (v177 : SRecv) (v178 : Int) (v190 : (List SSpan)) (v191 : Int) : FF := [.yld :: (dT 5 ((.row false (.rPiece v177.xLate)) :: (tL v178) :: (tL v191) :: (dT 7 []))), dc, dc, dc, dc, dc, dc, (.hdr 15) :: (eRecvt p0), [.hdr 1, (tL p1), .hdr 1, .row false (.ruint8 p2), .hdr 15, (tL 0), .row true (.ruint8 []), .row true (.rPiece []), (tL 0), (tL 0), (tL 0), (tI .u32 0), (tB false), (tB false), (tL 0), (tB false)], (.row true (.rSpan [])) :: (tI .u32 0) :: (tI .u32 0) :: (tB false) :: (.hdr 1) :: (.row true (.rSpan v190)) :: (dT 8 ((.hdr 15) :: (sl 0 1 (eRecv v177)))), sl 1 14 (eRecv v177) ++ (dT 2 []), dc]
theorem s34_31_t (cp : CP) (n : Nat) (p0 : SRecv) (p1 : Int) (p2 : (List Int)) (v175 : Int) (v177 : SRecv) (v178 v179 : Int) (v190 : (List SSpan)) (k : KX R) : XI cp n (y34_5 cp n v175) i34_9 (fr34_29 p0 p1 p2 v175 v177 v178 v179 v190) k = s34_31 cp n p0 p1 p2 v175 v177 v178 v179 v190 (fun v191 => k .norm (fr34_32 p0 p1 p2 v175 v177 v178 v190 v191)) := by kernel_rfl
def fr34_33 (p0 : SRecv) (p1 : Int) (p2 : (List Int)) (v175 : Int) (v177 : SRecv) (v178 v192 : Int) (v193 : (List SSpan)) : FF := [.yld :: (dT 5 ((.row false (.rPiece v177.xLate)) :: (tL v178) :: (tL v192) :: (dT 7 []))), dc, dc, dc, dc, dc, dc, (.hdr 15) :: (eRecvt p0), [.hdr 1, (tL p1), .hdr 1, .row false (.ruint8 p2), .hdr 15, (tL 0), .row true (.ruint8 []), .row true (.rPiece []), (tL 0), (tL 0), (tL 0), (tI .u32 0), (tB false), (tB false), (tL 0), (tB false)], (.row true (.rSpan [])) :: (tI .u32 0) :: (tI .u32 0) :: (tB false) :: (.hdr 1) :: (.row true (.rSpan v193)) :: (dT 8 ((.hdr 15) :: (sl 0 1 (eRecv v177)))), sl 1 14 (eRecv v177) ++ (dT 2 []), dc]
theorem s34_34_t (cp : CP) (n : Nat) (p0 : SRecv) (p1 : Int) (p2 : (List Int)) (v175 : Int) (v177 : SRecv) (v178 v179 : Int) (v180 : (List SSpan)) (k : KX R) : XI cp n (y34_5 cp n v175) i34_10 (fr34_10 p0 p1 p2 v175 v177 v178 v179 v180) k = s34_34 cp n p0 p1 p2 v175 v177 v178 v179 v180 (fun v192 v193 => k .norm (fr34_33 p0 p1 p2 v175 v177 v178 v192 v193)) := (show XI cp n (y34_5 cp n v175) i34_10 (fr34_10 p0 p1 p2 v175 v177 v178 v179 v180) k = XI cp n (y34_5 cp n v175) i34_8 (fr34_10 p0 p1 p2 v175 v177 v178 v179 v180) (seqT (XI cp n (y34_5 cp n v175)) i34_9 k) from by kernel_rfl).trans ((show XI cp n (y34_5 cp n v175) i34_8 (fr34_10 p0 p1 p2 v175 v177 v178 v179 v180) (seqT (XI cp n (y34_5 cp n v175)) i34_9 k) = s34_30 cp n p0 p1 p2 v175 v177 v178 v179 v180 (fun v190 => XI cp n (y34_5 cp n v175) i34_9 (fr34_29 p0 p1 p2 v175 v177 v178 v179 v190) k) from (s34_30_t cp n p0 p1 p2 v175 v177 v178 v179 v180 (seqT (XI cp n (y34_5 cp n v175)) i34_9 k)).trans (by kernel_rfl)).trans (congrArg (fun q => s34_30 cp n p0 p1 p2 v175 v177 v178 v179 v180 q) (funext fun v190 => (s34_31_t cp n p0 p1 p2 v175 v177 v178 v179 v190 k).trans (show s34_31 cp n p0 p1 p2 v175 v177 v178 v179 v190 (fun v191 => k .norm (fr34_32 p0 p1 p2 v175 v177 v178 v190 v191)) = s34_31 cp n p0 p1 p2 v175 v177 v178 v179 v190 (fun v191 => k .norm (fr34_33 p0 p1 p2 v175 v177 v178 v191 v190)) from by kernel_rfl))))
def fr34_35 (p0 : SRecv) (p1 : Int) (p2 : (List Int)) (v175 : Int) (v177 : SRecv) (v178 v194 : Int) (v195 : (List SSpan)) : FF := [.yld :: (dT 5 ((.row false (.rPiece v177.xLate)) :: (tL v178) :: (tL v194) :: (dT 7 []))), dc, dc, dc, dc, dc, dc, (.hdr 15) :: (eRecvt p0), [.hdr 1, (tL p1), .hdr 1, .row false (.ruint8 p2), .hdr 15, (tL 0), .row true (.ruint8 []), .row true (.rPiece []), (tL 0), (tL 0), (tL 0), (tI .u32 0), (tB false), (tB false), (tL 0), (tB false)], (.row true (.rSpan [])) :: (tI .u32 0) :: (tI .u32 0) :: (tB false) :: (.hdr 1) :: (.row true (.rSpan v195)) :: (dT 8 ((.hdr 15) :: (sl 0 1 (eRecv v177)))), sl 1 14 (eRecv v177) ++ (dT 2 []), dc]
theorem s34_36_t (cp : CP) (n : Nat) (p0 : SRecv) (p1 : Int) (p2 : (List Int)) (v175 : Int) (v177 : SRecv) (v178 v179 : Int) (v180 : (List SSpan)) (k : KX R) : XI cp n (y34_5 cp n v175) i34_11 (fr34_10 p0 p1 p2 v175 v177 v178 v179 v180) k = s34_36 cp n p0 p1 p2 v175 v177 v178 v179 v180 (fun v194 v195 => k .norm (fr34_35 p0 p1 p2 v175 v177 v178 v194 v195)) (k (.exit 0) (fr34_11 p0 p1 p2 v175 v177 v180)) := ((fun c => (show XI cp n (y34_5 cp n v175) (.seq (.reg g34_1001) (.seq (.fin (.cond (.s 9) (.skip) (.clr [0, 6, 7, 8, 9] [] (.exit 0))) [9] []) c)) (fr34_10 p0 p1 p2 v175 v177 v178 v179 v180) k = s34_9 cp n p0 p1 p2 v175 v177 v178 v179 v180 (XI cp n (y34_5 cp n v175) c (fr34_10 p0 p1 p2 v175 v177 v178 v179 v180) k) (k (.exit 0) (fr34_11 p0 p1 p2 v175 v177 v180)) from by kernel_rfl)) i34_10).trans (congrArg (fun q => s34_9 cp n p0 p1 p2 v175 v177 v178 v179 v180 q (k (.exit 0) (fr34_11 p0 p1 p2 v175 v177 v180))) ((s34_34_t cp n p0 p1 p2 v175 v177 v178 v179 v180 k).trans (show s34_34 cp n p0 p1 p2 v175 v177 v178 v179 v180 (fun v192 v193 => k .norm (fr34_33 p0 p1 p2 v175 v177 v178 v192 v193)) = s34_34 cp n p0 p1 p2 v175 v177 v178 v179 v180 (fun v192 v193 => k .norm (fr34_35 p0 p1 p2 v175 v177 v178 v192 v193)) from by kernel_rfl)))
def fr34_37 (p0 : SRecv) (p1 : Int) (p2 : (List Int)) (v175 : Int) (v177 : SRecv) (v196 : (List SSpan)) : FF := [dc, dc, dc, dc, dc, dc, dc, (.hdr 15) :: (eRecvt p0), [.hdr 1, (tL p1), .hdr 1, .row false (.ruint8 p2), .hdr 15, (tL 0), .row true (.ruint8 []), .row true (.rPiece []), (tL 0), (tL 0), (tL 0), (tI .u32 0), (tB false), (tB false), (tL 0), (tB false)], (.row true (.rSpan [])) :: (tI .u32 0) :: (tI .u32 0) :: (tB false) :: (.hdr 1) :: (.row true (.rSpan v196)) :: (dT 8 ((.hdr 15) :: (sl 0 1 (eRecv v177)))), sl 1 14 (eRecv v177) ++ (dT 2 []), dc]
theorem l34_38_t (cp : CP) (n : Nat) : ∀ (m : Nat) (p0 : SRecv) (p1 : Int) (p2 : (List Int)) (v175 : Int) (v177 : SRecv) (v178 v179 : Int) (v180 : (List SSpan)) (k : KX R), loopN2 (XI cp n (y34_5 cp n v175) i34_11) m (fr34_10 p0 p1 p2 v175 v177 v178 v179 v180) k = l34_38 cp n m p0 p1 p2 v175 v177 v178 v179 v180 (fun v196 => k (.exit 0) (fr34_37 p0 p1 p2 v175 v177 v196))
  | 0, _, _, _, _, _, _, _, _, _ => rfl
  | m + 1, p0, p1, p2, v175, v177, v178, v179, v180, k => (loopN2_succ (XI cp n (y34_5 cp n v175) i34_11) m (fr34_10 p0 p1 p2 v175 v177 v178 v179 v180) k).trans ((s34_36_t cp n p0 p1 p2 v175 v177 v178 v179 v180 (loopT (XI cp n (y34_5 cp n v175) i34_11) m k)).trans ((show s34_36 cp n p0 p1 p2 v175 v177 v178 v179 v180 (fun v194 v195 => loopT (XI cp n (y34_5 cp n v175) i34_11) m k .norm (fr34_35 p0 p1 p2 v175 v177 v178 v194 v195)) (loopT (XI cp n (y34_5 cp n v175) i34_11) m k (.exit 0) (fr34_11 p0 p1 p2 v175 v177 v180)) = s34_36 cp n p0 p1 p2 v175 v177 v178 v179 v180 (fun v194 v195 => loopN2 (XI cp n (y34_5 cp n v175) i34_11) m (fr34_10 p0 p1 p2 v175 v177 v178 v194 v195) k) (k (.exit 0) (fr34_37 p0 p1 p2 v175 v177 v180)) from by kernel_rfl).trans (congrArg (fun q => s34_36 cp n p0 p1 p2 v175 v177 v178 v179 v180 q (k (.exit 0) (fr34_37 p0 p1 p2 v175 v177 v180))) (funext fun v194 => funext fun v195 => l34_38_t cp n m p0 p1 p2 v175 v177 v178 v194 v195 k))))
theorem s34_39_t (cp : CP) (n : Nat) (p0 : SRecv) (p1 : Int) (p2 : (List Int)) (v175 : Int) (v177 : SRecv) (v178 : Int) (k : KX R) : XI cp n (y34_5 cp n v175) i34_12 (fr34_8 p0 p1 p2 v175 v177 v178) k = s34_39 cp n p0 p1 p2 v175 v177 v178 (fun v196 => k (.exit 0) (fr34_37 p0 p1 p2 v175 v177 v196)) := (show XI cp n (y34_5 cp n v175) i34_12 (fr34_8 p0 p1 p2 v175 v177 v178) k = loopN2 (XI cp n (y34_5 cp n v175) i34_11) n (fr34_10 p0 p1 p2 v175 v177 v178 0 []) k from by kernel_rfl).trans (l34_38_t cp n n p0 p1 p2 v175 v177 v178 0 [] k)
def fr34_40 (p0 : SRecv) (p1 : Int) (p2 : (List Int)) (v175 : Int) (v177 : SRecv) (v197 : (List SSpan)) : FF := [dc, dc, dc, dc, dc, dc, dc, (.hdr 15) :: (eRecvt p0), [.hdr 1, (tL p1), .hdr 1, .row false (.ruint8 p2), .hdr 15, (tL 0), .row true (.ruint8 []), .row true (.rPiece []), (tL 0), (tL 0), (tL 0), (tI .u32 0), (tB false), (tB false), (tL 0), (tB false)], (.row true (.rSpan [])) :: (tI .u32 0) :: (tI .u32 0) :: (tB false) :: (.hdr 1) :: (.row true (.rSpan v197)) :: (dT 8 ((.hdr 15) :: (sl 0 1 (eRecv v177)))), sl 1 14 (eRecv v177) ++ (dT 2 []), dc]
theorem s34_41_t (cp : CP) (n : Nat) (p0 : SRecv) (p1 : Int) (p2 : (List Int)) (v175 : Int) (v177 : SRecv) (v178 : Int) (k : KX R) : XI cp n (y34_5 cp n v175) i34_13 (fr34_8 p0 p1 p2 v175 v177 v178) k = s34_41 cp n p0 p1 p2 v175 v177 v178 (fun v197 => k .norm (fr34_40 p0 p1 p2 v175 v177 v197)) := (show XI cp n (y34_5 cp n v175) i34_13 (fr34_8 p0 p1 p2 v175 v177 v178) k = XI cp n (y34_5 cp n v175) i34_12 (fr34_8 p0 p1 p2 v175 v177 v178) (blkT 0 k) from by kernel_rfl).trans ((s34_39_t cp n p0 p1 p2 v175 v177 v178 (blkT 0 k)).trans (by kernel_rfl))
def fr34_42 (p0 : SRecv) (p1 : Int) (p2 : (List Int)) (v175 : Int) (v177 : SRecv) (v198 : (List SSpan)) : FF := [dc, dc, dc, dc, dc, dc, dc, (.hdr 15) :: (eRecvt p0), [.hdr 1, (tL p1), .hdr 1, .row false (.ruint8 p2), .hdr 15, (tL 0), .row true (.ruint8 []), .row true (.rPiece []), (tL 0), (tL 0), (tL 0), (tI .u32 0), (tB false), (tB false), (tL 0), (tB false)], (.row true (.rSpan [])) :: (tI .u32 0) :: (tI .u32 0) :: (tB false) :: (.hdr 1) :: (.row true (.rSpan v198)) :: (dT 8 ((.hdr 15) :: (sl 0 1 (eRecv v177)))), sl 1 14 (eRecv v177) ++ (dT 2 []), dc]
def fr34_44 (p0 : SRecv) (p1 : Int) (p2 : (List Int)) (v175 : Int) (v177 : SRecv) : FF := [.yld :: (.ptr 158 0) :: (dT 14 []), dc, dc, dc, dc, dc, dc, (.hdr 15) :: (eRecvt p0), [.hdr 1, (tL p1), .hdr 1, .row false (.ruint8 p2), .hdr 15, (tL 0), .row true (.ruint8 []), .row true (.rPiece []), (tL 0), (tL 0), (tL 0), (tI .u32 0), (tB false), (tB false), (tL 0), (tB false)], (.row true (.rSpan [])) :: (tI .u32 0) :: (tI .u32 0) :: (tB false) :: (.hdr 1) :: (.row true (.rSpan [])) :: (dT 8 ((.hdr 15) :: (sl 0 1 (eRecv v177)))), sl 1 14 (eRecv v177) ++ (dT 2 []), dc]
theorem s34_43_t (cp : CP) (n : Nat) (p0 : SRecv) (p1 : Int) (p2 : (List Int)) (v175 : Int) (v177 : SRecv) (k : KX R) : XI cp n (y34_5 cp n v175) i34_3 (fr34_44 p0 p1 p2 v175 v177) k = s34_43 cp n p0 p1 p2 v175 v177 (fun v198 => k .norm (fr34_42 p0 p1 p2 v175 v177 v198)) := ((fun c => (show XI cp n (y34_5 cp n v175) (.seq (.fin (.reg g34_1000) [1, 5] []) c) (fr34_44 p0 p1 p2 v175 v177) k = s34_7 cp n p0 p1 p2 v175 v177 (fun v178 => XI cp n (y34_5 cp n v175) c (fr34_8 p0 p1 p2 v175 v177 v178) k) from by kernel_rfl)) i34_13).trans (congrArg (fun q => s34_7 cp n p0 p1 p2 v175 v177 q) (funext fun v178 => (s34_41_t cp n p0 p1 p2 v175 v177 v178 k).trans (show s34_41 cp n p0 p1 p2 v175 v177 v178 (fun v197 => k .norm (fr34_40 p0 p1 p2 v175 v177 v197)) = s34_41 cp n p0 p1 p2 v175 v177 v178 (fun v197 => k .norm (fr34_42 p0 p1 p2 v175 v177 v197)) from by kernel_rfl)))
def fr34_45 (p0 : SRecv) (p1 : Int) (p2 : (List Int)) (v175 : Int) (v199 : (List SSpan)) : FF := [dT 3 ((.ptr 112 0) :: (.ptr 128 0) :: (.ptr 130 0) :: (.ptr 132 0) :: (dT 1 ((tL v175) :: (.ptr 148 0) :: (dT 6 [])))), dc, dc, dc, dc, dc, dc, (.hdr 15) :: (eRecvt p0), [.hdr 1, (tL p1), .hdr 1, .row false (.ruint8 p2), .hdr 15, (tL 0), .row true (.ruint8 []), .row true (.rPiece []), (tL 0), (tL 0), (tL 0), (tI .u32 0), (tB false), (tB false), (tL 0), (tB false)], (.row true (.rSpan [])) :: (tI .u32 0) :: (tI .u32 0) :: (tB false) :: (.hdr 1) :: (.row true (.rSpan v199)) :: (dT 10 []), dc, dc]
theorem s34_46_t (cp : CP) (n : Nat) (p0 : SRecv) (p1 : Int) (p2 : (List Int)) (v175 : Int) (v177 : SRecv) (k : KX R) : X cp n i34_14 (fr34_4 p0 p1 p2 v175 v177) k = s34_46 cp n p0 p1 p2 v175 v177 (fun v199 => k .norm (fr34_45 p0 p1 p2 v175 v199)) := (show X cp n i34_14 (fr34_4 p0 p1 p2 v175 v177) k = XI cp n (roundK2 7 [32] [112, 128, 130, 132, 148, 158, 174] (fr34_4 p0 p1 p2 v175 v177) (X cp n i34_0) (X cp n i34_1)) i34_3 (fr34_44 p0 p1 p2 v175 v177) (rfnT 7 (fr34_4 p0 p1 p2 v175 v177) (clrT [31] [(158, 15)] k)) from rfn_eq (v := .clo 70 [(158, 0)]) (by kernel_rfl) (by kernel_rfl) (by kernel_rfl) _ _ _).trans ((congrArg (fun Y => XI cp n Y i34_3 (fr34_44 p0 p1 p2 v175 v177) (rfnT 7 (fr34_4 p0 p1 p2 v175 v177) (clrT [31] [(158, 15)] k))) ((rnd_eq 7 [32] [112, 128, 130, 132, 148, 158, 174] (fr34_4 p0 p1 p2 v175 v177) i34_0 i34_1).trans (show rndT 7 [32] [112, 128, 130, 132, 148, 158, 174] (fr34_4 p0 p1 p2 v175 v177) (X cp n i34_2) = (y34_5 cp n v175) from by kernel_rfl))).trans ((s34_43_t cp n p0 p1 p2 v175 v177 (rfnT 7 (fr34_4 p0 p1 p2 v175 v177) (clrT [31] [(158, 15)] k))).trans (by kernel_rfl)))
def fr34_47 (p0 : SRecv) (p1 : Int) (p2 : (List Int)) (v175 : Int) (v200 : (List SSpan)) : FF := [dT 3 ((.ptr 112 0) :: (.ptr 128 0) :: (.ptr 130 0) :: (.ptr 132 0) :: (dT 1 ((tL v175) :: (.ptr 148 0) :: (dT 6 [])))), dc, dc, dc, dc, dc, dc, (.hdr 15) :: (eRecvt p0), [.hdr 1, (tL p1), .hdr 1, .row false (.ruint8 p2), .hdr 15, (tL 0), .row true (.ruint8 []), .row true (.rPiece []), (tL 0), (tL 0), (tL 0), (tI .u32 0), (tB false), (tB false), (tL 0), (tB false)], (.row true (.rSpan [])) :: (tI .u32 0) :: (tI .u32 0) :: (tB false) :: (.hdr 1) :: (.row true (.rSpan v200)) :: (dT 10 []), dc, dc]
theorem s34_48_t (cp : CP) (n : Nat) (p0 : SRecv) (p1 : Int) (p2 : (List Int)) (v175 : Int) (v177 : SRecv) (k : KX R) : X cp n i34_15 (fr34_4 p0 p1 p2 v175 v177) k = s34_48 cp n p0 p1 p2 v175 v177 (fun v200 => k .norm (fr34_47 p0 p1 p2 v175 v200)) := (show X cp n i34_15 (fr34_4 p0 p1 p2 v175 v177) k = X cp n i34_14 (fr34_4 p0 p1 p2 v175 v177) (blkT 0 k) from by kernel_rfl).trans ((s34_46_t cp n p0 p1 p2 v175 v177 (blkT 0 k)).trans (by kernel_rfl))
def fr34_49 (p0 : SRecv) (p1 : Int) (p2 : (List Int)) (v175 : Int) (v201 : (List SSpan)) : FF := [dT 3 ((.ptr 112 0) :: (.ptr 128 0) :: (.ptr 130 0) :: (.ptr 132 0) :: (dT 1 ((tL v175) :: (.ptr 148 0) :: (dT 6 [])))), dc, dc, dc, dc, dc, dc, (.hdr 15) :: (eRecvt p0), [.hdr 1, (tL p1), .hdr 1, .row false (.ruint8 p2), .hdr 15, (tL 0), .row true (.ruint8 []), .row true (.rPiece []), (tL 0), (tL 0), (tL 0), (tI .u32 0), (tB false), (tB false), (tL 0), (tB false)], (.row true (.rSpan [])) :: (tI .u32 0) :: (tI .u32 0) :: (tB false) :: (.hdr 1) :: (.row true (.rSpan v201)) :: (dT 10 []), dc, dc]
theorem s34_50_t (cp : CP) (n : Nat) (p0 : SRecv) (p1 : Int) (p2 : (List Int)) (v175 : Int) (k : KX R) : X cp n i34_16 (fr34_2 p0 p1 p2 v175) k = s34_50 cp n p0 p1 p2 v175 (fun v201 => k .norm (fr34_49 p0 p1 p2 v175 v201)) := ((fun c => (show X cp n (.seq (.fin (.reg g34_5) [30] []) c) (fr34_2 p0 p1 p2 v175) k = s34_3 cp n p0 p1 p2 v175 (fun v177 => X cp n c (fr34_4 p0 p1 p2 v175 v177) k) from by kernel_rfl)) i34_15).trans (congrArg (fun q => s34_3 cp n p0 p1 p2 v175 q) (funext fun v177 => (s34_48_t cp n p0 p1 p2 v175 v177 k).trans (show s34_48 cp n p0 p1 p2 v175 v177 (fun v200 => k .norm (fr34_47 p0 p1 p2 v175 v200)) = s34_48 cp n p0 p1 p2 v175 v177 (fun v200 => k .norm (fr34_49 p0 p1 p2 v175 v200)) from by kernel_rfl)))
def fr34_52 (p0 : SRecv) (p1 : Int) (p2 : (List Int)) (v175 : Int) (v201 : (List SSpan)) : FF := [dT 3 ((.ptr 112 0) :: (.ptr 128 0) :: (dT 1 ((.ptr 132 0) :: (dT 1 ((tL v175) :: (.ptr 148 0) :: (dT 1 ((.ptr 153 0) :: (.clo 59 [(153, 0), (112, 0), (130, 0), (128, 0)]) :: (dT 3 [])))))))), dc, dc, dc, dc, dc, dc, (.hdr 15) :: (eRecvt p0), [.hdr 1, (tL p1), .hdr 1, .row false (.ruint8 p2), .hdr 15, (tL 0), .row true (.ruint8 []), .row true (.rPiece []), (tL 0), (tL 0), (tL 0), (tI .u32 0), (tB false), (tB false), (tL 0), (tB false)], (.row true (.rSpan [])) :: (tI .u32 0) :: (tI .u32 0) :: (tB false) :: (.hdr 1) :: (.row true (.rSpan v201)) :: (dT 3 ((.hdr 1) :: (tB false) :: (dT 5 []))), dc, dc]
def fr34_54 (p0 : SRecv) (p1 : Int) (p2 : (List Int)) (v175 : Int) (v201 : (List SSpan)) (v202 : Int) (v203 : Bool) : FF := [dT 3 ((.ptr 112 0) :: (dT 2 ((.ptr 132 0) :: (dT 1 ((tL v175) :: (.ptr 148 0) :: (dT 1 ((.ptr 153 0) :: (.clo 59 [(153, 0), (112, 0), (130, 0), (128, 0)]) :: (tL v202) :: (dT 2 [])))))))), dc, dT 12 ((tB v203) :: (dT 3 [])), dc, dc, dc, dc, (.hdr 15) :: (eRecvt p0), [.hdr 1, (tL p1), .hdr 1, .row false (.ruint8 p2), .hdr 15, (tL 0), .row true (.ruint8 []), .row true (.rPiece []), (tL 0), (tL 0), (tL 0), (tI .u32 0), (tB false), (tB false), (tL 0), (tB false)], (.row true (.rSpan [])) :: (tI .u32 0) :: (tI .u32 0) :: (tB false) :: (.hdr 1) :: (.row true (.rSpan v201)) :: (dT 3 ((.hdr 1) :: (tB false) :: (dT 5 []))), dc, dc]
def fr34_56 (p0 : SRecv) (p1 : Int) (p2 : (List Int)) (v205 : (List SSpan)) (v206 : Int) : FF := [dT 3 ((.ptr 112 0) :: (dT 2 ((.ptr 132 0) :: (dT 4 ((.ptr 153 0) :: (.clo 59 [(153, 0), (112, 0), (130, 0), (128, 0)]) :: (dT 3 [])))))), dc, dc, dT 1 ((.row false (.rSpan v205)) :: (tL v206) :: (tL 0) :: (dT 12 [])), dc, dc, dc, (.hdr 15) :: (eRecvt p0), [.hdr 1, (tL p1), .hdr 1, .row false (.ruint8 p2), .hdr 15, (tL 0), .row true (.ruint8 []), .row true (.rPiece []), (tL 0), (tL 0), (tL 0), (tI .u32 0), (tB false), (tB false), (tL 0), (tB false)], (.row true (.rSpan [])) :: (tI .u32 0) :: (tI .u32 0) :: (tB false) :: (dT 5 ((.hdr 1) :: (tB false) :: (dT 5 []))), dc, dc]
def fr34_58 (v205 : (List SSpan)) (v206 v216 : Int) (v217 : SRecv) (v218 : Int) (v219 : (List Int)) (v220 : Bool) : FF := [dT 3 ((.ptr 112 0) :: (dT 2 ((.ptr 132 0) :: (dT 4 ((.ptr 153 0) :: (.clo 59 [(153, 0), (112, 0), (130, 0), (128, 0)]) :: (dT 3 [])))))), dc, dc, dT 1 ((.row false (.rSpan v205)) :: (tL v206) :: (tL v216) :: (dT 12 [])), dc, dc, dc, (.hdr 15) :: (eRecvt v217), [.hdr 1, (tL v218), .hdr 1, .row false (.ruint8 v219), .hdr 15, (tL 0), .row true (.ruint8 []), .row true (.rPiece []), (tL 0), (tL 0), (tL 0), (tI .u32 0), (tB false), (tB false), (tL 0), (tB false)], (.row true (.rSpan [])) :: (tI .u32 0) :: (tI .u32 0) :: (tB false) :: (dT 5 ((.hdr 1) :: (tB v220) :: (dT 5 []))), dc, dc]
def fr34_59 (v208 : SRecv) (v211 : Bool) : FF := [dT 3 ((.ptr 112 0) :: (dT 2 ((.ptr 132 0) :: (dT 4 ((.ptr 153 0) :: (dT 4 [])))))), dc, dc, dc, dc, dc, dc, (.hdr 15) :: (eRecvt v208), dT 4 ([.hdr 15, (tL 0), .row true (.ruint8 []), .row true (.rPiece []), (tL 0), (tL 0), (tL 0), (tI .u32 0), (tB false), (tB false), (tL 0), (tB false)]), (.row true (.rSpan [])) :: (tI .u32 0) :: (tI .u32 0) :: (tB false) :: (dT 5 ((.hdr 1) :: (tB v211) :: (dT 5 []))), dc, dc]
def fr34_60 (v205 : (List SSpan)) (v206 v207 : Int) (v208 : SRecv) (v209 : Int) (v210 : (List Int)) (v211 : Bool) : FF := [dT 3 ((.ptr 112 0) :: (dT 2 ((.ptr 132 0) :: (dT 4 ((.ptr 153 0) :: (.clo 59 [(153, 0), (112, 0), (130, 0), (128, 0)]) :: (dT 3 [])))))), dc, dc, dT 1 ((.row false (.rSpan v205)) :: (tL v206) :: (tL v207) :: (dT 12 [])), dc, dc, dc, (.hdr 15) :: (eRecvt v208), [.hdr 1, (tL v209), .hdr 1, .row false (.ruint8 v210), .hdr 15, (tL 0), .row true (.ruint8 []), .row true (.rPiece []), (tL 0), (tL 0), (tL 0), (tI .u32 0), (tB false), (tB false), (tL 0), (tB false)], (.row true (.rSpan [])) :: (tI .u32 0) :: (tI .u32 0) :: (tB false) :: (dT 5 ((.hdr 1) :: (tB v211) :: (dT 5 []))), dc, dc]
theorem s34_57_t (cp : CP) (n : Nat) (v205 : (List SSpan)) (v206 v207 : Int) (v208 : SRecv) (v209 : Int) (v210 : (List Int)) (v211 : Bool) (k : KX R) : X cp n i34_17 (fr34_60 v205 v206 v207 v208 v209 v210 v211) k = s34_57 cp n v205 v206 v207 v208 v209 v210 v211 (fun v216 v217 v218 v219 v220 => k .norm (fr34_58 v205 v206 v216 v217 v218 v219 v220)) (k (.exit 2) (fr34_59 v208 v211)) := by kernel_rfl
def fr34_61 (v221 : SRecv) (v222 : Bool) : FF := [dT 3 ((.ptr 112 0) :: (dT 2 ((.ptr 132 0) :: (dT 4 ((.ptr 153 0) :: (dT 4 [])))))), dc, dc, dc, dc, dc, dc, (.hdr 15) :: (eRecvt v221), dT 4 ([.hdr 15, (tL 0), .row true (.ruint8 []), .row true (.rPiece []), (tL 0), (tL 0), (tL 0), (tI .u32 0), (tB false), (tB false), (tL 0), (tB false)]), (.row true (.rSpan [])) :: (tI .u32 0) :: (tI .u32 0) :: (tB false) :: (dT 5 ((.hdr 1) :: (tB v222) :: (dT 5 []))), dc, dc]
theorem l34_62_t (cp : CP) (n : Nat) : ∀ (m : Nat) (v205 : (List SSpan)) (v206 v207 : Int) (v208 : SRecv) (v209 : Int) (v210 : (List Int)) (v211 : Bool) (k : KX R), loopN2 (X cp n i34_17) m (fr34_60 v205 v206 v207 v208 v209 v210 v211) k = l34_62 cp n m v205 v206 v207 v208 v209 v210 v211 (fun v221 v222 => k (.exit 2) (fr34_61 v221 v222))
  | 0, _, _, _, _, _, _, _, _ => rfl
  | m + 1, v205, v206, v207, v208, v209, v210, v211, k => (loopN2_succ (X cp n i34_17) m (fr34_60 v205 v206 v207 v208 v209 v210 v211) k).trans ((s34_57_t cp n v205 v206 v207 v208 v209 v210 v211 (loopT (X cp n i34_17) m k)).trans ((show s34_57 cp n v205 v206 v207 v208 v209 v210 v211 (fun v216 v217 v218 v219 v220 => loopT (X cp n i34_17) m k .norm (fr34_58 v205 v206 v216 v217 v218 v219 v220)) (loopT (X cp n i34_17) m k (.exit 2) (fr34_59 v208 v211)) = s34_57 cp n v205 v206 v207 v208 v209 v210 v211 (fun v216 v217 v218 v219 v220 => loopN2 (X cp n i34_17) m (fr34_60 v205 v206 v216 v217 v218 v219 v220) k) (k (.exit 2) (fr34_61 v208 v211)) from by kernel_rfl).trans (congrArg (fun q => s34_57 cp n v205 v206 v207 v208 v209 v210 v211 q (k (.exit 2) (fr34_61 v208 v211))) (funext fun v216 => funext fun v217 => funext fun v218 => funext fun v219 => funext fun v220 => l34_62_t cp n m v205 v206 v216 v217 v218 v219 v220 k))))
theorem s34_63_t (cp : CP) (n : Nat) (p0 : SRecv) (p1 : Int) (p2 : (List Int)) (v205 : (List SSpan)) (v206 : Int) (k : KX R) : X cp n i34_18 (fr34_56 p0 p1 p2 v205 v206) k = s34_63 cp n p0 p1 p2 v205 v206 (fun v221 v222 => k (.exit 2) (fr34_61 v221 v222)) := (show X cp n i34_18 (fr34_56 p0 p1 p2 v205 v206) k = loopN2 (X cp n i34_17) n (fr34_60 v205 v206 0 p0 p1 p2 false) k from by kernel_rfl).trans (l34_62_t cp n n v205 v206 0 p0 p1 p2 false k)
def fr34_64 (v223 : SRecv) (v224 : Bool) : FF := [dT 3 ((.ptr 112 0) :: (dT 2 ((.ptr 132 0) :: (dT 4 ((.ptr 153 0) :: (dT 4 [])))))), dc, dc, dc, dc, dc, dc, (.hdr 15) :: (eRecvt v223), dT 4 ([.hdr 15, (tL 0), .row true (.ruint8 []), .row true (.rPiece []), (tL 0), (tL 0), (tL 0), (tI .u32 0), (tB false), (tB false), (tL 0), (tB false)]), (.row true (.rSpan [])) :: (tI .u32 0) :: (tI .u32 0) :: (tB false) :: (dT 5 ((.hdr 1) :: (tB v224) :: (dT 5 []))), dc, dc]
theorem s34_65_t (cp : CP) (n : Nat) (p0 : SRecv) (p1 : Int) (p2 : (List Int)) (v205 : (List SSpan)) (v206 : Int) (k : KX R) : X cp n i34_19 (fr34_56 p0 p1 p2 v205 v206) k = s34_65 cp n p0 p1 p2 v205 v206 (fun v223 v224 => k .norm (fr34_64 v223 v224)) := (show X cp n i34_19 (fr34_56 p0 p1 p2 v205 v206) k = X cp n i34_18 (fr34_56 p0 p1 p2 v205 v206) (blkT 2 k) from by kernel_rfl).trans ((s34_63_t cp n p0 p1 p2 v205 v206 (blkT 2 k)).trans (by kernel_rfl))
def fr34_66 (v225 : SRecv) (v226 : Bool) : FF := [dT 3 ((.ptr 112 0) :: (dT 2 ((.ptr 132 0) :: (dT 4 ((.ptr 153 0) :: (dT 4 [])))))), dc, dc, dc, dc, dc, dc, (.hdr 15) :: (eRecvt v225), dT 4 ([.hdr 15, (tL 0), .row true (.ruint8 []), .row true (.rPiece []), (tL 0), (tL 0), (tL 0), (tI .u32 0), (tB false), (tB false), (tL 0), (tB false)]), (.row true (.rSpan [])) :: (tI .u32 0) :: (tI .u32 0) :: (tB false) :: (dT 5 ((.hdr 1) :: (tB v226) :: (dT 5 []))), dc, dc]
theorem s34_67_t (cp : CP) (n : Nat) (p0 : SRecv) (p1 : Int) (p2 : (List Int)) (v175 : Int) (v201 : (List SSpan)) (v202 : Int) (v203 : Bool) (k : KX R) : X cp n i34_20 (fr34_54 p0 p1 p2 v175 v201 v202 v203) k = s34_67 cp n p0 p1 p2 v175 v201 v202 v203 (fun v225 v226 => k .norm (fr34_66 v225 v226)) := ((fun c => (show X cp n (.seq (.fin (.reg g34_12) [8, 9, 13, 44, 45, 46, 47, 48] [(148, 1)]) c) (fr34_54 p0 p1 p2 v175 v201 v202 v203) k = s34_55 cp n p0 p1 p2 v175 v201 v202 v203 (fun v205 v206 => X cp n c (fr34_56 p0 p1 p2 v205 v206) k) from by kernel_rfl)) i34_19).trans (congrArg (fun q => s34_55 cp n p0 p1 p2 v175 v201 v202 v203 q) (funext fun v205 => funext fun v206 => (s34_65_t cp n p0 p1 p2 v205 v206 k).trans (show s34_65 cp n p0 p1 p2 v205 v206 (fun v223 v224 => k .norm (fr34_64 v223 v224)) = s34_65 cp n p0 p1 p2 v205 v206 (fun v223 v224 => k .norm (fr34_66 v223 v224)) from by kernel_rfl)))
theorem s34_68_t (cp : CP) (n : Nat) (p0 : SRecv) (p1 : Int) (p2 : (List Int)) (v175 : Int) (v201 : (List SSpan)) (v202 : Int) (v203 : Bool) (k : KX R) : X cp n i34_21 (fr34_54 p0 p1 p2 v175 v201 v202 v203) k = s34_68 cp n p0 p1 p2 v175 v201 v202 v203 (k .norm (fr34_54 p0 p1 p2 v175 v201 v202 v203)) := by kernel_rfl
def fr34_70 (v227 : SRecv) (v228 : Bool) : FF := [dT 3 ((.ptr 112 0) :: (dT 2 ((.ptr 132 0) :: (dT 4 ((.ptr 153 0) :: (dT 4 [])))))), dc, dc, dc, dc, dc, dc, (.hdr 15) :: (eRecvt v227), dT 4 ([.hdr 15, (tL 0), .row true (.ruint8 []), .row true (.rPiece []), (tL 0), (tL 0), (tL 0), (tI .u32 0), (tB false), (tB false), (tL 0), (tB false)]), (.row true (.rSpan [])) :: (tI .u32 0) :: (tI .u32 0) :: (tB false) :: (dT 5 ((.hdr 1) :: (tB v228) :: (dT 5 []))), dc, dc]
theorem s34_69_t (cp : CP) (n : Nat) (p0 : SRecv) (p1 : Int) (p2 : (List Int)) (v175 : Int) (v201 : (List SSpan)) (v202 : Int) (v203 : Bool) (k : KX R) : X cp n i34_22 (fr34_54 p0 p1 p2 v175 v201 v202 v203) k = s34_69 cp n p0 p1 p2 v175 v201 v202 v203 (fun v227 v228 => k .norm (fr34_70 v227 v228)) := (show X cp n i34_22 (fr34_54 p0 p1 p2 v175 v201 v202 v203) k = cond (v203) (X cp n i34_20 (fr34_54 p0 p1 p2 v175 v201 v202 v203) (clrT [8, 9, 12, 13, 44] [(128, 1), (130, 1), (148, 1)] k)) (X cp n i34_21 (fr34_54 p0 p1 p2 v175 v201 v202 v203) (clrT [8, 9, 12, 13, 44] [(128, 1), (130, 1), (148, 1)] k)) from by kernel_rfl).trans (cc ((s34_67_t cp n p0 p1 p2 v175 v201 v202 v203 (clrT [8, 9, 12, 13, 44] [(128, 1), (130, 1), (148, 1)] k)).trans (show s34_67 cp n p0 p1 p2 v175 v201 v202 v203 (fun v225 v226 => (clrT [8, 9, 12, 13, 44] [(128, 1), (130, 1), (148, 1)] k) .norm (fr34_66 v225 v226)) = s34_67 cp n p0 p1 p2 v175 v201 v202 v203 (fun v225 v226 => k .norm (fr34_70 v225 v226)) from by kernel_rfl)) ((s34_68_t cp n p0 p1 p2 v175 v201 v202 v203 (clrT [8, 9, 12, 13, 44] [(128, 1), (130, 1), (148, 1)] k)).trans (show s34_68 cp n p0 p1 p2 v175 v201 v202 v203 ((clrT [8, 9, 12, 13, 44] [(128, 1), (130, 1), (148, 1)] k) .norm (fr34_54 p0 p1 p2 v175 v201 v202 v203)) = s34_68 cp n p0 p1 p2 v175 v201 v202 v203 (k .norm (fr34_70 p0 false)) from by kernel_rfl)))
def fr34_71 (v229 : SRecv) (v230 : Bool) : FF := [dT 3 ((.ptr 112 0) :: (dT 2 ((.ptr 132 0) :: (dT 4 ((.ptr 153 0) :: (dT 4 [])))))), dc, dc, dc, dc, dc, dc, (.hdr 15) :: (eRecvt v229), dT 4 ([.hdr 15, (tL 0), .row true (.ruint8 []), .row true (.rPiece []), (tL 0), (tL 0), (tL 0), (tI .u32 0), (tB false), (tB false), (tL 0), (tB false)]), (.row true (.rSpan [])) :: (tI .u32 0) :: (tI .u32 0) :: (tB false) :: (dT 5 ((.hdr 1) :: (tB v230) :: (dT 5 []))), dc, dc]
theorem s34_72_t (cp : CP) (n : Nat) (p0 : SRecv) (p1 : Int) (p2 : (List Int)) (v175 : Int) (v201 : (List SSpan)) (k : KX R) : X cp n i34_23 (fr34_52 p0 p1 p2 v175 v201) k = s34_72 cp n p0 p1 p2 v175 v201 (fun v229 v230 => k .norm (fr34_71 v229 v230)) := ((fun c => (show X cp n (.seq (.fin (.reg g34_10) [4, 38, 39, 40, 41] []) (.seq (.fin (.reg g34_11) [42, 43] []) c)) (fr34_52 p0 p1 p2 v175 v201) k = s34_53 cp n p0 p1 p2 v175 v201 (fun v202 v203 => X cp n c (fr34_54 p0 p1 p2 v175 v201 v202 v203) k) from by kernel_rfl)) i34_22).trans (congrArg (fun q => s34_53 cp n p0 p1 p2 v175 v201 q) (funext fun v202 => funext fun v203 => (s34_69_t cp n p0 p1 p2 v175 v201 v202 v203 k).trans (show s34_69 cp n p0 p1 p2 v175 v201 v202 v203 (fun v227 v228 => k .norm (fr34_70 v227 v228)) = s34_69 cp n p0 p1 p2 v175 v201 v202 v203 (fun v227 v228 => k .norm (fr34_71 v227 v228)) from by kernel_rfl)))
def fr34_74 (v230 : Bool) (v232 : SRecv) : FF := [dT 3 ((.ptr 112 0) :: (dT 2 ((.ptr 132 0) :: (dT 4 ((.ptr 153 0) :: (dT 4 [])))))), dc, dc, dc, dc, dc, dc, [.hdr 15, (tL v232.xNext), .row true (.ruint8 v232.xUnread), .row false (.rPiece v232.xLate), (tL v232.xCap), (tL v232.xShift), (tL v232.xEdge), (tI .u32 v232.xRecent), (tB v232.xStamps), (tB v232.xSacks), (tL v232.xFin), (tB v232.xDone), .row true (.rSpan v232.xFirst), (tI .u32 v232.xIrs), (tI .u32 v232.xOwn), (tB v232.xStamp)], dT 4 ([.hdr 15, (tL 0), .row true (.ruint8 []), .row true (.rPiece []), (tL 0), (tL 0), (tL 0), (tI .u32 0), (tB false), (tB false), (tL 0), (tB false)]), (.row true (.rSpan [])) :: (tI .u32 0) :: (tI .u32 0) :: (tB false) :: (dT 5 ((.hdr 1) :: (tB v230) :: (dT 5 []))), dc, dc]
def fr34_75 (v230 : Bool) (v231 : SRecv) : FF := [dT 3 ((.ptr 112 0) :: (dT 2 ((.ptr 132 0) :: (dT 4 ((.ptr 153 0) :: (dT 4 [])))))), dc, dc, dc, dc, dc, dc, [.hdr 15, (tL v231.xNext), .row true (.ruint8 v231.xUnread), .row false (.rPiece v231.xLate), (tL v231.xCap), (tL v231.xShift), (tL v231.xEdge), (tI .u32 v231.xRecent), (tB v231.xStamps), (tB v231.xSacks), (tL v231.xFin), (tB v231.xDone), .row true (.rSpan v231.xFirst), (tI .u32 v231.xIrs), (tI .u32 v231.xOwn), (tB v231.xStamp)], dT 4 ([.hdr 15, (tL 0), .row true (.ruint8 []), .row true (.rPiece []), (tL 0), (tL 0), (tL 0), (tI .u32 0), (tB false), (tB false), (tL 0), (tB false)]), (.row true (.rSpan [])) :: (tI .u32 0) :: (tI .u32 0) :: (tB false) :: (dT 5 ((.hdr 1) :: (tB v230) :: (dT 5 []))), dc, dc]
theorem s34_73_t (cp : CP) (n : Nat) (v230 : Bool) (v231 : SRecv) (k : KX R) : X cp n i34_24 (fr34_75 v230 v231) k = s34_73 cp n v230 v231 (fun v232 => k .norm (fr34_74 v230 v232)) (k (.exit 4) (fr34_75 v230 v231)) := by kernel_rfl
def fr34_76 (v230 : Bool) (v233 : SRecv) : FF := [dT 3 ((.ptr 112 0) :: (dT 2 ((.ptr 132 0) :: (dT 4 ((.ptr 153 0) :: (dT 4 [])))))), dc, dc, dc, dc, dc, dc, [.hdr 15, (tL v233.xNext), .row true (.ruint8 v233.xUnread), .row false (.rPiece v233.xLate), (tL v233.xCap), (tL v233.xShift), (tL v233.xEdge), (tI .u32 v233.xRecent), (tB v233.xStamps), (tB v233.xSacks), (tL v233.xFin), (tB v233.xDone), .row true (.rSpan v233.xFirst), (tI .u32 v233.xIrs), (tI .u32 v233.xOwn), (tB v233.xStamp)], dT 4 ([.hdr 15, (tL 0), .row true (.ruint8 []), .row true (.rPiece []), (tL 0), (tL 0), (tL 0), (tI .u32 0), (tB false), (tB false), (tL 0), (tB false)]), (.row true (.rSpan [])) :: (tI .u32 0) :: (tI .u32 0) :: (tB false) :: (dT 5 ((.hdr 1) :: (tB v230) :: (dT 5 []))), dc, dc]
theorem l34_77_t (cp : CP) (n : Nat) : ∀ (m : Nat) (v230 : Bool) (v231 : SRecv) (k : KX R), loopN2 (X cp n i34_24) m (fr34_75 v230 v231) k = l34_77 cp n m v230 v231 (fun v233 => k (.exit 4) (fr34_76 v230 v233))
  | 0, _, _, _ => rfl
  | m + 1, v230, v231, k => (loopN2_succ (X cp n i34_24) m (fr34_75 v230 v231) k).trans ((s34_73_t cp n v230 v231 (loopT (X cp n i34_24) m k)).trans ((show s34_73 cp n v230 v231 (fun v232 => loopT (X cp n i34_24) m k .norm (fr34_74 v230 v232)) (loopT (X cp n i34_24) m k (.exit 4) (fr34_75 v230 v231)) = s34_73 cp n v230 v231 (fun v232 => loopN2 (X cp n i34_24) m (fr34_75 v230 v232) k) (k (.exit 4) (fr34_76 v230 v231)) from by kernel_rfl).trans (congrArg (fun q => s34_73 cp n v230 v231 q (k (.exit 4) (fr34_76 v230 v231))) (funext fun v232 => l34_77_t cp n m v230 v232 k))))
def fr34_79 (v229 : SRecv) (v230 : Bool) : FF := [dT 3 ((.ptr 112 0) :: (dT 2 ((.ptr 132 0) :: (dT 4 ((.ptr 153 0) :: (dT 4 [])))))), dc, dc, dc, dc, dc, dc, [.hdr 15, (tL v229.xNext), .row true (.ruint8 v229.xUnread), .row false (.rPiece v229.xLate), (tL v229.xCap), (tL v229.xShift), (tL v229.xEdge), (tI .u32 v229.xRecent), (tB v229.xStamps), (tB v229.xSacks), (tL v229.xFin), (tB v229.xDone), .row true (.rSpan v229.xFirst), (tI .u32 v229.xIrs), (tI .u32 v229.xOwn), (tB v229.xStamp)], dT 4 ([.hdr 15, (tL 0), .row true (.ruint8 []), .row true (.rPiece []), (tL 0), (tL 0), (tL 0), (tI .u32 0), (tB false), (tB false), (tL 0), (tB false)]), (.row true (.rSpan [])) :: (tI .u32 0) :: (tI .u32 0) :: (tB false) :: (dT 5 ((.hdr 1) :: (tB v230) :: (dT 5 []))), dc, dc]
theorem s34_78_t (cp : CP) (n : Nat) (v229 : SRecv) (v230 : Bool) (k : KX R) : X cp n i34_25 (fr34_79 v229 v230) k = s34_78 cp n v229 v230 (fun v233 => k (.exit 4) (fr34_76 v230 v233)) := (show X cp n i34_25 (fr34_79 v229 v230) k = loopN2 (X cp n i34_24) n (fr34_75 v230 v229) k from by kernel_rfl).trans (l34_77_t cp n n v230 v229 k)
theorem s34_80_t (cp : CP) (n : Nat) (v229 : SRecv) (v230 : Bool) (k : KX R) : X cp n i34_26 (fr34_71 v229 v230) k = s34_80 cp n v229 v230 (fun v233 => k (.exit 4) (fr34_76 v230 v233)) := (show X cp n i34_26 (fr34_71 v229 v230) k = X cp n i34_25 (fr34_79 v229 v230) k from by kernel_rfl).trans (s34_78_t cp n v229 v230 k)
def fr34_81 (v230 : Bool) (v234 : SRecv) : FF := [dT 3 ((.ptr 112 0) :: (dT 2 ((.ptr 132 0) :: (dT 4 ((.ptr 153 0) :: (dT 4 [])))))), dc, dc, dc, dc, dc, dc, [.hdr 15, (tL v234.xNext), .row true (.ruint8 v234.xUnread), .row false (.rPiece v234.xLate), (tL v234.xCap), (tL v234.xShift), (tL v234.xEdge), (tI .u32 v234.xRecent), (tB v234.xStamps), (tB v234.xSacks), (tL v234.xFin), (tB v234.xDone), .row true (.rSpan v234.xFirst), (tI .u32 v234.xIrs), (tI .u32 v234.xOwn), (tB v234.xStamp)], dT 4 ([.hdr 15, (tL 0), .row true (.ruint8 []), .row true (.rPiece []), (tL 0), (tL 0), (tL 0), (tI .u32 0), (tB false), (tB false), (tL 0), (tB false)]), (.row true (.rSpan [])) :: (tI .u32 0) :: (tI .u32 0) :: (tB false) :: (dT 5 ((.hdr 1) :: (tB v230) :: (dT 5 []))), dc, dc]
theorem s34_82_t (cp : CP) (n : Nat) (v229 : SRecv) (v230 : Bool) (k : KX R) : X cp n i34_27 (fr34_71 v229 v230) k = s34_82 cp n v229 v230 (fun v234 => k .norm (fr34_81 v230 v234)) := (show X cp n i34_27 (fr34_71 v229 v230) k = X cp n i34_26 (fr34_71 v229 v230) (blkT 4 k) from by kernel_rfl).trans ((s34_80_t cp n v229 v230 (blkT 4 k)).trans (by kernel_rfl))
def fr34_84 (v230 : Bool) (v234 : SRecv) : FF := [dT 6 ((.ptr 132 0) :: (tB v230) :: (dT 8 [])), dc, dc, dc, dc, dc, dc, dc, dT 4 ([.hdr 15, (tL v234.xNext), .row true (.ruint8 v234.xUnread), .row false (.rPiece v234.xLate), (tL v234.xCap), (tL v234.xShift), (tL v234.xEdge), (tI .u32 v234.xRecent), (tB v234.xStamps), (tB v234.xSacks), (tL v234.xFin), (tB v234.xDone)]), (.row true (.rSpan v234.xFirst)) :: (tI .u32 v234.xIrs) :: (tI .u32 v234.xOwn) :: (tB v234.xStamp) :: (dT 12 []), dc, dc]
theorem s34_83_t (cp : CP) (n : Nat) (v230 : Bool) (v234 : SRecv) (k : KX R) : X cp n i34_28 (fr34_81 v230 v234) k = s34_83 cp n v230 v234 (k .ret (fr34_84 v230 v234)) := by kernel_rfl
def fr34_85 (v230 : Bool) (v235 : SRecv) : FF := [dT 6 ((.ptr 132 0) :: (tB v230) :: (dT 8 [])), dc, dc, dc, dc, dc, dc, dc, dT 4 ([.hdr 15, (tL v235.xNext), .row true (.ruint8 v235.xUnread), .row false (.rPiece v235.xLate), (tL v235.xCap), (tL v235.xShift), (tL v235.xEdge), (tI .u32 v235.xRecent), (tB v235.xStamps), (tB v235.xSacks), (tL v235.xFin), (tB v235.xDone)]), (.row true (.rSpan v235.xFirst)) :: (tI .u32 v235.xIrs) :: (tI .u32 v235.xOwn) :: (tB v235.xStamp) :: (dT 12 []), dc, dc]
theorem s34_86_t (cp : CP) (n : Nat) (v229 : SRecv) (v230 : Bool) (k : KX R) : X cp n i34_29 (fr34_71 v229 v230) k = s34_86 cp n v229 v230 (fun v235 => k .ret (fr34_85 v230 v235)) := (show X cp n i34_29 (fr34_71 v229 v230) k = X cp n i34_27 (fr34_71 v229 v230) (seqT (X cp n) i34_28 k) from by kernel_rfl).trans ((show X cp n i34_27 (fr34_71 v229 v230) (seqT (X cp n) i34_28 k) = s34_82 cp n v229 v230 (fun v234 => X cp n i34_28 (fr34_81 v230 v234) k) from (s34_82_t cp n v229 v230 (seqT (X cp n) i34_28 k)).trans (by kernel_rfl)).trans (congrArg (fun q => s34_82 cp n v229 v230 q) (funext fun v234 => (s34_83_t cp n v230 v234 k).trans (show s34_83 cp n v230 v234 (k .ret (fr34_84 v230 v234)) = s34_83 cp n v230 v234 (k .ret (fr34_85 v230 v234)) from by kernel_rfl))))
def fr34_87 (v236 : Bool) (v237 : SRecv) : FF := [dT 6 ((.ptr 132 0) :: (tB v236) :: (dT 8 [])), dc, dc, dc, dc, dc, dc, dc, dT 4 ([.hdr 15, (tL v237.xNext), .row true (.ruint8 v237.xUnread), .row false (.rPiece v237.xLate), (tL v237.xCap), (tL v237.xShift), (tL v237.xEdge), (tI .u32 v237.xRecent), (tB v237.xStamps), (tB v237.xSacks), (tL v237.xFin), (tB v237.xDone)]), (.row true (.rSpan v237.xFirst)) :: (tI .u32 v237.xIrs) :: (tI .u32 v237.xOwn) :: (tB v237.xStamp) :: (dT 12 []), dc, dc]
theorem s34_88_t (cp : CP) (n : Nat) (p0 : SRecv) (p1 : Int) (p2 : (List Int)) (v175 : Int) (v201 : (List SSpan)) (k : KX R) : X cp n i34_30 (fr34_52 p0 p1 p2 v175 v201) k = s34_88 cp n p0 p1 p2 v175 v201 (fun v236 v237 => k .ret (fr34_87 v236 v237)) := (show X cp n i34_30 (fr34_52 p0 p1 p2 v175 v201) k = X cp n i34_23 (fr34_52 p0 p1 p2 v175 v201) (seqT (X cp n) i34_29 k) from by kernel_rfl).trans ((show X cp n i34_23 (fr34_52 p0 p1 p2 v175 v201) (seqT (X cp n) i34_29 k) = s34_72 cp n p0 p1 p2 v175 v201 (fun v229 v230 => X cp n i34_29 (fr34_71 v229 v230) k) from (s34_72_t cp n p0 p1 p2 v175 v201 (seqT (X cp n) i34_29 k)).trans (by kernel_rfl)).trans (congrArg (fun q => s34_72 cp n p0 p1 p2 v175 v201 q) (funext fun v229 => funext fun v230 => (s34_86_t cp n v229 v230 k).trans (show s34_86 cp n v229 v230 (fun v235 => k .ret (fr34_85 v230 v235)) = s34_86 cp n v229 v230 (fun v235 => k .ret (fr34_87 v230 v235)) from by kernel_rfl))))
def fr34_89 (v238 : Bool) (v239 : SRecv) : FF := [dT 6 ((.ptr 132 0) :: (tB v238) :: (dT 8 [])), dc, dc, dc, dc, dc, dc, dc, dT 4 ([.hdr 15, (tL v239.xNext), .row true (.ruint8 v239.xUnread), .row false (.rPiece v239.xLate), (tL v239.xCap), (tL v239.xShift), (tL v239.xEdge), (tI .u32 v239.xRecent), (tB v239.xStamps), (tB v239.xSacks), (tL v239.xFin), (tB v239.xDone)]), (.row true (.rSpan v239.xFirst)) :: (tI .u32 v239.xIrs) :: (tI .u32 v239.xOwn) :: (tB v239.xStamp) :: (dT 12 []), dc, dc]
theorem s34_90_t (cp : CP) (n : Nat) (p0 : SRecv) (p1 : Int) (p2 : (List Int)) (v175 : Int) (v201 : (List SSpan)) (k : KX R) : X cp n i34_31 (fr34_49 p0 p1 p2 v175 v201) k = s34_90 cp n p0 p1 p2 v175 v201 (fun v238 v239 => k .ret (fr34_89 v238 v239)) := ((fun c => (show X cp n (.seq (.reg g34_8) (.seq (.fin (.reg g34_9) [5, 37] []) c)) (fr34_49 p0 p1 p2 v175 v201) k = s34_51 cp n p0 p1 p2 v175 v201 (X cp n c (fr34_52 p0 p1 p2 v175 v201) k) from by kernel_rfl)) i34_30).trans (congrArg (fun q => s34_51 cp n p0 p1 p2 v175 v201 q) ((s34_88_t cp n p0 p1 p2 v175 v201 k).trans (show s34_88 cp n p0 p1 p2 v175 v201 (fun v236 v237 => k .ret (fr34_87 v236 v237)) = s34_88 cp n p0 p1 p2 v175 v201 (fun v236 v237 => k .ret (fr34_89 v236 v237)) from by kernel_rfl)))
def fr34_91 (v240 : Bool) (v241 : SRecv) : FF := [dT 6 ((.ptr 132 0) :: (tB v240) :: (dT 8 [])), dc, dc, dc, dc, dc, dc, dc, dT 4 ([.hdr 15, (tL v241.xNext), .row true (.ruint8 v241.xUnread), .row false (.rPiece v241.xLate), (tL v241.xCap), (tL v241.xShift), (tL v241.xEdge), (tI .u32 v241.xRecent), (tB v241.xStamps), (tB v241.xSacks), (tL v241.xFin), (tB v241.xDone)]), (.row true (.rSpan v241.xFirst)) :: (tI .u32 v241.xIrs) :: (tI .u32 v241.xOwn) :: (tB v241.xStamp) :: (dT 12 []), dc, dc]
theorem s34_92_t (cp : CP) (n : Nat) (p0 : SRecv) (p1 : Int) (p2 : (List Int)) (v175 : Int) (k : KX R) : X cp n i34_32 (fr34_2 p0 p1 p2 v175) k = s34_92 cp n p0 p1 p2 v175 (fun v240 v241 => k .ret (fr34_91 v240 v241)) := (show X cp n i34_32 (fr34_2 p0 p1 p2 v175) k = X cp n i34_16 (fr34_2 p0 p1 p2 v175) (seqT (X cp n) i34_31 k) from by kernel_rfl).trans ((show X cp n i34_16 (fr34_2 p0 p1 p2 v175) (seqT (X cp n) i34_31 k) = s34_50 cp n p0 p1 p2 v175 (fun v201 => X cp n i34_31 (fr34_49 p0 p1 p2 v175 v201) k) from (s34_50_t cp n p0 p1 p2 v175 (seqT (X cp n) i34_31 k)).trans (by kernel_rfl)).trans (congrArg (fun q => s34_50 cp n p0 p1 p2 v175 q) (funext fun v201 => (s34_90_t cp n p0 p1 p2 v175 v201 k).trans (show s34_90 cp n p0 p1 p2 v175 v201 (fun v238 v239 => k .ret (fr34_89 v238 v239)) = s34_90 cp n p0 p1 p2 v175 v201 (fun v238 v239 => k .ret (fr34_91 v238 v239)) from by kernel_rfl))))
def fr34_93 (v242 : Bool) (v243 : SRecv) : FF := [dT 6 ((.ptr 132 0) :: (tB v242) :: (dT 8 [])), dc, dc, dc, dc, dc, dc, dc, dT 4 ([.hdr 15, (tL v243.xNext), .row true (.ruint8 v243.xUnread), .row false (.rPiece v243.xLate), (tL v243.xCap), (tL v243.xShift), (tL v243.xEdge), (tI .u32 v243.xRecent), (tB v243.xStamps), (tB v243.xSacks), (tL v243.xFin), (tB v243.xDone)]), (.row true (.rSpan v243.xFirst)) :: (tI .u32 v243.xIrs) :: (tI .u32 v243.xOwn) :: (tB v243.xStamp) :: (dT 12 []), dc, dc]
def fr34_95 (p0 : SRecv) (p1 : Int) (p2 : (List Int)) : FF := [(.agg (eRecvt p0)) :: (tL p1) :: (.row false (.ruint8 p2)) :: (dT 13 []), dc, dc, dc, dc, dc, dc, dc, dc, dc, dc, dc]
theorem s34_94_t (cp : CP) (n : Nat) (p0 : SRecv) (p1 : Int) (p2 : (List Int)) (k : KX R) : X cp n i34_33 (fr34_95 p0 p1 p2) k = s34_94 cp n p0 p1 p2 (fun v242 v243 => k .ret (fr34_93 v242 v243)) := ((fun c => (show X cp n (.seq (.fin (.reg g34_0) [0, 1, 2, 7] []) (.seq (.fin (.reg g34_1) [16, 17, 18, 19, 20, 21, 22] []) (.seq (.seq (.fin (.reg g34_2) [23, 24] []) (.fin (.cond (.s 25) (.fin (.reg g34_3) [25, 26, 27, 28, 29] []) i34_21) [25] [])) (.seq (.reg g34_4) c)))) (fr34_95 p0 p1 p2) k = s34_1 cp n p0 p1 p2 (fun v175 => X cp n c (fr34_2 p0 p1 p2 v175) k) from by kernel_rfl)) i34_32).trans (congrArg (fun q => s34_1 cp n p0 p1 p2 q) (funext fun v175 => (s34_92_t cp n p0 p1 p2 v175 k).trans (show s34_92 cp n p0 p1 p2 v175 (fun v240 v241 => k .ret (fr34_91 v240 v241)) = s34_92 cp n p0 p1 p2 v175 (fun v240 v241 => k .ret (fr34_93 v240 v241)) from by kernel_rfl)))
theorem run34 (cp : CP) (n : Nat) (p0 : SRecv) (p1 : Int) (p2 : (List Int)) (k : Ret2 RW → Option R) : G34 cp (n + 1) p0 p1 p2 (fun r0 r1 => k ⟨.tup [.agg [(tL r0.xNext), .row true (.ruint8 r0.xUnread), .row false (.rPiece r0.xLate), (tL r0.xCap), (tL r0.xShift), (tL r0.xEdge), (tI .u32 r0.xRecent), (tB r0.xStamps), (tB r0.xSacks), (tL r0.xFin), (tB r0.xDone), .row true (.rSpan r0.xFirst), (tI .u32 r0.xIrs), (tI .u32 r0.xOwn), (tB r0.xStamp)], (tB r1)], [], []⟩) = run2 U cp (callP cp n) n fn34 [.agg (eRecvt p0), (tL p1), .row false (.ruint8 p2)] [] k := ((X_run (f := fn34) (av := [.agg (eRecvt p0), (tL p1), .row false (.ruint8 p2)]) (cells := []) (code := i34_33) (fr := (fr34_95 p0 p1 p2)) (k := k) (by kernel_rfl) (fun K => by kernel_rfl)).trans ((s34_94_t cp n p0 p1 p2 (finK2 fn34 k)).trans (by kernel_rfl))).symm
/-! tideway/recv.firsts$1 -/
theorem run1039 (cp : CP) (n : Nat) (p0 q0 : SSpan) (k : Ret2 RW → Option R) : G1039 cp (n + 1) p0 q0 (fun r0 r1 => k ⟨(tB r0), [(eSpan r1)], []⟩) = run2 U cp (callP cp n) n fn1039 [.agg (eSpan p0), .ptr 16 0] [(eSpan q0)] k := by kernel_rfl
/-! slices.IndexFunc[[]tideway/api.Span,tideway/api.Span] -/
def fr1038_2 (p0 : (List SSpan)) (q0 : SSpan) : FF := [(.row false (.rSpan p0)) :: (.clo 63 [(19, 0)]) :: (dT 14 []), dT 3 ((.hdr 2) :: ((eSpan q0) ++ (dT 10 [])))]
def fr1038_4 (p0 : (List SSpan)) (q0 : SSpan) (v261 : Int) : FF := [(.row false (.rSpan p0)) :: (.clo 63 [(19, 0)]) :: (dT 5 ((tL v261) :: (tL 0) :: (dT 7 []))), dT 3 ((.hdr 2) :: ((eSpan q0) ++ (dT 10 [])))]
def fr1038_6 (p0 : (List SSpan)) (v261 v267 v268 v269 : Int) : FF := [(.row false (.rSpan p0)) :: (.clo 63 [(19, 0)]) :: (dT 5 ((tL v261) :: (tL v267) :: (dT 7 []))), dT 3 ((.hdr 2) :: (tL v268) :: (tL v269) :: (dT 10 []))]
def fr1038_7 (v262 v270 v271 : Int) : FF := [dT 4 ((tL v262) :: (dT 11 [])), dT 3 ((.hdr 2) :: (tL v270) :: (tL v271) :: (dT 10 []))]
def fr1038_8 (v263 v264 : Int) : FF := [dc, dT 3 ((.hdr 2) :: (tL v263) :: (tL v264) :: (dT 10 []))]
def fr1038_9 (p0 : (List SSpan)) (v261 v262 v263 v264 : Int) : FF := [(.row false (.rSpan p0)) :: (.clo 63 [(19, 0)]) :: (dT 5 ((tL v261) :: (tL v262) :: (dT 7 []))), dT 3 ((.hdr 2) :: (tL v263) :: (tL v264) :: (dT 10 []))]
theorem s1038_5_t (cp : CP) (n : Nat) (p0 : (List SSpan)) (v261 v262 v263 v264 : Int) (k : KX R) : X cp n i1038_0 (fr1038_9 p0 v261 v262 v263 v264) k = s1038_5 cp n p0 v261 v262 v263 v264 (fun v267 v268 v269 => k .norm (fr1038_6 p0 v261 v267 v268 v269)) (fun v270 v271 => k .ret (fr1038_7 v262 v270 v271)) (k (.exit 0) (fr1038_8 v263 v264)) := by kernel_rfl
def fr1038_10 (v272 v273 v274 : Int) : FF := [dT 4 ((tL v272) :: (dT 11 [])), dT 3 ((.hdr 2) :: (tL v273) :: (tL v274) :: (dT 10 []))]
def fr1038_11 (v275 v276 : Int) : FF := [dc, dT 3 ((.hdr 2) :: (tL v275) :: (tL v276) :: (dT 10 []))]
theorem l1038_12_t (cp : CP) (n : Nat) : ∀ (m : Nat) (p0 : (List SSpan)) (v261 v262 v263 v264 : Int) (k : KX R), loopN2 (X cp n i1038_0) m (fr1038_9 p0 v261 v262 v263 v264) k = l1038_12 cp n m p0 v261 v262 v263 v264 (fun v272 v273 v274 => k .ret (fr1038_10 v272 v273 v274)) (fun v275 v276 => k (.exit 0) (fr1038_11 v275 v276))
  | 0, _, _, _, _, _, _ => rfl
  | m + 1, p0, v261, v262, v263, v264, k => (loopN2_succ (X cp n i1038_0) m (fr1038_9 p0 v261 v262 v263 v264) k).trans ((s1038_5_t cp n p0 v261 v262 v263 v264 (loopT (X cp n i1038_0) m k)).trans ((show s1038_5 cp n p0 v261 v262 v263 v264 (fun v267 v268 v269 => loopT (X cp n i1038_0) m k .norm (fr1038_6 p0 v261 v267 v268 v269)) (fun v270 v271 => loopT (X cp n i1038_0) m k .ret (fr1038_7 v262 v270 v271)) (loopT (X cp n i1038_0) m k (.exit 0) (fr1038_8 v263 v264)) = s1038_5 cp n p0 v261 v262 v263 v264 (fun v267 v268 v269 => loopN2 (X cp n i1038_0) m (fr1038_9 p0 v261 v267 v268 v269) k) (fun v270 v271 => k .ret (fr1038_10 v262 v270 v271)) (k (.exit 0) (fr1038_11 v263 v264)) from by kernel_rfl).trans (congrArg (fun q => s1038_5 cp n p0 v261 v262 v263 v264 q (fun v270 v271 => k .ret (fr1038_10 v262 v270 v271)) (k (.exit 0) (fr1038_11 v263 v264))) (funext fun v267 => funext fun v268 => funext fun v269 => l1038_12_t cp n m p0 v261 v267 v268 v269 k))))
theorem s1038_13_t (cp : CP) (n : Nat) (p0 : (List SSpan)) (q0 : SSpan) (v261 : Int) (k : KX R) : X cp n i1038_1 (fr1038_4 p0 q0 v261) k = s1038_13 cp n p0 q0 v261 (fun v272 v273 v274 => k .ret (fr1038_10 v272 v273 v274)) (fun v275 v276 => k (.exit 0) (fr1038_11 v275 v276)) := (show X cp n i1038_1 (fr1038_4 p0 q0 v261) k = loopN2 (X cp n i1038_0) n (fr1038_9 p0 v261 0 q0.xFrom q0.xTo) k from by kernel_rfl).trans (l1038_12_t cp n n p0 v261 0 q0.xFrom q0.xTo k)
def fr1038_14 (v277 v278 : Int) : FF := [dc, dT 3 ((.hdr 2) :: (tL v277) :: (tL v278) :: (dT 10 []))]
def fr1038_15 (v279 v280 v281 : Int) : FF := [dT 4 ((tL v279) :: (dT 11 [])), dT 3 ((.hdr 2) :: (tL v280) :: (tL v281) :: (dT 10 []))]
theorem s1038_16_t (cp : CP) (n : Nat) (p0 : (List SSpan)) (q0 : SSpan) (v261 : Int) (k : KX R) : X cp n i1038_2 (fr1038_4 p0 q0 v261) k = s1038_16 cp n p0 q0 v261 (fun v277 v278 => k .norm (fr1038_14 v277 v278)) (fun v279 v280 v281 => k .ret (fr1038_15 v279 v280 v281)) := (show X cp n i1038_2 (fr1038_4 p0 q0 v261) k = X cp n i1038_1 (fr1038_4 p0 q0 v261) (blkT 0 k) from by kernel_rfl).trans ((s1038_13_t cp n p0 q0 v261 (blkT 0 k)).trans (by kernel_rfl))
def fr1038_17 (v282 v283 : Int) : FF := [dc, dT 3 ((.hdr 2) :: (tL v282) :: (tL v283) :: (dT 10 []))]
def fr1038_18 (v284 v285 v286 : Int) : FF := [dT 4 ((tL v284) :: (dT 11 [])), dT 3 ((.hdr 2) :: (tL v285) :: (tL v286) :: (dT 10 []))]
theorem s1038_19_t (cp : CP) (n : Nat) (p0 : (List SSpan)) (q0 : SSpan) (k : KX R) : X cp n i1038_3 (fr1038_2 p0 q0) k = s1038_19 cp n p0 q0 (fun v282 v283 => k .norm (fr1038_17 v282 v283)) (fun v284 v285 v286 => k .ret (fr1038_18 v284 v285 v286)) := ((fun c => (show X cp n (.seq (.fin (.reg g1038_1) [6] []) c) (fr1038_2 p0 q0) k = s1038_3 cp n p0 q0 (fun v261 => X cp n c (fr1038_4 p0 q0 v261) k) from by kernel_rfl)) i1038_2).trans (congrArg (fun q => s1038_3 cp n p0 q0 q) (funext fun v261 => (s1038_16_t cp n p0 q0 v261 k).trans (show s1038_16 cp n p0 q0 v261 (fun v277 v278 => k .norm (fr1038_14 v277 v278)) (fun v279 v280 v281 => k .ret (fr1038_15 v279 v280 v281)) = s1038_16 cp n p0 q0 v261 (fun v277 v278 => k .norm (fr1038_17 v277 v278)) (fun v279 v280 v281 => k .ret (fr1038_18 v279 v280 v281)) from by kernel_rfl)))
def fr1038_21 (v282 v283 : Int) : FF := [dT 4 ((tL (-1)) :: (dT 11 [])), dT 3 ((.hdr 2) :: (tL v282) :: (tL v283) :: (dT 10 []))]
theorem s1038_20_t (cp : CP) (n : Nat) (v282 v283 : Int) (k : KX R) : X cp n i1038_4 (fr1038_17 v282 v283) k = s1038_20 cp n v282 v283 (k .ret (fr1038_21 v282 v283)) := by kernel_rfl
def fr1038_22 (v287 v288 v289 : Int) : FF := [dT 4 ((tL v287) :: (dT 11 [])), dT 3 ((.hdr 2) :: (tL v288) :: (tL v289) :: (dT 10 []))]
theorem s1038_23_t (cp : CP) (n : Nat) (p0 : (List SSpan)) (q0 : SSpan) (k : KX R) : X cp n i1038_5 (fr1038_2 p0 q0) k = s1038_23 cp n p0 q0 (fun v287 v288 v289 => k .ret (fr1038_22 v287 v288 v289)) := (show X cp n i1038_5 (fr1038_2 p0 q0) k = X cp n i1038_3 (fr1038_2 p0 q0) (seqT (X cp n) i1038_4 k) from by kernel_rfl).trans ((show X cp n i1038_3 (fr1038_2 p0 q0) (seqT (X cp n) i1038_4 k) = s1038_19 cp n p0 q0 (fun v282 v283 => X cp n i1038_4 (fr1038_17 v282 v283) k) (fun v284 v285 v286 => k .ret (fr1038_22 v284 v285 v286)) from (s1038_19_t cp n p0 q0 (seqT (X cp n) i1038_4 k)).trans (by kernel_rfl)).trans (congrArg (fun q => s1038_19 cp n p0 q0 q (fun v284 v285 v286 => k .ret (fr1038_22 v284 v285 v286))) (funext fun v282 => funext fun v283 => (s1038_20_t cp n v282 v283 k).trans (show s1038_20 cp n v282 v283 (k .ret (fr1038_21 v282 v283)) = s1038_20 cp n v282 v283 (k .ret (fr1038_22 (-1) v282 v283)) from by kernel_rfl))))
def fr1038_24 (v290 v291 v292 : Int) : FF := [dT 4 ((tL v290) :: (dT 11 [])), dT 3 ((.hdr 2) :: (tL v291) :: (tL v292) :: (dT 10 []))]
theorem s1038_25_t (cp : CP) (n : Nat) (p0 : (List SSpan)) (q0 : SSpan) (k : KX R) : X cp n i1038_6 (fr1038_2 p0 q0) k = s1038_25 cp n p0 q0 (fun v290 v291 v292 => k .ret (fr1038_24 v290 v291 v292)) := ((fun c => (show X cp n (.seq (.fin (.reg g1038_0) [4] []) c) (fr1038_2 p0 q0) k = s1038_1 cp n p0 q0 (X cp n c (fr1038_2 p0 q0) k) from by kernel_rfl)) i1038_5).trans (congrArg (fun q => s1038_1 cp n p0 q0 q) ((s1038_23_t cp n p0 q0 k).trans (show s1038_23 cp n p0 q0 (fun v287 v288 v289 => k .ret (fr1038_22 v287 v288 v289)) = s1038_23 cp n p0 q0 (fun v287 v288 v289 => k .ret (fr1038_24 v287 v288 v289)) from by kernel_rfl)))
theorem run1038 (cp : CP) (n : Nat) (p0 : (List SSpan)) (q0 : SSpan) (k : Ret2 RW → Option R) : G1038 cp (n + 1) p0 q0 (fun r0 r1 => k ⟨(tL r0), [(eSpan r1)], []⟩) = run2 U cp (callP cp n) n fn1038 [.row false (.rSpan p0), .clo 63 [(19, 0)]] [(eSpan q0)] k := ((X_run (f := fn1038) (av := [.row false (.rSpan p0), .clo 63 [(19, 0)]]) (cells := [(eSpan q0)]) (code := i1038_6) (fr := (fr1038_2 p0 q0)) (k := k) (by kernel_rfl) (fun K => by kernel_rfl)).trans ((s1038_25_t cp n p0 q0 (finK2 fn1038 k)).trans (by kernel_rfl))).symm
/-! tideway/recv.firsts -/
def fr35_2 (p0 : SRecv) (p1 : Int) (p2 : (List Int)) (v252 : (List SSpan)) : FF := [dT 1 ((tL p1) :: (.row false (.ruint8 p2)) :: (dT 4 ((.row false (.rSpan v252)) :: (.row false (.rSpan p0.xFirst)) :: (dT 7 [])))), dc, dc, dc, dc, dc, dc, dc]
def fr35_4 (p0 : SRecv) (p1 : Int) (p2 : (List Int)) (v252 : (List SSpan)) (v253 : Int) : FF := [dT 1 ((tL p1) :: (.row false (.ruint8 p2)) :: (dT 4 ((.row false (.rSpan v252)) :: (.row false (.rSpan p0.xFirst)) :: (tL v253) :: (dT 6 [])))), dc, dc, dc, dc, dc, dc, dc]
def fr35_6 (p0 : SRecv) (p1 : Int) (p2 : (List Int)) (v252 : (List SSpan)) (v255 : Int) : FF := [dT 1 ((tL p1) :: (.row false (.ruint8 p2)) :: (dT 4 ((.row false (.rSpan v252)) :: (.row false (.rSpan p0.xFirst)) :: (tL v255) :: (dT 6 [])))), dc, dc, dc, dc, dc, dc, dc]
def fr35_7 (v252 v256 : (List SSpan)) : FF := [dT 7 ((.row false (.rSpan v252)) :: (.row false (.rSpan v256)) :: (dT 7 [])), dc, dc, dc, dc, dc, dc, dc]
def fr35_8 (p0 : SRecv) (p1 : Int) (p2 : (List Int)) (v252 : (List SSpan)) (v254 : Int) : FF := [dT 1 ((tL p1) :: (.row false (.ruint8 p2)) :: (dT 4 ((.row false (.rSpan v252)) :: (.row false (.rSpan p0.xFirst)) :: (tL v254) :: (dT 6 [])))), dc, dc, dc, dc, dc, dc, dc]
theorem s35_5_t (cp : CP) (n : Nat) (p0 : SRecv) (p1 : Int) (p2 : (List Int)) (v252 : (List SSpan)) (v254 : Int) (k : KX R) : X cp n i35_0 (fr35_8 p0 p1 p2 v252 v254) k = s35_5 cp n p0 p1 p2 v252 v254 (fun v255 => k .norm (fr35_6 p0 p1 p2 v252 v255)) (fun v256 => k (.exit 0) (fr35_7 v252 v256)) := by kernel_rfl
def fr35_9 (v252 v257 : (List SSpan)) : FF := [dT 7 ((.row false (.rSpan v252)) :: (.row false (.rSpan v257)) :: (dT 7 [])), dc, dc, dc, dc, dc, dc, dc]
theorem l35_10_t (cp : CP) (n : Nat) : ∀ (m : Nat) (p0 : SRecv) (p1 : Int) (p2 : (List Int)) (v252 : (List SSpan)) (v254 : Int) (k : KX R), loopN2 (X cp n i35_0) m (fr35_8 p0 p1 p2 v252 v254) k = l35_10 cp n m p0 p1 p2 v252 v254 (fun v257 => k (.exit 0) (fr35_9 v252 v257))
  | 0, _, _, _, _, _, _ => rfl
  | m + 1, p0, p1, p2, v252, v254, k => (loopN2_succ (X cp n i35_0) m (fr35_8 p0 p1 p2 v252 v254) k).trans ((s35_5_t cp n p0 p1 p2 v252 v254 (loopT (X cp n i35_0) m k)).trans ((show s35_5 cp n p0 p1 p2 v252 v254 (fun v255 => loopT (X cp n i35_0) m k .norm (fr35_6 p0 p1 p2 v252 v255)) (fun v256 => loopT (X cp n i35_0) m k (.exit 0) (fr35_7 v252 v256)) = s35_5 cp n p0 p1 p2 v252 v254 (fun v255 => loopN2 (X cp n i35_0) m (fr35_8 p0 p1 p2 v252 v255) k) (fun v256 => k (.exit 0) (fr35_9 v252 v256)) from by kernel_rfl).trans (congrArg (fun q => s35_5 cp n p0 p1 p2 v252 v254 q (fun v256 => k (.exit 0) (fr35_9 v252 v256))) (funext fun v255 => l35_10_t cp n m p0 p1 p2 v252 v255 k))))
theorem s35_11_t (cp : CP) (n : Nat) (p0 : SRecv) (p1 : Int) (p2 : (List Int)) (v252 : (List SSpan)) (v253 : Int) (k : KX R) : X cp n i35_1 (fr35_4 p0 p1 p2 v252 v253) k = s35_11 cp n p0 p1 p2 v252 v253 (fun v257 => k (.exit 0) (fr35_9 v252 v257)) := (show X cp n i35_1 (fr35_4 p0 p1 p2 v252 v253) k = loopN2 (X cp n i35_0) n (fr35_8 p0 p1 p2 v252 v253) k from by kernel_rfl).trans (l35_10_t cp n n p0 p1 p2 v252 v253 k)
def fr35_12 (v252 v258 : (List SSpan)) : FF := [dT 7 ((.row false (.rSpan v252)) :: (.row false (.rSpan v258)) :: (dT 7 [])), dc, dc, dc, dc, dc, dc, dc]
theorem s35_13_t (cp : CP) (n : Nat) (p0 : SRecv) (p1 : Int) (p2 : (List Int)) (v252 : (List SSpan)) (v253 : Int) (k : KX R) : X cp n i35_2 (fr35_4 p0 p1 p2 v252 v253) k = s35_13 cp n p0 p1 p2 v252 v253 (fun v258 => k .norm (fr35_12 v252 v258)) := (show X cp n i35_2 (fr35_4 p0 p1 p2 v252 v253) k = X cp n i35_1 (fr35_4 p0 p1 p2 v252 v253) (blkT 0 k) from by kernel_rfl).trans ((s35_11_t cp n p0 p1 p2 v252 v253 (blkT 0 k)).trans (by kernel_rfl))
def fr35_14 (v252 v259 : (List SSpan)) : FF := [dT 7 ((.row false (.rSpan v252)) :: (.row false (.rSpan v259)) :: (dT 7 [])), dc, dc, dc, dc, dc, dc, dc]
theorem s35_15_t (cp : CP) (n : Nat) (p0 : SRecv) (p1 : Int) (p2 : (List Int)) (v252 : (List SSpan)) (k : KX R) : X cp n i35_3 (fr35_2 p0 p1 p2 v252) k = s35_15 cp n p0 p1 p2 v252 (fun v259 => k .norm (fr35_14 v252 v259)) := ((fun c => (show X cp n (.seq (.fin (.reg g35_3) [19, 20, 21] []) c) (fr35_2 p0 p1 p2 v252) k = s35_3 cp n p0 p1 p2 v252 (fun v253 => X cp n c (fr35_4 p0 p1 p2 v252 v253) k) from by kernel_rfl)) i35_2).trans (congrArg (fun q => s35_3 cp n p0 p1 p2 v252 q) (funext fun v253 => (s35_13_t cp n p0 p1 p2 v252 v253 k).trans (show s35_13 cp n p0 p1 p2 v252 v253 (fun v258 => k .norm (fr35_12 v252 v258)) = s35_13 cp n p0 p1 p2 v252 v253 (fun v258 => k .norm (fr35_14 v252 v258)) from by kernel_rfl)))
def fr35_17 (v252 v259 : (List SSpan)) : FF := [dT 7 ((.row false (.rSpan v252)) :: (.row false (.rSpan v259)) :: (dT 1 ((.row true (.rSpan [])) :: (dT 5 [])))), dc, dc, dc, dc, dc, dc, dc]
def fr35_19 (v252 v259 : (List SSpan)) (v260 : Int) : FF := [dT 7 ((.row false (.rSpan v252)) :: (dT 2 ((.row true (.rSpan [])) :: (dT 5 [])))), dc, dc, dT 9 ((.row false (.rSpan v259)) :: (tL v260) :: (tL 0) :: (dT 4 [])), dc, dc, dc, dc]
def fr35_21 (v252 v259 : (List SSpan)) (v260 : Int) (v266 : (List SSpan)) (v267 : Int) : FF := [dT 7 ((.row false (.rSpan v252)) :: (dT 2 ((.row true (.rSpan v266)) :: (dT 5 [])))), dc, dc, dT 9 ((.row false (.rSpan v259)) :: (tL v260) :: (tL v267) :: (dT 4 [])), dc, dc, dc, dc]
def fr35_22 (v261 : (List SSpan)) : FF := [dT 10 ((.row true (.rSpan v261)) :: (dT 5 [])), dc, dc, dc, dc, dc, dc, dc]
def fr35_23 (v252 v259 : (List SSpan)) (v260 : Int) (v261 : (List SSpan)) (v262 : Int) : FF := [dT 7 ((.row false (.rSpan v252)) :: (dT 2 ((.row true (.rSpan v261)) :: (dT 5 [])))), dc, dc, dT 9 ((.row false (.rSpan v259)) :: (tL v260) :: (tL v262) :: (dT 4 [])), dc, dc, dc, dc]
theorem s35_20_t (cp : CP) (n : Nat) (v252 v259 : (List SSpan)) (v260 : Int) (v261 : (List SSpan)) (v262 : Int) (k : KX R) : X cp n i35_4 (fr35_23 v252 v259 v260 v261 v262) k = s35_20 cp n v252 v259 v260 v261 v262 (fun v266 v267 => k .norm (fr35_21 v252 v259 v260 v266 v267)) (k (.exit 2) (fr35_22 v261)) := by kernel_rfl
def fr35_24 (v268 : (List SSpan)) : FF := [dT 10 ((.row true (.rSpan v268)) :: (dT 5 [])), dc, dc, dc, dc, dc, dc, dc]
theorem l35_25_t (cp : CP) (n : Nat) : ∀ (m : Nat) (v252 v259 : (List SSpan)) (v260 : Int) (v261 : (List SSpan)) (v262 : Int) (k : KX R), loopN2 (X cp n i35_4) m (fr35_23 v252 v259 v260 v261 v262) k = l35_25 cp n m v252 v259 v260 v261 v262 (fun v268 => k (.exit 2) (fr35_24 v268))
  | 0, _, _, _, _, _, _ => rfl
  | m + 1, v252, v259, v260, v261, v262, k => (loopN2_succ (X cp n i35_4) m (fr35_23 v252 v259 v260 v261 v262) k).trans ((s35_20_t cp n v252 v259 v260 v261 v262 (loopT (X cp n i35_4) m k)).trans ((show s35_20 cp n v252 v259 v260 v261 v262 (fun v266 v267 => loopT (X cp n i35_4) m k .norm (fr35_21 v252 v259 v260 v266 v267)) (loopT (X cp n i35_4) m k (.exit 2) (fr35_22 v261)) = s35_20 cp n v252 v259 v260 v261 v262 (fun v266 v267 => loopN2 (X cp n i35_4) m (fr35_23 v252 v259 v260 v266 v267) k) (k (.exit 2) (fr35_24 v261)) from by kernel_rfl).trans (congrArg (fun q => s35_20 cp n v252 v259 v260 v261 v262 q (k (.exit 2) (fr35_24 v261))) (funext fun v266 => funext fun v267 => l35_25_t cp n m v252 v259 v260 v266 v267 k))))
theorem s35_26_t (cp : CP) (n : Nat) (v252 v259 : (List SSpan)) (v260 : Int) (k : KX R) : X cp n i35_5 (fr35_19 v252 v259 v260) k = s35_26 cp n v252 v259 v260 (fun v268 => k (.exit 2) (fr35_24 v268)) := (show X cp n i35_5 (fr35_19 v252 v259 v260) k = loopN2 (X cp n i35_4) n (fr35_23 v252 v259 v260 [] 0) k from by kernel_rfl).trans (l35_25_t cp n n v252 v259 v260 [] 0 k)
def fr35_27 (v269 : (List SSpan)) : FF := [dT 10 ((.row true (.rSpan v269)) :: (dT 5 [])), dc, dc, dc, dc, dc, dc, dc]
theorem s35_28_t (cp : CP) (n : Nat) (v252 v259 : (List SSpan)) (v260 : Int) (k : KX R) : X cp n i35_6 (fr35_19 v252 v259 v260) k = s35_28 cp n v252 v259 v260 (fun v269 => k .norm (fr35_27 v269)) := (show X cp n i35_6 (fr35_19 v252 v259 v260) k = X cp n i35_5 (fr35_19 v252 v259 v260) (blkT 2 k) from by kernel_rfl).trans ((s35_26_t cp n v252 v259 v260 (blkT 2 k)).trans (by kernel_rfl))
def fr35_29 (v270 : (List SSpan)) : FF := [dT 10 ((.row true (.rSpan v270)) :: (dT 5 [])), dc, dc, dc, dc, dc, dc, dc]
theorem s35_30_t (cp : CP) (n : Nat) (v252 v259 : (List SSpan)) (k : KX R) : X cp n i35_7 (fr35_17 v252 v259) k = s35_30 cp n v252 v259 (fun v270 => k .norm (fr35_29 v270)) := ((fun c => (show X cp n (.seq (.fin (.reg g35_9) [8] []) c) (fr35_17 v252 v259) k = s35_18 cp n v252 v259 (fun v260 => X cp n c (fr35_19 v252 v259 v260) k) from by kernel_rfl)) i35_6).trans (congrArg (fun q => s35_18 cp n v252 v259 q) (funext fun v260 => (s35_28_t cp n v252 v259 v260 k).trans (show s35_28 cp n v252 v259 v260 (fun v269 => k .norm (fr35_27 v269)) = s35_28 cp n v252 v259 v260 (fun v269 => k .norm (fr35_29 v269)) from by kernel_rfl)))
def fr35_32 (v270 : (List SSpan)) : FF := [dT 6 ((.row true (.rSpan v270)) :: (dT 9 [])), dc, dc, dc, dc, dc, dc, dc]
theorem s35_31_t (cp : CP) (n : Nat) (v270 : (List SSpan)) (k : KX R) : X cp n i35_8 (fr35_29 v270) k = s35_31 cp n v270 (k .ret (fr35_32 v270)) := by kernel_rfl
def fr35_33 (v271 : (List SSpan)) : FF := [dT 6 ((.row true (.rSpan v271)) :: (dT 9 [])), dc, dc, dc, dc, dc, dc, dc]
theorem s35_34_t (cp : CP) (n : Nat) (v252 v259 : (List SSpan)) (k : KX R) : X cp n i35_9 (fr35_17 v252 v259) k = s35_34 cp n v252 v259 (fun v271 => k .ret (fr35_33 v271)) := (show X cp n i35_9 (fr35_17 v252 v259) k = X cp n i35_7 (fr35_17 v252 v259) (seqT (X cp n) i35_8 k) from by kernel_rfl).trans ((show X cp n i35_7 (fr35_17 v252 v259) (seqT (X cp n) i35_8 k) = s35_30 cp n v252 v259 (fun v270 => X cp n i35_8 (fr35_29 v270) k) from (s35_30_t cp n v252 v259 (seqT (X cp n) i35_8 k)).trans (by kernel_rfl)).trans (congrArg (fun q => s35_30 cp n v252 v259 q) (funext fun v270 => (s35_31_t cp n v270 k).trans (show s35_31 cp n v270 (k .ret (fr35_32 v270)) = s35_31 cp n v270 (k .ret (fr35_33 v270)) from by kernel_rfl))))
def fr35_35 (v272 : (List SSpan)) : FF := [dT 6 ((.row true (.rSpan v272)) :: (dT 9 [])), dc, dc, dc, dc, dc, dc, dc]
theorem s35_36_t (cp : CP) (n : Nat) (v252 v259 : (List SSpan)) (k : KX R) : X cp n i35_10 (fr35_14 v252 v259) k = s35_36 cp n v252 v259 (fun v272 => k .ret (fr35_35 v272)) := ((fun c => (show X cp n (.seq (.reg g35_8) c) (fr35_14 v252 v259) k = s35_16 cp n v252 v259 (X cp n c (fr35_17 v252 v259) k) from by kernel_rfl)) i35_9).trans (congrArg (fun q => s35_16 cp n v252 v259 q) ((s35_34_t cp n v252 v259 k).trans (show s35_34 cp n v252 v259 (fun v271 => k .ret (fr35_33 v271)) = s35_34 cp n v252 v259 (fun v271 => k .ret (fr35_35 v271)) from by kernel_rfl)))
def fr35_37 (v273 : (List SSpan)) : FF := [dT 6 ((.row true (.rSpan v273)) :: (dT 9 [])), dc, dc, dc, dc, dc, dc, dc]
theorem s35_38_t (cp : CP) (n : Nat) (p0 : SRecv) (p1 : Int) (p2 : (List Int)) (v252 : (List SSpan)) (k : KX R) : X cp n i35_11 (fr35_2 p0 p1 p2 v252) k = s35_38 cp n p0 p1 p2 v252 (fun v273 => k .ret (fr35_37 v273)) := (show X cp n i35_11 (fr35_2 p0 p1 p2 v252) k = X cp n i35_3 (fr35_2 p0 p1 p2 v252) (seqT (X cp n) i35_10 k) from by kernel_rfl).trans ((show X cp n i35_3 (fr35_2 p0 p1 p2 v252) (seqT (X cp n) i35_10 k) = s35_15 cp n p0 p1 p2 v252 (fun v259 => X cp n i35_10 (fr35_14 v252 v259) k) from (s35_15_t cp n p0 p1 p2 v252 (seqT (X cp n) i35_10 k)).trans (by kernel_rfl)).trans (congrArg (fun q => s35_15 cp n p0 p1 p2 v252 q) (funext fun v259 => (s35_36_t cp n v252 v259 k).trans (show s35_36 cp n v252 v259 (fun v272 => k .ret (fr35_35 v272)) = s35_36 cp n v252 v259 (fun v272 => k .ret (fr35_37 v272)) from by kernel_rfl))))
def fr35_39 (v274 : (List SSpan)) : FF := [dT 6 ((.row true (.rSpan v274)) :: (dT 9 [])), dc, dc, dc, dc, dc, dc, dc]
def fr35_41 (p0 : SRecv) (p1 : Int) (p2 : (List Int)) : FF := [(.agg (eRecv p0)) :: (tL p1) :: (.row false (.ruint8 p2)) :: (dT 13 []), dc, dc, dc, dc, dc, dc, dc]
theorem s35_40_t (cp : CP) (n : Nat) (p0 : SRecv) (p1 : Int) (p2 : (List Int)) (k : KX R) : X cp n i35_12 (fr35_41 p0 p1 p2) k = s35_40 cp n p0 p1 p2 (fun v274 => k .ret (fr35_39 v274)) := ((fun c => (show X cp n (.seq (.fin (.reg g35_0) [0, 6] []) (.seq (.fin (.reg g35_1) [14, 15, 16] [(105, 15)]) (.seq (.fin (.reg g35_2) [3, 17, 18] [(86, 15)]) c))) (fr35_41 p0 p1 p2) k = s35_1 cp n p0 p1 p2 (fun v252 => X cp n c (fr35_2 p0 p1 p2 v252) k) from by kernel_rfl)) i35_11).trans (congrArg (fun q => s35_1 cp n p0 p1 p2 q) (funext fun v252 => (s35_38_t cp n p0 p1 p2 v252 k).trans (show s35_38 cp n p0 p1 p2 v252 (fun v273 => k .ret (fr35_37 v273)) = s35_38 cp n p0 p1 p2 v252 (fun v273 => k .ret (fr35_39 v273)) from by kernel_rfl)))
theorem run35 (cp : CP) (n : Nat) (p0 : SRecv) (p1 : Int) (p2 : (List Int)) (k : Ret2 RW → Option R) : G35 cp (n + 1) p0 p1 p2 (fun r0 => k ⟨.row true (.rSpan r0), [], []⟩) = run2 U cp (callP cp n) n fn35 [.agg (eRecv p0), (tL p1), .row false (.ruint8 p2)] [] k := ((X_run (f := fn35) (av := [.agg (eRecv p0), (tL p1), .row false (.ruint8 p2)]) (cells := []) (code := i35_12) (fr := (fr35_41 p0 p1 p2)) (k := k) (by kernel_rfl) (fun K => by kernel_rfl)).trans ((s35_40_t cp n p0 p1 p2 (finK2 fn35 k)).trans (by kernel_rfl))).symm
/-! tideway/recv.Input -/
def fr12_2 (p1 : SSegment) (v22 : Int) (v23 : SRecv) : FF := [dT 2 ((.ptr 140 0) :: (.ptr 156 0) :: (.ptr 172 0) :: (.ptr 188 0) :: (dT 3 ((tL v22) :: (dT 6 [])))), dc, dc, dc, dc, dc, dc, dc, dT 12 ((.hdr 15) :: (sl 0 3 (eRecvt v23))), sl 3 12 (eRecvt v23) ++ ((.hdr 15) :: (sl 0 3 (eSegment p1))), sl 3 12 (eSegment p1) ++ [.hdr 15, (tL 0), .row false (.ruint8 []), .row false (.rPiece [])], [(tL 0), (tL 0), (tL 0), (tI .u32 0), (tB false), (tB false), (tL 0), (tB false), .row false (.rSpan []), (tI .u32 0), (tI .u32 0), (tB false), .hdr 15, (tL 0), (tL 0), (tI .u32 0)], (tI .u32 0) :: (tL 0) :: (tL 0) :: (tL 0) :: (tL 0) :: (tL 0) :: (tB false) :: (tB false) :: (tI .u32 0) :: (tI .u32 0) :: (.row false (.rBlock [])) :: (.row false (.ruint8 [])) :: (dT 4 []), dc, dc, dc]
def fr12_3 (v24 : Int) (v25 : SRecv) : FF := [dT 4 ((.ptr 172 0) :: (.ptr 188 0) :: (tB false) :: (tL v24) :: (dT 8 [])), dc, dc, dc, dc, dc, dc, dc, dc, dc, dT 12 ((.hdr 15) :: (sl 0 3 (eRecv v25))), sl 3 12 (eRecv v25) ++ [.hdr 15, (tL 0), (tL 0), (tI .u32 0)], (tI .u32 0) :: (tL 0) :: (tL 0) :: (tL 0) :: (tL 0) :: (tL 0) :: (tB false) :: (tB false) :: (tI .u32 0) :: (tI .u32 0) :: (.row false (.rBlock [])) :: (.row false (.ruint8 [])) :: (dT 4 []), dc, dc, dc]
def fr12_5 (v29 : SRecv) (v30 : SSegment) : FF := [dT 4 ((.ptr 172 0) :: (.ptr 188 0) :: (tB true) :: (tL 0) :: (dT 8 [])), dc, dc, dc, dc, dc, dc, dc, dc, dc, dT 12 ((.hdr 15) :: (sl 0 3 (eRecv v29))), sl 3 12 (eRecv v29) ++ ((.hdr 15) :: (sl 0 3 (eSegment v30))), sl 3 12 (eSegment v30) ++ (dT 4 []), dc, dc, dc]
def fr12_7 (p1 : SSegment) (v22 : Int) (v23 : SRecv) (v31 : Int) (v32 : Bool) : FF := [dT 2 ((.ptr 140 0) :: (.ptr 156 0) :: (.ptr 172 0) :: (.ptr 188 0) :: (dT 3 ((tL v22) :: (dT 6 [])))), dc, dc, dc, dc, dc, dc, dc, dT 12 ([.hdr 15, (tL v23.xNext), .row true (.ruint8 v23.xUnread), .row true (.rPiece v23.xLate)]), (tL v23.xCap) :: (tL v23.xShift) :: (tL v23.xEdge) :: (tI .u32 v31) :: (tB v23.xStamps) :: (tB v23.xSacks) :: (tL v23.xFin) :: (tB v23.xDone) :: (.row true (.rSpan v23.xFirst)) :: (tI .u32 v23.xIrs) :: (tI .u32 v23.xOwn) :: (tB v32) :: (.hdr 15) :: (sl 0 3 (eSegment p1)), sl 3 12 (eSegment p1) ++ [.hdr 15, (tL 0), .row false (.ruint8 []), .row false (.rPiece [])], [(tL 0), (tL 0), (tL 0), (tI .u32 0), (tB false), (tB false), (tL 0), (tB false), .row false (.rSpan []), (tI .u32 0), (tI .u32 0), (tB false), .hdr 15, (tL 0), (tL 0), (tI .u32 0)], (tI .u32 0) :: (tL 0) :: (tL 0) :: (tL 0) :: (tL 0) :: (tL 0) :: (tB false) :: (tB false) :: (tI .u32 0) :: (tI .u32 0) :: (.row false (.rBlock [])) :: (.row false (.ruint8 [])) :: (dT 4 []), dc, dc, dc]
def fr12_9 (p1 : SSegment) (v22 : Int) (v44 : Bool) (v45 : SRecv) : FF := [dT 2 ((.ptr 140 0) :: (.ptr 156 0) :: (.ptr 172 0) :: (.ptr 188 0) :: (dT 3 ((tL v22) :: (dT 2 ((tB v44) :: (dT 3 [])))))), dc, dc, dc, dc, dc, dc, dc, dT 12 ([.hdr 15, (tL v45.xNext), .row true (.ruint8 v45.xUnread), .row false (.rPiece v45.xLate)]), (tL v45.xCap) :: (tL v45.xShift) :: (tL v45.xEdge) :: (tI .u32 v45.xRecent) :: (tB v45.xStamps) :: (tB v45.xSacks) :: (tL v45.xFin) :: (tB v45.xDone) :: (.row true (.rSpan v45.xFirst)) :: (tI .u32 v45.xIrs) :: (tI .u32 v45.xOwn) :: (tB v45.xStamp) :: (.hdr 15) :: (sl 0 3 (eSegment p1)), sl 3 12 (eSegment p1) ++ [.hdr 15, (tL 0), .row false (.ruint8 []), .row false (.rPiece [])], [(tL 0), (tL 0), (tL 0), (tI .u32 0), (tB false), (tB false), (tL 0), (tB false), .row false (.rSpan []), (tI .u32 0), (tI .u32 0), (tB false), .hdr 15, (tL 0), (tL 0), (tI .u32 0)], (tI .u32 0) :: (tL 0) :: (tL 0) :: (tL 0) :: (tL 0) :: (tL 0) :: (tB false) :: (tB false) :: (tI .u32 0) :: (tI .u32 0) :: (.row false (.rBlock [])) :: (.row false (.ruint8 [])) :: (dT 4 []), dc, dc, dc]
def fr12_11 (p1 : SSegment) (v22 : Int) (v44 : Bool) (v45 : SRecv) (v48 : (List SSpan)) : FF := [dT 2 ((.ptr 140 0) :: (.ptr 156 0) :: (.ptr 172 0) :: (.ptr 188 0) :: (dT 3 ((tL v22) :: (dT 2 ((tB v44) :: (.row true (.rBlock [])) :: (dT 2 [])))))), dc, dc, dc, dc, dc, dc, dc, dT 12 ([.hdr 15, (tL v45.xNext), .row true (.ruint8 v45.xUnread), .row false (.rPiece v45.xLate)]), (tL v45.xCap) :: (tL v45.xShift) :: (tL v45.xEdge) :: (tI .u32 v45.xRecent) :: (tB v45.xStamps) :: (tB v45.xSacks) :: (tL v45.xFin) :: (tB v45.xDone) :: (.row true (.rSpan v48)) :: (tI .u32 v45.xIrs) :: (tI .u32 v45.xOwn) :: (tB v45.xStamp) :: (.hdr 15) :: (sl 0 3 (eSegment p1)), sl 3 12 (eSegment p1) ++ [.hdr 15, (tL 0), .row false (.ruint8 []), .row false (.rPiece [])], [(tL 0), (tL 0), (tL 0), (tI .u32 0), (tB false), (tB false), (tL 0), (tB false), .row false (.rSpan []), (tI .u32 0), (tI .u32 0), (tB false), .hdr 15, (tL 0), (tL 0), (tI .u32 0)], (tI .u32 0) :: (tL 0) :: (tL 0) :: (tL 0) :: (tL 0) :: (tL 0) :: (tB false) :: (tB false) :: (tI .u32 0) :: (tI .u32 0) :: (.row false (.rBlock [])) :: (.row false (.ruint8 [])) :: (dT 4 []), dc, dc, dc]
def fr12_13 (v45 : SRecv) (v48 : (List SSpan)) (v50 : (List SBlock)) : FF := [dT 2 ((.ptr 140 0) :: (dT 1 ((.ptr 172 0) :: (.ptr 188 0) :: (dT 7 ((.row true (.rBlock v50)) :: (dT 2 [])))))), dc, dc, dc, dc, dc, dc, dc, dT 12 ([.hdr 15, (tL v45.xNext), .row true (.ruint8 v45.xUnread), .row false (.rPiece v45.xLate)]), (tL v45.xCap) :: (tL v45.xShift) :: (tL v45.xEdge) :: (tI .u32 v45.xRecent) :: (tB v45.xStamps) :: (tB v45.xSacks) :: (tL v45.xFin) :: (tB v45.xDone) :: (.row true (.rSpan v48)) :: (tI .u32 v45.xIrs) :: (tI .u32 v45.xOwn) :: (tB v45.xStamp) :: (dT 4 []), dT 12 ([.hdr 15, (tL 0), .row false (.ruint8 []), .row false (.rPiece [])]), [(tL 0), (tL 0), (tL 0), (tI .u32 0), (tB false), (tB false), (tL 0), (tB false), .row false (.rSpan []), (tI .u32 0), (tI .u32 0), (tB false), .hdr 15, (tL 0), (tL 0), (tI .u32 0)], (tI .u32 0) :: (tL 0) :: (tL 0) :: (tL 0) :: (tL 0) :: (tL 0) :: (tB false) :: (tB false) :: (tI .u32 0) :: (tI .u32 0) :: (.row false (.rBlock [])) :: (.row false (.ruint8 [])) :: (dT 4 []), dc, dc, dc]
def fr12_15 (v53 : SRecv) (v54 : SSegment) : FF := [dT 4 ((.ptr 172 0) :: (.ptr 188 0) :: (tB true) :: (tL 0) :: (dT 8 [])), dc, dc, dc, dc, dc, dc, dc, dc, dc, dT 12 ((.hdr 15) :: (sl 0 3 (eRecv v53))), sl 3 12 (eRecv v53) ++ ((.hdr 15) :: (sl 0 3 (eSegment v54))), sl 3 12 (eSegment v54) ++ (dT 4 []), dc, dc, dc]
theorem s12_14_t (cp : CP) (n : Nat) (v45 : SRecv) (v48 : (List SSpan)) (v50 : (List SBlock)) (k : KX R) : X cp n i12_0 (fr12_13 v45 v48 v50) k = s12_14 cp n v45 v48 v50 (fun v53 v54 => k .ret (fr12_15 v53 v54)) := by kernel_rfl
def fr12_16 (v55 : SRecv) (v56 : SSegment) : FF := [dT 4 ((.ptr 172 0) :: (.ptr 188 0) :: (tB true) :: (tL 0) :: (dT 8 [])), dc, dc, dc, dc, dc, dc, dc, dc, dc, dT 12 ((.hdr 15) :: (sl 0 3 (eRecv v55))), sl 3 12 (eRecv v55) ++ ((.hdr 15) :: (sl 0 3 (eSegment v56))), sl 3 12 (eSegment v56) ++ (dT 4 []), dc, dc, dc]
theorem s12_17_t (cp : CP) (n : Nat) (p1 : SSegment) (v22 : Int) (v44 : Bool) (v45 : SRecv) (v48 : (List SSpan)) (k : KX R) : X cp n i12_1 (fr12_11 p1 v22 v44 v45 v48) k = s12_17 cp n p1 v22 v44 v45 v48 (fun v55 v56 => k .ret (fr12_16 v55 v56)) := ((fun c => (show X cp n (.seq (.seq (.fin (.reg g12_19) [9, 12, 106, 107, 108, 109, 110, 111, 112, 113, 114, 115, 116, 117, 118, 119, 120] []) (.fin (.cond (.s 121) (.fin (.reg g12_20) [3, 121, 122, 123, 124, 125, 126, 127, 128, 129, 130, 131] [(156, 15)]) (.skip)) [3, 121] [(156, 15)])) c) (fr12_11 p1 v22 v44 v45 v48) k = s12_12 cp n p1 v22 v44 v45 v48 (fun v50 => X cp n c (fr12_13 v45 v48 v50) k) from by kernel_rfl)) i12_0).trans (congrArg (fun q => s12_12 cp n p1 v22 v44 v45 v48 q) (funext fun v50 => (s12_14_t cp n v45 v48 v50 k).trans (show s12_14 cp n v45 v48 v50 (fun v53 v54 => k .ret (fr12_15 v53 v54)) = s12_14 cp n v45 v48 v50 (fun v53 v54 => k .ret (fr12_16 v53 v54)) from by kernel_rfl)))
def fr12_18 (v57 : SRecv) (v58 : SSegment) : FF := [dT 4 ((.ptr 172 0) :: (.ptr 188 0) :: (tB true) :: (tL 0) :: (dT 8 [])), dc, dc, dc, dc, dc, dc, dc, dc, dc, dT 12 ((.hdr 15) :: (sl 0 3 (eRecv v57))), sl 3 12 (eRecv v57) ++ ((.hdr 15) :: (sl 0 3 (eSegment v58))), sl 3 12 (eSegment v58) ++ (dT 4 []), dc, dc, dc]
theorem s12_19_t (cp : CP) (n : Nat) (p1 : SSegment) (v22 : Int) (v44 : Bool) (v45 : SRecv) (k : KX R) : X cp n i12_2 (fr12_9 p1 v22 v44 v45) k = s12_19 cp n p1 v22 v44 v45 (fun v57 v58 => k .ret (fr12_18 v57 v58)) := ((fun c => (show X cp n (.seq (.fin (.reg g12_17) [100, 101, 102, 103, 104, 105] []) (.seq (.reg g12_18) c)) (fr12_9 p1 v22 v44 v45) k = s12_10 cp n p1 v22 v44 v45 (fun v48 => X cp n c (fr12_11 p1 v22 v44 v45 v48) k) from by kernel_rfl)) i12_1).trans (congrArg (fun q => s12_10 cp n p1 v22 v44 v45 q) (funext fun v48 => (s12_17_t cp n p1 v22 v44 v45 v48 k).trans (show s12_17 cp n p1 v22 v44 v45 v48 (fun v55 v56 => k .ret (fr12_16 v55 v56)) = s12_17 cp n p1 v22 v44 v45 v48 (fun v55 v56 => k .ret (fr12_18 v55 v56)) from by kernel_rfl)))
def fr12_20 (v59 : SRecv) (v60 : SSegment) : FF := [dT 4 ((.ptr 172 0) :: (.ptr 188 0) :: (tB true) :: (tL 0) :: (dT 8 [])), dc, dc, dc, dc, dc, dc, dc, dc, dc, dT 12 ((.hdr 15) :: (sl 0 3 (eRecv v59))), sl 3 12 (eRecv v59) ++ ((.hdr 15) :: (sl 0 3 (eSegment v60))), sl 3 12 (eSegment v60) ++ (dT 4 []), dc, dc, dc]
theorem s12_21_t (cp : CP) (n : Nat) (p1 : SSegment) (v22 : Int) (v23 : SRecv) (v31 : Int) (v32 : Bool) (k : KX R) : X cp n i12_3 (fr12_7 p1 v22 v23 v31 v32) k = s12_21 cp n p1 v22 v23 v31 v32 (fun v59 v60 => k .ret (fr12_20 v59 v60)) := ((fun c => (show X cp n (.seq (.seq (.fin (.reg g12_13) [74, 75, 76] []) (.fin (.cond (.s 77) (.fin (.reg g12_14) [77, 78, 79, 80, 81, 82, 83, 84, 85] []) (.skip)) [77] [])) (.seq (.fin (.reg g12_15) [86, 87, 88, 89, 90, 91, 92, 93] []) (.seq (.fin (.reg g12_16) [94, 95, 96, 97, 98, 99] []) c))) (fr12_7 p1 v22 v23 v31 v32) k = s12_8 cp n p1 v22 v23 v31 v32 (fun v44 v45 => X cp n c (fr12_9 p1 v22 v44 v45) k) from by kernel_rfl)) i12_2).trans (congrArg (fun q => s12_8 cp n p1 v22 v23 v31 v32 q) (funext fun v44 => funext fun v45 => (s12_19_t cp n p1 v22 v44 v45 k).trans (show s12_19 cp n p1 v22 v44 v45 (fun v57 v58 => k .ret (fr12_18 v57 v58)) = s12_19 cp n p1 v22 v44 v45 (fun v57 v58 => k .ret (fr12_20 v57 v58)) from by kernel_rfl)))
def fr12_22 (v61 : SRecv) (v62 : SSegment) : FF := [dT 4 ((.ptr 172 0) :: (.ptr 188 0) :: (tB true) :: (tL 0) :: (dT 8 [])), dc, dc, dc, dc, dc, dc, dc, dc, dc, dT 12 ((.hdr 15) :: (sl 0 3 (eRecv v61))), sl 3 12 (eRecv v61) ++ ((.hdr 15) :: (sl 0 3 (eSegment v62))), sl 3 12 (eSegment v62) ++ (dT 4 []), dc, dc, dc]
theorem s12_23_t (cp : CP) (n : Nat) (p1 : SSegment) (v22 : Int) (v23 : SRecv) (k : KX R) : X cp n i12_4 (fr12_2 p1 v22 v23) k = s12_23 cp n p1 v22 v23 (fun v61 v62 => k .ret (fr12_22 v61 v62)) := ((fun c => (show X cp n (.seq (.seq (.fin (.reg g12_11) [62, 63, 64, 65, 66, 67, 68] []) (.fin (.cond (.s 69) (.fin (.reg g12_12) [69, 70, 71, 72, 73] []) (.skip)) [69] [])) c) (fr12_2 p1 v22 v23) k = s12_6 cp n p1 v22 v23 (fun v31 v32 => X cp n c (fr12_7 p1 v22 v23 v31 v32) k) from by kernel_rfl)) i12_3).trans (congrArg (fun q => s12_6 cp n p1 v22 v23 q) (funext fun v31 => funext fun v32 => (s12_21_t cp n p1 v22 v23 v31 v32 k).trans (show s12_21 cp n p1 v22 v23 v31 v32 (fun v59 v60 => k .ret (fr12_20 v59 v60)) = s12_21 cp n p1 v22 v23 v31 v32 (fun v59 v60 => k .ret (fr12_22 v59 v60)) from by kernel_rfl)))
def fr12_24 (v63 : SRecv) (v64 : SSegment) : FF := [dT 4 ((.ptr 172 0) :: (.ptr 188 0) :: (tB true) :: (tL 0) :: (dT 8 [])), dc, dc, dc, dc, dc, dc, dc, dc, dc, dT 12 ((.hdr 15) :: (sl 0 3 (eRecv v63))), sl 3 12 (eRecv v63) ++ ((.hdr 15) :: (sl 0 3 (eSegment v64))), sl 3 12 (eSegment v64) ++ (dT 4 []), dc, dc, dc]
theorem s12_25_t (cp : CP) (n : Nat) (p1 : SSegment) (v22 : Int) (v23 : SRecv) (k : KX R) : X cp n i12_5 (fr12_2 p1 v22 v23) k = s12_25 cp n p1 v22 v23 (fun v63 v64 => k .ret (fr12_24 v63 v64)) := ((fun c => (show X cp n (.seq (.seq (.fin (.reg g12_8) [41, 42, 43, 44, 45, 46, 47, 48, 49, 50, 51, 52, 53] []) (.fin (.cond (.s 54) (.seq (.fin (.reg g12_9) [2, 3, 9, 54, 55, 56, 57, 58, 59] [(140, 15), (156, 15)]) (.seq (.fin (.reg g12_10) [10, 11, 60, 61] [(204, 15), (220, 15)]) (.wk [6, 7] (.ret)))) (.skip)) [54] [])) c) (fr12_2 p1 v22 v23) k = s12_4 cp n p1 v22 v23 (X cp n c (fr12_2 p1 v22 v23) k) (fun v29 v30 => k .ret (fr12_24 v29 v30)) from by kernel_rfl)) i12_4).trans (congrArg (fun q => s12_4 cp n p1 v22 v23 q (fun v29 v30 => k .ret (fr12_24 v29 v30))) ((s12_23_t cp n p1 v22 v23 k).trans (show s12_23 cp n p1 v22 v23 (fun v61 v62 => k .ret (fr12_22 v61 v62)) = s12_23 cp n p1 v22 v23 (fun v61 v62 => k .ret (fr12_24 v61 v62)) from by kernel_rfl)))
def fr12_26 (v65 : Bool) (v66 : Int) (v67 : SRecv) (v68 : SSegment) : FF := [dT 4 ((.ptr 172 0) :: (.ptr 188 0) :: (tB v65) :: (tL v66) :: (dT 8 [])), dc, dc, dc, dc, dc, dc, dc, dc, dc, dT 12 ((.hdr 15) :: (sl 0 3 (eRecv v67))), sl 3 12 (eRecv v67) ++ ((.hdr 15) :: (sl 0 3 (eSegment v68))), sl 3 12 (eSegment v68) ++ (dT 4 []), dc, dc, dc]
def fr12_28 (p0 : SRecv) (p1 : SSegment) : FF := [(.agg (eRecv p0)) :: (.agg (eSegment p1)) :: (dT 14 []), dc, dc, dc, dc, dc, dc, dc, dc, dc, dc, dc, dc, dc, dc, dc]
theorem s12_27_t (cp : CP) (n : Nat) (p0 : SRecv) (p1 : SSegment) (k : KX R) : X cp n i12_6 (fr12_28 p0 p1) k = s12_27 cp n p0 p1 (fun v65 v66 v67 v68 => k .ret (fr12_26 v65 v66 v67 v68)) := ((fun c => (show X cp n (.seq (.fin (.reg g12_0) [0, 1, 6, 7] []) (.seq (.seq (.fin (.reg g12_1) [15, 16] []) (.seq (.fin (.reg g12_2) [17] []) (.fin (.cond (.s 18) (.seq (.fin (.reg g12_3) [2, 3, 8, 18, 19, 20, 21] [(140, 15), (156, 15)]) (.wk [6, 7] (.ret))) (.skip)) [8, 18] []))) (.seq (.fin (.reg g12_4) [22, 23] []) (.seq (.seq (.fin (.reg g12_5) [24, 25, 26, 27, 28, 29] []) (.fin (.cond (.s 30) (.seq (.fin (.reg g12_6) [2, 3, 30, 31, 32] [(140, 15), (156, 15)]) (.wk [6, 7] (.ret))) (.skip)) [30] [])) (.seq (.fin (.reg g12_7) [33, 34, 35, 36, 37, 38, 39, 40] []) c))))) (fr12_28 p0 p1) k = s12_1 cp n p0 p1 (fun v22 v23 => X cp n c (fr12_2 p1 v22 v23) k) (fun v24 v25 => k .ret (fr12_26 false v24 v25 (SSegment.mk 0 0 0 0 0 0 0 0 0 false false 0 0 [] []))) from by kernel_rfl)) i12_5).trans (congrArg (fun q => s12_1 cp n p0 p1 q (fun v24 v25 => k .ret (fr12_26 false v24 v25 (SSegment.mk 0 0 0 0 0 0 0 0 0 false false 0 0 [] [])))) (funext fun v22 => funext fun v23 => (s12_25_t cp n p1 v22 v23 k).trans (show s12_25 cp n p1 v22 v23 (fun v63 v64 => k .ret (fr12_24 v63 v64)) = s12_25 cp n p1 v22 v23 (fun v63 v64 => k .ret (fr12_26 true 0 v63 v64)) from by kernel_rfl)))
theorem run12 (cp : CP) (n : Nat) (p0 : SRecv) (p1 : SSegment) (k : Ret2 RW → Option R) : G12 cp (n + 1) p0 p1 (fun r0 r1 r2 r3 => k ⟨.tup [.agg (eRecv r0), .agg (eSegment r1), (tB r2), (tL r3)], [], []⟩) = run2 U cp (callP cp n) n fn12 [.agg (eRecv p0), .agg (eSegment p1)] [] k := ((X_run (f := fn12) (av := [.agg (eRecv p0), .agg (eSegment p1)]) (cells := []) (code := i12_6) (fr := (fr12_28 p0 p1)) (k := k) (by kernel_rfl) (fun K => by kernel_rfl)).trans ((s12_27_t cp n p0 p1 (finK2 fn12 k)).trans (by kernel_rfl))).symm
/-! tideway/seq.Clamp -/
theorem run51 (cp : CP) (n : Nat) (p0 p1 p2 : Int) (k : Ret2 RW → Option R) : G51 cp (n + 1) p0 p1 p2 (fun r0 => k ⟨(tL r0), [], []⟩) = run2 U cp (callP cp n) n fn51 [(tL p0), (tL p1), (tL p2)] [] k := by kernel_rfl
/-! tideway/recv.Read -/
def fr20_2 (v91 : (List Int)) (v92 : SRecv) : FF := [dT 2 ((.ptr 60 0) :: (dT 1 ((.ptr 76 0) :: (dT 1 ((.ptr 92 0) :: (dT 3 ((.row false (.ruint8 v91)) :: (dT 5 [])))))))), dc, dc, dT 12 ((.hdr 15) :: (sl 0 3 (eRecv v92))), sl 3 12 (eRecv v92) ++ [.hdr 15, (tL 0), .row false (.ruint8 []), .row false (.rPiece [])], [(tL 0), (tL 0), (tL 0), (tI .u32 0), (tB false), (tB false), (tL 0), (tB false), .row false (.rSpan []), (tI .u32 0), (tI .u32 0), (tB false), .hdr 15, (tL 0), (tL 0), (tI .u32 0)], (tI .u32 0) :: (tL 0) :: (tL 0) :: (tL 0) :: (tL 0) :: (tL 0) :: (tB false) :: (tB false) :: (tI .u32 0) :: (tI .u32 0) :: (.row false (.rBlock [])) :: (.row false (.ruint8 [])) :: (dT 4 []), dc]
def fr20_3 (v93 : Int) : FF := [dT 4 ((.ptr 76 0) :: (.row false (.ruint8 [])) :: (.ptr 92 0) :: (tB false) :: (tL v93) :: (dT 7 [])), dc, dc, dc, dT 12 ([.hdr 15, (tL 0), .row false (.ruint8 []), .row false (.rPiece [])]), [(tL 0), (tL 0), (tL 0), (tI .u32 0), (tB false), (tB false), (tL 0), (tB false), .row false (.rSpan []), (tI .u32 0), (tI .u32 0), (tB false), .hdr 15, (tL 0), (tL 0), (tI .u32 0)], (tI .u32 0) :: (tL 0) :: (tL 0) :: (tL 0) :: (tL 0) :: (tL 0) :: (tB false) :: (tB false) :: (tI .u32 0) :: (tI .u32 0) :: (.row false (.rBlock [])) :: (.row false (.ruint8 [])) :: (dT 4 []), dc]
def fr20_5 (v91 : (List Int)) (v97 : Bool) (v98 : SRecv) (v99 : SSegment) : FF := [dT 4 ((.ptr 76 0) :: (.row false (.ruint8 v91)) :: (.ptr 92 0) :: (tB v97) :: (tL 0) :: (dT 7 [])), dc, dc, dc, dT 12 ((.hdr 15) :: (sl 0 3 (eRecv v98))), sl 3 12 (eRecv v98) ++ ((.hdr 15) :: (sl 0 3 (eSegment v99))), sl 3 12 (eSegment v99) ++ (dT 4 []), dc]
theorem s20_4_t (cp : CP) (n : Nat) (v91 : (List Int)) (v92 : SRecv) (k : KX R) : X cp n i20_0 (fr20_2 v91 v92) k = s20_4 cp n v91 v92 (fun v97 v98 v99 => k .ret (fr20_5 v91 v97 v98 v99)) := by kernel_rfl
def fr20_6 (v100 : (List Int)) (v101 : Bool) (v102 : Int) (v103 : SRecv) (v104 : SSegment) : FF := [dT 4 ((.ptr 76 0) :: (.row false (.ruint8 v100)) :: (.ptr 92 0) :: (tB v101) :: (tL v102) :: (dT 7 [])), dc, dc, dc, dT 12 ((.hdr 15) :: (sl 0 3 (eRecv v103))), sl 3 12 (eRecv v103) ++ ((.hdr 15) :: (sl 0 3 (eSegment v104))), sl 3 12 (eSegment v104) ++ (dT 4 []), dc]
def fr20_8 (p0 : SRecv) (p1 : Int) : FF := [(.agg (eRecv p0)) :: (tL p1) :: (dT 14 []), dc, dc, dc, dc, dc, dc, dc]
theorem s20_7_t (cp : CP) (n : Nat) (p0 : SRecv) (p1 : Int) (k : KX R) : X cp n i20_1 (fr20_8 p0 p1) k = s20_7 cp n p0 p1 (fun v100 v101 v102 v103 v104 => k .ret (fr20_6 v100 v101 v102 v103 v104)) := ((fun c => (show X cp n (.seq (.fin (.reg g20_0) [0, 5, 7, 8] []) (.seq (.seq (.fin (.reg g20_1) [12, 13] []) (.seq (.fin (.reg g20_2) [14] []) (.fin (.cond (.s 15) (.seq (.fin (.reg g20_3) [1, 2, 9, 15, 16, 17, 18] [(60, 15)]) (.wk [5, 7, 8] (.ret))) (.skip)) [9, 15] []))) (.seq (.fin (.reg g20_4) [19, 20] []) (.seq (.fin (.reg g20_5) [21, 22, 23, 24, 25] []) (.seq (.fin (.reg g20_6) [26, 27, 28, 29, 30] []) (.seq (.fin (.reg g20_7) [1, 31, 32, 33, 34, 35] []) c)))))) (fr20_8 p0 p1) k = s20_1 cp n p0 p1 (fun v91 v92 => X cp n c (fr20_2 v91 v92) k) (fun v93 => k .ret (fr20_6 [] false v93 (SRecv.mk 0 [] [] 0 0 0 0 false false 0 false [] 0 0 false) (SSegment.mk 0 0 0 0 0 0 0 0 0 false false 0 0 [] []))) from by kernel_rfl)) i20_0).trans (congrArg (fun q => s20_1 cp n p0 p1 q (fun v93 => k .ret (fr20_6 [] false v93 (SRecv.mk 0 [] [] 0 0 0 0 false false 0 false [] 0 0 false) (SSegment.mk 0 0 0 0 0 0 0 0 0 false false 0 0 [] [])))) (funext fun v91 => funext fun v92 => (s20_4_t cp n v91 v92 k).trans (show s20_4 cp n v91 v92 (fun v97 v98 v99 => k .ret (fr20_5 v91 v97 v98 v99)) = s20_4 cp n v91 v92 (fun v97 v98 v99 => k .ret (fr20_6 v91 v97 0 v98 v99)) from by kernel_rfl)))
theorem run20 (cp : CP) (n : Nat) (p0 : SRecv) (p1 : Int) (k : Ret2 RW → Option R) : G20 cp (n + 1) p0 p1 (fun r0 r1 r2 r3 r4 => k ⟨.tup [.agg (eRecv r0), .row false (.ruint8 r1), .agg (eSegment r2), (tB r3), (tL r4)], [], []⟩) = run2 U cp (callP cp n) n fn20 [.agg (eRecv p0), (tL p1)] [] k := ((X_run (f := fn20) (av := [.agg (eRecv p0), (tL p1)]) (cells := []) (code := i20_1) (fr := (fr20_8 p0 p1)) (k := k) (by kernel_rfl) (fun K => by kernel_rfl)).trans ((s20_7_t cp n p0 p1 (finK2 fn20 k)).trans (by kernel_rfl))).symm
/-! tideway/tidewaylaw08.heads -/
def fr11_2 (v43 : Int) (v44 : Bool) (v45 : Int) (v46 : Bool) (v47 : Int) (v48 : (List Int)) (v49 : Int) (v50 : SRecv) (v51 : SSegment) (v52 : SRecv) (v53 : SSegment) (v54 : SRecv) : FF := [dT 1 ((.ptr 124 0) :: (tL v43) :: (dT 1 ((.ptr 156 0) :: (tB v44) :: (tL v45) :: (.ptr 172 0) :: (.ptr 188 0) :: (tB v46) :: (tL v47) :: (.ptr 204 0) :: (.row false (.ruint8 v48)) :: (dT 2 ([(tL v49)]))))), dc, dc, dc, dc, dc, dc, dT 12 ((.hdr 15) :: (sl 0 3 (eRecv v50))), sl 3 12 (eRecv v50) ++ (dT 4 []), dT 12 ((.hdr 15) :: (sl 0 3 (eSegment v51))), sl 3 12 (eSegment v51) ++ ((.hdr 15) :: (sl 0 3 (eRecv v52))), sl 3 12 (eRecv v52) ++ ((.hdr 15) :: (sl 0 3 (eSegment v53))), sl 3 12 (eSegment v53) ++ ((.hdr 15) :: (sl 0 3 (eRecv v54))), sl 3 12 (eRecv v54) ++ (dT 4 []), dc, dc]
def fr11_4 (v58 : Bool) : FF := [(tB v58) :: (dT 15 []), dc, dc, dc, dc, dc, dc, dc, dc, dc, dc, dc, dc, dc, dc, dc]
theorem s11_3_t (cp : CP) (n : Nat) (v43 : Int) (v44 : Bool) (v45 : Int) (v46 : Bool) (v47 : Int) (v48 : (List Int)) (v49 : Int) (v50 : SRecv) (v51 : SSegment) (v52 : SRecv) (v53 : SSegment) (v54 : SRecv) (k : KX R) : X cp n i11_0 (fr11_2 v43 v44 v45 v46 v47 v48 v49 v50 v51 v52 v53 v54) k = s11_3 cp n v43 v44 v45 v46 v47 v48 v49 v50 v51 v52 v53 v54 (fun v58 => k .ret (fr11_4 v58)) := by kernel_rfl
def fr11_5 (v59 : Bool) : FF := [(tB v59) :: (dT 15 []), dc, dc, dc, dc, dc, dc, dc, dc, dc, dc, dc, dc, dc, dc, dc]
def fr11_7 : FF := [dc, dc, dc, dc, dc, dc, dc, dc, dc, dc, dc, dc, dc, dc, dc, dc]
theorem s11_6_t (cp : CP) (n : Nat) (k : KX R) : X cp n i11_1 fr11_7 k = s11_6 cp n (fun v59 => k .ret (fr11_5 v59)) := ((fun c => (show X cp n (.seq (.fin (.reg g11_0) [0] []) (.seq (.fin (.reg g11_1) [18, 19, 20, 21] []) (.seq (.fin (.reg g11_2) [22, 23, 24, 25, 26, 27, 28, 29, 30, 31] []) (.seq (.fin (.reg g11_3) [3, 32, 33, 34, 35, 36, 37, 38, 39, 40, 41] [(140, 15)]) (.seq (.fin (.reg g11_4) [13, 14, 42, 43, 44, 45, 46, 47, 48, 49] [(220, 15)]) c))))) fr11_7 k = s11_1 cp n (fun v43 v44 v45 v46 v47 v48 v49 v50 v51 v52 v53 v54 => X cp n c (fr11_2 v43 v44 v45 v46 v47 v48 v49 v50 v51 v52 v53 v54) k) from by kernel_rfl)) i11_0).trans (congrArg (fun q => s11_1 cp n q) (funext fun v43 => funext fun v44 => funext fun v45 => funext fun v46 => funext fun v47 => funext fun v48 => funext fun v49 => funext fun v50 => funext fun v51 => funext fun v52 => funext fun v53 => funext fun v54 => (s11_3_t cp n v43 v44 v45 v46 v47 v48 v49 v50 v51 v52 v53 v54 k).trans (show s11_3 cp n v43 v44 v45 v46 v47 v48 v49 v50 v51 v52 v53 v54 (fun v58 => k .ret (fr11_4 v58)) = s11_3 cp n v43 v44 v45 v46 v47 v48 v49 v50 v51 v52 v53 v54 (fun v58 => k .ret (fr11_5 v58)) from by kernel_rfl)))
theorem run11 (cp : CP) (n : Nat) (k : Ret2 RW → Option R) : G11 cp (n + 1) (fun r0 => k ⟨(tB r0), [], []⟩) = run2 U cp (callP cp n) n fn11 [] [] k := ((X_run (f := fn11) (av := []) (cells := []) (code := i11_1) (fr := fr11_7) (k := k) (by kernel_rfl) (fun K => by kernel_rfl)).trans ((s11_6_t cp n  (finK2 fn11 k)).trans (by kernel_rfl))).symm
/-! tideway/recv.Tell -/
theorem run23 (cp : CP) (n : Nat) (p0 : SRecv) (k : Ret2 RW → Option R) : G23 cp (n + 1) p0 (fun r0 r1 => k ⟨.tup [.agg (eRecv r0), .agg (eSegment r1)], [], []⟩) = run2 U cp (callP cp n) n fn23 [.agg (eRecv p0)] [] k := by kernel_rfl
/-! tideway/tidewaylaw08.RecvWindow -/
def fr8_2 (p0 : SRecv) (p1 v8 : Int) : FF := [dT 1 ((tL p1) :: (.ptr 106 0) :: (dT 2 ((tL v8) :: (dT 10 [])))), dc, dc, dc, dc, dc, dT 10 ((.hdr 15) :: (sl 0 5 (eRecv p0))), sl 5 10 (eRecv p0) ++ (dT 6 []), dc, dc, dc, dc]
def fr8_3 (v9 : Bool) : FF := [dT 4 ((tB v9) :: (dT 11 [])), dc, dc, dc, dc, dc, dc, dc, dc, dc, dc, dc]
def fr8_5 (p0 : SRecv) (v8 : Int) (v22 : (List Int)) (v23 : Int) (v24 v25 : SRecv) (v26 : SSegment) : FF := [dT 2 ((.ptr 106 0) :: (dT 2 ((tL v8) :: (.ptr 122 0) :: (.row false (.ruint8 v22)) :: (dT 2 ((tL v23) :: (.ptr 154 0) :: (.ptr 170 0) :: (dT 3 [])))))), dc, dc, dc, dc, dc, dT 10 ((.hdr 15) :: (sl 0 5 (eRecv p0))), sl 5 10 (eRecv p0) ++ ((.hdr 15) :: (sl 0 5 (eRecv v24))), sl 5 10 (eRecv v24) ++ (dT 6 []), dT 10 ((.hdr 15) :: (sl 0 5 (eRecv v25))), sl 5 10 (eRecv v25) ++ ((.hdr 15) :: (sl 0 5 (eSegment v26))), sl 5 10 (eSegment v26) ++ (dT 6 [])]
def fr8_7 (v30 : Bool) : FF := [dT 4 ((tB v30) :: (dT 11 [])), dc, dc, dc, dc, dc, dc, dc, dc, dc, dc, dc]
theorem s8_6_t (cp : CP) (n : Nat) (p0 : SRecv) (v8 : Int) (v22 : (List Int)) (v23 : Int) (v24 v25 : SRecv) (v26 : SSegment) (k : KX R) : X cp n i8_0 (fr8_5 p0 v8 v22 v23 v24 v25 v26) k = s8_6 cp n p0 v8 v22 v23 v24 v25 v26 (fun v30 => k .ret (fr8_7 v30)) := by kernel_rfl
def fr8_8 (v31 : Bool) : FF := [dT 4 ((tB v31) :: (dT 11 [])), dc, dc, dc, dc, dc, dc, dc, dc, dc, dc, dc]
theorem s8_9_t (cp : CP) (n : Nat) (p0 : SRecv) (p1 v8 : Int) (k : KX R) : X cp n i8_1 (fr8_2 p0 p1 v8) k = s8_9 cp n p0 p1 v8 (fun v31 => k .ret (fr8_8 v31)) := ((fun c => (show X cp n (.seq (.fin (.reg g8_4) [1, 8, 9, 24, 25, 26, 27, 28, 29, 30, 31, 32] [(138, 15)]) (.seq (.fin (.reg g8_5) [33, 34, 35, 36, 37] []) c)) (fr8_2 p0 p1 v8) k = s8_4 cp n p0 p1 v8 (fun v22 v23 v24 v25 v26 => X cp n c (fr8_5 p0 v8 v22 v23 v24 v25 v26) k) from by kernel_rfl)) i8_0).trans (congrArg (fun q => s8_4 cp n p0 p1 v8 q) (funext fun v22 => funext fun v23 => funext fun v24 => funext fun v25 => funext fun v26 => (s8_6_t cp n p0 v8 v22 v23 v24 v25 v26 k).trans (show s8_6 cp n p0 v8 v22 v23 v24 v25 v26 (fun v30 => k .ret (fr8_7 v30)) = s8_6 cp n p0 v8 v22 v23 v24 v25 v26 (fun v30 => k .ret (fr8_8 v30)) from by kernel_rfl)))
def fr8_10 (v32 : Bool) : FF := [dT 4 ((tB v32) :: (dT 11 [])), dc, dc, dc, dc, dc, dc, dc, dc, dc, dc, dc]
def fr8_12 (p0 : SRecv) (p1 : Int) : FF := [(.agg (eRecv p0)) :: (tL p1) :: (dT 14 []), dc, dc, dc, dc, dc, dc, dc, dc, dc, dc, dc]
theorem s8_11_t (cp : CP) (n : Nat) (p0 : SRecv) (p1 : Int) (k : KX R) : X cp n i8_2 (fr8_12 p0 p1) k = s8_11 cp n p0 p1 (fun v32 => k .ret (fr8_10 v32)) := ((fun c => (show X cp n (.seq (.fin (.reg g8_0) [0, 4] []) (.seq (.seq (.fin (.reg g8_1) [13, 14] []) (.fin (.cond (.s 15) (.seq (.fin (.reg g8_2) [1, 2, 15, 16, 17, 18, 19, 20, 21] [(106, 15)]) (.ret)) (.skip)) [15] [])) (.seq (.fin (.reg g8_3) [22, 23] []) c))) (fr8_12 p0 p1) k = s8_1 cp n p0 p1 (fun v8 => X cp n c (fr8_2 p0 p1 v8) k) (fun v9 => k .ret (fr8_10 v9)) from by kernel_rfl)) i8_1).trans (congrArg (fun q => s8_1 cp n p0 p1 q (fun v9 => k .ret (fr8_10 v9))) (funext fun v8 => (s8_9_t cp n p0 p1 v8 k).trans (show s8_9 cp n p0 p1 v8 (fun v31 => k .ret (fr8_8 v31)) = s8_9 cp n p0 p1 v8 (fun v31 => k .ret (fr8_10 v31)) from by kernel_rfl)))
theorem run8 (cp : CP) (n : Nat) (p0 : SRecv) (p1 : Int) (k : Ret2 RW → Option R) : G8 cp (n + 1) p0 p1 (fun r0 => k ⟨(tB r0), [], []⟩) = run2 U cp (callP cp n) n fn8 [.agg (eRecv p0), (tL p1)] [] k := ((X_run (f := fn8) (av := [.agg (eRecv p0), (tL p1)]) (cells := []) (code := i8_2) (fr := (fr8_12 p0 p1)) (k := k) (by kernel_rfl) (fun K => by kernel_rfl)).trans ((s8_11_t cp n p0 p1 (finK2 fn8 k)).trans (by kernel_rfl))).symm
def tbl : Nat → Option IFn
  | 27 => some (fn27.lo U)
  | 53 => some (fn53.lo U)
  | 55 => some (fn55.lo U)
  | 71 => some (fn71.lo U)
  | 1007 => some (fn1007.lo U)
  | 1006 => some (fn1006.lo U)
  | 72 => some (fn72.lo U)
  | 56 => some (fn56.lo U)
  | 28 => some (fn28.lo U)
  | 10 => some (fn10.lo U)
  | 49 => some (fn49.lo U)
  | 22 => some (fn22.lo U)
  | 17 => some (fn17.lo U)
  | 57 => some fn57
  | 52 => some fn52
  | 29 => some (fn29.lo U)
  | 31 => some (fn31.lo U)
  | 58 => some (fn58.lo U)
  | 30 => some (fn30.lo U)
  | 36 => some (fn36.lo U)
  | 32 => some (fn32.lo U)
  | 33 => some (fn33.lo U)
  | 82 => some (fn82.lo U)
  | 78 => some (fn78.lo U)
  | 79 => some (fn79.lo U)
  | 61 => some (fn61.lo U)
  | 74 => some (fn74.lo U)
  | 1032 => some (fn1032.lo U)
  | 1034 => some fn1034
  | 75 => some fn75
  | 77 => some (fn77.lo U)
  | 60 => some (fn60.lo U)
  | 1030 => some (fn1030.lo U)
  | 34 => some (fn34.lo U)
  | 1039 => some (fn1039.lo U)
  | 1038 => some (fn1038.lo U)
  | 35 => some (fn35.lo U)
  | 12 => some (fn12.lo U)
  | 51 => some (fn51.lo U)
  | 20 => some (fn20.lo U)
  | 11 => some (fn11.lo U)
  | 23 => some (fn23.lo U)
  | 8 => some (fn8.lo U)
  | _ => none
theorem chk27 : chkFn Try.prog tbl (fn27.lo U) = true := by kernel_rfl
theorem chk53 : chkFn Try.prog tbl (fn53.lo U) = true := by kernel_rfl
theorem chk55 : chkFn Try.prog tbl (fn55.lo U) = true := by kernel_rfl
theorem chk71 : chkFn Try.prog tbl (fn71.lo U) = true := by kernel_rfl
theorem chk1007 : chkFn Try.prog tbl (fn1007.lo U) = true := by kernel_rfl
theorem chk1006 : chkFn Try.prog tbl (fn1006.lo U) = true := by kernel_rfl
theorem chk72 : chkFn Try.prog tbl (fn72.lo U) = true := by kernel_rfl
theorem chk56 : chkFn Try.prog tbl (fn56.lo U) = true := by kernel_rfl
theorem chk28 : chkFn Try.prog tbl (fn28.lo U) = true := by kernel_rfl
theorem chk10 : chkFn Try.prog tbl (fn10.lo U) = true := by kernel_rfl
theorem chk49 : chkFn Try.prog tbl (fn49.lo U) = true := by kernel_rfl
theorem chk22 : chkFn Try.prog tbl (fn22.lo U) = true := by kernel_rfl
theorem chk17 : chkFn Try.prog tbl (fn17.lo U) = true := by kernel_rfl
theorem chk57 : chkFn Try.prog tbl fn57 = true := by kernel_rfl
theorem chk52 : chkFn Try.prog tbl fn52 = true := by kernel_rfl
theorem chk29 : chkFn Try.prog tbl (fn29.lo U) = true := by kernel_rfl
theorem chk31 : chkFn Try.prog tbl (fn31.lo U) = true := by kernel_rfl
theorem chk58 : chkFn Try.prog tbl (fn58.lo U) = true := by kernel_rfl
theorem chk30 : chkFn Try.prog tbl (fn30.lo U) = true := by kernel_rfl
theorem chk36 : chkFn Try.prog tbl (fn36.lo U) = true := by kernel_rfl
theorem chk32 : chkFn Try.prog tbl (fn32.lo U) = true := by kernel_rfl
theorem chk33 : chkFn Try.prog tbl (fn33.lo U) = true := by kernel_rfl
theorem chk82 : chkFn Try.prog tbl (fn82.lo U) = true := by kernel_rfl
theorem chk78 : chkFn Try.prog tbl (fn78.lo U) = true := by kernel_rfl
theorem chk79 : chkFn Try.prog tbl (fn79.lo U) = true := by kernel_rfl
theorem chk61 : chkFn Try.prog tbl (fn61.lo U) = true := by kernel_rfl
theorem chk74 : chkFn Try.prog tbl (fn74.lo U) = true := by kernel_rfl
theorem chk1032 : chkFn Try.prog tbl (fn1032.lo U) = true := by kernel_rfl
theorem chk1034 : chkFn Try.prog tbl fn1034 = true := by kernel_rfl
theorem chk75 : chkFn Try.prog tbl fn75 = true := by kernel_rfl
theorem chk77 : chkFn Try.prog tbl (fn77.lo U) = true := by kernel_rfl
theorem chk60 : chkFn Try.prog tbl (fn60.lo U) = true := by kernel_rfl
theorem chk1030 : chkFn Try.prog tbl (fn1030.lo U) = true := by kernel_rfl
theorem chk34 : chkFn Try.prog tbl (fn34.lo U) = true := by kernel_rfl
theorem chk1039 : chkFn Try.prog tbl (fn1039.lo U) = true := by kernel_rfl
theorem chk1038 : chkFn Try.prog tbl (fn1038.lo U) = true := by kernel_rfl
theorem chk35 : chkFn Try.prog tbl (fn35.lo U) = true := by kernel_rfl
theorem chk12 : chkFn Try.prog tbl (fn12.lo U) = true := by kernel_rfl
theorem chk51 : chkFn Try.prog tbl (fn51.lo U) = true := by kernel_rfl
theorem chk20 : chkFn Try.prog tbl (fn20.lo U) = true := by kernel_rfl
theorem chk11 : chkFn Try.prog tbl (fn11.lo U) = true := by kernel_rfl
theorem chk23 : chkFn Try.prog tbl (fn23.lo U) = true := by kernel_rfl
theorem chk8 : chkFn Try.prog tbl (fn8.lo U) = true := by kernel_rfl
theorem chkAll : ∀ (id : Nat) (f : IFn), tbl id = some f → chkFn Try.prog tbl f = true := by
  intro id f h
  unfold tbl at h
  split at h
  · cases h; exact chk27
  · cases h; exact chk53
  · cases h; exact chk55
  · cases h; exact chk71
  · cases h; exact chk1007
  · cases h; exact chk1006
  · cases h; exact chk72
  · cases h; exact chk56
  · cases h; exact chk28
  · cases h; exact chk10
  · cases h; exact chk49
  · cases h; exact chk22
  · cases h; exact chk17
  · cases h; exact chk57
  · cases h; exact chk52
  · cases h; exact chk29
  · cases h; exact chk31
  · cases h; exact chk58
  · cases h; exact chk30
  · cases h; exact chk36
  · cases h; exact chk32
  · cases h; exact chk33
  · cases h; exact chk82
  · cases h; exact chk78
  · cases h; exact chk79
  · cases h; exact chk61
  · cases h; exact chk74
  · cases h; exact chk1032
  · cases h; exact chk1034
  · cases h; exact chk75
  · cases h; exact chk77
  · cases h; exact chk60
  · cases h; exact chk1030
  · cases h; exact chk34
  · cases h; exact chk1039
  · cases h; exact chk1038
  · cases h; exact chk35
  · cases h; exact chk12
  · cases h; exact chk51
  · cases h; exact chk20
  · cases h; exact chk11
  · cases h; exact chk23
  · cases h; exact chk8
  · cases h
theorem clone57 (n : Nat) (xs : (List SSpan)) (hc : capB (0 + xs.length) 16 = true) : runF tbl (n + 1) 57 [.row false 2 xs.length (rg cSpan zSpan xs)] [] = some ⟨.row true 2 xs.length (rg cSpan zSpan xs), [], []⟩ :=
  clone_fin (F := fun m g => runF tbl (n + 1) 57 [.row false 2 m g] []) (fun g => show runF tbl (n + 1) 57 [.row false 2 0 g] [] = both (some ⟨.row true 2 0 (fun _ => [.sc (.int .i64 0), .sc (.int .i64 0)]), [], []⟩) (cond (capB (0 + 0) 16) (some ⟨.row true 2 (0 + 0) (appGet 0 0 (litGet 2 0 [.sc (.int .i64 0), .sc (.int .i64 0)] []) g), [], []⟩) none) from by kernel_rfl) (fun m g => show runF tbl (n + 1) 57 [.row false 2 (m + 1) g] [] = (cond (capB (0 + (m + 1)) 16) (some ⟨.row true 2 (0 + (m + 1)) (appGet 0 (m + 1) (litGet 2 0 [.sc (.int .i64 0), .sc (.int .i64 0)] []) g), [], []⟩) none) from by kernel_rfl) (show cSpan zSpan = [.sc (.int .i64 0), .sc (.int .i64 0)] from by kernel_rfl) xs hc
theorem clone52 (n : Nat) (xs : (List Int)) (hc : capB (0 + xs.length) 1 = true) : runF tbl (n + 1) 52 [.row false 1 xs.length (rg cuint8 zuint8 xs)] [] = some ⟨.row true 1 xs.length (rg cuint8 zuint8 xs), [], []⟩ :=
  clone_fin (F := fun m g => runF tbl (n + 1) 52 [.row false 1 m g] []) (fun g => show runF tbl (n + 1) 52 [.row false 1 0 g] [] = both (some ⟨.row true 1 0 (fun _ => [.sc (.int .u8 0)]), [], []⟩) (cond (capB (0 + 0) 1) (some ⟨.row true 1 (0 + 0) (appGet 0 0 (litGet 1 0 [.sc (.int .u8 0)] []) g), [], []⟩) none) from by kernel_rfl) (fun m g => show runF tbl (n + 1) 52 [.row false 1 (m + 1) g] [] = (cond (capB (0 + (m + 1)) 1) (some ⟨.row true 1 (0 + (m + 1)) (appGet 0 (m + 1) (litGet 1 0 [.sc (.int .u8 0)] []) g), [], []⟩) none) from by kernel_rfl) (show cuint8 zuint8 = [.sc (.int .u8 0)] from by kernel_rfl) xs hc
theorem clone1034 (n : Nat) (xs : (List SPiece)) (hc : capB (0 + xs.length) 32 = true) : runF tbl (n + 1) 1034 [.row false 2 xs.length (rg cPiece zPiece xs)] [] = some ⟨.un none 2 xs.length (rg cPiece zPiece xs), [], []⟩ :=
  uclone_fin (F := fun m g => runF tbl (n + 1) 1034 [.row false 2 m g] []) (fun g => show runF tbl (n + 1) 1034 [.row false 2 0 g] [] = both (some ⟨.un none 2 0 (fun _ => [.sc (.int .i64 0), .row false 1 0 (fun _ => [.sc (.int .u8 0)])]), [], []⟩) (cond (capB (0 + 0) 32) (some ⟨.un none 2 (0 + 0) (appGet 0 0 (litGet 2 0 [.sc (.int .i64 0), .row false 1 0 (fun _ => [.sc (.int .u8 0)])] []) g), [], []⟩) none) from by kernel_rfl) (fun m g => show runF tbl (n + 1) 1034 [.row false 2 (m + 1) g] [] = (cond (capB (0 + (m + 1)) 32) (some ⟨.un none 2 (0 + (m + 1)) (appGet 0 (m + 1) (litGet 2 0 [.sc (.int .i64 0), .row false 1 0 (fun _ => [.sc (.int .u8 0)])] []) g), [], []⟩) none) from by kernel_rfl) (show cPiece zPiece = [.sc (.int .i64 0), .row false 1 0 (fun _ => [.sc (.int .u8 0)])] from by kernel_rfl) xs hc
theorem clone75 (n : Nat) (a : Bool) (xs : (List SPiece)) (i : Int) (x : SPiece) (hc : capB (xs.length + 1) 32 = true) (h0 : decide (0 ≤ i) = true) (h1 : decide (i ≤ (xs.length : Int)) = true) : runF tbl (n + 1) 75 [.un none 2 xs.length (rg cPiece zPiece xs), .sc (.int .i64 i), .row a 2 1 (rg cPiece zPiece [x])] [] = some ⟨.un none 2 (insL xs (Int.toNat i) x).length (rg cPiece zPiece (insL xs (Int.toNat i) x)), [], []⟩ :=
  ins_fin (show runF tbl (n + 1) 75 [.un none 2 xs.length (rg cPiece zPiece xs), .sc (.int .i64 i), .row a 2 1 (rg cPiece zPiece [x])] [] = cond (capB (xs.length + 1) 32) (cond (decide (0 ≤ i)) (cond (decide (i ≤ (xs.length : Int))) (some ⟨.un none 2 (xs.length + 1) (insGet xs.length (Int.toNat i) (rg cPiece zPiece xs) (rg cPiece zPiece [x])), [], []⟩) none) none) none from by kernel_rfl) hc h0 h1
theorem dI_ok {kd : IntKind} {y : TV RW} {a : Int} (h : dI kd y = some a) : y = .sc (.int kd a) := by
  unfold dI at h
  split at h
  · obtain ⟨h1, h2⟩ := cond_some h
    cases h2
    rw [of_decide_eq_true h1]
  · cases h
theorem dB_ok {y : TV RW} {a : Bool} (h : dB y = some a) : y = .sc (.bool a) := by
  unfold dB at h
  split at h <;> cases h
  rfl
theorem dS_ok {y : TV RW} {a : ByteArray} (h : dS y = some a) : y = .sc (.string a) := by
  unfold dS at h
  split at h <;> cases h
  rfl
theorem dA_ok {y : TV RW} {a : Fr} (h : dA y = some a) : y = .agg a := by
  unfold dA at h
  split at h <;> cases h
  rfl
theorem dOne_ok {y : Fr} {a : TV RW} (h : dOne y = some a) : y = [a] := by
  unfold dOne at h
  split at h <;> cases h
  rfl
theorem dP_ok {a b : Nat} {y : TV RW} {u : Unit} (h : dP a b y = some u) : y = .ptr a b := by
  unfold dP at h
  split at h
  · obtain ⟨h1, h2⟩ := cond_some h
    simp only [Bool.and_eq_true] at h1
    rw [nbeq h1.1, nbeq h1.2]
  · cases h
theorem dC_ok {a : Nat} {b : List (Nat × Nat)} {y : TV RW} {u : Unit} (h : dC a b y = some u) : y = .clo a b := by
  unfold dC at h
  split at h
  · obtain ⟨h1, h2⟩ := cond_some h
    simp only [Bool.and_eq_true] at h1
    rw [nbeq h1.1, of_decide_eq_true h1.2]
  · cases h
theorem dRuint8_ok {fl : Bool} {y : TV RW} {a : List Int} (h : dRuint8 fl y = some a) : y = .row fl (.ruint8 a) := by
  unfold dRuint8 at h
  split at h
  · obtain ⟨h1, h2⟩ := cond_some h
    cases h2
    rw [eq_of_beq h1]
  · cases h
theorem dRPiece_ok {fl : Bool} {y : TV RW} {a : List SPiece} (h : dRPiece fl y = some a) : y = .row fl (.rPiece a) := by
  unfold dRPiece at h
  split at h
  · obtain ⟨h1, h2⟩ := cond_some h
    cases h2
    rw [eq_of_beq h1]
  · cases h
theorem dRSpan_ok {fl : Bool} {y : TV RW} {a : List SSpan} (h : dRSpan fl y = some a) : y = .row fl (.rSpan a) := by
  unfold dRSpan at h
  split at h
  · obtain ⟨h1, h2⟩ := cond_some h
    cases h2
    rw [eq_of_beq h1]
  · cases h
theorem dRBlock_ok {fl : Bool} {y : TV RW} {a : List SBlock} (h : dRBlock fl y = some a) : y = .row fl (.rBlock a) := by
  unfold dRBlock at h
  split at h
  · obtain ⟨h1, h2⟩ := cond_some h
    cases h2
    rw [eq_of_beq h1]
  · cases h
theorem dRecv_ok {L : Fr} {a : SRecv} (h : dRecv L = some a) : L = eRecv a := by
  unfold dRecv at h
  split at h
  · simp only [Option.bind_eq_some_iff] at h
    obtain ⟨a0, h0, a1, h1, a2, h2, a3, h3, a4, h4, a5, h5, a6, h6, a7, h7, a8, h8, a9, h9, a10, h10, a11, h11, a12, h12, a13, h13, a14, h14, h⟩ := h
    cases h
    obtain rfl := dI_ok h0
    obtain rfl := dRuint8_ok h1
    obtain rfl := dRPiece_ok h2
    obtain rfl := dI_ok h3
    obtain rfl := dI_ok h4
    obtain rfl := dI_ok h5
    obtain rfl := dI_ok h6
    obtain rfl := dB_ok h7
    obtain rfl := dB_ok h8
    obtain rfl := dI_ok h9
    obtain rfl := dB_ok h10
    obtain rfl := dRSpan_ok h11
    obtain rfl := dI_ok h12
    obtain rfl := dI_ok h13
    obtain rfl := dB_ok h14
    rfl
  · cases h
theorem dRecvt_ok {L : Fr} {a : SRecv} (h : dRecvt L = some a) : L = eRecvt a := by
  unfold dRecvt at h
  split at h
  · simp only [Option.bind_eq_some_iff] at h
    obtain ⟨a0, h0, a1, h1, a2, h2, a3, h3, a4, h4, a5, h5, a6, h6, a7, h7, a8, h8, a9, h9, a10, h10, a11, h11, a12, h12, a13, h13, a14, h14, h⟩ := h
    cases h
    obtain rfl := dI_ok h0
    obtain rfl := dRuint8_ok h1
    obtain rfl := dRPiece_ok h2
    obtain rfl := dI_ok h3
    obtain rfl := dI_ok h4
    obtain rfl := dI_ok h5
    obtain rfl := dI_ok h6
    obtain rfl := dB_ok h7
    obtain rfl := dB_ok h8
    obtain rfl := dI_ok h9
    obtain rfl := dB_ok h10
    obtain rfl := dRSpan_ok h11
    obtain rfl := dI_ok h12
    obtain rfl := dI_ok h13
    obtain rfl := dB_ok h14
    rfl
  · cases h
theorem dPiece_ok {L : Fr} {a : SPiece} (h : dPiece L = some a) : L = ePiece a := by
  unfold dPiece at h
  split at h
  · simp only [Option.bind_eq_some_iff] at h
    obtain ⟨a0, h0, a1, h1, h⟩ := h
    cases h
    obtain rfl := dI_ok h0
    obtain rfl := dRuint8_ok h1
    rfl
  · cases h
theorem dPiecet_ok {L : Fr} {a : SPiece} (h : dPiecet L = some a) : L = ePiecet a := by
  unfold dPiecet at h
  split at h
  · simp only [Option.bind_eq_some_iff] at h
    obtain ⟨a0, h0, a1, h1, h⟩ := h
    cases h
    obtain rfl := dI_ok h0
    obtain rfl := dRuint8_ok h1
    rfl
  · cases h
theorem dSpan_ok {L : Fr} {a : SSpan} (h : dSpan L = some a) : L = eSpan a := by
  unfold dSpan at h
  split at h
  · simp only [Option.bind_eq_some_iff] at h
    obtain ⟨a0, h0, a1, h1, h⟩ := h
    cases h
    obtain rfl := dI_ok h0
    obtain rfl := dI_ok h1
    rfl
  · cases h
theorem dBlock_ok {L : Fr} {a : SBlock} (h : dBlock L = some a) : L = eBlock a := by
  unfold dBlock at h
  split at h
  · simp only [Option.bind_eq_some_iff] at h
    obtain ⟨a0, h0, a1, h1, h⟩ := h
    cases h
    obtain rfl := dI_ok h0
    obtain rfl := dI_ok h1
    rfl
  · cases h
theorem dSegment_ok {L : Fr} {a : SSegment} (h : dSegment L = some a) : L = eSegment a := by
  unfold dSegment at h
  split at h
  · simp only [Option.bind_eq_some_iff] at h
    obtain ⟨a0, h0, a1, h1, a2, h2, a3, h3, a4, h4, a5, h5, a6, h6, a7, h7, a8, h8, a9, h9, a10, h10, a11, h11, a12, h12, a13, h13, a14, h14, h⟩ := h
    cases h
    obtain rfl := dI_ok h0
    obtain rfl := dI_ok h1
    obtain rfl := dI_ok h2
    obtain rfl := dI_ok h3
    obtain rfl := dI_ok h4
    obtain rfl := dI_ok h5
    obtain rfl := dI_ok h6
    obtain rfl := dI_ok h7
    obtain rfl := dI_ok h8
    obtain rfl := dB_ok h9
    obtain rfl := dB_ok h10
    obtain rfl := dI_ok h11
    obtain rfl := dI_ok h12
    obtain rfl := dRBlock_ok h13
    obtain rfl := dRuint8_ok h14
    rfl
  · cases h
theorem dSegmentt_ok {L : Fr} {a : SSegment} (h : dSegmentt L = some a) : L = eSegmentt a := by
  unfold dSegmentt at h
  split at h
  · simp only [Option.bind_eq_some_iff] at h
    obtain ⟨a0, h0, a1, h1, a2, h2, a3, h3, a4, h4, a5, h5, a6, h6, a7, h7, a8, h8, a9, h9, a10, h10, a11, h11, a12, h12, a13, h13, a14, h14, h⟩ := h
    cases h
    obtain rfl := dI_ok h0
    obtain rfl := dI_ok h1
    obtain rfl := dI_ok h2
    obtain rfl := dI_ok h3
    obtain rfl := dI_ok h4
    obtain rfl := dI_ok h5
    obtain rfl := dI_ok h6
    obtain rfl := dI_ok h7
    obtain rfl := dI_ok h8
    obtain rfl := dB_ok h9
    obtain rfl := dB_ok h10
    obtain rfl := dI_ok h11
    obtain rfl := dI_ok h12
    obtain rfl := dRBlock_ok h13
    obtain rfl := dRuint8_ok h14
    rfl
  · cases h
theorem puint8_ok : ∀ {L : Fr} {xs : List Int}, puint8_ L = some xs → TV.los U L = (xs.map cuint8).flatten
  | [], xs, h => by cases h; rfl
  | y0 :: r, xs, h => by
    simp only [puint8_, Option.bind_eq_some_iff] at h
    obtain ⟨a0, h0, xs', h', h⟩ := h
    cases h
    have ih := puint8_ok h'
    obtain rfl := dI_ok h0
    show _ :: TV.los U r = _
    rw [ih]; rfl
theorem pPiece_ok : ∀ {L : Fr} {xs : List SPiece}, pPiece_ L = some xs → TV.los U L = (xs.map cPiece).flatten
  | [], xs, h => by cases h; rfl
  | [_], xs, h => by cases h
  | y0 :: y1 :: r, xs, h => by
    simp only [pPiece_, Option.bind_eq_some_iff] at h
    obtain ⟨a0, h0, a1, h1, xs', h', h⟩ := h
    cases h
    have ih := pPiece_ok h'
    obtain rfl := dI_ok h0
    obtain rfl := dRuint8_ok h1
    show _ :: _ :: TV.los U r = _
    rw [ih]; rfl
theorem pSpan_ok : ∀ {L : Fr} {xs : List SSpan}, pSpan_ L = some xs → TV.los U L = (xs.map cSpan).flatten
  | [], xs, h => by cases h; rfl
  | [_], xs, h => by cases h
  | y0 :: y1 :: r, xs, h => by
    simp only [pSpan_, Option.bind_eq_some_iff] at h
    obtain ⟨a0, h0, a1, h1, xs', h', h⟩ := h
    cases h
    have ih := pSpan_ok h'
    obtain rfl := dI_ok h0
    obtain rfl := dI_ok h1
    show _ :: _ :: TV.los U r = _
    rw [ih]; rfl
theorem pBlock_ok : ∀ {L : Fr} {xs : List SBlock}, pBlock_ L = some xs → TV.los U L = (xs.map cBlock).flatten
  | [], xs, h => by cases h; rfl
  | [_], xs, h => by cases h
  | y0 :: y1 :: r, xs, h => by
    simp only [pBlock_, Option.bind_eq_some_iff] at h
    obtain ⟨a0, h0, a1, h1, xs', h', h⟩ := h
    cases h
    have ih := pBlock_ok h'
    obtain rfl := dI_ok h0
    obtain rfl := dI_ok h1
    show _ :: _ :: TV.los U r = _
    rw [ih]; rfl
theorem dUPiece_ok {y : TV RW} {a : List SPiece} (h : dUPiece y = some a) : y = .un none (.rPiece a) := by
  unfold dUPiece at h
  split at h <;> cases h
  rfl
theorem dXPiece_ok {y : TV RW} {a : SPiece} (h : dXPiece y = some a) : ∃ fl, y = .row fl (.rPiece [a]) := by
  unfold dXPiece at h
  split at h <;> cases h
  exact ⟨_, rfl⟩
theorem UOk : UniOk U where
  get := fun r i => match r with
    | .ruint8 xs => by kernel_rfl
    | .rPiece xs => by kernel_rfl
    | .rSpan xs => by kernel_rfl
    | .rBlock xs => by kernel_rfl
  app := fun r q x h => by cases r <;> cases q <;> first | (cases h; done) | (cases h; exact ⟨rfl, rfl, List.length_append, (rg_app (c := cuint8) (z := zuint8)).symm⟩) | (cases h; exact ⟨rfl, rfl, List.length_append, (rg_app (c := cPiece) (z := zPiece)).symm⟩) | (cases h; exact ⟨rfl, rfl, List.length_append, (rg_app (c := cSpan) (z := zSpan)).symm⟩) | (cases h; exact ⟨rfl, rfl, List.length_append, (rg_app (c := cBlock) (z := zBlock)).symm⟩)
  sub := fun lo n r h => by cases r <;> first | exact ⟨rfl, sub_len h, (rg_sub (c := cuint8) (z := zuint8) h).symm⟩ | exact ⟨rfl, sub_len h, (rg_sub (c := cPiece) (z := zPiece) h).symm⟩ | exact ⟨rfl, sub_len h, (rg_sub (c := cSpan) (z := zSpan) h).symm⟩ | exact ⟨rfl, sub_len h, (rg_sub (c := cBlock) (z := zBlock) h).symm⟩
  lit := fun t n L r h => by
    unfold U at h
    dsimp only at h
    split at h
    · obtain ⟨xs, h1, rfl, rfl⟩ := bind_lit h
      have e := puint8_ok h1
      exact ⟨rfl, rfl, by rw [e]; exact (rg_lit (c := cuint8) (sz := 1) (z := zuint8) (fun _ => rfl)).symm, by rw [e]; exact all_flat (fun _ => rfl) xs⟩
    · obtain ⟨xs, h1, rfl, rfl⟩ := bind_lit h
      have e := pPiece_ok h1
      exact ⟨rfl, rfl, by rw [e]; exact (rg_lit (c := cPiece) (sz := 2) (z := zPiece) (fun _ => rfl)).symm, by rw [e]; exact all_flat (fun _ => rfl) xs⟩
    · obtain ⟨xs, h1, rfl, rfl⟩ := bind_lit h
      have e := pSpan_ok h1
      exact ⟨rfl, rfl, by rw [e]; exact (rg_lit (c := cSpan) (sz := 2) (z := zSpan) (fun _ => rfl)).symm, by rw [e]; exact all_flat (fun _ => rfl) xs⟩
    · obtain ⟨xs, h1, rfl, rfl⟩ := bind_lit h
      have e := pBlock_ok h1
      exact ⟨rfl, rfl, by rw [e]; exact (rg_lit (c := cBlock) (sz := 2) (z := zBlock) (fun _ => rfl)).symm, by rw [e]; exact all_flat (fun _ => rfl) xs⟩
    · cases h
  set := fun r q off cs r' hq h => by
    unfold U at h hq
    dsimp only at h hq
    split at h
    · cases h
    · obtain ⟨x, h1, h2⟩ := Option.bind_eq_some_iff.1 h
      cases h2
      obtain ⟨a1, a2, a3⟩ := set_fin (U := U) (c := cPiece) (z := zPiece) (e := ePiece) (fun _ => by kernel_rfl) (fun _ => rfl) hq (dPiece_ok h1)
      exact ⟨rfl, a1, a2, a3⟩
    · obtain ⟨x, h1, h2⟩ := Option.bind_eq_some_iff.1 h
      cases h2
      obtain ⟨a1, a2, a3⟩ := set_fin (U := U) (c := cSpan) (z := zSpan) (e := eSpan) (fun _ => by kernel_rfl) (fun _ => rfl) hq (dSpan_ok h1)
      exact ⟨rfl, a1, a2, a3⟩
    · obtain ⟨x, h1, h2⟩ := Option.bind_eq_some_iff.1 h
      cases h2
      obtain ⟨a1, a2, a3⟩ := set_fin (U := U) (c := cBlock) (z := zBlock) (e := eBlock) (fun _ => by kernel_rfl) (fun _ => rfl) hq (dBlock_ok h1)
      exact ⟨rfl, a1, a2, a3⟩
  str := fun r l h => by
    unfold U at h
    dsimp only at h
    split at h
    · cases h
      exact ⟨rfl, bytes_rg (fun _ => rfl) l⟩
    · cases h
    · cases h
    · cases h

theorem ok27 {R : Type} {r : R} : ∀ {n : Nat}, (∀ m, n = m + 1 → CallOk2 (R := R) U (callP capB m) (runF tbl m)) → ∀ {av : Fr} {cs : List Fr} {k : Ret2 RW → Option R}, ca27 capB n av cs k = some r → ∃ q : Ret2 RW, runF tbl n 27 (TV.los U av) (cs.map (TV.los U)) = some (q.lo U) ∧ k q = some r := by
  intro n ih av cs k h
  unfold ca27 at h
  split at h
  · simp only [Option.bind_eq_some_iff] at h
    obtain ⟨c0_, h0, p0, g0, h⟩ := h
    obtain rfl := dA_ok h0
    obtain rfl := dRecv_ok g0
    cases n with
    | zero => cases h
    | succ n =>
      exact run2_ok UOk (ih n rfl) (f := fn27) rfl ((run27 capB n p0 k).symm.trans h)
  · cases h
theorem ok53 {R : Type} {r : R} : ∀ {n : Nat}, (∀ m, n = m + 1 → CallOk2 (R := R) U (callP capB m) (runF tbl m)) → ∀ {av : Fr} {cs : List Fr} {k : Ret2 RW → Option R}, ca53 capB n av cs k = some r → ∃ q : Ret2 RW, runF tbl n 53 (TV.los U av) (cs.map (TV.los U)) = some (q.lo U) ∧ k q = some r := by
  intro n ih av cs k h
  unfold ca53 at h
  split at h
  · simp only [Option.bind_eq_some_iff] at h
    obtain ⟨c0_, h0, p0, g0, h⟩ := h
    obtain rfl := dA_ok h0
    obtain rfl := dRecv_ok g0
    cases n with
    | zero => cases h
    | succ n =>
      exact run2_ok UOk (ih n rfl) (f := fn53) rfl ((run53 capB n p0 k).symm.trans h)
  · cases h
theorem ok55 {R : Type} {r : R} : ∀ {n : Nat}, (∀ m, n = m + 1 → CallOk2 (R := R) U (callP capB m) (runF tbl m)) → ∀ {av : Fr} {cs : List Fr} {k : Ret2 RW → Option R}, ca55 capB n av cs k = some r → ∃ q : Ret2 RW, runF tbl n 55 (TV.los U av) (cs.map (TV.los U)) = some (q.lo U) ∧ k q = some r := by
  intro n ih av cs k h
  unfold ca55 at h
  split at h
  · simp only [Option.bind_eq_some_iff] at h
    obtain ⟨c0_, h0, p0, g0, h⟩ := h
    obtain rfl := dA_ok h0
    obtain rfl := dRecv_ok g0
    cases n with
    | zero => cases h
    | succ n =>
      exact run2_ok UOk (ih n rfl) (f := fn55) rfl ((run55 capB n p0 k).symm.trans h)
  · cases h
theorem ok71 {R : Type} {r : R} : ∀ {n : Nat}, (∀ m, n = m + 1 → CallOk2 (R := R) U (callP capB m) (runF tbl m)) → ∀ {av : Fr} {cs : List Fr} {k : Ret2 RW → Option R}, ca71 capB n av cs k = some r → ∃ q : Ret2 RW, runF tbl n 71 (TV.los U av) (cs.map (TV.los U)) = some (q.lo U) ∧ k q = some r := by
  intro n ih av cs k h
  unfold ca71 at h
  split at h
  · simp only [Option.bind_eq_some_iff] at h
    obtain ⟨c0_, h0, p0, g0, h⟩ := h
    obtain rfl := dA_ok h0
    obtain rfl := dPiece_ok g0
    cases n with
    | zero => cases h
    | succ n =>
      exact run2_ok UOk (ih n rfl) (f := fn71) rfl ((run71 capB n p0 k).symm.trans h)
  · cases h
theorem ok1007 {R : Type} {r : R} : ∀ {n : Nat}, (∀ m, n = m + 1 → CallOk2 (R := R) U (callP capB m) (runF tbl m)) → ∀ {av : Fr} {cs : List Fr} {k : Ret2 RW → Option R}, ca1007 capB n av cs k = some r → ∃ q : Ret2 RW, runF tbl n 1007 (TV.los U av) (cs.map (TV.los U)) = some (q.lo U) ∧ k q = some r := by
  intro n ih av cs k h
  unfold ca1007 at h
  split at h
  · simp only [Option.bind_eq_some_iff] at h
    obtain ⟨p0, h0, u1, h1, q0, i0, h⟩ := h
    obtain rfl := dRSpan_ok h0
    obtain rfl := dC_ok h1
    obtain rfl := dRecv_ok i0
    cases n with
    | zero => cases h
    | succ n =>
      exact run2_ok UOk (ih n rfl) (f := fn1007) rfl ((run1007 capB n p0 q0 k).symm.trans h)
  · cases h
theorem ok1006 {R : Type} {r : R} : ∀ {n : Nat}, (∀ m, n = m + 1 → CallOk2 (R := R) U (callP capB m) (runF tbl m)) → ∀ {av : Fr} {cs : List Fr} {k : Ret2 RW → Option R}, ca1006 capB n av cs k = some r → ∃ q : Ret2 RW, runF tbl n 1006 (TV.los U av) (cs.map (TV.los U)) = some (q.lo U) ∧ k q = some r := by
  intro n ih av cs k h
  unfold ca1006 at h
  split at h
  · simp only [Option.bind_eq_some_iff] at h
    obtain ⟨u0, h0, q0, i0, h⟩ := h
    obtain rfl := dC_ok h0
    obtain rfl := dRecv_ok i0
    cases n with
    | zero => cases h
    | succ n =>
      exact run2_ok UOk (ih n rfl) (f := fn1006) rfl ((run1006 capB n q0 k).symm.trans h)
  · cases h
theorem ok72 {R : Type} {r : R} : ∀ {n : Nat}, (∀ m, n = m + 1 → CallOk2 (R := R) U (callP capB m) (runF tbl m)) → ∀ {av : Fr} {cs : List Fr} {k : Ret2 RW → Option R}, ca72 capB n av cs k = some r → ∃ q : Ret2 RW, runF tbl n 72 (TV.los U av) (cs.map (TV.los U)) = some (q.lo U) ∧ k q = some r := by
  intro n ih av cs k h
  unfold ca72 at h
  split at h
  · simp only [Option.bind_eq_some_iff] at h
    obtain ⟨p0, h0, c1_, h1, p1, g1, h⟩ := h
    obtain rfl := dRSpan_ok h0
    obtain rfl := dA_ok h1
    obtain rfl := dSpan_ok g1
    cases n with
    | zero => cases h
    | succ n =>
      exact run2_ok UOk (ih n rfl) (f := fn72) rfl ((run72 capB n p0 p1 k).symm.trans h)
  · cases h
theorem ok56 {R : Type} {r : R} : ∀ {n : Nat}, (∀ m, n = m + 1 → CallOk2 (R := R) U (callP capB m) (runF tbl m)) → ∀ {av : Fr} {cs : List Fr} {k : Ret2 RW → Option R}, ca56 capB n av cs k = some r → ∃ q : Ret2 RW, runF tbl n 56 (TV.los U av) (cs.map (TV.los U)) = some (q.lo U) ∧ k q = some r := by
  intro n ih av cs k h
  unfold ca56 at h
  split at h
  · simp only [Option.bind_eq_some_iff] at h
    obtain ⟨p0, h0, c1_, h1, p1, g1, h⟩ := h
    obtain rfl := dRSpan_ok h0
    obtain rfl := dA_ok h1
    obtain rfl := dSpan_ok g1
    cases n with
    | zero => cases h
    | succ n =>
      exact run2_ok UOk (ih n rfl) (f := fn56) rfl ((run56 capB n p0 p1 k).symm.trans h)
  · cases h
theorem ok28 {R : Type} {r : R} : ∀ {n : Nat}, (∀ m, n = m + 1 → CallOk2 (R := R) U (callP capB m) (runF tbl m)) → ∀ {av : Fr} {cs : List Fr} {k : Ret2 RW → Option R}, ca28 capB n av cs k = some r → ∃ q : Ret2 RW, runF tbl n 28 (TV.los U av) (cs.map (TV.los U)) = some (q.lo U) ∧ k q = some r := by
  intro n ih av cs k h
  unfold ca28 at h
  split at h
  · simp only [Option.bind_eq_some_iff] at h
    obtain ⟨c0_, h0, p0, g0, h⟩ := h
    obtain rfl := dA_ok h0
    obtain rfl := dRecv_ok g0
    cases n with
    | zero => cases h
    | succ n =>
      exact run2_ok UOk (ih n rfl) (f := fn28) rfl ((run28 capB n p0 k).symm.trans h)
  · cases h
theorem ok10 {R : Type} {r : R} : ∀ {n : Nat}, (∀ m, n = m + 1 → CallOk2 (R := R) U (callP capB m) (runF tbl m)) → ∀ {av : Fr} {cs : List Fr} {k : Ret2 RW → Option R}, ca10 capB n av cs k = some r → ∃ q : Ret2 RW, runF tbl n 10 (TV.los U av) (cs.map (TV.los U)) = some (q.lo U) ∧ k q = some r := by
  intro n ih av cs k h
  unfold ca10 at h
  split at h
  · simp only [Option.bind_eq_some_iff] at h
    obtain ⟨c0_, h0, p0, g0, h⟩ := h
    obtain rfl := dA_ok h0
    obtain rfl := dRecv_ok g0
    cases n with
    | zero => cases h
    | succ n =>
      exact run2_ok UOk (ih n rfl) (f := fn10) rfl ((run10 capB n p0 k).symm.trans h)
  · cases h
theorem ok49 {R : Type} {r : R} : ∀ {n : Nat}, (∀ m, n = m + 1 → CallOk2 (R := R) U (callP capB m) (runF tbl m)) → ∀ {av : Fr} {cs : List Fr} {k : Ret2 RW → Option R}, ca49 capB n av cs k = some r → ∃ q : Ret2 RW, runF tbl n 49 (TV.los U av) (cs.map (TV.los U)) = some (q.lo U) ∧ k q = some r := by
  intro n ih av cs k h
  unfold ca49 at h
  split at h
  · simp only [Option.bind_eq_some_iff] at h
    obtain ⟨c0_, h0, p0, g0, h⟩ := h
    obtain rfl := dA_ok h0
    obtain rfl := dRecv_ok g0
    cases n with
    | zero => cases h
    | succ n =>
      exact run2_ok UOk (ih n rfl) (f := fn49) rfl ((run49 capB n p0 k).symm.trans h)
  · cases h
theorem ok22 {R : Type} {r : R} : ∀ {n : Nat}, (∀ m, n = m + 1 → CallOk2 (R := R) U (callP capB m) (runF tbl m)) → ∀ {av : Fr} {cs : List Fr} {k : Ret2 RW → Option R}, ca22 capB n av cs k = some r → ∃ q : Ret2 RW, runF tbl n 22 (TV.los U av) (cs.map (TV.los U)) = some (q.lo U) ∧ k q = some r := by
  intro n ih av cs k h
  unfold ca22 at h
  split at h
  · simp only [Option.bind_eq_some_iff] at h
    obtain ⟨c0_, h0, p0, g0, h⟩ := h
    obtain rfl := dA_ok h0
    obtain rfl := dRecv_ok g0
    cases n with
    | zero => cases h
    | succ n =>
      exact run2_ok UOk (ih n rfl) (f := fn22) rfl ((run22 capB n p0 k).symm.trans h)
  · cases h
theorem ok17 {R : Type} {r : R} : ∀ {n : Nat}, (∀ m, n = m + 1 → CallOk2 (R := R) U (callP capB m) (runF tbl m)) → ∀ {av : Fr} {cs : List Fr} {k : Ret2 RW → Option R}, ca17 capB n av cs k = some r → ∃ q : Ret2 RW, runF tbl n 17 (TV.los U av) (cs.map (TV.los U)) = some (q.lo U) ∧ k q = some r := by
  intro n ih av cs k h
  unfold ca17 at h
  split at h
  · simp only [Option.bind_eq_some_iff] at h
    obtain ⟨p0, h0, p1, h1, p2, h2, p3, h3, p4, h4, p5, h5, h⟩ := h
    obtain rfl := dI_ok h0
    obtain rfl := dI_ok h1
    obtain rfl := dI_ok h2
    obtain rfl := dI_ok h3
    obtain rfl := dB_ok h4
    obtain rfl := dB_ok h5
    cases n with
    | zero => cases h
    | succ n =>
      exact run2_ok UOk (ih n rfl) (f := fn17) rfl ((run17 capB n p0 p1 p2 p3 p4 p5 k).symm.trans h)
  · cases h
theorem ok57 {R : Type} {r : R} : ∀ {n : Nat}, (∀ m, n = m + 1 → CallOk2 (R := R) U (callP capB m) (runF tbl m)) → ∀ {av : Fr} {cs : List Fr} {k : Ret2 RW → Option R}, ca57 capB n av cs k = some r → ∃ q : Ret2 RW, runF tbl n 57 (TV.los U av) (cs.map (TV.los U)) = some (q.lo U) ∧ k q = some r := by
  intro n ih av cs k h
  unfold ca57 at h
  split at h
  · simp only [Option.bind_eq_some_iff] at h
    obtain ⟨p0, h0, h⟩ := h
    obtain rfl := dRSpan_ok h0
    cases n with
    | zero => cases h
    | succ n =>
      obtain ⟨h1, h2⟩ := cond_some h
      exact ⟨⟨.row true (.rSpan p0), [], []⟩, clone57 n p0 h1, h2⟩
  · cases h
theorem ok52 {R : Type} {r : R} : ∀ {n : Nat}, (∀ m, n = m + 1 → CallOk2 (R := R) U (callP capB m) (runF tbl m)) → ∀ {av : Fr} {cs : List Fr} {k : Ret2 RW → Option R}, ca52 capB n av cs k = some r → ∃ q : Ret2 RW, runF tbl n 52 (TV.los U av) (cs.map (TV.los U)) = some (q.lo U) ∧ k q = some r := by
  intro n ih av cs k h
  unfold ca52 at h
  split at h
  · simp only [Option.bind_eq_some_iff] at h
    obtain ⟨p0, h0, h⟩ := h
    obtain rfl := dRuint8_ok h0
    cases n with
    | zero => cases h
    | succ n =>
      obtain ⟨h1, h2⟩ := cond_some h
      exact ⟨⟨.row true (.ruint8 p0), [], []⟩, clone52 n p0 h1, h2⟩
  · cases h
theorem ok29 {R : Type} {r : R} : ∀ {n : Nat}, (∀ m, n = m + 1 → CallOk2 (R := R) U (callP capB m) (runF tbl m)) → ∀ {av : Fr} {cs : List Fr} {k : Ret2 RW → Option R}, ca29 capB n av cs k = some r → ∃ q : Ret2 RW, runF tbl n 29 (TV.los U av) (cs.map (TV.los U)) = some (q.lo U) ∧ k q = some r := by
  intro n ih av cs k h
  unfold ca29 at h
  split at h
  · simp only [Option.bind_eq_some_iff] at h
    obtain ⟨c0_, h0, p0, g0, h⟩ := h
    obtain rfl := dA_ok h0
    obtain rfl := dRecv_ok g0
    cases n with
    | zero => cases h
    | succ n =>
      exact run2_ok UOk (ih n rfl) (f := fn29) rfl ((run29 capB n p0 k).symm.trans h)
  · cases h
theorem ok31 {R : Type} {r : R} : ∀ {n : Nat}, (∀ m, n = m + 1 → CallOk2 (R := R) U (callP capB m) (runF tbl m)) → ∀ {av : Fr} {cs : List Fr} {k : Ret2 RW → Option R}, ca31 capB n av cs k = some r → ∃ q : Ret2 RW, runF tbl n 31 (TV.los U av) (cs.map (TV.los U)) = some (q.lo U) ∧ k q = some r := by
  intro n ih av cs k h
  unfold ca31 at h
  split at h
  · simp only [Option.bind_eq_some_iff] at h
    obtain ⟨p0, h0, p1, h1, h⟩ := h
    obtain rfl := dI_ok h0
    obtain rfl := dI_ok h1
    cases n with
    | zero => cases h
    | succ n =>
      exact run2_ok UOk (ih n rfl) (f := fn31) rfl ((run31 capB n p0 p1 k).symm.trans h)
  · cases h
theorem ok58 {R : Type} {r : R} : ∀ {n : Nat}, (∀ m, n = m + 1 → CallOk2 (R := R) U (callP capB m) (runF tbl m)) → ∀ {av : Fr} {cs : List Fr} {k : Ret2 RW → Option R}, ca58 capB n av cs k = some r → ∃ q : Ret2 RW, runF tbl n 58 (TV.los U av) (cs.map (TV.los U)) = some (q.lo U) ∧ k q = some r := by
  intro n ih av cs k h
  unfold ca58 at h
  split at h
  · simp only [Option.bind_eq_some_iff] at h
    obtain ⟨p0, h0, p1, h1, h⟩ := h
    obtain rfl := dI_ok h0
    obtain rfl := dI_ok h1
    cases n with
    | zero => cases h
    | succ n =>
      exact run2_ok UOk (ih n rfl) (f := fn58) rfl ((run58 capB n p0 p1 k).symm.trans h)
  · cases h
theorem ok30 {R : Type} {r : R} : ∀ {n : Nat}, (∀ m, n = m + 1 → CallOk2 (R := R) U (callP capB m) (runF tbl m)) → ∀ {av : Fr} {cs : List Fr} {k : Ret2 RW → Option R}, ca30 capB n av cs k = some r → ∃ q : Ret2 RW, runF tbl n 30 (TV.los U av) (cs.map (TV.los U)) = some (q.lo U) ∧ k q = some r := by
  intro n ih av cs k h
  unfold ca30 at h
  split at h
  · simp only [Option.bind_eq_some_iff] at h
    obtain ⟨p0, h0, p1, h1, h⟩ := h
    obtain rfl := dI_ok h0
    obtain rfl := dI_ok h1
    cases n with
    | zero => cases h
    | succ n =>
      exact run2_ok UOk (ih n rfl) (f := fn30) rfl ((run30 capB n p0 p1 k).symm.trans h)
  · cases h
theorem ok36 {R : Type} {r : R} : ∀ {n : Nat}, (∀ m, n = m + 1 → CallOk2 (R := R) U (callP capB m) (runF tbl m)) → ∀ {av : Fr} {cs : List Fr} {k : Ret2 RW → Option R}, ca36 capB n av cs k = some r → ∃ q : Ret2 RW, runF tbl n 36 (TV.los U av) (cs.map (TV.los U)) = some (q.lo U) ∧ k q = some r := by
  intro n ih av cs k h
  unfold ca36 at h
  split at h
  · simp only [Option.bind_eq_some_iff] at h
    obtain ⟨p0, h0, p1, h1, h⟩ := h
    obtain rfl := dI_ok h0
    obtain rfl := dI_ok h1
    cases n with
    | zero => cases h
    | succ n =>
      exact run2_ok UOk (ih n rfl) (f := fn36) rfl ((run36 capB n p0 p1 k).symm.trans h)
  · cases h
theorem ok32 {R : Type} {r : R} : ∀ {n : Nat}, (∀ m, n = m + 1 → CallOk2 (R := R) U (callP capB m) (runF tbl m)) → ∀ {av : Fr} {cs : List Fr} {k : Ret2 RW → Option R}, ca32 capB n av cs k = some r → ∃ q : Ret2 RW, runF tbl n 32 (TV.los U av) (cs.map (TV.los U)) = some (q.lo U) ∧ k q = some r := by
  intro n ih av cs k h
  unfold ca32 at h
  split at h
  · simp only [Option.bind_eq_some_iff] at h
    obtain ⟨c0_, h0, p0, g0, p1, h1, h⟩ := h
    obtain rfl := dA_ok h0
    obtain rfl := dRecv_ok g0
    obtain rfl := dRBlock_ok h1
    cases n with
    | zero => cases h
    | succ n =>
      exact run2_ok UOk (ih n rfl) (f := fn32) rfl ((run32 capB n p0 p1 k).symm.trans h)
  · cases h
theorem ok33 {R : Type} {r : R} : ∀ {n : Nat}, (∀ m, n = m + 1 → CallOk2 (R := R) U (callP capB m) (runF tbl m)) → ∀ {av : Fr} {cs : List Fr} {k : Ret2 RW → Option R}, ca33 capB n av cs k = some r → ∃ q : Ret2 RW, runF tbl n 33 (TV.los U av) (cs.map (TV.los U)) = some (q.lo U) ∧ k q = some r := by
  intro n ih av cs k h
  unfold ca33 at h
  split at h
  · simp only [Option.bind_eq_some_iff] at h
    obtain ⟨c0_, h0, p0, g0, p1, h1, h⟩ := h
    obtain rfl := dA_ok h0
    obtain rfl := dRecv_ok g0
    obtain rfl := dI_ok h1
    cases n with
    | zero => cases h
    | succ n =>
      exact run2_ok UOk (ih n rfl) (f := fn33) rfl ((run33 capB n p0 p1 k).symm.trans h)
  · cases h
theorem ok82 {R : Type} {r : R} : ∀ {n : Nat}, (∀ m, n = m + 1 → CallOk2 (R := R) U (callP capB m) (runF tbl m)) → ∀ {av : Fr} {cs : List Fr} {k : Ret2 RW → Option R}, ca82 capB n av cs k = some r → ∃ q : Ret2 RW, runF tbl n 82 (TV.los U av) (cs.map (TV.los U)) = some (q.lo U) ∧ k q = some r := by
  intro n ih av cs k h
  unfold ca82 at h
  split at h
  · simp only [Option.bind_eq_some_iff] at h
    obtain ⟨c0_, h0, p0, g0, h⟩ := h
    obtain rfl := dA_ok h0
    obtain rfl := dSpan_ok g0
    cases n with
    | zero => cases h
    | succ n =>
      exact run2_ok UOk (ih n rfl) (f := fn82) rfl ((run82 capB n p0 k).symm.trans h)
  · cases h
theorem ok78 {R : Type} {r : R} : ∀ {n : Nat}, (∀ m, n = m + 1 → CallOk2 (R := R) U (callP capB m) (runF tbl m)) → ∀ {av : Fr} {cs : List Fr} {k : Ret2 RW → Option R}, ca78 capB n av cs k = some r → ∃ q : Ret2 RW, runF tbl n 78 (TV.los U av) (cs.map (TV.los U)) = some (q.lo U) ∧ k q = some r := by
  intro n ih av cs k h
  unfold ca78 at h
  split at h
  · simp only [Option.bind_eq_some_iff] at h
    obtain ⟨p0, h0, h⟩ := h
    obtain rfl := dRSpan_ok h0
    cases n with
    | zero => cases h
    | succ n =>
      exact run2_ok UOk (ih n rfl) (f := fn78) rfl ((run78 capB n p0 k).symm.trans h)
  · cases h
theorem ok79 {R : Type} {r : R} : ∀ {n : Nat}, (∀ m, n = m + 1 → CallOk2 (R := R) U (callP capB m) (runF tbl m)) → ∀ {av : Fr} {cs : List Fr} {k : Ret2 RW → Option R}, ca79 capB n av cs k = some r → ∃ q : Ret2 RW, runF tbl n 79 (TV.los U av) (cs.map (TV.los U)) = some (q.lo U) ∧ k q = some r := by
  intro n ih av cs k h
  unfold ca79 at h
  split at h
  · simp only [Option.bind_eq_some_iff] at h
    obtain ⟨p0, h0, c1_, h1, p1, g1, h⟩ := h
    obtain rfl := dRSpan_ok h0
    obtain rfl := dA_ok h1
    obtain rfl := dSpan_ok g1
    cases n with
    | zero => cases h
    | succ n =>
      exact run2_ok UOk (ih n rfl) (f := fn79) rfl ((run79 capB n p0 p1 k).symm.trans h)
  · cases h
theorem ok61 {R : Type} {r : R} : ∀ {n : Nat}, (∀ m, n = m + 1 → CallOk2 (R := R) U (callP capB m) (runF tbl m)) → ∀ {av : Fr} {cs : List Fr} {k : Ret2 RW → Option R}, ca61 capB n av cs k = some r → ∃ q : Ret2 RW, runF tbl n 61 (TV.los U av) (cs.map (TV.los U)) = some (q.lo U) ∧ k q = some r := by
  intro n ih av cs k h
  unfold ca61 at h
  split at h
  · simp only [Option.bind_eq_some_iff] at h
    obtain ⟨p0, h0, c1_, h1, p1, g1, h⟩ := h
    obtain rfl := dRSpan_ok h0
    obtain rfl := dA_ok h1
    obtain rfl := dSpan_ok g1
    cases n with
    | zero => cases h
    | succ n =>
      exact run2_ok UOk (ih n rfl) (f := fn61) rfl ((run61 capB n p0 p1 k).symm.trans h)
  · cases h
theorem ok74 {R : Type} {r : R} : ∀ {n : Nat}, (∀ m, n = m + 1 → CallOk2 (R := R) U (callP capB m) (runF tbl m)) → ∀ {av : Fr} {cs : List Fr} {k : Ret2 RW → Option R}, ca74 capB n av cs k = some r → ∃ q : Ret2 RW, runF tbl n 74 (TV.los U av) (cs.map (TV.los U)) = some (q.lo U) ∧ k q = some r := by
  intro n ih av cs k h
  unfold ca74 at h
  split at h
  · simp only [Option.bind_eq_some_iff] at h
    obtain ⟨c0_, h0, p0, g0, p1, h1, h⟩ := h
    obtain rfl := dA_ok h0
    obtain rfl := dPiece_ok g0
    obtain rfl := dI_ok h1
    cases n with
    | zero => cases h
    | succ n =>
      exact run2_ok UOk (ih n rfl) (f := fn74) rfl ((run74 capB n p0 p1 k).symm.trans h)
  · cases h
theorem ok1032 {R : Type} {r : R} : ∀ {n : Nat}, (∀ m, n = m + 1 → CallOk2 (R := R) U (callP capB m) (runF tbl m)) → ∀ {av : Fr} {cs : List Fr} {k : Ret2 RW → Option R}, ca1032 capB n av cs k = some r → ∃ q : Ret2 RW, runF tbl n 1032 (TV.los U av) (cs.map (TV.los U)) = some (q.lo U) ∧ k q = some r := by
  intro n ih av cs k h
  unfold ca1032 at h
  split at h
  · simp only [Option.bind_eq_some_iff] at h
    obtain ⟨p0, h0, p1, h1, u2, h2, h⟩ := h
    obtain rfl := dRPiece_ok h0
    obtain rfl := dI_ok h1
    obtain rfl := dC_ok h2
    cases n with
    | zero => cases h
    | succ n =>
      exact run2_ok UOk (ih n rfl) (f := fn1032) rfl ((run1032 capB n p0 p1 k).symm.trans h)
  · cases h
theorem ok1034 {R : Type} {r : R} : ∀ {n : Nat}, (∀ m, n = m + 1 → CallOk2 (R := R) U (callP capB m) (runF tbl m)) → ∀ {av : Fr} {cs : List Fr} {k : Ret2 RW → Option R}, ca1034 capB n av cs k = some r → ∃ q : Ret2 RW, runF tbl n 1034 (TV.los U av) (cs.map (TV.los U)) = some (q.lo U) ∧ k q = some r := by
  intro n ih av cs k h
  unfold ca1034 at h
  split at h
  · simp only [Option.bind_eq_some_iff] at h
    obtain ⟨p0, h0, h⟩ := h
    obtain rfl := dRPiece_ok h0
    cases n with
    | zero => cases h
    | succ n =>
      obtain ⟨h1, h2⟩ := cond_some h
      exact ⟨⟨.un none (.rPiece p0), [], []⟩, clone1034 n p0 h1, h2⟩
  · cases h
theorem ok75 {R : Type} {r : R} : ∀ {n : Nat}, (∀ m, n = m + 1 → CallOk2 (R := R) U (callP capB m) (runF tbl m)) → ∀ {av : Fr} {cs : List Fr} {k : Ret2 RW → Option R}, ca75 capB n av cs k = some r → ∃ q : Ret2 RW, runF tbl n 75 (TV.los U av) (cs.map (TV.los U)) = some (q.lo U) ∧ k q = some r := by
  intro n ih av cs k h
  unfold ca75 at h
  split at h
  · simp only [Option.bind_eq_some_iff] at h
    obtain ⟨p0, h0, p1, h1, p2, h2, h⟩ := h
    obtain rfl := dUPiece_ok h0
    obtain rfl := dI_ok h1
    obtain ⟨a2, rfl⟩ := dXPiece_ok h2
    cases n with
    | zero => cases h
    | succ n =>
      obtain ⟨h1, h2⟩ := cond_some h
      obtain ⟨h3, h4⟩ := cond_some h2
      obtain ⟨h5, h6⟩ := cond_some h4
      exact ⟨⟨.un none (.rPiece (insL p0 (Int.toNat p1) p2)), [], []⟩, clone75 n a2 p0 p1 p2 h1 h3 h5, h6⟩
  · cases h
theorem ok77 {R : Type} {r : R} : ∀ {n : Nat}, (∀ m, n = m + 1 → CallOk2 (R := R) U (callP capB m) (runF tbl m)) → ∀ {av : Fr} {cs : List Fr} {k : Ret2 RW → Option R}, ca77 capB n av cs k = some r → ∃ q : Ret2 RW, runF tbl n 77 (TV.los U av) (cs.map (TV.los U)) = some (q.lo U) ∧ k q = some r := by
  intro n ih av cs k h
  unfold ca77 at h
  split at h
  · simp only [Option.bind_eq_some_iff] at h
    obtain ⟨p0, h0, h⟩ := h
    obtain rfl := dRuint8_ok h0
    cases n with
    | zero => cases h
    | succ n =>
      exact run2_ok UOk (ih n rfl) (f := fn77) rfl ((run77 capB n p0 k).symm.trans h)
  · cases h
theorem ok60 {R : Type} {r : R} : ∀ {n : Nat}, (∀ m, n = m + 1 → CallOk2 (R := R) U (callP capB m) (runF tbl m)) → ∀ {av : Fr} {cs : List Fr} {k : Ret2 RW → Option R}, ca60 capB n av cs k = some r → ∃ q : Ret2 RW, runF tbl n 60 (TV.los U av) (cs.map (TV.los U)) = some (q.lo U) ∧ k q = some r := by
  intro n ih av cs k h
  unfold ca60 at h
  split at h
  · simp only [Option.bind_eq_some_iff] at h
    obtain ⟨p0, h0, c1_, h1, p1, g1, h⟩ := h
    obtain rfl := dRPiece_ok h0
    obtain rfl := dA_ok h1
    obtain rfl := dPiece_ok g1
    cases n with
    | zero => cases h
    | succ n =>
      exact run2_ok UOk (ih n rfl) (f := fn60) rfl ((run60 capB n p0 p1 k).symm.trans h)
  · cases h
theorem ok1030 {R : Type} {r : R} : ∀ {n : Nat}, (∀ m, n = m + 1 → CallOk2 (R := R) U (callP capB m) (runF tbl m)) → ∀ {av : Fr} {cs : List Fr} {k : Ret2 RW → Option R}, ca1030 capB n av cs k = some r → ∃ q : Ret2 RW, runF tbl n 1030 (TV.los U av) (cs.map (TV.los U)) = some (q.lo U) ∧ k q = some r := by
  intro n ih av cs k h
  unfold ca1030 at h
  split at h
  · simp only [Option.bind_eq_some_iff] at h
    obtain ⟨c0_, h0, p0, g0, u1, h1, u2, h2, u3, h3, u4, h4, q0, i0, u_1, j1, q1, i1, u_2, j2, q2, i2, u_3, j3, q3, i3, h⟩ := h
    obtain rfl := dA_ok h0
    obtain rfl := dSpan_ok g0
    obtain rfl := dP_ok h1
    obtain rfl := dP_ok h2
    obtain rfl := dP_ok h3
    obtain rfl := dP_ok h4
    obtain rfl := dRecvt_ok i0
    obtain rfl := dOne_ok j1
    obtain rfl := dI_ok i1
    obtain rfl := dOne_ok j2
    obtain rfl := dRuint8_ok i2
    obtain rfl := dOne_ok j3
    obtain rfl := dB_ok i3
    cases n with
    | zero => cases h
    | succ n =>
      exact run2_ok UOk (ih n rfl) (f := fn1030) rfl ((run1030 capB n p0 q0 q1 q2 q3 k).symm.trans h)
  · cases h
theorem ok34 {R : Type} {r : R} : ∀ {n : Nat}, (∀ m, n = m + 1 → CallOk2 (R := R) U (callP capB m) (runF tbl m)) → ∀ {av : Fr} {cs : List Fr} {k : Ret2 RW → Option R}, ca34 capB n av cs k = some r → ∃ q : Ret2 RW, runF tbl n 34 (TV.los U av) (cs.map (TV.los U)) = some (q.lo U) ∧ k q = some r := by
  intro n ih av cs k h
  unfold ca34 at h
  split at h
  · simp only [Option.bind_eq_some_iff] at h
    obtain ⟨c0_, h0, p0, g0, p1, h1, p2, h2, h⟩ := h
    obtain rfl := dA_ok h0
    obtain rfl := dRecvt_ok g0
    obtain rfl := dI_ok h1
    obtain rfl := dRuint8_ok h2
    cases n with
    | zero => cases h
    | succ n =>
      exact run2_ok UOk (ih n rfl) (f := fn34) rfl ((run34 capB n p0 p1 p2 k).symm.trans h)
  · cases h
theorem ok1039 {R : Type} {r : R} : ∀ {n : Nat}, (∀ m, n = m + 1 → CallOk2 (R := R) U (callP capB m) (runF tbl m)) → ∀ {av : Fr} {cs : List Fr} {k : Ret2 RW → Option R}, ca1039 capB n av cs k = some r → ∃ q : Ret2 RW, runF tbl n 1039 (TV.los U av) (cs.map (TV.los U)) = some (q.lo U) ∧ k q = some r := by
  intro n ih av cs k h
  unfold ca1039 at h
  split at h
  · simp only [Option.bind_eq_some_iff] at h
    obtain ⟨c0_, h0, p0, g0, u1, h1, q0, i0, h⟩ := h
    obtain rfl := dA_ok h0
    obtain rfl := dSpan_ok g0
    obtain rfl := dP_ok h1
    obtain rfl := dSpan_ok i0
    cases n with
    | zero => cases h
    | succ n =>
      exact run2_ok UOk (ih n rfl) (f := fn1039) rfl ((run1039 capB n p0 q0 k).symm.trans h)
  · cases h
theorem ok1038 {R : Type} {r : R} : ∀ {n : Nat}, (∀ m, n = m + 1 → CallOk2 (R := R) U (callP capB m) (runF tbl m)) → ∀ {av : Fr} {cs : List Fr} {k : Ret2 RW → Option R}, ca1038 capB n av cs k = some r → ∃ q : Ret2 RW, runF tbl n 1038 (TV.los U av) (cs.map (TV.los U)) = some (q.lo U) ∧ k q = some r := by
  intro n ih av cs k h
  unfold ca1038 at h
  split at h
  · simp only [Option.bind_eq_some_iff] at h
    obtain ⟨p0, h0, u1, h1, q0, i0, h⟩ := h
    obtain rfl := dRSpan_ok h0
    obtain rfl := dC_ok h1
    obtain rfl := dSpan_ok i0
    cases n with
    | zero => cases h
    | succ n =>
      exact run2_ok UOk (ih n rfl) (f := fn1038) rfl ((run1038 capB n p0 q0 k).symm.trans h)
  · cases h
theorem ok35 {R : Type} {r : R} : ∀ {n : Nat}, (∀ m, n = m + 1 → CallOk2 (R := R) U (callP capB m) (runF tbl m)) → ∀ {av : Fr} {cs : List Fr} {k : Ret2 RW → Option R}, ca35 capB n av cs k = some r → ∃ q : Ret2 RW, runF tbl n 35 (TV.los U av) (cs.map (TV.los U)) = some (q.lo U) ∧ k q = some r := by
  intro n ih av cs k h
  unfold ca35 at h
  split at h
  · simp only [Option.bind_eq_some_iff] at h
    obtain ⟨c0_, h0, p0, g0, p1, h1, p2, h2, h⟩ := h
    obtain rfl := dA_ok h0
    obtain rfl := dRecv_ok g0
    obtain rfl := dI_ok h1
    obtain rfl := dRuint8_ok h2
    cases n with
    | zero => cases h
    | succ n =>
      exact run2_ok UOk (ih n rfl) (f := fn35) rfl ((run35 capB n p0 p1 p2 k).symm.trans h)
  · cases h
theorem ok12 {R : Type} {r : R} : ∀ {n : Nat}, (∀ m, n = m + 1 → CallOk2 (R := R) U (callP capB m) (runF tbl m)) → ∀ {av : Fr} {cs : List Fr} {k : Ret2 RW → Option R}, ca12 capB n av cs k = some r → ∃ q : Ret2 RW, runF tbl n 12 (TV.los U av) (cs.map (TV.los U)) = some (q.lo U) ∧ k q = some r := by
  intro n ih av cs k h
  unfold ca12 at h
  split at h
  · simp only [Option.bind_eq_some_iff] at h
    obtain ⟨c0_, h0, p0, g0, c1_, h1, p1, g1, h⟩ := h
    obtain rfl := dA_ok h0
    obtain rfl := dRecv_ok g0
    obtain rfl := dA_ok h1
    obtain rfl := dSegment_ok g1
    cases n with
    | zero => cases h
    | succ n =>
      exact run2_ok UOk (ih n rfl) (f := fn12) rfl ((run12 capB n p0 p1 k).symm.trans h)
  · cases h
theorem ok51 {R : Type} {r : R} : ∀ {n : Nat}, (∀ m, n = m + 1 → CallOk2 (R := R) U (callP capB m) (runF tbl m)) → ∀ {av : Fr} {cs : List Fr} {k : Ret2 RW → Option R}, ca51 capB n av cs k = some r → ∃ q : Ret2 RW, runF tbl n 51 (TV.los U av) (cs.map (TV.los U)) = some (q.lo U) ∧ k q = some r := by
  intro n ih av cs k h
  unfold ca51 at h
  split at h
  · simp only [Option.bind_eq_some_iff] at h
    obtain ⟨p0, h0, p1, h1, p2, h2, h⟩ := h
    obtain rfl := dI_ok h0
    obtain rfl := dI_ok h1
    obtain rfl := dI_ok h2
    cases n with
    | zero => cases h
    | succ n =>
      exact run2_ok UOk (ih n rfl) (f := fn51) rfl ((run51 capB n p0 p1 p2 k).symm.trans h)
  · cases h
theorem ok20 {R : Type} {r : R} : ∀ {n : Nat}, (∀ m, n = m + 1 → CallOk2 (R := R) U (callP capB m) (runF tbl m)) → ∀ {av : Fr} {cs : List Fr} {k : Ret2 RW → Option R}, ca20 capB n av cs k = some r → ∃ q : Ret2 RW, runF tbl n 20 (TV.los U av) (cs.map (TV.los U)) = some (q.lo U) ∧ k q = some r := by
  intro n ih av cs k h
  unfold ca20 at h
  split at h
  · simp only [Option.bind_eq_some_iff] at h
    obtain ⟨c0_, h0, p0, g0, p1, h1, h⟩ := h
    obtain rfl := dA_ok h0
    obtain rfl := dRecv_ok g0
    obtain rfl := dI_ok h1
    cases n with
    | zero => cases h
    | succ n =>
      exact run2_ok UOk (ih n rfl) (f := fn20) rfl ((run20 capB n p0 p1 k).symm.trans h)
  · cases h
theorem ok11 {R : Type} {r : R} : ∀ {n : Nat}, (∀ m, n = m + 1 → CallOk2 (R := R) U (callP capB m) (runF tbl m)) → ∀ {av : Fr} {cs : List Fr} {k : Ret2 RW → Option R}, ca11 capB n av cs k = some r → ∃ q : Ret2 RW, runF tbl n 11 (TV.los U av) (cs.map (TV.los U)) = some (q.lo U) ∧ k q = some r := by
  intro n ih av cs k h
  unfold ca11 at h
  split at h
  · cases n with
    | zero => cases h
    | succ n =>
      exact run2_ok UOk (ih n rfl) (f := fn11) rfl ((run11 capB n  k).symm.trans h)
  · cases h
theorem ok23 {R : Type} {r : R} : ∀ {n : Nat}, (∀ m, n = m + 1 → CallOk2 (R := R) U (callP capB m) (runF tbl m)) → ∀ {av : Fr} {cs : List Fr} {k : Ret2 RW → Option R}, ca23 capB n av cs k = some r → ∃ q : Ret2 RW, runF tbl n 23 (TV.los U av) (cs.map (TV.los U)) = some (q.lo U) ∧ k q = some r := by
  intro n ih av cs k h
  unfold ca23 at h
  split at h
  · simp only [Option.bind_eq_some_iff] at h
    obtain ⟨c0_, h0, p0, g0, h⟩ := h
    obtain rfl := dA_ok h0
    obtain rfl := dRecv_ok g0
    cases n with
    | zero => cases h
    | succ n =>
      exact run2_ok UOk (ih n rfl) (f := fn23) rfl ((run23 capB n p0 k).symm.trans h)
  · cases h
theorem ok8 {R : Type} {r : R} : ∀ {n : Nat}, (∀ m, n = m + 1 → CallOk2 (R := R) U (callP capB m) (runF tbl m)) → ∀ {av : Fr} {cs : List Fr} {k : Ret2 RW → Option R}, ca8 capB n av cs k = some r → ∃ q : Ret2 RW, runF tbl n 8 (TV.los U av) (cs.map (TV.los U)) = some (q.lo U) ∧ k q = some r := by
  intro n ih av cs k h
  unfold ca8 at h
  split at h
  · simp only [Option.bind_eq_some_iff] at h
    obtain ⟨c0_, h0, p0, g0, p1, h1, h⟩ := h
    obtain rfl := dA_ok h0
    obtain rfl := dRecv_ok g0
    obtain rfl := dI_ok h1
    cases n with
    | zero => cases h
    | succ n =>
      exact run2_ok UOk (ih n rfl) (f := fn8) rfl ((run8 capB n p0 p1 k).symm.trans h)
  · cases h
theorem callOk {R : Type} : ∀ n, CallOk2 (R := R) U (callP capB n) (runF tbl n)
  | n => fun id av cells k r h => by
    have ih : ∀ m, n = m + 1 → CallOk2 (R := R) U (callP capB m) (runF tbl m) := fun m e => callOk m
    unfold callP at h
    split at h
    · exact ok27 ih h
    · exact ok53 ih h
    · exact ok55 ih h
    · exact ok71 ih h
    · exact ok1007 ih h
    · exact ok1006 ih h
    · exact ok72 ih h
    · exact ok56 ih h
    · exact ok28 ih h
    · exact ok10 ih h
    · exact ok49 ih h
    · exact ok22 ih h
    · exact ok17 ih h
    · exact ok57 ih h
    · exact ok52 ih h
    · exact ok29 ih h
    · exact ok31 ih h
    · exact ok58 ih h
    · exact ok30 ih h
    · exact ok36 ih h
    · exact ok32 ih h
    · exact ok33 ih h
    · exact ok82 ih h
    · exact ok78 ih h
    · exact ok79 ih h
    · exact ok61 ih h
    · exact ok74 ih h
    · exact ok1032 ih h
    · exact ok1034 ih h
    · exact ok75 ih h
    · exact ok77 ih h
    · exact ok60 ih h
    · exact ok1030 ih h
    · exact ok34 ih h
    · exact ok1039 ih h
    · exact ok1038 ih h
    · exact ok35 ih h
    · exact ok12 ih h
    · exact ok51 ih h
    · exact ok20 ih h
    · exact ok11 ih h
    · exact ok23 ih h
    · exact ok8 ih h
    · cases h
termination_by n => n
decreasing_by omega
end
end Go.Proofs.Ytilmdmjhdidoiaa.M
