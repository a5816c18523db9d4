/- The machine's code of the functions, and that it computes them. -/
import Derived.Test.YtilmdmjhdidoiaaDG1a
import Derived.Test.YtilmdmjhdidoiaaProg
import Derived.KernelRfl
set_option maxRecDepth 100000
set_option linter.unusedVariables false
set_option linter.unusedSimpArgs false
namespace Go.Proofs.Ytilmdmjhdidoiaa.M
open Go
noncomputable section
variable {R : Type}
/-! tideway/span.within -/
section
variable (cp : CP) (n : Nat) (k : KX R)
theorem run79 (cp : CP) (n : Nat) (p0 : (List SSpan)) (p1 : SSpan) (k : Ret2 RW → Option R) : G79 cp (n + 1) p0 p1 (fun r0 r1 => k ⟨.clo 83 [(6, 0), (8, 0)], [], [[.row false (.rSpan r0)], (eSpan r1)]⟩) = run2 U cp (callP cp n) n fn79 [.row false (.rSpan p0), .agg (eSpan p1)] [] k := by kernel_rfl
end
/-! tideway/span.Gaps -/
section
variable (cp : CP) (n : Nat) (p0 : (List SSpan)) (p1 : SSpan) (v159 : (List SSpan)) (v160 v161 v162 v163 : Int) (v164 : (List SSpan)) (v165 v166 v167 : Int) (v168 v169 : Bool) (v170 v171 : (List SSpan)) (v172 : Int) (v173 : (List SSpan)) (v174 : Int) (v175 : (List SSpan)) (v176 : Int) (v177 : (List SSpan)) (v178 v179 v180 : Int) (v181 : (List SSpan)) (v182 v183 : Int) (v184 : (List SSpan)) (v185 : Int) (v186 : (List SSpan)) (v187 : Int) (v188 : (List SSpan)) (v189 : Int) (v190 : (List SSpan)) (v191 : Int) (v192 : (List SSpan)) (v193 : Int) (v194 : (List SSpan)) (v195 : Int) (v196 : (List SSpan)) (v197 : Int) (v198 v199 v200 : (List SSpan)) (k : KX R)
def fr61_2 : FF := [(.row false (.rSpan p0)) :: (dT 2 ((.ptr 64 0) :: (dT 1 ((.ptr 67 0) :: (.ptr 69 0) :: (dT 9 []))))), dc, dc, dc, (.hdr 2) :: ((eSpan p1) ++ ((.hdr 1) :: (.row true (.rSpan [])) :: (.hdr 1) :: (tL p1.xFrom) :: (dT 9 []))), dc]
def fr61_3 : FF := [dT 4 ((.row false (.rSpan [])) :: (dT 11 [])), dc, dc, dc, dc, dc]
def w61_0 : Fr := dT 3 ((.ptr 64 0) :: (dT 1 ((.ptr 67 0) :: (.ptr 69 0) :: (dT 9 []))))
def w61_1 : Fr := dT 6 ((.clo 83 [(74, 0), (76, 0)]) :: (dT 9 []))
def w61_2 : Fr := (.hdr 2) :: ((eSpan p1) ++ ((.hdr 1) :: (.row true (.rSpan [])) :: (.hdr 1) :: (tL p1.xFrom) :: (dT 3 ((.hdr 1) :: (.row false (.rSpan v159)) :: (.hdr 2) :: (tL v160) :: (tL v161) :: (dT 1 [])))))
def fr61_5 : FF := [w61_0, w61_1, dc, dc, w61_2 p1 v159 v160 v161, dc]
def fr61_7 : FF := [w61_0, w61_1, dc, dc, dc, dc]
def y61_6 (cp : CP) (n : Nat) : List (TV RW) → FF → (FF → Option R) → Option R := rndT 4 [23] [64, 67, 69, 74, 76, 79, 82] fr61_7 (X cp n i61_2)
def fr61_9 : FF := [.yld :: (dT 1 ((.ptr 76 0) :: (dT 4 ((.row false (.rSpan v159)) :: (tL v162) :: (tL 0) :: (dT 6 []))))), dc, dc, dc, w61_2 p1 v159 v160 v161, dc]
def w61_3 : Fr := .yld :: (dT 1 ((.ptr 76 0) :: (dT 4 ((.row false (.rSpan v159)) :: (tL v162) :: (tL v163) :: (dT 6 [])))))
def w61_4 : Fr := (.hdr 2) :: ((eSpan p1) ++ ((.hdr 1) :: (.row true (.rSpan v164)) :: (.hdr 1) :: (tL v165) :: (dT 3 ((.hdr 1) :: (.row false (.rSpan v159)) :: (.hdr 2) :: (tL v160) :: (tL v161) :: (dT 1 [])))))
def fr61_11 : FF := [w61_3 v159 v162 v163, dc, dc, dc, w61_4 p1 v159 v160 v161 v164 v165, dc]
def fr61_12 : FF := [dc, dc, dc, dc, w61_4 p1 v159 v160 v161 v164 v165, dc]
def w61_5 : Fr := .yld :: (dT 1 ((.ptr 76 0) :: (dT 3 ((.ptr 82 0) :: (.row false (.rSpan v159)) :: (tL v162) :: (tL v163) :: (dT 6 [])))))
def w61_6 : Fr := dT 2 ((.hdr 2) :: (tL v166) :: (tL v167) :: (dT 11 []))
def fr61_14 : FF := [w61_5 v159 v162 v163, dc, dc, dc, w61_4 p1 v159 v160 v161 v164 v165, w61_6 v166 v167]
def w61_7 : Fr := dT 8 ([.ptr 82 0, (tL v166), .ptr 82 1, (tL v167), (tB v168), (tB true), .yld, .agg [(tL v166), (tL v167)]])
def fr61_16 : FF := [w61_5 v159 v162 v163, w61_7 v166 v167 v168, dc, dc, w61_4 p1 v159 v160 v161 v164 v165, w61_6 v166 v167]
def fr61_17 : FF := [w61_5 v159 v162 v163, dT 8 ([.ptr 82 0, (tL v166), .ptr 82 1, (tL v167), (tB v169), (tB false), .tup [], .tup []]), dc, dc, w61_4 p1 v159 v160 v161 v164 v165, w61_6 v166 v167]
theorem s61_15_t (cp : CP) (n : Nat) (p1 : SSpan) (v159 : (List SSpan)) (v160 v161 v162 v163 : Int) (v164 : (List SSpan)) (v165 v166 v167 : Int) (A B : FF → Option R) : (gF (fr61_14 p1 v159 v160 v161 v162 v163 v164 v165 v166 v167) fun l => steps2 U cp (callP cp n) g61_10041 l fun l1 => yGuard2 (some (29, true)) l1 (A l1) (B l1)) = s61_15 cp n p1 v159 v160 v161 v162 v163 v164 v165 v166 v167 (fun v168 => A (fr61_16 p1 v159 v160 v161 v162 v163 v164 v165 v166 v167 v168)) (fun v169 => B (fr61_17 p1 v159 v160 v161 v162 v163 v164 v165 v166 v167 v169)) := by kernel_rfl
def w61_8 : Fr := (.hdr 2) :: ((eSpan p1) ++ ((.hdr 1) :: (.row true (.rSpan v170)) :: (.hdr 1) :: (tL v167) :: (dT 3 ((.hdr 1) :: (.row false (.rSpan v159)) :: (.hdr 2) :: (tL v160) :: (tL v161) :: (dT 1 [])))))
def fr61_19 : FF := [w61_0, w61_1, dc, dc, w61_8 p1 v159 v160 v161 v167 v170, w61_6 v166 v167]
def fr61_20 : FF := [w61_0, dT 6 ((.clo 83 [(74, 0), (76, 0)]) :: (.agg [(tL v166), (tL v167)]) :: (dT 8 [])), dc, dc, w61_4 p1 v159 v160 v161 v164 v165, w61_6 v166 v167]
theorem s61_18_t : X cp n i61_2 (fr61_20 p1 v159 v160 v161 v164 v165 v166 v167) k = s61_18 cp n p1 v159 v160 v161 v164 v165 v166 v167 (fun v170 => k .norm (fr61_19 p1 v159 v160 v161 v166 v167 v170)) := by kernel_rfl
def fr61_22 : FF := [w61_5 v159 v162 v163, w61_7 v166 v167 v168, (tB true) :: (dT 15 []), dc, w61_8 p1 v159 v160 v161 v167 v170, w61_6 v166 v167]
theorem q61_21_t (cp : CP) (n : Nat) (p1 : SSpan) (v159 : (List SSpan)) (v160 v161 v162 v163 : Int) (v164 : (List SSpan)) (v165 v166 v167 : Int) (v168 : Bool) (K : FF → Option R) : yRun2 (y61_6 cp n) (.s 30) [.s 31] 32 (fr61_16 p1 v159 v160 v161 v162 v163 v164 v165 v166 v167 v168) K = s61_18 cp n p1 v159 v160 v161 v164 v165 v166 v167 (fun v170 => K (fr61_22 p1 v159 v160 v161 v162 v163 v166 v167 v168 v170)) := ((fun x => (show yRun2 (rndT 4 [23] [64, 67, 69, 74, 76, 79, 82] fr61_7 x) (.s 30) [.s 31] 32 (fr61_16 p1 v159 v160 v161 v162 v163 v164 v165 v166 v167 v168) K = x (fr61_20 p1 v159 v160 v161 v164 v165 v166 v167) (roundT 4 (fr61_16 p1 v159 v160 v161 v162 v163 v164 v165 v166 v167 v168) (fun l2 => putO l2 (some 32) (.sc (.bool true)) K)) from by kernel_rfl)) (X cp n i61_2)).trans ((s61_18_t cp n p1 v159 v160 v161 v164 v165 v166 v167 (roundT 4 (fr61_16 p1 v159 v160 v161 v162 v163 v164 v165 v166 v167 v168) (fun l2 => putO l2 (some 32) (.sc (.bool true)) K))).trans (by kernel_rfl))
def w61_9 : Fr := (.hdr 2) :: ((eSpan p1) ++ ((.hdr 1) :: (.row true (.rSpan v171)) :: (.hdr 1) :: (tL v172) :: (dT 3 ((.hdr 1) :: (.row false (.rSpan v159)) :: (.hdr 2) :: (tL v160) :: (tL v161) :: (dT 1 [])))))
def fr61_23 : FF := [w61_3 v159 v162 v163, dc, dT 2 ((tB false) :: (dT 13 [])), dc, w61_9 p1 v159 v160 v161 v171 v172, dc]
theorem s61_24_t : XI cp n (y61_6 cp n) i61_4 (fr61_14 p1 v159 v160 v161 v162 v163 v164 v165 v166 v167) k = s61_24 cp n p1 v159 v160 v161 v162 v163 v164 v165 v166 v167 (fun v171 v172 => k .norm (fr61_23 p1 v159 v160 v161 v162 v163 v171 v172)) := (show XI cp n (y61_6 cp n) i61_4 (fr61_14 p1 v159 v160 v161 v162 v163 v164 v165 v166 v167) k = gF (fr61_14 p1 v159 v160 v161 v162 v163 v164 v165 v166 v167) fun l => steps2 U cp (callP cp n) g61_10041 l fun l1 => yGuard2 (some (29, true)) l1 ((fun l1 => yRun2 (y61_6 cp n) (.s 30) [.s 31] 32 l1 (fun l2 => steps2 U cp (callP cp n) g61_10042 l2 ((clrT [6, 24, 25, 26, 27, 28, 29, 30, 31, 32, 33] [(82, 2)] k) .norm))) l1) ((fun l1 => putO l1 (some 32) (.tup []) fun l2 => steps2 U cp (callP cp n) g61_10042 l2 ((clrT [6, 24, 25, 26, 27, 28, 29, 30, 31, 32, 33] [(82, 2)] k) .norm)) l1) from by kernel_rfl).trans ((s61_15_t cp n p1 v159 v160 v161 v162 v163 v164 v165 v166 v167 (fun l1 => yRun2 (y61_6 cp n) (.s 30) [.s 31] 32 l1 (fun l2 => steps2 U cp (callP cp n) g61_10042 l2 ((clrT [6, 24, 25, 26, 27, 28, 29, 30, 31, 32, 33] [(82, 2)] k) .norm))) (fun l1 => putO l1 (some 32) (.tup []) fun l2 => steps2 U cp (callP cp n) g61_10042 l2 ((clrT [6, 24, 25, 26, 27, 28, 29, 30, 31, 32, 33] [(82, 2)] k) .norm))).trans (cg2 (f := s61_15 cp n p1 v159 v160 v161 v162 v163 v164 v165 v166 v167) (funext fun v168 => (q61_21_t cp n p1 v159 v160 v161 v162 v163 v164 v165 v166 v167 v168 (fun l2 => steps2 U cp (callP cp n) g61_10042 l2 ((clrT [6, 24, 25, 26, 27, 28, 29, 30, 31, 32, 33] [(82, 2)] k) .norm))).trans (show s61_18 cp n p1 v159 v160 v161 v164 v165 v166 v167 (fun v170 => (fun l2 => steps2 U cp (callP cp n) g61_10042 l2 ((clrT [6, 24, 25, 26, 27, 28, 29, 30, 31, 32, 33] [(82, 2)] k) .norm)) (fr61_22 p1 v159 v160 v161 v162 v163 v166 v167 v168 v170)) = s61_18 cp n p1 v159 v160 v161 v164 v165 v166 v167 (fun v170 => k .norm (fr61_23 p1 v159 v160 v161 v162 v163 v170 v167)) from by kernel_rfl)) (funext fun v169 => (show (fun l1 => putO l1 (some 32) (.tup []) fun l2 => steps2 U cp (callP cp n) g61_10042 l2 ((clrT [6, 24, 25, 26, 27, 28, 29, 30, 31, 32, 33] [(82, 2)] k) .norm)) (fr61_17 p1 v159 v160 v161 v162 v163 v164 v165 v166 v167 v169) = k .norm (fr61_23 p1 v159 v160 v161 v162 v163 v164 v165) from by kernel_rfl))))
def fr61_26 : FF := [w61_3 v159 v162 v163, dc, dc, dc, w61_9 p1 v159 v160 v161 v171 v172, dc]
theorem s61_25_t : XI cp n (y61_6 cp n) i61_5 (fr61_23 p1 v159 v160 v161 v162 v163 v171 v172) k = s61_25 cp n p1 v159 v160 v161 v162 v163 v171 v172 (k .norm (fr61_26 p1 v159 v160 v161 v162 v163 v171 v172)) := by kernel_rfl
def fr61_27 : FF := [w61_3 v159 v162 v163, dc, dc, dc, (.hdr 2) :: ((eSpan p1) ++ ((.hdr 1) :: (.row true (.rSpan v173)) :: (.hdr 1) :: (tL v174) :: (dT 3 ((.hdr 1) :: (.row false (.rSpan v159)) :: (.hdr 2) :: (tL v160) :: (tL v161) :: (dT 1 []))))), dc]
theorem s61_28_t : XI cp n (y61_6 cp n) i61_6 (fr61_14 p1 v159 v160 v161 v162 v163 v164 v165 v166 v167) k = s61_28 cp n p1 v159 v160 v161 v162 v163 v164 v165 v166 v167 (fun v173 v174 => k .norm (fr61_27 p1 v159 v160 v161 v162 v163 v173 v174)) := tq (tq (congrArg (fun q => s61_24 cp n p1 v159 v160 v161 v162 v163 v164 v165 v166 v167 q) (funext fun v171 => funext fun v172 => (s61_25_t cp n p1 v159 v160 v161 v162 v163 v171 v172 k).trans (show _ = s61_25 cp n p1 v159 v160 v161 v162 v163 v171 v172 (k .norm (fr61_27 p1 v159 v160 v161 v162 v163 v171 v172)) from by kernel_rfl))) ((s61_24_t cp n p1 v159 v160 v161 v162 v163 v164 v165 v166 v167 (seqT (XI cp n (y61_6 cp n)) i61_5 k)).trans (by kernel_rfl))) (by kernel_rfl)
def fr61_29 : FF := [w61_3 v159 v162 v163, dc, dc, dc, (.hdr 2) :: ((eSpan p1) ++ ((.hdr 1) :: (.row true (.rSpan v175)) :: (.hdr 1) :: (tL v176) :: (dT 3 ((.hdr 1) :: (.row false (.rSpan v159)) :: (.hdr 2) :: (tL v160) :: (tL v161) :: (dT 1 []))))), dc]
theorem s61_30_t : XI cp n (y61_6 cp n) i61_7 (fr61_11 p1 v159 v160 v161 v162 v163 v164 v165) k = s61_30 cp n p1 v159 v160 v161 v162 v163 v164 v165 (fun v175 v176 => k .norm (fr61_29 p1 v159 v160 v161 v162 v163 v175 v176)) := ch (fun q => s61_13 cp n p1 v159 v160 v161 v162 v163 v164 v165 q) (fun c v166 v167 => XI cp n (y61_6 cp n) c (fr61_14 p1 v159 v160 v161 v162 v163 v164 v165 v166 v167) k) i61_6 (fun c => XI cp n (y61_6 cp n) (.seq (.fin (.reg g61_1002) [11, 12] []) (.seq (.fin (.reg g61_1003) [5, 13, 14, 15, 16, 17, 18, 19, 20, 21, 22, 23] [(79, 2)]) c)) (fr61_11 p1 v159 v160 v161 v162 v163 v164 v165) k) (fun c => by kernel_rfl) (funext fun v166 => funext fun v167 => (s61_28_t cp n p1 v159 v160 v161 v162 v163 v164 v165 v166 v167 k).trans (show _ = s61_28 cp n p1 v159 v160 v161 v162 v163 v164 v165 v166 v167 (fun v173 v174 => k .norm (fr61_29 p1 v159 v160 v161 v162 v163 v173 v174)) from by kernel_rfl)) (by kernel_rfl) (by kernel_rfl)
def w61_10 : Fr := (.hdr 2) :: ((eSpan p1) ++ ((.hdr 1) :: (.row true (.rSpan v177)) :: (.hdr 1) :: (tL v178) :: (dT 3 ((.hdr 1) :: (.row false (.rSpan v159)) :: (.hdr 2) :: (tL v160) :: (tL v161) :: (dT 1 [])))))
def fr61_31 : FF := [w61_3 v159 v162 v163, dc, dc, dc, w61_10 p1 v159 v160 v161 v177 v178, dc]
theorem s61_32_t : XI cp n (y61_6 cp n) i61_8 (fr61_11 p1 v159 v160 v161 v162 v163 v164 v165) k = s61_32 cp n p1 v159 v160 v161 v162 v163 v164 v165 (fun v177 v178 => k .norm (fr61_31 p1 v159 v160 v161 v162 v163 v177 v178)) := tq ((s61_30_t cp n p1 v159 v160 v161 v162 v163 v164 v165 (blkT 1 k)).trans (by kernel_rfl)) (by kernel_rfl)
def fr61_34 : FF := [.yld :: (dT 1 ((.ptr 76 0) :: (dT 4 ((.row false (.rSpan v159)) :: (tL v162) :: (tL v179) :: (dT 6 []))))), dc, dc, dc, w61_10 p1 v159 v160 v161 v177 v178, dc]
theorem s61_33_t : XI cp n (y61_6 cp n) i61_9 (fr61_31 p1 v159 v160 v161 v162 v163 v177 v178) k = s61_33 cp n p1 v159 v160 v161 v162 v163 v177 v178 (fun v179 => k .norm (fr61_34 p1 v159 v160 v161 v162 v177 v178 v179)) := by kernel_rfl
def fr61_35 : FF := [.yld :: (dT 1 ((.ptr 76 0) :: (dT 4 ((.row false (.rSpan v159)) :: (tL v162) :: (tL v180) :: (dT 6 []))))), dc, dc, dc, (.hdr 2) :: ((eSpan p1) ++ ((.hdr 1) :: (.row true (.rSpan v181)) :: (.hdr 1) :: (tL v182) :: (dT 3 ((.hdr 1) :: (.row false (.rSpan v159)) :: (.hdr 2) :: (tL v160) :: (tL v161) :: (dT 1 []))))), dc]
theorem s61_36_t : XI cp n (y61_6 cp n) i61_10 (fr61_11 p1 v159 v160 v161 v162 v163 v164 v165) k = s61_36 cp n p1 v159 v160 v161 v162 v163 v164 v165 (fun v180 v181 v182 => k .norm (fr61_35 p1 v159 v160 v161 v162 v180 v181 v182)) := tq (tq (congrArg (fun q => s61_32 cp n p1 v159 v160 v161 v162 v163 v164 v165 q) (funext fun v177 => funext fun v178 => (s61_33_t cp n p1 v159 v160 v161 v162 v163 v177 v178 k).trans (show _ = s61_33 cp n p1 v159 v160 v161 v162 v163 v177 v178 (fun v179 => k .norm (fr61_35 p1 v159 v160 v161 v162 v179 v177 v178)) from by kernel_rfl))) ((s61_32_t cp n p1 v159 v160 v161 v162 v163 v164 v165 (seqT (XI cp n (y61_6 cp n)) i61_9 k)).trans (by kernel_rfl))) (by kernel_rfl)
def fr61_37 : FF := [.yld :: (dT 1 ((.ptr 76 0) :: (dT 4 ((.row false (.rSpan v159)) :: (tL v162) :: (tL v183) :: (dT 6 []))))), dc, dc, dc, (.hdr 2) :: ((eSpan p1) ++ ((.hdr 1) :: (.row true (.rSpan v184)) :: (.hdr 1) :: (tL v185) :: (dT 3 ((.hdr 1) :: (.row false (.rSpan v159)) :: (.hdr 2) :: (tL v160) :: (tL v161) :: (dT 1 []))))), dc]
theorem s61_38_t : XI cp n (y61_6 cp n) i61_11 (fr61_11 p1 v159 v160 v161 v162 v163 v164 v165) k = s61_38 cp n p1 v159 v160 v161 v162 v163 v164 v165 (fun v183 v184 v185 => k .norm (fr61_37 p1 v159 v160 v161 v162 v183 v184 v185)) (k (.exit 0) (fr61_12 p1 v159 v160 v161 v164 v165)) := ch (fun q => s61_10 cp n p1 v159 v160 v161 v162 v163 v164 v165 q (k (.exit 0) (fr61_12 p1 v159 v160 v161 v164 v165))) (fun c => XI cp n (y61_6 cp n) c (fr61_11 p1 v159 v160 v161 v162 v163 v164 v165) k) i61_10 (fun c => XI cp n (y61_6 cp n) (.seq (.reg g61_1001) (.seq (.fin (.cond (.s 10) (.skip) (.clr [0, 2, 7, 8, 9, 10] [] (.exit 0))) [10] []) c)) (fr61_11 p1 v159 v160 v161 v162 v163 v164 v165) k) (fun c => by kernel_rfl) ((s61_36_t cp n p1 v159 v160 v161 v162 v163 v164 v165 k).trans (show _ = s61_36 cp n p1 v159 v160 v161 v162 v163 v164 v165 (fun v180 v181 v182 => k .norm (fr61_37 p1 v159 v160 v161 v162 v180 v181 v182)) from by kernel_rfl)) (by kernel_rfl) (by kernel_rfl)
def fr61_39 : FF := [dc, dc, dc, dc, (.hdr 2) :: ((eSpan p1) ++ ((.hdr 1) :: (.row true (.rSpan v186)) :: (.hdr 1) :: (tL v187) :: (dT 3 ((.hdr 1) :: (.row false (.rSpan v159)) :: (.hdr 2) :: (tL v160) :: (tL v161) :: (dT 1 []))))), dc]
theorem l61_40_t (cp : CP) (n : Nat) : ∀ (m : Nat) (p1 : SSpan) (v159 : (List SSpan)) (v160 v161 v162 v163 : Int) (v164 : (List SSpan)) (v165 : Int) (k : KX R), loopN2 (XI cp n (y61_6 cp n) i61_11) m (fr61_11 p1 v159 v160 v161 v162 v163 v164 v165) k = l61_40 cp n m p1 v159 v160 v161 v162 v163 v164 v165 (fun v186 v187 => k (.exit 0) (fr61_39 p1 v159 v160 v161 v186 v187))
  | 0, _, _, _, _, _, _, _, _, _ => rfl
  | m + 1, p1, v159, v160, v161, v162, v163, v164, v165, k => (loopN2_succ (XI cp n (y61_6 cp n) i61_11) m (fr61_11 p1 v159 v160 v161 v162 v163 v164 v165) k).trans ((s61_38_t cp n p1 v159 v160 v161 v162 v163 v164 v165 (loopT (XI cp n (y61_6 cp n) i61_11) m k)).trans (tq (congrArg (fun q => s61_38 cp n p1 v159 v160 v161 v162 v163 v164 v165 q (k (.exit 0) (fr61_39 p1 v159 v160 v161 v164 v165))) (funext fun v183 => funext fun v184 => funext fun v185 => l61_40_t cp n m p1 v159 v160 v161 v162 v183 v184 v185 k)) (by kernel_rfl)))
theorem s61_41_t : XI cp n (y61_6 cp n) i61_12 (fr61_9 p1 v159 v160 v161 v162) k = s61_41 cp n p1 v159 v160 v161 v162 (fun v186 v187 => k (.exit 0) (fr61_39 p1 v159 v160 v161 v186 v187)) := tq (l61_40_t cp n n p1 v159 v160 v161 v162 0 [] p1.xFrom k) (by kernel_rfl)
def fr61_42 : FF := [dc, dc, dc, dc, (.hdr 2) :: ((eSpan p1) ++ ((.hdr 1) :: (.row true (.rSpan v188)) :: (.hdr 1) :: (tL v189) :: (dT 3 ((.hdr 1) :: (.row false (.rSpan v159)) :: (.hdr 2) :: (tL v160) :: (tL v161) :: (dT 1 []))))), dc]
theorem s61_43_t : XI cp n (y61_6 cp n) i61_13 (fr61_9 p1 v159 v160 v161 v162) k = s61_43 cp n p1 v159 v160 v161 v162 (fun v188 v189 => k .norm (fr61_42 p1 v159 v160 v161 v188 v189)) := tq ((s61_41_t cp n p1 v159 v160 v161 v162 (blkT 0 k)).trans (by kernel_rfl)) (by kernel_rfl)
def fr61_44 : FF := [dc, dc, dc, dc, (.hdr 2) :: ((eSpan p1) ++ ((.hdr 1) :: (.row true (.rSpan v190)) :: (.hdr 1) :: (tL v191) :: (dT 3 ((.hdr 1) :: (.row false (.rSpan v159)) :: (.hdr 2) :: (tL v160) :: (tL v161) :: (dT 1 []))))), dc]
def fr61_46 : FF := [.yld :: (.ptr 74 0) :: (.ptr 76 0) :: (dT 13 []), dc, dc, dc, w61_2 p1 v159 v160 v161, dc]
theorem s61_45_t : XI cp n (y61_6 cp n) i61_3 (fr61_46 p1 v159 v160 v161) k = s61_45 cp n p1 v159 v160 v161 (fun v190 v191 => k .norm (fr61_44 p1 v159 v160 v161 v190 v191)) := ch (fun q => s61_8 cp n p1 v159 v160 v161 q) (fun c v162 => XI cp n (y61_6 cp n) c (fr61_9 p1 v159 v160 v161 v162) k) i61_13 (fun c => XI cp n (y61_6 cp n) (.seq (.fin (.reg g61_1000) [1] []) c) (fr61_46 p1 v159 v160 v161) k) (fun c => by kernel_rfl) (funext fun v162 => (s61_43_t cp n p1 v159 v160 v161 v162 k).trans (show _ = s61_43 cp n p1 v159 v160 v161 v162 (fun v188 v189 => k .norm (fr61_44 p1 v159 v160 v161 v188 v189)) from by kernel_rfl)) (by kernel_rfl) (by kernel_rfl)
def fr61_47 : FF := [w61_0, dc, dc, dc, (.hdr 2) :: ((eSpan p1) ++ ((.hdr 1) :: (.row true (.rSpan v192)) :: (.hdr 1) :: (tL v193) :: (dT 9 []))), dc]
theorem s61_48_t : X cp n i61_14 (fr61_5 p1 v159 v160 v161) k = s61_48 cp n p1 v159 v160 v161 (fun v192 v193 => k .norm (fr61_47 p1 v192 v193)) := (show X cp n i61_14 (fr61_5 p1 v159 v160 v161) k = XI cp n (roundK2 4 [23] [64, 67, 69, 74, 76, 79, 82] (fr61_5 p1 v159 v160 v161) (X cp n i61_0) (X cp n i61_1)) i61_3 (fr61_46 p1 v159 v160 v161) (rfnT 4 (fr61_5 p1 v159 v160 v161) (clrT [22] [(74, 1), (76, 2)] k)) from rfn_eq (v := .clo 83 [(74, 0), (76, 0)]) (by kernel_rfl) (by kernel_rfl) (by kernel_rfl) _ _ _).trans ((congrArg (fun Y => XI cp n Y i61_3 (fr61_46 p1 v159 v160 v161) (rfnT 4 (fr61_5 p1 v159 v160 v161) (clrT [22] [(74, 1), (76, 2)] k))) ((rnd_eq 4 [23] [64, 67, 69, 74, 76, 79, 82] (fr61_5 p1 v159 v160 v161) i61_0 i61_1).trans (show rndT 4 [23] [64, 67, 69, 74, 76, 79, 82] (fr61_5 p1 v159 v160 v161) (X cp n i61_2) = (y61_6 cp n) from by kernel_rfl))).trans ((s61_45_t cp n p1 v159 v160 v161 (rfnT 4 (fr61_5 p1 v159 v160 v161) (clrT [22] [(74, 1), (76, 2)] k))).trans (by kernel_rfl)))
def fr61_49 : FF := [w61_0, dc, dc, dc, (.hdr 2) :: ((eSpan p1) ++ ((.hdr 1) :: (.row true (.rSpan v194)) :: (.hdr 1) :: (tL v195) :: (dT 9 []))), dc]
theorem s61_50_t : X cp n i61_15 (fr61_5 p1 v159 v160 v161) k = s61_50 cp n p1 v159 v160 v161 (fun v194 v195 => k .norm (fr61_49 p1 v194 v195)) := tq ((s61_48_t cp n p1 v159 v160 v161 (blkT 0 k)).trans (by kernel_rfl)) (by kernel_rfl)
def fr61_51 : FF := [w61_0, dc, dc, dc, (.hdr 2) :: ((eSpan p1) ++ ((.hdr 1) :: (.row true (.rSpan v196)) :: (.hdr 1) :: (tL v197) :: (dT 9 []))), dc]
theorem s61_52_t : X cp n i61_16 (fr61_2 p0 p1) k = s61_52 cp n p0 p1 (fun v196 v197 => k .norm (fr61_51 p1 v196 v197)) := ch (fun q => s61_4 cp n p0 p1 q) (fun c v159 v160 v161 => X cp n c (fr61_5 p1 v159 v160 v161) k) i61_15 (fun c => X cp n (.seq (.fin (.reg g61_5) [0, 20, 21] []) c) (fr61_2 p0 p1) k) (fun c => by kernel_rfl) (funext fun v159 => funext fun v160 => funext fun v161 => (s61_50_t cp n p1 v159 v160 v161 k).trans (show _ = s61_50 cp n p1 v159 v160 v161 (fun v194 v195 => k .norm (fr61_51 p1 v194 v195)) from by kernel_rfl)) (by kernel_rfl) (by kernel_rfl)
def fr61_54 : FF := [dT 4 ((.row false (.rSpan v198)) :: (dT 11 [])), dc, dc, dc, dc, dc]
theorem s61_53_t : X cp n i61_17 (fr61_51 p1 v196 v197) k = s61_53 cp n p1 v196 v197 (fun v198 => k .ret (fr61_54 v198)) := by kernel_rfl
def fr61_55 : FF := [dT 4 ((.row false (.rSpan v199)) :: (dT 11 [])), dc, dc, dc, dc, dc]
theorem s61_56_t : X cp n i61_18 (fr61_2 p0 p1) k = s61_56 cp n p0 p1 (fun v199 => k .ret (fr61_55 v199)) := tq (tq (congrArg (fun q => s61_52 cp n p0 p1 q) (funext fun v196 => funext fun v197 => (s61_53_t cp n p1 v196 v197 k).trans (show _ = s61_53 cp n p1 v196 v197 (fun v198 => k .ret (fr61_55 v198)) from by kernel_rfl))) ((s61_52_t cp n p0 p1 (seqT (X cp n) i61_17 k)).trans (by kernel_rfl))) (by kernel_rfl)
def fr61_57 : FF := [dT 4 ((.row false (.rSpan v200)) :: (dT 11 [])), dc, dc, dc, dc, dc]
def fr61_59 : FF := [(.row false (.rSpan p0)) :: (.agg (eSpan p1)) :: (dT 14 []), dc, dc, dc, dc, dc]
theorem s61_58_t : X cp n i61_19 (fr61_59 p0 p1) k = s61_58 cp n p0 p1 (fun v200 => k .ret (fr61_57 v200)) := ch (fun q => s61_1 cp n p0 p1 q (k .ret (fr61_57 []))) (fun c => X cp n c (fr61_2 p0 p1) k) i61_18 (fun c => X cp n (.seq (.fin (.reg g61_0) [1, 4] []) (.seq (.seq (.fin (.reg g61_1) [8, 9, 10, 11, 12, 13, 14, 15, 16] []) (.fin (.cond (.s 17) (.seq (.fin (.reg g61_2) [0, 3, 17] [(64, 2)]) (.ret)) (.skip)) [17] [])) (.seq (.reg g61_3) (.seq (.fin (.reg g61_4) [18, 19] []) c)))) (fr61_59 p0 p1) k) (fun c => by kernel_rfl) ((s61_56_t cp n p0 p1 k).trans (show _ = s61_56 cp n p0 p1 (fun v199 => k .ret (fr61_57 v199)) from by kernel_rfl)) (by kernel_rfl) (by kernel_rfl)
theorem run61 (cp : CP) (n : Nat) (p0 : (List SSpan)) (p1 : SSpan) (k : Ret2 RW → Option R) : G61 cp (n + 1) p0 p1 (fun r0 => k ⟨.row false (.rSpan r0), [], []⟩) = run2 U cp (callP cp n) n fn61 [.row false (.rSpan p0), .agg (eSpan p1)] [] k := ((X_run (f := fn61) (av := [.row false (.rSpan p0), .agg (eSpan p1)]) (cells := []) (code := i61_19) (fr := (fr61_59 p0 p1)) (k := k) (by kernel_rfl) (fun K => by kernel_rfl)).trans ((s61_58_t cp n p0 p1 (finK2 fn61 k)).trans (by kernel_rfl))).symm
end
/-! tideway/recv.put$1 -/
section
variable (cp : CP) (n : Nat) (k : KX R)
theorem run74 (cp : CP) (n : Nat) (p0 : SPiece) (p1 : Int) (k : Ret2 RW → Option R) : G74 cp (n + 1) p0 p1 (fun r0 => k ⟨(tL r0), [], []⟩) = run2 U cp (callP cp n) n fn74 [.agg (ePiece p0), (tL p1)] [] k := by kernel_rfl
end
/-! slices.BinarySearchFunc[[]tideway/api.Piece,tideway/api.Piece,int] -/
section
variable (cp : CP) (n : Nat) (p0 : (List SPiece)) (p1 v204 v205 v206 v208 v209 v210 v211 : Int) (v213 : Bool) (v214 : Int) (v215 : Bool) (v216 : Int) (v217 : Bool) (k : KX R)
def fr1052_2 : FF := [(.row false (.rPiece p0)) :: (tL p1) :: (.clo 74 []) :: (dT 5 ((tL v204) :: (tL 0) :: (tL v204) :: (dT 5 []))), dc, dc, dc]
def fr1052_4 : FF := [(.row false (.rPiece p0)) :: (tL p1) :: (.clo 74 []) :: (dT 5 ((tL v204) :: (tL v208) :: (tL v209) :: (dT 5 []))), dc, dc, dc]
def fr1052_5 : FF := [(.row false (.rPiece p0)) :: (tL p1) :: (.clo 74 []) :: (dT 5 ((tL v204) :: (tL v205) :: (dT 6 []))), dc, dc, dc]
def fr1052_6 : FF := [(.row false (.rPiece p0)) :: (tL p1) :: (.clo 74 []) :: (dT 5 ((tL v204) :: (tL v205) :: (tL v206) :: (dT 5 []))), dc, dc, dc]
theorem s1052_3_t : X cp n i1052_0 (fr1052_6 p0 p1 v204 v205 v206) k = s1052_3 cp n p0 p1 v204 v205 v206 (fun v208 v209 => k .norm (fr1052_4 p0 p1 v204 v208 v209)) (k (.exit 0) (fr1052_5 p0 p1 v204 v205)) := by kernel_rfl
def fr1052_7 : FF := [(.row false (.rPiece p0)) :: (tL p1) :: (.clo 74 []) :: (dT 5 ((tL v204) :: (tL v210) :: (dT 6 []))), dc, dc, dc]
theorem l1052_8_t (cp : CP) (n : Nat) : ∀ (m : Nat) (p0 : (List SPiece)) (p1 v204 v205 v206 : Int) (k : KX R), loopN2 (X cp n i1052_0) m (fr1052_6 p0 p1 v204 v205 v206) k = l1052_8 cp n m p0 p1 v204 v205 v206 (fun v210 => k (.exit 0) (fr1052_7 p0 p1 v204 v210))
  | 0, _, _, _, _, _, _ => rfl
  | m + 1, p0, p1, v204, v205, v206, k => (loopN2_succ (X cp n i1052_0) m (fr1052_6 p0 p1 v204 v205 v206) k).trans ((s1052_3_t cp n p0 p1 v204 v205 v206 (loopT (X cp n i1052_0) m k)).trans (tq (congrArg (fun q => s1052_3 cp n p0 p1 v204 v205 v206 q (k (.exit 0) (fr1052_7 p0 p1 v204 v205))) (funext fun v208 => funext fun v209 => l1052_8_t cp n m p0 p1 v204 v208 v209 k)) (by kernel_rfl)))
theorem s1052_9_t : X cp n i1052_1 (fr1052_2 p0 p1 v204) k = s1052_9 cp n p0 p1 v204 (fun v210 => k (.exit 0) (fr1052_7 p0 p1 v204 v210)) := tq (l1052_8_t cp n n p0 p1 v204 0 v204 k) (by kernel_rfl)
def fr1052_10 : FF := [(.row false (.rPiece p0)) :: (tL p1) :: (.clo 74 []) :: (dT 5 ((tL v204) :: (tL v211) :: (dT 6 []))), dc, dc, dc]
theorem s1052_11_t : X cp n i1052_2 (fr1052_2 p0 p1 v204) k = s1052_11 cp n p0 p1 v204 (fun v211 => k .norm (fr1052_10 p0 p1 v204 v211)) := tq ((s1052_9_t cp n p0 p1 v204 (blkT 0 k)).trans (by kernel_rfl)) (by kernel_rfl)
def fr1052_13 : FF := [dT 6 ((tL v211) :: (tB v213) :: (dT 8 [])), dc, dc, dc]
theorem s1052_12_t : X cp n i1052_3 (fr1052_10 p0 p1 v204 v211) k = s1052_12 cp n p0 p1 v204 v211 (fun v213 => k .ret (fr1052_13 v211 v213)) := by kernel_rfl
def fr1052_14 : FF := [dT 6 ((tL v214) :: (tB v215) :: (dT 8 [])), dc, dc, dc]
theorem s1052_15_t : X cp n i1052_4 (fr1052_2 p0 p1 v204) k = s1052_15 cp n p0 p1 v204 (fun v214 v215 => k .ret (fr1052_14 v214 v215)) := tq (tq (congrArg (fun q => s1052_11 cp n p0 p1 v204 q) (funext fun v211 => (s1052_12_t cp n p0 p1 v204 v211 k).trans (show _ = s1052_12 cp n p0 p1 v204 v211 (fun v213 => k .ret (fr1052_14 v211 v213)) from by kernel_rfl))) ((s1052_11_t cp n p0 p1 v204 (seqT (X cp n) i1052_3 k)).trans (by kernel_rfl))) (by kernel_rfl)
def fr1052_16 : FF := [dT 6 ((tL v216) :: (tB v217) :: (dT 8 [])), dc, dc, dc]
def fr1052_18 : FF := [(.row false (.rPiece p0)) :: (tL p1) :: (.clo 74 []) :: (dT 13 []), dc, dc, dc]
theorem s1052_17_t : X cp n i1052_5 (fr1052_18 p0 p1) k = s1052_17 cp n p0 p1 (fun v216 v217 => k .ret (fr1052_16 v216 v217)) := ch (fun q => s1052_1 cp n p0 p1 q) (fun c v204 => X cp n c (fr1052_2 p0 p1 v204) k) i1052_4 (fun c => X cp n (.seq (.fin (.reg g1052_0) [6, 7] []) (.seq (.fin (.reg g1052_1) [12, 13] []) (.seq (.fin (.reg g1052_2) [14] []) c))) (fr1052_18 p0 p1) k) (fun c => by kernel_rfl) (funext fun v204 => (s1052_15_t cp n p0 p1 v204 k).trans (show _ = s1052_15 cp n p0 p1 v204 (fun v214 v215 => k .ret (fr1052_16 v214 v215)) from by kernel_rfl)) (by kernel_rfl) (by kernel_rfl)
theorem run1052 (cp : CP) (n : Nat) (p0 : (List SPiece)) (p1 : Int) (k : Ret2 RW → Option R) : G1052 cp (n + 1) p0 p1 (fun r0 r1 => k ⟨.tup [(tL r0), (tB r1)], [], []⟩) = run2 U cp (callP cp n) n fn1052 [.row false (.rPiece p0), (tL p1), .clo 74 []] [] k := ((X_run (f := fn1052) (av := [.row false (.rPiece p0), (tL p1), .clo 74 []]) (cells := []) (code := i1052_5) (fr := (fr1052_18 p0 p1)) (k := k) (by kernel_rfl) (fun K => by kernel_rfl)).trans ((s1052_17_t cp n p0 p1 (finK2 fn1052 k)).trans (by kernel_rfl))).symm
end
/-! slices.Clip[[]byte,byte] -/
section
variable (cp : CP) (n : Nat) (k : KX R)
theorem run77 (cp : CP) (n : Nat) (p0 : (List Int)) (k : Ret2 RW → Option R) : G77 cp (n + 1) p0 (fun r0 => k ⟨.row true (.ruint8 r0), [], []⟩) = run2 U cp (callP cp n) n fn77 [.row false (.ruint8 p0)] [] k := by kernel_rfl
end
/-! tideway/recv.put -/
section
variable (cp : CP) (n : Nat) (p0 : (List SPiece)) (p1 : SPiece) (v235 : (List SPiece)) (v236 : Int) (v237 : (List SPiece)) (v238 : Int) (v241 : (List SPiece)) (v242 : Int) (v243 v244 v245 v246 v247 : (List SPiece)) (k : KX R)
def fr60_2 : FF := [(.row true (.rPiece v235)) :: (dT 6 ((.un none (.rPiece [])) :: (dT 8 []))), dc, dc, dc, dc]
def fr60_4 : FF := [dT 7 ((.un none (.rPiece [])) :: (dT 8 [])), dT 13 ([.row false (.rPiece v235), (tL v236), (tL 0)]), dc, dc, dc]
def fr60_6 : FF := [dT 7 ((.un none (.rPiece v241)) :: (dT 8 [])), dT 13 ([.row false (.rPiece v235), (tL v236), (tL v242)]), dc, dc, dc]
def w60_0 : Fr := dT 7 ((.un none (.rPiece v237)) :: (dT 8 []))
def fr60_7 : FF := [w60_0 v237, dc, dc, dc, dc]
def fr60_8 : FF := [w60_0 v237, dT 13 ([.row false (.rPiece v235), (tL v236), (tL v238)]), dc, dc, dc]
theorem s60_5_t : X cp n i60_0 (fr60_8 v235 v236 v237 v238) k = s60_5 cp n v235 v236 v237 v238 (fun v241 v242 => k .norm (fr60_6 v235 v236 v241 v242)) (k (.exit 0) (fr60_7 v237)) := by kernel_rfl
def fr60_9 : FF := [dT 7 ((.un none (.rPiece v243)) :: (dT 8 [])), dc, dc, dc, dc]
theorem l60_10_t (cp : CP) (n : Nat) : ∀ (m : Nat) (v235 : (List SPiece)) (v236 : Int) (v237 : (List SPiece)) (v238 : Int) (k : KX R), loopN2 (X cp n i60_0) m (fr60_8 v235 v236 v237 v238) k = l60_10 cp n m v235 v236 v237 v238 (fun v243 => k (.exit 0) (fr60_9 v243))
  | 0, _, _, _, _, _ => rfl
  | m + 1, v235, v236, v237, v238, k => (loopN2_succ (X cp n i60_0) m (fr60_8 v235 v236 v237 v238) k).trans ((s60_5_t cp n v235 v236 v237 v238 (loopT (X cp n i60_0) m k)).trans (tq (congrArg (fun q => s60_5 cp n v235 v236 v237 v238 q (k (.exit 0) (fr60_9 v237))) (funext fun v241 => funext fun v242 => l60_10_t cp n m v235 v236 v241 v242 k)) (by kernel_rfl)))
theorem s60_11_t : X cp n i60_1 (fr60_4 v235 v236) k = s60_11 cp n v235 v236 (fun v243 => k (.exit 0) (fr60_9 v243)) := tq (l60_10_t cp n n v235 v236 [] 0 k) (by kernel_rfl)
def fr60_12 : FF := [dT 7 ((.un none (.rPiece v244)) :: (dT 8 [])), dc, dc, dc, dc]
theorem s60_13_t : X cp n i60_2 (fr60_4 v235 v236) k = s60_13 cp n v235 v236 (fun v244 => k .norm (fr60_12 v244)) := tq ((s60_11_t cp n v235 v236 (blkT 0 k)).trans (by kernel_rfl)) (by kernel_rfl)
def fr60_14 : FF := [dT 7 ((.un none (.rPiece v245)) :: (dT 8 [])), dc, dc, dc, dc]
theorem s60_15_t : X cp n i60_3 (fr60_2 v235) k = s60_15 cp n v235 (fun v245 => k .norm (fr60_14 v245)) := ch (fun q => s60_3 cp n v235 q) (fun c v236 => X cp n c (fr60_4 v235 v236) k) i60_2 (fun c => X cp n (.seq (.fin (.reg g60_4) [0] []) c) (fr60_2 v235) k) (fun c => by kernel_rfl) (funext fun v236 => (s60_13_t cp n v235 v236 k).trans (show _ = s60_13 cp n v235 v236 (fun v244 => k .norm (fr60_14 v244)) from by kernel_rfl)) (by kernel_rfl) (by kernel_rfl)
def fr60_17 : FF := [dT 4 ((.row true (.rPiece v245)) :: (dT 11 [])), dc, dc, dc, dc]
theorem s60_16_t : X cp n i60_4 (fr60_14 v245) k = s60_16 cp n v245 (k .ret (fr60_17 v245)) := by kernel_rfl
def fr60_18 : FF := [dT 4 ((.row true (.rPiece v246)) :: (dT 11 [])), dc, dc, dc, dc]
theorem s60_19_t : X cp n i60_5 (fr60_2 v235) k = s60_19 cp n v235 (fun v246 => k .ret (fr60_18 v246)) := tq (tq (congrArg (fun q => s60_15 cp n v235 q) (funext fun v245 => (s60_16_t cp n v245 k).trans (show _ = s60_16 cp n v245 (k .ret (fr60_18 v245)) from by kernel_rfl))) ((s60_15_t cp n v235 (seqT (X cp n) i60_4 k)).trans (by kernel_rfl))) (by kernel_rfl)
def fr60_20 : FF := [dT 4 ((.row true (.rPiece v247)) :: (dT 11 [])), dc, dc, dc, dc]
def fr60_22 : FF := [(.row false (.rPiece p0)) :: (.agg (ePiece p1)) :: (dT 14 []), dc, dc, dc, dc]
theorem s60_21_t : X cp n i60_6 (fr60_22 p0 p1) k = s60_21 cp n p0 p1 (fun v247 => k .ret (fr60_20 v247)) := ch (fun q => s60_1 cp n p0 p1 q) (fun c v235 => X cp n c (fr60_2 v235) k) i60_5 (fun c => X cp n (.seq (.fin (.reg g60_0) [1, 4] []) (.seq (.fin (.reg g60_1) [6, 11, 12, 13, 14, 15, 16, 17] []) (.seq (.fin (.reg g60_2) [3, 5, 18, 19, 20, 21, 22, 23, 24, 25, 26, 27, 28] [(72, 2)]) (.seq (.reg g60_3) (.seq (.skip) c))))) (fr60_22 p0 p1) k) (fun c => by kernel_rfl) (funext fun v235 => (s60_19_t cp n v235 k).trans (show _ = s60_19 cp n v235 (fun v246 => k .ret (fr60_20 v246)) from by kernel_rfl)) (by kernel_rfl) (by kernel_rfl)
theorem run60 (cp : CP) (n : Nat) (p0 : (List SPiece)) (p1 : SPiece) (k : Ret2 RW → Option R) : G60 cp (n + 1) p0 p1 (fun r0 => k ⟨.row true (.rPiece r0), [], []⟩) = run2 U cp (callP cp n) n fn60 [.row false (.rPiece p0), .agg (ePiece p1)] [] k := ((X_run (f := fn60) (av := [.row false (.rPiece p0), .agg (ePiece p1)]) (cells := []) (code := i60_6) (fr := (fr60_22 p0 p1)) (k := k) (by kernel_rfl) (fun K => by kernel_rfl)).trans ((s60_21_t cp n p0 p1 (finK2 fn60 k)).trans (by kernel_rfl))).symm
end
/-! tideway/recv.take$1 -/
section
variable (cp : CP) (n : Nat) (k : KX R)
theorem run1050 (cp : CP) (n : Nat) (p0 : SSpan) (q0 : SRecv) (q1 : Int) (q2 : (List Int)) (q3 : Bool) (k : Ret2 RW → Option R) : G1050 cp (n + 1) p0 q0 q1 q2 q3 (fun r0 r1 r2 r3 => k ⟨.tup [], [(eRecvt r0), [(tL r1)], [.row false (.ruint8 r2)], [(tB r3)]], []⟩) = run2 U cp (callP cp n) n fn1050 [.agg (eSpan p0), .ptr 43 0, .ptr 23 0, .ptr 41 0, .ptr 39 0] [(eRecvt q0), [(tL q1)], [.row false (.ruint8 q2)], [(tB q3)]] k := by kernel_rfl
end
/-! tideway/recv.take -/
section
variable (cp : CP) (n : Nat) (p0 : SRecv) (p1 : Int) (p2 : (List Int)) (v232 : Int) (v234 : SRecv) (v235 v236 : Int) (v237 : (List SSpan)) (v238 : Int) (v239 : (List Int)) (v241 v242 : Int) (v243 v244 v245 v246 v247 : (List SSpan)) (v248 v249 : Int) (v250 : (List SSpan)) (v251 : Int) (v252 v253 v254 v255 v256 v257 v258 : (List SSpan)) (v259 : Int) (v260 : Bool) (v262 : (List SSpan)) (v263 v264 : Int) (v265 : SRecv) (v266 : Int) (v267 : (List Int)) (v268 : Bool) (v273 : Int) (v274 : SRecv) (v275 : Int) (v276 : (List Int)) (v277 : Bool) (v278 : SRecv) (v279 : Bool) (v280 : SRecv) (v281 : Bool) (v282 : SRecv) (v283 : Bool) (v284 : SRecv) (v285 : Bool) (v286 : SRecv) (v287 : Bool) (v288 v289 v290 v291 v292 : SRecv) (v293 : Bool) (v294 : SRecv) (v295 : Bool) (v296 : SRecv) (v297 : Bool) (v298 : SRecv) (v299 : Bool) (v300 : SRecv) (k : KX R)
def w34_0 : Fr := dT 3 ((.ptr 112 0) :: (.ptr 128 0) :: (.ptr 130 0) :: (.ptr 132 0) :: (dT 1 ((tL v232) :: (.ptr 148 0) :: (dT 6 []))))
def w34_1 : Fr := (.hdr 15) :: (eRecvt p0)
def w34_2 : Fr := [.hdr 1, (tL p1), .hdr 1, .row false (.ruint8 p2), .hdr 15, (tL 0), .row true (.ruint8 []), .row true (.rPiece []), (tL 0), (tL 0), (tL 0), (tI .u32 0), (tB false), (tB false), (tL 0), (tB false)]
def fr34_2 : FF := [w34_0 v232, dc, dc, dc, dc, dc, dc, w34_1 p0, w34_2 p1 p2, (.row true (.rSpan [])) :: (tI .u32 0) :: (tI .u32 0) :: (tB false) :: (.hdr 1) :: (.row true (.rSpan [])) :: (dT 10 []), dc, dc]
def w34_3 : Fr := dT 15 ([.clo 70 [(158, 0)]])
def fr34_4 : FF := [w34_0 v232, w34_3, dc, dc, dc, dc, dc, w34_1 p0, w34_2 p1 p2, (.row true (.rSpan [])) :: (tI .u32 0) :: (tI .u32 0) :: (tB false) :: (.hdr 1) :: (.row true (.rSpan [])) :: (dT 8 ((.hdr 15) :: (sl 0 1 (eRecv v234)))), sl 1 14 (eRecv v234) ++ (dT 2 []), dc]
def fr34_6 : FF := [w34_0 v232, w34_3, dc, dc, dc, dc, dc, dc, dc, dc, dc, dc]
def y34_5 (cp : CP) (n : Nat) (v232 : Int) : List (TV RW) → FF → (FF → Option R) → Option R := rndT 7 [32] [112, 128, 130, 132, 148, 158, 174] (fr34_6 v232) (X cp n i34_2)
def fr34_8 (p0 : SRecv) (p1 : Int) (p2 : (List Int)) (v232 : Int) (v234 : SRecv) (v235 : Int) : FF := [.yld :: (dT 5 ((.row false (.rPiece v234.xLate)) :: (tL v235) :: (tL 0) :: (dT 7 []))), dc, dc, dc, dc, dc, dc, (.hdr 15) :: (eRecvt p0), [.hdr 1, (tL p1), .hdr 1, .row false (.ruint8 p2), .hdr 15, (tL 0), .row true (.ruint8 []), .row true (.rPiece []), (tL 0), (tL 0), (tL 0), (tI .u32 0), (tB false), (tB false), (tL 0), (tB false)], (.row true (.rSpan [])) :: (tI .u32 0) :: (tI .u32 0) :: (tB false) :: (.hdr 1) :: (.row true (.rSpan [])) :: (dT 8 ((.hdr 15) :: (sl 0 1 (eRecv v234)))), sl 1 14 (eRecv v234) ++ (dT 2 []), dc]
def fr34_10 (p0 : SRecv) (p1 : Int) (p2 : (List Int)) (v232 : Int) (v234 : SRecv) (v235 v236 : Int) (v237 : (List SSpan)) : FF := [.yld :: (dT 5 ((.row false (.rPiece v234.xLate)) :: (tL v235) :: (tL v236) :: (dT 7 []))), dc, dc, dc, dc, dc, dc, (.hdr 15) :: (eRecvt p0), [.hdr 1, (tL p1), .hdr 1, .row false (.ruint8 p2), .hdr 15, (tL 0), .row true (.ruint8 []), .row true (.rPiece []), (tL 0), (tL 0), (tL 0), (tI .u32 0), (tB false), (tB false), (tL 0), (tB false)], (.row true (.rSpan [])) :: (tI .u32 0) :: (tI .u32 0) :: (tB false) :: (.hdr 1) :: (.row true (.rSpan v237)) :: (dT 8 ((.hdr 15) :: (sl 0 1 (eRecv v234)))), sl 1 14 (eRecv v234) ++ (dT 2 []), dc]
def fr34_11 (p0 : SRecv) (p1 : Int) (p2 : (List Int)) (v232 : Int) (v234 : SRecv) (v237 : (List SSpan)) : FF := [dc, dc, dc, dc, dc, dc, dc, (.hdr 15) :: (eRecvt p0), [.hdr 1, (tL p1), .hdr 1, .row false (.ruint8 p2), .hdr 15, (tL 0), .row true (.ruint8 []), .row true (.rPiece []), (tL 0), (tL 0), (tL 0), (tI .u32 0), (tB false), (tB false), (tL 0), (tB false)], (.row true (.rSpan [])) :: (tI .u32 0) :: (tI .u32 0) :: (tB false) :: (.hdr 1) :: (.row true (.rSpan v237)) :: (dT 8 ((.hdr 15) :: (sl 0 1 (eRecv v234)))), sl 1 14 (eRecv v234) ++ (dT 2 []), dc]
def fr34_13 (p0 : SRecv) (p1 : Int) (p2 : (List Int)) (v232 : Int) (v234 : SRecv) (v235 v236 : Int) (v237 : (List SSpan)) (v238 : Int) (v239 : (List Int)) : FF := [.yld :: (dT 3 ((.ptr 174 0) :: (dT 1 ((.row false (.rPiece v234.xLate)) :: (tL v235) :: (tL v236) :: (dT 7 []))))), dc, dc, dc, dc, dc, dc, (.hdr 15) :: (eRecvt p0), [.hdr 1, (tL p1), .hdr 1, .row false (.ruint8 p2), .hdr 15, (tL 0), .row true (.ruint8 []), .row true (.rPiece []), (tL 0), (tL 0), (tL 0), (tI .u32 0), (tB false), (tB false), (tL 0), (tB false)], (.row true (.rSpan [])) :: (tI .u32 0) :: (tI .u32 0) :: (tB false) :: (.hdr 1) :: (.row true (.rSpan v237)) :: (dT 8 ((.hdr 15) :: (sl 0 1 (eRecv v234)))), sl 1 14 (eRecv v234) ++ [.hdr 2, (tL v238)], (.row false (.ruint8 v239)) :: (dT 15 [])]
def fr34_15 (p0 : SRecv) (p1 : Int) (p2 : (List Int)) (v232 : Int) (v234 : SRecv) (v235 v236 : Int) (v237 : (List SSpan)) (v238 : Int) (v239 : (List Int)) (v241 v242 : Int) : FF := [.yld :: (dT 3 ((.ptr 174 0) :: (dT 1 ((.row false (.rPiece v234.xLate)) :: (tL v235) :: (tL v236) :: (dT 3 (.yld :: (.agg [(tL v238), .row false (.ruint8 v239)]) :: (.agg [(tL v241), (tL v242)]) :: (dT 1 []))))))), dc, dc, dc, dc, dc, dc, (.hdr 15) :: (eRecvt p0), [.hdr 1, (tL p1), .hdr 1, .row false (.ruint8 p2), .hdr 15, (tL 0), .row true (.ruint8 []), .row true (.rPiece []), (tL 0), (tL 0), (tL 0), (tI .u32 0), (tB false), (tB false), (tL 0), (tB false)], (.row true (.rSpan [])) :: (tI .u32 0) :: (tI .u32 0) :: (tB false) :: (.hdr 1) :: (.row true (.rSpan v237)) :: (dT 8 ((.hdr 15) :: (sl 0 1 (eRecv v234)))), sl 1 14 (eRecv v234) ++ [.hdr 2, (tL v238)], (.row false (.ruint8 v239)) :: (dT 15 [])]
theorem s34_14_t (cp : CP) (n : Nat) (p0 : SRecv) (p1 : Int) (p2 : (List Int)) (v232 : Int) (v234 : SRecv) (v235 v236 : Int) (v237 : (List SSpan)) (v238 : Int) (v239 : (List Int)) (A B : FF → Option R) : (gF (fr34_13 p0 p1 p2 v232 v234 v235 v236 v237 v238 v239) fun l => steps2 U cp (callP cp n) g34_10031 l fun l1 => yGuard2 none l1 (A l1) (B l1)) = s34_14 cp n p0 p1 p2 v232 v234 v235 v236 v237 v238 v239 (fun v241 v242 => A (fr34_15 p0 p1 p2 v232 v234 v235 v236 v237 v238 v239 v241 v242)) := by kernel_rfl
def w34_4 : Fr := (.row false (.ruint8 v239)) :: (dT 15 [])
def fr34_17 : FF := [w34_0 v232, w34_3, dc, dc, dc, dc, dc, w34_1 p0, w34_2 p1 p2, (.row true (.rSpan [])) :: (tI .u32 0) :: (tI .u32 0) :: (tB false) :: (.hdr 1) :: (.row true (.rSpan v243)) :: (dT 8 ((.hdr 15) :: (sl 0 1 (eRecv v234)))), sl 1 14 (eRecv v234) ++ [.hdr 2, (tL v238)], w34_4 v239]
def fr34_18 : FF := [w34_0 v232, w34_3, (.agg [(tL v241), (tL v242)]) :: (dT 15 []), dc, dc, dc, dc, w34_1 p0, w34_2 p1 p2, (.row true (.rSpan [])) :: (tI .u32 0) :: (tI .u32 0) :: (tB false) :: (.hdr 1) :: (.row true (.rSpan v237)) :: (dT 8 ((.hdr 15) :: (sl 0 1 (eRecv v234)))), sl 1 14 (eRecv v234) ++ [.hdr 2, (tL v238)], w34_4 v239]
theorem s34_16_t : X cp n i34_2 (fr34_18 p0 p1 p2 v232 v234 v237 v238 v239 v241 v242) k = s34_16 cp n p0 p1 p2 v232 v234 v237 v238 v239 v241 v242 (fun v243 => k .norm (fr34_17 p0 p1 p2 v232 v234 v238 v239 v243)) := by kernel_rfl
def fr34_20 (p0 : SRecv) (p1 : Int) (p2 : (List Int)) (v232 : Int) (v234 : SRecv) (v235 v236 v238 : Int) (v239 : (List Int)) (v241 v242 : Int) (v243 : (List SSpan)) : FF := [.yld :: (dT 3 ((.ptr 174 0) :: (dT 1 ((.row false (.rPiece v234.xLate)) :: (tL v235) :: (tL v236) :: (dT 3 ([.yld, .agg [(tL v238), .row false (.ruint8 v239)], .agg [(tL v241), (tL v242)], (tB true)])))))), dc, dc, dc, dc, dc, dc, (.hdr 15) :: (eRecvt p0), [.hdr 1, (tL p1), .hdr 1, .row false (.ruint8 p2), .hdr 15, (tL 0), .row true (.ruint8 []), .row true (.rPiece []), (tL 0), (tL 0), (tL 0), (tI .u32 0), (tB false), (tB false), (tL 0), (tB false)], (.row true (.rSpan [])) :: (tI .u32 0) :: (tI .u32 0) :: (tB false) :: (.hdr 1) :: (.row true (.rSpan v243)) :: (dT 8 ((.hdr 15) :: (sl 0 1 (eRecv v234)))), sl 1 14 (eRecv v234) ++ [.hdr 2, (tL v238)], (.row false (.ruint8 v239)) :: (dT 15 [])]
theorem q34_19_t (cp : CP) (n : Nat) (p0 : SRecv) (p1 : Int) (p2 : (List Int)) (v232 : Int) (v234 : SRecv) (v235 v236 : Int) (v237 : (List SSpan)) (v238 : Int) (v239 : (List Int)) (v241 v242 : Int) (K : FF → Option R) : yRun2 (y34_5 cp n v232) (.s 12) [.s 14] 15 (fr34_15 p0 p1 p2 v232 v234 v235 v236 v237 v238 v239 v241 v242) K = s34_16 cp n p0 p1 p2 v232 v234 v237 v238 v239 v241 v242 (fun v243 => K (fr34_20 p0 p1 p2 v232 v234 v235 v236 v238 v239 v241 v242 v243)) := ((fun x => (show yRun2 (rndT 7 [32] [112, 128, 130, 132, 148, 158, 174] (fr34_6 v232) x) (.s 12) [.s 14] 15 (fr34_15 p0 p1 p2 v232 v234 v235 v236 v237 v238 v239 v241 v242) K = x (fr34_18 p0 p1 p2 v232 v234 v237 v238 v239 v241 v242) (roundT 7 (fr34_15 p0 p1 p2 v232 v234 v235 v236 v237 v238 v239 v241 v242) (fun l2 => putO l2 (some 15) (.sc (.bool true)) K)) from by kernel_rfl)) (X cp n i34_2)).trans ((s34_16_t cp n p0 p1 p2 v232 v234 v237 v238 v239 v241 v242 (roundT 7 (fr34_15 p0 p1 p2 v232 v234 v235 v236 v237 v238 v239 v241 v242) (fun l2 => putO l2 (some 15) (.sc (.bool true)) K))).trans (by kernel_rfl))
def fr34_21 (p0 : SRecv) (p1 : Int) (p2 : (List Int)) (v232 : Int) (v234 : SRecv) (v235 v236 : Int) (v244 : (List SSpan)) : FF := [.yld :: (dT 5 ((.row false (.rPiece v234.xLate)) :: (tL v235) :: (tL v236) :: (dT 7 []))), (tB false) :: (dT 15 []), dc, dc, dc, dc, dc, (.hdr 15) :: (eRecvt p0), [.hdr 1, (tL p1), .hdr 1, .row false (.ruint8 p2), .hdr 15, (tL 0), .row true (.ruint8 []), .row true (.rPiece []), (tL 0), (tL 0), (tL 0), (tI .u32 0), (tB false), (tB false), (tL 0), (tB false)], (.row true (.rSpan [])) :: (tI .u32 0) :: (tI .u32 0) :: (tB false) :: (.hdr 1) :: (.row true (.rSpan v244)) :: (dT 8 ((.hdr 15) :: (sl 0 1 (eRecv v234)))), sl 1 14 (eRecv v234) ++ (dT 2 []), dc]
theorem s34_22_t : XI cp n (y34_5 cp n v232) i34_4 (fr34_13 p0 p1 p2 v232 v234 v235 v236 v237 v238 v239) k = s34_22 cp n p0 p1 p2 v232 v234 v235 v236 v237 v238 v239 (fun v244 => k .norm (fr34_21 p0 p1 p2 v232 v234 v235 v236 v244)) := (show XI cp n (y34_5 cp n v232) i34_4 (fr34_13 p0 p1 p2 v232 v234 v235 v236 v237 v238 v239) k = gF (fr34_13 p0 p1 p2 v232 v234 v235 v236 v237 v238 v239) fun l => steps2 U cp (callP cp n) g34_10031 l fun l1 => yGuard2 none l1 ((fun l1 => yRun2 (y34_5 cp n v232) (.s 12) [.s 14] 15 l1 (fun l2 => steps2 U cp (callP cp n) g34_10032 l2 ((clrT [4, 12, 13, 14, 15] [(174, 2)] k) .norm))) l1) ((fun l1 => putO l1 (some 15) (.tup []) fun l2 => steps2 U cp (callP cp n) g34_10032 l2 ((clrT [4, 12, 13, 14, 15] [(174, 2)] k) .norm)) l1) from by kernel_rfl).trans ((s34_14_t cp n p0 p1 p2 v232 v234 v235 v236 v237 v238 v239 (fun l1 => yRun2 (y34_5 cp n v232) (.s 12) [.s 14] 15 l1 (fun l2 => steps2 U cp (callP cp n) g34_10032 l2 ((clrT [4, 12, 13, 14, 15] [(174, 2)] k) .norm))) (fun l1 => putO l1 (some 15) (.tup []) fun l2 => steps2 U cp (callP cp n) g34_10032 l2 ((clrT [4, 12, 13, 14, 15] [(174, 2)] k) .norm))).trans (congrArg (s34_14 cp n p0 p1 p2 v232 v234 v235 v236 v237 v238 v239) (funext fun v241 => funext fun v242 => (q34_19_t cp n p0 p1 p2 v232 v234 v235 v236 v237 v238 v239 v241 v242 (fun l2 => steps2 U cp (callP cp n) g34_10032 l2 ((clrT [4, 12, 13, 14, 15] [(174, 2)] k) .norm))).trans (show s34_16 cp n p0 p1 p2 v232 v234 v237 v238 v239 v241 v242 (fun v243 => (fun l2 => steps2 U cp (callP cp n) g34_10032 l2 ((clrT [4, 12, 13, 14, 15] [(174, 2)] k) .norm)) (fr34_20 p0 p1 p2 v232 v234 v235 v236 v238 v239 v241 v242 v243)) = s34_16 cp n p0 p1 p2 v232 v234 v237 v238 v239 v241 v242 (fun v243 => k .norm (fr34_21 p0 p1 p2 v232 v234 v235 v236 v243)) from by kernel_rfl))))
def fr34_24 (p0 : SRecv) (p1 : Int) (p2 : (List Int)) (v232 : Int) (v234 : SRecv) (v235 v236 : Int) (v244 : (List SSpan)) : FF := [.yld :: (dT 5 ((.row false (.rPiece v234.xLate)) :: (tL v235) :: (tL v236) :: (dT 7 []))), dc, dc, dc, dc, dc, dc, (.hdr 15) :: (eRecvt p0), [.hdr 1, (tL p1), .hdr 1, .row false (.ruint8 p2), .hdr 15, (tL 0), .row true (.ruint8 []), .row true (.rPiece []), (tL 0), (tL 0), (tL 0), (tI .u32 0), (tB false), (tB false), (tL 0), (tB false)], (.row true (.rSpan [])) :: (tI .u32 0) :: (tI .u32 0) :: (tB false) :: (.hdr 1) :: (.row true (.rSpan v244)) :: (dT 8 ((.hdr 15) :: (sl 0 1 (eRecv v234)))), sl 1 14 (eRecv v234) ++ (dT 2 []), dc]
theorem s34_23_t : XI cp n (y34_5 cp n v232) i34_5 (fr34_21 p0 p1 p2 v232 v234 v235 v236 v244) k = s34_23 cp n p0 p1 p2 v232 v234 v235 v236 v244 (k .norm (fr34_24 p0 p1 p2 v232 v234 v235 v236 v244)) := by kernel_rfl
def fr34_25 (p0 : SRecv) (p1 : Int) (p2 : (List Int)) (v232 : Int) (v234 : SRecv) (v235 v236 : Int) (v245 : (List SSpan)) : FF := [.yld :: (dT 5 ((.row false (.rPiece v234.xLate)) :: (tL v235) :: (tL v236) :: (dT 7 []))), dc, dc, dc, dc, dc, dc, (.hdr 15) :: (eRecvt p0), [.hdr 1, (tL p1), .hdr 1, .row false (.ruint8 p2), .hdr 15, (tL 0), .row true (.ruint8 []), .row true (.rPiece []), (tL 0), (tL 0), (tL 0), (tI .u32 0), (tB false), (tB false), (tL 0), (tB false)], (.row true (.rSpan [])) :: (tI .u32 0) :: (tI .u32 0) :: (tB false) :: (.hdr 1) :: (.row true (.rSpan v245)) :: (dT 8 ((.hdr 15) :: (sl 0 1 (eRecv v234)))), sl 1 14 (eRecv v234) ++ (dT 2 []), dc]
theorem s34_26_t : XI cp n (y34_5 cp n v232) i34_6 (fr34_13 p0 p1 p2 v232 v234 v235 v236 v237 v238 v239) k = s34_26 cp n p0 p1 p2 v232 v234 v235 v236 v237 v238 v239 (fun v245 => k .norm (fr34_25 p0 p1 p2 v232 v234 v235 v236 v245)) := tq (tq (congrArg (fun q => s34_22 cp n p0 p1 p2 v232 v234 v235 v236 v237 v238 v239 q) (funext fun v244 => (s34_23_t cp n p0 p1 p2 v232 v234 v235 v236 v244 k).trans (show _ = s34_23 cp n p0 p1 p2 v232 v234 v235 v236 v244 (k .norm (fr34_25 p0 p1 p2 v232 v234 v235 v236 v244)) from by kernel_rfl))) ((s34_22_t cp n p0 p1 p2 v232 v234 v235 v236 v237 v238 v239 (seqT (XI cp n (y34_5 cp n v232)) i34_5 k)).trans (by kernel_rfl))) (by kernel_rfl)
def fr34_27 (p0 : SRecv) (p1 : Int) (p2 : (List Int)) (v232 : Int) (v234 : SRecv) (v235 v236 : Int) (v246 : (List SSpan)) : FF := [.yld :: (dT 5 ((.row false (.rPiece v234.xLate)) :: (tL v235) :: (tL v236) :: (dT 7 []))), dc, dc, dc, dc, dc, dc, (.hdr 15) :: (eRecvt p0), [.hdr 1, (tL p1), .hdr 1, .row false (.ruint8 p2), .hdr 15, (tL 0), .row true (.ruint8 []), .row true (.rPiece []), (tL 0), (tL 0), (tL 0), (tI .u32 0), (tB false), (tB false), (tL 0), (tB false)], (.row true (.rSpan [])) :: (tI .u32 0) :: (tI .u32 0) :: (tB false) :: (.hdr 1) :: (.row true (.rSpan v246)) :: (dT 8 ((.hdr 15) :: (sl 0 1 (eRecv v234)))), sl 1 14 (eRecv v234) ++ (dT 2 []), dc]
theorem s34_28_t : XI cp n (y34_5 cp n v232) i34_7 (fr34_10 p0 p1 p2 v232 v234 v235 v236 v237) k = s34_28 cp n p0 p1 p2 v232 v234 v235 v236 v237 (fun v246 => k .norm (fr34_27 p0 p1 p2 v232 v234 v235 v236 v246)) := ch (fun q => s34_12 cp n p0 p1 p2 v232 v234 v235 v236 v237 q) (fun c v238 v239 => XI cp n (y34_5 cp n v232) c (fr34_13 p0 p1 p2 v232 v234 v235 v236 v237 v238 v239) k) i34_6 (fun c => XI cp n (y34_5 cp n v232) (.seq (.fin (.reg g34_1002) [10, 11] []) c) (fr34_10 p0 p1 p2 v232 v234 v235 v236 v237) k) (fun c => by kernel_rfl) (funext fun v238 => funext fun v239 => (s34_26_t cp n p0 p1 p2 v232 v234 v235 v236 v237 v238 v239 k).trans (show _ = s34_26 cp n p0 p1 p2 v232 v234 v235 v236 v237 v238 v239 (fun v245 => k .norm (fr34_27 p0 p1 p2 v232 v234 v235 v236 v245)) from by kernel_rfl)) (by kernel_rfl) (by kernel_rfl)
def fr34_29 (p0 : SRecv) (p1 : Int) (p2 : (List Int)) (v232 : Int) (v234 : SRecv) (v235 v236 : Int) (v247 : (List SSpan)) : FF := [.yld :: (dT 5 ((.row false (.rPiece v234.xLate)) :: (tL v235) :: (tL v236) :: (dT 7 []))), dc, dc, dc, dc, dc, dc, (.hdr 15) :: (eRecvt p0), [.hdr 1, (tL p1), .hdr 1, .row false (.ruint8 p2), .hdr 15, (tL 0), .row true (.ruint8 []), .row true (.rPiece []), (tL 0), (tL 0), (tL 0), (tI .u32 0), (tB false), (tB false), (tL 0), (tB false)], (.row true (.rSpan [])) :: (tI .u32 0) :: (tI .u32 0) :: (tB false) :: (.hdr 1) :: (.row true (.rSpan v247)) :: (dT 8 ((.hdr 15) :: (sl 0 1 (eRecv v234)))), sl 1 14 (eRecv v234) ++ (dT 2 []), dc]
theorem s34_30_t : XI cp n (y34_5 cp n v232) i34_8 (fr34_10 p0 p1 p2 v232 v234 v235 v236 v237) k = s34_30 cp n p0 p1 p2 v232 v234 v235 v236 v237 (fun v247 => k .norm (fr34_29 p0 p1 p2 v232 v234 v235 v236 v247)) := tq ((s34_28_t cp n p0 p1 p2 v232 v234 v235 v236 v237 (blkT 1 k)).trans (by kernel_rfl)) (by kernel_rfl)
def fr34_32 (p0 : SRecv) (p1 : Int) (p2 : (List Int)) (v232 : Int) (v234 : SRecv) (v235 : Int) (v247 : (List SSpan)) (v248 : Int) : FF := [.yld :: (dT 5 ((.row false (.rPiece v234.xLate)) :: (tL v235) :: (tL v248) :: (dT 7 []))), dc, dc, dc, dc, dc, dc, (.hdr 15) :: (eRecvt p0), [.hdr 1, (tL p1), .hdr 1, .row false (.ruint8 p2), .hdr 15, (tL 0), .row true (.ruint8 []), .row true (.rPiece []), (tL 0), (tL 0), (tL 0), (tI .u32 0), (tB false), (tB false), (tL 0), (tB false)], (.row true (.rSpan [])) :: (tI .u32 0) :: (tI .u32 0) :: (tB false) :: (.hdr 1) :: (.row true (.rSpan v247)) :: (dT 8 ((.hdr 15) :: (sl 0 1 (eRecv v234)))), sl 1 14 (eRecv v234) ++ (dT 2 []), dc]
theorem s34_31_t : XI cp n (y34_5 cp n v232) i34_9 (fr34_29 p0 p1 p2 v232 v234 v235 v236 v247) k = s34_31 cp n p0 p1 p2 v232 v234 v235 v236 v247 (fun v248 => k .norm (fr34_32 p0 p1 p2 v232 v234 v235 v247 v248)) := by kernel_rfl
def fr34_33 (p0 : SRecv) (p1 : Int) (p2 : (List Int)) (v232 : Int) (v234 : SRecv) (v235 v249 : Int) (v250 : (List SSpan)) : FF := [.yld :: (dT 5 ((.row false (.rPiece v234.xLate)) :: (tL v235) :: (tL v249) :: (dT 7 []))), dc, dc, dc, dc, dc, dc, (.hdr 15) :: (eRecvt p0), [.hdr 1, (tL p1), .hdr 1, .row false (.ruint8 p2), .hdr 15, (tL 0), .row true (.ruint8 []), .row true (.rPiece []), (tL 0), (tL 0), (tL 0), (tI .u32 0), (tB false), (tB false), (tL 0), (tB false)], (.row true (.rSpan [])) :: (tI .u32 0) :: (tI .u32 0) :: (tB false) :: (.hdr 1) :: (.row true (.rSpan v250)) :: (dT 8 ((.hdr 15) :: (sl 0 1 (eRecv v234)))), sl 1 14 (eRecv v234) ++ (dT 2 []), dc]
theorem s34_34_t : XI cp n (y34_5 cp n v232) i34_10 (fr34_10 p0 p1 p2 v232 v234 v235 v236 v237) k = s34_34 cp n p0 p1 p2 v232 v234 v235 v236 v237 (fun v249 v250 => k .norm (fr34_33 p0 p1 p2 v232 v234 v235 v249 v250)) := tq (tq (congrArg (fun q => s34_30 cp n p0 p1 p2 v232 v234 v235 v236 v237 q) (funext fun v247 => (s34_31_t cp n p0 p1 p2 v232 v234 v235 v236 v247 k).trans (show _ = s34_31 cp n p0 p1 p2 v232 v234 v235 v236 v247 (fun v248 => k .norm (fr34_33 p0 p1 p2 v232 v234 v235 v248 v247)) from by kernel_rfl))) ((s34_30_t cp n p0 p1 p2 v232 v234 v235 v236 v237 (seqT (XI cp n (y34_5 cp n v232)) i34_9 k)).trans (by kernel_rfl))) (by kernel_rfl)
def fr34_35 (p0 : SRecv) (p1 : Int) (p2 : (List Int)) (v232 : Int) (v234 : SRecv) (v235 v251 : Int) (v252 : (List SSpan)) : FF := [.yld :: (dT 5 ((.row false (.rPiece v234.xLate)) :: (tL v235) :: (tL v251) :: (dT 7 []))), dc, dc, dc, dc, dc, dc, (.hdr 15) :: (eRecvt p0), [.hdr 1, (tL p1), .hdr 1, .row false (.ruint8 p2), .hdr 15, (tL 0), .row true (.ruint8 []), .row true (.rPiece []), (tL 0), (tL 0), (tL 0), (tI .u32 0), (tB false), (tB false), (tL 0), (tB false)], (.row true (.rSpan [])) :: (tI .u32 0) :: (tI .u32 0) :: (tB false) :: (.hdr 1) :: (.row true (.rSpan v252)) :: (dT 8 ((.hdr 15) :: (sl 0 1 (eRecv v234)))), sl 1 14 (eRecv v234) ++ (dT 2 []), dc]
theorem s34_36_t : XI cp n (y34_5 cp n v232) i34_11 (fr34_10 p0 p1 p2 v232 v234 v235 v236 v237) k = s34_36 cp n p0 p1 p2 v232 v234 v235 v236 v237 (fun v251 v252 => k .norm (fr34_35 p0 p1 p2 v232 v234 v235 v251 v252)) (k (.exit 0) (fr34_11 p0 p1 p2 v232 v234 v237)) := ch (fun q => s34_9 cp n p0 p1 p2 v232 v234 v235 v236 v237 q (k (.exit 0) (fr34_11 p0 p1 p2 v232 v234 v237))) (fun c => XI cp n (y34_5 cp n v232) c (fr34_10 p0 p1 p2 v232 v234 v235 v236 v237) k) i34_10 (fun c => XI cp n (y34_5 cp n v232) (.seq (.reg g34_1001) (.seq (.fin (.cond (.s 9) (.skip) (.clr [0, 6, 7, 8, 9] [] (.exit 0))) [9] []) c)) (fr34_10 p0 p1 p2 v232 v234 v235 v236 v237) k) (fun c => by kernel_rfl) ((s34_34_t cp n p0 p1 p2 v232 v234 v235 v236 v237 k).trans (show _ = s34_34 cp n p0 p1 p2 v232 v234 v235 v236 v237 (fun v249 v250 => k .norm (fr34_35 p0 p1 p2 v232 v234 v235 v249 v250)) from by kernel_rfl)) (by kernel_rfl) (by kernel_rfl)
def fr34_37 (p0 : SRecv) (p1 : Int) (p2 : (List Int)) (v232 : Int) (v234 : SRecv) (v253 : (List SSpan)) : FF := [dc, dc, dc, dc, dc, dc, dc, (.hdr 15) :: (eRecvt p0), [.hdr 1, (tL p1), .hdr 1, .row false (.ruint8 p2), .hdr 15, (tL 0), .row true (.ruint8 []), .row true (.rPiece []), (tL 0), (tL 0), (tL 0), (tI .u32 0), (tB false), (tB false), (tL 0), (tB false)], (.row true (.rSpan [])) :: (tI .u32 0) :: (tI .u32 0) :: (tB false) :: (.hdr 1) :: (.row true (.rSpan v253)) :: (dT 8 ((.hdr 15) :: (sl 0 1 (eRecv v234)))), sl 1 14 (eRecv v234) ++ (dT 2 []), dc]
theorem l34_38_t (cp : CP) (n : Nat) : ∀ (m : Nat) (p0 : SRecv) (p1 : Int) (p2 : (List Int)) (v232 : Int) (v234 : SRecv) (v235 v236 : Int) (v237 : (List SSpan)) (k : KX R), loopN2 (XI cp n (y34_5 cp n v232) i34_11) m (fr34_10 p0 p1 p2 v232 v234 v235 v236 v237) k = l34_38 cp n m p0 p1 p2 v232 v234 v235 v236 v237 (fun v253 => k (.exit 0) (fr34_37 p0 p1 p2 v232 v234 v253))
  | 0, _, _, _, _, _, _, _, _, _ => rfl
  | m + 1, p0, p1, p2, v232, v234, v235, v236, v237, k => (loopN2_succ (XI cp n (y34_5 cp n v232) i34_11) m (fr34_10 p0 p1 p2 v232 v234 v235 v236 v237) k).trans ((s34_36_t cp n p0 p1 p2 v232 v234 v235 v236 v237 (loopT (XI cp n (y34_5 cp n v232) i34_11) m k)).trans (tq (congrArg (fun q => s34_36 cp n p0 p1 p2 v232 v234 v235 v236 v237 q (k (.exit 0) (fr34_37 p0 p1 p2 v232 v234 v237))) (funext fun v251 => funext fun v252 => l34_38_t cp n m p0 p1 p2 v232 v234 v235 v251 v252 k)) (by kernel_rfl)))
theorem s34_39_t : XI cp n (y34_5 cp n v232) i34_12 (fr34_8 p0 p1 p2 v232 v234 v235) k = s34_39 cp n p0 p1 p2 v232 v234 v235 (fun v253 => k (.exit 0) (fr34_37 p0 p1 p2 v232 v234 v253)) := tq (l34_38_t cp n n p0 p1 p2 v232 v234 v235 0 [] k) (by kernel_rfl)
def fr34_40 (p0 : SRecv) (p1 : Int) (p2 : (List Int)) (v232 : Int) (v234 : SRecv) (v254 : (List SSpan)) : FF := [dc, dc, dc, dc, dc, dc, dc, (.hdr 15) :: (eRecvt p0), [.hdr 1, (tL p1), .hdr 1, .row false (.ruint8 p2), .hdr 15, (tL 0), .row true (.ruint8 []), .row true (.rPiece []), (tL 0), (tL 0), (tL 0), (tI .u32 0), (tB false), (tB false), (tL 0), (tB false)], (.row true (.rSpan [])) :: (tI .u32 0) :: (tI .u32 0) :: (tB false) :: (.hdr 1) :: (.row true (.rSpan v254)) :: (dT 8 ((.hdr 15) :: (sl 0 1 (eRecv v234)))), sl 1 14 (eRecv v234) ++ (dT 2 []), dc]
theorem s34_41_t : XI cp n (y34_5 cp n v232) i34_13 (fr34_8 p0 p1 p2 v232 v234 v235) k = s34_41 cp n p0 p1 p2 v232 v234 v235 (fun v254 => k .norm (fr34_40 p0 p1 p2 v232 v234 v254)) := tq ((s34_39_t cp n p0 p1 p2 v232 v234 v235 (blkT 0 k)).trans (by kernel_rfl)) (by kernel_rfl)
def fr34_42 (p0 : SRecv) (p1 : Int) (p2 : (List Int)) (v232 : Int) (v234 : SRecv) (v255 : (List SSpan)) : FF := [dc, dc, dc, dc, dc, dc, dc, (.hdr 15) :: (eRecvt p0), [.hdr 1, (tL p1), .hdr 1, .row false (.ruint8 p2), .hdr 15, (tL 0), .row true (.ruint8 []), .row true (.rPiece []), (tL 0), (tL 0), (tL 0), (tI .u32 0), (tB false), (tB false), (tL 0), (tB false)], (.row true (.rSpan [])) :: (tI .u32 0) :: (tI .u32 0) :: (tB false) :: (.hdr 1) :: (.row true (.rSpan v255)) :: (dT 8 ((.hdr 15) :: (sl 0 1 (eRecv v234)))), sl 1 14 (eRecv v234) ++ (dT 2 []), dc]
def fr34_44 (p0 : SRecv) (p1 : Int) (p2 : (List Int)) (v232 : Int) (v234 : SRecv) : FF := [.yld :: (.ptr 158 0) :: (dT 14 []), dc, dc, dc, dc, dc, dc, (.hdr 15) :: (eRecvt p0), [.hdr 1, (tL p1), .hdr 1, .row false (.ruint8 p2), .hdr 15, (tL 0), .row true (.ruint8 []), .row true (.rPiece []), (tL 0), (tL 0), (tL 0), (tI .u32 0), (tB false), (tB false), (tL 0), (tB false)], (.row true (.rSpan [])) :: (tI .u32 0) :: (tI .u32 0) :: (tB false) :: (.hdr 1) :: (.row true (.rSpan [])) :: (dT 8 ((.hdr 15) :: (sl 0 1 (eRecv v234)))), sl 1 14 (eRecv v234) ++ (dT 2 []), dc]
theorem s34_43_t : XI cp n (y34_5 cp n v232) i34_3 (fr34_44 p0 p1 p2 v232 v234) k = s34_43 cp n p0 p1 p2 v232 v234 (fun v255 => k .norm (fr34_42 p0 p1 p2 v232 v234 v255)) := ch (fun q => s34_7 cp n p0 p1 p2 v232 v234 q) (fun c v235 => XI cp n (y34_5 cp n v232) c (fr34_8 p0 p1 p2 v232 v234 v235) k) i34_13 (fun c => XI cp n (y34_5 cp n v232) (.seq (.fin (.reg g34_1000) [1, 5] []) c) (fr34_44 p0 p1 p2 v232 v234) k) (fun c => by kernel_rfl) (funext fun v235 => (s34_41_t cp n p0 p1 p2 v232 v234 v235 k).trans (show _ = s34_41 cp n p0 p1 p2 v232 v234 v235 (fun v254 => k .norm (fr34_42 p0 p1 p2 v232 v234 v254)) from by kernel_rfl)) (by kernel_rfl) (by kernel_rfl)
def fr34_45 : FF := [w34_0 v232, dc, dc, dc, dc, dc, dc, w34_1 p0, w34_2 p1 p2, (.row true (.rSpan [])) :: (tI .u32 0) :: (tI .u32 0) :: (tB false) :: (.hdr 1) :: (.row true (.rSpan v256)) :: (dT 10 []), dc, dc]
theorem s34_46_t : X cp n i34_14 (fr34_4 p0 p1 p2 v232 v234) k = s34_46 cp n p0 p1 p2 v232 v234 (fun v256 => k .norm (fr34_45 p0 p1 p2 v232 v256)) := (show X cp n i34_14 (fr34_4 p0 p1 p2 v232 v234) k = XI cp n (roundK2 7 [32] [112, 128, 130, 132, 148, 158, 174] (fr34_4 p0 p1 p2 v232 v234) (X cp n i34_0) (X cp n i34_1)) i34_3 (fr34_44 p0 p1 p2 v232 v234) (rfnT 7 (fr34_4 p0 p1 p2 v232 v234) (clrT [31] [(158, 15)] k)) from rfn_eq (v := .clo 70 [(158, 0)]) (by kernel_rfl) (by kernel_rfl) (by kernel_rfl) _ _ _).trans ((congrArg (fun Y => XI cp n Y i34_3 (fr34_44 p0 p1 p2 v232 v234) (rfnT 7 (fr34_4 p0 p1 p2 v232 v234) (clrT [31] [(158, 15)] k))) ((rnd_eq 7 [32] [112, 128, 130, 132, 148, 158, 174] (fr34_4 p0 p1 p2 v232 v234) i34_0 i34_1).trans (show rndT 7 [32] [112, 128, 130, 132, 148, 158, 174] (fr34_4 p0 p1 p2 v232 v234) (X cp n i34_2) = (y34_5 cp n v232) from by kernel_rfl))).trans ((s34_43_t cp n p0 p1 p2 v232 v234 (rfnT 7 (fr34_4 p0 p1 p2 v232 v234) (clrT [31] [(158, 15)] k))).trans (by kernel_rfl)))
def fr34_47 : FF := [w34_0 v232, dc, dc, dc, dc, dc, dc, w34_1 p0, w34_2 p1 p2, (.row true (.rSpan [])) :: (tI .u32 0) :: (tI .u32 0) :: (tB false) :: (.hdr 1) :: (.row true (.rSpan v257)) :: (dT 10 []), dc, dc]
theorem s34_48_t : X cp n i34_15 (fr34_4 p0 p1 p2 v232 v234) k = s34_48 cp n p0 p1 p2 v232 v234 (fun v257 => k .norm (fr34_47 p0 p1 p2 v232 v257)) := tq ((s34_46_t cp n p0 p1 p2 v232 v234 (blkT 0 k)).trans (by kernel_rfl)) (by kernel_rfl)
def fr34_49 : FF := [w34_0 v232, dc, dc, dc, dc, dc, dc, w34_1 p0, w34_2 p1 p2, (.row true (.rSpan [])) :: (tI .u32 0) :: (tI .u32 0) :: (tB false) :: (.hdr 1) :: (.row true (.rSpan v258)) :: (dT 10 []), dc, dc]
theorem s34_50_t : X cp n i34_16 (fr34_2 p0 p1 p2 v232) k = s34_50 cp n p0 p1 p2 v232 (fun v258 => k .norm (fr34_49 p0 p1 p2 v232 v258)) := ch (fun q => s34_3 cp n p0 p1 p2 v232 q) (fun c v234 => X cp n c (fr34_4 p0 p1 p2 v232 v234) k) i34_15 (fun c => X cp n (.seq (.fin (.reg g34_5) [30] []) c) (fr34_2 p0 p1 p2 v232) k) (fun c => by kernel_rfl) (funext fun v234 => (s34_48_t cp n p0 p1 p2 v232 v234 k).trans (show _ = s34_48 cp n p0 p1 p2 v232 v234 (fun v257 => k .norm (fr34_49 p0 p1 p2 v232 v257)) from by kernel_rfl)) (by kernel_rfl) (by kernel_rfl)
def w34_5 : Fr := (.row true (.rSpan [])) :: (tI .u32 0) :: (tI .u32 0) :: (tB false) :: (.hdr 1) :: (.row true (.rSpan v258)) :: (dT 3 ((.hdr 1) :: (tB false) :: (dT 5 [])))
def fr34_52 : FF := [dT 3 ((.ptr 112 0) :: (.ptr 128 0) :: (dT 1 ((.ptr 132 0) :: (dT 1 ((tL v232) :: (.ptr 148 0) :: (dT 1 ((.ptr 153 0) :: (.clo 59 [(153, 0), (112, 0), (130, 0), (128, 0)]) :: (dT 3 [])))))))), dc, dc, dc, dc, dc, dc, w34_1 p0, w34_2 p1 p2, w34_5 v258, dc, dc]
def fr34_54 : FF := [dT 3 ((.ptr 112 0) :: (dT 2 ((.ptr 132 0) :: (dT 1 ((tL v232) :: (.ptr 148 0) :: (dT 1 ((.ptr 153 0) :: (.clo 59 [(153, 0), (112, 0), (130, 0), (128, 0)]) :: (tL v259) :: (dT 2 [])))))))), dc, dT 12 ((tB v260) :: (dT 3 [])), dc, dc, dc, dc, w34_1 p0, w34_2 p1 p2, w34_5 v258, dc, dc]
def w34_6 : Fr := dT 3 ((.ptr 112 0) :: (dT 2 ((.ptr 132 0) :: (dT 4 ((.ptr 153 0) :: (.clo 59 [(153, 0), (112, 0), (130, 0), (128, 0)]) :: (dT 3 []))))))
def fr34_56 : FF := [w34_6, dc, dc, dT 1 ((.row false (.rSpan v262)) :: (tL v263) :: (tL 0) :: (dT 12 [])), dc, dc, dc, w34_1 p0, w34_2 p1 p2, (.row true (.rSpan [])) :: (tI .u32 0) :: (tI .u32 0) :: (tB false) :: (dT 5 ((.hdr 1) :: (tB false) :: (dT 5 []))), dc, dc]
def fr34_58 : FF := [w34_6, dc, dc, dT 1 ((.row false (.rSpan v262)) :: (tL v263) :: (tL v273) :: (dT 12 [])), dc, dc, dc, (.hdr 15) :: (eRecvt v274), [.hdr 1, (tL v275), .hdr 1, .row false (.ruint8 v276), .hdr 15, (tL 0), .row true (.ruint8 []), .row true (.rPiece []), (tL 0), (tL 0), (tL 0), (tI .u32 0), (tB false), (tB false), (tL 0), (tB false)], (.row true (.rSpan [])) :: (tI .u32 0) :: (tI .u32 0) :: (tB false) :: (dT 5 ((.hdr 1) :: (tB v277) :: (dT 5 []))), dc, dc]
def w34_7 : Fr := dT 3 ((.ptr 112 0) :: (dT 2 ((.ptr 132 0) :: (dT 4 ((.ptr 153 0) :: (dT 4 []))))))
def w34_8 : Fr := dT 4 ([.hdr 15, (tL 0), .row true (.ruint8 []), .row true (.rPiece []), (tL 0), (tL 0), (tL 0), (tI .u32 0), (tB false), (tB false), (tL 0), (tB false)])
def w34_9 : Fr := (.row true (.rSpan [])) :: (tI .u32 0) :: (tI .u32 0) :: (tB false) :: (dT 5 ((.hdr 1) :: (tB v268) :: (dT 5 [])))
def fr34_59 : FF := [w34_7, dc, dc, dc, dc, dc, dc, (.hdr 15) :: (eRecvt v265), w34_8, w34_9 v268, dc, dc]
def fr34_60 : FF := [w34_6, dc, dc, dT 1 ((.row false (.rSpan v262)) :: (tL v263) :: (tL v264) :: (dT 12 [])), dc, dc, dc, (.hdr 15) :: (eRecvt v265), [.hdr 1, (tL v266), .hdr 1, .row false (.ruint8 v267), .hdr 15, (tL 0), .row true (.ruint8 []), .row true (.rPiece []), (tL 0), (tL 0), (tL 0), (tI .u32 0), (tB false), (tB false), (tL 0), (tB false)], w34_9 v268, dc, dc]
theorem s34_57_t : X cp n i34_17 (fr34_60 v262 v263 v264 v265 v266 v267 v268) k = s34_57 cp n v262 v263 v264 v265 v266 v267 v268 (fun v273 v274 v275 v276 v277 => k .norm (fr34_58 v262 v263 v273 v274 v275 v276 v277)) (k (.exit 2) (fr34_59 v265 v268)) := by kernel_rfl
def fr34_61 : FF := [w34_7, dc, dc, dc, dc, dc, dc, (.hdr 15) :: (eRecvt v278), w34_8, (.row true (.rSpan [])) :: (tI .u32 0) :: (tI .u32 0) :: (tB false) :: (dT 5 ((.hdr 1) :: (tB v279) :: (dT 5 []))), dc, dc]
theorem l34_62_t (cp : CP) (n : Nat) : ∀ (m : Nat) (v262 : (List SSpan)) (v263 v264 : Int) (v265 : SRecv) (v266 : Int) (v267 : (List Int)) (v268 : Bool) (k : KX R), loopN2 (X cp n i34_17) m (fr34_60 v262 v263 v264 v265 v266 v267 v268) k = l34_62 cp n m v262 v263 v264 v265 v266 v267 v268 (fun v278 v279 => k (.exit 2) (fr34_61 v278 v279))
  | 0, _, _, _, _, _, _, _, _ => rfl
  | m + 1, v262, v263, v264, v265, v266, v267, v268, k => (loopN2_succ (X cp n i34_17) m (fr34_60 v262 v263 v264 v265 v266 v267 v268) k).trans ((s34_57_t cp n v262 v263 v264 v265 v266 v267 v268 (loopT (X cp n i34_17) m k)).trans (tq (congrArg (fun q => s34_57 cp n v262 v263 v264 v265 v266 v267 v268 q (k (.exit 2) (fr34_61 v265 v268))) (funext fun v273 => funext fun v274 => funext fun v275 => funext fun v276 => funext fun v277 => l34_62_t cp n m v262 v263 v273 v274 v275 v276 v277 k)) (by kernel_rfl)))
theorem s34_63_t : X cp n i34_18 (fr34_56 p0 p1 p2 v262 v263) k = s34_63 cp n p0 p1 p2 v262 v263 (fun v278 v279 => k (.exit 2) (fr34_61 v278 v279)) := tq (l34_62_t cp n n v262 v263 0 p0 p1 p2 false k) (by kernel_rfl)
def fr34_64 : FF := [w34_7, dc, dc, dc, dc, dc, dc, (.hdr 15) :: (eRecvt v280), w34_8, (.row true (.rSpan [])) :: (tI .u32 0) :: (tI .u32 0) :: (tB false) :: (dT 5 ((.hdr 1) :: (tB v281) :: (dT 5 []))), dc, dc]
theorem s34_65_t : X cp n i34_19 (fr34_56 p0 p1 p2 v262 v263) k = s34_65 cp n p0 p1 p2 v262 v263 (fun v280 v281 => k .norm (fr34_64 v280 v281)) := tq ((s34_63_t cp n p0 p1 p2 v262 v263 (blkT 2 k)).trans (by kernel_rfl)) (by kernel_rfl)
def fr34_66 : FF := [w34_7, dc, dc, dc, dc, dc, dc, (.hdr 15) :: (eRecvt v282), w34_8, (.row true (.rSpan [])) :: (tI .u32 0) :: (tI .u32 0) :: (tB false) :: (dT 5 ((.hdr 1) :: (tB v283) :: (dT 5 []))), dc, dc]
theorem s34_67_t : X cp n i34_20 (fr34_54 p0 p1 p2 v232 v258 v259 v260) k = s34_67 cp n p0 p1 p2 v232 v258 v259 v260 (fun v282 v283 => k .norm (fr34_66 v282 v283)) := ch (fun q => s34_55 cp n p0 p1 p2 v232 v258 v259 v260 q) (fun c v262 v263 => X cp n c (fr34_56 p0 p1 p2 v262 v263) k) i34_19 (fun c => X cp n (.seq (.fin (.reg g34_12) [8, 9, 13, 44, 45, 46, 47, 48] [(148, 1)]) c) (fr34_54 p0 p1 p2 v232 v258 v259 v260) k) (fun c => by kernel_rfl) (funext fun v262 => funext fun v263 => (s34_65_t cp n p0 p1 p2 v262 v263 k).trans (show _ = s34_65 cp n p0 p1 p2 v262 v263 (fun v280 v281 => k .norm (fr34_66 v280 v281)) from by kernel_rfl)) (by kernel_rfl) (by kernel_rfl)
theorem s34_68_t : X cp n i34_21 (fr34_54 p0 p1 p2 v232 v258 v259 v260) k = s34_68 cp n p0 p1 p2 v232 v258 v259 v260 (k .norm (fr34_54 p0 p1 p2 v232 v258 v259 v260)) := by kernel_rfl
def fr34_70 : FF := [w34_7, dc, dc, dc, dc, dc, dc, (.hdr 15) :: (eRecvt v284), w34_8, (.row true (.rSpan [])) :: (tI .u32 0) :: (tI .u32 0) :: (tB false) :: (dT 5 ((.hdr 1) :: (tB v285) :: (dT 5 []))), dc, dc]
theorem s34_69_t : X cp n i34_22 (fr34_54 p0 p1 p2 v232 v258 v259 v260) k = s34_69 cp n p0 p1 p2 v232 v258 v259 v260 (fun v284 v285 => k .norm (fr34_70 v284 v285)) := tq (cc (b := v260) ((s34_67_t cp n p0 p1 p2 v232 v258 v259 v260 (clrT [8, 9, 12, 13, 44] [(128, 1), (130, 1), (148, 1)] k)).trans (show _ = s34_67 cp n p0 p1 p2 v232 v258 v259 v260 (fun v282 v283 => k .norm (fr34_70 v282 v283)) from by kernel_rfl)) ((s34_68_t cp n p0 p1 p2 v232 v258 v259 v260 (clrT [8, 9, 12, 13, 44] [(128, 1), (130, 1), (148, 1)] k)).trans (show _ = s34_68 cp n p0 p1 p2 v232 v258 v259 v260 (k .norm (fr34_70 p0 false)) from by kernel_rfl))) (by kernel_rfl)
def w34_10 : Fr := (.row true (.rSpan [])) :: (tI .u32 0) :: (tI .u32 0) :: (tB false) :: (dT 5 ((.hdr 1) :: (tB v287) :: (dT 5 [])))
def fr34_71 : FF := [w34_7, dc, dc, dc, dc, dc, dc, (.hdr 15) :: (eRecvt v286), w34_8, w34_10 v287, dc, dc]
theorem s34_72_t : X cp n i34_23 (fr34_52 p0 p1 p2 v232 v258) k = s34_72 cp n p0 p1 p2 v232 v258 (fun v286 v287 => k .norm (fr34_71 v286 v287)) := ch (fun q => s34_53 cp n p0 p1 p2 v232 v258 q) (fun c v259 v260 => X cp n c (fr34_54 p0 p1 p2 v232 v258 v259 v260) k) i34_22 (fun c => X cp n (.seq (.fin (.reg g34_10) [4, 38, 39, 40, 41] []) (.seq (.fin (.reg g34_11) [42, 43] []) c)) (fr34_52 p0 p1 p2 v232 v258) k) (fun c => by kernel_rfl) (funext fun v259 => funext fun v260 => (s34_69_t cp n p0 p1 p2 v232 v258 v259 v260 k).trans (show _ = s34_69 cp n p0 p1 p2 v232 v258 v259 v260 (fun v284 v285 => k .norm (fr34_71 v284 v285)) from by kernel_rfl)) (by kernel_rfl) (by kernel_rfl)
def fr34_74 : FF := [w34_7, dc, dc, dc, dc, dc, dc, [.hdr 15, (tL v289.xNext), .row true (.ruint8 v289.xUnread), .row false (.rPiece v289.xLate), (tL v289.xCap), (tL v289.xShift), (tL v289.xEdge), (tI .u32 v289.xRecent), (tB v289.xStamps), (tB v289.xSacks), (tL v289.xFin), (tB v289.xDone), .row true (.rSpan v289.xFirst), (tI .u32 v289.xIrs), (tI .u32 v289.xOwn), (tB v289.xStamp)], w34_8, w34_10 v287, dc, dc]
def fr34_75 : FF := [w34_7, dc, dc, dc, dc, dc, dc, [.hdr 15, (tL v288.xNext), .row true (.ruint8 v288.xUnread), .row false (.rPiece v288.xLate), (tL v288.xCap), (tL v288.xShift), (tL v288.xEdge), (tI .u32 v288.xRecent), (tB v288.xStamps), (tB v288.xSacks), (tL v288.xFin), (tB v288.xDone), .row true (.rSpan v288.xFirst), (tI .u32 v288.xIrs), (tI .u32 v288.xOwn), (tB v288.xStamp)], w34_8, w34_10 v287, dc, dc]
theorem s34_73_t : X cp n i34_24 (fr34_75 v287 v288) k = s34_73 cp n v287 v288 (fun v289 => k .norm (fr34_74 v287 v289)) (k (.exit 4) (fr34_75 v287 v288)) := by kernel_rfl
def fr34_76 : FF := [w34_7, dc, dc, dc, dc, dc, dc, [.hdr 15, (tL v290.xNext), .row true (.ruint8 v290.xUnread), .row false (.rPiece v290.xLate), (tL v290.xCap), (tL v290.xShift), (tL v290.xEdge), (tI .u32 v290.xRecent), (tB v290.xStamps), (tB v290.xSacks), (tL v290.xFin), (tB v290.xDone), .row true (.rSpan v290.xFirst), (tI .u32 v290.xIrs), (tI .u32 v290.xOwn), (tB v290.xStamp)], w34_8, w34_10 v287, dc, dc]
theorem l34_77_t (cp : CP) (n : Nat) : ∀ (m : Nat) (v287 : Bool) (v288 : SRecv) (k : KX R), loopN2 (X cp n i34_24) m (fr34_75 v287 v288) k = l34_77 cp n m v287 v288 (fun v290 => k (.exit 4) (fr34_76 v287 v290))
  | 0, _, _, _ => rfl
  | m + 1, v287, v288, k => (loopN2_succ (X cp n i34_24) m (fr34_75 v287 v288) k).trans ((s34_73_t cp n v287 v288 (loopT (X cp n i34_24) m k)).trans (tq (congrArg (fun q => s34_73 cp n v287 v288 q (k (.exit 4) (fr34_76 v287 v288))) (funext fun v289 => l34_77_t cp n m v287 v289 k)) (by kernel_rfl)))
def fr34_79 : FF := [w34_7, dc, dc, dc, dc, dc, dc, [.hdr 15, (tL v286.xNext), .row true (.ruint8 v286.xUnread), .row false (.rPiece v286.xLate), (tL v286.xCap), (tL v286.xShift), (tL v286.xEdge), (tI .u32 v286.xRecent), (tB v286.xStamps), (tB v286.xSacks), (tL v286.xFin), (tB v286.xDone), .row true (.rSpan v286.xFirst), (tI .u32 v286.xIrs), (tI .u32 v286.xOwn), (tB v286.xStamp)], w34_8, w34_10 v287, dc, dc]
theorem s34_78_t : X cp n i34_25 (fr34_79 v286 v287) k = s34_78 cp n v286 v287 (fun v290 => k (.exit 4) (fr34_76 v287 v290)) := tq (l34_77_t cp n n v287 v286 k) (by kernel_rfl)
theorem s34_80_t : X cp n i34_26 (fr34_71 v286 v287) k = s34_80 cp n v286 v287 (fun v290 => k (.exit 4) (fr34_76 v287 v290)) := tq (s34_78_t cp n v286 v287 k) (by kernel_rfl)
def fr34_81 : FF := [w34_7, dc, dc, dc, dc, dc, dc, [.hdr 15, (tL v291.xNext), .row true (.ruint8 v291.xUnread), .row false (.rPiece v291.xLate), (tL v291.xCap), (tL v291.xShift), (tL v291.xEdge), (tI .u32 v291.xRecent), (tB v291.xStamps), (tB v291.xSacks), (tL v291.xFin), (tB v291.xDone), .row true (.rSpan v291.xFirst), (tI .u32 v291.xIrs), (tI .u32 v291.xOwn), (tB v291.xStamp)], w34_8, w34_10 v287, dc, dc]
theorem s34_82_t : X cp n i34_27 (fr34_71 v286 v287) k = s34_82 cp n v286 v287 (fun v291 => k .norm (fr34_81 v287 v291)) := tq ((s34_80_t cp n v286 v287 (blkT 4 k)).trans (by kernel_rfl)) (by kernel_rfl)
def w34_11 : Fr := dT 6 ((.ptr 132 0) :: (tB v287) :: (dT 8 []))
def fr34_84 : FF := [w34_11 v287, dc, dc, dc, dc, dc, dc, dc, dT 4 ([.hdr 15, (tL v291.xNext), .row true (.ruint8 v291.xUnread), .row false (.rPiece v291.xLate), (tL v291.xCap), (tL v291.xShift), (tL v291.xEdge), (tI .u32 v291.xRecent), (tB v291.xStamps), (tB v291.xSacks), (tL v291.xFin), (tB v291.xDone)]), (.row true (.rSpan v291.xFirst)) :: (tI .u32 v291.xIrs) :: (tI .u32 v291.xOwn) :: (tB v291.xStamp) :: (dT 12 []), dc, dc]
theorem s34_83_t : X cp n i34_28 (fr34_81 v287 v291) k = s34_83 cp n v287 v291 (k .ret (fr34_84 v287 v291)) := by kernel_rfl
def fr34_85 : FF := [w34_11 v287, dc, dc, dc, dc, dc, dc, dc, dT 4 ([.hdr 15, (tL v292.xNext), .row true (.ruint8 v292.xUnread), .row false (.rPiece v292.xLate), (tL v292.xCap), (tL v292.xShift), (tL v292.xEdge), (tI .u32 v292.xRecent), (tB v292.xStamps), (tB v292.xSacks), (tL v292.xFin), (tB v292.xDone)]), (.row true (.rSpan v292.xFirst)) :: (tI .u32 v292.xIrs) :: (tI .u32 v292.xOwn) :: (tB v292.xStamp) :: (dT 12 []), dc, dc]
theorem s34_86_t : X cp n i34_29 (fr34_71 v286 v287) k = s34_86 cp n v286 v287 (fun v292 => k .ret (fr34_85 v287 v292)) := tq (tq (congrArg (fun q => s34_82 cp n v286 v287 q) (funext fun v291 => (s34_83_t cp n v287 v291 k).trans (show _ = s34_83 cp n v287 v291 (k .ret (fr34_85 v287 v291)) from by kernel_rfl))) ((s34_82_t cp n v286 v287 (seqT (X cp n) i34_28 k)).trans (by kernel_rfl))) (by kernel_rfl)
def fr34_87 : FF := [dT 6 ((.ptr 132 0) :: (tB v293) :: (dT 8 [])), dc, dc, dc, dc, dc, dc, dc, dT 4 ([.hdr 15, (tL v294.xNext), .row true (.ruint8 v294.xUnread), .row false (.rPiece v294.xLate), (tL v294.xCap), (tL v294.xShift), (tL v294.xEdge), (tI .u32 v294.xRecent), (tB v294.xStamps), (tB v294.xSacks), (tL v294.xFin), (tB v294.xDone)]), (.row true (.rSpan v294.xFirst)) :: (tI .u32 v294.xIrs) :: (tI .u32 v294.xOwn) :: (tB v294.xStamp) :: (dT 12 []), dc, dc]
theorem s34_88_t : X cp n i34_30 (fr34_52 p0 p1 p2 v232 v258) k = s34_88 cp n p0 p1 p2 v232 v258 (fun v293 v294 => k .ret (fr34_87 v293 v294)) := tq (tq (congrArg (fun q => s34_72 cp n p0 p1 p2 v232 v258 q) (funext fun v286 => funext fun v287 => (s34_86_t cp n v286 v287 k).trans (show _ = s34_86 cp n v286 v287 (fun v292 => k .ret (fr34_87 v287 v292)) from by kernel_rfl))) ((s34_72_t cp n p0 p1 p2 v232 v258 (seqT (X cp n) i34_29 k)).trans (by kernel_rfl))) (by kernel_rfl)
def fr34_89 : FF := [dT 6 ((.ptr 132 0) :: (tB v295) :: (dT 8 [])), dc, dc, dc, dc, dc, dc, dc, dT 4 ([.hdr 15, (tL v296.xNext), .row true (.ruint8 v296.xUnread), .row false (.rPiece v296.xLate), (tL v296.xCap), (tL v296.xShift), (tL v296.xEdge), (tI .u32 v296.xRecent), (tB v296.xStamps), (tB v296.xSacks), (tL v296.xFin), (tB v296.xDone)]), (.row true (.rSpan v296.xFirst)) :: (tI .u32 v296.xIrs) :: (tI .u32 v296.xOwn) :: (tB v296.xStamp) :: (dT 12 []), dc, dc]
theorem s34_90_t : X cp n i34_31 (fr34_49 p0 p1 p2 v232 v258) k = s34_90 cp n p0 p1 p2 v232 v258 (fun v295 v296 => k .ret (fr34_89 v295 v296)) := ch (fun q => s34_51 cp n p0 p1 p2 v232 v258 q) (fun c => X cp n c (fr34_52 p0 p1 p2 v232 v258) k) i34_30 (fun c => X cp n (.seq (.reg g34_8) (.seq (.fin (.reg g34_9) [5, 37] []) c)) (fr34_49 p0 p1 p2 v232 v258) k) (fun c => by kernel_rfl) ((s34_88_t cp n p0 p1 p2 v232 v258 k).trans (show _ = s34_88 cp n p0 p1 p2 v232 v258 (fun v293 v294 => k .ret (fr34_89 v293 v294)) from by kernel_rfl)) (by kernel_rfl) (by kernel_rfl)
def fr34_91 : FF := [dT 6 ((.ptr 132 0) :: (tB v297) :: (dT 8 [])), dc, dc, dc, dc, dc, dc, dc, dT 4 ([.hdr 15, (tL v298.xNext), .row true (.ruint8 v298.xUnread), .row false (.rPiece v298.xLate), (tL v298.xCap), (tL v298.xShift), (tL v298.xEdge), (tI .u32 v298.xRecent), (tB v298.xStamps), (tB v298.xSacks), (tL v298.xFin), (tB v298.xDone)]), (.row true (.rSpan v298.xFirst)) :: (tI .u32 v298.xIrs) :: (tI .u32 v298.xOwn) :: (tB v298.xStamp) :: (dT 12 []), dc, dc]
theorem s34_92_t : X cp n i34_32 (fr34_2 p0 p1 p2 v232) k = s34_92 cp n p0 p1 p2 v232 (fun v297 v298 => k .ret (fr34_91 v297 v298)) := tq (tq (congrArg (fun q => s34_50 cp n p0 p1 p2 v232 q) (funext fun v258 => (s34_90_t cp n p0 p1 p2 v232 v258 k).trans (show _ = s34_90 cp n p0 p1 p2 v232 v258 (fun v295 v296 => k .ret (fr34_91 v295 v296)) from by kernel_rfl))) ((s34_50_t cp n p0 p1 p2 v232 (seqT (X cp n) i34_31 k)).trans (by kernel_rfl))) (by kernel_rfl)
def fr34_93 : FF := [dT 6 ((.ptr 132 0) :: (tB v299) :: (dT 8 [])), dc, dc, dc, dc, dc, dc, dc, dT 4 ([.hdr 15, (tL v300.xNext), .row true (.ruint8 v300.xUnread), .row false (.rPiece v300.xLate), (tL v300.xCap), (tL v300.xShift), (tL v300.xEdge), (tI .u32 v300.xRecent), (tB v300.xStamps), (tB v300.xSacks), (tL v300.xFin), (tB v300.xDone)]), (.row true (.rSpan v300.xFirst)) :: (tI .u32 v300.xIrs) :: (tI .u32 v300.xOwn) :: (tB v300.xStamp) :: (dT 12 []), dc, dc]
def fr34_95 : FF := [(.agg (eRecvt p0)) :: (tL p1) :: (.row false (.ruint8 p2)) :: (dT 13 []), dc, dc, dc, dc, dc, dc, dc, dc, dc, dc, dc]
theorem s34_94_t : X cp n i34_33 (fr34_95 p0 p1 p2) k = s34_94 cp n p0 p1 p2 (fun v299 v300 => k .ret (fr34_93 v299 v300)) := ch (fun q => s34_1 cp n p0 p1 p2 q) (fun c v232 => X cp n c (fr34_2 p0 p1 p2 v232) k) i34_32 (fun c => X cp n (.seq (.fin (.reg g34_0) [0, 1, 2, 7] []) (.seq (.fin (.reg g34_1) [16, 17, 18, 19, 20, 21, 22] []) (.seq (.seq (.fin (.reg g34_2) [23, 24] []) (.fin (.cond (.s 25) (.fin (.reg g34_3) [25, 26, 27, 28, 29] []) i34_21) [25] [])) (.seq (.reg g34_4) c)))) (fr34_95 p0 p1 p2) k) (fun c => by kernel_rfl) (funext fun v232 => (s34_92_t cp n p0 p1 p2 v232 k).trans (show _ = s34_92 cp n p0 p1 p2 v232 (fun v297 v298 => k .ret (fr34_93 v297 v298)) from by kernel_rfl)) (by kernel_rfl) (by kernel_rfl)
theorem run34 (cp : CP) (n : Nat) (p0 : SRecv) (p1 : Int) (p2 : (List Int)) (k : Ret2 RW → Option R) : G34 cp (n + 1) p0 p1 p2 (fun r0 r1 => k ⟨.tup [.agg [(tL r0.xNext), .row true (.ruint8 r0.xUnread), .row false (.rPiece r0.xLate), (tL r0.xCap), (tL r0.xShift), (tL r0.xEdge), (tI .u32 r0.xRecent), (tB r0.xStamps), (tB r0.xSacks), (tL r0.xFin), (tB r0.xDone), .row true (.rSpan r0.xFirst), (tI .u32 r0.xIrs), (tI .u32 r0.xOwn), (tB r0.xStamp)], (tB r1)], [], []⟩) = run2 U cp (callP cp n) n fn34 [.agg (eRecvt p0), (tL p1), .row false (.ruint8 p2)] [] k := ((X_run (f := fn34) (av := [.agg (eRecvt p0), (tL p1), .row false (.ruint8 p2)]) (cells := []) (code := i34_33) (fr := (fr34_95 p0 p1 p2)) (k := k) (by kernel_rfl) (fun K => by kernel_rfl)).trans ((s34_94_t cp n p0 p1 p2 (finK2 fn34 k)).trans (by kernel_rfl))).symm
end
/-! tideway/recv.firsts$1 -/
section
variable (cp : CP) (n : Nat) (k : KX R)
theorem run1059 (cp : CP) (n : Nat) (p0 q0 : SSpan) (k : Ret2 RW → Option R) : G1059 cp (n + 1) p0 q0 (fun r0 r1 => k ⟨(tB r0), [(eSpan r1)], []⟩) = run2 U cp (callP cp n) n fn1059 [.agg (eSpan p0), .ptr 16 0] [(eSpan q0)] k := by kernel_rfl
end
/-! slices.IndexFunc[[]tideway/api.Span,tideway/api.Span] -/
section
variable (cp : CP) (n : Nat) (p0 : (List SSpan)) (q0 : SSpan) (v318 v319 v320 v321 v324 v325 v326 v327 v328 v329 v330 v331 v332 v333 v334 v335 v336 v337 v338 v339 v340 v341 v342 v343 v344 v345 v346 v347 v348 v349 : Int) (k : KX R)
def w1058_0 : Fr := dT 3 ((.hdr 2) :: ((eSpan q0) ++ (dT 10 [])))
def fr1058_2 : FF := [(.row false (.rSpan p0)) :: (.clo 63 [(19, 0)]) :: (dT 14 []), w1058_0 q0]
def fr1058_4 : FF := [(.row false (.rSpan p0)) :: (.clo 63 [(19, 0)]) :: (dT 5 ((tL v318) :: (tL 0) :: (dT 7 []))), w1058_0 q0]
def fr1058_6 : FF := [(.row false (.rSpan p0)) :: (.clo 63 [(19, 0)]) :: (dT 5 ((tL v318) :: (tL v324) :: (dT 7 []))), dT 3 ((.hdr 2) :: (tL v325) :: (tL v326) :: (dT 10 []))]
def fr1058_7 : FF := [dT 4 ((tL v319) :: (dT 11 [])), dT 3 ((.hdr 2) :: (tL v327) :: (tL v328) :: (dT 10 []))]
def w1058_1 : Fr := dT 3 ((.hdr 2) :: (tL v320) :: (tL v321) :: (dT 10 []))
def fr1058_8 : FF := [dc, w1058_1 v320 v321]
def fr1058_9 : FF := [(.row false (.rSpan p0)) :: (.clo 63 [(19, 0)]) :: (dT 5 ((tL v318) :: (tL v319) :: (dT 7 []))), w1058_1 v320 v321]
theorem s1058_5_t : X cp n i1058_0 (fr1058_9 p0 v318 v319 v320 v321) k = s1058_5 cp n p0 v318 v319 v320 v321 (fun v324 v325 v326 => k .norm (fr1058_6 p0 v318 v324 v325 v326)) (fun v327 v328 => k .ret (fr1058_7 v319 v327 v328)) (k (.exit 0) (fr1058_8 v320 v321)) := by kernel_rfl
def fr1058_10 : FF := [dT 4 ((tL v329) :: (dT 11 [])), dT 3 ((.hdr 2) :: (tL v330) :: (tL v331) :: (dT 10 []))]
def fr1058_11 : FF := [dc, dT 3 ((.hdr 2) :: (tL v332) :: (tL v333) :: (dT 10 []))]
theorem l1058_12_t (cp : CP) (n : Nat) : ∀ (m : Nat) (p0 : (List SSpan)) (v318 v319 v320 v321 : Int) (k : KX R), loopN2 (X cp n i1058_0) m (fr1058_9 p0 v318 v319 v320 v321) k = l1058_12 cp n m p0 v318 v319 v320 v321 (fun v329 v330 v331 => k .ret (fr1058_10 v329 v330 v331)) (fun v332 v333 => k (.exit 0) (fr1058_11 v332 v333))
  | 0, _, _, _, _, _, _ => rfl
  | m + 1, p0, v318, v319, v320, v321, k => (loopN2_succ (X cp n i1058_0) m (fr1058_9 p0 v318 v319 v320 v321) k).trans ((s1058_5_t cp n p0 v318 v319 v320 v321 (loopT (X cp n i1058_0) m k)).trans (tq (congrArg (fun q => s1058_5 cp n p0 v318 v319 v320 v321 q (fun v327 v328 => k .ret (fr1058_10 v319 v327 v328)) (k (.exit 0) (fr1058_11 v320 v321))) (funext fun v324 => funext fun v325 => funext fun v326 => l1058_12_t cp n m p0 v318 v324 v325 v326 k)) (by kernel_rfl)))
theorem s1058_13_t : X cp n i1058_1 (fr1058_4 p0 q0 v318) k = s1058_13 cp n p0 q0 v318 (fun v329 v330 v331 => k .ret (fr1058_10 v329 v330 v331)) (fun v332 v333 => k (.exit 0) (fr1058_11 v332 v333)) := tq (l1058_12_t cp n n p0 v318 0 q0.xFrom q0.xTo k) (by kernel_rfl)
def fr1058_14 : FF := [dc, dT 3 ((.hdr 2) :: (tL v334) :: (tL v335) :: (dT 10 []))]
def fr1058_15 : FF := [dT 4 ((tL v336) :: (dT 11 [])), dT 3 ((.hdr 2) :: (tL v337) :: (tL v338) :: (dT 10 []))]
theorem s1058_16_t : X cp n i1058_2 (fr1058_4 p0 q0 v318) k = s1058_16 cp n p0 q0 v318 (fun v334 v335 => k .norm (fr1058_14 v334 v335)) (fun v336 v337 v338 => k .ret (fr1058_15 v336 v337 v338)) := tq ((s1058_13_t cp n p0 q0 v318 (blkT 0 k)).trans (by kernel_rfl)) (by kernel_rfl)
def w1058_2 : Fr := dT 3 ((.hdr 2) :: (tL v339) :: (tL v340) :: (dT 10 []))
def fr1058_17 : FF := [dc, w1058_2 v339 v340]
def fr1058_18 : FF := [dT 4 ((tL v341) :: (dT 11 [])), dT 3 ((.hdr 2) :: (tL v342) :: (tL v343) :: (dT 10 []))]
theorem s1058_19_t : X cp n i1058_3 (fr1058_2 p0 q0) k = s1058_19 cp n p0 q0 (fun v339 v340 => k .norm (fr1058_17 v339 v340)) (fun v341 v342 v343 => k .ret (fr1058_18 v341 v342 v343)) := ch (fun q => s1058_3 cp n p0 q0 q) (fun c v318 => X cp n c (fr1058_4 p0 q0 v318) k) i1058_2 (fun c => X cp n (.seq (.fin (.reg g1058_1) [6] []) c) (fr1058_2 p0 q0) k) (fun c => by kernel_rfl) (funext fun v318 => (s1058_16_t cp n p0 q0 v318 k).trans (show _ = s1058_16 cp n p0 q0 v318 (fun v334 v335 => k .norm (fr1058_17 v334 v335)) (fun v336 v337 v338 => k .ret (fr1058_18 v336 v337 v338)) from by kernel_rfl)) (by kernel_rfl) (by kernel_rfl)
def fr1058_21 : FF := [dT 4 ((tL (-1)) :: (dT 11 [])), w1058_2 v339 v340]
theorem s1058_20_t : X cp n i1058_4 (fr1058_17 v339 v340) k = s1058_20 cp n v339 v340 (k .ret (fr1058_21 v339 v340)) := by kernel_rfl
def fr1058_22 : FF := [dT 4 ((tL v344) :: (dT 11 [])), dT 3 ((.hdr 2) :: (tL v345) :: (tL v346) :: (dT 10 []))]
theorem s1058_23_t : X cp n i1058_5 (fr1058_2 p0 q0) k = s1058_23 cp n p0 q0 (fun v344 v345 v346 => k .ret (fr1058_22 v344 v345 v346)) := tq (tq (congrArg (fun q => s1058_19 cp n p0 q0 q (fun v341 v342 v343 => k .ret (fr1058_22 v341 v342 v343))) (funext fun v339 => funext fun v340 => (s1058_20_t cp n v339 v340 k).trans (show _ = s1058_20 cp n v339 v340 (k .ret (fr1058_22 (-1) v339 v340)) from by kernel_rfl))) ((s1058_19_t cp n p0 q0 (seqT (X cp n) i1058_4 k)).trans (by kernel_rfl))) (by kernel_rfl)
def fr1058_24 : FF := [dT 4 ((tL v347) :: (dT 11 [])), dT 3 ((.hdr 2) :: (tL v348) :: (tL v349) :: (dT 10 []))]
theorem s1058_25_t : X cp n i1058_6 (fr1058_2 p0 q0) k = s1058_25 cp n p0 q0 (fun v347 v348 v349 => k .ret (fr1058_24 v347 v348 v349)) := ch (fun q => s1058_1 cp n p0 q0 q) (fun c => X cp n c (fr1058_2 p0 q0) k) i1058_5 (fun c => X cp n (.seq (.fin (.reg g1058_0) [4] []) c) (fr1058_2 p0 q0) k) (fun c => by kernel_rfl) ((s1058_23_t cp n p0 q0 k).trans (show _ = s1058_23 cp n p0 q0 (fun v344 v345 v346 => k .ret (fr1058_24 v344 v345 v346)) from by kernel_rfl)) (by kernel_rfl) (by kernel_rfl)
theorem run1058 (cp : CP) (n : Nat) (p0 : (List SSpan)) (q0 : SSpan) (k : Ret2 RW → Option R) : G1058 cp (n + 1) p0 q0 (fun r0 r1 => k ⟨(tL r0), [(eSpan r1)], []⟩) = run2 U cp (callP cp n) n fn1058 [.row false (.rSpan p0), .clo 63 [(19, 0)]] [(eSpan q0)] k := ((X_run (f := fn1058) (av := [.row false (.rSpan p0), .clo 63 [(19, 0)]]) (cells := [(eSpan q0)]) (code := i1058_6) (fr := (fr1058_2 p0 q0)) (k := k) (by kernel_rfl) (fun K => by kernel_rfl)).trans ((s1058_25_t cp n p0 q0 (finK2 fn1058 k)).trans (by kernel_rfl))).symm
end
/-! tideway/recv.firsts -/
section
variable (cp : CP) (n : Nat) (p0 : SRecv) (p1 : Int) (p2 : (List Int)) (v309 : (List SSpan)) (v310 v311 v312 : Int) (v313 v314 v315 v316 : (List SSpan)) (v317 : Int) (v318 : (List SSpan)) (v319 : Int) (v323 : (List SSpan)) (v324 : Int) (v325 v326 v327 v328 v329 v330 v331 : (List SSpan)) (k : KX R)
def fr35_2 : FF := [dT 1 ((tL p1) :: (.row false (.ruint8 p2)) :: (dT 4 ((.row false (.rSpan v309)) :: (.row false (.rSpan p0.xFirst)) :: (dT 7 [])))), dc, dc, dc, dc, dc, dc, dc]
def fr35_4 : FF := [dT 1 ((tL p1) :: (.row false (.ruint8 p2)) :: (dT 4 ((.row false (.rSpan v309)) :: (.row false (.rSpan p0.xFirst)) :: (tL v310) :: (dT 6 [])))), dc, dc, dc, dc, dc, dc, dc]
def fr35_6 : FF := [dT 1 ((tL p1) :: (.row false (.ruint8 p2)) :: (dT 4 ((.row false (.rSpan v309)) :: (.row false (.rSpan p0.xFirst)) :: (tL v312) :: (dT 6 [])))), dc, dc, dc, dc, dc, dc, dc]
def fr35_7 : FF := [dT 7 ((.row false (.rSpan v309)) :: (.row false (.rSpan v313)) :: (dT 7 [])), dc, dc, dc, dc, dc, dc, dc]
def fr35_8 : FF := [dT 1 ((tL p1) :: (.row false (.ruint8 p2)) :: (dT 4 ((.row false (.rSpan v309)) :: (.row false (.rSpan p0.xFirst)) :: (tL v311) :: (dT 6 [])))), dc, dc, dc, dc, dc, dc, dc]
theorem s35_5_t : X cp n i35_0 (fr35_8 p0 p1 p2 v309 v311) k = s35_5 cp n p0 p1 p2 v309 v311 (fun v312 => k .norm (fr35_6 p0 p1 p2 v309 v312)) (fun v313 => k (.exit 0) (fr35_7 v309 v313)) := by kernel_rfl
def fr35_9 : FF := [dT 7 ((.row false (.rSpan v309)) :: (.row false (.rSpan v314)) :: (dT 7 [])), dc, dc, dc, dc, dc, dc, dc]
theorem l35_10_t (cp : CP) (n : Nat) : ∀ (m : Nat) (p0 : SRecv) (p1 : Int) (p2 : (List Int)) (v309 : (List SSpan)) (v311 : Int) (k : KX R), loopN2 (X cp n i35_0) m (fr35_8 p0 p1 p2 v309 v311) k = l35_10 cp n m p0 p1 p2 v309 v311 (fun v314 => k (.exit 0) (fr35_9 v309 v314))
  | 0, _, _, _, _, _, _ => rfl
  | m + 1, p0, p1, p2, v309, v311, k => (loopN2_succ (X cp n i35_0) m (fr35_8 p0 p1 p2 v309 v311) k).trans ((s35_5_t cp n p0 p1 p2 v309 v311 (loopT (X cp n i35_0) m k)).trans (tq (congrArg (fun q => s35_5 cp n p0 p1 p2 v309 v311 q (fun v313 => k (.exit 0) (fr35_9 v309 v313))) (funext fun v312 => l35_10_t cp n m p0 p1 p2 v309 v312 k)) (by kernel_rfl)))
theorem s35_11_t : X cp n i35_1 (fr35_4 p0 p1 p2 v309 v310) k = s35_11 cp n p0 p1 p2 v309 v310 (fun v314 => k (.exit 0) (fr35_9 v309 v314)) := tq (l35_10_t cp n n p0 p1 p2 v309 v310 k) (by kernel_rfl)
def fr35_12 : FF := [dT 7 ((.row false (.rSpan v309)) :: (.row false (.rSpan v315)) :: (dT 7 [])), dc, dc, dc, dc, dc, dc, dc]
theorem s35_13_t : X cp n i35_2 (fr35_4 p0 p1 p2 v309 v310) k = s35_13 cp n p0 p1 p2 v309 v310 (fun v315 => k .norm (fr35_12 v309 v315)) := tq ((s35_11_t cp n p0 p1 p2 v309 v310 (blkT 0 k)).trans (by kernel_rfl)) (by kernel_rfl)
def fr35_14 : FF := [dT 7 ((.row false (.rSpan v309)) :: (.row false (.rSpan v316)) :: (dT 7 [])), dc, dc, dc, dc, dc, dc, dc]
theorem s35_15_t : X cp n i35_3 (fr35_2 p0 p1 p2 v309) k = s35_15 cp n p0 p1 p2 v309 (fun v316 => k .norm (fr35_14 v309 v316)) := ch (fun q => s35_3 cp n p0 p1 p2 v309 q) (fun c v310 => X cp n c (fr35_4 p0 p1 p2 v309 v310) k) i35_2 (fun c => X cp n (.seq (.fin (.reg g35_3) [19, 20, 21] []) c) (fr35_2 p0 p1 p2 v309) k) (fun c => by kernel_rfl) (funext fun v310 => (s35_13_t cp n p0 p1 p2 v309 v310 k).trans (show _ = s35_13 cp n p0 p1 p2 v309 v310 (fun v315 => k .norm (fr35_14 v309 v315)) from by kernel_rfl)) (by kernel_rfl) (by kernel_rfl)
def fr35_17 : FF := [dT 7 ((.row false (.rSpan v309)) :: (.row false (.rSpan v316)) :: (dT 1 ((.row true (.rSpan [])) :: (dT 5 [])))), dc, dc, dc, dc, dc, dc, dc]
def fr35_19 : FF := [dT 7 ((.row false (.rSpan v309)) :: (dT 2 ((.row true (.rSpan [])) :: (dT 5 [])))), dc, dc, dT 9 ((.row false (.rSpan v316)) :: (tL v317) :: (tL 0) :: (dT 4 [])), dc, dc, dc, dc]
def fr35_21 : FF := [dT 7 ((.row false (.rSpan v309)) :: (dT 2 ((.row true (.rSpan v323)) :: (dT 5 [])))), dc, dc, dT 9 ((.row false (.rSpan v316)) :: (tL v317) :: (tL v324) :: (dT 4 [])), dc, dc, dc, dc]
def fr35_22 : FF := [dT 10 ((.row true (.rSpan v318)) :: (dT 5 [])), dc, dc, dc, dc, dc, dc, dc]
def fr35_23 : FF := [dT 7 ((.row false (.rSpan v309)) :: (dT 2 ((.row true (.rSpan v318)) :: (dT 5 [])))), dc, dc, dT 9 ((.row false (.rSpan v316)) :: (tL v317) :: (tL v319) :: (dT 4 [])), dc, dc, dc, dc]
theorem s35_20_t : X cp n i35_4 (fr35_23 v309 v316 v317 v318 v319) k = s35_20 cp n v309 v316 v317 v318 v319 (fun v323 v324 => k .norm (fr35_21 v309 v316 v317 v323 v324)) (k (.exit 2) (fr35_22 v318)) := by kernel_rfl
def fr35_24 : FF := [dT 10 ((.row true (.rSpan v325)) :: (dT 5 [])), dc, dc, dc, dc, dc, dc, dc]
theorem l35_25_t (cp : CP) (n : Nat) : ∀ (m : Nat) (v309 v316 : (List SSpan)) (v317 : Int) (v318 : (List SSpan)) (v319 : Int) (k : KX R), loopN2 (X cp n i35_4) m (fr35_23 v309 v316 v317 v318 v319) k = l35_25 cp n m v309 v316 v317 v318 v319 (fun v325 => k (.exit 2) (fr35_24 v325))
  | 0, _, _, _, _, _, _ => rfl
  | m + 1, v309, v316, v317, v318, v319, k => (loopN2_succ (X cp n i35_4) m (fr35_23 v309 v316 v317 v318 v319) k).trans ((s35_20_t cp n v309 v316 v317 v318 v319 (loopT (X cp n i35_4) m k)).trans (tq (congrArg (fun q => s35_20 cp n v309 v316 v317 v318 v319 q (k (.exit 2) (fr35_24 v318))) (funext fun v323 => funext fun v324 => l35_25_t cp n m v309 v316 v317 v323 v324 k)) (by kernel_rfl)))
theorem s35_26_t : X cp n i35_5 (fr35_19 v309 v316 v317) k = s35_26 cp n v309 v316 v317 (fun v325 => k (.exit 2) (fr35_24 v325)) := tq (l35_25_t cp n n v309 v316 v317 [] 0 k) (by kernel_rfl)
def fr35_27 : FF := [dT 10 ((.row true (.rSpan v326)) :: (dT 5 [])), dc, dc, dc, dc, dc, dc, dc]
theorem s35_28_t : X cp n i35_6 (fr35_19 v309 v316 v317) k = s35_28 cp n v309 v316 v317 (fun v326 => k .norm (fr35_27 v326)) := tq ((s35_26_t cp n v309 v316 v317 (blkT 2 k)).trans (by kernel_rfl)) (by kernel_rfl)
def fr35_29 : FF := [dT 10 ((.row true (.rSpan v327)) :: (dT 5 [])), dc, dc, dc, dc, dc, dc, dc]
theorem s35_30_t : X cp n i35_7 (fr35_17 v309 v316) k = s35_30 cp n v309 v316 (fun v327 => k .norm (fr35_29 v327)) := ch (fun q => s35_18 cp n v309 v316 q) (fun c v317 => X cp n c (fr35_19 v309 v316 v317) k) i35_6 (fun c => X cp n (.seq (.fin (.reg g35_9) [8] []) c) (fr35_17 v309 v316) k) (fun c => by kernel_rfl) (funext fun v317 => (s35_28_t cp n v309 v316 v317 k).trans (show _ = s35_28 cp n v309 v316 v317 (fun v326 => k .norm (fr35_29 v326)) from by kernel_rfl)) (by kernel_rfl) (by kernel_rfl)
def fr35_32 : FF := [dT 6 ((.row true (.rSpan v327)) :: (dT 9 [])), dc, dc, dc, dc, dc, dc, dc]
theorem s35_31_t : X cp n i35_8 (fr35_29 v327) k = s35_31 cp n v327 (k .ret (fr35_32 v327)) := by kernel_rfl
def fr35_33 : FF := [dT 6 ((.row true (.rSpan v328)) :: (dT 9 [])), dc, dc, dc, dc, dc, dc, dc]
theorem s35_34_t : X cp n i35_9 (fr35_17 v309 v316) k = s35_34 cp n v309 v316 (fun v328 => k .ret (fr35_33 v328)) := tq (tq (congrArg (fun q => s35_30 cp n v309 v316 q) (funext fun v327 => (s35_31_t cp n v327 k).trans (show _ = s35_31 cp n v327 (k .ret (fr35_33 v327)) from by kernel_rfl))) ((s35_30_t cp n v309 v316 (seqT (X cp n) i35_8 k)).trans (by kernel_rfl))) (by kernel_rfl)
def fr35_35 : FF := [dT 6 ((.row true (.rSpan v329)) :: (dT 9 [])), dc, dc, dc, dc, dc, dc, dc]
theorem s35_36_t : X cp n i35_10 (fr35_14 v309 v316) k = s35_36 cp n v309 v316 (fun v329 => k .ret (fr35_35 v329)) := ch (fun q => s35_16 cp n v309 v316 q) (fun c => X cp n c (fr35_17 v309 v316) k) i35_9 (fun c => X cp n (.seq (.reg g35_8) c) (fr35_14 v309 v316) k) (fun c => by kernel_rfl) ((s35_34_t cp n v309 v316 k).trans (show _ = s35_34 cp n v309 v316 (fun v328 => k .ret (fr35_35 v328)) from by kernel_rfl)) (by kernel_rfl) (by kernel_rfl)
def fr35_37 : FF := [dT 6 ((.row true (.rSpan v330)) :: (dT 9 [])), dc, dc, dc, dc, dc, dc, dc]
theorem s35_38_t : X cp n i35_11 (fr35_2 p0 p1 p2 v309) k = s35_38 cp n p0 p1 p2 v309 (fun v330 => k .ret (fr35_37 v330)) := tq (tq (congrArg (fun q => s35_15 cp n p0 p1 p2 v309 q) (funext fun v316 => (s35_36_t cp n v309 v316 k).trans (show _ = s35_36 cp n v309 v316 (fun v329 => k .ret (fr35_37 v329)) from by kernel_rfl))) ((s35_15_t cp n p0 p1 p2 v309 (seqT (X cp n) i35_10 k)).trans (by kernel_rfl))) (by kernel_rfl)
def fr35_39 : FF := [dT 6 ((.row true (.rSpan v331)) :: (dT 9 [])), dc, dc, dc, dc, dc, dc, dc]
def fr35_41 : FF := [(.agg (eRecv p0)) :: (tL p1) :: (.row false (.ruint8 p2)) :: (dT 13 []), dc, dc, dc, dc, dc, dc, dc]
theorem s35_40_t : X cp n i35_12 (fr35_41 p0 p1 p2) k = s35_40 cp n p0 p1 p2 (fun v331 => k .ret (fr35_39 v331)) := ch (fun q => s35_1 cp n p0 p1 p2 q) (fun c v309 => X cp n c (fr35_2 p0 p1 p2 v309) k) i35_11 (fun c => X cp n (.seq (.fin (.reg g35_0) [0, 6] []) (.seq (.fin (.reg g35_1) [14, 15, 16] [(105, 15)]) (.seq (.fin (.reg g35_2) [3, 17, 18] [(86, 15)]) c))) (fr35_41 p0 p1 p2) k) (fun c => by kernel_rfl) (funext fun v309 => (s35_38_t cp n p0 p1 p2 v309 k).trans (show _ = s35_38 cp n p0 p1 p2 v309 (fun v330 => k .ret (fr35_39 v330)) from by kernel_rfl)) (by kernel_rfl) (by kernel_rfl)
theorem run35 (cp : CP) (n : Nat) (p0 : SRecv) (p1 : Int) (p2 : (List Int)) (k : Ret2 RW → Option R) : G35 cp (n + 1) p0 p1 p2 (fun r0 => k ⟨.row true (.rSpan r0), [], []⟩) = run2 U cp (callP cp n) n fn35 [.agg (eRecv p0), (tL p1), .row false (.ruint8 p2)] [] k := ((X_run (f := fn35) (av := [.agg (eRecv p0), (tL p1), .row false (.ruint8 p2)]) (cells := []) (code := i35_12) (fr := (fr35_41 p0 p1 p2)) (k := k) (by kernel_rfl) (fun K => by kernel_rfl)).trans ((s35_40_t cp n p0 p1 p2 (finK2 fn35 k)).trans (by kernel_rfl))).symm
end
/-! tideway/recv.Input -/
section
variable (cp : CP) (n : Nat) (p0 : SRecv) (p1 : SSegment) (v79 : Int) (v80 : SRecv) (v81 : Int) (v82 v86 : SRecv) (v87 : SSegment) (v88 : Int) (v89 v101 : Bool) (v102 : SRecv) (v105 : (List SSpan)) (v107 : (List SBlock)) (v110 : SRecv) (v111 : SSegment) (v112 : SRecv) (v113 : SSegment) (v114 : SRecv) (v115 : SSegment) (v116 : SRecv) (v117 : SSegment) (v118 : SRecv) (v119 : SSegment) (v120 : SRecv) (v121 : SSegment) (v122 : Bool) (v123 : Int) (v124 : SRecv) (v125 : SSegment) (k : KX R)
def w12_0 : Fr := dT 2 ((.ptr 140 0) :: (.ptr 156 0) :: (.ptr 172 0) :: (.ptr 188 0) :: (dT 3 ((tL v79) :: (dT 6 []))))
def w12_1 : Fr := sl 3 12 (eSegment p1) ++ [.hdr 15, (tL 0), .row false (.ruint8 []), .row false (.rPiece [])]
def w12_2 : Fr := [(tL 0), (tL 0), (tL 0), (tI .u32 0), (tB false), (tB false), (tL 0), (tB false), .row false (.rSpan []), (tI .u32 0), (tI .u32 0), (tB false), .hdr 15, (tL 0), (tL 0), (tI .u32 0)]
def w12_3 : Fr := (tI .u32 0) :: (tL 0) :: (tL 0) :: (tL 0) :: (tL 0) :: (tL 0) :: (tB false) :: (tB false) :: (tI .u32 0) :: (tI .u32 0) :: (.row false (.rBlock [])) :: (.row false (.ruint8 [])) :: (dT 4 [])
def fr12_2 : FF := [w12_0 v79, dc, dc, dc, dc, dc, dc, dc, dT 12 ((.hdr 15) :: (sl 0 3 (eRecvt v80))), sl 3 12 (eRecvt v80) ++ ((.hdr 15) :: (sl 0 3 (eSegment p1))), w12_1 p1, w12_2, w12_3, dc, dc, dc]
def fr12_3 : FF := [dT 4 ((.ptr 172 0) :: (.ptr 188 0) :: (tB false) :: (tL v81) :: (dT 8 [])), dc, dc, dc, dc, dc, dc, dc, dc, dc, dT 12 ((.hdr 15) :: (sl 0 3 (eRecv v82))), sl 3 12 (eRecv v82) ++ [.hdr 15, (tL 0), (tL 0), (tI .u32 0)], w12_3, dc, dc, dc]
def w12_4 : Fr := dT 4 ((.ptr 172 0) :: (.ptr 188 0) :: (tB true) :: (tL 0) :: (dT 8 []))
def fr12_5 : FF := [w12_4, dc, dc, dc, dc, dc, dc, dc, dc, dc, dT 12 ((.hdr 15) :: (sl 0 3 (eRecv v86))), sl 3 12 (eRecv v86) ++ ((.hdr 15) :: (sl 0 3 (eSegment v87))), sl 3 12 (eSegment v87) ++ (dT 4 []), dc, dc, dc]
def fr12_7 : FF := [w12_0 v79, dc, dc, dc, dc, dc, dc, dc, dT 12 ([.hdr 15, (tL v80.xNext), .row true (.ruint8 v80.xUnread), .row true (.rPiece v80.xLate)]), (tL v80.xCap) :: (tL v80.xShift) :: (tL v80.xEdge) :: (tI .u32 v88) :: (tB v80.xStamps) :: (tB v80.xSacks) :: (tL v80.xFin) :: (tB v80.xDone) :: (.row true (.rSpan v80.xFirst)) :: (tI .u32 v80.xIrs) :: (tI .u32 v80.xOwn) :: (tB v89) :: (.hdr 15) :: (sl 0 3 (eSegment p1)), w12_1 p1, w12_2, w12_3, dc, dc, dc]
def w12_5 : Fr := dT 12 ([.hdr 15, (tL v102.xNext), .row true (.ruint8 v102.xUnread), .row false (.rPiece v102.xLate)])
def fr12_9 : FF := [dT 2 ((.ptr 140 0) :: (.ptr 156 0) :: (.ptr 172 0) :: (.ptr 188 0) :: (dT 3 ((tL v79) :: (dT 2 ((tB v101) :: (dT 3 [])))))), dc, dc, dc, dc, dc, dc, dc, w12_5 v102, (tL v102.xCap) :: (tL v102.xShift) :: (tL v102.xEdge) :: (tI .u32 v102.xRecent) :: (tB v102.xStamps) :: (tB v102.xSacks) :: (tL v102.xFin) :: (tB v102.xDone) :: (.row true (.rSpan v102.xFirst)) :: (tI .u32 v102.xIrs) :: (tI .u32 v102.xOwn) :: (tB v102.xStamp) :: (.hdr 15) :: (sl 0 3 (eSegment p1)), w12_1 p1, w12_2, w12_3, dc, dc, dc]
def fr12_11 : FF := [dT 2 ((.ptr 140 0) :: (.ptr 156 0) :: (.ptr 172 0) :: (.ptr 188 0) :: (dT 3 ((tL v79) :: (dT 2 ((tB v101) :: (.row true (.rBlock [])) :: (dT 2 [])))))), dc, dc, dc, dc, dc, dc, dc, w12_5 v102, (tL v102.xCap) :: (tL v102.xShift) :: (tL v102.xEdge) :: (tI .u32 v102.xRecent) :: (tB v102.xStamps) :: (tB v102.xSacks) :: (tL v102.xFin) :: (tB v102.xDone) :: (.row true (.rSpan v105)) :: (tI .u32 v102.xIrs) :: (tI .u32 v102.xOwn) :: (tB v102.xStamp) :: (.hdr 15) :: (sl 0 3 (eSegment p1)), w12_1 p1, w12_2, w12_3, dc, dc, dc]
def fr12_13 : FF := [dT 2 ((.ptr 140 0) :: (dT 1 ((.ptr 172 0) :: (.ptr 188 0) :: (dT 7 ((.row true (.rBlock v107)) :: (dT 2 [])))))), dc, dc, dc, dc, dc, dc, dc, w12_5 v102, (tL v102.xCap) :: (tL v102.xShift) :: (tL v102.xEdge) :: (tI .u32 v102.xRecent) :: (tB v102.xStamps) :: (tB v102.xSacks) :: (tL v102.xFin) :: (tB v102.xDone) :: (.row true (.rSpan v105)) :: (tI .u32 v102.xIrs) :: (tI .u32 v102.xOwn) :: (tB v102.xStamp) :: (dT 4 []), dT 12 ([.hdr 15, (tL 0), .row false (.ruint8 []), .row false (.rPiece [])]), w12_2, w12_3, dc, dc, dc]
def fr12_15 : FF := [w12_4, dc, dc, dc, dc, dc, dc, dc, dc, dc, dT 12 ((.hdr 15) :: (sl 0 3 (eRecv v110))), sl 3 12 (eRecv v110) ++ ((.hdr 15) :: (sl 0 3 (eSegment v111))), sl 3 12 (eSegment v111) ++ (dT 4 []), dc, dc, dc]
theorem s12_14_t : X cp n i12_0 (fr12_13 v102 v105 v107) k = s12_14 cp n v102 v105 v107 (fun v110 v111 => k .ret (fr12_15 v110 v111)) := by kernel_rfl
def fr12_16 : FF := [w12_4, dc, dc, dc, dc, dc, dc, dc, dc, dc, dT 12 ((.hdr 15) :: (sl 0 3 (eRecv v112))), sl 3 12 (eRecv v112) ++ ((.hdr 15) :: (sl 0 3 (eSegment v113))), sl 3 12 (eSegment v113) ++ (dT 4 []), dc, dc, dc]
theorem s12_17_t : X cp n i12_1 (fr12_11 p1 v79 v101 v102 v105) k = s12_17 cp n p1 v79 v101 v102 v105 (fun v112 v113 => k .ret (fr12_16 v112 v113)) := ch (fun q => s12_12 cp n p1 v79 v101 v102 v105 q) (fun c v107 => X cp n c (fr12_13 v102 v105 v107) k) i12_0 (fun c => X cp n (.seq (.seq (.fin (.reg g12_19) [9, 12, 106, 107, 108, 109, 110, 111, 112, 113, 114, 115, 116, 117, 118, 119, 120] []) (.fin (.cond (.s 121) (.fin (.reg g12_20) [3, 121, 122, 123, 124, 125, 126, 127, 128, 129, 130, 131] [(156, 15)]) (.skip)) [3, 121] [(156, 15)])) c) (fr12_11 p1 v79 v101 v102 v105) k) (fun c => by kernel_rfl) (funext fun v107 => (s12_14_t cp n v102 v105 v107 k).trans (show _ = s12_14 cp n v102 v105 v107 (fun v110 v111 => k .ret (fr12_16 v110 v111)) from by kernel_rfl)) (by kernel_rfl) (by kernel_rfl)
def fr12_18 : FF := [w12_4, dc, dc, dc, dc, dc, dc, dc, dc, dc, dT 12 ((.hdr 15) :: (sl 0 3 (eRecv v114))), sl 3 12 (eRecv v114) ++ ((.hdr 15) :: (sl 0 3 (eSegment v115))), sl 3 12 (eSegment v115) ++ (dT 4 []), dc, dc, dc]
theorem s12_19_t : X cp n i12_2 (fr12_9 p1 v79 v101 v102) k = s12_19 cp n p1 v79 v101 v102 (fun v114 v115 => k .ret (fr12_18 v114 v115)) := ch (fun q => s12_10 cp n p1 v79 v101 v102 q) (fun c v105 => X cp n c (fr12_11 p1 v79 v101 v102 v105) k) i12_1 (fun c => X cp n (.seq (.fin (.reg g12_17) [100, 101, 102, 103, 104, 105] []) (.seq (.reg g12_18) c)) (fr12_9 p1 v79 v101 v102) k) (fun c => by kernel_rfl) (funext fun v105 => (s12_17_t cp n p1 v79 v101 v102 v105 k).trans (show _ = s12_17 cp n p1 v79 v101 v102 v105 (fun v112 v113 => k .ret (fr12_18 v112 v113)) from by kernel_rfl)) (by kernel_rfl) (by kernel_rfl)
def fr12_20 : FF := [w12_4, dc, dc, dc, dc, dc, dc, dc, dc, dc, dT 12 ((.hdr 15) :: (sl 0 3 (eRecv v116))), sl 3 12 (eRecv v116) ++ ((.hdr 15) :: (sl 0 3 (eSegment v117))), sl 3 12 (eSegment v117) ++ (dT 4 []), dc, dc, dc]
theorem s12_21_t : X cp n i12_3 (fr12_7 p1 v79 v80 v88 v89) k = s12_21 cp n p1 v79 v80 v88 v89 (fun v116 v117 => k .ret (fr12_20 v116 v117)) := ch (fun q => s12_8 cp n p1 v79 v80 v88 v89 q) (fun c v101 v102 => X cp n c (fr12_9 p1 v79 v101 v102) k) i12_2 (fun c => X cp n (.seq (.seq (.fin (.reg g12_13) [74, 75, 76] []) (.fin (.cond (.s 77) (.fin (.reg g12_14) [77, 78, 79, 80, 81, 82, 83, 84, 85] []) (.skip)) [77] [])) (.seq (.fin (.reg g12_15) [86, 87, 88, 89, 90, 91, 92, 93] []) (.seq (.fin (.reg g12_16) [94, 95, 96, 97, 98, 99] []) c))) (fr12_7 p1 v79 v80 v88 v89) k) (fun c => by kernel_rfl) (funext fun v101 => funext fun v102 => (s12_19_t cp n p1 v79 v101 v102 k).trans (show _ = s12_19 cp n p1 v79 v101 v102 (fun v114 v115 => k .ret (fr12_20 v114 v115)) from by kernel_rfl)) (by kernel_rfl) (by kernel_rfl)
def fr12_22 : FF := [w12_4, dc, dc, dc, dc, dc, dc, dc, dc, dc, dT 12 ((.hdr 15) :: (sl 0 3 (eRecv v118))), sl 3 12 (eRecv v118) ++ ((.hdr 15) :: (sl 0 3 (eSegment v119))), sl 3 12 (eSegment v119) ++ (dT 4 []), dc, dc, dc]
theorem s12_23_t : X cp n i12_4 (fr12_2 p1 v79 v80) k = s12_23 cp n p1 v79 v80 (fun v118 v119 => k .ret (fr12_22 v118 v119)) := ch (fun q => s12_6 cp n p1 v79 v80 q) (fun c v88 v89 => X cp n c (fr12_7 p1 v79 v80 v88 v89) k) i12_3 (fun c => X cp n (.seq (.seq (.fin (.reg g12_11) [62, 63, 64, 65, 66, 67, 68] []) (.fin (.cond (.s 69) (.fin (.reg g12_12) [69, 70, 71, 72, 73] []) (.skip)) [69] [])) c) (fr12_2 p1 v79 v80) k) (fun c => by kernel_rfl) (funext fun v88 => funext fun v89 => (s12_21_t cp n p1 v79 v80 v88 v89 k).trans (show _ = s12_21 cp n p1 v79 v80 v88 v89 (fun v116 v117 => k .ret (fr12_22 v116 v117)) from by kernel_rfl)) (by kernel_rfl) (by kernel_rfl)
def fr12_24 : FF := [w12_4, dc, dc, dc, dc, dc, dc, dc, dc, dc, dT 12 ((.hdr 15) :: (sl 0 3 (eRecv v120))), sl 3 12 (eRecv v120) ++ ((.hdr 15) :: (sl 0 3 (eSegment v121))), sl 3 12 (eSegment v121) ++ (dT 4 []), dc, dc, dc]
theorem s12_25_t : X cp n i12_5 (fr12_2 p1 v79 v80) k = s12_25 cp n p1 v79 v80 (fun v120 v121 => k .ret (fr12_24 v120 v121)) := ch (fun q => s12_4 cp n p1 v79 v80 q (fun v86 v87 => k .ret (fr12_24 v86 v87))) (fun c => X cp n c (fr12_2 p1 v79 v80) k) i12_4 (fun c => X cp n (.seq (.seq (.fin (.reg g12_8) [41, 42, 43, 44, 45, 46, 47, 48, 49, 50, 51, 52, 53] []) (.fin (.cond (.s 54) (.seq (.fin (.reg g12_9) [2, 3, 9, 54, 55, 56, 57, 58, 59] [(140, 15), (156, 15)]) (.seq (.fin (.reg g12_10) [10, 11, 60, 61] [(204, 15), (220, 15)]) (.wk [6, 7] (.ret)))) (.skip)) [54] [])) c) (fr12_2 p1 v79 v80) k) (fun c => by kernel_rfl) ((s12_23_t cp n p1 v79 v80 k).trans (show _ = s12_23 cp n p1 v79 v80 (fun v118 v119 => k .ret (fr12_24 v118 v119)) from by kernel_rfl)) (by kernel_rfl) (by kernel_rfl)
def fr12_26 : FF := [dT 4 ((.ptr 172 0) :: (.ptr 188 0) :: (tB v122) :: (tL v123) :: (dT 8 [])), dc, dc, dc, dc, dc, dc, dc, dc, dc, dT 12 ((.hdr 15) :: (sl 0 3 (eRecv v124))), sl 3 12 (eRecv v124) ++ ((.hdr 15) :: (sl 0 3 (eSegment v125))), sl 3 12 (eSegment v125) ++ (dT 4 []), dc, dc, dc]
def fr12_28 : FF := [(.agg (eRecv p0)) :: (.agg (eSegment p1)) :: (dT 14 []), dc, dc, dc, dc, dc, dc, dc, dc, dc, dc, dc, dc, dc, dc, dc]
theorem s12_27_t : X cp n i12_6 (fr12_28 p0 p1) k = s12_27 cp n p0 p1 (fun v122 v123 v124 v125 => k .ret (fr12_26 v122 v123 v124 v125)) := ch (fun q => s12_1 cp n p0 p1 q (fun v81 v82 => k .ret (fr12_26 false v81 v82 (SSegment.mk 0 0 0 0 0 0 0 0 0 false false 0 0 [] [])))) (fun c v79 v80 => X cp n c (fr12_2 p1 v79 v80) k) i12_5 (fun c => X cp n (.seq (.fin (.reg g12_0) [0, 1, 6, 7] []) (.seq (.seq (.fin (.reg g12_1) [15, 16] []) (.seq (.fin (.reg g12_2) [17] []) (.fin (.cond (.s 18) (.seq (.fin (.reg g12_3) [2, 3, 8, 18, 19, 20, 21] [(140, 15), (156, 15)]) (.wk [6, 7] (.ret))) (.skip)) [8, 18] []))) (.seq (.fin (.reg g12_4) [22, 23] []) (.seq (.seq (.fin (.reg g12_5) [24, 25, 26, 27, 28, 29] []) (.fin (.cond (.s 30) (.seq (.fin (.reg g12_6) [2, 3, 30, 31, 32] [(140, 15), (156, 15)]) (.wk [6, 7] (.ret))) (.skip)) [30] [])) (.seq (.fin (.reg g12_7) [33, 34, 35, 36, 37, 38, 39, 40] []) c))))) (fr12_28 p0 p1) k) (fun c => by kernel_rfl) (funext fun v79 => funext fun v80 => (s12_25_t cp n p1 v79 v80 k).trans (show _ = s12_25 cp n p1 v79 v80 (fun v120 v121 => k .ret (fr12_26 true 0 v120 v121)) from by kernel_rfl)) (by kernel_rfl) (by kernel_rfl)
theorem run12 (cp : CP) (n : Nat) (p0 : SRecv) (p1 : SSegment) (k : Ret2 RW → Option R) : G12 cp (n + 1) p0 p1 (fun r0 r1 r2 r3 => k ⟨.tup [.agg (eRecv r0), .agg (eSegment r1), (tB r2), (tL r3)], [], []⟩) = run2 U cp (callP cp n) n fn12 [.agg (eRecv p0), .agg (eSegment p1)] [] k := ((X_run (f := fn12) (av := [.agg (eRecv p0), .agg (eSegment p1)]) (cells := []) (code := i12_6) (fr := (fr12_28 p0 p1)) (k := k) (by kernel_rfl) (fun K => by kernel_rfl)).trans ((s12_27_t cp n p0 p1 (finK2 fn12 k)).trans (by kernel_rfl))).symm
end
/-! tideway/tidewaylaw08.heads -/
section
variable (cp : CP) (n : Nat) (v100 : Int) (v101 : Bool) (v102 : Int) (v103 : Bool) (v104 : Int) (v105 : (List Int)) (v106 : Int) (v107 : SRecv) (v108 : SSegment) (v109 : SRecv) (v110 : SSegment) (v111 : SRecv) (v115 v116 : Bool) (k : KX R)
def fr11_2 : FF := [dT 1 ((.ptr 124 0) :: (tL v100) :: (dT 1 ((.ptr 156 0) :: (tB v101) :: (tL v102) :: (.ptr 172 0) :: (.ptr 188 0) :: (tB v103) :: (tL v104) :: (.ptr 204 0) :: (.row false (.ruint8 v105)) :: (dT 2 ([(tL v106)]))))), dc, dc, dc, dc, dc, dc, dT 12 ((.hdr 15) :: (sl 0 3 (eRecv v107))), sl 3 12 (eRecv v107) ++ (dT 4 []), dT 12 ((.hdr 15) :: (sl 0 3 (eSegment v108))), sl 3 12 (eSegment v108) ++ ((.hdr 15) :: (sl 0 3 (eRecv v109))), sl 3 12 (eRecv v109) ++ ((.hdr 15) :: (sl 0 3 (eSegment v110))), sl 3 12 (eSegment v110) ++ ((.hdr 15) :: (sl 0 3 (eRecv v111))), sl 3 12 (eRecv v111) ++ (dT 4 []), dc, dc]
def fr11_4 : FF := [(tB v115) :: (dT 15 []), dc, dc, dc, dc, dc, dc, dc, dc, dc, dc, dc, dc, dc, dc, dc]
theorem s11_3_t : X cp n i11_0 (fr11_2 v100 v101 v102 v103 v104 v105 v106 v107 v108 v109 v110 v111) k = s11_3 cp n v100 v101 v102 v103 v104 v105 v106 v107 v108 v109 v110 v111 (fun v115 => k .ret (fr11_4 v115)) := by kernel_rfl
def fr11_5 : FF := [(tB v116) :: (dT 15 []), dc, dc, dc, dc, dc, dc, dc, dc, dc, dc, dc, dc, dc, dc, dc]
def fr11_7 : FF := [dc, dc, dc, dc, dc, dc, dc, dc, dc, dc, dc, dc, dc, dc, dc, dc]
theorem s11_6_t : X cp n i11_1 fr11_7 k = s11_6 cp n (fun v116 => k .ret (fr11_5 v116)) := ch (fun q => s11_1 cp n q) (fun c v100 v101 v102 v103 v104 v105 v106 v107 v108 v109 v110 v111 => X cp n c (fr11_2 v100 v101 v102 v103 v104 v105 v106 v107 v108 v109 v110 v111) k) i11_0 (fun c => X cp n (.seq (.fin (.reg g11_0) [0] []) (.seq (.fin (.reg g11_1) [18, 19, 20, 21] []) (.seq (.fin (.reg g11_2) [22, 23, 24, 25, 26, 27, 28, 29, 30, 31] []) (.seq (.fin (.reg g11_3) [3, 32, 33, 34, 35, 36, 37, 38, 39, 40, 41] [(140, 15)]) (.seq (.fin (.reg g11_4) [13, 14, 42, 43, 44, 45, 46, 47, 48, 49] [(220, 15)]) c))))) fr11_7 k) (fun c => by kernel_rfl) (funext fun v100 => funext fun v101 => funext fun v102 => funext fun v103 => funext fun v104 => funext fun v105 => funext fun v106 => funext fun v107 => funext fun v108 => funext fun v109 => funext fun v110 => funext fun v111 => (s11_3_t cp n v100 v101 v102 v103 v104 v105 v106 v107 v108 v109 v110 v111 k).trans (show _ = s11_3 cp n v100 v101 v102 v103 v104 v105 v106 v107 v108 v109 v110 v111 (fun v115 => k .ret (fr11_5 v115)) from by kernel_rfl)) (by kernel_rfl) (by kernel_rfl)
theorem run11 (cp : CP) (n : Nat) (k : Ret2 RW → Option R) : G11 cp (n + 1) (fun r0 => k ⟨(tB r0), [], []⟩) = run2 U cp (callP cp n) n fn11 [] [] k := ((X_run (f := fn11) (av := []) (cells := []) (code := i11_1) (fr := fr11_7) (k := k) (by kernel_rfl) (fun K => by kernel_rfl)).trans ((s11_6_t cp n  (finK2 fn11 k)).trans (by kernel_rfl))).symm
end
/-! tideway/tidewaylaw08.RecvReads -/
section
variable (cp : CP) (n : Nat) (p0 : SRecv) (p1 : Int) (v42 : (List Int)) (v43 : Bool) (v44 : Int) (v45 : (List Int)) (v46 : Bool) (v47 : Int) (v48 : SRecv) (v49 : SSegment) (v50 : SRecv) (v51 : SSegment) (v52 : SRecv) (v53 : SSegment) (v54 : SRecv) (v55 : SSegment) (v118 v119 v120 : Bool) (k : KX R)
def fr9_2 : FF := [dT 2 ((.ptr 90 0) :: (dT 2 ([.ptr 106 0, .row false (.ruint8 v42), .ptr 122 0, (tB v43), (tL v44), .ptr 138 0, .row false (.ruint8 v45), .ptr 154 0, (tB v46), (tL v47), .ptr 170 0]))), (.ptr 186 0) :: (.ptr 202 0) :: (.ptr 218 0) :: (dT 13 []), dc, dc, dc, dT 10 ((.hdr 15) :: (sl 0 5 (eRecv p0))), sl 5 10 (eRecv p0) ++ ((.hdr 15) :: (sl 0 5 (eRecv v48))), sl 5 10 (eRecv v48) ++ ((.hdr 15) :: (sl 0 5 (eSegment v49))), sl 5 10 (eSegment v49) ++ ((.hdr 15) :: (sl 0 5 (eRecv v50))), sl 5 10 (eRecv v50) ++ ((.hdr 15) :: (sl 0 5 (eSegment v51))), sl 5 10 (eSegment v51) ++ ((.hdr 15) :: (sl 0 5 (eRecv v52))), sl 5 10 (eRecv v52) ++ ((.hdr 15) :: (sl 0 5 (eSegment v53))), sl 5 10 (eSegment v53) ++ ((.hdr 15) :: (sl 0 5 (eRecv v54))), sl 5 10 (eRecv v54) ++ ((.hdr 15) :: (sl 0 5 (eSegment v55))), sl 5 10 (eSegment v55) ++ (dT 6 [])]
def fr9_4 : FF := [dT 4 ((tB v118) :: (dT 11 [])), dc, dc, dc, dc, dc, dc, dc, dc, dc, dc, dc, dc, dc, dc]
theorem s9_3_t : X cp n i9_0 (fr9_2 p0 v42 v43 v44 v45 v46 v47 v48 v49 v50 v51 v52 v53 v54 v55) k = s9_3 cp n p0 v42 v43 v44 v45 v46 v47 v48 v49 v50 v51 v52 v53 v54 v55 (fun v118 => k .norm (fr9_4 v118)) := by kernel_rfl
theorem s9_5_t : X cp n i9_1 (fr9_4 v118) k = s9_5 cp n v118 (k .ret (fr9_4 v118)) := by kernel_rfl
def fr9_6 : FF := [dT 4 ((tB v119) :: (dT 11 [])), dc, dc, dc, dc, dc, dc, dc, dc, dc, dc, dc, dc, dc, dc]
theorem s9_7_t : X cp n i9_2 (fr9_2 p0 v42 v43 v44 v45 v46 v47 v48 v49 v50 v51 v52 v53 v54 v55) k = s9_7 cp n p0 v42 v43 v44 v45 v46 v47 v48 v49 v50 v51 v52 v53 v54 v55 (fun v119 => k .ret (fr9_6 v119)) := tq (tq (congrArg (fun q => s9_3 cp n p0 v42 v43 v44 v45 v46 v47 v48 v49 v50 v51 v52 v53 v54 v55 q) (funext fun v118 => (s9_5_t cp n v118 k).trans (show _ = s9_5 cp n v118 (k .ret (fr9_6 v118)) from by kernel_rfl))) ((s9_3_t cp n p0 v42 v43 v44 v45 v46 v47 v48 v49 v50 v51 v52 v53 v54 v55 (seqT (X cp n) i9_1 k)).trans (by kernel_rfl))) (by kernel_rfl)
def fr9_8 : FF := [dT 4 ((tB v120) :: (dT 11 [])), dc, dc, dc, dc, dc, dc, dc, dc, dc, dc, dc, dc, dc, dc]
def fr9_10 : FF := [(.agg (eRecv p0)) :: (tL p1) :: (dT 14 []), dc, dc, dc, dc, dc, dc, dc, dc, dc, dc, dc, dc, dc, dc]
theorem s9_9_t : X cp n i9_3 (fr9_10 p0 p1) k = s9_9 cp n p0 p1 (fun v120 => k .ret (fr9_8 v120)) := ch (fun q => s9_1 cp n p0 p1 q) (fun c v42 v43 v44 v45 v46 v47 v48 v49 v50 v51 v52 v53 v54 v55 => X cp n c (fr9_2 p0 v42 v43 v44 v45 v46 v47 v48 v49 v50 v51 v52 v53 v54 v55) k) i9_2 (fun c => X cp n (.seq (.fin (.reg g9_0) [0, 4] []) (.seq (.fin (.reg g9_1) [19, 20, 21, 22, 23, 24, 25, 26, 27] []) (.seq (.fin (.reg g9_2) [1, 28, 29, 30, 31, 32, 33, 34, 35, 36] []) (.seq (.fin (.reg g9_3) [37, 38, 39, 40, 41] []) (.seq (.fin (.reg g9_4) [42, 43, 44, 45, 46] []) c))))) (fr9_10 p0 p1) k) (fun c => by kernel_rfl) (funext fun v42 => funext fun v43 => funext fun v44 => funext fun v45 => funext fun v46 => funext fun v47 => funext fun v48 => funext fun v49 => funext fun v50 => funext fun v51 => funext fun v52 => funext fun v53 => funext fun v54 => funext fun v55 => (s9_7_t cp n p0 v42 v43 v44 v45 v46 v47 v48 v49 v50 v51 v52 v53 v54 v55 k).trans (show _ = s9_7 cp n p0 v42 v43 v44 v45 v46 v47 v48 v49 v50 v51 v52 v53 v54 v55 (fun v119 => k .ret (fr9_8 v119)) from by kernel_rfl)) (by kernel_rfl) (by kernel_rfl)
theorem run9 (cp : CP) (n : Nat) (p0 : SRecv) (p1 : Int) (k : Ret2 RW → Option R) : G9 cp (n + 1) p0 p1 (fun r0 => k ⟨(tB r0), [], []⟩) = run2 U cp (callP cp n) n fn9 [.agg (eRecv p0), (tL p1)] [] k := ((X_run (f := fn9) (av := [.agg (eRecv p0), (tL p1)]) (cells := []) (code := i9_3) (fr := (fr9_10 p0 p1)) (k := k) (by kernel_rfl) (fun K => by kernel_rfl)).trans ((s9_9_t cp n p0 p1 (finK2 fn9 k)).trans (by kernel_rfl))).symm
end
def tbl : Nat → Option IFn
  | 27 => some (fn27.lo U)
  | 53 => some (fn53.lo U)
  | 55 => some (fn55.lo U)
  | 71 => some (fn71.lo U)
  | 1008 => some (fn1008.lo U)
  | 1007 => some (fn1007.lo U)
  | 72 => some (fn72.lo U)
  | 56 => some (fn56.lo U)
  | 28 => some (fn28.lo U)
  | 10 => some (fn10.lo U)
  | 57 => some fn57
  | 52 => some fn52
  | 29 => some (fn29.lo U)
  | 51 => some (fn51.lo U)
  | 49 => some (fn49.lo U)
  | 36 => some (fn36.lo U)
  | 32 => some (fn32.lo U)
  | 20 => some (fn20.lo U)
  | 46 => some (fn46.lo U)
  | 42 => some (fn42.lo U)
  | 47 => some (fn47.lo U)
  | 48 => some (fn48.lo U)
  | 16 => some (fn16.lo U)
  | 37 => some (fn37.lo U)
  | 50 => some (fn50.lo U)
  | 65 => some (fn65.lo U)
  | 39 => some (fn39.lo U)
  | 41 => some (fn41.lo U)
  | 24 => some (fn24.lo U)
  | 23 => some (fn23.lo U)
  | 25 => some (fn25.lo U)
  | 21 => some (fn21.lo U)
  | 14 => some (fn14.lo U)
  | 45 => some (fn45.lo U)
  | 15 => some (fn15.lo U)
  | 22 => some (fn22.lo U)
  | 26 => some (fn26.lo U)
  | 17 => some (fn17.lo U)
  | 31 => some (fn31.lo U)
  | 58 => some (fn58.lo U)
  | 30 => some (fn30.lo U)
  | 33 => some (fn33.lo U)
  | 82 => some (fn82.lo U)
  | 78 => some (fn78.lo U)
  | 79 => some (fn79.lo U)
  | 61 => some (fn61.lo U)
  | 74 => some (fn74.lo U)
  | 1052 => some (fn1052.lo U)
  | 1054 => some fn1054
  | 75 => some fn75
  | 77 => some (fn77.lo U)
  | 60 => some (fn60.lo U)
  | 1050 => some (fn1050.lo U)
  | 34 => some (fn34.lo U)
  | 1059 => some (fn1059.lo U)
  | 1058 => some (fn1058.lo U)
  | 35 => some (fn35.lo U)
  | 12 => some (fn12.lo U)
  | 11 => some (fn11.lo U)
  | 9 => some (fn9.lo U)
  | _ => none
theorem chk27 : chkFn Try.prog tbl (fn27.lo U) = true := by kernel_rfl
theorem chk53 : chkFn Try.prog tbl (fn53.lo U) = true := by kernel_rfl
theorem chk55 : chkFn Try.prog tbl (fn55.lo U) = true := by kernel_rfl
theorem chk71 : chkFn Try.prog tbl (fn71.lo U) = true := by kernel_rfl
theorem chk1008 : chkFn Try.prog tbl (fn1008.lo U) = true := by kernel_rfl
theorem chk1007 : chkFn Try.prog tbl (fn1007.lo U) = true := by kernel_rfl
theorem chk72 : chkFn Try.prog tbl (fn72.lo U) = true := by kernel_rfl
theorem chk56 : chkFn Try.prog tbl (fn56.lo U) = true := by kernel_rfl
theorem chk28 : chkFn Try.prog tbl (fn28.lo U) = true := by kernel_rfl
theorem chk10 : chkFn Try.prog tbl (fn10.lo U) = true := by kernel_rfl
theorem chk57 : chkFn Try.prog tbl fn57 = true := by kernel_rfl
theorem chk52 : chkFn Try.prog tbl fn52 = true := by kernel_rfl
theorem chk29 : chkFn Try.prog tbl (fn29.lo U) = true := by kernel_rfl
theorem chk51 : chkFn Try.prog tbl (fn51.lo U) = true := by kernel_rfl
theorem chk49 : chkFn Try.prog tbl (fn49.lo U) = true := by kernel_rfl
theorem chk36 : chkFn Try.prog tbl (fn36.lo U) = true := by kernel_rfl
theorem chk32 : chkFn Try.prog tbl (fn32.lo U) = true := by kernel_rfl
theorem chk20 : chkFn Try.prog tbl (fn20.lo U) = true := by kernel_rfl
theorem chk46 : chkFn Try.prog tbl (fn46.lo U) = true := by kernel_rfl
theorem chk42 : chkFn Try.prog tbl (fn42.lo U) = true := by kernel_rfl
theorem chk47 : chkFn Try.prog tbl (fn47.lo U) = true := by kernel_rfl
theorem chk48 : chkFn Try.prog tbl (fn48.lo U) = true := by kernel_rfl
theorem chk16 : chkFn Try.prog tbl (fn16.lo U) = true := by kernel_rfl
theorem chk37 : chkFn Try.prog tbl (fn37.lo U) = true := by kernel_rfl
theorem chk50 : chkFn Try.prog tbl (fn50.lo U) = true := by kernel_rfl
theorem chk65 : chkFn Try.prog tbl (fn65.lo U) = true := by kernel_rfl
theorem chk39 : chkFn Try.prog tbl (fn39.lo U) = true := by kernel_rfl
theorem chk41 : chkFn Try.prog tbl (fn41.lo U) = true := by kernel_rfl
theorem chk24 : chkFn Try.prog tbl (fn24.lo U) = true := by kernel_rfl
theorem chk23 : chkFn Try.prog tbl (fn23.lo U) = true := by kernel_rfl
theorem chk25 : chkFn Try.prog tbl (fn25.lo U) = true := by kernel_rfl
theorem chk21 : chkFn Try.prog tbl (fn21.lo U) = true := by kernel_rfl
theorem chk14 : chkFn Try.prog tbl (fn14.lo U) = true := by kernel_rfl
theorem chk45 : chkFn Try.prog tbl (fn45.lo U) = true := by kernel_rfl
theorem chk15 : chkFn Try.prog tbl (fn15.lo U) = true := by kernel_rfl
theorem chk22 : chkFn Try.prog tbl (fn22.lo U) = true := by kernel_rfl
theorem chk26 : chkFn Try.prog tbl (fn26.lo U) = true := by kernel_rfl
theorem chk17 : chkFn Try.prog tbl (fn17.lo U) = true := by kernel_rfl
theorem chk31 : chkFn Try.prog tbl (fn31.lo U) = true := by kernel_rfl
theorem chk58 : chkFn Try.prog tbl (fn58.lo U) = true := by kernel_rfl
theorem chk30 : chkFn Try.prog tbl (fn30.lo U) = true := by kernel_rfl
theorem chk33 : chkFn Try.prog tbl (fn33.lo U) = true := by kernel_rfl
theorem chk82 : chkFn Try.prog tbl (fn82.lo U) = true := by kernel_rfl
theorem chk78 : chkFn Try.prog tbl (fn78.lo U) = true := by kernel_rfl
theorem chk79 : chkFn Try.prog tbl (fn79.lo U) = true := by kernel_rfl
theorem chk61 : chkFn Try.prog tbl (fn61.lo U) = true := by kernel_rfl
theorem chk74 : chkFn Try.prog tbl (fn74.lo U) = true := by kernel_rfl
theorem chk1052 : chkFn Try.prog tbl (fn1052.lo U) = true := by kernel_rfl
theorem chk1054 : chkFn Try.prog tbl fn1054 = true := by kernel_rfl
theorem chk75 : chkFn Try.prog tbl fn75 = true := by kernel_rfl
theorem chk77 : chkFn Try.prog tbl (fn77.lo U) = true := by kernel_rfl
theorem chk60 : chkFn Try.prog tbl (fn60.lo U) = true := by kernel_rfl
theorem chk1050 : chkFn Try.prog tbl (fn1050.lo U) = true := by kernel_rfl
theorem chk34 : chkFn Try.prog tbl (fn34.lo U) = true := by kernel_rfl
theorem chk1059 : chkFn Try.prog tbl (fn1059.lo U) = true := by kernel_rfl
theorem chk1058 : chkFn Try.prog tbl (fn1058.lo U) = true := by kernel_rfl
theorem chk35 : chkFn Try.prog tbl (fn35.lo U) = true := by kernel_rfl
theorem chk12 : chkFn Try.prog tbl (fn12.lo U) = true := by kernel_rfl
theorem chk11 : chkFn Try.prog tbl (fn11.lo U) = true := by kernel_rfl
theorem chk9 : chkFn Try.prog tbl (fn9.lo U) = true := by kernel_rfl
theorem chkAll : ∀ (id : Nat) (f : IFn), tbl id = some f → chkFn Try.prog tbl f = true := by
  intro id f h
  unfold tbl at h
  split at h
  · cases h; exact chk27
  · cases h; exact chk53
  · cases h; exact chk55
  · cases h; exact chk71
  · cases h; exact chk1008
  · cases h; exact chk1007
  · cases h; exact chk72
  · cases h; exact chk56
  · cases h; exact chk28
  · cases h; exact chk10
  · cases h; exact chk57
  · cases h; exact chk52
  · cases h; exact chk29
  · cases h; exact chk51
  · cases h; exact chk49
  · cases h; exact chk36
  · cases h; exact chk32
  · cases h; exact chk20
  · cases h; exact chk46
  · cases h; exact chk42
  · cases h; exact chk47
  · cases h; exact chk48
  · cases h; exact chk16
  · cases h; exact chk37
  · cases h; exact chk50
  · cases h; exact chk65
  · cases h; exact chk39
  · cases h; exact chk41
  · cases h; exact chk24
  · cases h; exact chk23
  · cases h; exact chk25
  · cases h; exact chk21
  · cases h; exact chk14
  · cases h; exact chk45
  · cases h; exact chk15
  · cases h; exact chk22
  · cases h; exact chk26
  · cases h; exact chk17
  · cases h; exact chk31
  · cases h; exact chk58
  · cases h; exact chk30
  · cases h; exact chk33
  · cases h; exact chk82
  · cases h; exact chk78
  · cases h; exact chk79
  · cases h; exact chk61
  · cases h; exact chk74
  · cases h; exact chk1052
  · cases h; exact chk1054
  · cases h; exact chk75
  · cases h; exact chk77
  · cases h; exact chk60
  · cases h; exact chk1050
  · cases h; exact chk34
  · cases h; exact chk1059
  · cases h; exact chk1058
  · cases h; exact chk35
  · cases h; exact chk12
  · cases h; exact chk11
  · cases h; exact chk9
  · cases h
theorem clone57 (n : Nat) (xs : (List SSpan)) (hc : capB (0 + xs.length) 16 = true) : runF tbl (n + 1) 57 [.row false 2 xs.length (rg cSpan zSpan xs)] [] = some ⟨.row true 2 xs.length (rg cSpan zSpan xs), [], []⟩ :=
  clone_fin (F := fun m g => runF tbl (n + 1) 57 [.row false 2 m g] []) (fun g => show runF tbl (n + 1) 57 [.row false 2 0 g] [] = both (some ⟨.row true 2 0 (fun _ => [.sc (.int .i64 0), .sc (.int .i64 0)]), [], []⟩) (cond (capB (0 + 0) 16) (some ⟨.row true 2 (0 + 0) (appGet 0 0 (litGet 2 0 [.sc (.int .i64 0), .sc (.int .i64 0)] []) g), [], []⟩) none) from by kernel_rfl) (fun m g => show runF tbl (n + 1) 57 [.row false 2 (m + 1) g] [] = (cond (capB (0 + (m + 1)) 16) (some ⟨.row true 2 (0 + (m + 1)) (appGet 0 (m + 1) (litGet 2 0 [.sc (.int .i64 0), .sc (.int .i64 0)] []) g), [], []⟩) none) from by kernel_rfl) (show cSpan zSpan = [.sc (.int .i64 0), .sc (.int .i64 0)] from by kernel_rfl) xs hc
theorem clone52 (n : Nat) (xs : (List Int)) (hc : capB (0 + xs.length) 1 = true) : runF tbl (n + 1) 52 [.row false 1 xs.length (rg cuint8 zuint8 xs)] [] = some ⟨.row true 1 xs.length (rg cuint8 zuint8 xs), [], []⟩ :=
  clone_fin (F := fun m g => runF tbl (n + 1) 52 [.row false 1 m g] []) (fun g => show runF tbl (n + 1) 52 [.row false 1 0 g] [] = both (some ⟨.row true 1 0 (fun _ => [.sc (.int .u8 0)]), [], []⟩) (cond (capB (0 + 0) 1) (some ⟨.row true 1 (0 + 0) (appGet 0 0 (litGet 1 0 [.sc (.int .u8 0)] []) g), [], []⟩) none) from by kernel_rfl) (fun m g => show runF tbl (n + 1) 52 [.row false 1 (m + 1) g] [] = (cond (capB (0 + (m + 1)) 1) (some ⟨.row true 1 (0 + (m + 1)) (appGet 0 (m + 1) (litGet 1 0 [.sc (.int .u8 0)] []) g), [], []⟩) none) from by kernel_rfl) (show cuint8 zuint8 = [.sc (.int .u8 0)] from by kernel_rfl) xs hc
theorem clone1054 (n : Nat) (xs : (List SPiece)) (hc : capB (0 + xs.length) 32 = true) : runF tbl (n + 1) 1054 [.row false 2 xs.length (rg cPiece zPiece xs)] [] = some ⟨.un none 2 xs.length (rg cPiece zPiece xs), [], []⟩ :=
  uclone_fin (F := fun m g => runF tbl (n + 1) 1054 [.row false 2 m g] []) (fun g => show runF tbl (n + 1) 1054 [.row false 2 0 g] [] = both (some ⟨.un none 2 0 (fun _ => [.sc (.int .i64 0), .row false 1 0 (fun _ => [.sc (.int .u8 0)])]), [], []⟩) (cond (capB (0 + 0) 32) (some ⟨.un none 2 (0 + 0) (appGet 0 0 (litGet 2 0 [.sc (.int .i64 0), .row false 1 0 (fun _ => [.sc (.int .u8 0)])] []) g), [], []⟩) none) from by kernel_rfl) (fun m g => show runF tbl (n + 1) 1054 [.row false 2 (m + 1) g] [] = (cond (capB (0 + (m + 1)) 32) (some ⟨.un none 2 (0 + (m + 1)) (appGet 0 (m + 1) (litGet 2 0 [.sc (.int .i64 0), .row false 1 0 (fun _ => [.sc (.int .u8 0)])] []) g), [], []⟩) none) from by kernel_rfl) (show cPiece zPiece = [.sc (.int .i64 0), .row false 1 0 (fun _ => [.sc (.int .u8 0)])] from by kernel_rfl) xs hc
theorem clone75 (n : Nat) (a : Bool) (xs : (List SPiece)) (i : Int) (x : SPiece) (hc : capB (xs.length + 1) 32 = true) (h0 : decide (0 ≤ i) = true) (h1 : decide (i ≤ (xs.length : Int)) = true) : runF tbl (n + 1) 75 [.un none 2 xs.length (rg cPiece zPiece xs), .sc (.int .i64 i), .row a 2 1 (rg cPiece zPiece [x])] [] = some ⟨.un none 2 (insL xs (Int.toNat i) x).length (rg cPiece zPiece (insL xs (Int.toNat i) x)), [], []⟩ :=
  ins_fin (show runF tbl (n + 1) 75 [.un none 2 xs.length (rg cPiece zPiece xs), .sc (.int .i64 i), .row a 2 1 (rg cPiece zPiece [x])] [] = cond (capB (xs.length + 1) 32) (cond (decide (0 ≤ i)) (cond (decide (i ≤ (xs.length : Int))) (some ⟨.un none 2 (xs.length + 1) (insGet xs.length (Int.toNat i) (rg cPiece zPiece xs) (rg cPiece zPiece [x])), [], []⟩) none) none) none from by kernel_rfl) hc h0 h1
theorem dI_ok {kd : IntKind} {y : TV RW} {a : Int} (h : dI kd y = some a) : y = .sc (.int kd a) := by
  unfold dI at h
  split at h
  · obtain ⟨h1, h2⟩ := cond_some h
    cases h2
    rw [of_decide_eq_true h1]
  · cases h
theorem dB_ok {y : TV RW} {a : Bool} (h : dB y = some a) : y = .sc (.bool a) := by
  unfold dB at h
  split at h <;> cases h
  rfl
theorem dS_ok {y : TV RW} {a : ByteArray} (h : dS y = some a) : y = .sc (.string a) := by
  unfold dS at h
  split at h <;> cases h
  rfl
theorem dA_ok {y : TV RW} {a : Fr} (h : dA y = some a) : y = .agg a := by
  unfold dA at h
  split at h <;> cases h
  rfl
theorem dOne_ok {y : Fr} {a : TV RW} (h : dOne y = some a) : y = [a] := by
  unfold dOne at h
  split at h <;> cases h
  rfl
theorem dP_ok {a b : Nat} {y : TV RW} {u : Unit} (h : dP a b y = some u) : y = .ptr a b := by
  unfold dP at h
  split at h
  · obtain ⟨h1, h2⟩ := cond_some h
    simp only [Bool.and_eq_true] at h1
    rw [nbeq h1.1, nbeq h1.2]
  · cases h
theorem dC_ok {a : Nat} {b : List (Nat × Nat)} {y : TV RW} {u : Unit} (h : dC a b y = some u) : y = .clo a b := by
  unfold dC at h
  split at h
  · obtain ⟨h1, h2⟩ := cond_some h
    simp only [Bool.and_eq_true] at h1
    rw [nbeq h1.1, of_decide_eq_true h1.2]
  · cases h
theorem dRuint8_ok {fl : Bool} {y : TV RW} {a : List Int} (h : dRuint8 fl y = some a) : y = .row fl (.ruint8 a) := by
  unfold dRuint8 at h
  split at h
  · obtain ⟨h1, h2⟩ := cond_some h
    cases h2
    rw [eq_of_beq h1]
  · cases h
theorem dRPiece_ok {fl : Bool} {y : TV RW} {a : List SPiece} (h : dRPiece fl y = some a) : y = .row fl (.rPiece a) := by
  unfold dRPiece at h
  split at h
  · obtain ⟨h1, h2⟩ := cond_some h
    cases h2
    rw [eq_of_beq h1]
  · cases h
theorem dRSpan_ok {fl : Bool} {y : TV RW} {a : List SSpan} (h : dRSpan fl y = some a) : y = .row fl (.rSpan a) := by
  unfold dRSpan at h
  split at h
  · obtain ⟨h1, h2⟩ := cond_some h
    cases h2
    rw [eq_of_beq h1]
  · cases h
theorem dRBlock_ok {fl : Bool} {y : TV RW} {a : List SBlock} (h : dRBlock fl y = some a) : y = .row fl (.rBlock a) := by
  unfold dRBlock at h
  split at h
  · obtain ⟨h1, h2⟩ := cond_some h
    cases h2
    rw [eq_of_beq h1]
  · cases h
theorem dRecv_ok {L : Fr} {a : SRecv} (h : dRecv L = some a) : L = eRecv a := by
  unfold dRecv at h
  split at h
  · simp only [Option.bind_eq_some_iff] at h
    obtain ⟨a0, h0, a1, h1, a2, h2, a3, h3, a4, h4, a5, h5, a6, h6, a7, h7, a8, h8, a9, h9, a10, h10, a11, h11, a12, h12, a13, h13, a14, h14, h⟩ := h
    cases h
    obtain rfl := dI_ok h0
    obtain rfl := dRuint8_ok h1
    obtain rfl := dRPiece_ok h2
    obtain rfl := dI_ok h3
    obtain rfl := dI_ok h4
    obtain rfl := dI_ok h5
    obtain rfl := dI_ok h6
    obtain rfl := dB_ok h7
    obtain rfl := dB_ok h8
    obtain rfl := dI_ok h9
    obtain rfl := dB_ok h10
    obtain rfl := dRSpan_ok h11
    obtain rfl := dI_ok h12
    obtain rfl := dI_ok h13
    obtain rfl := dB_ok h14
    rfl
  · cases h
theorem dRecvt_ok {L : Fr} {a : SRecv} (h : dRecvt L = some a) : L = eRecvt a := by
  unfold dRecvt at h
  split at h
  · simp only [Option.bind_eq_some_iff] at h
    obtain ⟨a0, h0, a1, h1, a2, h2, a3, h3, a4, h4, a5, h5, a6, h6, a7, h7, a8, h8, a9, h9, a10, h10, a11, h11, a12, h12, a13, h13, a14, h14, h⟩ := h
    cases h
    obtain rfl := dI_ok h0
    obtain rfl := dRuint8_ok h1
    obtain rfl := dRPiece_ok h2
    obtain rfl := dI_ok h3
    obtain rfl := dI_ok h4
    obtain rfl := dI_ok h5
    obtain rfl := dI_ok h6
    obtain rfl := dB_ok h7
    obtain rfl := dB_ok h8
    obtain rfl := dI_ok h9
    obtain rfl := dB_ok h10
    obtain rfl := dRSpan_ok h11
    obtain rfl := dI_ok h12
    obtain rfl := dI_ok h13
    obtain rfl := dB_ok h14
    rfl
  · cases h
theorem dPiece_ok {L : Fr} {a : SPiece} (h : dPiece L = some a) : L = ePiece a := by
  unfold dPiece at h
  split at h
  · simp only [Option.bind_eq_some_iff] at h
    obtain ⟨a0, h0, a1, h1, h⟩ := h
    cases h
    obtain rfl := dI_ok h0
    obtain rfl := dRuint8_ok h1
    rfl
  · cases h
theorem dPiecet_ok {L : Fr} {a : SPiece} (h : dPiecet L = some a) : L = ePiecet a := by
  unfold dPiecet at h
  split at h
  · simp only [Option.bind_eq_some_iff] at h
    obtain ⟨a0, h0, a1, h1, h⟩ := h
    cases h
    obtain rfl := dI_ok h0
    obtain rfl := dRuint8_ok h1
    rfl
  · cases h
theorem dSpan_ok {L : Fr} {a : SSpan} (h : dSpan L = some a) : L = eSpan a := by
  unfold dSpan at h
  split at h
  · simp only [Option.bind_eq_some_iff] at h
    obtain ⟨a0, h0, a1, h1, h⟩ := h
    cases h
    obtain rfl := dI_ok h0
    obtain rfl := dI_ok h1
    rfl
  · cases h
theorem dSegment_ok {L : Fr} {a : SSegment} (h : dSegment L = some a) : L = eSegment a := by
  unfold dSegment at h
  split at h
  · simp only [Option.bind_eq_some_iff] at h
    obtain ⟨a0, h0, a1, h1, a2, h2, a3, h3, a4, h4, a5, h5, a6, h6, a7, h7, a8, h8, a9, h9, a10, h10, a11, h11, a12, h12, a13, h13, a14, h14, h⟩ := h
    cases h
    obtain rfl := dI_ok h0
    obtain rfl := dI_ok h1
    obtain rfl := dI_ok h2
    obtain rfl := dI_ok h3
    obtain rfl := dI_ok h4
    obtain rfl := dI_ok h5
    obtain rfl := dI_ok h6
    obtain rfl := dI_ok h7
    obtain rfl := dI_ok h8
    obtain rfl := dB_ok h9
    obtain rfl := dB_ok h10
    obtain rfl := dI_ok h11
    obtain rfl := dI_ok h12
    obtain rfl := dRBlock_ok h13
    obtain rfl := dRuint8_ok h14
    rfl
  · cases h
theorem dSegmentt_ok {L : Fr} {a : SSegment} (h : dSegmentt L = some a) : L = eSegmentt a := by
  unfold dSegmentt at h
  split at h
  · simp only [Option.bind_eq_some_iff] at h
    obtain ⟨a0, h0, a1, h1, a2, h2, a3, h3, a4, h4, a5, h5, a6, h6, a7, h7, a8, h8, a9, h9, a10, h10, a11, h11, a12, h12, a13, h13, a14, h14, h⟩ := h
    cases h
    obtain rfl := dI_ok h0
    obtain rfl := dI_ok h1
    obtain rfl := dI_ok h2
    obtain rfl := dI_ok h3
    obtain rfl := dI_ok h4
    obtain rfl := dI_ok h5
    obtain rfl := dI_ok h6
    obtain rfl := dI_ok h7
    obtain rfl := dI_ok h8
    obtain rfl := dB_ok h9
    obtain rfl := dB_ok h10
    obtain rfl := dI_ok h11
    obtain rfl := dI_ok h12
    obtain rfl := dRBlock_ok h13
    obtain rfl := dRuint8_ok h14
    rfl
  · cases h
theorem dBlock_ok {L : Fr} {a : SBlock} (h : dBlock L = some a) : L = eBlock a := by
  unfold dBlock at h
  split at h
  · simp only [Option.bind_eq_some_iff] at h
    obtain ⟨a0, h0, a1, h1, h⟩ := h
    cases h
    obtain rfl := dI_ok h0
    obtain rfl := dI_ok h1
    rfl
  · cases h
theorem puint8_ok : ∀ {L : Fr} {xs : List Int}, puint8_ L = some xs → TV.los U L = (xs.map cuint8).flatten
  | [], xs, h => by cases h; rfl
  | y0 :: r, xs, h => by
    simp only [puint8_, Option.bind_eq_some_iff] at h
    obtain ⟨a0, h0, xs', h', h⟩ := h
    cases h
    have ih := puint8_ok h'
    obtain rfl := dI_ok h0
    show _ :: TV.los U r = _
    rw [ih]; rfl
theorem pPiece_ok : ∀ {L : Fr} {xs : List SPiece}, pPiece_ L = some xs → TV.los U L = (xs.map cPiece).flatten
  | [], xs, h => by cases h; rfl
  | [_], xs, h => by cases h
  | y0 :: y1 :: r, xs, h => by
    simp only [pPiece_, Option.bind_eq_some_iff] at h
    obtain ⟨a0, h0, a1, h1, xs', h', h⟩ := h
    cases h
    have ih := pPiece_ok h'
    obtain rfl := dI_ok h0
    obtain rfl := dRuint8_ok h1
    show _ :: _ :: TV.los U r = _
    rw [ih]; rfl
theorem pSpan_ok : ∀ {L : Fr} {xs : List SSpan}, pSpan_ L = some xs → TV.los U L = (xs.map cSpan).flatten
  | [], xs, h => by cases h; rfl
  | [_], xs, h => by cases h
  | y0 :: y1 :: r, xs, h => by
    simp only [pSpan_, Option.bind_eq_some_iff] at h
    obtain ⟨a0, h0, a1, h1, xs', h', h⟩ := h
    cases h
    have ih := pSpan_ok h'
    obtain rfl := dI_ok h0
    obtain rfl := dI_ok h1
    show _ :: _ :: TV.los U r = _
    rw [ih]; rfl
theorem pBlock_ok : ∀ {L : Fr} {xs : List SBlock}, pBlock_ L = some xs → TV.los U L = (xs.map cBlock).flatten
  | [], xs, h => by cases h; rfl
  | [_], xs, h => by cases h
  | y0 :: y1 :: r, xs, h => by
    simp only [pBlock_, Option.bind_eq_some_iff] at h
    obtain ⟨a0, h0, a1, h1, xs', h', h⟩ := h
    cases h
    have ih := pBlock_ok h'
    obtain rfl := dI_ok h0
    obtain rfl := dI_ok h1
    show _ :: _ :: TV.los U r = _
    rw [ih]; rfl
theorem dUPiece_ok {y : TV RW} {a : List SPiece} (h : dUPiece y = some a) : y = .un none (.rPiece a) := by
  unfold dUPiece at h
  split at h <;> cases h
  rfl
theorem dXPiece_ok {y : TV RW} {a : SPiece} (h : dXPiece y = some a) : ∃ fl, y = .row fl (.rPiece [a]) := by
  unfold dXPiece at h
  split at h <;> cases h
  exact ⟨_, rfl⟩
theorem UOk : UniOk U where
  get := fun r i => match r with
    | .ruint8 xs => by kernel_rfl
    | .rPiece xs => by kernel_rfl
    | .rSpan xs => by kernel_rfl
    | .rBlock xs => by kernel_rfl
  app := fun r q x h => by cases r <;> cases q <;> first | (cases h; done) | (cases h; exact ⟨rfl, rfl, List.length_append, (rg_app (c := cuint8) (z := zuint8)).symm⟩) | (cases h; exact ⟨rfl, rfl, List.length_append, (rg_app (c := cPiece) (z := zPiece)).symm⟩) | (cases h; exact ⟨rfl, rfl, List.length_append, (rg_app (c := cSpan) (z := zSpan)).symm⟩) | (cases h; exact ⟨rfl, rfl, List.length_append, (rg_app (c := cBlock) (z := zBlock)).symm⟩)
  sub := fun lo n r h => by cases r <;> first | exact ⟨rfl, sub_len h, (rg_sub (c := cuint8) (z := zuint8) h).symm⟩ | exact ⟨rfl, sub_len h, (rg_sub (c := cPiece) (z := zPiece) h).symm⟩ | exact ⟨rfl, sub_len h, (rg_sub (c := cSpan) (z := zSpan) h).symm⟩ | exact ⟨rfl, sub_len h, (rg_sub (c := cBlock) (z := zBlock) h).symm⟩
  lit := fun t n L r h => by
    unfold U at h
    dsimp only at h
    split at h
    · obtain ⟨xs, h1, rfl, rfl⟩ := bind_lit h
      have e := puint8_ok h1
      exact ⟨rfl, rfl, by rw [e]; exact (rg_lit (c := cuint8) (sz := 1) (z := zuint8) (fun _ => rfl)).symm, by rw [e]; exact all_flat (fun _ => rfl) xs⟩
    · obtain ⟨xs, h1, rfl, rfl⟩ := bind_lit h
      have e := pPiece_ok h1
      exact ⟨rfl, rfl, by rw [e]; exact (rg_lit (c := cPiece) (sz := 2) (z := zPiece) (fun _ => rfl)).symm, by rw [e]; exact all_flat (fun _ => rfl) xs⟩
    · obtain ⟨xs, h1, rfl, rfl⟩ := bind_lit h
      have e := pSpan_ok h1
      exact ⟨rfl, rfl, by rw [e]; exact (rg_lit (c := cSpan) (sz := 2) (z := zSpan) (fun _ => rfl)).symm, by rw [e]; exact all_flat (fun _ => rfl) xs⟩
    · obtain ⟨xs, h1, rfl, rfl⟩ := bind_lit h
      have e := pBlock_ok h1
      exact ⟨rfl, rfl, by rw [e]; exact (rg_lit (c := cBlock) (sz := 2) (z := zBlock) (fun _ => rfl)).symm, by rw [e]; exact all_flat (fun _ => rfl) xs⟩
    · cases h
  set := fun r q off cs r' hq h => by
    unfold U at h hq
    dsimp only at h hq
    split at h
    · cases h
    · obtain ⟨x, h1, h2⟩ := Option.bind_eq_some_iff.1 h
      cases h2
      obtain ⟨a1, a2, a3⟩ := set_fin (U := U) (c := cPiece) (z := zPiece) (e := ePiece) (fun _ => by kernel_rfl) (fun _ => rfl) hq (dPiece_ok h1)
      exact ⟨rfl, a1, a2, a3⟩
    · obtain ⟨x, h1, h2⟩ := Option.bind_eq_some_iff.1 h
      cases h2
      obtain ⟨a1, a2, a3⟩ := set_fin (U := U) (c := cSpan) (z := zSpan) (e := eSpan) (fun _ => by kernel_rfl) (fun _ => rfl) hq (dSpan_ok h1)
      exact ⟨rfl, a1, a2, a3⟩
    · obtain ⟨x, h1, h2⟩ := Option.bind_eq_some_iff.1 h
      cases h2
      obtain ⟨a1, a2, a3⟩ := set_fin (U := U) (c := cBlock) (z := zBlock) (e := eBlock) (fun _ => by kernel_rfl) (fun _ => rfl) hq (dBlock_ok h1)
      exact ⟨rfl, a1, a2, a3⟩
  str := fun r l h => by
    unfold U at h
    dsimp only at h
    split at h
    · cases h
      exact ⟨rfl, bytes_rg (fun _ => rfl) l⟩
    · cases h
    · cases h
    · cases h

theorem ok27 {R : Type} {r : R} : ∀ {n : Nat}, (∀ m, n = m + 1 → CallOk2 (R := R) U (callP capB m) (runF tbl m)) → ∀ {av : Fr} {cs : List Fr} {k : Ret2 RW → Option R}, ca27 capB n av cs k = some r → ∃ q : Ret2 RW, runF tbl n 27 (TV.los U av) (cs.map (TV.los U)) = some (q.lo U) ∧ k q = some r := by
  intro n ih av cs k h
  unfold ca27 at h
  split at h
  · simp only [Option.bind_eq_some_iff] at h
    obtain ⟨c0_, h0, p0, g0, h⟩ := h
    obtain rfl := dA_ok h0
    obtain rfl := dRecv_ok g0
    cases n with
    | zero => cases h
    | succ n =>
      exact run2_ok UOk (ih n rfl) (f := fn27) rfl ((run27 capB n p0 k).symm.trans h)
  · cases h
theorem ok53 {R : Type} {r : R} : ∀ {n : Nat}, (∀ m, n = m + 1 → CallOk2 (R := R) U (callP capB m) (runF tbl m)) → ∀ {av : Fr} {cs : List Fr} {k : Ret2 RW → Option R}, ca53 capB n av cs k = some r → ∃ q : Ret2 RW, runF tbl n 53 (TV.los U av) (cs.map (TV.los U)) = some (q.lo U) ∧ k q = some r := by
  intro n ih av cs k h
  unfold ca53 at h
  split at h
  · simp only [Option.bind_eq_some_iff] at h
    obtain ⟨c0_, h0, p0, g0, h⟩ := h
    obtain rfl := dA_ok h0
    obtain rfl := dRecv_ok g0
    cases n with
    | zero => cases h
    | succ n =>
      exact run2_ok UOk (ih n rfl) (f := fn53) rfl ((run53 capB n p0 k).symm.trans h)
  · cases h
theorem ok55 {R : Type} {r : R} : ∀ {n : Nat}, (∀ m, n = m + 1 → CallOk2 (R := R) U (callP capB m) (runF tbl m)) → ∀ {av : Fr} {cs : List Fr} {k : Ret2 RW → Option R}, ca55 capB n av cs k = some r → ∃ q : Ret2 RW, runF tbl n 55 (TV.los U av) (cs.map (TV.los U)) = some (q.lo U) ∧ k q = some r := by
  intro n ih av cs k h
  unfold ca55 at h
  split at h
  · simp only [Option.bind_eq_some_iff] at h
    obtain ⟨c0_, h0, p0, g0, h⟩ := h
    obtain rfl := dA_ok h0
    obtain rfl := dRecv_ok g0
    cases n with
    | zero => cases h
    | succ n =>
      exact run2_ok UOk (ih n rfl) (f := fn55) rfl ((run55 capB n p0 k).symm.trans h)
  · cases h
theorem ok71 {R : Type} {r : R} : ∀ {n : Nat}, (∀ m, n = m + 1 → CallOk2 (R := R) U (callP capB m) (runF tbl m)) → ∀ {av : Fr} {cs : List Fr} {k : Ret2 RW → Option R}, ca71 capB n av cs k = some r → ∃ q : Ret2 RW, runF tbl n 71 (TV.los U av) (cs.map (TV.los U)) = some (q.lo U) ∧ k q = some r := by
  intro n ih av cs k h
  unfold ca71 at h
  split at h
  · simp only [Option.bind_eq_some_iff] at h
    obtain ⟨c0_, h0, p0, g0, h⟩ := h
    obtain rfl := dA_ok h0
    obtain rfl := dPiece_ok g0
    cases n with
    | zero => cases h
    | succ n =>
      exact run2_ok UOk (ih n rfl) (f := fn71) rfl ((run71 capB n p0 k).symm.trans h)
  · cases h
theorem ok1008 {R : Type} {r : R} : ∀ {n : Nat}, (∀ m, n = m + 1 → CallOk2 (R := R) U (callP capB m) (runF tbl m)) → ∀ {av : Fr} {cs : List Fr} {k : Ret2 RW → Option R}, ca1008 capB n av cs k = some r → ∃ q : Ret2 RW, runF tbl n 1008 (TV.los U av) (cs.map (TV.los U)) = some (q.lo U) ∧ k q = some r := by
  intro n ih av cs k h
  unfold ca1008 at h
  split at h
  · simp only [Option.bind_eq_some_iff] at h
    obtain ⟨p0, h0, u1, h1, q0, i0, h⟩ := h
    obtain rfl := dRSpan_ok h0
    obtain rfl := dC_ok h1
    obtain rfl := dRecv_ok i0
    cases n with
    | zero => cases h
    | succ n =>
      exact run2_ok UOk (ih n rfl) (f := fn1008) rfl ((run1008 capB n p0 q0 k).symm.trans h)
  · cases h
theorem ok1007 {R : Type} {r : R} : ∀ {n : Nat}, (∀ m, n = m + 1 → CallOk2 (R := R) U (callP capB m) (runF tbl m)) → ∀ {av : Fr} {cs : List Fr} {k : Ret2 RW → Option R}, ca1007 capB n av cs k = some r → ∃ q : Ret2 RW, runF tbl n 1007 (TV.los U av) (cs.map (TV.los U)) = some (q.lo U) ∧ k q = some r := by
  intro n ih av cs k h
  unfold ca1007 at h
  split at h
  · simp only [Option.bind_eq_some_iff] at h
    obtain ⟨u0, h0, q0, i0, h⟩ := h
    obtain rfl := dC_ok h0
    obtain rfl := dRecv_ok i0
    cases n with
    | zero => cases h
    | succ n =>
      exact run2_ok UOk (ih n rfl) (f := fn1007) rfl ((run1007 capB n q0 k).symm.trans h)
  · cases h
theorem ok72 {R : Type} {r : R} : ∀ {n : Nat}, (∀ m, n = m + 1 → CallOk2 (R := R) U (callP capB m) (runF tbl m)) → ∀ {av : Fr} {cs : List Fr} {k : Ret2 RW → Option R}, ca72 capB n av cs k = some r → ∃ q : Ret2 RW, runF tbl n 72 (TV.los U av) (cs.map (TV.los U)) = some (q.lo U) ∧ k q = some r := by
  intro n ih av cs k h
  unfold ca72 at h
  split at h
  · simp only [Option.bind_eq_some_iff] at h
    obtain ⟨p0, h0, c1_, h1, p1, g1, h⟩ := h
    obtain rfl := dRSpan_ok h0
    obtain rfl := dA_ok h1
    obtain rfl := dSpan_ok g1
    cases n with
    | zero => cases h
    | succ n =>
      exact run2_ok UOk (ih n rfl) (f := fn72) rfl ((run72 capB n p0 p1 k).symm.trans h)
  · cases h
theorem ok56 {R : Type} {r : R} : ∀ {n : Nat}, (∀ m, n = m + 1 → CallOk2 (R := R) U (callP capB m) (runF tbl m)) → ∀ {av : Fr} {cs : List Fr} {k : Ret2 RW → Option R}, ca56 capB n av cs k = some r → ∃ q : Ret2 RW, runF tbl n 56 (TV.los U av) (cs.map (TV.los U)) = some (q.lo U) ∧ k q = some r := by
  intro n ih av cs k h
  unfold ca56 at h
  split at h
  · simp only [Option.bind_eq_some_iff] at h
    obtain ⟨p0, h0, c1_, h1, p1, g1, h⟩ := h
    obtain rfl := dRSpan_ok h0
    obtain rfl := dA_ok h1
    obtain rfl := dSpan_ok g1
    cases n with
    | zero => cases h
    | succ n =>
      exact run2_ok UOk (ih n rfl) (f := fn56) rfl ((run56 capB n p0 p1 k).symm.trans h)
  · cases h
theorem ok28 {R : Type} {r : R} : ∀ {n : Nat}, (∀ m, n = m + 1 → CallOk2 (R := R) U (callP capB m) (runF tbl m)) → ∀ {av : Fr} {cs : List Fr} {k : Ret2 RW → Option R}, ca28 capB n av cs k = some r → ∃ q : Ret2 RW, runF tbl n 28 (TV.los U av) (cs.map (TV.los U)) = some (q.lo U) ∧ k q = some r := by
  intro n ih av cs k h
  unfold ca28 at h
  split at h
  · simp only [Option.bind_eq_some_iff] at h
    obtain ⟨c0_, h0, p0, g0, h⟩ := h
    obtain rfl := dA_ok h0
    obtain rfl := dRecv_ok g0
    cases n with
    | zero => cases h
    | succ n =>
      exact run2_ok UOk (ih n rfl) (f := fn28) rfl ((run28 capB n p0 k).symm.trans h)
  · cases h
theorem ok10 {R : Type} {r : R} : ∀ {n : Nat}, (∀ m, n = m + 1 → CallOk2 (R := R) U (callP capB m) (runF tbl m)) → ∀ {av : Fr} {cs : List Fr} {k : Ret2 RW → Option R}, ca10 capB n av cs k = some r → ∃ q : Ret2 RW, runF tbl n 10 (TV.los U av) (cs.map (TV.los U)) = some (q.lo U) ∧ k q = some r := by
  intro n ih av cs k h
  unfold ca10 at h
  split at h
  · simp only [Option.bind_eq_some_iff] at h
    obtain ⟨c0_, h0, p0, g0, h⟩ := h
    obtain rfl := dA_ok h0
    obtain rfl := dRecv_ok g0
    cases n with
    | zero => cases h
    | succ n =>
      exact run2_ok UOk (ih n rfl) (f := fn10) rfl ((run10 capB n p0 k).symm.trans h)
  · cases h
theorem ok57 {R : Type} {r : R} : ∀ {n : Nat}, (∀ m, n = m + 1 → CallOk2 (R := R) U (callP capB m) (runF tbl m)) → ∀ {av : Fr} {cs : List Fr} {k : Ret2 RW → Option R}, ca57 capB n av cs k = some r → ∃ q : Ret2 RW, runF tbl n 57 (TV.los U av) (cs.map (TV.los U)) = some (q.lo U) ∧ k q = some r := by
  intro n ih av cs k h
  unfold ca57 at h
  split at h
  · simp only [Option.bind_eq_some_iff] at h
    obtain ⟨p0, h0, h⟩ := h
    obtain rfl := dRSpan_ok h0
    cases n with
    | zero => cases h
    | succ n =>
      obtain ⟨h1, h2⟩ := cond_some h
      exact ⟨⟨.row true (.rSpan p0), [], []⟩, clone57 n p0 h1, h2⟩
  · cases h
theorem ok52 {R : Type} {r : R} : ∀ {n : Nat}, (∀ m, n = m + 1 → CallOk2 (R := R) U (callP capB m) (runF tbl m)) → ∀ {av : Fr} {cs : List Fr} {k : Ret2 RW → Option R}, ca52 capB n av cs k = some r → ∃ q : Ret2 RW, runF tbl n 52 (TV.los U av) (cs.map (TV.los U)) = some (q.lo U) ∧ k q = some r := by
  intro n ih av cs k h
  unfold ca52 at h
  split at h
  · simp only [Option.bind_eq_some_iff] at h
    obtain ⟨p0, h0, h⟩ := h
    obtain rfl := dRuint8_ok h0
    cases n with
    | zero => cases h
    | succ n =>
      obtain ⟨h1, h2⟩ := cond_some h
      exact ⟨⟨.row true (.ruint8 p0), [], []⟩, clone52 n p0 h1, h2⟩
  · cases h
theorem ok29 {R : Type} {r : R} : ∀ {n : Nat}, (∀ m, n = m + 1 → CallOk2 (R := R) U (callP capB m) (runF tbl m)) → ∀ {av : Fr} {cs : List Fr} {k : Ret2 RW → Option R}, ca29 capB n av cs k = some r → ∃ q : Ret2 RW, runF tbl n 29 (TV.los U av) (cs.map (TV.los U)) = some (q.lo U) ∧ k q = some r := by
  intro n ih av cs k h
  unfold ca29 at h
  split at h
  · simp only [Option.bind_eq_some_iff] at h
    obtain ⟨c0_, h0, p0, g0, h⟩ := h
    obtain rfl := dA_ok h0
    obtain rfl := dRecv_ok g0
    cases n with
    | zero => cases h
    | succ n =>
      exact run2_ok UOk (ih n rfl) (f := fn29) rfl ((run29 capB n p0 k).symm.trans h)
  · cases h
theorem ok51 {R : Type} {r : R} : ∀ {n : Nat}, (∀ m, n = m + 1 → CallOk2 (R := R) U (callP capB m) (runF tbl m)) → ∀ {av : Fr} {cs : List Fr} {k : Ret2 RW → Option R}, ca51 capB n av cs k = some r → ∃ q : Ret2 RW, runF tbl n 51 (TV.los U av) (cs.map (TV.los U)) = some (q.lo U) ∧ k q = some r := by
  intro n ih av cs k h
  unfold ca51 at h
  split at h
  · simp only [Option.bind_eq_some_iff] at h
    obtain ⟨p0, h0, p1, h1, p2, h2, h⟩ := h
    obtain rfl := dI_ok h0
    obtain rfl := dI_ok h1
    obtain rfl := dI_ok h2
    cases n with
    | zero => cases h
    | succ n =>
      exact run2_ok UOk (ih n rfl) (f := fn51) rfl ((run51 capB n p0 p1 p2 k).symm.trans h)
  · cases h
theorem ok49 {R : Type} {r : R} : ∀ {n : Nat}, (∀ m, n = m + 1 → CallOk2 (R := R) U (callP capB m) (runF tbl m)) → ∀ {av : Fr} {cs : List Fr} {k : Ret2 RW → Option R}, ca49 capB n av cs k = some r → ∃ q : Ret2 RW, runF tbl n 49 (TV.los U av) (cs.map (TV.los U)) = some (q.lo U) ∧ k q = some r := by
  intro n ih av cs k h
  unfold ca49 at h
  split at h
  · simp only [Option.bind_eq_some_iff] at h
    obtain ⟨c0_, h0, p0, g0, h⟩ := h
    obtain rfl := dA_ok h0
    obtain rfl := dRecv_ok g0
    cases n with
    | zero => cases h
    | succ n =>
      exact run2_ok UOk (ih n rfl) (f := fn49) rfl ((run49 capB n p0 k).symm.trans h)
  · cases h
theorem ok36 {R : Type} {r : R} : ∀ {n : Nat}, (∀ m, n = m + 1 → CallOk2 (R := R) U (callP capB m) (runF tbl m)) → ∀ {av : Fr} {cs : List Fr} {k : Ret2 RW → Option R}, ca36 capB n av cs k = some r → ∃ q : Ret2 RW, runF tbl n 36 (TV.los U av) (cs.map (TV.los U)) = some (q.lo U) ∧ k q = some r := by
  intro n ih av cs k h
  unfold ca36 at h
  split at h
  · simp only [Option.bind_eq_some_iff] at h
    obtain ⟨p0, h0, p1, h1, h⟩ := h
    obtain rfl := dI_ok h0
    obtain rfl := dI_ok h1
    cases n with
    | zero => cases h
    | succ n =>
      exact run2_ok UOk (ih n rfl) (f := fn36) rfl ((run36 capB n p0 p1 k).symm.trans h)
  · cases h
theorem ok32 {R : Type} {r : R} : ∀ {n : Nat}, (∀ m, n = m + 1 → CallOk2 (R := R) U (callP capB m) (runF tbl m)) → ∀ {av : Fr} {cs : List Fr} {k : Ret2 RW → Option R}, ca32 capB n av cs k = some r → ∃ q : Ret2 RW, runF tbl n 32 (TV.los U av) (cs.map (TV.los U)) = some (q.lo U) ∧ k q = some r := by
  intro n ih av cs k h
  unfold ca32 at h
  split at h
  · simp only [Option.bind_eq_some_iff] at h
    obtain ⟨c0_, h0, p0, g0, p1, h1, h⟩ := h
    obtain rfl := dA_ok h0
    obtain rfl := dRecv_ok g0
    obtain rfl := dRBlock_ok h1
    cases n with
    | zero => cases h
    | succ n =>
      exact run2_ok UOk (ih n rfl) (f := fn32) rfl ((run32 capB n p0 p1 k).symm.trans h)
  · cases h
theorem ok20 {R : Type} {r : R} : ∀ {n : Nat}, (∀ m, n = m + 1 → CallOk2 (R := R) U (callP capB m) (runF tbl m)) → ∀ {av : Fr} {cs : List Fr} {k : Ret2 RW → Option R}, ca20 capB n av cs k = some r → ∃ q : Ret2 RW, runF tbl n 20 (TV.los U av) (cs.map (TV.los U)) = some (q.lo U) ∧ k q = some r := by
  intro n ih av cs k h
  unfold ca20 at h
  split at h
  · simp only [Option.bind_eq_some_iff] at h
    obtain ⟨c0_, h0, p0, g0, p1, h1, h⟩ := h
    obtain rfl := dA_ok h0
    obtain rfl := dRecv_ok g0
    obtain rfl := dI_ok h1
    cases n with
    | zero => cases h
    | succ n =>
      exact run2_ok UOk (ih n rfl) (f := fn20) rfl ((run20 capB n p0 p1 k).symm.trans h)
  · cases h
theorem ok46 {R : Type} {r : R} : ∀ {n : Nat}, (∀ m, n = m + 1 → CallOk2 (R := R) U (callP capB m) (runF tbl m)) → ∀ {av : Fr} {cs : List Fr} {k : Ret2 RW → Option R}, ca46 capB n av cs k = some r → ∃ q : Ret2 RW, runF tbl n 46 (TV.los U av) (cs.map (TV.los U)) = some (q.lo U) ∧ k q = some r := by
  intro n ih av cs k h
  unfold ca46 at h
  split at h
  · simp only [Option.bind_eq_some_iff] at h
    obtain ⟨c0_, h0, p0, g0, h⟩ := h
    obtain rfl := dA_ok h0
    obtain rfl := dRecv_ok g0
    cases n with
    | zero => cases h
    | succ n =>
      exact run2_ok UOk (ih n rfl) (f := fn46) rfl ((run46 capB n p0 k).symm.trans h)
  · cases h
theorem ok42 {R : Type} {r : R} : ∀ {n : Nat}, (∀ m, n = m + 1 → CallOk2 (R := R) U (callP capB m) (runF tbl m)) → ∀ {av : Fr} {cs : List Fr} {k : Ret2 RW → Option R}, ca42 capB n av cs k = some r → ∃ q : Ret2 RW, runF tbl n 42 (TV.los U av) (cs.map (TV.los U)) = some (q.lo U) ∧ k q = some r := by
  intro n ih av cs k h
  unfold ca42 at h
  split at h
  · simp only [Option.bind_eq_some_iff] at h
    obtain ⟨c0_, h0, p0, g0, h⟩ := h
    obtain rfl := dA_ok h0
    obtain rfl := dRecv_ok g0
    cases n with
    | zero => cases h
    | succ n =>
      exact run2_ok UOk (ih n rfl) (f := fn42) rfl ((run42 capB n p0 k).symm.trans h)
  · cases h
theorem ok47 {R : Type} {r : R} : ∀ {n : Nat}, (∀ m, n = m + 1 → CallOk2 (R := R) U (callP capB m) (runF tbl m)) → ∀ {av : Fr} {cs : List Fr} {k : Ret2 RW → Option R}, ca47 capB n av cs k = some r → ∃ q : Ret2 RW, runF tbl n 47 (TV.los U av) (cs.map (TV.los U)) = some (q.lo U) ∧ k q = some r := by
  intro n ih av cs k h
  unfold ca47 at h
  split at h
  · simp only [Option.bind_eq_some_iff] at h
    obtain ⟨p0, h0, h⟩ := h
    obtain rfl := dRPiece_ok h0
    cases n with
    | zero => cases h
    | succ n =>
      exact run2_ok UOk (ih n rfl) (f := fn47) rfl ((run47 capB n p0 k).symm.trans h)
  · cases h
theorem ok48 {R : Type} {r : R} : ∀ {n : Nat}, (∀ m, n = m + 1 → CallOk2 (R := R) U (callP capB m) (runF tbl m)) → ∀ {av : Fr} {cs : List Fr} {k : Ret2 RW → Option R}, ca48 capB n av cs k = some r → ∃ q : Ret2 RW, runF tbl n 48 (TV.los U av) (cs.map (TV.los U)) = some (q.lo U) ∧ k q = some r := by
  intro n ih av cs k h
  unfold ca48 at h
  split at h
  · simp only [Option.bind_eq_some_iff] at h
    obtain ⟨c0_, h0, p0, g0, p1, h1, h⟩ := h
    obtain rfl := dA_ok h0
    obtain rfl := dSpan_ok g0
    obtain rfl := dRSpan_ok h1
    cases n with
    | zero => cases h
    | succ n =>
      exact run2_ok UOk (ih n rfl) (f := fn48) rfl ((run48 capB n p0 p1 k).symm.trans h)
  · cases h
theorem ok16 {R : Type} {r : R} : ∀ {n : Nat}, (∀ m, n = m + 1 → CallOk2 (R := R) U (callP capB m) (runF tbl m)) → ∀ {av : Fr} {cs : List Fr} {k : Ret2 RW → Option R}, ca16 capB n av cs k = some r → ∃ q : Ret2 RW, runF tbl n 16 (TV.los U av) (cs.map (TV.los U)) = some (q.lo U) ∧ k q = some r := by
  intro n ih av cs k h
  unfold ca16 at h
  split at h
  · simp only [Option.bind_eq_some_iff] at h
    obtain ⟨c0_, h0, p0, g0, h⟩ := h
    obtain rfl := dA_ok h0
    obtain rfl := dRecv_ok g0
    cases n with
    | zero => cases h
    | succ n =>
      exact run2_ok UOk (ih n rfl) (f := fn16) rfl ((run16 capB n p0 k).symm.trans h)
  · cases h
theorem ok37 {R : Type} {r : R} : ∀ {n : Nat}, (∀ m, n = m + 1 → CallOk2 (R := R) U (callP capB m) (runF tbl m)) → ∀ {av : Fr} {cs : List Fr} {k : Ret2 RW → Option R}, ca37 capB n av cs k = some r → ∃ q : Ret2 RW, runF tbl n 37 (TV.los U av) (cs.map (TV.los U)) = some (q.lo U) ∧ k q = some r := by
  intro n ih av cs k h
  unfold ca37 at h
  split at h
  · simp only [Option.bind_eq_some_iff] at h
    obtain ⟨c0_, h0, p0, g0, h⟩ := h
    obtain rfl := dA_ok h0
    obtain rfl := dRecv_ok g0
    cases n with
    | zero => cases h
    | succ n =>
      exact run2_ok UOk (ih n rfl) (f := fn37) rfl ((run37 capB n p0 k).symm.trans h)
  · cases h
theorem ok50 {R : Type} {r : R} : ∀ {n : Nat}, (∀ m, n = m + 1 → CallOk2 (R := R) U (callP capB m) (runF tbl m)) → ∀ {av : Fr} {cs : List Fr} {k : Ret2 RW → Option R}, ca50 capB n av cs k = some r → ∃ q : Ret2 RW, runF tbl n 50 (TV.los U av) (cs.map (TV.los U)) = some (q.lo U) ∧ k q = some r := by
  intro n ih av cs k h
  unfold ca50 at h
  split at h
  · simp only [Option.bind_eq_some_iff] at h
    obtain ⟨c0_, h0, p0, g0, h⟩ := h
    obtain rfl := dA_ok h0
    obtain rfl := dRecv_ok g0
    cases n with
    | zero => cases h
    | succ n =>
      exact run2_ok UOk (ih n rfl) (f := fn50) rfl ((run50 capB n p0 k).symm.trans h)
  · cases h
theorem ok65 {R : Type} {r : R} : ∀ {n : Nat}, (∀ m, n = m + 1 → CallOk2 (R := R) U (callP capB m) (runF tbl m)) → ∀ {av : Fr} {cs : List Fr} {k : Ret2 RW → Option R}, ca65 capB n av cs k = some r → ∃ q : Ret2 RW, runF tbl n 65 (TV.los U av) (cs.map (TV.los U)) = some (q.lo U) ∧ k q = some r := by
  intro n ih av cs k h
  unfold ca65 at h
  split at h
  · simp only [Option.bind_eq_some_iff] at h
    obtain ⟨p0, h0, h⟩ := h
    obtain rfl := dI_ok h0
    cases n with
    | zero => cases h
    | succ n =>
      exact run2_ok UOk (ih n rfl) (f := fn65) rfl ((run65 capB n p0 k).symm.trans h)
  · cases h
theorem ok39 {R : Type} {r : R} : ∀ {n : Nat}, (∀ m, n = m + 1 → CallOk2 (R := R) U (callP capB m) (runF tbl m)) → ∀ {av : Fr} {cs : List Fr} {k : Ret2 RW → Option R}, ca39 capB n av cs k = some r → ∃ q : Ret2 RW, runF tbl n 39 (TV.los U av) (cs.map (TV.los U)) = some (q.lo U) ∧ k q = some r := by
  intro n ih av cs k h
  unfold ca39 at h
  split at h
  · simp only [Option.bind_eq_some_iff] at h
    obtain ⟨p0, h0, p1, h1, h⟩ := h
    obtain rfl := dI_ok h0
    obtain rfl := dI_ok h1
    cases n with
    | zero => cases h
    | succ n =>
      exact run2_ok UOk (ih n rfl) (f := fn39) rfl ((run39 capB n p0 p1 k).symm.trans h)
  · cases h
theorem ok41 {R : Type} {r : R} : ∀ {n : Nat}, (∀ m, n = m + 1 → CallOk2 (R := R) U (callP capB m) (runF tbl m)) → ∀ {av : Fr} {cs : List Fr} {k : Ret2 RW → Option R}, ca41 capB n av cs k = some r → ∃ q : Ret2 RW, runF tbl n 41 (TV.los U av) (cs.map (TV.los U)) = some (q.lo U) ∧ k q = some r := by
  intro n ih av cs k h
  unfold ca41 at h
  split at h
  · simp only [Option.bind_eq_some_iff] at h
    obtain ⟨c0_, h0, p0, g0, p1, h1, h⟩ := h
    obtain rfl := dA_ok h0
    obtain rfl := dRecv_ok g0
    obtain rfl := dRBlock_ok h1
    cases n with
    | zero => cases h
    | succ n =>
      exact run2_ok UOk (ih n rfl) (f := fn41) rfl ((run41 capB n p0 p1 k).symm.trans h)
  · cases h
theorem ok24 {R : Type} {r : R} : ∀ {n : Nat}, (∀ m, n = m + 1 → CallOk2 (R := R) U (callP capB m) (runF tbl m)) → ∀ {av : Fr} {cs : List Fr} {k : Ret2 RW → Option R}, ca24 capB n av cs k = some r → ∃ q : Ret2 RW, runF tbl n 24 (TV.los U av) (cs.map (TV.los U)) = some (q.lo U) ∧ k q = some r := by
  intro n ih av cs k h
  unfold ca24 at h
  split at h
  · simp only [Option.bind_eq_some_iff] at h
    obtain ⟨c0_, h0, p0, g0, p1, h1, h⟩ := h
    obtain rfl := dA_ok h0
    obtain rfl := dRecv_ok g0
    obtain rfl := dI_ok h1
    cases n with
    | zero => cases h
    | succ n =>
      exact run2_ok UOk (ih n rfl) (f := fn24) rfl ((run24 capB n p0 p1 k).symm.trans h)
  · cases h
theorem ok23 {R : Type} {r : R} : ∀ {n : Nat}, (∀ m, n = m + 1 → CallOk2 (R := R) U (callP capB m) (runF tbl m)) → ∀ {av : Fr} {cs : List Fr} {k : Ret2 RW → Option R}, ca23 capB n av cs k = some r → ∃ q : Ret2 RW, runF tbl n 23 (TV.los U av) (cs.map (TV.los U)) = some (q.lo U) ∧ k q = some r := by
  intro n ih av cs k h
  unfold ca23 at h
  split at h
  · simp only [Option.bind_eq_some_iff] at h
    obtain ⟨c0_, h0, p0, g0, h⟩ := h
    obtain rfl := dA_ok h0
    obtain rfl := dRecv_ok g0
    cases n with
    | zero => cases h
    | succ n =>
      exact run2_ok UOk (ih n rfl) (f := fn23) rfl ((run23 capB n p0 k).symm.trans h)
  · cases h
theorem ok25 {R : Type} {r : R} : ∀ {n : Nat}, (∀ m, n = m + 1 → CallOk2 (R := R) U (callP capB m) (runF tbl m)) → ∀ {av : Fr} {cs : List Fr} {k : Ret2 RW → Option R}, ca25 capB n av cs k = some r → ∃ q : Ret2 RW, runF tbl n 25 (TV.los U av) (cs.map (TV.los U)) = some (q.lo U) ∧ k q = some r := by
  intro n ih av cs k h
  unfold ca25 at h
  split at h
  · simp only [Option.bind_eq_some_iff] at h
    obtain ⟨c0_, h0, p0, g0, h⟩ := h
    obtain rfl := dA_ok h0
    obtain rfl := dRecv_ok g0
    cases n with
    | zero => cases h
    | succ n =>
      exact run2_ok UOk (ih n rfl) (f := fn25) rfl ((run25 capB n p0 k).symm.trans h)
  · cases h
theorem ok21 {R : Type} {r : R} : ∀ {n : Nat}, (∀ m, n = m + 1 → CallOk2 (R := R) U (callP capB m) (runF tbl m)) → ∀ {av : Fr} {cs : List Fr} {k : Ret2 RW → Option R}, ca21 capB n av cs k = some r → ∃ q : Ret2 RW, runF tbl n 21 (TV.los U av) (cs.map (TV.los U)) = some (q.lo U) ∧ k q = some r := by
  intro n ih av cs k h
  unfold ca21 at h
  split at h
  · simp only [Option.bind_eq_some_iff] at h
    obtain ⟨p0, h0, p1, h1, h⟩ := h
    obtain rfl := dRuint8_ok h0
    obtain rfl := dRuint8_ok h1
    cases n with
    | zero => cases h
    | succ n =>
      exact run2_ok UOk (ih n rfl) (f := fn21) rfl ((run21 capB n p0 p1 k).symm.trans h)
  · cases h
theorem ok14 {R : Type} {r : R} : ∀ {n : Nat}, (∀ m, n = m + 1 → CallOk2 (R := R) U (callP capB m) (runF tbl m)) → ∀ {av : Fr} {cs : List Fr} {k : Ret2 RW → Option R}, ca14 capB n av cs k = some r → ∃ q : Ret2 RW, runF tbl n 14 (TV.los U av) (cs.map (TV.los U)) = some (q.lo U) ∧ k q = some r := by
  intro n ih av cs k h
  unfold ca14 at h
  split at h
  · simp only [Option.bind_eq_some_iff] at h
    obtain ⟨c0_, h0, p0, g0, c1_, h1, p1, g1, h⟩ := h
    obtain rfl := dA_ok h0
    obtain rfl := dRecv_ok g0
    obtain rfl := dA_ok h1
    obtain rfl := dRecv_ok g1
    cases n with
    | zero => cases h
    | succ n =>
      exact run2_ok UOk (ih n rfl) (f := fn14) rfl ((run14 capB n p0 p1 k).symm.trans h)
  · cases h
theorem ok45 {R : Type} {r : R} : ∀ {n : Nat}, (∀ m, n = m + 1 → CallOk2 (R := R) U (callP capB m) (runF tbl m)) → ∀ {av : Fr} {cs : List Fr} {k : Ret2 RW → Option R}, ca45 capB n av cs k = some r → ∃ q : Ret2 RW, runF tbl n 45 (TV.los U av) (cs.map (TV.los U)) = some (q.lo U) ∧ k q = some r := by
  intro n ih av cs k h
  unfold ca45 at h
  split at h
  · simp only [Option.bind_eq_some_iff] at h
    obtain ⟨c0_, h0, p0, g0, c1_, h1, p1, g1, h⟩ := h
    obtain rfl := dA_ok h0
    obtain rfl := dSegment_ok g0
    obtain rfl := dA_ok h1
    obtain rfl := dSegment_ok g1
    cases n with
    | zero => cases h
    | succ n =>
      exact run2_ok UOk (ih n rfl) (f := fn45) rfl ((run45 capB n p0 p1 k).symm.trans h)
  · cases h
theorem ok15 {R : Type} {r : R} : ∀ {n : Nat}, (∀ m, n = m + 1 → CallOk2 (R := R) U (callP capB m) (runF tbl m)) → ∀ {av : Fr} {cs : List Fr} {k : Ret2 RW → Option R}, ca15 capB n av cs k = some r → ∃ q : Ret2 RW, runF tbl n 15 (TV.los U av) (cs.map (TV.los U)) = some (q.lo U) ∧ k q = some r := by
  intro n ih av cs k h
  unfold ca15 at h
  split at h
  · simp only [Option.bind_eq_some_iff] at h
    obtain ⟨c0_, h0, p0, g0, c1_, h1, p1, g1, h⟩ := h
    obtain rfl := dA_ok h0
    obtain rfl := dSegment_ok g0
    obtain rfl := dA_ok h1
    obtain rfl := dSegment_ok g1
    cases n with
    | zero => cases h
    | succ n =>
      exact run2_ok UOk (ih n rfl) (f := fn15) rfl ((run15 capB n p0 p1 k).symm.trans h)
  · cases h
theorem ok22 {R : Type} {r : R} : ∀ {n : Nat}, (∀ m, n = m + 1 → CallOk2 (R := R) U (callP capB m) (runF tbl m)) → ∀ {av : Fr} {cs : List Fr} {k : Ret2 RW → Option R}, ca22 capB n av cs k = some r → ∃ q : Ret2 RW, runF tbl n 22 (TV.los U av) (cs.map (TV.los U)) = some (q.lo U) ∧ k q = some r := by
  intro n ih av cs k h
  unfold ca22 at h
  split at h
  · simp only [Option.bind_eq_some_iff] at h
    obtain ⟨c0_, h0, p0, g0, h⟩ := h
    obtain rfl := dA_ok h0
    obtain rfl := dRecv_ok g0
    cases n with
    | zero => cases h
    | succ n =>
      exact run2_ok UOk (ih n rfl) (f := fn22) rfl ((run22 capB n p0 k).symm.trans h)
  · cases h
theorem ok26 {R : Type} {r : R} : ∀ {n : Nat}, (∀ m, n = m + 1 → CallOk2 (R := R) U (callP capB m) (runF tbl m)) → ∀ {av : Fr} {cs : List Fr} {k : Ret2 RW → Option R}, ca26 capB n av cs k = some r → ∃ q : Ret2 RW, runF tbl n 26 (TV.los U av) (cs.map (TV.los U)) = some (q.lo U) ∧ k q = some r := by
  intro n ih av cs k h
  unfold ca26 at h
  split at h
  · simp only [Option.bind_eq_some_iff] at h
    obtain ⟨c0_, h0, p0, g0, h⟩ := h
    obtain rfl := dA_ok h0
    obtain rfl := dRecv_ok g0
    cases n with
    | zero => cases h
    | succ n =>
      exact run2_ok UOk (ih n rfl) (f := fn26) rfl ((run26 capB n p0 k).symm.trans h)
  · cases h
theorem ok17 {R : Type} {r : R} : ∀ {n : Nat}, (∀ m, n = m + 1 → CallOk2 (R := R) U (callP capB m) (runF tbl m)) → ∀ {av : Fr} {cs : List Fr} {k : Ret2 RW → Option R}, ca17 capB n av cs k = some r → ∃ q : Ret2 RW, runF tbl n 17 (TV.los U av) (cs.map (TV.los U)) = some (q.lo U) ∧ k q = some r := by
  intro n ih av cs k h
  unfold ca17 at h
  split at h
  · simp only [Option.bind_eq_some_iff] at h
    obtain ⟨p0, h0, p1, h1, p2, h2, p3, h3, p4, h4, p5, h5, h⟩ := h
    obtain rfl := dI_ok h0
    obtain rfl := dI_ok h1
    obtain rfl := dI_ok h2
    obtain rfl := dI_ok h3
    obtain rfl := dB_ok h4
    obtain rfl := dB_ok h5
    cases n with
    | zero => cases h
    | succ n =>
      exact run2_ok UOk (ih n rfl) (f := fn17) rfl ((run17 capB n p0 p1 p2 p3 p4 p5 k).symm.trans h)
  · cases h
theorem ok31 {R : Type} {r : R} : ∀ {n : Nat}, (∀ m, n = m + 1 → CallOk2 (R := R) U (callP capB m) (runF tbl m)) → ∀ {av : Fr} {cs : List Fr} {k : Ret2 RW → Option R}, ca31 capB n av cs k = some r → ∃ q : Ret2 RW, runF tbl n 31 (TV.los U av) (cs.map (TV.los U)) = some (q.lo U) ∧ k q = some r := by
  intro n ih av cs k h
  unfold ca31 at h
  split at h
  · simp only [Option.bind_eq_some_iff] at h
    obtain ⟨p0, h0, p1, h1, h⟩ := h
    obtain rfl := dI_ok h0
    obtain rfl := dI_ok h1
    cases n with
    | zero => cases h
    | succ n =>
      exact run2_ok UOk (ih n rfl) (f := fn31) rfl ((run31 capB n p0 p1 k).symm.trans h)
  · cases h
theorem ok58 {R : Type} {r : R} : ∀ {n : Nat}, (∀ m, n = m + 1 → CallOk2 (R := R) U (callP capB m) (runF tbl m)) → ∀ {av : Fr} {cs : List Fr} {k : Ret2 RW → Option R}, ca58 capB n av cs k = some r → ∃ q : Ret2 RW, runF tbl n 58 (TV.los U av) (cs.map (TV.los U)) = some (q.lo U) ∧ k q = some r := by
  intro n ih av cs k h
  unfold ca58 at h
  split at h
  · simp only [Option.bind_eq_some_iff] at h
    obtain ⟨p0, h0, p1, h1, h⟩ := h
    obtain rfl := dI_ok h0
    obtain rfl := dI_ok h1
    cases n with
    | zero => cases h
    | succ n =>
      exact run2_ok UOk (ih n rfl) (f := fn58) rfl ((run58 capB n p0 p1 k).symm.trans h)
  · cases h
theorem ok30 {R : Type} {r : R} : ∀ {n : Nat}, (∀ m, n = m + 1 → CallOk2 (R := R) U (callP capB m) (runF tbl m)) → ∀ {av : Fr} {cs : List Fr} {k : Ret2 RW → Option R}, ca30 capB n av cs k = some r → ∃ q : Ret2 RW, runF tbl n 30 (TV.los U av) (cs.map (TV.los U)) = some (q.lo U) ∧ k q = some r := by
  intro n ih av cs k h
  unfold ca30 at h
  split at h
  · simp only [Option.bind_eq_some_iff] at h
    obtain ⟨p0, h0, p1, h1, h⟩ := h
    obtain rfl := dI_ok h0
    obtain rfl := dI_ok h1
    cases n with
    | zero => cases h
    | succ n =>
      exact run2_ok UOk (ih n rfl) (f := fn30) rfl ((run30 capB n p0 p1 k).symm.trans h)
  · cases h
theorem ok33 {R : Type} {r : R} : ∀ {n : Nat}, (∀ m, n = m + 1 → CallOk2 (R := R) U (callP capB m) (runF tbl m)) → ∀ {av : Fr} {cs : List Fr} {k : Ret2 RW → Option R}, ca33 capB n av cs k = some r → ∃ q : Ret2 RW, runF tbl n 33 (TV.los U av) (cs.map (TV.los U)) = some (q.lo U) ∧ k q = some r := by
  intro n ih av cs k h
  unfold ca33 at h
  split at h
  · simp only [Option.bind_eq_some_iff] at h
    obtain ⟨c0_, h0, p0, g0, p1, h1, h⟩ := h
    obtain rfl := dA_ok h0
    obtain rfl := dRecv_ok g0
    obtain rfl := dI_ok h1
    cases n with
    | zero => cases h
    | succ n =>
      exact run2_ok UOk (ih n rfl) (f := fn33) rfl ((run33 capB n p0 p1 k).symm.trans h)
  · cases h
theorem ok82 {R : Type} {r : R} : ∀ {n : Nat}, (∀ m, n = m + 1 → CallOk2 (R := R) U (callP capB m) (runF tbl m)) → ∀ {av : Fr} {cs : List Fr} {k : Ret2 RW → Option R}, ca82 capB n av cs k = some r → ∃ q : Ret2 RW, runF tbl n 82 (TV.los U av) (cs.map (TV.los U)) = some (q.lo U) ∧ k q = some r := by
  intro n ih av cs k h
  unfold ca82 at h
  split at h
  · simp only [Option.bind_eq_some_iff] at h
    obtain ⟨c0_, h0, p0, g0, h⟩ := h
    obtain rfl := dA_ok h0
    obtain rfl := dSpan_ok g0
    cases n with
    | zero => cases h
    | succ n =>
      exact run2_ok UOk (ih n rfl) (f := fn82) rfl ((run82 capB n p0 k).symm.trans h)
  · cases h
theorem ok78 {R : Type} {r : R} : ∀ {n : Nat}, (∀ m, n = m + 1 → CallOk2 (R := R) U (callP capB m) (runF tbl m)) → ∀ {av : Fr} {cs : List Fr} {k : Ret2 RW → Option R}, ca78 capB n av cs k = some r → ∃ q : Ret2 RW, runF tbl n 78 (TV.los U av) (cs.map (TV.los U)) = some (q.lo U) ∧ k q = some r := by
  intro n ih av cs k h
  unfold ca78 at h
  split at h
  · simp only [Option.bind_eq_some_iff] at h
    obtain ⟨p0, h0, h⟩ := h
    obtain rfl := dRSpan_ok h0
    cases n with
    | zero => cases h
    | succ n =>
      exact run2_ok UOk (ih n rfl) (f := fn78) rfl ((run78 capB n p0 k).symm.trans h)
  · cases h
theorem ok79 {R : Type} {r : R} : ∀ {n : Nat}, (∀ m, n = m + 1 → CallOk2 (R := R) U (callP capB m) (runF tbl m)) → ∀ {av : Fr} {cs : List Fr} {k : Ret2 RW → Option R}, ca79 capB n av cs k = some r → ∃ q : Ret2 RW, runF tbl n 79 (TV.los U av) (cs.map (TV.los U)) = some (q.lo U) ∧ k q = some r := by
  intro n ih av cs k h
  unfold ca79 at h
  split at h
  · simp only [Option.bind_eq_some_iff] at h
    obtain ⟨p0, h0, c1_, h1, p1, g1, h⟩ := h
    obtain rfl := dRSpan_ok h0
    obtain rfl := dA_ok h1
    obtain rfl := dSpan_ok g1
    cases n with
    | zero => cases h
    | succ n =>
      exact run2_ok UOk (ih n rfl) (f := fn79) rfl ((run79 capB n p0 p1 k).symm.trans h)
  · cases h
theorem ok61 {R : Type} {r : R} : ∀ {n : Nat}, (∀ m, n = m + 1 → CallOk2 (R := R) U (callP capB m) (runF tbl m)) → ∀ {av : Fr} {cs : List Fr} {k : Ret2 RW → Option R}, ca61 capB n av cs k = some r → ∃ q : Ret2 RW, runF tbl n 61 (TV.los U av) (cs.map (TV.los U)) = some (q.lo U) ∧ k q = some r := by
  intro n ih av cs k h
  unfold ca61 at h
  split at h
  · simp only [Option.bind_eq_some_iff] at h
    obtain ⟨p0, h0, c1_, h1, p1, g1, h⟩ := h
    obtain rfl := dRSpan_ok h0
    obtain rfl := dA_ok h1
    obtain rfl := dSpan_ok g1
    cases n with
    | zero => cases h
    | succ n =>
      exact run2_ok UOk (ih n rfl) (f := fn61) rfl ((run61 capB n p0 p1 k).symm.trans h)
  · cases h
theorem ok74 {R : Type} {r : R} : ∀ {n : Nat}, (∀ m, n = m + 1 → CallOk2 (R := R) U (callP capB m) (runF tbl m)) → ∀ {av : Fr} {cs : List Fr} {k : Ret2 RW → Option R}, ca74 capB n av cs k = some r → ∃ q : Ret2 RW, runF tbl n 74 (TV.los U av) (cs.map (TV.los U)) = some (q.lo U) ∧ k q = some r := by
  intro n ih av cs k h
  unfold ca74 at h
  split at h
  · simp only [Option.bind_eq_some_iff] at h
    obtain ⟨c0_, h0, p0, g0, p1, h1, h⟩ := h
    obtain rfl := dA_ok h0
    obtain rfl := dPiece_ok g0
    obtain rfl := dI_ok h1
    cases n with
    | zero => cases h
    | succ n =>
      exact run2_ok UOk (ih n rfl) (f := fn74) rfl ((run74 capB n p0 p1 k).symm.trans h)
  · cases h
theorem ok1052 {R : Type} {r : R} : ∀ {n : Nat}, (∀ m, n = m + 1 → CallOk2 (R := R) U (callP capB m) (runF tbl m)) → ∀ {av : Fr} {cs : List Fr} {k : Ret2 RW → Option R}, ca1052 capB n av cs k = some r → ∃ q : Ret2 RW, runF tbl n 1052 (TV.los U av) (cs.map (TV.los U)) = some (q.lo U) ∧ k q = some r := by
  intro n ih av cs k h
  unfold ca1052 at h
  split at h
  · simp only [Option.bind_eq_some_iff] at h
    obtain ⟨p0, h0, p1, h1, u2, h2, h⟩ := h
    obtain rfl := dRPiece_ok h0
    obtain rfl := dI_ok h1
    obtain rfl := dC_ok h2
    cases n with
    | zero => cases h
    | succ n =>
      exact run2_ok UOk (ih n rfl) (f := fn1052) rfl ((run1052 capB n p0 p1 k).symm.trans h)
  · cases h
theorem ok1054 {R : Type} {r : R} : ∀ {n : Nat}, (∀ m, n = m + 1 → CallOk2 (R := R) U (callP capB m) (runF tbl m)) → ∀ {av : Fr} {cs : List Fr} {k : Ret2 RW → Option R}, ca1054 capB n av cs k = some r → ∃ q : Ret2 RW, runF tbl n 1054 (TV.los U av) (cs.map (TV.los U)) = some (q.lo U) ∧ k q = some r := by
  intro n ih av cs k h
  unfold ca1054 at h
  split at h
  · simp only [Option.bind_eq_some_iff] at h
    obtain ⟨p0, h0, h⟩ := h
    obtain rfl := dRPiece_ok h0
    cases n with
    | zero => cases h
    | succ n =>
      obtain ⟨h1, h2⟩ := cond_some h
      exact ⟨⟨.un none (.rPiece p0), [], []⟩, clone1054 n p0 h1, h2⟩
  · cases h
theorem ok75 {R : Type} {r : R} : ∀ {n : Nat}, (∀ m, n = m + 1 → CallOk2 (R := R) U (callP capB m) (runF tbl m)) → ∀ {av : Fr} {cs : List Fr} {k : Ret2 RW → Option R}, ca75 capB n av cs k = some r → ∃ q : Ret2 RW, runF tbl n 75 (TV.los U av) (cs.map (TV.los U)) = some (q.lo U) ∧ k q = some r := by
  intro n ih av cs k h
  unfold ca75 at h
  split at h
  · simp only [Option.bind_eq_some_iff] at h
    obtain ⟨p0, h0, p1, h1, p2, h2, h⟩ := h
    obtain rfl := dUPiece_ok h0
    obtain rfl := dI_ok h1
    obtain ⟨a2, rfl⟩ := dXPiece_ok h2
    cases n with
    | zero => cases h
    | succ n =>
      obtain ⟨h1, h2⟩ := cond_some h
      obtain ⟨h3, h4⟩ := cond_some h2
      obtain ⟨h5, h6⟩ := cond_some h4
      exact ⟨⟨.un none (.rPiece (insL p0 (Int.toNat p1) p2)), [], []⟩, clone75 n a2 p0 p1 p2 h1 h3 h5, h6⟩
  · cases h
theorem ok77 {R : Type} {r : R} : ∀ {n : Nat}, (∀ m, n = m + 1 → CallOk2 (R := R) U (callP capB m) (runF tbl m)) → ∀ {av : Fr} {cs : List Fr} {k : Ret2 RW → Option R}, ca77 capB n av cs k = some r → ∃ q : Ret2 RW, runF tbl n 77 (TV.los U av) (cs.map (TV.los U)) = some (q.lo U) ∧ k q = some r := by
  intro n ih av cs k h
  unfold ca77 at h
  split at h
  · simp only [Option.bind_eq_some_iff] at h
    obtain ⟨p0, h0, h⟩ := h
    obtain rfl := dRuint8_ok h0
    cases n with
    | zero => cases h
    | succ n =>
      exact run2_ok UOk (ih n rfl) (f := fn77) rfl ((run77 capB n p0 k).symm.trans h)
  · cases h
theorem ok60 {R : Type} {r : R} : ∀ {n : Nat}, (∀ m, n = m + 1 → CallOk2 (R := R) U (callP capB m) (runF tbl m)) → ∀ {av : Fr} {cs : List Fr} {k : Ret2 RW → Option R}, ca60 capB n av cs k = some r → ∃ q : Ret2 RW, runF tbl n 60 (TV.los U av) (cs.map (TV.los U)) = some (q.lo U) ∧ k q = some r := by
  intro n ih av cs k h
  unfold ca60 at h
  split at h
  · simp only [Option.bind_eq_some_iff] at h
    obtain ⟨p0, h0, c1_, h1, p1, g1, h⟩ := h
    obtain rfl := dRPiece_ok h0
    obtain rfl := dA_ok h1
    obtain rfl := dPiece_ok g1
    cases n with
    | zero => cases h
    | succ n =>
      exact run2_ok UOk (ih n rfl) (f := fn60) rfl ((run60 capB n p0 p1 k).symm.trans h)
  · cases h
theorem ok1050 {R : Type} {r : R} : ∀ {n : Nat}, (∀ m, n = m + 1 → CallOk2 (R := R) U (callP capB m) (runF tbl m)) → ∀ {av : Fr} {cs : List Fr} {k : Ret2 RW → Option R}, ca1050 capB n av cs k = some r → ∃ q : Ret2 RW, runF tbl n 1050 (TV.los U av) (cs.map (TV.los U)) = some (q.lo U) ∧ k q = some r := by
  intro n ih av cs k h
  unfold ca1050 at h
  split at h
  · simp only [Option.bind_eq_some_iff] at h
    obtain ⟨c0_, h0, p0, g0, u1, h1, u2, h2, u3, h3, u4, h4, q0, i0, u_1, j1, q1, i1, u_2, j2, q2, i2, u_3, j3, q3, i3, h⟩ := h
    obtain rfl := dA_ok h0
    obtain rfl := dSpan_ok g0
    obtain rfl := dP_ok h1
    obtain rfl := dP_ok h2
    obtain rfl := dP_ok h3
    obtain rfl := dP_ok h4
    obtain rfl := dRecvt_ok i0
    obtain rfl := dOne_ok j1
    obtain rfl := dI_ok i1
    obtain rfl := dOne_ok j2
    obtain rfl := dRuint8_ok i2
    obtain rfl := dOne_ok j3
    obtain rfl := dB_ok i3
    cases n with
    | zero => cases h
    | succ n =>
      exact run2_ok UOk (ih n rfl) (f := fn1050) rfl ((run1050 capB n p0 q0 q1 q2 q3 k).symm.trans h)
  · cases h
theorem ok34 {R : Type} {r : R} : ∀ {n : Nat}, (∀ m, n = m + 1 → CallOk2 (R := R) U (callP capB m) (runF tbl m)) → ∀ {av : Fr} {cs : List Fr} {k : Ret2 RW → Option R}, ca34 capB n av cs k = some r → ∃ q : Ret2 RW, runF tbl n 34 (TV.los U av) (cs.map (TV.los U)) = some (q.lo U) ∧ k q = some r := by
  intro n ih av cs k h
  unfold ca34 at h
  split at h
  · simp only [Option.bind_eq_some_iff] at h
    obtain ⟨c0_, h0, p0, g0, p1, h1, p2, h2, h⟩ := h
    obtain rfl := dA_ok h0
    obtain rfl := dRecvt_ok g0
    obtain rfl := dI_ok h1
    obtain rfl := dRuint8_ok h2
    cases n with
    | zero => cases h
    | succ n =>
      exact run2_ok UOk (ih n rfl) (f := fn34) rfl ((run34 capB n p0 p1 p2 k).symm.trans h)
  · cases h
theorem ok1059 {R : Type} {r : R} : ∀ {n : Nat}, (∀ m, n = m + 1 → CallOk2 (R := R) U (callP capB m) (runF tbl m)) → ∀ {av : Fr} {cs : List Fr} {k : Ret2 RW → Option R}, ca1059 capB n av cs k = some r → ∃ q : Ret2 RW, runF tbl n 1059 (TV.los U av) (cs.map (TV.los U)) = some (q.lo U) ∧ k q = some r := by
  intro n ih av cs k h
  unfold ca1059 at h
  split at h
  · simp only [Option.bind_eq_some_iff] at h
    obtain ⟨c0_, h0, p0, g0, u1, h1, q0, i0, h⟩ := h
    obtain rfl := dA_ok h0
    obtain rfl := dSpan_ok g0
    obtain rfl := dP_ok h1
    obtain rfl := dSpan_ok i0
    cases n with
    | zero => cases h
    | succ n =>
      exact run2_ok UOk (ih n rfl) (f := fn1059) rfl ((run1059 capB n p0 q0 k).symm.trans h)
  · cases h
theorem ok1058 {R : Type} {r : R} : ∀ {n : Nat}, (∀ m, n = m + 1 → CallOk2 (R := R) U (callP capB m) (runF tbl m)) → ∀ {av : Fr} {cs : List Fr} {k : Ret2 RW → Option R}, ca1058 capB n av cs k = some r → ∃ q : Ret2 RW, runF tbl n 1058 (TV.los U av) (cs.map (TV.los U)) = some (q.lo U) ∧ k q = some r := by
  intro n ih av cs k h
  unfold ca1058 at h
  split at h
  · simp only [Option.bind_eq_some_iff] at h
    obtain ⟨p0, h0, u1, h1, q0, i0, h⟩ := h
    obtain rfl := dRSpan_ok h0
    obtain rfl := dC_ok h1
    obtain rfl := dSpan_ok i0
    cases n with
    | zero => cases h
    | succ n =>
      exact run2_ok UOk (ih n rfl) (f := fn1058) rfl ((run1058 capB n p0 q0 k).symm.trans h)
  · cases h
theorem ok35 {R : Type} {r : R} : ∀ {n : Nat}, (∀ m, n = m + 1 → CallOk2 (R := R) U (callP capB m) (runF tbl m)) → ∀ {av : Fr} {cs : List Fr} {k : Ret2 RW → Option R}, ca35 capB n av cs k = some r → ∃ q : Ret2 RW, runF tbl n 35 (TV.los U av) (cs.map (TV.los U)) = some (q.lo U) ∧ k q = some r := by
  intro n ih av cs k h
  unfold ca35 at h
  split at h
  · simp only [Option.bind_eq_some_iff] at h
    obtain ⟨c0_, h0, p0, g0, p1, h1, p2, h2, h⟩ := h
    obtain rfl := dA_ok h0
    obtain rfl := dRecv_ok g0
    obtain rfl := dI_ok h1
    obtain rfl := dRuint8_ok h2
    cases n with
    | zero => cases h
    | succ n =>
      exact run2_ok UOk (ih n rfl) (f := fn35) rfl ((run35 capB n p0 p1 p2 k).symm.trans h)
  · cases h
theorem ok12 {R : Type} {r : R} : ∀ {n : Nat}, (∀ m, n = m + 1 → CallOk2 (R := R) U (callP capB m) (runF tbl m)) → ∀ {av : Fr} {cs : List Fr} {k : Ret2 RW → Option R}, ca12 capB n av cs k = some r → ∃ q : Ret2 RW, runF tbl n 12 (TV.los U av) (cs.map (TV.los U)) = some (q.lo U) ∧ k q = some r := by
  intro n ih av cs k h
  unfold ca12 at h
  split at h
  · simp only [Option.bind_eq_some_iff] at h
    obtain ⟨c0_, h0, p0, g0, c1_, h1, p1, g1, h⟩ := h
    obtain rfl := dA_ok h0
    obtain rfl := dRecv_ok g0
    obtain rfl := dA_ok h1
    obtain rfl := dSegment_ok g1
    cases n with
    | zero => cases h
    | succ n =>
      exact run2_ok UOk (ih n rfl) (f := fn12) rfl ((run12 capB n p0 p1 k).symm.trans h)
  · cases h
theorem ok11 {R : Type} {r : R} : ∀ {n : Nat}, (∀ m, n = m + 1 → CallOk2 (R := R) U (callP capB m) (runF tbl m)) → ∀ {av : Fr} {cs : List Fr} {k : Ret2 RW → Option R}, ca11 capB n av cs k = some r → ∃ q : Ret2 RW, runF tbl n 11 (TV.los U av) (cs.map (TV.los U)) = some (q.lo U) ∧ k q = some r := by
  intro n ih av cs k h
  unfold ca11 at h
  split at h
  · cases n with
    | zero => cases h
    | succ n =>
      exact run2_ok UOk (ih n rfl) (f := fn11) rfl ((run11 capB n  k).symm.trans h)
  · cases h
theorem ok9 {R : Type} {r : R} : ∀ {n : Nat}, (∀ m, n = m + 1 → CallOk2 (R := R) U (callP capB m) (runF tbl m)) → ∀ {av : Fr} {cs : List Fr} {k : Ret2 RW → Option R}, ca9 capB n av cs k = some r → ∃ q : Ret2 RW, runF tbl n 9 (TV.los U av) (cs.map (TV.los U)) = some (q.lo U) ∧ k q = some r := by
  intro n ih av cs k h
  unfold ca9 at h
  split at h
  · simp only [Option.bind_eq_some_iff] at h
    obtain ⟨c0_, h0, p0, g0, p1, h1, h⟩ := h
    obtain rfl := dA_ok h0
    obtain rfl := dRecv_ok g0
    obtain rfl := dI_ok h1
    cases n with
    | zero => cases h
    | succ n =>
      exact run2_ok UOk (ih n rfl) (f := fn9) rfl ((run9 capB n p0 p1 k).symm.trans h)
  · cases h
theorem callOk {R : Type} : ∀ n, CallOk2 (R := R) U (callP capB n) (runF tbl n)
  | n => fun id av cells k r h => by
    have ih : ∀ m, n = m + 1 → CallOk2 (R := R) U (callP capB m) (runF tbl m) := fun m e => callOk m
    unfold callP at h
    split at h
    · exact ok27 ih h
    · exact ok53 ih h
    · exact ok55 ih h
    · exact ok71 ih h
    · exact ok1008 ih h
    · exact ok1007 ih h
    · exact ok72 ih h
    · exact ok56 ih h
    · exact ok28 ih h
    · exact ok10 ih h
    · exact ok57 ih h
    · exact ok52 ih h
    · exact ok29 ih h
    · exact ok51 ih h
    · exact ok49 ih h
    · exact ok36 ih h
    · exact ok32 ih h
    · exact ok20 ih h
    · exact ok46 ih h
    · exact ok42 ih h
    · exact ok47 ih h
    · exact ok48 ih h
    · exact ok16 ih h
    · exact ok37 ih h
    · exact ok50 ih h
    · exact ok65 ih h
    · exact ok39 ih h
    · exact ok41 ih h
    · exact ok24 ih h
    · exact ok23 ih h
    · exact ok25 ih h
    · exact ok21 ih h
    · exact ok14 ih h
    · exact ok45 ih h
    · exact ok15 ih h
    · exact ok22 ih h
    · exact ok26 ih h
    · exact ok17 ih h
    · exact ok31 ih h
    · exact ok58 ih h
    · exact ok30 ih h
    · exact ok33 ih h
    · exact ok82 ih h
    · exact ok78 ih h
    · exact ok79 ih h
    · exact ok61 ih h
    · exact ok74 ih h
    · exact ok1052 ih h
    · exact ok1054 ih h
    · exact ok75 ih h
    · exact ok77 ih h
    · exact ok60 ih h
    · exact ok1050 ih h
    · exact ok34 ih h
    · exact ok1059 ih h
    · exact ok1058 ih h
    · exact ok35 ih h
    · exact ok12 ih h
    · exact ok11 ih h
    · exact ok9 ih h
    · cases h
termination_by n => n
decreasing_by omega
end
end Go.Proofs.Ytilmdmjhdidoiaa.M
