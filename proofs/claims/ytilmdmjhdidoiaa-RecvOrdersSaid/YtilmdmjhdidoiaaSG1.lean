/- The machine's code of the functions, and that it computes them. -/
import Derived.Test.YtilmdmjhdidoiaaSG1a
import Derived.Test.YtilmdmjhdidoiaaProg
import Derived.KernelRfl
set_option maxRecDepth 100000
set_option linter.unusedVariables false
set_option linter.unusedSimpArgs false
namespace Go.Proofs.Ytilmdmjhdidoiaa.M
open Go
noncomputable section
variable {R : Type}
/-! tideway/recv.take -/
section
variable (cp : CP) (n : Nat) (p0 : SRecv) (p1 : Int) (p2 : (List Int)) (v166 : Int) (v168 : SRecv) (v169 v170 : Int) (v171 : (List SSpan)) (v172 : Int) (v173 : (List Int)) (v175 v176 : Int) (v177 v178 v179 v180 v181 : (List SSpan)) (v182 v183 : Int) (v184 : (List SSpan)) (v185 : Int) (v186 v187 v188 v189 v190 v191 v192 : (List SSpan)) (v193 : Int) (v194 : Bool) (v196 : (List SSpan)) (v197 v198 : Int) (v199 : SRecv) (v200 : Int) (v201 : (List Int)) (v202 : Bool) (v207 : Int) (v208 : SRecv) (v209 : Int) (v210 : (List Int)) (v211 : Bool) (v212 : SRecv) (v213 : Bool) (v214 : SRecv) (v215 : Bool) (v216 : SRecv) (v217 : Bool) (v218 : SRecv) (v219 : Bool) (v220 : SRecv) (v221 : Bool) (v222 v223 v224 v225 v226 : SRecv) (v227 : Bool) (v228 : SRecv) (v229 : Bool) (v230 : SRecv) (v231 : Bool) (v232 : SRecv) (v233 : Bool) (v234 : SRecv) (k : KX R)
def w34_0 : Fr := dT 3 ((.ptr 112 0) :: (.ptr 128 0) :: (.ptr 130 0) :: (.ptr 132 0) :: (dT 1 ((tL v166) :: (.ptr 148 0) :: (dT 6 []))))
def w34_1 : Fr := (.hdr 15) :: (eRecvt p0)
def w34_2 : Fr := [.hdr 1, (tL p1), .hdr 1, .row false (.ruint8 p2), .hdr 15, (tL 0), .row true (.ruint8 []), .row true (.rPiece []), (tL 0), (tL 0), (tL 0), (tI .u32 0), (tB false), (tB false), (tL 0), (tB false)]
def fr34_2 : FF := [w34_0 v166, dc, dc, dc, dc, dc, dc, w34_1 p0, w34_2 p1 p2, (.row true (.rSpan [])) :: (tI .u32 0) :: (tI .u32 0) :: (tB false) :: (.hdr 1) :: (.row true (.rSpan [])) :: (dT 10 []), dc, dc]
def w34_3 : Fr := dT 15 ([.clo 70 [(158, 0)]])
def fr34_4 : FF := [w34_0 v166, w34_3, dc, dc, dc, dc, dc, w34_1 p0, w34_2 p1 p2, (.row true (.rSpan [])) :: (tI .u32 0) :: (tI .u32 0) :: (tB false) :: (.hdr 1) :: (.row true (.rSpan [])) :: (dT 8 ((.hdr 15) :: (sl 0 1 (eRecv v168)))), sl 1 14 (eRecv v168) ++ (dT 2 []), dc]
def fr34_6 : FF := [w34_0 v166, w34_3, dc, dc, dc, dc, dc, dc, dc, dc, dc, dc]
def y34_5 (cp : CP) (n : Nat) (v166 : Int) : List (TV RW) → FF → (FF → Option R) → Option R := rndT 7 [32] [112, 128, 130, 132, 148, 158, 174] (fr34_6 v166) (X cp n i34_2)
def fr34_8 (p0 : SRecv) (p1 : Int) (p2 : (List Int)) (v166 : Int) (v168 : SRecv) (v169 : Int) : FF := [.yld :: (dT 5 ((.row false (.rPiece v168.xLate)) :: (tL v169) :: (tL 0) :: (dT 7 []))), dc, dc, dc, dc, dc, dc, (.hdr 15) :: (eRecvt p0), [.hdr 1, (tL p1), .hdr 1, .row false (.ruint8 p2), .hdr 15, (tL 0), .row true (.ruint8 []), .row true (.rPiece []), (tL 0), (tL 0), (tL 0), (tI .u32 0), (tB false), (tB false), (tL 0), (tB false)], (.row true (.rSpan [])) :: (tI .u32 0) :: (tI .u32 0) :: (tB false) :: (.hdr 1) :: (.row true (.rSpan [])) :: (dT 8 ((.hdr 15) :: (sl 0 1 (eRecv v168)))), sl 1 14 (eRecv v168) ++ (dT 2 []), dc]
def fr34_10 (p0 : SRecv) (p1 : Int) (p2 : (List Int)) (v166 : Int) (v168 : SRecv) (v169 v170 : Int) (v171 : (List SSpan)) : FF := [.yld :: (dT 5 ((.row false (.rPiece v168.xLate)) :: (tL v169) :: (tL v170) :: (dT 7 []))), dc, dc, dc, dc, dc, dc, (.hdr 15) :: (eRecvt p0), [.hdr 1, (tL p1), .hdr 1, .row false (.ruint8 p2), .hdr 15, (tL 0), .row true (.ruint8 []), .row true (.rPiece []), (tL 0), (tL 0), (tL 0), (tI .u32 0), (tB false), (tB false), (tL 0), (tB false)], (.row true (.rSpan [])) :: (tI .u32 0) :: (tI .u32 0) :: (tB false) :: (.hdr 1) :: (.row true (.rSpan v171)) :: (dT 8 ((.hdr 15) :: (sl 0 1 (eRecv v168)))), sl 1 14 (eRecv v168) ++ (dT 2 []), dc]
def fr34_11 (p0 : SRecv) (p1 : Int) (p2 : (List Int)) (v166 : Int) (v168 : SRecv) (v171 : (List SSpan)) : FF := [dc, dc, dc, dc, dc, dc, dc, (.hdr 15) :: (eRecvt p0), [.hdr 1, (tL p1), .hdr 1, .row false (.ruint8 p2), .hdr 15, (tL 0), .row true (.ruint8 []), .row true (.rPiece []), (tL 0), (tL 0), (tL 0), (tI .u32 0), (tB false), (tB false), (tL 0), (tB false)], (.row true (.rSpan [])) :: (tI .u32 0) :: (tI .u32 0) :: (tB false) :: (.hdr 1) :: (.row true (.rSpan v171)) :: (dT 8 ((.hdr 15) :: (sl 0 1 (eRecv v168)))), sl 1 14 (eRecv v168) ++ (dT 2 []), dc]
def fr34_13 (p0 : SRecv) (p1 : Int) (p2 : (List Int)) (v166 : Int) (v168 : SRecv) (v169 v170 : Int) (v171 : (List SSpan)) (v172 : Int) (v173 : (List Int)) : FF := [.yld :: (dT 3 ((.ptr 174 0) :: (dT 1 ((.row false (.rPiece v168.xLate)) :: (tL v169) :: (tL v170) :: (dT 7 []))))), dc, dc, dc, dc, dc, dc, (.hdr 15) :: (eRecvt p0), [.hdr 1, (tL p1), .hdr 1, .row false (.ruint8 p2), .hdr 15, (tL 0), .row true (.ruint8 []), .row true (.rPiece []), (tL 0), (tL 0), (tL 0), (tI .u32 0), (tB false), (tB false), (tL 0), (tB false)], (.row true (.rSpan [])) :: (tI .u32 0) :: (tI .u32 0) :: (tB false) :: (.hdr 1) :: (.row true (.rSpan v171)) :: (dT 8 ((.hdr 15) :: (sl 0 1 (eRecv v168)))), sl 1 14 (eRecv v168) ++ [.hdr 2, (tL v172)], (.row false (.ruint8 v173)) :: (dT 15 [])]
def fr34_15 (p0 : SRecv) (p1 : Int) (p2 : (List Int)) (v166 : Int) (v168 : SRecv) (v169 v170 : Int) (v171 : (List SSpan)) (v172 : Int) (v173 : (List Int)) (v175 v176 : Int) : FF := [.yld :: (dT 3 ((.ptr 174 0) :: (dT 1 ((.row false (.rPiece v168.xLate)) :: (tL v169) :: (tL v170) :: (dT 3 (.yld :: (.agg [(tL v172), .row false (.ruint8 v173)]) :: (.agg [(tL v175), (tL v176)]) :: (dT 1 []))))))), dc, dc, dc, dc, dc, dc, (.hdr 15) :: (eRecvt p0), [.hdr 1, (tL p1), .hdr 1, .row false (.ruint8 p2), .hdr 15, (tL 0), .row true (.ruint8 []), .row true (.rPiece []), (tL 0), (tL 0), (tL 0), (tI .u32 0), (tB false), (tB false), (tL 0), (tB false)], (.row true (.rSpan [])) :: (tI .u32 0) :: (tI .u32 0) :: (tB false) :: (.hdr 1) :: (.row true (.rSpan v171)) :: (dT 8 ((.hdr 15) :: (sl 0 1 (eRecv v168)))), sl 1 14 (eRecv v168) ++ [.hdr 2, (tL v172)], (.row false (.ruint8 v173)) :: (dT 15 [])]
theorem s34_14_t (cp : CP) (n : Nat) (p0 : SRecv) (p1 : Int) (p2 : (List Int)) (v166 : Int) (v168 : SRecv) (v169 v170 : Int) (v171 : (List SSpan)) (v172 : Int) (v173 : (List Int)) (A B : FF → Option R) : (gF (fr34_13 p0 p1 p2 v166 v168 v169 v170 v171 v172 v173) fun l => steps2 U cp (callP cp n) g34_10031 l fun l1 => yGuard2 none l1 (A l1) (B l1)) = s34_14 cp n p0 p1 p2 v166 v168 v169 v170 v171 v172 v173 (fun v175 v176 => A (fr34_15 p0 p1 p2 v166 v168 v169 v170 v171 v172 v173 v175 v176)) := by kernel_rfl
def w34_4 : Fr := (.row false (.ruint8 v173)) :: (dT 15 [])
def fr34_17 : FF := [w34_0 v166, w34_3, dc, dc, dc, dc, dc, w34_1 p0, w34_2 p1 p2, (.row true (.rSpan [])) :: (tI .u32 0) :: (tI .u32 0) :: (tB false) :: (.hdr 1) :: (.row true (.rSpan v177)) :: (dT 8 ((.hdr 15) :: (sl 0 1 (eRecv v168)))), sl 1 14 (eRecv v168) ++ [.hdr 2, (tL v172)], w34_4 v173]
def fr34_18 : FF := [w34_0 v166, w34_3, (.agg [(tL v175), (tL v176)]) :: (dT 15 []), dc, dc, dc, dc, w34_1 p0, w34_2 p1 p2, (.row true (.rSpan [])) :: (tI .u32 0) :: (tI .u32 0) :: (tB false) :: (.hdr 1) :: (.row true (.rSpan v171)) :: (dT 8 ((.hdr 15) :: (sl 0 1 (eRecv v168)))), sl 1 14 (eRecv v168) ++ [.hdr 2, (tL v172)], w34_4 v173]
theorem s34_16_t : X cp n i34_2 (fr34_18 p0 p1 p2 v166 v168 v171 v172 v173 v175 v176) k = s34_16 cp n p0 p1 p2 v166 v168 v171 v172 v173 v175 v176 (fun v177 => k .norm (fr34_17 p0 p1 p2 v166 v168 v172 v173 v177)) := by kernel_rfl
def fr34_20 (p0 : SRecv) (p1 : Int) (p2 : (List Int)) (v166 : Int) (v168 : SRecv) (v169 v170 v172 : Int) (v173 : (List Int)) (v175 v176 : Int) (v177 : (List SSpan)) : FF := [.yld :: (dT 3 ((.ptr 174 0) :: (dT 1 ((.row false (.rPiece v168.xLate)) :: (tL v169) :: (tL v170) :: (dT 3 ([.yld, .agg [(tL v172), .row false (.ruint8 v173)], .agg [(tL v175), (tL v176)], (tB true)])))))), dc, dc, dc, dc, dc, dc, (.hdr 15) :: (eRecvt p0), [.hdr 1, (tL p1), .hdr 1, .row false (.ruint8 p2), .hdr 15, (tL 0), .row true (.ruint8 []), .row true (.rPiece []), (tL 0), (tL 0), (tL 0), (tI .u32 0), (tB false), (tB false), (tL 0), (tB false)], (.row true (.rSpan [])) :: (tI .u32 0) :: (tI .u32 0) :: (tB false) :: (.hdr 1) :: (.row true (.rSpan v177)) :: (dT 8 ((.hdr 15) :: (sl 0 1 (eRecv v168)))), sl 1 14 (eRecv v168) ++ [.hdr 2, (tL v172)], (.row false (.ruint8 v173)) :: (dT 15 [])]
theorem q34_19_t (cp : CP) (n : Nat) (p0 : SRecv) (p1 : Int) (p2 : (List Int)) (v166 : Int) (v168 : SRecv) (v169 v170 : Int) (v171 : (List SSpan)) (v172 : Int) (v173 : (List Int)) (v175 v176 : Int) (K : FF → Option R) : yRun2 (y34_5 cp n v166) (.s 12) [.s 14] 15 (fr34_15 p0 p1 p2 v166 v168 v169 v170 v171 v172 v173 v175 v176) K = s34_16 cp n p0 p1 p2 v166 v168 v171 v172 v173 v175 v176 (fun v177 => K (fr34_20 p0 p1 p2 v166 v168 v169 v170 v172 v173 v175 v176 v177)) := ((fun x => (show yRun2 (rndT 7 [32] [112, 128, 130, 132, 148, 158, 174] (fr34_6 v166) x) (.s 12) [.s 14] 15 (fr34_15 p0 p1 p2 v166 v168 v169 v170 v171 v172 v173 v175 v176) K = x (fr34_18 p0 p1 p2 v166 v168 v171 v172 v173 v175 v176) (roundT 7 (fr34_15 p0 p1 p2 v166 v168 v169 v170 v171 v172 v173 v175 v176) (fun l2 => putO l2 (some 15) (.sc (.bool true)) K)) from by kernel_rfl)) (X cp n i34_2)).trans ((s34_16_t cp n p0 p1 p2 v166 v168 v171 v172 v173 v175 v176 (roundT 7 (fr34_15 p0 p1 p2 v166 v168 v169 v170 v171 v172 v173 v175 v176) (fun l2 => putO l2 (some 15) (.sc (.bool true)) K))).trans (by kernel_rfl))
def fr34_21 (p0 : SRecv) (p1 : Int) (p2 : (List Int)) (v166 : Int) (v168 : SRecv) (v169 v170 : Int) (v178 : (List SSpan)) : FF := [.yld :: (dT 5 ((.row false (.rPiece v168.xLate)) :: (tL v169) :: (tL v170) :: (dT 7 []))), (tB false) :: (dT 15 []), dc, dc, dc, dc, dc, (.hdr 15) :: (eRecvt p0), [.hdr 1, (tL p1), .hdr 1, .row false (.ruint8 p2), .hdr 15, (tL 0), .row true (.ruint8 []), .row true (.rPiece []), (tL 0), (tL 0), (tL 0), (tI .u32 0), (tB false), (tB false), (tL 0), (tB false)], (.row true (.rSpan [])) :: (tI .u32 0) :: (tI .u32 0) :: (tB false) :: (.hdr 1) :: (.row true (.rSpan v178)) :: (dT 8 ((.hdr 15) :: (sl 0 1 (eRecv v168)))), sl 1 14 (eRecv v168) ++ (dT 2 []), dc]
theorem s34_22_t : XI cp n (y34_5 cp n v166) i34_4 (fr34_13 p0 p1 p2 v166 v168 v169 v170 v171 v172 v173) k = s34_22 cp n p0 p1 p2 v166 v168 v169 v170 v171 v172 v173 (fun v178 => k .norm (fr34_21 p0 p1 p2 v166 v168 v169 v170 v178)) := (show XI cp n (y34_5 cp n v166) i34_4 (fr34_13 p0 p1 p2 v166 v168 v169 v170 v171 v172 v173) k = gF (fr34_13 p0 p1 p2 v166 v168 v169 v170 v171 v172 v173) fun l => steps2 U cp (callP cp n) g34_10031 l fun l1 => yGuard2 none l1 ((fun l1 => yRun2 (y34_5 cp n v166) (.s 12) [.s 14] 15 l1 (fun l2 => steps2 U cp (callP cp n) g34_10032 l2 ((clrT [4, 12, 13, 14, 15] [(174, 2)] k) .norm))) l1) ((fun l1 => putO l1 (some 15) (.tup []) fun l2 => steps2 U cp (callP cp n) g34_10032 l2 ((clrT [4, 12, 13, 14, 15] [(174, 2)] k) .norm)) l1) from by kernel_rfl).trans ((s34_14_t cp n p0 p1 p2 v166 v168 v169 v170 v171 v172 v173 (fun l1 => yRun2 (y34_5 cp n v166) (.s 12) [.s 14] 15 l1 (fun l2 => steps2 U cp (callP cp n) g34_10032 l2 ((clrT [4, 12, 13, 14, 15] [(174, 2)] k) .norm))) (fun l1 => putO l1 (some 15) (.tup []) fun l2 => steps2 U cp (callP cp n) g34_10032 l2 ((clrT [4, 12, 13, 14, 15] [(174, 2)] k) .norm))).trans (congrArg (s34_14 cp n p0 p1 p2 v166 v168 v169 v170 v171 v172 v173) (funext fun v175 => funext fun v176 => (q34_19_t cp n p0 p1 p2 v166 v168 v169 v170 v171 v172 v173 v175 v176 (fun l2 => steps2 U cp (callP cp n) g34_10032 l2 ((clrT [4, 12, 13, 14, 15] [(174, 2)] k) .norm))).trans (show s34_16 cp n p0 p1 p2 v166 v168 v171 v172 v173 v175 v176 (fun v177 => (fun l2 => steps2 U cp (callP cp n) g34_10032 l2 ((clrT [4, 12, 13, 14, 15] [(174, 2)] k) .norm)) (fr34_20 p0 p1 p2 v166 v168 v169 v170 v172 v173 v175 v176 v177)) = s34_16 cp n p0 p1 p2 v166 v168 v171 v172 v173 v175 v176 (fun v177 => k .norm (fr34_21 p0 p1 p2 v166 v168 v169 v170 v177)) from by kernel_rfl))))
def fr34_24 (p0 : SRecv) (p1 : Int) (p2 : (List Int)) (v166 : Int) (v168 : SRecv) (v169 v170 : Int) (v178 : (List SSpan)) : FF := [.yld :: (dT 5 ((.row false (.rPiece v168.xLate)) :: (tL v169) :: (tL v170) :: (dT 7 []))), dc, dc, dc, dc, dc, dc, (.hdr 15) :: (eRecvt p0), [.hdr 1, (tL p1), .hdr 1, .row false (.ruint8 p2), .hdr 15, (tL 0), .row true (.ruint8 []), .row true (.rPiece []), (tL 0), (tL 0), (tL 0), (tI .u32 0), (tB false), (tB false), (tL 0), (tB false)], (.row true (.rSpan [])) :: (tI .u32 0) :: (tI .u32 0) :: (tB false) :: (.hdr 1) :: (.row true (.rSpan v178)) :: (dT 8 ((.hdr 15) :: (sl 0 1 (eRecv v168)))), sl 1 14 (eRecv v168) ++ (dT 2 []), dc]
theorem s34_23_t : XI cp n (y34_5 cp n v166) i34_5 (fr34_21 p0 p1 p2 v166 v168 v169 v170 v178) k = s34_23 cp n p0 p1 p2 v166 v168 v169 v170 v178 (k .norm (fr34_24 p0 p1 p2 v166 v168 v169 v170 v178)) := by kernel_rfl
def fr34_25 (p0 : SRecv) (p1 : Int) (p2 : (List Int)) (v166 : Int) (v168 : SRecv) (v169 v170 : Int) (v179 : (List SSpan)) : FF := [.yld :: (dT 5 ((.row false (.rPiece v168.xLate)) :: (tL v169) :: (tL v170) :: (dT 7 []))), dc, dc, dc, dc, dc, dc, (.hdr 15) :: (eRecvt p0), [.hdr 1, (tL p1), .hdr 1, .row false (.ruint8 p2), .hdr 15, (tL 0), .row true (.ruint8 []), .row true (.rPiece []), (tL 0), (tL 0), (tL 0), (tI .u32 0), (tB false), (tB false), (tL 0), (tB false)], (.row true (.rSpan [])) :: (tI .u32 0) :: (tI .u32 0) :: (tB false) :: (.hdr 1) :: (.row true (.rSpan v179)) :: (dT 8 ((.hdr 15) :: (sl 0 1 (eRecv v168)))), sl 1 14 (eRecv v168) ++ (dT 2 []), dc]
theorem s34_26_t : XI cp n (y34_5 cp n v166) i34_6 (fr34_13 p0 p1 p2 v166 v168 v169 v170 v171 v172 v173) k = s34_26 cp n p0 p1 p2 v166 v168 v169 v170 v171 v172 v173 (fun v179 => k .norm (fr34_25 p0 p1 p2 v166 v168 v169 v170 v179)) := (show XI cp n (y34_5 cp n v166) i34_6 (fr34_13 p0 p1 p2 v166 v168 v169 v170 v171 v172 v173) k = XI cp n (y34_5 cp n v166) i34_4 (fr34_13 p0 p1 p2 v166 v168 v169 v170 v171 v172 v173) (seqT (XI cp n (y34_5 cp n v166)) i34_5 k) from by kernel_rfl).trans ((show XI cp n (y34_5 cp n v166) i34_4 (fr34_13 p0 p1 p2 v166 v168 v169 v170 v171 v172 v173) (seqT (XI cp n (y34_5 cp n v166)) i34_5 k) = s34_22 cp n p0 p1 p2 v166 v168 v169 v170 v171 v172 v173 (fun v178 => XI cp n (y34_5 cp n v166) i34_5 (fr34_21 p0 p1 p2 v166 v168 v169 v170 v178) k) from (s34_22_t cp n p0 p1 p2 v166 v168 v169 v170 v171 v172 v173 (seqT (XI cp n (y34_5 cp n v166)) i34_5 k)).trans (by kernel_rfl)).trans (congrArg (fun q => s34_22 cp n p0 p1 p2 v166 v168 v169 v170 v171 v172 v173 q) (funext fun v178 => (s34_23_t cp n p0 p1 p2 v166 v168 v169 v170 v178 k).trans (show s34_23 cp n p0 p1 p2 v166 v168 v169 v170 v178 (k .norm (fr34_24 p0 p1 p2 v166 v168 v169 v170 v178)) = s34_23 cp n p0 p1 p2 v166 v168 v169 v170 v178 (k .norm (fr34_25 p0 p1 p2 v166 v168 v169 v170 v178)) from by kernel_rfl))))
def fr34_27 (p0 : SRecv) (p1 : Int) (p2 : (List Int)) (v166 : Int) (v168 : SRecv) (v169 v170 : Int) (v180 : (List SSpan)) : FF := [.yld :: (dT 5 ((.row false (.rPiece v168.xLate)) :: (tL v169) :: (tL v170) :: (dT 7 []))), dc, dc, dc, dc, dc, dc, (.hdr 15) :: (eRecvt p0), [.hdr 1, (tL p1), .hdr 1, .row false (.ruint8 p2), .hdr 15, (tL 0), .row true (.ruint8 []), .row true (.rPiece []), (tL 0), (tL 0), (tL 0), (tI .u32 0), (tB false), (tB false), (tL 0), (tB false)], (.row true (.rSpan [])) :: (tI .u32 0) :: (tI .u32 0) :: (tB false) :: (.hdr 1) :: (.row true (.rSpan v180)) :: (dT 8 ((.hdr 15) :: (sl 0 1 (eRecv v168)))), sl 1 14 (eRecv v168) ++ (dT 2 []), dc]
theorem s34_28_t : XI cp n (y34_5 cp n v166) i34_7 (fr34_10 p0 p1 p2 v166 v168 v169 v170 v171) k = s34_28 cp n p0 p1 p2 v166 v168 v169 v170 v171 (fun v180 => k .norm (fr34_27 p0 p1 p2 v166 v168 v169 v170 v180)) := ((fun c => (show XI cp n (y34_5 cp n v166) (.seq (.fin (.reg g34_1002) [10, 11] []) c) (fr34_10 p0 p1 p2 v166 v168 v169 v170 v171) k = s34_12 cp n p0 p1 p2 v166 v168 v169 v170 v171 (fun v172 v173 => XI cp n (y34_5 cp n v166) c (fr34_13 p0 p1 p2 v166 v168 v169 v170 v171 v172 v173) k) from by kernel_rfl)) i34_6).trans (congrArg (fun q => s34_12 cp n p0 p1 p2 v166 v168 v169 v170 v171 q) (funext fun v172 => funext fun v173 => (s34_26_t cp n p0 p1 p2 v166 v168 v169 v170 v171 v172 v173 k).trans (show s34_26 cp n p0 p1 p2 v166 v168 v169 v170 v171 v172 v173 (fun v179 => k .norm (fr34_25 p0 p1 p2 v166 v168 v169 v170 v179)) = s34_26 cp n p0 p1 p2 v166 v168 v169 v170 v171 v172 v173 (fun v179 => k .norm (fr34_27 p0 p1 p2 v166 v168 v169 v170 v179)) from by kernel_rfl)))
def fr34_29 (p0 : SRecv) (p1 : Int) (p2 : (List Int)) (v166 : Int) (v168 : SRecv) (v169 v170 : Int) (v181 : (List SSpan)) : FF := [.yld :: (dT 5 ((.row false (.rPiece v168.xLate)) :: (tL v169) :: (tL v170) :: (dT 7 []))), dc, dc, dc, dc, dc, dc, (.hdr 15) :: (eRecvt p0), [.hdr 1, (tL p1), .hdr 1, .row false (.ruint8 p2), .hdr 15, (tL 0), .row true (.ruint8 []), .row true (.rPiece []), (tL 0), (tL 0), (tL 0), (tI .u32 0), (tB false), (tB false), (tL 0), (tB false)], (.row true (.rSpan [])) :: (tI .u32 0) :: (tI .u32 0) :: (tB false) :: (.hdr 1) :: (.row true (.rSpan v181)) :: (dT 8 ((.hdr 15) :: (sl 0 1 (eRecv v168)))), sl 1 14 (eRecv v168) ++ (dT 2 []), dc]
theorem s34_30_t : XI cp n (y34_5 cp n v166) i34_8 (fr34_10 p0 p1 p2 v166 v168 v169 v170 v171) k = s34_30 cp n p0 p1 p2 v166 v168 v169 v170 v171 (fun v181 => k .norm (fr34_29 p0 p1 p2 v166 v168 v169 v170 v181)) := (show XI cp n (y34_5 cp n v166) i34_8 (fr34_10 p0 p1 p2 v166 v168 v169 v170 v171) k = XI cp n (y34_5 cp n v166) i34_7 (fr34_10 p0 p1 p2 v166 v168 v169 v170 v171) (blkT 1 k) from by kernel_rfl).trans ((s34_28_t cp n p0 p1 p2 v166 v168 v169 v170 v171 (blkT 1 k)).trans (by kernel_rfl))
def fr34_32 (p0 : SRecv) (p1 : Int) (p2 : (List Int)) (v166 : Int) (v168 : SRecv) (v169 : Int) (v181 : (List SSpan)) (v182 : Int) : FF := [.yld :: (dT 5 ((.row false (.rPiece v168.xLate)) :: (tL v169) :: (tL v182) :: (dT 7 []))), dc, dc, dc, dc, dc, dc, (.hdr 15) :: (eRecvt p0), [.hdr 1, (tL p1), .hdr 1, .row false (.ruint8 p2), .hdr 15, (tL 0), .row true (.ruint8 []), .row true (.rPiece []), (tL 0), (tL 0), (tL 0), (tI .u32 0), (tB false), (tB false), (tL 0), (tB false)], (.row true (.rSpan [])) :: (tI .u32 0) :: (tI .u32 0) :: (tB false) :: (.hdr 1) :: (.row true (.rSpan v181)) :: (dT 8 ((.hdr 15) :: (sl 0 1 (eRecv v168)))), sl 1 14 (eRecv v168) ++ (dT 2 []), dc]
theorem s34_31_t : XI cp n (y34_5 cp n v166) i34_9 (fr34_29 p0 p1 p2 v166 v168 v169 v170 v181) k = s34_31 cp n p0 p1 p2 v166 v168 v169 v170 v181 (fun v182 => k .norm (fr34_32 p0 p1 p2 v166 v168 v169 v181 v182)) := by kernel_rfl
def fr34_33 (p0 : SRecv) (p1 : Int) (p2 : (List Int)) (v166 : Int) (v168 : SRecv) (v169 v183 : Int) (v184 : (List SSpan)) : FF := [.yld :: (dT 5 ((.row false (.rPiece v168.xLate)) :: (tL v169) :: (tL v183) :: (dT 7 []))), dc, dc, dc, dc, dc, dc, (.hdr 15) :: (eRecvt p0), [.hdr 1, (tL p1), .hdr 1, .row false (.ruint8 p2), .hdr 15, (tL 0), .row true (.ruint8 []), .row true (.rPiece []), (tL 0), (tL 0), (tL 0), (tI .u32 0), (tB false), (tB false), (tL 0), (tB false)], (.row true (.rSpan [])) :: (tI .u32 0) :: (tI .u32 0) :: (tB false) :: (.hdr 1) :: (.row true (.rSpan v184)) :: (dT 8 ((.hdr 15) :: (sl 0 1 (eRecv v168)))), sl 1 14 (eRecv v168) ++ (dT 2 []), dc]
theorem s34_34_t : XI cp n (y34_5 cp n v166) i34_10 (fr34_10 p0 p1 p2 v166 v168 v169 v170 v171) k = s34_34 cp n p0 p1 p2 v166 v168 v169 v170 v171 (fun v183 v184 => k .norm (fr34_33 p0 p1 p2 v166 v168 v169 v183 v184)) := (show XI cp n (y34_5 cp n v166) i34_10 (fr34_10 p0 p1 p2 v166 v168 v169 v170 v171) k = XI cp n (y34_5 cp n v166) i34_8 (fr34_10 p0 p1 p2 v166 v168 v169 v170 v171) (seqT (XI cp n (y34_5 cp n v166)) i34_9 k) from by kernel_rfl).trans ((show XI cp n (y34_5 cp n v166) i34_8 (fr34_10 p0 p1 p2 v166 v168 v169 v170 v171) (seqT (XI cp n (y34_5 cp n v166)) i34_9 k) = s34_30 cp n p0 p1 p2 v166 v168 v169 v170 v171 (fun v181 => XI cp n (y34_5 cp n v166) i34_9 (fr34_29 p0 p1 p2 v166 v168 v169 v170 v181) k) from (s34_30_t cp n p0 p1 p2 v166 v168 v169 v170 v171 (seqT (XI cp n (y34_5 cp n v166)) i34_9 k)).trans (by kernel_rfl)).trans (congrArg (fun q => s34_30 cp n p0 p1 p2 v166 v168 v169 v170 v171 q) (funext fun v181 => (s34_31_t cp n p0 p1 p2 v166 v168 v169 v170 v181 k).trans (show s34_31 cp n p0 p1 p2 v166 v168 v169 v170 v181 (fun v182 => k .norm (fr34_32 p0 p1 p2 v166 v168 v169 v181 v182)) = s34_31 cp n p0 p1 p2 v166 v168 v169 v170 v181 (fun v182 => k .norm (fr34_33 p0 p1 p2 v166 v168 v169 v182 v181)) from by kernel_rfl))))
def fr34_35 (p0 : SRecv) (p1 : Int) (p2 : (List Int)) (v166 : Int) (v168 : SRecv) (v169 v185 : Int) (v186 : (List SSpan)) : FF := [.yld :: (dT 5 ((.row false (.rPiece v168.xLate)) :: (tL v169) :: (tL v185) :: (dT 7 []))), dc, dc, dc, dc, dc, dc, (.hdr 15) :: (eRecvt p0), [.hdr 1, (tL p1), .hdr 1, .row false (.ruint8 p2), .hdr 15, (tL 0), .row true (.ruint8 []), .row true (.rPiece []), (tL 0), (tL 0), (tL 0), (tI .u32 0), (tB false), (tB false), (tL 0), (tB false)], (.row true (.rSpan [])) :: (tI .u32 0) :: (tI .u32 0) :: (tB false) :: (.hdr 1) :: (.row true (.rSpan v186)) :: (dT 8 ((.hdr 15) :: (sl 0 1 (eRecv v168)))), sl 1 14 (eRecv v168) ++ (dT 2 []), dc]
theorem s34_36_t : XI cp n (y34_5 cp n v166) i34_11 (fr34_10 p0 p1 p2 v166 v168 v169 v170 v171) k = s34_36 cp n p0 p1 p2 v166 v168 v169 v170 v171 (fun v185 v186 => k .norm (fr34_35 p0 p1 p2 v166 v168 v169 v185 v186)) (k (.exit 0) (fr34_11 p0 p1 p2 v166 v168 v171)) := ((fun c => (show XI cp n (y34_5 cp n v166) (.seq (.reg g34_1001) (.seq (.fin (.cond (.s 9) (.skip) (.clr [0, 6, 7, 8, 9] [] (.exit 0))) [9] []) c)) (fr34_10 p0 p1 p2 v166 v168 v169 v170 v171) k = s34_9 cp n p0 p1 p2 v166 v168 v169 v170 v171 (XI cp n (y34_5 cp n v166) c (fr34_10 p0 p1 p2 v166 v168 v169 v170 v171) k) (k (.exit 0) (fr34_11 p0 p1 p2 v166 v168 v171)) from by kernel_rfl)) i34_10).trans (congrArg (fun q => s34_9 cp n p0 p1 p2 v166 v168 v169 v170 v171 q (k (.exit 0) (fr34_11 p0 p1 p2 v166 v168 v171))) ((s34_34_t cp n p0 p1 p2 v166 v168 v169 v170 v171 k).trans (show s34_34 cp n p0 p1 p2 v166 v168 v169 v170 v171 (fun v183 v184 => k .norm (fr34_33 p0 p1 p2 v166 v168 v169 v183 v184)) = s34_34 cp n p0 p1 p2 v166 v168 v169 v170 v171 (fun v183 v184 => k .norm (fr34_35 p0 p1 p2 v166 v168 v169 v183 v184)) from by kernel_rfl)))
def fr34_37 (p0 : SRecv) (p1 : Int) (p2 : (List Int)) (v166 : Int) (v168 : SRecv) (v187 : (List SSpan)) : FF := [dc, dc, dc, dc, dc, dc, dc, (.hdr 15) :: (eRecvt p0), [.hdr 1, (tL p1), .hdr 1, .row false (.ruint8 p2), .hdr 15, (tL 0), .row true (.ruint8 []), .row true (.rPiece []), (tL 0), (tL 0), (tL 0), (tI .u32 0), (tB false), (tB false), (tL 0), (tB false)], (.row true (.rSpan [])) :: (tI .u32 0) :: (tI .u32 0) :: (tB false) :: (.hdr 1) :: (.row true (.rSpan v187)) :: (dT 8 ((.hdr 15) :: (sl 0 1 (eRecv v168)))), sl 1 14 (eRecv v168) ++ (dT 2 []), dc]
theorem l34_38_t (cp : CP) (n : Nat) : ∀ (m : Nat) (p0 : SRecv) (p1 : Int) (p2 : (List Int)) (v166 : Int) (v168 : SRecv) (v169 v170 : Int) (v171 : (List SSpan)) (k : KX R), loopN2 (XI cp n (y34_5 cp n v166) i34_11) m (fr34_10 p0 p1 p2 v166 v168 v169 v170 v171) k = l34_38 cp n m p0 p1 p2 v166 v168 v169 v170 v171 (fun v187 => k (.exit 0) (fr34_37 p0 p1 p2 v166 v168 v187))
  | 0, _, _, _, _, _, _, _, _, _ => rfl
  | m + 1, p0, p1, p2, v166, v168, v169, v170, v171, k => (loopN2_succ (XI cp n (y34_5 cp n v166) i34_11) m (fr34_10 p0 p1 p2 v166 v168 v169 v170 v171) k).trans ((s34_36_t cp n p0 p1 p2 v166 v168 v169 v170 v171 (loopT (XI cp n (y34_5 cp n v166) i34_11) m k)).trans ((show s34_36 cp n p0 p1 p2 v166 v168 v169 v170 v171 (fun v185 v186 => loopT (XI cp n (y34_5 cp n v166) i34_11) m k .norm (fr34_35 p0 p1 p2 v166 v168 v169 v185 v186)) (loopT (XI cp n (y34_5 cp n v166) i34_11) m k (.exit 0) (fr34_11 p0 p1 p2 v166 v168 v171)) = s34_36 cp n p0 p1 p2 v166 v168 v169 v170 v171 (fun v185 v186 => loopN2 (XI cp n (y34_5 cp n v166) i34_11) m (fr34_10 p0 p1 p2 v166 v168 v169 v185 v186) k) (k (.exit 0) (fr34_37 p0 p1 p2 v166 v168 v171)) from by kernel_rfl).trans (congrArg (fun q => s34_36 cp n p0 p1 p2 v166 v168 v169 v170 v171 q (k (.exit 0) (fr34_37 p0 p1 p2 v166 v168 v171))) (funext fun v185 => funext fun v186 => l34_38_t cp n m p0 p1 p2 v166 v168 v169 v185 v186 k))))
theorem s34_39_t : XI cp n (y34_5 cp n v166) i34_12 (fr34_8 p0 p1 p2 v166 v168 v169) k = s34_39 cp n p0 p1 p2 v166 v168 v169 (fun v187 => k (.exit 0) (fr34_37 p0 p1 p2 v166 v168 v187)) := (show XI cp n (y34_5 cp n v166) i34_12 (fr34_8 p0 p1 p2 v166 v168 v169) k = loopN2 (XI cp n (y34_5 cp n v166) i34_11) n (fr34_10 p0 p1 p2 v166 v168 v169 0 []) k from by kernel_rfl).trans (l34_38_t cp n n p0 p1 p2 v166 v168 v169 0 [] k)
def fr34_40 (p0 : SRecv) (p1 : Int) (p2 : (List Int)) (v166 : Int) (v168 : SRecv) (v188 : (List SSpan)) : FF := [dc, dc, dc, dc, dc, dc, dc, (.hdr 15) :: (eRecvt p0), [.hdr 1, (tL p1), .hdr 1, .row false (.ruint8 p2), .hdr 15, (tL 0), .row true (.ruint8 []), .row true (.rPiece []), (tL 0), (tL 0), (tL 0), (tI .u32 0), (tB false), (tB false), (tL 0), (tB false)], (.row true (.rSpan [])) :: (tI .u32 0) :: (tI .u32 0) :: (tB false) :: (.hdr 1) :: (.row true (.rSpan v188)) :: (dT 8 ((.hdr 15) :: (sl 0 1 (eRecv v168)))), sl 1 14 (eRecv v168) ++ (dT 2 []), dc]
theorem s34_41_t : XI cp n (y34_5 cp n v166) i34_13 (fr34_8 p0 p1 p2 v166 v168 v169) k = s34_41 cp n p0 p1 p2 v166 v168 v169 (fun v188 => k .norm (fr34_40 p0 p1 p2 v166 v168 v188)) := (show XI cp n (y34_5 cp n v166) i34_13 (fr34_8 p0 p1 p2 v166 v168 v169) k = XI cp n (y34_5 cp n v166) i34_12 (fr34_8 p0 p1 p2 v166 v168 v169) (blkT 0 k) from by kernel_rfl).trans ((s34_39_t cp n p0 p1 p2 v166 v168 v169 (blkT 0 k)).trans (by kernel_rfl))
def fr34_42 (p0 : SRecv) (p1 : Int) (p2 : (List Int)) (v166 : Int) (v168 : SRecv) (v189 : (List SSpan)) : FF := [dc, dc, dc, dc, dc, dc, dc, (.hdr 15) :: (eRecvt p0), [.hdr 1, (tL p1), .hdr 1, .row false (.ruint8 p2), .hdr 15, (tL 0), .row true (.ruint8 []), .row true (.rPiece []), (tL 0), (tL 0), (tL 0), (tI .u32 0), (tB false), (tB false), (tL 0), (tB false)], (.row true (.rSpan [])) :: (tI .u32 0) :: (tI .u32 0) :: (tB false) :: (.hdr 1) :: (.row true (.rSpan v189)) :: (dT 8 ((.hdr 15) :: (sl 0 1 (eRecv v168)))), sl 1 14 (eRecv v168) ++ (dT 2 []), dc]
def fr34_44 (p0 : SRecv) (p1 : Int) (p2 : (List Int)) (v166 : Int) (v168 : SRecv) : FF := [.yld :: (.ptr 158 0) :: (dT 14 []), dc, dc, dc, dc, dc, dc, (.hdr 15) :: (eRecvt p0), [.hdr 1, (tL p1), .hdr 1, .row false (.ruint8 p2), .hdr 15, (tL 0), .row true (.ruint8 []), .row true (.rPiece []), (tL 0), (tL 0), (tL 0), (tI .u32 0), (tB false), (tB false), (tL 0), (tB false)], (.row true (.rSpan [])) :: (tI .u32 0) :: (tI .u32 0) :: (tB false) :: (.hdr 1) :: (.row true (.rSpan [])) :: (dT 8 ((.hdr 15) :: (sl 0 1 (eRecv v168)))), sl 1 14 (eRecv v168) ++ (dT 2 []), dc]
theorem s34_43_t : XI cp n (y34_5 cp n v166) i34_3 (fr34_44 p0 p1 p2 v166 v168) k = s34_43 cp n p0 p1 p2 v166 v168 (fun v189 => k .norm (fr34_42 p0 p1 p2 v166 v168 v189)) := ((fun c => (show XI cp n (y34_5 cp n v166) (.seq (.fin (.reg g34_1000) [1, 5] []) c) (fr34_44 p0 p1 p2 v166 v168) k = s34_7 cp n p0 p1 p2 v166 v168 (fun v169 => XI cp n (y34_5 cp n v166) c (fr34_8 p0 p1 p2 v166 v168 v169) k) from by kernel_rfl)) i34_13).trans (congrArg (fun q => s34_7 cp n p0 p1 p2 v166 v168 q) (funext fun v169 => (s34_41_t cp n p0 p1 p2 v166 v168 v169 k).trans (show s34_41 cp n p0 p1 p2 v166 v168 v169 (fun v188 => k .norm (fr34_40 p0 p1 p2 v166 v168 v188)) = s34_41 cp n p0 p1 p2 v166 v168 v169 (fun v188 => k .norm (fr34_42 p0 p1 p2 v166 v168 v188)) from by kernel_rfl)))
def fr34_45 : FF := [w34_0 v166, dc, dc, dc, dc, dc, dc, w34_1 p0, w34_2 p1 p2, (.row true (.rSpan [])) :: (tI .u32 0) :: (tI .u32 0) :: (tB false) :: (.hdr 1) :: (.row true (.rSpan v190)) :: (dT 10 []), dc, dc]
theorem s34_46_t : X cp n i34_14 (fr34_4 p0 p1 p2 v166 v168) k = s34_46 cp n p0 p1 p2 v166 v168 (fun v190 => k .norm (fr34_45 p0 p1 p2 v166 v190)) := (show X cp n i34_14 (fr34_4 p0 p1 p2 v166 v168) k = XI cp n (roundK2 7 [32] [112, 128, 130, 132, 148, 158, 174] (fr34_4 p0 p1 p2 v166 v168) (X cp n i34_0) (X cp n i34_1)) i34_3 (fr34_44 p0 p1 p2 v166 v168) (rfnT 7 (fr34_4 p0 p1 p2 v166 v168) (clrT [31] [(158, 15)] k)) from rfn_eq (v := .clo 70 [(158, 0)]) (by kernel_rfl) (by kernel_rfl) (by kernel_rfl) _ _ _).trans ((congrArg (fun Y => XI cp n Y i34_3 (fr34_44 p0 p1 p2 v166 v168) (rfnT 7 (fr34_4 p0 p1 p2 v166 v168) (clrT [31] [(158, 15)] k))) ((rnd_eq 7 [32] [112, 128, 130, 132, 148, 158, 174] (fr34_4 p0 p1 p2 v166 v168) i34_0 i34_1).trans (show rndT 7 [32] [112, 128, 130, 132, 148, 158, 174] (fr34_4 p0 p1 p2 v166 v168) (X cp n i34_2) = (y34_5 cp n v166) from by kernel_rfl))).trans ((s34_43_t cp n p0 p1 p2 v166 v168 (rfnT 7 (fr34_4 p0 p1 p2 v166 v168) (clrT [31] [(158, 15)] k))).trans (by kernel_rfl)))
def fr34_47 : FF := [w34_0 v166, dc, dc, dc, dc, dc, dc, w34_1 p0, w34_2 p1 p2, (.row true (.rSpan [])) :: (tI .u32 0) :: (tI .u32 0) :: (tB false) :: (.hdr 1) :: (.row true (.rSpan v191)) :: (dT 10 []), dc, dc]
theorem s34_48_t : X cp n i34_15 (fr34_4 p0 p1 p2 v166 v168) k = s34_48 cp n p0 p1 p2 v166 v168 (fun v191 => k .norm (fr34_47 p0 p1 p2 v166 v191)) := (show X cp n i34_15 (fr34_4 p0 p1 p2 v166 v168) k = X cp n i34_14 (fr34_4 p0 p1 p2 v166 v168) (blkT 0 k) from by kernel_rfl).trans ((s34_46_t cp n p0 p1 p2 v166 v168 (blkT 0 k)).trans (by kernel_rfl))
def fr34_49 : FF := [w34_0 v166, dc, dc, dc, dc, dc, dc, w34_1 p0, w34_2 p1 p2, (.row true (.rSpan [])) :: (tI .u32 0) :: (tI .u32 0) :: (tB false) :: (.hdr 1) :: (.row true (.rSpan v192)) :: (dT 10 []), dc, dc]
theorem s34_50_t : X cp n i34_16 (fr34_2 p0 p1 p2 v166) k = s34_50 cp n p0 p1 p2 v166 (fun v192 => k .norm (fr34_49 p0 p1 p2 v166 v192)) := ((fun c => (show X cp n (.seq (.fin (.reg g34_5) [30] []) c) (fr34_2 p0 p1 p2 v166) k = s34_3 cp n p0 p1 p2 v166 (fun v168 => X cp n c (fr34_4 p0 p1 p2 v166 v168) k) from by kernel_rfl)) i34_15).trans (congrArg (fun q => s34_3 cp n p0 p1 p2 v166 q) (funext fun v168 => (s34_48_t cp n p0 p1 p2 v166 v168 k).trans (show s34_48 cp n p0 p1 p2 v166 v168 (fun v191 => k .norm (fr34_47 p0 p1 p2 v166 v191)) = s34_48 cp n p0 p1 p2 v166 v168 (fun v191 => k .norm (fr34_49 p0 p1 p2 v166 v191)) from by kernel_rfl)))
def w34_5 : Fr := (.row true (.rSpan [])) :: (tI .u32 0) :: (tI .u32 0) :: (tB false) :: (.hdr 1) :: (.row true (.rSpan v192)) :: (dT 3 ((.hdr 1) :: (tB false) :: (dT 5 [])))
def fr34_52 : FF := [dT 3 ((.ptr 112 0) :: (.ptr 128 0) :: (dT 1 ((.ptr 132 0) :: (dT 1 ((tL v166) :: (.ptr 148 0) :: (dT 1 ((.ptr 153 0) :: (.clo 59 [(153, 0), (112, 0), (130, 0), (128, 0)]) :: (dT 3 [])))))))), dc, dc, dc, dc, dc, dc, w34_1 p0, w34_2 p1 p2, w34_5 v192, dc, dc]
def fr34_54 : FF := [dT 3 ((.ptr 112 0) :: (dT 2 ((.ptr 132 0) :: (dT 1 ((tL v166) :: (.ptr 148 0) :: (dT 1 ((.ptr 153 0) :: (.clo 59 [(153, 0), (112, 0), (130, 0), (128, 0)]) :: (tL v193) :: (dT 2 [])))))))), dc, dT 12 ((tB v194) :: (dT 3 [])), dc, dc, dc, dc, w34_1 p0, w34_2 p1 p2, w34_5 v192, dc, dc]
def w34_6 : Fr := dT 3 ((.ptr 112 0) :: (dT 2 ((.ptr 132 0) :: (dT 4 ((.ptr 153 0) :: (.clo 59 [(153, 0), (112, 0), (130, 0), (128, 0)]) :: (dT 3 []))))))
def fr34_56 : FF := [w34_6, dc, dc, dT 1 ((.row false (.rSpan v196)) :: (tL v197) :: (tL 0) :: (dT 12 [])), dc, dc, dc, w34_1 p0, w34_2 p1 p2, (.row true (.rSpan [])) :: (tI .u32 0) :: (tI .u32 0) :: (tB false) :: (dT 5 ((.hdr 1) :: (tB false) :: (dT 5 []))), dc, dc]
def fr34_58 : FF := [w34_6, dc, dc, dT 1 ((.row false (.rSpan v196)) :: (tL v197) :: (tL v207) :: (dT 12 [])), dc, dc, dc, (.hdr 15) :: (eRecvt v208), [.hdr 1, (tL v209), .hdr 1, .row false (.ruint8 v210), .hdr 15, (tL 0), .row true (.ruint8 []), .row true (.rPiece []), (tL 0), (tL 0), (tL 0), (tI .u32 0), (tB false), (tB false), (tL 0), (tB false)], (.row true (.rSpan [])) :: (tI .u32 0) :: (tI .u32 0) :: (tB false) :: (dT 5 ((.hdr 1) :: (tB v211) :: (dT 5 []))), dc, dc]
def w34_7 : Fr := dT 3 ((.ptr 112 0) :: (dT 2 ((.ptr 132 0) :: (dT 4 ((.ptr 153 0) :: (dT 4 []))))))
def w34_8 : Fr := dT 4 ([.hdr 15, (tL 0), .row true (.ruint8 []), .row true (.rPiece []), (tL 0), (tL 0), (tL 0), (tI .u32 0), (tB false), (tB false), (tL 0), (tB false)])
def w34_9 : Fr := (.row true (.rSpan [])) :: (tI .u32 0) :: (tI .u32 0) :: (tB false) :: (dT 5 ((.hdr 1) :: (tB v202) :: (dT 5 [])))
def fr34_59 : FF := [w34_7, dc, dc, dc, dc, dc, dc, (.hdr 15) :: (eRecvt v199), w34_8, w34_9 v202, dc, dc]
def fr34_60 : FF := [w34_6, dc, dc, dT 1 ((.row false (.rSpan v196)) :: (tL v197) :: (tL v198) :: (dT 12 [])), dc, dc, dc, (.hdr 15) :: (eRecvt v199), [.hdr 1, (tL v200), .hdr 1, .row false (.ruint8 v201), .hdr 15, (tL 0), .row true (.ruint8 []), .row true (.rPiece []), (tL 0), (tL 0), (tL 0), (tI .u32 0), (tB false), (tB false), (tL 0), (tB false)], w34_9 v202, dc, dc]
theorem s34_57_t : X cp n i34_17 (fr34_60 v196 v197 v198 v199 v200 v201 v202) k = s34_57 cp n v196 v197 v198 v199 v200 v201 v202 (fun v207 v208 v209 v210 v211 => k .norm (fr34_58 v196 v197 v207 v208 v209 v210 v211)) (k (.exit 2) (fr34_59 v199 v202)) := by kernel_rfl
def fr34_61 : FF := [w34_7, dc, dc, dc, dc, dc, dc, (.hdr 15) :: (eRecvt v212), w34_8, (.row true (.rSpan [])) :: (tI .u32 0) :: (tI .u32 0) :: (tB false) :: (dT 5 ((.hdr 1) :: (tB v213) :: (dT 5 []))), dc, dc]
theorem l34_62_t (cp : CP) (n : Nat) : ∀ (m : Nat) (v196 : (List SSpan)) (v197 v198 : Int) (v199 : SRecv) (v200 : Int) (v201 : (List Int)) (v202 : Bool) (k : KX R), loopN2 (X cp n i34_17) m (fr34_60 v196 v197 v198 v199 v200 v201 v202) k = l34_62 cp n m v196 v197 v198 v199 v200 v201 v202 (fun v212 v213 => k (.exit 2) (fr34_61 v212 v213))
  | 0, _, _, _, _, _, _, _, _ => rfl
  | m + 1, v196, v197, v198, v199, v200, v201, v202, k => (loopN2_succ (X cp n i34_17) m (fr34_60 v196 v197 v198 v199 v200 v201 v202) k).trans ((s34_57_t cp n v196 v197 v198 v199 v200 v201 v202 (loopT (X cp n i34_17) m k)).trans ((show s34_57 cp n v196 v197 v198 v199 v200 v201 v202 (fun v207 v208 v209 v210 v211 => loopT (X cp n i34_17) m k .norm (fr34_58 v196 v197 v207 v208 v209 v210 v211)) (loopT (X cp n i34_17) m k (.exit 2) (fr34_59 v199 v202)) = s34_57 cp n v196 v197 v198 v199 v200 v201 v202 (fun v207 v208 v209 v210 v211 => loopN2 (X cp n i34_17) m (fr34_60 v196 v197 v207 v208 v209 v210 v211) k) (k (.exit 2) (fr34_61 v199 v202)) from by kernel_rfl).trans (congrArg (fun q => s34_57 cp n v196 v197 v198 v199 v200 v201 v202 q (k (.exit 2) (fr34_61 v199 v202))) (funext fun v207 => funext fun v208 => funext fun v209 => funext fun v210 => funext fun v211 => l34_62_t cp n m v196 v197 v207 v208 v209 v210 v211 k))))
theorem s34_63_t : X cp n i34_18 (fr34_56 p0 p1 p2 v196 v197) k = s34_63 cp n p0 p1 p2 v196 v197 (fun v212 v213 => k (.exit 2) (fr34_61 v212 v213)) := (show X cp n i34_18 (fr34_56 p0 p1 p2 v196 v197) k = loopN2 (X cp n i34_17) n (fr34_60 v196 v197 0 p0 p1 p2 false) k from by kernel_rfl).trans (l34_62_t cp n n v196 v197 0 p0 p1 p2 false k)
def fr34_64 : FF := [w34_7, dc, dc, dc, dc, dc, dc, (.hdr 15) :: (eRecvt v214), w34_8, (.row true (.rSpan [])) :: (tI .u32 0) :: (tI .u32 0) :: (tB false) :: (dT 5 ((.hdr 1) :: (tB v215) :: (dT 5 []))), dc, dc]
theorem s34_65_t : X cp n i34_19 (fr34_56 p0 p1 p2 v196 v197) k = s34_65 cp n p0 p1 p2 v196 v197 (fun v214 v215 => k .norm (fr34_64 v214 v215)) := (show X cp n i34_19 (fr34_56 p0 p1 p2 v196 v197) k = X cp n i34_18 (fr34_56 p0 p1 p2 v196 v197) (blkT 2 k) from by kernel_rfl).trans ((s34_63_t cp n p0 p1 p2 v196 v197 (blkT 2 k)).trans (by kernel_rfl))
def fr34_66 : FF := [w34_7, dc, dc, dc, dc, dc, dc, (.hdr 15) :: (eRecvt v216), w34_8, (.row true (.rSpan [])) :: (tI .u32 0) :: (tI .u32 0) :: (tB false) :: (dT 5 ((.hdr 1) :: (tB v217) :: (dT 5 []))), dc, dc]
theorem s34_67_t : X cp n i34_20 (fr34_54 p0 p1 p2 v166 v192 v193 v194) k = s34_67 cp n p0 p1 p2 v166 v192 v193 v194 (fun v216 v217 => k .norm (fr34_66 v216 v217)) := ((fun c => (show X cp n (.seq (.fin (.reg g34_12) [8, 9, 13, 44, 45, 46, 47, 48] [(148, 1)]) c) (fr34_54 p0 p1 p2 v166 v192 v193 v194) k = s34_55 cp n p0 p1 p2 v166 v192 v193 v194 (fun v196 v197 => X cp n c (fr34_56 p0 p1 p2 v196 v197) k) from by kernel_rfl)) i34_19).trans (congrArg (fun q => s34_55 cp n p0 p1 p2 v166 v192 v193 v194 q) (funext fun v196 => funext fun v197 => (s34_65_t cp n p0 p1 p2 v196 v197 k).trans (show s34_65 cp n p0 p1 p2 v196 v197 (fun v214 v215 => k .norm (fr34_64 v214 v215)) = s34_65 cp n p0 p1 p2 v196 v197 (fun v214 v215 => k .norm (fr34_66 v214 v215)) from by kernel_rfl)))
theorem s34_68_t : X cp n i34_21 (fr34_54 p0 p1 p2 v166 v192 v193 v194) k = s34_68 cp n p0 p1 p2 v166 v192 v193 v194 (k .norm (fr34_54 p0 p1 p2 v166 v192 v193 v194)) := by kernel_rfl
def fr34_70 : FF := [w34_7, dc, dc, dc, dc, dc, dc, (.hdr 15) :: (eRecvt v218), w34_8, (.row true (.rSpan [])) :: (tI .u32 0) :: (tI .u32 0) :: (tB false) :: (dT 5 ((.hdr 1) :: (tB v219) :: (dT 5 []))), dc, dc]
theorem s34_69_t : X cp n i34_22 (fr34_54 p0 p1 p2 v166 v192 v193 v194) k = s34_69 cp n p0 p1 p2 v166 v192 v193 v194 (fun v218 v219 => k .norm (fr34_70 v218 v219)) := (show X cp n i34_22 (fr34_54 p0 p1 p2 v166 v192 v193 v194) k = cond (v194) (X cp n i34_20 (fr34_54 p0 p1 p2 v166 v192 v193 v194) (clrT [8, 9, 12, 13, 44] [(128, 1), (130, 1), (148, 1)] k)) (X cp n i34_21 (fr34_54 p0 p1 p2 v166 v192 v193 v194) (clrT [8, 9, 12, 13, 44] [(128, 1), (130, 1), (148, 1)] k)) from by kernel_rfl).trans (cc ((s34_67_t cp n p0 p1 p2 v166 v192 v193 v194 (clrT [8, 9, 12, 13, 44] [(128, 1), (130, 1), (148, 1)] k)).trans (show s34_67 cp n p0 p1 p2 v166 v192 v193 v194 (fun v216 v217 => (clrT [8, 9, 12, 13, 44] [(128, 1), (130, 1), (148, 1)] k) .norm (fr34_66 v216 v217)) = s34_67 cp n p0 p1 p2 v166 v192 v193 v194 (fun v216 v217 => k .norm (fr34_70 v216 v217)) from by kernel_rfl)) ((s34_68_t cp n p0 p1 p2 v166 v192 v193 v194 (clrT [8, 9, 12, 13, 44] [(128, 1), (130, 1), (148, 1)] k)).trans (show s34_68 cp n p0 p1 p2 v166 v192 v193 v194 ((clrT [8, 9, 12, 13, 44] [(128, 1), (130, 1), (148, 1)] k) .norm (fr34_54 p0 p1 p2 v166 v192 v193 v194)) = s34_68 cp n p0 p1 p2 v166 v192 v193 v194 (k .norm (fr34_70 p0 false)) from by kernel_rfl)))
def w34_10 : Fr := (.row true (.rSpan [])) :: (tI .u32 0) :: (tI .u32 0) :: (tB false) :: (dT 5 ((.hdr 1) :: (tB v221) :: (dT 5 [])))
def fr34_71 : FF := [w34_7, dc, dc, dc, dc, dc, dc, (.hdr 15) :: (eRecvt v220), w34_8, w34_10 v221, dc, dc]
theorem s34_72_t : X cp n i34_23 (fr34_52 p0 p1 p2 v166 v192) k = s34_72 cp n p0 p1 p2 v166 v192 (fun v220 v221 => k .norm (fr34_71 v220 v221)) := ((fun c => (show X cp n (.seq (.fin (.reg g34_10) [4, 38, 39, 40, 41] []) (.seq (.fin (.reg g34_11) [42, 43] []) c)) (fr34_52 p0 p1 p2 v166 v192) k = s34_53 cp n p0 p1 p2 v166 v192 (fun v193 v194 => X cp n c (fr34_54 p0 p1 p2 v166 v192 v193 v194) k) from by kernel_rfl)) i34_22).trans (congrArg (fun q => s34_53 cp n p0 p1 p2 v166 v192 q) (funext fun v193 => funext fun v194 => (s34_69_t cp n p0 p1 p2 v166 v192 v193 v194 k).trans (show s34_69 cp n p0 p1 p2 v166 v192 v193 v194 (fun v218 v219 => k .norm (fr34_70 v218 v219)) = s34_69 cp n p0 p1 p2 v166 v192 v193 v194 (fun v218 v219 => k .norm (fr34_71 v218 v219)) from by kernel_rfl)))
def fr34_74 : FF := [w34_7, dc, dc, dc, dc, dc, dc, [.hdr 15, (tL v223.xNext), .row true (.ruint8 v223.xUnread), .row false (.rPiece v223.xLate), (tL v223.xCap), (tL v223.xShift), (tL v223.xEdge), (tI .u32 v223.xRecent), (tB v223.xStamps), (tB v223.xSacks), (tL v223.xFin), (tB v223.xDone), .row true (.rSpan v223.xFirst), (tI .u32 v223.xIrs), (tI .u32 v223.xOwn), (tB v223.xStamp)], w34_8, w34_10 v221, dc, dc]
def fr34_75 : FF := [w34_7, dc, dc, dc, dc, dc, dc, [.hdr 15, (tL v222.xNext), .row true (.ruint8 v222.xUnread), .row false (.rPiece v222.xLate), (tL v222.xCap), (tL v222.xShift), (tL v222.xEdge), (tI .u32 v222.xRecent), (tB v222.xStamps), (tB v222.xSacks), (tL v222.xFin), (tB v222.xDone), .row true (.rSpan v222.xFirst), (tI .u32 v222.xIrs), (tI .u32 v222.xOwn), (tB v222.xStamp)], w34_8, w34_10 v221, dc, dc]
theorem s34_73_t : X cp n i34_24 (fr34_75 v221 v222) k = s34_73 cp n v221 v222 (fun v223 => k .norm (fr34_74 v221 v223)) (k (.exit 4) (fr34_75 v221 v222)) := by kernel_rfl
def fr34_76 : FF := [w34_7, dc, dc, dc, dc, dc, dc, [.hdr 15, (tL v224.xNext), .row true (.ruint8 v224.xUnread), .row false (.rPiece v224.xLate), (tL v224.xCap), (tL v224.xShift), (tL v224.xEdge), (tI .u32 v224.xRecent), (tB v224.xStamps), (tB v224.xSacks), (tL v224.xFin), (tB v224.xDone), .row true (.rSpan v224.xFirst), (tI .u32 v224.xIrs), (tI .u32 v224.xOwn), (tB v224.xStamp)], w34_8, w34_10 v221, dc, dc]
theorem l34_77_t (cp : CP) (n : Nat) : ∀ (m : Nat) (v221 : Bool) (v222 : SRecv) (k : KX R), loopN2 (X cp n i34_24) m (fr34_75 v221 v222) k = l34_77 cp n m v221 v222 (fun v224 => k (.exit 4) (fr34_76 v221 v224))
  | 0, _, _, _ => rfl
  | m + 1, v221, v222, k => (loopN2_succ (X cp n i34_24) m (fr34_75 v221 v222) k).trans ((s34_73_t cp n v221 v222 (loopT (X cp n i34_24) m k)).trans ((show s34_73 cp n v221 v222 (fun v223 => loopT (X cp n i34_24) m k .norm (fr34_74 v221 v223)) (loopT (X cp n i34_24) m k (.exit 4) (fr34_75 v221 v222)) = s34_73 cp n v221 v222 (fun v223 => loopN2 (X cp n i34_24) m (fr34_75 v221 v223) k) (k (.exit 4) (fr34_76 v221 v222)) from by kernel_rfl).trans (congrArg (fun q => s34_73 cp n v221 v222 q (k (.exit 4) (fr34_76 v221 v222))) (funext fun v223 => l34_77_t cp n m v221 v223 k))))
def fr34_79 : FF := [w34_7, dc, dc, dc, dc, dc, dc, [.hdr 15, (tL v220.xNext), .row true (.ruint8 v220.xUnread), .row false (.rPiece v220.xLate), (tL v220.xCap), (tL v220.xShift), (tL v220.xEdge), (tI .u32 v220.xRecent), (tB v220.xStamps), (tB v220.xSacks), (tL v220.xFin), (tB v220.xDone), .row true (.rSpan v220.xFirst), (tI .u32 v220.xIrs), (tI .u32 v220.xOwn), (tB v220.xStamp)], w34_8, w34_10 v221, dc, dc]
theorem s34_78_t : X cp n i34_25 (fr34_79 v220 v221) k = s34_78 cp n v220 v221 (fun v224 => k (.exit 4) (fr34_76 v221 v224)) := (show X cp n i34_25 (fr34_79 v220 v221) k = loopN2 (X cp n i34_24) n (fr34_75 v221 v220) k from by kernel_rfl).trans (l34_77_t cp n n v221 v220 k)
theorem s34_80_t : X cp n i34_26 (fr34_71 v220 v221) k = s34_80 cp n v220 v221 (fun v224 => k (.exit 4) (fr34_76 v221 v224)) := (show X cp n i34_26 (fr34_71 v220 v221) k = X cp n i34_25 (fr34_79 v220 v221) k from by kernel_rfl).trans (s34_78_t cp n v220 v221 k)
def fr34_81 : FF := [w34_7, dc, dc, dc, dc, dc, dc, [.hdr 15, (tL v225.xNext), .row true (.ruint8 v225.xUnread), .row false (.rPiece v225.xLate), (tL v225.xCap), (tL v225.xShift), (tL v225.xEdge), (tI .u32 v225.xRecent), (tB v225.xStamps), (tB v225.xSacks), (tL v225.xFin), (tB v225.xDone), .row true (.rSpan v225.xFirst), (tI .u32 v225.xIrs), (tI .u32 v225.xOwn), (tB v225.xStamp)], w34_8, w34_10 v221, dc, dc]
theorem s34_82_t : X cp n i34_27 (fr34_71 v220 v221) k = s34_82 cp n v220 v221 (fun v225 => k .norm (fr34_81 v221 v225)) := (show X cp n i34_27 (fr34_71 v220 v221) k = X cp n i34_26 (fr34_71 v220 v221) (blkT 4 k) from by kernel_rfl).trans ((s34_80_t cp n v220 v221 (blkT 4 k)).trans (by kernel_rfl))
def w34_11 : Fr := dT 6 ((.ptr 132 0) :: (tB v221) :: (dT 8 []))
def fr34_84 : FF := [w34_11 v221, dc, dc, dc, dc, dc, dc, dc, dT 4 ([.hdr 15, (tL v225.xNext), .row true (.ruint8 v225.xUnread), .row false (.rPiece v225.xLate), (tL v225.xCap), (tL v225.xShift), (tL v225.xEdge), (tI .u32 v225.xRecent), (tB v225.xStamps), (tB v225.xSacks), (tL v225.xFin), (tB v225.xDone)]), (.row true (.rSpan v225.xFirst)) :: (tI .u32 v225.xIrs) :: (tI .u32 v225.xOwn) :: (tB v225.xStamp) :: (dT 12 []), dc, dc]
theorem s34_83_t : X cp n i34_28 (fr34_81 v221 v225) k = s34_83 cp n v221 v225 (k .ret (fr34_84 v221 v225)) := by kernel_rfl
def fr34_85 : FF := [w34_11 v221, dc, dc, dc, dc, dc, dc, dc, dT 4 ([.hdr 15, (tL v226.xNext), .row true (.ruint8 v226.xUnread), .row false (.rPiece v226.xLate), (tL v226.xCap), (tL v226.xShift), (tL v226.xEdge), (tI .u32 v226.xRecent), (tB v226.xStamps), (tB v226.xSacks), (tL v226.xFin), (tB v226.xDone)]), (.row true (.rSpan v226.xFirst)) :: (tI .u32 v226.xIrs) :: (tI .u32 v226.xOwn) :: (tB v226.xStamp) :: (dT 12 []), dc, dc]
theorem s34_86_t : X cp n i34_29 (fr34_71 v220 v221) k = s34_86 cp n v220 v221 (fun v226 => k .ret (fr34_85 v221 v226)) := (show X cp n i34_29 (fr34_71 v220 v221) k = X cp n i34_27 (fr34_71 v220 v221) (seqT (X cp n) i34_28 k) from by kernel_rfl).trans ((show X cp n i34_27 (fr34_71 v220 v221) (seqT (X cp n) i34_28 k) = s34_82 cp n v220 v221 (fun v225 => X cp n i34_28 (fr34_81 v221 v225) k) from (s34_82_t cp n v220 v221 (seqT (X cp n) i34_28 k)).trans (by kernel_rfl)).trans (congrArg (fun q => s34_82 cp n v220 v221 q) (funext fun v225 => (s34_83_t cp n v221 v225 k).trans (show s34_83 cp n v221 v225 (k .ret (fr34_84 v221 v225)) = s34_83 cp n v221 v225 (k .ret (fr34_85 v221 v225)) from by kernel_rfl))))
def fr34_87 : FF := [dT 6 ((.ptr 132 0) :: (tB v227) :: (dT 8 [])), dc, dc, dc, dc, dc, dc, dc, dT 4 ([.hdr 15, (tL v228.xNext), .row true (.ruint8 v228.xUnread), .row false (.rPiece v228.xLate), (tL v228.xCap), (tL v228.xShift), (tL v228.xEdge), (tI .u32 v228.xRecent), (tB v228.xStamps), (tB v228.xSacks), (tL v228.xFin), (tB v228.xDone)]), (.row true (.rSpan v228.xFirst)) :: (tI .u32 v228.xIrs) :: (tI .u32 v228.xOwn) :: (tB v228.xStamp) :: (dT 12 []), dc, dc]
theorem s34_88_t : X cp n i34_30 (fr34_52 p0 p1 p2 v166 v192) k = s34_88 cp n p0 p1 p2 v166 v192 (fun v227 v228 => k .ret (fr34_87 v227 v228)) := (show X cp n i34_30 (fr34_52 p0 p1 p2 v166 v192) k = X cp n i34_23 (fr34_52 p0 p1 p2 v166 v192) (seqT (X cp n) i34_29 k) from by kernel_rfl).trans ((show X cp n i34_23 (fr34_52 p0 p1 p2 v166 v192) (seqT (X cp n) i34_29 k) = s34_72 cp n p0 p1 p2 v166 v192 (fun v220 v221 => X cp n i34_29 (fr34_71 v220 v221) k) from (s34_72_t cp n p0 p1 p2 v166 v192 (seqT (X cp n) i34_29 k)).trans (by kernel_rfl)).trans (congrArg (fun q => s34_72 cp n p0 p1 p2 v166 v192 q) (funext fun v220 => funext fun v221 => (s34_86_t cp n v220 v221 k).trans (show s34_86 cp n v220 v221 (fun v226 => k .ret (fr34_85 v221 v226)) = s34_86 cp n v220 v221 (fun v226 => k .ret (fr34_87 v221 v226)) from by kernel_rfl))))
def fr34_89 : FF := [dT 6 ((.ptr 132 0) :: (tB v229) :: (dT 8 [])), dc, dc, dc, dc, dc, dc, dc, dT 4 ([.hdr 15, (tL v230.xNext), .row true (.ruint8 v230.xUnread), .row false (.rPiece v230.xLate), (tL v230.xCap), (tL v230.xShift), (tL v230.xEdge), (tI .u32 v230.xRecent), (tB v230.xStamps), (tB v230.xSacks), (tL v230.xFin), (tB v230.xDone)]), (.row true (.rSpan v230.xFirst)) :: (tI .u32 v230.xIrs) :: (tI .u32 v230.xOwn) :: (tB v230.xStamp) :: (dT 12 []), dc, dc]
theorem s34_90_t : X cp n i34_31 (fr34_49 p0 p1 p2 v166 v192) k = s34_90 cp n p0 p1 p2 v166 v192 (fun v229 v230 => k .ret (fr34_89 v229 v230)) := ((fun c => (show X cp n (.seq (.reg g34_8) (.seq (.fin (.reg g34_9) [5, 37] []) c)) (fr34_49 p0 p1 p2 v166 v192) k = s34_51 cp n p0 p1 p2 v166 v192 (X cp n c (fr34_52 p0 p1 p2 v166 v192) k) from by kernel_rfl)) i34_30).trans (congrArg (fun q => s34_51 cp n p0 p1 p2 v166 v192 q) ((s34_88_t cp n p0 p1 p2 v166 v192 k).trans (show s34_88 cp n p0 p1 p2 v166 v192 (fun v227 v228 => k .ret (fr34_87 v227 v228)) = s34_88 cp n p0 p1 p2 v166 v192 (fun v227 v228 => k .ret (fr34_89 v227 v228)) from by kernel_rfl)))
def fr34_91 : FF := [dT 6 ((.ptr 132 0) :: (tB v231) :: (dT 8 [])), dc, dc, dc, dc, dc, dc, dc, dT 4 ([.hdr 15, (tL v232.xNext), .row true (.ruint8 v232.xUnread), .row false (.rPiece v232.xLate), (tL v232.xCap), (tL v232.xShift), (tL v232.xEdge), (tI .u32 v232.xRecent), (tB v232.xStamps), (tB v232.xSacks), (tL v232.xFin), (tB v232.xDone)]), (.row true (.rSpan v232.xFirst)) :: (tI .u32 v232.xIrs) :: (tI .u32 v232.xOwn) :: (tB v232.xStamp) :: (dT 12 []), dc, dc]
theorem s34_92_t : X cp n i34_32 (fr34_2 p0 p1 p2 v166) k = s34_92 cp n p0 p1 p2 v166 (fun v231 v232 => k .ret (fr34_91 v231 v232)) := (show X cp n i34_32 (fr34_2 p0 p1 p2 v166) k = X cp n i34_16 (fr34_2 p0 p1 p2 v166) (seqT (X cp n) i34_31 k) from by kernel_rfl).trans ((show X cp n i34_16 (fr34_2 p0 p1 p2 v166) (seqT (X cp n) i34_31 k) = s34_50 cp n p0 p1 p2 v166 (fun v192 => X cp n i34_31 (fr34_49 p0 p1 p2 v166 v192) k) from (s34_50_t cp n p0 p1 p2 v166 (seqT (X cp n) i34_31 k)).trans (by kernel_rfl)).trans (congrArg (fun q => s34_50 cp n p0 p1 p2 v166 q) (funext fun v192 => (s34_90_t cp n p0 p1 p2 v166 v192 k).trans (show s34_90 cp n p0 p1 p2 v166 v192 (fun v229 v230 => k .ret (fr34_89 v229 v230)) = s34_90 cp n p0 p1 p2 v166 v192 (fun v229 v230 => k .ret (fr34_91 v229 v230)) from by kernel_rfl))))
def fr34_93 : FF := [dT 6 ((.ptr 132 0) :: (tB v233) :: (dT 8 [])), dc, dc, dc, dc, dc, dc, dc, dT 4 ([.hdr 15, (tL v234.xNext), .row true (.ruint8 v234.xUnread), .row false (.rPiece v234.xLate), (tL v234.xCap), (tL v234.xShift), (tL v234.xEdge), (tI .u32 v234.xRecent), (tB v234.xStamps), (tB v234.xSacks), (tL v234.xFin), (tB v234.xDone)]), (.row true (.rSpan v234.xFirst)) :: (tI .u32 v234.xIrs) :: (tI .u32 v234.xOwn) :: (tB v234.xStamp) :: (dT 12 []), dc, dc]
def fr34_95 : FF := [(.agg (eRecvt p0)) :: (tL p1) :: (.row false (.ruint8 p2)) :: (dT 13 []), dc, dc, dc, dc, dc, dc, dc, dc, dc, dc, dc]
theorem s34_94_t : X cp n i34_33 (fr34_95 p0 p1 p2) k = s34_94 cp n p0 p1 p2 (fun v233 v234 => k .ret (fr34_93 v233 v234)) := ((fun c => (show X cp n (.seq (.fin (.reg g34_0) [0, 1, 2, 7] []) (.seq (.fin (.reg g34_1) [16, 17, 18, 19, 20, 21, 22] []) (.seq (.seq (.fin (.reg g34_2) [23, 24] []) (.fin (.cond (.s 25) (.fin (.reg g34_3) [25, 26, 27, 28, 29] []) i34_21) [25] [])) (.seq (.reg g34_4) c)))) (fr34_95 p0 p1 p2) k = s34_1 cp n p0 p1 p2 (fun v166 => X cp n c (fr34_2 p0 p1 p2 v166) k) from by kernel_rfl)) i34_32).trans (congrArg (fun q => s34_1 cp n p0 p1 p2 q) (funext fun v166 => (s34_92_t cp n p0 p1 p2 v166 k).trans (show s34_92 cp n p0 p1 p2 v166 (fun v231 v232 => k .ret (fr34_91 v231 v232)) = s34_92 cp n p0 p1 p2 v166 (fun v231 v232 => k .ret (fr34_93 v231 v232)) from by kernel_rfl)))
theorem run34 (cp : CP) (n : Nat) (p0 : SRecv) (p1 : Int) (p2 : (List Int)) (k : Ret2 RW → Option R) : G34 cp (n + 1) p0 p1 p2 (fun r0 r1 => k ⟨.tup [.agg [(tL r0.xNext), .row true (.ruint8 r0.xUnread), .row false (.rPiece r0.xLate), (tL r0.xCap), (tL r0.xShift), (tL r0.xEdge), (tI .u32 r0.xRecent), (tB r0.xStamps), (tB r0.xSacks), (tL r0.xFin), (tB r0.xDone), .row true (.rSpan r0.xFirst), (tI .u32 r0.xIrs), (tI .u32 r0.xOwn), (tB r0.xStamp)], (tB r1)], [], []⟩) = run2 U cp (callP cp n) n fn34 [.agg (eRecvt p0), (tL p1), .row false (.ruint8 p2)] [] k := ((X_run (f := fn34) (av := [.agg (eRecvt p0), (tL p1), .row false (.ruint8 p2)]) (cells := []) (code := i34_33) (fr := (fr34_95 p0 p1 p2)) (k := k) (by kernel_rfl) (fun K => by kernel_rfl)).trans ((s34_94_t cp n p0 p1 p2 (finK2 fn34 k)).trans (by kernel_rfl))).symm
end
/-! tideway/recv.firsts$1 -/
section
variable (cp : CP) (n : Nat) (k : KX R)
theorem run1038 (cp : CP) (n : Nat) (p0 q0 : SSpan) (k : Ret2 RW → Option R) : G1038 cp (n + 1) p0 q0 (fun r0 r1 => k ⟨(tB r0), [(eSpan r1)], []⟩) = run2 U cp (callP cp n) n fn1038 [.agg (eSpan p0), .ptr 16 0] [(eSpan q0)] k := by kernel_rfl
end
/-! slices.IndexFunc[[]tideway/api.Span,tideway/api.Span] -/
section
variable (cp : CP) (n : Nat) (p0 : (List SSpan)) (q0 : SSpan) (v252 v253 v254 v255 v258 v259 v260 v261 v262 v263 v264 v265 v266 v267 v268 v269 v270 v271 v272 v273 v274 v275 v276 v277 v278 v279 v280 v281 v282 v283 : Int) (k : KX R)
def w1037_0 : Fr := dT 3 ((.hdr 2) :: ((eSpan q0) ++ (dT 10 [])))
def fr1037_2 : FF := [(.row false (.rSpan p0)) :: (.clo 63 [(19, 0)]) :: (dT 14 []), w1037_0 q0]
def fr1037_4 : FF := [(.row false (.rSpan p0)) :: (.clo 63 [(19, 0)]) :: (dT 5 ((tL v252) :: (tL 0) :: (dT 7 []))), w1037_0 q0]
def fr1037_6 : FF := [(.row false (.rSpan p0)) :: (.clo 63 [(19, 0)]) :: (dT 5 ((tL v252) :: (tL v258) :: (dT 7 []))), dT 3 ((.hdr 2) :: (tL v259) :: (tL v260) :: (dT 10 []))]
def fr1037_7 : FF := [dT 4 ((tL v253) :: (dT 11 [])), dT 3 ((.hdr 2) :: (tL v261) :: (tL v262) :: (dT 10 []))]
def w1037_1 : Fr := dT 3 ((.hdr 2) :: (tL v254) :: (tL v255) :: (dT 10 []))
def fr1037_8 : FF := [dc, w1037_1 v254 v255]
def fr1037_9 : FF := [(.row false (.rSpan p0)) :: (.clo 63 [(19, 0)]) :: (dT 5 ((tL v252) :: (tL v253) :: (dT 7 []))), w1037_1 v254 v255]
theorem s1037_5_t : X cp n i1037_0 (fr1037_9 p0 v252 v253 v254 v255) k = s1037_5 cp n p0 v252 v253 v254 v255 (fun v258 v259 v260 => k .norm (fr1037_6 p0 v252 v258 v259 v260)) (fun v261 v262 => k .ret (fr1037_7 v253 v261 v262)) (k (.exit 0) (fr1037_8 v254 v255)) := by kernel_rfl
def fr1037_10 : FF := [dT 4 ((tL v263) :: (dT 11 [])), dT 3 ((.hdr 2) :: (tL v264) :: (tL v265) :: (dT 10 []))]
def fr1037_11 : FF := [dc, dT 3 ((.hdr 2) :: (tL v266) :: (tL v267) :: (dT 10 []))]
theorem l1037_12_t (cp : CP) (n : Nat) : ∀ (m : Nat) (p0 : (List SSpan)) (v252 v253 v254 v255 : Int) (k : KX R), loopN2 (X cp n i1037_0) m (fr1037_9 p0 v252 v253 v254 v255) k = l1037_12 cp n m p0 v252 v253 v254 v255 (fun v263 v264 v265 => k .ret (fr1037_10 v263 v264 v265)) (fun v266 v267 => k (.exit 0) (fr1037_11 v266 v267))
  | 0, _, _, _, _, _, _ => rfl
  | m + 1, p0, v252, v253, v254, v255, k => (loopN2_succ (X cp n i1037_0) m (fr1037_9 p0 v252 v253 v254 v255) k).trans ((s1037_5_t cp n p0 v252 v253 v254 v255 (loopT (X cp n i1037_0) m k)).trans ((show s1037_5 cp n p0 v252 v253 v254 v255 (fun v258 v259 v260 => loopT (X cp n i1037_0) m k .norm (fr1037_6 p0 v252 v258 v259 v260)) (fun v261 v262 => loopT (X cp n i1037_0) m k .ret (fr1037_7 v253 v261 v262)) (loopT (X cp n i1037_0) m k (.exit 0) (fr1037_8 v254 v255)) = s1037_5 cp n p0 v252 v253 v254 v255 (fun v258 v259 v260 => loopN2 (X cp n i1037_0) m (fr1037_9 p0 v252 v258 v259 v260) k) (fun v261 v262 => k .ret (fr1037_10 v253 v261 v262)) (k (.exit 0) (fr1037_11 v254 v255)) from by kernel_rfl).trans (congrArg (fun q => s1037_5 cp n p0 v252 v253 v254 v255 q (fun v261 v262 => k .ret (fr1037_10 v253 v261 v262)) (k (.exit 0) (fr1037_11 v254 v255))) (funext fun v258 => funext fun v259 => funext fun v260 => l1037_12_t cp n m p0 v252 v258 v259 v260 k))))
theorem s1037_13_t : X cp n i1037_1 (fr1037_4 p0 q0 v252) k = s1037_13 cp n p0 q0 v252 (fun v263 v264 v265 => k .ret (fr1037_10 v263 v264 v265)) (fun v266 v267 => k (.exit 0) (fr1037_11 v266 v267)) := (show X cp n i1037_1 (fr1037_4 p0 q0 v252) k = loopN2 (X cp n i1037_0) n (fr1037_9 p0 v252 0 q0.xFrom q0.xTo) k from by kernel_rfl).trans (l1037_12_t cp n n p0 v252 0 q0.xFrom q0.xTo k)
def fr1037_14 : FF := [dc, dT 3 ((.hdr 2) :: (tL v268) :: (tL v269) :: (dT 10 []))]
def fr1037_15 : FF := [dT 4 ((tL v270) :: (dT 11 [])), dT 3 ((.hdr 2) :: (tL v271) :: (tL v272) :: (dT 10 []))]
theorem s1037_16_t : X cp n i1037_2 (fr1037_4 p0 q0 v252) k = s1037_16 cp n p0 q0 v252 (fun v268 v269 => k .norm (fr1037_14 v268 v269)) (fun v270 v271 v272 => k .ret (fr1037_15 v270 v271 v272)) := (show X cp n i1037_2 (fr1037_4 p0 q0 v252) k = X cp n i1037_1 (fr1037_4 p0 q0 v252) (blkT 0 k) from by kernel_rfl).trans ((s1037_13_t cp n p0 q0 v252 (blkT 0 k)).trans (by kernel_rfl))
def w1037_2 : Fr := dT 3 ((.hdr 2) :: (tL v273) :: (tL v274) :: (dT 10 []))
def fr1037_17 : FF := [dc, w1037_2 v273 v274]
def fr1037_18 : FF := [dT 4 ((tL v275) :: (dT 11 [])), dT 3 ((.hdr 2) :: (tL v276) :: (tL v277) :: (dT 10 []))]
theorem s1037_19_t : X cp n i1037_3 (fr1037_2 p0 q0) k = s1037_19 cp n p0 q0 (fun v273 v274 => k .norm (fr1037_17 v273 v274)) (fun v275 v276 v277 => k .ret (fr1037_18 v275 v276 v277)) := ((fun c => (show X cp n (.seq (.fin (.reg g1037_1) [6] []) c) (fr1037_2 p0 q0) k = s1037_3 cp n p0 q0 (fun v252 => X cp n c (fr1037_4 p0 q0 v252) k) from by kernel_rfl)) i1037_2).trans (congrArg (fun q => s1037_3 cp n p0 q0 q) (funext fun v252 => (s1037_16_t cp n p0 q0 v252 k).trans (show s1037_16 cp n p0 q0 v252 (fun v268 v269 => k .norm (fr1037_14 v268 v269)) (fun v270 v271 v272 => k .ret (fr1037_15 v270 v271 v272)) = s1037_16 cp n p0 q0 v252 (fun v268 v269 => k .norm (fr1037_17 v268 v269)) (fun v270 v271 v272 => k .ret (fr1037_18 v270 v271 v272)) from by kernel_rfl)))
def fr1037_21 : FF := [dT 4 ((tL (-1)) :: (dT 11 [])), w1037_2 v273 v274]
theorem s1037_20_t : X cp n i1037_4 (fr1037_17 v273 v274) k = s1037_20 cp n v273 v274 (k .ret (fr1037_21 v273 v274)) := by kernel_rfl
def fr1037_22 : FF := [dT 4 ((tL v278) :: (dT 11 [])), dT 3 ((.hdr 2) :: (tL v279) :: (tL v280) :: (dT 10 []))]
theorem s1037_23_t : X cp n i1037_5 (fr1037_2 p0 q0) k = s1037_23 cp n p0 q0 (fun v278 v279 v280 => k .ret (fr1037_22 v278 v279 v280)) := (show X cp n i1037_5 (fr1037_2 p0 q0) k = X cp n i1037_3 (fr1037_2 p0 q0) (seqT (X cp n) i1037_4 k) from by kernel_rfl).trans ((show X cp n i1037_3 (fr1037_2 p0 q0) (seqT (X cp n) i1037_4 k) = s1037_19 cp n p0 q0 (fun v273 v274 => X cp n i1037_4 (fr1037_17 v273 v274) k) (fun v275 v276 v277 => k .ret (fr1037_22 v275 v276 v277)) from (s1037_19_t cp n p0 q0 (seqT (X cp n) i1037_4 k)).trans (by kernel_rfl)).trans (congrArg (fun q => s1037_19 cp n p0 q0 q (fun v275 v276 v277 => k .ret (fr1037_22 v275 v276 v277))) (funext fun v273 => funext fun v274 => (s1037_20_t cp n v273 v274 k).trans (show s1037_20 cp n v273 v274 (k .ret (fr1037_21 v273 v274)) = s1037_20 cp n v273 v274 (k .ret (fr1037_22 (-1) v273 v274)) from by kernel_rfl))))
def fr1037_24 : FF := [dT 4 ((tL v281) :: (dT 11 [])), dT 3 ((.hdr 2) :: (tL v282) :: (tL v283) :: (dT 10 []))]
theorem s1037_25_t : X cp n i1037_6 (fr1037_2 p0 q0) k = s1037_25 cp n p0 q0 (fun v281 v282 v283 => k .ret (fr1037_24 v281 v282 v283)) := ((fun c => (show X cp n (.seq (.fin (.reg g1037_0) [4] []) c) (fr1037_2 p0 q0) k = s1037_1 cp n p0 q0 (X cp n c (fr1037_2 p0 q0) k) from by kernel_rfl)) i1037_5).trans (congrArg (fun q => s1037_1 cp n p0 q0 q) ((s1037_23_t cp n p0 q0 k).trans (show s1037_23 cp n p0 q0 (fun v278 v279 v280 => k .ret (fr1037_22 v278 v279 v280)) = s1037_23 cp n p0 q0 (fun v278 v279 v280 => k .ret (fr1037_24 v278 v279 v280)) from by kernel_rfl)))
theorem run1037 (cp : CP) (n : Nat) (p0 : (List SSpan)) (q0 : SSpan) (k : Ret2 RW → Option R) : G1037 cp (n + 1) p0 q0 (fun r0 r1 => k ⟨(tL r0), [(eSpan r1)], []⟩) = run2 U cp (callP cp n) n fn1037 [.row false (.rSpan p0), .clo 63 [(19, 0)]] [(eSpan q0)] k := ((X_run (f := fn1037) (av := [.row false (.rSpan p0), .clo 63 [(19, 0)]]) (cells := [(eSpan q0)]) (code := i1037_6) (fr := (fr1037_2 p0 q0)) (k := k) (by kernel_rfl) (fun K => by kernel_rfl)).trans ((s1037_25_t cp n p0 q0 (finK2 fn1037 k)).trans (by kernel_rfl))).symm
end
/-! tideway/recv.firsts -/
section
variable (cp : CP) (n : Nat) (p0 : SRecv) (p1 : Int) (p2 : (List Int)) (v243 : (List SSpan)) (v244 v245 v246 : Int) (v247 v248 v249 v250 : (List SSpan)) (v251 : Int) (v252 : (List SSpan)) (v253 : Int) (v257 : (List SSpan)) (v258 : Int) (v259 v260 v261 v262 v263 v264 v265 : (List SSpan)) (k : KX R)
def fr35_2 : FF := [dT 1 ((tL p1) :: (.row false (.ruint8 p2)) :: (dT 4 ((.row false (.rSpan v243)) :: (.row false (.rSpan p0.xFirst)) :: (dT 7 [])))), dc, dc, dc, dc, dc, dc, dc]
def fr35_4 : FF := [dT 1 ((tL p1) :: (.row false (.ruint8 p2)) :: (dT 4 ((.row false (.rSpan v243)) :: (.row false (.rSpan p0.xFirst)) :: (tL v244) :: (dT 6 [])))), dc, dc, dc, dc, dc, dc, dc]
def fr35_6 : FF := [dT 1 ((tL p1) :: (.row false (.ruint8 p2)) :: (dT 4 ((.row false (.rSpan v243)) :: (.row false (.rSpan p0.xFirst)) :: (tL v246) :: (dT 6 [])))), dc, dc, dc, dc, dc, dc, dc]
def fr35_7 : FF := [dT 7 ((.row false (.rSpan v243)) :: (.row false (.rSpan v247)) :: (dT 7 [])), dc, dc, dc, dc, dc, dc, dc]
def fr35_8 : FF := [dT 1 ((tL p1) :: (.row false (.ruint8 p2)) :: (dT 4 ((.row false (.rSpan v243)) :: (.row false (.rSpan p0.xFirst)) :: (tL v245) :: (dT 6 [])))), dc, dc, dc, dc, dc, dc, dc]
theorem s35_5_t : X cp n i35_0 (fr35_8 p0 p1 p2 v243 v245) k = s35_5 cp n p0 p1 p2 v243 v245 (fun v246 => k .norm (fr35_6 p0 p1 p2 v243 v246)) (fun v247 => k (.exit 0) (fr35_7 v243 v247)) := by kernel_rfl
def fr35_9 : FF := [dT 7 ((.row false (.rSpan v243)) :: (.row false (.rSpan v248)) :: (dT 7 [])), dc, dc, dc, dc, dc, dc, dc]
theorem l35_10_t (cp : CP) (n : Nat) : ∀ (m : Nat) (p0 : SRecv) (p1 : Int) (p2 : (List Int)) (v243 : (List SSpan)) (v245 : Int) (k : KX R), loopN2 (X cp n i35_0) m (fr35_8 p0 p1 p2 v243 v245) k = l35_10 cp n m p0 p1 p2 v243 v245 (fun v248 => k (.exit 0) (fr35_9 v243 v248))
  | 0, _, _, _, _, _, _ => rfl
  | m + 1, p0, p1, p2, v243, v245, k => (loopN2_succ (X cp n i35_0) m (fr35_8 p0 p1 p2 v243 v245) k).trans ((s35_5_t cp n p0 p1 p2 v243 v245 (loopT (X cp n i35_0) m k)).trans ((show s35_5 cp n p0 p1 p2 v243 v245 (fun v246 => loopT (X cp n i35_0) m k .norm (fr35_6 p0 p1 p2 v243 v246)) (fun v247 => loopT (X cp n i35_0) m k (.exit 0) (fr35_7 v243 v247)) = s35_5 cp n p0 p1 p2 v243 v245 (fun v246 => loopN2 (X cp n i35_0) m (fr35_8 p0 p1 p2 v243 v246) k) (fun v247 => k (.exit 0) (fr35_9 v243 v247)) from by kernel_rfl).trans (congrArg (fun q => s35_5 cp n p0 p1 p2 v243 v245 q (fun v247 => k (.exit 0) (fr35_9 v243 v247))) (funext fun v246 => l35_10_t cp n m p0 p1 p2 v243 v246 k))))
theorem s35_11_t : X cp n i35_1 (fr35_4 p0 p1 p2 v243 v244) k = s35_11 cp n p0 p1 p2 v243 v244 (fun v248 => k (.exit 0) (fr35_9 v243 v248)) := (show X cp n i35_1 (fr35_4 p0 p1 p2 v243 v244) k = loopN2 (X cp n i35_0) n (fr35_8 p0 p1 p2 v243 v244) k from by kernel_rfl).trans (l35_10_t cp n n p0 p1 p2 v243 v244 k)
def fr35_12 : FF := [dT 7 ((.row false (.rSpan v243)) :: (.row false (.rSpan v249)) :: (dT 7 [])), dc, dc, dc, dc, dc, dc, dc]
theorem s35_13_t : X cp n i35_2 (fr35_4 p0 p1 p2 v243 v244) k = s35_13 cp n p0 p1 p2 v243 v244 (fun v249 => k .norm (fr35_12 v243 v249)) := (show X cp n i35_2 (fr35_4 p0 p1 p2 v243 v244) k = X cp n i35_1 (fr35_4 p0 p1 p2 v243 v244) (blkT 0 k) from by kernel_rfl).trans ((s35_11_t cp n p0 p1 p2 v243 v244 (blkT 0 k)).trans (by kernel_rfl))
def fr35_14 : FF := [dT 7 ((.row false (.rSpan v243)) :: (.row false (.rSpan v250)) :: (dT 7 [])), dc, dc, dc, dc, dc, dc, dc]
theorem s35_15_t : X cp n i35_3 (fr35_2 p0 p1 p2 v243) k = s35_15 cp n p0 p1 p2 v243 (fun v250 => k .norm (fr35_14 v243 v250)) := ((fun c => (show X cp n (.seq (.fin (.reg g35_3) [19, 20, 21] []) c) (fr35_2 p0 p1 p2 v243) k = s35_3 cp n p0 p1 p2 v243 (fun v244 => X cp n c (fr35_4 p0 p1 p2 v243 v244) k) from by kernel_rfl)) i35_2).trans (congrArg (fun q => s35_3 cp n p0 p1 p2 v243 q) (funext fun v244 => (s35_13_t cp n p0 p1 p2 v243 v244 k).trans (show s35_13 cp n p0 p1 p2 v243 v244 (fun v249 => k .norm (fr35_12 v243 v249)) = s35_13 cp n p0 p1 p2 v243 v244 (fun v249 => k .norm (fr35_14 v243 v249)) from by kernel_rfl)))
def fr35_17 : FF := [dT 7 ((.row false (.rSpan v243)) :: (.row false (.rSpan v250)) :: (dT 1 ((.row true (.rSpan [])) :: (dT 5 [])))), dc, dc, dc, dc, dc, dc, dc]
def fr35_19 : FF := [dT 7 ((.row false (.rSpan v243)) :: (dT 2 ((.row true (.rSpan [])) :: (dT 5 [])))), dc, dc, dT 9 ((.row false (.rSpan v250)) :: (tL v251) :: (tL 0) :: (dT 4 [])), dc, dc, dc, dc]
def fr35_21 : FF := [dT 7 ((.row false (.rSpan v243)) :: (dT 2 ((.row true (.rSpan v257)) :: (dT 5 [])))), dc, dc, dT 9 ((.row false (.rSpan v250)) :: (tL v251) :: (tL v258) :: (dT 4 [])), dc, dc, dc, dc]
def fr35_22 : FF := [dT 10 ((.row true (.rSpan v252)) :: (dT 5 [])), dc, dc, dc, dc, dc, dc, dc]
def fr35_23 : FF := [dT 7 ((.row false (.rSpan v243)) :: (dT 2 ((.row true (.rSpan v252)) :: (dT 5 [])))), dc, dc, dT 9 ((.row false (.rSpan v250)) :: (tL v251) :: (tL v253) :: (dT 4 [])), dc, dc, dc, dc]
theorem s35_20_t : X cp n i35_4 (fr35_23 v243 v250 v251 v252 v253) k = s35_20 cp n v243 v250 v251 v252 v253 (fun v257 v258 => k .norm (fr35_21 v243 v250 v251 v257 v258)) (k (.exit 2) (fr35_22 v252)) := by kernel_rfl
def fr35_24 : FF := [dT 10 ((.row true (.rSpan v259)) :: (dT 5 [])), dc, dc, dc, dc, dc, dc, dc]
theorem l35_25_t (cp : CP) (n : Nat) : ∀ (m : Nat) (v243 v250 : (List SSpan)) (v251 : Int) (v252 : (List SSpan)) (v253 : Int) (k : KX R), loopN2 (X cp n i35_4) m (fr35_23 v243 v250 v251 v252 v253) k = l35_25 cp n m v243 v250 v251 v252 v253 (fun v259 => k (.exit 2) (fr35_24 v259))
  | 0, _, _, _, _, _, _ => rfl
  | m + 1, v243, v250, v251, v252, v253, k => (loopN2_succ (X cp n i35_4) m (fr35_23 v243 v250 v251 v252 v253) k).trans ((s35_20_t cp n v243 v250 v251 v252 v253 (loopT (X cp n i35_4) m k)).trans ((show s35_20 cp n v243 v250 v251 v252 v253 (fun v257 v258 => loopT (X cp n i35_4) m k .norm (fr35_21 v243 v250 v251 v257 v258)) (loopT (X cp n i35_4) m k (.exit 2) (fr35_22 v252)) = s35_20 cp n v243 v250 v251 v252 v253 (fun v257 v258 => loopN2 (X cp n i35_4) m (fr35_23 v243 v250 v251 v257 v258) k) (k (.exit 2) (fr35_24 v252)) from by kernel_rfl).trans (congrArg (fun q => s35_20 cp n v243 v250 v251 v252 v253 q (k (.exit 2) (fr35_24 v252))) (funext fun v257 => funext fun v258 => l35_25_t cp n m v243 v250 v251 v257 v258 k))))
theorem s35_26_t : X cp n i35_5 (fr35_19 v243 v250 v251) k = s35_26 cp n v243 v250 v251 (fun v259 => k (.exit 2) (fr35_24 v259)) := (show X cp n i35_5 (fr35_19 v243 v250 v251) k = loopN2 (X cp n i35_4) n (fr35_23 v243 v250 v251 [] 0) k from by kernel_rfl).trans (l35_25_t cp n n v243 v250 v251 [] 0 k)
def fr35_27 : FF := [dT 10 ((.row true (.rSpan v260)) :: (dT 5 [])), dc, dc, dc, dc, dc, dc, dc]
theorem s35_28_t : X cp n i35_6 (fr35_19 v243 v250 v251) k = s35_28 cp n v243 v250 v251 (fun v260 => k .norm (fr35_27 v260)) := (show X cp n i35_6 (fr35_19 v243 v250 v251) k = X cp n i35_5 (fr35_19 v243 v250 v251) (blkT 2 k) from by kernel_rfl).trans ((s35_26_t cp n v243 v250 v251 (blkT 2 k)).trans (by kernel_rfl))
def fr35_29 : FF := [dT 10 ((.row true (.rSpan v261)) :: (dT 5 [])), dc, dc, dc, dc, dc, dc, dc]
theorem s35_30_t : X cp n i35_7 (fr35_17 v243 v250) k = s35_30 cp n v243 v250 (fun v261 => k .norm (fr35_29 v261)) := ((fun c => (show X cp n (.seq (.fin (.reg g35_9) [8] []) c) (fr35_17 v243 v250) k = s35_18 cp n v243 v250 (fun v251 => X cp n c (fr35_19 v243 v250 v251) k) from by kernel_rfl)) i35_6).trans (congrArg (fun q => s35_18 cp n v243 v250 q) (funext fun v251 => (s35_28_t cp n v243 v250 v251 k).trans (show s35_28 cp n v243 v250 v251 (fun v260 => k .norm (fr35_27 v260)) = s35_28 cp n v243 v250 v251 (fun v260 => k .norm (fr35_29 v260)) from by kernel_rfl)))
def fr35_32 : FF := [dT 6 ((.row true (.rSpan v261)) :: (dT 9 [])), dc, dc, dc, dc, dc, dc, dc]
theorem s35_31_t : X cp n i35_8 (fr35_29 v261) k = s35_31 cp n v261 (k .ret (fr35_32 v261)) := by kernel_rfl
def fr35_33 : FF := [dT 6 ((.row true (.rSpan v262)) :: (dT 9 [])), dc, dc, dc, dc, dc, dc, dc]
theorem s35_34_t : X cp n i35_9 (fr35_17 v243 v250) k = s35_34 cp n v243 v250 (fun v262 => k .ret (fr35_33 v262)) := (show X cp n i35_9 (fr35_17 v243 v250) k = X cp n i35_7 (fr35_17 v243 v250) (seqT (X cp n) i35_8 k) from by kernel_rfl).trans ((show X cp n i35_7 (fr35_17 v243 v250) (seqT (X cp n) i35_8 k) = s35_30 cp n v243 v250 (fun v261 => X cp n i35_8 (fr35_29 v261) k) from (s35_30_t cp n v243 v250 (seqT (X cp n) i35_8 k)).trans (by kernel_rfl)).trans (congrArg (fun q => s35_30 cp n v243 v250 q) (funext fun v261 => (s35_31_t cp n v261 k).trans (show s35_31 cp n v261 (k .ret (fr35_32 v261)) = s35_31 cp n v261 (k .ret (fr35_33 v261)) from by kernel_rfl))))
def fr35_35 : FF := [dT 6 ((.row true (.rSpan v263)) :: (dT 9 [])), dc, dc, dc, dc, dc, dc, dc]
theorem s35_36_t : X cp n i35_10 (fr35_14 v243 v250) k = s35_36 cp n v243 v250 (fun v263 => k .ret (fr35_35 v263)) := ((fun c => (show X cp n (.seq (.reg g35_8) c) (fr35_14 v243 v250) k = s35_16 cp n v243 v250 (X cp n c (fr35_17 v243 v250) k) from by kernel_rfl)) i35_9).trans (congrArg (fun q => s35_16 cp n v243 v250 q) ((s35_34_t cp n v243 v250 k).trans (show s35_34 cp n v243 v250 (fun v262 => k .ret (fr35_33 v262)) = s35_34 cp n v243 v250 (fun v262 => k .ret (fr35_35 v262)) from by kernel_rfl)))
def fr35_37 : FF := [dT 6 ((.row true (.rSpan v264)) :: (dT 9 [])), dc, dc, dc, dc, dc, dc, dc]
theorem s35_38_t : X cp n i35_11 (fr35_2 p0 p1 p2 v243) k = s35_38 cp n p0 p1 p2 v243 (fun v264 => k .ret (fr35_37 v264)) := (show X cp n i35_11 (fr35_2 p0 p1 p2 v243) k = X cp n i35_3 (fr35_2 p0 p1 p2 v243) (seqT (X cp n) i35_10 k) from by kernel_rfl).trans ((show X cp n i35_3 (fr35_2 p0 p1 p2 v243) (seqT (X cp n) i35_10 k) = s35_15 cp n p0 p1 p2 v243 (fun v250 => X cp n i35_10 (fr35_14 v243 v250) k) from (s35_15_t cp n p0 p1 p2 v243 (seqT (X cp n) i35_10 k)).trans (by kernel_rfl)).trans (congrArg (fun q => s35_15 cp n p0 p1 p2 v243 q) (funext fun v250 => (s35_36_t cp n v243 v250 k).trans (show s35_36 cp n v243 v250 (fun v263 => k .ret (fr35_35 v263)) = s35_36 cp n v243 v250 (fun v263 => k .ret (fr35_37 v263)) from by kernel_rfl))))
def fr35_39 : FF := [dT 6 ((.row true (.rSpan v265)) :: (dT 9 [])), dc, dc, dc, dc, dc, dc, dc]
def fr35_41 : FF := [(.agg (eRecv p0)) :: (tL p1) :: (.row false (.ruint8 p2)) :: (dT 13 []), dc, dc, dc, dc, dc, dc, dc]
theorem s35_40_t : X cp n i35_12 (fr35_41 p0 p1 p2) k = s35_40 cp n p0 p1 p2 (fun v265 => k .ret (fr35_39 v265)) := ((fun c => (show X cp n (.seq (.fin (.reg g35_0) [0, 6] []) (.seq (.fin (.reg g35_1) [14, 15, 16] [(105, 15)]) (.seq (.fin (.reg g35_2) [3, 17, 18] [(86, 15)]) c))) (fr35_41 p0 p1 p2) k = s35_1 cp n p0 p1 p2 (fun v243 => X cp n c (fr35_2 p0 p1 p2 v243) k) from by kernel_rfl)) i35_11).trans (congrArg (fun q => s35_1 cp n p0 p1 p2 q) (funext fun v243 => (s35_38_t cp n p0 p1 p2 v243 k).trans (show s35_38 cp n p0 p1 p2 v243 (fun v264 => k .ret (fr35_37 v264)) = s35_38 cp n p0 p1 p2 v243 (fun v264 => k .ret (fr35_39 v264)) from by kernel_rfl)))
theorem run35 (cp : CP) (n : Nat) (p0 : SRecv) (p1 : Int) (p2 : (List Int)) (k : Ret2 RW → Option R) : G35 cp (n + 1) p0 p1 p2 (fun r0 => k ⟨.row true (.rSpan r0), [], []⟩) = run2 U cp (callP cp n) n fn35 [.agg (eRecv p0), (tL p1), .row false (.ruint8 p2)] [] k := ((X_run (f := fn35) (av := [.agg (eRecv p0), (tL p1), .row false (.ruint8 p2)]) (cells := []) (code := i35_12) (fr := (fr35_41 p0 p1 p2)) (k := k) (by kernel_rfl) (fun K => by kernel_rfl)).trans ((s35_40_t cp n p0 p1 p2 (finK2 fn35 k)).trans (by kernel_rfl))).symm
end
/-! tideway/recv.Input -/
section
variable (cp : CP) (n : Nat) (p0 : SRecv) (p1 : SSegment) (v13 : Int) (v14 : SRecv) (v15 : Int) (v16 v20 : SRecv) (v21 : SSegment) (v22 : Int) (v23 v35 : Bool) (v36 : SRecv) (v39 : (List SSpan)) (v41 : (List SBlock)) (v44 : SRecv) (v45 : SSegment) (v46 : SRecv) (v47 : SSegment) (v48 : SRecv) (v49 : SSegment) (v50 : SRecv) (v51 : SSegment) (v52 : SRecv) (v53 : SSegment) (v54 : SRecv) (v55 : SSegment) (v56 : Bool) (v57 : Int) (v58 : SRecv) (v59 : SSegment) (k : KX R)
def w12_0 : Fr := dT 2 ((.ptr 140 0) :: (.ptr 156 0) :: (.ptr 172 0) :: (.ptr 188 0) :: (dT 3 ((tL v13) :: (dT 6 []))))
def w12_1 : Fr := sl 3 12 (eSegment p1) ++ [.hdr 15, (tL 0), .row false (.ruint8 []), .row false (.rPiece [])]
def w12_2 : Fr := [(tL 0), (tL 0), (tL 0), (tI .u32 0), (tB false), (tB false), (tL 0), (tB false), .row false (.rSpan []), (tI .u32 0), (tI .u32 0), (tB false), .hdr 15, (tL 0), (tL 0), (tI .u32 0)]
def w12_3 : Fr := (tI .u32 0) :: (tL 0) :: (tL 0) :: (tL 0) :: (tL 0) :: (tL 0) :: (tB false) :: (tB false) :: (tI .u32 0) :: (tI .u32 0) :: (.row false (.rBlock [])) :: (.row false (.ruint8 [])) :: (dT 4 [])
def fr12_2 : FF := [w12_0 v13, dc, dc, dc, dc, dc, dc, dc, dT 12 ((.hdr 15) :: (sl 0 3 (eRecvt v14))), sl 3 12 (eRecvt v14) ++ ((.hdr 15) :: (sl 0 3 (eSegment p1))), w12_1 p1, w12_2, w12_3, dc, dc, dc]
def fr12_3 : FF := [dT 4 ((.ptr 172 0) :: (.ptr 188 0) :: (tB false) :: (tL v15) :: (dT 8 [])), dc, dc, dc, dc, dc, dc, dc, dc, dc, dT 12 ((.hdr 15) :: (sl 0 3 (eRecv v16))), sl 3 12 (eRecv v16) ++ [.hdr 15, (tL 0), (tL 0), (tI .u32 0)], w12_3, dc, dc, dc]
def w12_4 : Fr := dT 4 ((.ptr 172 0) :: (.ptr 188 0) :: (tB true) :: (tL 0) :: (dT 8 []))
def fr12_5 : FF := [w12_4, dc, dc, dc, dc, dc, dc, dc, dc, dc, dT 12 ((.hdr 15) :: (sl 0 3 (eRecv v20))), sl 3 12 (eRecv v20) ++ ((.hdr 15) :: (sl 0 3 (eSegment v21))), sl 3 12 (eSegment v21) ++ (dT 4 []), dc, dc, dc]
def fr12_7 : FF := [w12_0 v13, dc, dc, dc, dc, dc, dc, dc, dT 12 ([.hdr 15, (tL v14.xNext), .row true (.ruint8 v14.xUnread), .row true (.rPiece v14.xLate)]), (tL v14.xCap) :: (tL v14.xShift) :: (tL v14.xEdge) :: (tI .u32 v22) :: (tB v14.xStamps) :: (tB v14.xSacks) :: (tL v14.xFin) :: (tB v14.xDone) :: (.row true (.rSpan v14.xFirst)) :: (tI .u32 v14.xIrs) :: (tI .u32 v14.xOwn) :: (tB v23) :: (.hdr 15) :: (sl 0 3 (eSegment p1)), w12_1 p1, w12_2, w12_3, dc, dc, dc]
def w12_5 : Fr := dT 12 ([.hdr 15, (tL v36.xNext), .row true (.ruint8 v36.xUnread), .row false (.rPiece v36.xLate)])
def fr12_9 : FF := [dT 2 ((.ptr 140 0) :: (.ptr 156 0) :: (.ptr 172 0) :: (.ptr 188 0) :: (dT 3 ((tL v13) :: (dT 2 ((tB v35) :: (dT 3 [])))))), dc, dc, dc, dc, dc, dc, dc, w12_5 v36, (tL v36.xCap) :: (tL v36.xShift) :: (tL v36.xEdge) :: (tI .u32 v36.xRecent) :: (tB v36.xStamps) :: (tB v36.xSacks) :: (tL v36.xFin) :: (tB v36.xDone) :: (.row true (.rSpan v36.xFirst)) :: (tI .u32 v36.xIrs) :: (tI .u32 v36.xOwn) :: (tB v36.xStamp) :: (.hdr 15) :: (sl 0 3 (eSegment p1)), w12_1 p1, w12_2, w12_3, dc, dc, dc]
def fr12_11 : FF := [dT 2 ((.ptr 140 0) :: (.ptr 156 0) :: (.ptr 172 0) :: (.ptr 188 0) :: (dT 3 ((tL v13) :: (dT 2 ((tB v35) :: (.row true (.rBlock [])) :: (dT 2 [])))))), dc, dc, dc, dc, dc, dc, dc, w12_5 v36, (tL v36.xCap) :: (tL v36.xShift) :: (tL v36.xEdge) :: (tI .u32 v36.xRecent) :: (tB v36.xStamps) :: (tB v36.xSacks) :: (tL v36.xFin) :: (tB v36.xDone) :: (.row true (.rSpan v39)) :: (tI .u32 v36.xIrs) :: (tI .u32 v36.xOwn) :: (tB v36.xStamp) :: (.hdr 15) :: (sl 0 3 (eSegment p1)), w12_1 p1, w12_2, w12_3, dc, dc, dc]
def fr12_13 : FF := [dT 2 ((.ptr 140 0) :: (dT 1 ((.ptr 172 0) :: (.ptr 188 0) :: (dT 7 ((.row true (.rBlock v41)) :: (dT 2 [])))))), dc, dc, dc, dc, dc, dc, dc, w12_5 v36, (tL v36.xCap) :: (tL v36.xShift) :: (tL v36.xEdge) :: (tI .u32 v36.xRecent) :: (tB v36.xStamps) :: (tB v36.xSacks) :: (tL v36.xFin) :: (tB v36.xDone) :: (.row true (.rSpan v39)) :: (tI .u32 v36.xIrs) :: (tI .u32 v36.xOwn) :: (tB v36.xStamp) :: (dT 4 []), dT 12 ([.hdr 15, (tL 0), .row false (.ruint8 []), .row false (.rPiece [])]), w12_2, w12_3, dc, dc, dc]
def fr12_15 : FF := [w12_4, dc, dc, dc, dc, dc, dc, dc, dc, dc, dT 12 ((.hdr 15) :: (sl 0 3 (eRecv v44))), sl 3 12 (eRecv v44) ++ ((.hdr 15) :: (sl 0 3 (eSegment v45))), sl 3 12 (eSegment v45) ++ (dT 4 []), dc, dc, dc]
theorem s12_14_t : X cp n i12_0 (fr12_13 v36 v39 v41) k = s12_14 cp n v36 v39 v41 (fun v44 v45 => k .ret (fr12_15 v44 v45)) := by kernel_rfl
def fr12_16 : FF := [w12_4, dc, dc, dc, dc, dc, dc, dc, dc, dc, dT 12 ((.hdr 15) :: (sl 0 3 (eRecv v46))), sl 3 12 (eRecv v46) ++ ((.hdr 15) :: (sl 0 3 (eSegment v47))), sl 3 12 (eSegment v47) ++ (dT 4 []), dc, dc, dc]
theorem s12_17_t : X cp n i12_1 (fr12_11 p1 v13 v35 v36 v39) k = s12_17 cp n p1 v13 v35 v36 v39 (fun v46 v47 => k .ret (fr12_16 v46 v47)) := ((fun c => (show X cp n (.seq (.seq (.fin (.reg g12_19) [9, 12, 106, 107, 108, 109, 110, 111, 112, 113, 114, 115, 116, 117, 118, 119, 120] []) (.fin (.cond (.s 121) (.fin (.reg g12_20) [3, 121, 122, 123, 124, 125, 126, 127, 128, 129, 130, 131] [(156, 15)]) (.skip)) [3, 121] [(156, 15)])) c) (fr12_11 p1 v13 v35 v36 v39) k = s12_12 cp n p1 v13 v35 v36 v39 (fun v41 => X cp n c (fr12_13 v36 v39 v41) k) from by kernel_rfl)) i12_0).trans (congrArg (fun q => s12_12 cp n p1 v13 v35 v36 v39 q) (funext fun v41 => (s12_14_t cp n v36 v39 v41 k).trans (show s12_14 cp n v36 v39 v41 (fun v44 v45 => k .ret (fr12_15 v44 v45)) = s12_14 cp n v36 v39 v41 (fun v44 v45 => k .ret (fr12_16 v44 v45)) from by kernel_rfl)))
def fr12_18 : FF := [w12_4, dc, dc, dc, dc, dc, dc, dc, dc, dc, dT 12 ((.hdr 15) :: (sl 0 3 (eRecv v48))), sl 3 12 (eRecv v48) ++ ((.hdr 15) :: (sl 0 3 (eSegment v49))), sl 3 12 (eSegment v49) ++ (dT 4 []), dc, dc, dc]
theorem s12_19_t : X cp n i12_2 (fr12_9 p1 v13 v35 v36) k = s12_19 cp n p1 v13 v35 v36 (fun v48 v49 => k .ret (fr12_18 v48 v49)) := ((fun c => (show X cp n (.seq (.fin (.reg g12_17) [100, 101, 102, 103, 104, 105] []) (.seq (.reg g12_18) c)) (fr12_9 p1 v13 v35 v36) k = s12_10 cp n p1 v13 v35 v36 (fun v39 => X cp n c (fr12_11 p1 v13 v35 v36 v39) k) from by kernel_rfl)) i12_1).trans (congrArg (fun q => s12_10 cp n p1 v13 v35 v36 q) (funext fun v39 => (s12_17_t cp n p1 v13 v35 v36 v39 k).trans (show s12_17 cp n p1 v13 v35 v36 v39 (fun v46 v47 => k .ret (fr12_16 v46 v47)) = s12_17 cp n p1 v13 v35 v36 v39 (fun v46 v47 => k .ret (fr12_18 v46 v47)) from by kernel_rfl)))
def fr12_20 : FF := [w12_4, dc, dc, dc, dc, dc, dc, dc, dc, dc, dT 12 ((.hdr 15) :: (sl 0 3 (eRecv v50))), sl 3 12 (eRecv v50) ++ ((.hdr 15) :: (sl 0 3 (eSegment v51))), sl 3 12 (eSegment v51) ++ (dT 4 []), dc, dc, dc]
theorem s12_21_t : X cp n i12_3 (fr12_7 p1 v13 v14 v22 v23) k = s12_21 cp n p1 v13 v14 v22 v23 (fun v50 v51 => k .ret (fr12_20 v50 v51)) := ((fun c => (show X cp n (.seq (.seq (.fin (.reg g12_13) [74, 75, 76] []) (.fin (.cond (.s 77) (.fin (.reg g12_14) [77, 78, 79, 80, 81, 82, 83, 84, 85] []) (.skip)) [77] [])) (.seq (.fin (.reg g12_15) [86, 87, 88, 89, 90, 91, 92, 93] []) (.seq (.fin (.reg g12_16) [94, 95, 96, 97, 98, 99] []) c))) (fr12_7 p1 v13 v14 v22 v23) k = s12_8 cp n p1 v13 v14 v22 v23 (fun v35 v36 => X cp n c (fr12_9 p1 v13 v35 v36) k) from by kernel_rfl)) i12_2).trans (congrArg (fun q => s12_8 cp n p1 v13 v14 v22 v23 q) (funext fun v35 => funext fun v36 => (s12_19_t cp n p1 v13 v35 v36 k).trans (show s12_19 cp n p1 v13 v35 v36 (fun v48 v49 => k .ret (fr12_18 v48 v49)) = s12_19 cp n p1 v13 v35 v36 (fun v48 v49 => k .ret (fr12_20 v48 v49)) from by kernel_rfl)))
def fr12_22 : FF := [w12_4, dc, dc, dc, dc, dc, dc, dc, dc, dc, dT 12 ((.hdr 15) :: (sl 0 3 (eRecv v52))), sl 3 12 (eRecv v52) ++ ((.hdr 15) :: (sl 0 3 (eSegment v53))), sl 3 12 (eSegment v53) ++ (dT 4 []), dc, dc, dc]
theorem s12_23_t : X cp n i12_4 (fr12_2 p1 v13 v14) k = s12_23 cp n p1 v13 v14 (fun v52 v53 => k .ret (fr12_22 v52 v53)) := ((fun c => (show X cp n (.seq (.seq (.fin (.reg g12_11) [62, 63, 64, 65, 66, 67, 68] []) (.fin (.cond (.s 69) (.fin (.reg g12_12) [69, 70, 71, 72, 73] []) (.skip)) [69] [])) c) (fr12_2 p1 v13 v14) k = s12_6 cp n p1 v13 v14 (fun v22 v23 => X cp n c (fr12_7 p1 v13 v14 v22 v23) k) from by kernel_rfl)) i12_3).trans (congrArg (fun q => s12_6 cp n p1 v13 v14 q) (funext fun v22 => funext fun v23 => (s12_21_t cp n p1 v13 v14 v22 v23 k).trans (show s12_21 cp n p1 v13 v14 v22 v23 (fun v50 v51 => k .ret (fr12_20 v50 v51)) = s12_21 cp n p1 v13 v14 v22 v23 (fun v50 v51 => k .ret (fr12_22 v50 v51)) from by kernel_rfl)))
def fr12_24 : FF := [w12_4, dc, dc, dc, dc, dc, dc, dc, dc, dc, dT 12 ((.hdr 15) :: (sl 0 3 (eRecv v54))), sl 3 12 (eRecv v54) ++ ((.hdr 15) :: (sl 0 3 (eSegment v55))), sl 3 12 (eSegment v55) ++ (dT 4 []), dc, dc, dc]
theorem s12_25_t : X cp n i12_5 (fr12_2 p1 v13 v14) k = s12_25 cp n p1 v13 v14 (fun v54 v55 => k .ret (fr12_24 v54 v55)) := ((fun c => (show X cp n (.seq (.seq (.fin (.reg g12_8) [41, 42, 43, 44, 45, 46, 47, 48, 49, 50, 51, 52, 53] []) (.fin (.cond (.s 54) (.seq (.fin (.reg g12_9) [2, 3, 9, 54, 55, 56, 57, 58, 59] [(140, 15), (156, 15)]) (.seq (.fin (.reg g12_10) [10, 11, 60, 61] [(204, 15), (220, 15)]) (.wk [6, 7] (.ret)))) (.skip)) [54] [])) c) (fr12_2 p1 v13 v14) k = s12_4 cp n p1 v13 v14 (X cp n c (fr12_2 p1 v13 v14) k) (fun v20 v21 => k .ret (fr12_24 v20 v21)) from by kernel_rfl)) i12_4).trans (congrArg (fun q => s12_4 cp n p1 v13 v14 q (fun v20 v21 => k .ret (fr12_24 v20 v21))) ((s12_23_t cp n p1 v13 v14 k).trans (show s12_23 cp n p1 v13 v14 (fun v52 v53 => k .ret (fr12_22 v52 v53)) = s12_23 cp n p1 v13 v14 (fun v52 v53 => k .ret (fr12_24 v52 v53)) from by kernel_rfl)))
def fr12_26 : FF := [dT 4 ((.ptr 172 0) :: (.ptr 188 0) :: (tB v56) :: (tL v57) :: (dT 8 [])), dc, dc, dc, dc, dc, dc, dc, dc, dc, dT 12 ((.hdr 15) :: (sl 0 3 (eRecv v58))), sl 3 12 (eRecv v58) ++ ((.hdr 15) :: (sl 0 3 (eSegment v59))), sl 3 12 (eSegment v59) ++ (dT 4 []), dc, dc, dc]
def fr12_28 : FF := [(.agg (eRecv p0)) :: (.agg (eSegment p1)) :: (dT 14 []), dc, dc, dc, dc, dc, dc, dc, dc, dc, dc, dc, dc, dc, dc, dc]
theorem s12_27_t : X cp n i12_6 (fr12_28 p0 p1) k = s12_27 cp n p0 p1 (fun v56 v57 v58 v59 => k .ret (fr12_26 v56 v57 v58 v59)) := ((fun c => (show X cp n (.seq (.fin (.reg g12_0) [0, 1, 6, 7] []) (.seq (.seq (.fin (.reg g12_1) [15, 16] []) (.seq (.fin (.reg g12_2) [17] []) (.fin (.cond (.s 18) (.seq (.fin (.reg g12_3) [2, 3, 8, 18, 19, 20, 21] [(140, 15), (156, 15)]) (.wk [6, 7] (.ret))) (.skip)) [8, 18] []))) (.seq (.fin (.reg g12_4) [22, 23] []) (.seq (.seq (.fin (.reg g12_5) [24, 25, 26, 27, 28, 29] []) (.fin (.cond (.s 30) (.seq (.fin (.reg g12_6) [2, 3, 30, 31, 32] [(140, 15), (156, 15)]) (.wk [6, 7] (.ret))) (.skip)) [30] [])) (.seq (.fin (.reg g12_7) [33, 34, 35, 36, 37, 38, 39, 40] []) c))))) (fr12_28 p0 p1) k = s12_1 cp n p0 p1 (fun v13 v14 => X cp n c (fr12_2 p1 v13 v14) k) (fun v15 v16 => k .ret (fr12_26 false v15 v16 (SSegment.mk 0 0 0 0 0 0 0 0 0 false false 0 0 [] []))) from by kernel_rfl)) i12_5).trans (congrArg (fun q => s12_1 cp n p0 p1 q (fun v15 v16 => k .ret (fr12_26 false v15 v16 (SSegment.mk 0 0 0 0 0 0 0 0 0 false false 0 0 [] [])))) (funext fun v13 => funext fun v14 => (s12_25_t cp n p1 v13 v14 k).trans (show s12_25 cp n p1 v13 v14 (fun v54 v55 => k .ret (fr12_24 v54 v55)) = s12_25 cp n p1 v13 v14 (fun v54 v55 => k .ret (fr12_26 true 0 v54 v55)) from by kernel_rfl)))
theorem run12 (cp : CP) (n : Nat) (p0 : SRecv) (p1 : SSegment) (k : Ret2 RW → Option R) : G12 cp (n + 1) p0 p1 (fun r0 r1 r2 r3 => k ⟨.tup [.agg (eRecv r0), .agg (eSegment r1), (tB r2), (tL r3)], [], []⟩) = run2 U cp (callP cp n) n fn12 [.agg (eRecv p0), .agg (eSegment p1)] [] k := ((X_run (f := fn12) (av := [.agg (eRecv p0), .agg (eSegment p1)]) (cells := []) (code := i12_6) (fr := (fr12_28 p0 p1)) (k := k) (by kernel_rfl) (fun K => by kernel_rfl)).trans ((s12_27_t cp n p0 p1 (finK2 fn12 k)).trans (by kernel_rfl))).symm
end
/-! tideway/seq.Clamp -/
section
variable (cp : CP) (n : Nat) (k : KX R)
theorem run51 (cp : CP) (n : Nat) (p0 p1 p2 : Int) (k : Ret2 RW → Option R) : G51 cp (n + 1) p0 p1 p2 (fun r0 => k ⟨(tL r0), [], []⟩) = run2 U cp (callP cp n) n fn51 [(tL p0), (tL p1), (tL p2)] [] k := by kernel_rfl
end
/-! tideway/recv.Read -/
section
variable (cp : CP) (n : Nat) (p0 : SRecv) (p1 : Int) (v82 : (List Int)) (v83 : SRecv) (v84 : Int) (v88 : Bool) (v89 : SRecv) (v90 : SSegment) (v91 : (List Int)) (v92 : Bool) (v93 : Int) (v94 : SRecv) (v95 : SSegment) (k : KX R)
def w20_0 : Fr := [(tL 0), (tL 0), (tL 0), (tI .u32 0), (tB false), (tB false), (tL 0), (tB false), .row false (.rSpan []), (tI .u32 0), (tI .u32 0), (tB false), .hdr 15, (tL 0), (tL 0), (tI .u32 0)]
def w20_1 : Fr := (tI .u32 0) :: (tL 0) :: (tL 0) :: (tL 0) :: (tL 0) :: (tL 0) :: (tB false) :: (tB false) :: (tI .u32 0) :: (tI .u32 0) :: (.row false (.rBlock [])) :: (.row false (.ruint8 [])) :: (dT 4 [])
def fr20_2 : FF := [dT 2 ((.ptr 60 0) :: (dT 1 ((.ptr 76 0) :: (dT 1 ((.ptr 92 0) :: (dT 3 ((.row false (.ruint8 v82)) :: (dT 5 [])))))))), dc, dc, dT 12 ((.hdr 15) :: (sl 0 3 (eRecv v83))), sl 3 12 (eRecv v83) ++ [.hdr 15, (tL 0), .row false (.ruint8 []), .row false (.rPiece [])], w20_0, w20_1, dc]
def fr20_3 : FF := [dT 4 ((.ptr 76 0) :: (.row false (.ruint8 [])) :: (.ptr 92 0) :: (tB false) :: (tL v84) :: (dT 7 [])), dc, dc, dc, dT 12 ([.hdr 15, (tL 0), .row false (.ruint8 []), .row false (.rPiece [])]), w20_0, w20_1, dc]
def fr20_5 : FF := [dT 4 ((.ptr 76 0) :: (.row false (.ruint8 v82)) :: (.ptr 92 0) :: (tB v88) :: (tL 0) :: (dT 7 [])), dc, dc, dc, dT 12 ((.hdr 15) :: (sl 0 3 (eRecv v89))), sl 3 12 (eRecv v89) ++ ((.hdr 15) :: (sl 0 3 (eSegment v90))), sl 3 12 (eSegment v90) ++ (dT 4 []), dc]
theorem s20_4_t : X cp n i20_0 (fr20_2 v82 v83) k = s20_4 cp n v82 v83 (fun v88 v89 v90 => k .ret (fr20_5 v82 v88 v89 v90)) := by kernel_rfl
def fr20_6 : FF := [dT 4 ((.ptr 76 0) :: (.row false (.ruint8 v91)) :: (.ptr 92 0) :: (tB v92) :: (tL v93) :: (dT 7 [])), dc, dc, dc, dT 12 ((.hdr 15) :: (sl 0 3 (eRecv v94))), sl 3 12 (eRecv v94) ++ ((.hdr 15) :: (sl 0 3 (eSegment v95))), sl 3 12 (eSegment v95) ++ (dT 4 []), dc]
def fr20_8 : FF := [(.agg (eRecv p0)) :: (tL p1) :: (dT 14 []), dc, dc, dc, dc, dc, dc, dc]
theorem s20_7_t : X cp n i20_1 (fr20_8 p0 p1) k = s20_7 cp n p0 p1 (fun v91 v92 v93 v94 v95 => k .ret (fr20_6 v91 v92 v93 v94 v95)) := ((fun c => (show X cp n (.seq (.fin (.reg g20_0) [0, 5, 7, 8] []) (.seq (.seq (.fin (.reg g20_1) [12, 13] []) (.seq (.fin (.reg g20_2) [14] []) (.fin (.cond (.s 15) (.seq (.fin (.reg g20_3) [1, 2, 9, 15, 16, 17, 18] [(60, 15)]) (.wk [5, 7, 8] (.ret))) (.skip)) [9, 15] []))) (.seq (.fin (.reg g20_4) [19, 20] []) (.seq (.fin (.reg g20_5) [21, 22, 23, 24, 25] []) (.seq (.fin (.reg g20_6) [26, 27, 28, 29, 30] []) (.seq (.fin (.reg g20_7) [1, 31, 32, 33, 34, 35] []) c)))))) (fr20_8 p0 p1) k = s20_1 cp n p0 p1 (fun v82 v83 => X cp n c (fr20_2 v82 v83) k) (fun v84 => k .ret (fr20_6 [] false v84 (SRecv.mk 0 [] [] 0 0 0 0 false false 0 false [] 0 0 false) (SSegment.mk 0 0 0 0 0 0 0 0 0 false false 0 0 [] []))) from by kernel_rfl)) i20_0).trans (congrArg (fun q => s20_1 cp n p0 p1 q (fun v84 => k .ret (fr20_6 [] false v84 (SRecv.mk 0 [] [] 0 0 0 0 false false 0 false [] 0 0 false) (SSegment.mk 0 0 0 0 0 0 0 0 0 false false 0 0 [] [])))) (funext fun v82 => funext fun v83 => (s20_4_t cp n v82 v83 k).trans (show s20_4 cp n v82 v83 (fun v88 v89 v90 => k .ret (fr20_5 v82 v88 v89 v90)) = s20_4 cp n v82 v83 (fun v88 v89 v90 => k .ret (fr20_6 v82 v88 0 v89 v90)) from by kernel_rfl)))
theorem run20 (cp : CP) (n : Nat) (p0 : SRecv) (p1 : Int) (k : Ret2 RW → Option R) : G20 cp (n + 1) p0 p1 (fun r0 r1 r2 r3 r4 => k ⟨.tup [.agg (eRecv r0), .row false (.ruint8 r1), .agg (eSegment r2), (tB r3), (tL r4)], [], []⟩) = run2 U cp (callP cp n) n fn20 [.agg (eRecv p0), (tL p1)] [] k := ((X_run (f := fn20) (av := [.agg (eRecv p0), (tL p1)]) (cells := []) (code := i20_1) (fr := (fr20_8 p0 p1)) (k := k) (by kernel_rfl) (fun K => by kernel_rfl)).trans ((s20_7_t cp n p0 p1 (finK2 fn20 k)).trans (by kernel_rfl))).symm
end
/-! tideway/recv.Window -/
section
variable (cp : CP) (n : Nat) (k : KX R)
theorem run22 (cp : CP) (n : Nat) (p0 : SRecv) (k : Ret2 RW → Option R) : G22 cp (n + 1) p0 (fun r0 => k ⟨(tL r0), [], []⟩) = run2 U cp (callP cp n) n fn22 [.agg (eRecv p0)] [] k := by kernel_rfl
end
/-! tideway/tidewaylaw08.heads -/
section
variable (cp : CP) (n : Nat) (v34 : Int) (v35 : Bool) (v36 : Int) (v37 : Bool) (v38 : Int) (v39 : (List Int)) (v40 : Int) (v41 : SRecv) (v42 : SSegment) (v43 : SRecv) (v44 : SSegment) (v45 : SRecv) (v51 v52 : Bool) (k : KX R)
def fr11_2 : FF := [dT 1 ((.ptr 124 0) :: (tL v34) :: (dT 1 ((.ptr 156 0) :: (tB v35) :: (tL v36) :: (.ptr 172 0) :: (.ptr 188 0) :: (tB v37) :: (tL v38) :: (.ptr 204 0) :: (.row false (.ruint8 v39)) :: (dT 2 ([(tL v40)]))))), dc, dc, dc, dc, dc, dc, dT 12 ((.hdr 15) :: (sl 0 3 (eRecv v41))), sl 3 12 (eRecv v41) ++ (dT 4 []), dT 12 ((.hdr 15) :: (sl 0 3 (eSegment v42))), sl 3 12 (eSegment v42) ++ ((.hdr 15) :: (sl 0 3 (eRecv v43))), sl 3 12 (eRecv v43) ++ ((.hdr 15) :: (sl 0 3 (eSegment v44))), sl 3 12 (eSegment v44) ++ ((.hdr 15) :: (sl 0 3 (eRecv v45))), sl 3 12 (eRecv v45) ++ (dT 4 []), dc, dc]
def fr11_4 : FF := [(tB v51) :: (dT 15 []), dc, dc, dc, dc, dc, dc, dc, dc, dc, dc, dc, dc, dc, dc, dc]
theorem s11_3_t : X cp n i11_0 (fr11_2 v34 v35 v36 v37 v38 v39 v40 v41 v42 v43 v44 v45) k = s11_3 cp n v34 v35 v36 v37 v38 v39 v40 v41 v42 v43 v44 v45 (fun v51 => k .ret (fr11_4 v51)) := by kernel_rfl
def fr11_5 : FF := [(tB v52) :: (dT 15 []), dc, dc, dc, dc, dc, dc, dc, dc, dc, dc, dc, dc, dc, dc, dc]
def fr11_7 : FF := [dc, dc, dc, dc, dc, dc, dc, dc, dc, dc, dc, dc, dc, dc, dc, dc]
theorem s11_6_t : X cp n i11_1 fr11_7 k = s11_6 cp n (fun v52 => k .ret (fr11_5 v52)) := ((fun c => (show X cp n (.seq (.fin (.reg g11_0) [0] []) (.seq (.fin (.reg g11_1) [18, 19, 20, 21] []) (.seq (.fin (.reg g11_2) [22, 23, 24, 25, 26, 27, 28, 29, 30, 31] []) (.seq (.fin (.reg g11_3) [3, 32, 33, 34, 35, 36, 37, 38, 39, 40, 41] [(140, 15)]) (.seq (.fin (.reg g11_4) [13, 14, 42, 43, 44, 45, 46, 47, 48, 49] [(220, 15)]) c))))) fr11_7 k = s11_1 cp n (fun v34 v35 v36 v37 v38 v39 v40 v41 v42 v43 v44 v45 => X cp n c (fr11_2 v34 v35 v36 v37 v38 v39 v40 v41 v42 v43 v44 v45) k) from by kernel_rfl)) i11_0).trans (congrArg (fun q => s11_1 cp n q) (funext fun v34 => funext fun v35 => funext fun v36 => funext fun v37 => funext fun v38 => funext fun v39 => funext fun v40 => funext fun v41 => funext fun v42 => funext fun v43 => funext fun v44 => funext fun v45 => (s11_3_t cp n v34 v35 v36 v37 v38 v39 v40 v41 v42 v43 v44 v45 k).trans (show s11_3 cp n v34 v35 v36 v37 v38 v39 v40 v41 v42 v43 v44 v45 (fun v51 => k .ret (fr11_4 v51)) = s11_3 cp n v34 v35 v36 v37 v38 v39 v40 v41 v42 v43 v44 v45 (fun v51 => k .ret (fr11_5 v51)) from by kernel_rfl)))
theorem run11 (cp : CP) (n : Nat) (k : Ret2 RW → Option R) : G11 cp (n + 1) (fun r0 => k ⟨(tB r0), [], []⟩) = run2 U cp (callP cp n) n fn11 [] [] k := ((X_run (f := fn11) (av := []) (cells := []) (code := i11_1) (fr := fr11_7) (k := k) (by kernel_rfl) (fun K => by kernel_rfl)).trans ((s11_6_t cp n  (finK2 fn11 k)).trans (by kernel_rfl))).symm
end
/-! tideway/tidewaylaw08.seg -/
section
variable (cp : CP) (n : Nat) (k : KX R)
theorem run19 (cp : CP) (n : Nat) (p0 : Int) (p1 : (List Int)) (p2 p3 : Int) (p4 : Bool) (k : Ret2 RW → Option R) : G19 cp (n + 1) p0 p1 p2 p3 p4 (fun r0 => k ⟨.agg (eSegment r0), [], []⟩) = run2 U cp (callP cp n) n fn19 [(tI .u32 p0), .row false (.ruint8 p1), (tL p2), (tL p3), (tB p4)] [] k := by kernel_rfl
end
/-! tideway/tidewayref02.Same -/
section
variable (cp : CP) (n : Nat) (k : KX R)
theorem run21 (cp : CP) (n : Nat) (p0 p1 : (List Int)) (k : Ret2 RW → Option R) : G21 cp (n + 1) p0 p1 (fun r0 => k ⟨(tB r0), [], []⟩) = run2 U cp (callP cp n) n fn21 [.row false (.ruint8 p0), .row false (.ruint8 p1)] [] k := by kernel_rfl
end
/-! tideway/tidewaylaw08.RecvOrders -/
section
variable (cp : CP) (n : Nat) (p0 : (List Int)) (p1 : Int) (p2 p3 : (List Int)) (v67 : SRecv) (v68 : Bool) (v69 : (List Int)) (v70 : Int) (v71 : SRecv) (v100 : (List Int)) (v101 : SRecv) (v103 : (List Int)) (v104 : SRecv) (v105 : (List Int)) (v106 : SRecv) (v107 : Int) (v108 : (List Int)) (v109 : Int) (v110 : SRecv) (v111 : (List Int)) (v112 : Int) (v113 : SRecv) (v114 : (List Int)) (v115 : SRecv) (v116 : (List Int)) (v117 : SRecv) (v118 : (List Int)) (v119 : SRecv) (v135 : Int) (v136 : (List Int)) (v137 : Int) (v138 : SRecv) (v141 v142 v143 v144 : Bool) (k : KX R)
def w6_0 : Fr := dT 11 ((.hdr 15) :: (sl 0 4 (eRecv v67)))
def fr6_2 : FF := [(.row false (.ruint8 p0)) :: (tI .u32 p1) :: (.row false (.rint p2)) :: (.row false (.rint p3)) :: (dT 5 ((.ptr 203 0) :: (dT 1 ((.row true (.ruint8 [])) :: (dT 4 []))))), dc, dc, dc, dc, dc, dc, dc, dc, dc, dc, dc, w6_0 v67, sl 4 11 (eRecv v67) ++ (dT 5 []), dc, dc, dc, dc, dc, dc, dc, dc]
def fr6_3 : FF := [dT 8 ((tB v68) :: (dT 7 [])), dc, dc, dc, dc, dc, dc, dc, dc, dc, dc, dc, dc, dc, dc, dc, dc, dc, dc, dc, dc, dc]
def fr6_5 : FF := [(.row false (.ruint8 p0)) :: (tI .u32 p1) :: (.row false (.rint p2)) :: (.row false (.rint p3)) :: (dT 5 ((.ptr 203 0) :: (dT 1 ((.row true (.ruint8 [])) :: (tL 0) :: (dT 3 []))))), dc, dc, dc, dc, dc, dc, dc, dc, dc, dc, dc, w6_0 v67, sl 4 11 (eRecv v67) ++ (dT 5 []), dc, dc, dc, dc, dc, dc, dc, dc]
def w6_1 : Fr := dT 11 ((.hdr 15) :: (sl 0 4 (eRecv v71)))
def fr6_7 : FF := [(.row false (.ruint8 p0)) :: (tI .u32 p1) :: (.row false (.rint p2)) :: (.row false (.rint p3)) :: (dT 5 ((.ptr 203 0) :: (dT 1 ((.row true (.ruint8 v69)) :: (tL v70) :: (dT 3 []))))), dc, dc, dc, dc, dc, dc, dc, dc, dc, dc, dc, w6_1 v71, sl 4 11 (eRecv v71) ++ (dT 5 []), dc, dc, dc, dc, dc, dc, dc, dc]
def fr6_8 : FF := [(.row false (.ruint8 p0)) :: (tI .u32 p1) :: (dT 7 ((.ptr 203 0) :: (dT 1 ((.row true (.ruint8 v69)) :: (dT 4 []))))), dc, dc, dc, dc, dc, dc, dc, dc, dc, dc, dc, w6_1 v71, sl 4 11 (eRecv v71) ++ (dT 5 []), dc, dc, dc, dc, dc, dc, dc, dc]
def fr6_10 : FF := [(.row false (.ruint8 p0)) :: (tI .u32 p1) :: (.row false (.rint p2)) :: (.row false (.rint p3)) :: (dT 5 ((.ptr 203 0) :: (dT 1 ((.row true (.ruint8 v100)) :: (tL v70) :: (dT 3 []))))), dc, dc, dc, dc, dc, dc, dc, dc, dc, dc, dc, dT 11 ((.hdr 15) :: (sl 0 4 (eRecv v101))), sl 4 11 (eRecv v101) ++ (dT 5 []), dc, dc, dc, dc, dc, dc, dc, dc]
def fr6_11 : FF := [dT 8 ((tB false) :: (dT 7 [])), dc, dc, dc, dc, dc, dc, dc, dc, dc, dc, dc, dc, dc, dc, dc, dc, dc, dc, dc, dc, dc]
theorem s6_12_t : X cp n i6_0 (fr6_10 p0 p1 p2 p3 v70 v100 v101) k = s6_12 cp n p0 p1 p2 p3 v70 v100 v101 (k .norm (fr6_10 p0 p1 p2 p3 v70 v100 v101)) (k .ret fr6_11) := by kernel_rfl
def fr6_13 : FF := [(.row false (.ruint8 p0)) :: (tI .u32 p1) :: (.row false (.rint p2)) :: (.row false (.rint p3)) :: (dT 5 ((.ptr 203 0) :: (dT 1 ((.row true (.ruint8 v103)) :: (tL v70) :: (dT 3 []))))), dc, dc, dc, dc, dc, dc, dc, dc, dc, dc, dc, dT 11 ((.hdr 15) :: (sl 0 4 (eRecv v104))), sl 4 11 (eRecv v104) ++ (dT 5 []), dc, dc, dc, dc, dc, dc, dc, dc]
theorem s6_14_t : X cp n i6_1 (fr6_7 p0 p1 p2 p3 v69 v70 v71) k = s6_14 cp n p0 p1 p2 p3 v69 v70 v71 (fun v103 v104 => k .norm (fr6_13 p0 p1 p2 p3 v70 v103 v104)) (k .ret fr6_11) := ((fun c => (show X cp n (.seq (.fin (.reg g6_10) [55, 56, 57, 58, 59, 60, 61, 62, 63, 64, 65] []) (.seq (.fin (.reg g6_11) [66, 67, 68, 69, 70, 71, 72, 73, 74] []) (.seq (.fin (.reg g6_12) [13, 14, 16, 75, 76, 77, 78, 79, 80, 81, 82, 83, 84, 85, 86] [(235, 15)]) (.seq (.seq (.fin (.reg g6_13) [17, 18, 87, 88, 89, 90, 91, 92, 93, 94, 95, 96, 97, 98, 99, 100, 101, 102, 103, 104, 105, 106, 107, 108, 109, 110] []) (.fin (.cond (.s 111) (.seq (.fin (.reg g6_14) [0, 1, 2, 3, 9, 11, 12, 15, 111] [(203, 15), (219, 15)]) (.ret)) (.skip)) [111] [])) (.seq (.fin (.reg g6_15) [15, 112] [(219, 15)]) (.seq (.seq (.fin (.reg g6_16) [113, 114, 115] []) (.fin (.cond (.s 116) (.seq (.fin (.reg g6_17) [21, 22, 116, 117, 118, 119, 120, 121, 122, 123, 124, 125, 126, 127, 128, 129] [(267, 15)]) (.seq (.seq (.fin (.reg g6_18) [23, 130] []) (.fin (.cond (.s 131) (.seq (.fin (.reg g6_19) [0, 1, 2, 3, 9, 11, 12, 19, 20, 131] [(203, 15), (251, 15)]) (.ret)) (.skip)) [131] [])) (.seq (.fin (.reg g6_20) [20, 132, 133, 134] []) (.fin (.reg g6_21) [19, 135] [(251, 15)])))) (.skip)) [116] [])) c)))))) (fr6_7 p0 p1 p2 p3 v69 v70 v71) k = s6_9 cp n p0 p1 p2 p3 v69 v70 v71 (fun v100 v101 => X cp n c (fr6_10 p0 p1 p2 p3 v70 v100 v101) k) (k .ret fr6_11) from by kernel_rfl)) i6_0).trans (congrArg (fun q => s6_9 cp n p0 p1 p2 p3 v69 v70 v71 q (k .ret fr6_11)) (funext fun v100 => funext fun v101 => (s6_12_t cp n p0 p1 p2 p3 v70 v100 v101 k).trans (show s6_12 cp n p0 p1 p2 p3 v70 v100 v101 (k .norm (fr6_10 p0 p1 p2 p3 v70 v100 v101)) (k .ret fr6_11) = s6_12 cp n p0 p1 p2 p3 v70 v100 v101 (k .norm (fr6_13 p0 p1 p2 p3 v70 v100 v101)) (k .ret fr6_11) from by kernel_rfl)))
def w6_2 : Fr := dT 11 ((.hdr 15) :: (sl 0 4 (eRecv v106)))
def fr6_15 : FF := [(.row false (.ruint8 p0)) :: (tI .u32 p1) :: (.row false (.rint p2)) :: (.row false (.rint p3)) :: (dT 5 ((.ptr 203 0) :: (dT 1 ((.row true (.ruint8 v105)) :: (tL v70) :: (dT 3 []))))), dc, dc, dc, dc, dc, dc, dc, dc, dc, dc, dc, w6_2 v106, sl 4 11 (eRecv v106) ++ (dT 5 []), dc, dc, dc, dc, dc, dc, dc, dc]
theorem s6_16_t : X cp n i6_2 (fr6_7 p0 p1 p2 p3 v69 v70 v71) k = s6_16 cp n p0 p1 p2 p3 v69 v70 v71 (fun v105 v106 => k .norm (fr6_15 p0 p1 p2 p3 v70 v105 v106)) (k .ret fr6_11) := (show X cp n i6_2 (fr6_7 p0 p1 p2 p3 v69 v70 v71) k = X cp n i6_1 (fr6_7 p0 p1 p2 p3 v69 v70 v71) (blkT 1 k) from by kernel_rfl).trans ((s6_14_t cp n p0 p1 p2 p3 v69 v70 v71 (blkT 1 k)).trans (by kernel_rfl))
def fr6_18 : FF := [(.row false (.ruint8 p0)) :: (tI .u32 p1) :: (.row false (.rint p2)) :: (.row false (.rint p3)) :: (dT 5 ((.ptr 203 0) :: (dT 1 ((.row true (.ruint8 v105)) :: (tL v107) :: (dT 3 []))))), dc, dc, dc, dc, dc, dc, dc, dc, dc, dc, dc, w6_2 v106, sl 4 11 (eRecv v106) ++ (dT 5 []), dc, dc, dc, dc, dc, dc, dc, dc]
theorem s6_17_t : X cp n i6_3 (fr6_15 p0 p1 p2 p3 v70 v105 v106) k = s6_17 cp n p0 p1 p2 p3 v70 v105 v106 (fun v107 => k .norm (fr6_18 p0 p1 p2 p3 v105 v106 v107)) := by kernel_rfl
def fr6_19 : FF := [(.row false (.ruint8 p0)) :: (tI .u32 p1) :: (.row false (.rint p2)) :: (.row false (.rint p3)) :: (dT 5 ((.ptr 203 0) :: (dT 1 ((.row true (.ruint8 v108)) :: (tL v109) :: (dT 3 []))))), dc, dc, dc, dc, dc, dc, dc, dc, dc, dc, dc, dT 11 ((.hdr 15) :: (sl 0 4 (eRecv v110))), sl 4 11 (eRecv v110) ++ (dT 5 []), dc, dc, dc, dc, dc, dc, dc, dc]
theorem s6_20_t : X cp n i6_4 (fr6_7 p0 p1 p2 p3 v69 v70 v71) k = s6_20 cp n p0 p1 p2 p3 v69 v70 v71 (fun v108 v109 v110 => k .norm (fr6_19 p0 p1 p2 p3 v108 v109 v110)) (k .ret fr6_11) := (show X cp n i6_4 (fr6_7 p0 p1 p2 p3 v69 v70 v71) k = X cp n i6_2 (fr6_7 p0 p1 p2 p3 v69 v70 v71) (seqT (X cp n) i6_3 k) from by kernel_rfl).trans ((show X cp n i6_2 (fr6_7 p0 p1 p2 p3 v69 v70 v71) (seqT (X cp n) i6_3 k) = s6_16 cp n p0 p1 p2 p3 v69 v70 v71 (fun v105 v106 => X cp n i6_3 (fr6_15 p0 p1 p2 p3 v70 v105 v106) k) (k .ret fr6_11) from (s6_16_t cp n p0 p1 p2 p3 v69 v70 v71 (seqT (X cp n) i6_3 k)).trans (by kernel_rfl)).trans (congrArg (fun q => s6_16 cp n p0 p1 p2 p3 v69 v70 v71 q (k .ret fr6_11)) (funext fun v105 => funext fun v106 => (s6_17_t cp n p0 p1 p2 p3 v70 v105 v106 k).trans (show s6_17 cp n p0 p1 p2 p3 v70 v105 v106 (fun v107 => k .norm (fr6_18 p0 p1 p2 p3 v105 v106 v107)) = s6_17 cp n p0 p1 p2 p3 v70 v105 v106 (fun v107 => k .norm (fr6_19 p0 p1 p2 p3 v105 v107 v106)) from by kernel_rfl))))
def fr6_21 : FF := [(.row false (.ruint8 p0)) :: (tI .u32 p1) :: (.row false (.rint p2)) :: (.row false (.rint p3)) :: (dT 5 ((.ptr 203 0) :: (dT 1 ((.row true (.ruint8 v111)) :: (tL v112) :: (dT 3 []))))), dc, dc, dc, dc, dc, dc, dc, dc, dc, dc, dc, dT 11 ((.hdr 15) :: (sl 0 4 (eRecv v113))), sl 4 11 (eRecv v113) ++ (dT 5 []), dc, dc, dc, dc, dc, dc, dc, dc]
theorem s6_22_t : X cp n i6_5 (fr6_7 p0 p1 p2 p3 v69 v70 v71) k = s6_22 cp n p0 p1 p2 p3 v69 v70 v71 (fun v111 v112 v113 => k .norm (fr6_21 p0 p1 p2 p3 v111 v112 v113)) (k .ret fr6_11) (k (.exit 0) (fr6_8 p0 p1 v69 v71)) := ((fun c => (show X cp n (.seq (.seq (.fin (.reg g6_8) [49, 50, 51] []) (.fin (.cond (.s 52) (.skip) (.clr [2, 3, 12, 52] [] (.exit 0))) [52] [])) c) (fr6_7 p0 p1 p2 p3 v69 v70 v71) k = s6_6 cp n p0 p1 p2 p3 v69 v70 v71 (X cp n c (fr6_7 p0 p1 p2 p3 v69 v70 v71) k) (k (.exit 0) (fr6_8 p0 p1 v69 v71)) from by kernel_rfl)) i6_4).trans (congrArg (fun q => s6_6 cp n p0 p1 p2 p3 v69 v70 v71 q (k (.exit 0) (fr6_8 p0 p1 v69 v71))) ((s6_20_t cp n p0 p1 p2 p3 v69 v70 v71 k).trans (show s6_20 cp n p0 p1 p2 p3 v69 v70 v71 (fun v108 v109 v110 => k .norm (fr6_19 p0 p1 p2 p3 v108 v109 v110)) (k .ret fr6_11) = s6_20 cp n p0 p1 p2 p3 v69 v70 v71 (fun v108 v109 v110 => k .norm (fr6_21 p0 p1 p2 p3 v108 v109 v110)) (k .ret fr6_11) from by kernel_rfl)))
def fr6_23 : FF := [(.row false (.ruint8 p0)) :: (tI .u32 p1) :: (dT 7 ((.ptr 203 0) :: (dT 1 ((.row true (.ruint8 v114)) :: (dT 4 []))))), dc, dc, dc, dc, dc, dc, dc, dc, dc, dc, dc, dT 11 ((.hdr 15) :: (sl 0 4 (eRecv v115))), sl 4 11 (eRecv v115) ++ (dT 5 []), dc, dc, dc, dc, dc, dc, dc, dc]
theorem l6_24_t (cp : CP) (n : Nat) : ∀ (m : Nat) (p0 : (List Int)) (p1 : Int) (p2 p3 v69 : (List Int)) (v70 : Int) (v71 : SRecv) (k : KX R), loopN2 (X cp n i6_5) m (fr6_7 p0 p1 p2 p3 v69 v70 v71) k = l6_24 cp n m p0 p1 p2 p3 v69 v70 v71 (k .ret fr6_11) (fun v114 v115 => k (.exit 0) (fr6_23 p0 p1 v114 v115))
  | 0, _, _, _, _, _, _, _, _ => rfl
  | m + 1, p0, p1, p2, p3, v69, v70, v71, k => (loopN2_succ (X cp n i6_5) m (fr6_7 p0 p1 p2 p3 v69 v70 v71) k).trans ((s6_22_t cp n p0 p1 p2 p3 v69 v70 v71 (loopT (X cp n i6_5) m k)).trans ((show s6_22 cp n p0 p1 p2 p3 v69 v70 v71 (fun v111 v112 v113 => loopT (X cp n i6_5) m k .norm (fr6_21 p0 p1 p2 p3 v111 v112 v113)) (loopT (X cp n i6_5) m k .ret fr6_11) (loopT (X cp n i6_5) m k (.exit 0) (fr6_8 p0 p1 v69 v71)) = s6_22 cp n p0 p1 p2 p3 v69 v70 v71 (fun v111 v112 v113 => loopN2 (X cp n i6_5) m (fr6_7 p0 p1 p2 p3 v111 v112 v113) k) (k .ret fr6_11) (k (.exit 0) (fr6_23 p0 p1 v69 v71)) from by kernel_rfl).trans (congrArg (fun q => s6_22 cp n p0 p1 p2 p3 v69 v70 v71 q (k .ret fr6_11) (k (.exit 0) (fr6_23 p0 p1 v69 v71))) (funext fun v111 => funext fun v112 => funext fun v113 => l6_24_t cp n m p0 p1 p2 p3 v111 v112 v113 k))))
theorem s6_25_t : X cp n i6_6 (fr6_5 p0 p1 p2 p3 v67) k = s6_25 cp n p0 p1 p2 p3 v67 (k .ret fr6_11) (fun v114 v115 => k (.exit 0) (fr6_23 p0 p1 v114 v115)) := (show X cp n i6_6 (fr6_5 p0 p1 p2 p3 v67) k = loopN2 (X cp n i6_5) n (fr6_7 p0 p1 p2 p3 [] 0 v67) k from by kernel_rfl).trans (l6_24_t cp n n p0 p1 p2 p3 [] 0 v67 k)
def fr6_26 : FF := [(.row false (.ruint8 p0)) :: (tI .u32 p1) :: (dT 7 ((.ptr 203 0) :: (dT 1 ((.row true (.ruint8 v116)) :: (dT 4 []))))), dc, dc, dc, dc, dc, dc, dc, dc, dc, dc, dc, dT 11 ((.hdr 15) :: (sl 0 4 (eRecv v117))), sl 4 11 (eRecv v117) ++ (dT 5 []), dc, dc, dc, dc, dc, dc, dc, dc]
theorem s6_27_t : X cp n i6_7 (fr6_5 p0 p1 p2 p3 v67) k = s6_27 cp n p0 p1 p2 p3 v67 (fun v116 v117 => k .norm (fr6_26 p0 p1 v116 v117)) (k .ret fr6_11) := (show X cp n i6_7 (fr6_5 p0 p1 p2 p3 v67) k = X cp n i6_6 (fr6_5 p0 p1 p2 p3 v67) (blkT 0 k) from by kernel_rfl).trans ((s6_25_t cp n p0 p1 p2 p3 v67 (blkT 0 k)).trans (by kernel_rfl))
def fr6_28 : FF := [(.row false (.ruint8 p0)) :: (tI .u32 p1) :: (dT 7 ((.ptr 203 0) :: (dT 1 ((.row true (.ruint8 v118)) :: (dT 4 []))))), dc, dc, dc, dc, dc, dc, dc, dc, dc, dc, dc, dT 11 ((.hdr 15) :: (sl 0 4 (eRecv v119))), sl 4 11 (eRecv v119) ++ (dT 5 []), dc, dc, dc, dc, dc, dc, dc, dc]
theorem s6_29_t : X cp n i6_8 (fr6_2 p0 p1 p2 p3 v67) k = s6_29 cp n p0 p1 p2 p3 v67 (fun v118 v119 => k .norm (fr6_28 p0 p1 v118 v119)) (k .ret fr6_11) := ((fun c => (show X cp n (.seq (.reg g6_7) c) (fr6_2 p0 p1 p2 p3 v67) k = s6_4 cp n p0 p1 p2 p3 v67 (X cp n c (fr6_5 p0 p1 p2 p3 v67) k) from by kernel_rfl)) i6_7).trans (congrArg (fun q => s6_4 cp n p0 p1 p2 p3 v67 q) ((s6_27_t cp n p0 p1 p2 p3 v67 k).trans (show s6_27 cp n p0 p1 p2 p3 v67 (fun v116 v117 => k .norm (fr6_26 p0 p1 v116 v117)) (k .ret fr6_11) = s6_27 cp n p0 p1 p2 p3 v67 (fun v116 v117 => k .norm (fr6_28 p0 p1 v116 v117)) (k .ret fr6_11) from by kernel_rfl)))
def fr6_31 : FF := [(.row false (.ruint8 p0)) :: (dT 10 ((.row true (.ruint8 v118)) :: (dT 4 []))), dT 11 ((tL v135) :: (.ptr 315 0) :: (.row false (.ruint8 v136)) :: (dT 2 [])), (tL v137) :: (dT 15 []), dc, dc, dc, dc, dc, dc, dc, dc, dc, dc, dc, dc, dc, dc, dc, dc, dT 11 ((.hdr 15) :: (sl 0 4 (eRecv v138))), sl 4 11 (eRecv v138) ++ (dT 5 []), dc]
def fr6_33 : FF := [dT 8 ((tB v141) :: (dT 7 [])), dc, dc, dc, dc, dc, dc, dc, dc, dc, dc, dc, dc, dc, dc, dc, dc, dc, dc, dc, dc, dc]
theorem s6_32_t : X cp n i6_9 (fr6_31 p0 v118 v135 v136 v137 v138) k = s6_32 cp n p0 v118 v135 v136 v137 v138 (fun v141 => k .ret (fr6_33 v141)) := by kernel_rfl
def fr6_34 : FF := [dT 8 ((tB v142) :: (dT 7 [])), dc, dc, dc, dc, dc, dc, dc, dc, dc, dc, dc, dc, dc, dc, dc, dc, dc, dc, dc, dc, dc]
theorem s6_35_t : X cp n i6_10 (fr6_28 p0 p1 v118 v119) k = s6_35 cp n p0 p1 v118 v119 (fun v142 => k .ret (fr6_34 v142)) := ((fun c => (show X cp n (.seq (.fin (.reg g6_24) [1, 9, 25, 26, 161, 162, 163, 164, 165, 166, 167, 168, 169, 170, 171, 172] [(203, 15), (299, 15)]) (.seq (.fin (.reg g6_25) [24, 30, 31, 173, 174, 175, 176, 177, 178, 179, 180, 181, 182] [(283, 15), (331, 15)]) c)) (fr6_28 p0 p1 v118 v119) k = s6_30 cp n p0 p1 v118 v119 (fun v135 v136 v137 v138 => X cp n c (fr6_31 p0 v118 v135 v136 v137 v138) k) from by kernel_rfl)) i6_9).trans (congrArg (fun q => s6_30 cp n p0 p1 v118 v119 q) (funext fun v135 => funext fun v136 => funext fun v137 => funext fun v138 => (s6_32_t cp n p0 v118 v135 v136 v137 v138 k).trans (show s6_32 cp n p0 v118 v135 v136 v137 v138 (fun v141 => k .ret (fr6_33 v141)) = s6_32 cp n p0 v118 v135 v136 v137 v138 (fun v141 => k .ret (fr6_34 v141)) from by kernel_rfl)))
def fr6_36 : FF := [dT 8 ((tB v143) :: (dT 7 [])), dc, dc, dc, dc, dc, dc, dc, dc, dc, dc, dc, dc, dc, dc, dc, dc, dc, dc, dc, dc, dc]
theorem s6_37_t : X cp n i6_11 (fr6_2 p0 p1 p2 p3 v67) k = s6_37 cp n p0 p1 p2 p3 v67 (fun v143 => k .ret (fr6_36 v143)) := (show X cp n i6_11 (fr6_2 p0 p1 p2 p3 v67) k = X cp n i6_8 (fr6_2 p0 p1 p2 p3 v67) (seqT (X cp n) i6_10 k) from by kernel_rfl).trans ((show X cp n i6_8 (fr6_2 p0 p1 p2 p3 v67) (seqT (X cp n) i6_10 k) = s6_29 cp n p0 p1 p2 p3 v67 (fun v118 v119 => X cp n i6_10 (fr6_28 p0 p1 v118 v119) k) (k .ret (fr6_36 false)) from (s6_29_t cp n p0 p1 p2 p3 v67 (seqT (X cp n) i6_10 k)).trans (by kernel_rfl)).trans (congrArg (fun q => s6_29 cp n p0 p1 p2 p3 v67 q (k .ret (fr6_36 false))) (funext fun v118 => funext fun v119 => (s6_35_t cp n p0 p1 v118 v119 k).trans (show s6_35 cp n p0 p1 v118 v119 (fun v142 => k .ret (fr6_34 v142)) = s6_35 cp n p0 p1 v118 v119 (fun v142 => k .ret (fr6_36 v142)) from by kernel_rfl))))
def fr6_38 : FF := [dT 8 ((tB v144) :: (dT 7 [])), dc, dc, dc, dc, dc, dc, dc, dc, dc, dc, dc, dc, dc, dc, dc, dc, dc, dc, dc, dc, dc]
def fr6_40 : FF := [(.row false (.ruint8 p0)) :: (tI .u32 p1) :: (.row false (.rint p2)) :: (.row false (.rint p3)) :: (dT 12 []), dc, dc, dc, dc, dc, dc, dc, dc, dc, dc, dc, dc, dc, dc, dc, dc, dc, dc, dc, dc, dc]
theorem s6_39_t : X cp n i6_12 (fr6_40 p0 p1 p2 p3) k = s6_39 cp n p0 p1 p2 p3 (fun v144 => k .ret (fr6_38 v144)) := ((fun c => (show X cp n (.seq (.fin (.reg g6_0) [8] []) (.seq (.seq (.fin (.reg g6_1) [33, 34, 35, 36, 37, 38, 39] []) (.fin (.cond (.s 40) (.seq (.fin (.reg g6_2) [0, 1, 2, 3, 40, 41] []) (.ret)) (.skip)) [40] [])) (.seq (.fin (.reg g6_3) [42, 43, 44, 45, 46] []) (.seq (.seq (.fin (.reg g6_4) [10, 47] []) (.fin (.cond (.s 48) (.seq (.fin (.reg g6_5) [0, 1, 2, 3, 9, 48] [(203, 15)]) (.ret)) (.skip)) [48] [])) (.seq (.reg g6_6) c))))) (fr6_40 p0 p1 p2 p3) k = s6_1 cp n p0 p1 p2 p3 (fun v67 => X cp n c (fr6_2 p0 p1 p2 p3 v67) k) (fun v68 => k .ret (fr6_38 v68)) from by kernel_rfl)) i6_11).trans (congrArg (fun q => s6_1 cp n p0 p1 p2 p3 q (fun v68 => k .ret (fr6_38 v68))) (funext fun v67 => (s6_37_t cp n p0 p1 p2 p3 v67 k).trans (show s6_37 cp n p0 p1 p2 p3 v67 (fun v143 => k .ret (fr6_36 v143)) = s6_37 cp n p0 p1 p2 p3 v67 (fun v143 => k .ret (fr6_38 v143)) from by kernel_rfl)))
theorem run6 (cp : CP) (n : Nat) (p0 : (List Int)) (p1 : Int) (p2 p3 : (List Int)) (k : Ret2 RW → Option R) : G6 cp (n + 1) p0 p1 p2 p3 (fun r0 => k ⟨(tB r0), [], []⟩) = run2 U cp (callP cp n) n fn6 [.row false (.ruint8 p0), (tI .u32 p1), .row false (.rint p2), .row false (.rint p3)] [] k := ((X_run (f := fn6) (av := [.row false (.ruint8 p0), (tI .u32 p1), .row false (.rint p2), .row false (.rint p3)]) (cells := []) (code := i6_12) (fr := (fr6_40 p0 p1 p2 p3)) (k := k) (by kernel_rfl) (fun K => by kernel_rfl)).trans ((s6_39_t cp n p0 p1 p2 p3 (finK2 fn6 k)).trans (by kernel_rfl))).symm
end
def tbl : Nat → Option IFn
  | 49 => some (fn49.lo U)
  | 17 => some (fn17.lo U)
  | 27 => some (fn27.lo U)
  | 53 => some (fn53.lo U)
  | 55 => some (fn55.lo U)
  | 71 => some (fn71.lo U)
  | 1011 => some (fn1011.lo U)
  | 1010 => some (fn1010.lo U)
  | 72 => some (fn72.lo U)
  | 56 => some (fn56.lo U)
  | 28 => some (fn28.lo U)
  | 10 => some (fn10.lo U)
  | 57 => some fn57
  | 52 => some fn52
  | 29 => some (fn29.lo U)
  | 31 => some (fn31.lo U)
  | 58 => some (fn58.lo U)
  | 30 => some (fn30.lo U)
  | 36 => some (fn36.lo U)
  | 32 => some (fn32.lo U)
  | 33 => some (fn33.lo U)
  | 82 => some (fn82.lo U)
  | 78 => some (fn78.lo U)
  | 79 => some (fn79.lo U)
  | 61 => some (fn61.lo U)
  | 74 => some (fn74.lo U)
  | 1031 => some (fn1031.lo U)
  | 1033 => some fn1033
  | 75 => some fn75
  | 77 => some (fn77.lo U)
  | 60 => some (fn60.lo U)
  | 1029 => some (fn1029.lo U)
  | 34 => some (fn34.lo U)
  | 1038 => some (fn1038.lo U)
  | 1037 => some (fn1037.lo U)
  | 35 => some (fn35.lo U)
  | 12 => some (fn12.lo U)
  | 51 => some (fn51.lo U)
  | 20 => some (fn20.lo U)
  | 22 => some (fn22.lo U)
  | 11 => some (fn11.lo U)
  | 19 => some (fn19.lo U)
  | 21 => some (fn21.lo U)
  | 6 => some (fn6.lo U)
  | _ => none
theorem chk49 : chkFn Try.prog tbl (fn49.lo U) = true := by kernel_rfl
theorem chk17 : chkFn Try.prog tbl (fn17.lo U) = true := by kernel_rfl
theorem chk27 : chkFn Try.prog tbl (fn27.lo U) = true := by kernel_rfl
theorem chk53 : chkFn Try.prog tbl (fn53.lo U) = true := by kernel_rfl
theorem chk55 : chkFn Try.prog tbl (fn55.lo U) = true := by kernel_rfl
theorem chk71 : chkFn Try.prog tbl (fn71.lo U) = true := by kernel_rfl
theorem chk1011 : chkFn Try.prog tbl (fn1011.lo U) = true := by kernel_rfl
theorem chk1010 : chkFn Try.prog tbl (fn1010.lo U) = true := by kernel_rfl
theorem chk72 : chkFn Try.prog tbl (fn72.lo U) = true := by kernel_rfl
theorem chk56 : chkFn Try.prog tbl (fn56.lo U) = true := by kernel_rfl
theorem chk28 : chkFn Try.prog tbl (fn28.lo U) = true := by kernel_rfl
theorem chk10 : chkFn Try.prog tbl (fn10.lo U) = true := by kernel_rfl
theorem chk57 : chkFn Try.prog tbl fn57 = true := by kernel_rfl
theorem chk52 : chkFn Try.prog tbl fn52 = true := by kernel_rfl
theorem chk29 : chkFn Try.prog tbl (fn29.lo U) = true := by kernel_rfl
theorem chk31 : chkFn Try.prog tbl (fn31.lo U) = true := by kernel_rfl
theorem chk58 : chkFn Try.prog tbl (fn58.lo U) = true := by kernel_rfl
theorem chk30 : chkFn Try.prog tbl (fn30.lo U) = true := by kernel_rfl
theorem chk36 : chkFn Try.prog tbl (fn36.lo U) = true := by kernel_rfl
theorem chk32 : chkFn Try.prog tbl (fn32.lo U) = true := by kernel_rfl
theorem chk33 : chkFn Try.prog tbl (fn33.lo U) = true := by kernel_rfl
theorem chk82 : chkFn Try.prog tbl (fn82.lo U) = true := by kernel_rfl
theorem chk78 : chkFn Try.prog tbl (fn78.lo U) = true := by kernel_rfl
theorem chk79 : chkFn Try.prog tbl (fn79.lo U) = true := by kernel_rfl
theorem chk61 : chkFn Try.prog tbl (fn61.lo U) = true := by kernel_rfl
theorem chk74 : chkFn Try.prog tbl (fn74.lo U) = true := by kernel_rfl
theorem chk1031 : chkFn Try.prog tbl (fn1031.lo U) = true := by kernel_rfl
theorem chk1033 : chkFn Try.prog tbl fn1033 = true := by kernel_rfl
theorem chk75 : chkFn Try.prog tbl fn75 = true := by kernel_rfl
theorem chk77 : chkFn Try.prog tbl (fn77.lo U) = true := by kernel_rfl
theorem chk60 : chkFn Try.prog tbl (fn60.lo U) = true := by kernel_rfl
theorem chk1029 : chkFn Try.prog tbl (fn1029.lo U) = true := by kernel_rfl
theorem chk34 : chkFn Try.prog tbl (fn34.lo U) = true := by kernel_rfl
theorem chk1038 : chkFn Try.prog tbl (fn1038.lo U) = true := by kernel_rfl
theorem chk1037 : chkFn Try.prog tbl (fn1037.lo U) = true := by kernel_rfl
theorem chk35 : chkFn Try.prog tbl (fn35.lo U) = true := by kernel_rfl
theorem chk12 : chkFn Try.prog tbl (fn12.lo U) = true := by kernel_rfl
theorem chk51 : chkFn Try.prog tbl (fn51.lo U) = true := by kernel_rfl
theorem chk20 : chkFn Try.prog tbl (fn20.lo U) = true := by kernel_rfl
theorem chk22 : chkFn Try.prog tbl (fn22.lo U) = true := by kernel_rfl
theorem chk11 : chkFn Try.prog tbl (fn11.lo U) = true := by kernel_rfl
theorem chk19 : chkFn Try.prog tbl (fn19.lo U) = true := by kernel_rfl
theorem chk21 : chkFn Try.prog tbl (fn21.lo U) = true := by kernel_rfl
theorem chk6 : chkFn Try.prog tbl (fn6.lo U) = true := by kernel_rfl
theorem chkAll : ∀ (id : Nat) (f : IFn), tbl id = some f → chkFn Try.prog tbl f = true := by
  intro id f h
  unfold tbl at h
  split at h
  · cases h; exact chk49
  · cases h; exact chk17
  · cases h; exact chk27
  · cases h; exact chk53
  · cases h; exact chk55
  · cases h; exact chk71
  · cases h; exact chk1011
  · cases h; exact chk1010
  · cases h; exact chk72
  · cases h; exact chk56
  · cases h; exact chk28
  · cases h; exact chk10
  · cases h; exact chk57
  · cases h; exact chk52
  · cases h; exact chk29
  · cases h; exact chk31
  · cases h; exact chk58
  · cases h; exact chk30
  · cases h; exact chk36
  · cases h; exact chk32
  · cases h; exact chk33
  · cases h; exact chk82
  · cases h; exact chk78
  · cases h; exact chk79
  · cases h; exact chk61
  · cases h; exact chk74
  · cases h; exact chk1031
  · cases h; exact chk1033
  · cases h; exact chk75
  · cases h; exact chk77
  · cases h; exact chk60
  · cases h; exact chk1029
  · cases h; exact chk34
  · cases h; exact chk1038
  · cases h; exact chk1037
  · cases h; exact chk35
  · cases h; exact chk12
  · cases h; exact chk51
  · cases h; exact chk20
  · cases h; exact chk22
  · cases h; exact chk11
  · cases h; exact chk19
  · cases h; exact chk21
  · cases h; exact chk6
  · cases h
theorem clone57 (n : Nat) (xs : (List SSpan)) (hc : capB (0 + xs.length) 16 = true) : runF tbl (n + 1) 57 [.row false 2 xs.length (rg cSpan zSpan xs)] [] = some ⟨.row true 2 xs.length (rg cSpan zSpan xs), [], []⟩ :=
  clone_fin (F := fun m g => runF tbl (n + 1) 57 [.row false 2 m g] []) (fun g => show runF tbl (n + 1) 57 [.row false 2 0 g] [] = both (some ⟨.row true 2 0 (fun _ => [.sc (.int .i64 0), .sc (.int .i64 0)]), [], []⟩) (cond (capB (0 + 0) 16) (some ⟨.row true 2 (0 + 0) (appGet 0 0 (litGet 2 0 [.sc (.int .i64 0), .sc (.int .i64 0)] []) g), [], []⟩) none) from by kernel_rfl) (fun m g => show runF tbl (n + 1) 57 [.row false 2 (m + 1) g] [] = (cond (capB (0 + (m + 1)) 16) (some ⟨.row true 2 (0 + (m + 1)) (appGet 0 (m + 1) (litGet 2 0 [.sc (.int .i64 0), .sc (.int .i64 0)] []) g), [], []⟩) none) from by kernel_rfl) (show cSpan zSpan = [.sc (.int .i64 0), .sc (.int .i64 0)] from by kernel_rfl) xs hc
theorem clone52 (n : Nat) (xs : (List Int)) (hc : capB (0 + xs.length) 1 = true) : runF tbl (n + 1) 52 [.row false 1 xs.length (rg cuint8 zuint8 xs)] [] = some ⟨.row true 1 xs.length (rg cuint8 zuint8 xs), [], []⟩ :=
  clone_fin (F := fun m g => runF tbl (n + 1) 52 [.row false 1 m g] []) (fun g => show runF tbl (n + 1) 52 [.row false 1 0 g] [] = both (some ⟨.row true 1 0 (fun _ => [.sc (.int .u8 0)]), [], []⟩) (cond (capB (0 + 0) 1) (some ⟨.row true 1 (0 + 0) (appGet 0 0 (litGet 1 0 [.sc (.int .u8 0)] []) g), [], []⟩) none) from by kernel_rfl) (fun m g => show runF tbl (n + 1) 52 [.row false 1 (m + 1) g] [] = (cond (capB (0 + (m + 1)) 1) (some ⟨.row true 1 (0 + (m + 1)) (appGet 0 (m + 1) (litGet 1 0 [.sc (.int .u8 0)] []) g), [], []⟩) none) from by kernel_rfl) (show cuint8 zuint8 = [.sc (.int .u8 0)] from by kernel_rfl) xs hc
theorem clone1033 (n : Nat) (xs : (List SPiece)) (hc : capB (0 + xs.length) 32 = true) : runF tbl (n + 1) 1033 [.row false 2 xs.length (rg cPiece zPiece xs)] [] = some ⟨.un none 2 xs.length (rg cPiece zPiece xs), [], []⟩ :=
  uclone_fin (F := fun m g => runF tbl (n + 1) 1033 [.row false 2 m g] []) (fun g => show runF tbl (n + 1) 1033 [.row false 2 0 g] [] = both (some ⟨.un none 2 0 (fun _ => [.sc (.int .i64 0), .row false 1 0 (fun _ => [.sc (.int .u8 0)])]), [], []⟩) (cond (capB (0 + 0) 32) (some ⟨.un none 2 (0 + 0) (appGet 0 0 (litGet 2 0 [.sc (.int .i64 0), .row false 1 0 (fun _ => [.sc (.int .u8 0)])] []) g), [], []⟩) none) from by kernel_rfl) (fun m g => show runF tbl (n + 1) 1033 [.row false 2 (m + 1) g] [] = (cond (capB (0 + (m + 1)) 32) (some ⟨.un none 2 (0 + (m + 1)) (appGet 0 (m + 1) (litGet 2 0 [.sc (.int .i64 0), .row false 1 0 (fun _ => [.sc (.int .u8 0)])] []) g), [], []⟩) none) from by kernel_rfl) (show cPiece zPiece = [.sc (.int .i64 0), .row false 1 0 (fun _ => [.sc (.int .u8 0)])] from by kernel_rfl) xs hc
theorem clone75 (n : Nat) (a : Bool) (xs : (List SPiece)) (i : Int) (x : SPiece) (hc : capB (xs.length + 1) 32 = true) (h0 : decide (0 ≤ i) = true) (h1 : decide (i ≤ (xs.length : Int)) = true) : runF tbl (n + 1) 75 [.un none 2 xs.length (rg cPiece zPiece xs), .sc (.int .i64 i), .row a 2 1 (rg cPiece zPiece [x])] [] = some ⟨.un none 2 (insL xs (Int.toNat i) x).length (rg cPiece zPiece (insL xs (Int.toNat i) x)), [], []⟩ :=
  ins_fin (show runF tbl (n + 1) 75 [.un none 2 xs.length (rg cPiece zPiece xs), .sc (.int .i64 i), .row a 2 1 (rg cPiece zPiece [x])] [] = cond (capB (xs.length + 1) 32) (cond (decide (0 ≤ i)) (cond (decide (i ≤ (xs.length : Int))) (some ⟨.un none 2 (xs.length + 1) (insGet xs.length (Int.toNat i) (rg cPiece zPiece xs) (rg cPiece zPiece [x])), [], []⟩) none) none) none from by kernel_rfl) hc h0 h1
theorem dI_ok {kd : IntKind} {y : TV RW} {a : Int} (h : dI kd y = some a) : y = .sc (.int kd a) := by
  unfold dI at h
  split at h
  · obtain ⟨h1, h2⟩ := cond_some h
    cases h2
    rw [of_decide_eq_true h1]
  · cases h
theorem dB_ok {y : TV RW} {a : Bool} (h : dB y = some a) : y = .sc (.bool a) := by
  unfold dB at h
  split at h <;> cases h
  rfl
theorem dS_ok {y : TV RW} {a : ByteArray} (h : dS y = some a) : y = .sc (.string a) := by
  unfold dS at h
  split at h <;> cases h
  rfl
theorem dA_ok {y : TV RW} {a : Fr} (h : dA y = some a) : y = .agg a := by
  unfold dA at h
  split at h <;> cases h
  rfl
theorem dOne_ok {y : Fr} {a : TV RW} (h : dOne y = some a) : y = [a] := by
  unfold dOne at h
  split at h <;> cases h
  rfl
theorem dP_ok {a b : Nat} {y : TV RW} {u : Unit} (h : dP a b y = some u) : y = .ptr a b := by
  unfold dP at h
  split at h
  · obtain ⟨h1, h2⟩ := cond_some h
    simp only [Bool.and_eq_true] at h1
    rw [nbeq h1.1, nbeq h1.2]
  · cases h
theorem dC_ok {a : Nat} {b : List (Nat × Nat)} {y : TV RW} {u : Unit} (h : dC a b y = some u) : y = .clo a b := by
  unfold dC at h
  split at h
  · obtain ⟨h1, h2⟩ := cond_some h
    simp only [Bool.and_eq_true] at h1
    rw [nbeq h1.1, of_decide_eq_true h1.2]
  · cases h
theorem dRuint8_ok {fl : Bool} {y : TV RW} {a : List Int} (h : dRuint8 fl y = some a) : y = .row fl (.ruint8 a) := by
  unfold dRuint8 at h
  split at h
  · obtain ⟨h1, h2⟩ := cond_some h
    cases h2
    rw [eq_of_beq h1]
  · cases h
theorem dRint_ok {fl : Bool} {y : TV RW} {a : List Int} (h : dRint fl y = some a) : y = .row fl (.rint a) := by
  unfold dRint at h
  split at h
  · obtain ⟨h1, h2⟩ := cond_some h
    cases h2
    rw [eq_of_beq h1]
  · cases h
theorem dRPiece_ok {fl : Bool} {y : TV RW} {a : List SPiece} (h : dRPiece fl y = some a) : y = .row fl (.rPiece a) := by
  unfold dRPiece at h
  split at h
  · obtain ⟨h1, h2⟩ := cond_some h
    cases h2
    rw [eq_of_beq h1]
  · cases h
theorem dRSpan_ok {fl : Bool} {y : TV RW} {a : List SSpan} (h : dRSpan fl y = some a) : y = .row fl (.rSpan a) := by
  unfold dRSpan at h
  split at h
  · obtain ⟨h1, h2⟩ := cond_some h
    cases h2
    rw [eq_of_beq h1]
  · cases h
theorem dRBlock_ok {fl : Bool} {y : TV RW} {a : List SBlock} (h : dRBlock fl y = some a) : y = .row fl (.rBlock a) := by
  unfold dRBlock at h
  split at h
  · obtain ⟨h1, h2⟩ := cond_some h
    cases h2
    rw [eq_of_beq h1]
  · cases h
theorem dRecv_ok {L : Fr} {a : SRecv} (h : dRecv L = some a) : L = eRecv a := by
  unfold dRecv at h
  split at h
  · simp only [Option.bind_eq_some_iff] at h
    obtain ⟨a0, h0, a1, h1, a2, h2, a3, h3, a4, h4, a5, h5, a6, h6, a7, h7, a8, h8, a9, h9, a10, h10, a11, h11, a12, h12, a13, h13, a14, h14, h⟩ := h
    cases h
    obtain rfl := dI_ok h0
    obtain rfl := dRuint8_ok h1
    obtain rfl := dRPiece_ok h2
    obtain rfl := dI_ok h3
    obtain rfl := dI_ok h4
    obtain rfl := dI_ok h5
    obtain rfl := dI_ok h6
    obtain rfl := dB_ok h7
    obtain rfl := dB_ok h8
    obtain rfl := dI_ok h9
    obtain rfl := dB_ok h10
    obtain rfl := dRSpan_ok h11
    obtain rfl := dI_ok h12
    obtain rfl := dI_ok h13
    obtain rfl := dB_ok h14
    rfl
  · cases h
theorem dRecvt_ok {L : Fr} {a : SRecv} (h : dRecvt L = some a) : L = eRecvt a := by
  unfold dRecvt at h
  split at h
  · simp only [Option.bind_eq_some_iff] at h
    obtain ⟨a0, h0, a1, h1, a2, h2, a3, h3, a4, h4, a5, h5, a6, h6, a7, h7, a8, h8, a9, h9, a10, h10, a11, h11, a12, h12, a13, h13, a14, h14, h⟩ := h
    cases h
    obtain rfl := dI_ok h0
    obtain rfl := dRuint8_ok h1
    obtain rfl := dRPiece_ok h2
    obtain rfl := dI_ok h3
    obtain rfl := dI_ok h4
    obtain rfl := dI_ok h5
    obtain rfl := dI_ok h6
    obtain rfl := dB_ok h7
    obtain rfl := dB_ok h8
    obtain rfl := dI_ok h9
    obtain rfl := dB_ok h10
    obtain rfl := dRSpan_ok h11
    obtain rfl := dI_ok h12
    obtain rfl := dI_ok h13
    obtain rfl := dB_ok h14
    rfl
  · cases h
theorem dPiece_ok {L : Fr} {a : SPiece} (h : dPiece L = some a) : L = ePiece a := by
  unfold dPiece at h
  split at h
  · simp only [Option.bind_eq_some_iff] at h
    obtain ⟨a0, h0, a1, h1, h⟩ := h
    cases h
    obtain rfl := dI_ok h0
    obtain rfl := dRuint8_ok h1
    rfl
  · cases h
theorem dPiecet_ok {L : Fr} {a : SPiece} (h : dPiecet L = some a) : L = ePiecet a := by
  unfold dPiecet at h
  split at h
  · simp only [Option.bind_eq_some_iff] at h
    obtain ⟨a0, h0, a1, h1, h⟩ := h
    cases h
    obtain rfl := dI_ok h0
    obtain rfl := dRuint8_ok h1
    rfl
  · cases h
theorem dSpan_ok {L : Fr} {a : SSpan} (h : dSpan L = some a) : L = eSpan a := by
  unfold dSpan at h
  split at h
  · simp only [Option.bind_eq_some_iff] at h
    obtain ⟨a0, h0, a1, h1, h⟩ := h
    cases h
    obtain rfl := dI_ok h0
    obtain rfl := dI_ok h1
    rfl
  · cases h
theorem dBlock_ok {L : Fr} {a : SBlock} (h : dBlock L = some a) : L = eBlock a := by
  unfold dBlock at h
  split at h
  · simp only [Option.bind_eq_some_iff] at h
    obtain ⟨a0, h0, a1, h1, h⟩ := h
    cases h
    obtain rfl := dI_ok h0
    obtain rfl := dI_ok h1
    rfl
  · cases h
theorem dSegment_ok {L : Fr} {a : SSegment} (h : dSegment L = some a) : L = eSegment a := by
  unfold dSegment at h
  split at h
  · simp only [Option.bind_eq_some_iff] at h
    obtain ⟨a0, h0, a1, h1, a2, h2, a3, h3, a4, h4, a5, h5, a6, h6, a7, h7, a8, h8, a9, h9, a10, h10, a11, h11, a12, h12, a13, h13, a14, h14, h⟩ := h
    cases h
    obtain rfl := dI_ok h0
    obtain rfl := dI_ok h1
    obtain rfl := dI_ok h2
    obtain rfl := dI_ok h3
    obtain rfl := dI_ok h4
    obtain rfl := dI_ok h5
    obtain rfl := dI_ok h6
    obtain rfl := dI_ok h7
    obtain rfl := dI_ok h8
    obtain rfl := dB_ok h9
    obtain rfl := dB_ok h10
    obtain rfl := dI_ok h11
    obtain rfl := dI_ok h12
    obtain rfl := dRBlock_ok h13
    obtain rfl := dRuint8_ok h14
    rfl
  · cases h
theorem dSegmentt_ok {L : Fr} {a : SSegment} (h : dSegmentt L = some a) : L = eSegmentt a := by
  unfold dSegmentt at h
  split at h
  · simp only [Option.bind_eq_some_iff] at h
    obtain ⟨a0, h0, a1, h1, a2, h2, a3, h3, a4, h4, a5, h5, a6, h6, a7, h7, a8, h8, a9, h9, a10, h10, a11, h11, a12, h12, a13, h13, a14, h14, h⟩ := h
    cases h
    obtain rfl := dI_ok h0
    obtain rfl := dI_ok h1
    obtain rfl := dI_ok h2
    obtain rfl := dI_ok h3
    obtain rfl := dI_ok h4
    obtain rfl := dI_ok h5
    obtain rfl := dI_ok h6
    obtain rfl := dI_ok h7
    obtain rfl := dI_ok h8
    obtain rfl := dB_ok h9
    obtain rfl := dB_ok h10
    obtain rfl := dI_ok h11
    obtain rfl := dI_ok h12
    obtain rfl := dRBlock_ok h13
    obtain rfl := dRuint8_ok h14
    rfl
  · cases h
theorem puint8_ok : ∀ {L : Fr} {xs : List Int}, puint8_ L = some xs → TV.los U L = (xs.map cuint8).flatten
  | [], xs, h => by cases h; rfl
  | y0 :: r, xs, h => by
    simp only [puint8_, Option.bind_eq_some_iff] at h
    obtain ⟨a0, h0, xs', h', h⟩ := h
    cases h
    have ih := puint8_ok h'
    obtain rfl := dI_ok h0
    show _ :: TV.los U r = _
    rw [ih]; rfl
theorem pint_ok : ∀ {L : Fr} {xs : List Int}, pint_ L = some xs → TV.los U L = (xs.map cint).flatten
  | [], xs, h => by cases h; rfl
  | y0 :: r, xs, h => by
    simp only [pint_, Option.bind_eq_some_iff] at h
    obtain ⟨a0, h0, xs', h', h⟩ := h
    cases h
    have ih := pint_ok h'
    obtain rfl := dI_ok h0
    show _ :: TV.los U r = _
    rw [ih]; rfl
theorem pPiece_ok : ∀ {L : Fr} {xs : List SPiece}, pPiece_ L = some xs → TV.los U L = (xs.map cPiece).flatten
  | [], xs, h => by cases h; rfl
  | [_], xs, h => by cases h
  | y0 :: y1 :: r, xs, h => by
    simp only [pPiece_, Option.bind_eq_some_iff] at h
    obtain ⟨a0, h0, a1, h1, xs', h', h⟩ := h
    cases h
    have ih := pPiece_ok h'
    obtain rfl := dI_ok h0
    obtain rfl := dRuint8_ok h1
    show _ :: _ :: TV.los U r = _
    rw [ih]; rfl
theorem pSpan_ok : ∀ {L : Fr} {xs : List SSpan}, pSpan_ L = some xs → TV.los U L = (xs.map cSpan).flatten
  | [], xs, h => by cases h; rfl
  | [_], xs, h => by cases h
  | y0 :: y1 :: r, xs, h => by
    simp only [pSpan_, Option.bind_eq_some_iff] at h
    obtain ⟨a0, h0, a1, h1, xs', h', h⟩ := h
    cases h
    have ih := pSpan_ok h'
    obtain rfl := dI_ok h0
    obtain rfl := dI_ok h1
    show _ :: _ :: TV.los U r = _
    rw [ih]; rfl
theorem pBlock_ok : ∀ {L : Fr} {xs : List SBlock}, pBlock_ L = some xs → TV.los U L = (xs.map cBlock).flatten
  | [], xs, h => by cases h; rfl
  | [_], xs, h => by cases h
  | y0 :: y1 :: r, xs, h => by
    simp only [pBlock_, Option.bind_eq_some_iff] at h
    obtain ⟨a0, h0, a1, h1, xs', h', h⟩ := h
    cases h
    have ih := pBlock_ok h'
    obtain rfl := dI_ok h0
    obtain rfl := dI_ok h1
    show _ :: _ :: TV.los U r = _
    rw [ih]; rfl
theorem dUPiece_ok {y : TV RW} {a : List SPiece} (h : dUPiece y = some a) : y = .un none (.rPiece a) := by
  unfold dUPiece at h
  split at h <;> cases h
  rfl
theorem dXPiece_ok {y : TV RW} {a : SPiece} (h : dXPiece y = some a) : ∃ fl, y = .row fl (.rPiece [a]) := by
  unfold dXPiece at h
  split at h <;> cases h
  exact ⟨_, rfl⟩
theorem UOk : UniOk U where
  get := fun r i => match r with
    | .ruint8 xs => by kernel_rfl
    | .rint xs => by kernel_rfl
    | .rPiece xs => by kernel_rfl
    | .rSpan xs => by kernel_rfl
    | .rBlock xs => by kernel_rfl
  app := fun r q x h => by cases r <;> cases q <;> first | (cases h; done) | (cases h; exact ⟨rfl, rfl, List.length_append, (rg_app (c := cuint8) (z := zuint8)).symm⟩) | (cases h; exact ⟨rfl, rfl, List.length_append, (rg_app (c := cint) (z := zint)).symm⟩) | (cases h; exact ⟨rfl, rfl, List.length_append, (rg_app (c := cPiece) (z := zPiece)).symm⟩) | (cases h; exact ⟨rfl, rfl, List.length_append, (rg_app (c := cSpan) (z := zSpan)).symm⟩) | (cases h; exact ⟨rfl, rfl, List.length_append, (rg_app (c := cBlock) (z := zBlock)).symm⟩)
  sub := fun lo n r h => by cases r <;> first | exact ⟨rfl, sub_len h, (rg_sub (c := cuint8) (z := zuint8) h).symm⟩ | exact ⟨rfl, sub_len h, (rg_sub (c := cint) (z := zint) h).symm⟩ | exact ⟨rfl, sub_len h, (rg_sub (c := cPiece) (z := zPiece) h).symm⟩ | exact ⟨rfl, sub_len h, (rg_sub (c := cSpan) (z := zSpan) h).symm⟩ | exact ⟨rfl, sub_len h, (rg_sub (c := cBlock) (z := zBlock) h).symm⟩
  lit := fun t n L r h => by
    unfold U at h
    dsimp only at h
    split at h
    · obtain ⟨xs, h1, rfl, rfl⟩ := bind_lit h
      have e := puint8_ok h1
      exact ⟨rfl, rfl, by rw [e]; exact (rg_lit (c := cuint8) (sz := 1) (z := zuint8) (fun _ => rfl)).symm, by rw [e]; exact all_flat (fun _ => rfl) xs⟩
    · obtain ⟨xs, h1, rfl, rfl⟩ := bind_lit h
      have e := pint_ok h1
      exact ⟨rfl, rfl, by rw [e]; exact (rg_lit (c := cint) (sz := 1) (z := zint) (fun _ => rfl)).symm, by rw [e]; exact all_flat (fun _ => rfl) xs⟩
    · obtain ⟨xs, h1, rfl, rfl⟩ := bind_lit h
      have e := pPiece_ok h1
      exact ⟨rfl, rfl, by rw [e]; exact (rg_lit (c := cPiece) (sz := 2) (z := zPiece) (fun _ => rfl)).symm, by rw [e]; exact all_flat (fun _ => rfl) xs⟩
    · obtain ⟨xs, h1, rfl, rfl⟩ := bind_lit h
      have e := pSpan_ok h1
      exact ⟨rfl, rfl, by rw [e]; exact (rg_lit (c := cSpan) (sz := 2) (z := zSpan) (fun _ => rfl)).symm, by rw [e]; exact all_flat (fun _ => rfl) xs⟩
    · obtain ⟨xs, h1, rfl, rfl⟩ := bind_lit h
      have e := pBlock_ok h1
      exact ⟨rfl, rfl, by rw [e]; exact (rg_lit (c := cBlock) (sz := 2) (z := zBlock) (fun _ => rfl)).symm, by rw [e]; exact all_flat (fun _ => rfl) xs⟩
    · cases h
  set := fun r q off cs r' hq h => by
    unfold U at h hq
    dsimp only at h hq
    split at h
    · cases h
    · cases h
    · obtain ⟨x, h1, h2⟩ := Option.bind_eq_some_iff.1 h
      cases h2
      obtain ⟨a1, a2, a3⟩ := set_fin (U := U) (c := cPiece) (z := zPiece) (e := ePiece) (fun _ => by kernel_rfl) (fun _ => rfl) hq (dPiece_ok h1)
      exact ⟨rfl, a1, a2, a3⟩
    · obtain ⟨x, h1, h2⟩ := Option.bind_eq_some_iff.1 h
      cases h2
      obtain ⟨a1, a2, a3⟩ := set_fin (U := U) (c := cSpan) (z := zSpan) (e := eSpan) (fun _ => by kernel_rfl) (fun _ => rfl) hq (dSpan_ok h1)
      exact ⟨rfl, a1, a2, a3⟩
    · obtain ⟨x, h1, h2⟩ := Option.bind_eq_some_iff.1 h
      cases h2
      obtain ⟨a1, a2, a3⟩ := set_fin (U := U) (c := cBlock) (z := zBlock) (e := eBlock) (fun _ => by kernel_rfl) (fun _ => rfl) hq (dBlock_ok h1)
      exact ⟨rfl, a1, a2, a3⟩
  str := fun r l h => by
    unfold U at h
    dsimp only at h
    split at h
    · cases h
      exact ⟨rfl, bytes_rg (fun _ => rfl) l⟩
    · cases h
    · cases h
    · cases h
    · cases h

theorem ok49 {R : Type} {r : R} : ∀ {n : Nat}, (∀ m, n = m + 1 → CallOk2 (R := R) U (callP capB m) (runF tbl m)) → ∀ {av : Fr} {cs : List Fr} {k : Ret2 RW → Option R}, ca49 capB n av cs k = some r → ∃ q : Ret2 RW, runF tbl n 49 (TV.los U av) (cs.map (TV.los U)) = some (q.lo U) ∧ k q = some r := by
  intro n ih av cs k h
  unfold ca49 at h
  split at h
  · simp only [Option.bind_eq_some_iff] at h
    obtain ⟨c0_, h0, p0, g0, h⟩ := h
    obtain rfl := dA_ok h0
    obtain rfl := dRecv_ok g0
    cases n with
    | zero => cases h
    | succ n =>
      exact run2_ok UOk (ih n rfl) (f := fn49) rfl ((run49 capB n p0 k).symm.trans h)
  · cases h
theorem ok17 {R : Type} {r : R} : ∀ {n : Nat}, (∀ m, n = m + 1 → CallOk2 (R := R) U (callP capB m) (runF tbl m)) → ∀ {av : Fr} {cs : List Fr} {k : Ret2 RW → Option R}, ca17 capB n av cs k = some r → ∃ q : Ret2 RW, runF tbl n 17 (TV.los U av) (cs.map (TV.los U)) = some (q.lo U) ∧ k q = some r := by
  intro n ih av cs k h
  unfold ca17 at h
  split at h
  · simp only [Option.bind_eq_some_iff] at h
    obtain ⟨p0, h0, p1, h1, p2, h2, p3, h3, p4, h4, p5, h5, h⟩ := h
    obtain rfl := dI_ok h0
    obtain rfl := dI_ok h1
    obtain rfl := dI_ok h2
    obtain rfl := dI_ok h3
    obtain rfl := dB_ok h4
    obtain rfl := dB_ok h5
    cases n with
    | zero => cases h
    | succ n =>
      exact run2_ok UOk (ih n rfl) (f := fn17) rfl ((run17 capB n p0 p1 p2 p3 p4 p5 k).symm.trans h)
  · cases h
theorem ok27 {R : Type} {r : R} : ∀ {n : Nat}, (∀ m, n = m + 1 → CallOk2 (R := R) U (callP capB m) (runF tbl m)) → ∀ {av : Fr} {cs : List Fr} {k : Ret2 RW → Option R}, ca27 capB n av cs k = some r → ∃ q : Ret2 RW, runF tbl n 27 (TV.los U av) (cs.map (TV.los U)) = some (q.lo U) ∧ k q = some r := by
  intro n ih av cs k h
  unfold ca27 at h
  split at h
  · simp only [Option.bind_eq_some_iff] at h
    obtain ⟨c0_, h0, p0, g0, h⟩ := h
    obtain rfl := dA_ok h0
    obtain rfl := dRecv_ok g0
    cases n with
    | zero => cases h
    | succ n =>
      exact run2_ok UOk (ih n rfl) (f := fn27) rfl ((run27 capB n p0 k).symm.trans h)
  · cases h
theorem ok53 {R : Type} {r : R} : ∀ {n : Nat}, (∀ m, n = m + 1 → CallOk2 (R := R) U (callP capB m) (runF tbl m)) → ∀ {av : Fr} {cs : List Fr} {k : Ret2 RW → Option R}, ca53 capB n av cs k = some r → ∃ q : Ret2 RW, runF tbl n 53 (TV.los U av) (cs.map (TV.los U)) = some (q.lo U) ∧ k q = some r := by
  intro n ih av cs k h
  unfold ca53 at h
  split at h
  · simp only [Option.bind_eq_some_iff] at h
    obtain ⟨c0_, h0, p0, g0, h⟩ := h
    obtain rfl := dA_ok h0
    obtain rfl := dRecv_ok g0
    cases n with
    | zero => cases h
    | succ n =>
      exact run2_ok UOk (ih n rfl) (f := fn53) rfl ((run53 capB n p0 k).symm.trans h)
  · cases h
theorem ok55 {R : Type} {r : R} : ∀ {n : Nat}, (∀ m, n = m + 1 → CallOk2 (R := R) U (callP capB m) (runF tbl m)) → ∀ {av : Fr} {cs : List Fr} {k : Ret2 RW → Option R}, ca55 capB n av cs k = some r → ∃ q : Ret2 RW, runF tbl n 55 (TV.los U av) (cs.map (TV.los U)) = some (q.lo U) ∧ k q = some r := by
  intro n ih av cs k h
  unfold ca55 at h
  split at h
  · simp only [Option.bind_eq_some_iff] at h
    obtain ⟨c0_, h0, p0, g0, h⟩ := h
    obtain rfl := dA_ok h0
    obtain rfl := dRecv_ok g0
    cases n with
    | zero => cases h
    | succ n =>
      exact run2_ok UOk (ih n rfl) (f := fn55) rfl ((run55 capB n p0 k).symm.trans h)
  · cases h
theorem ok71 {R : Type} {r : R} : ∀ {n : Nat}, (∀ m, n = m + 1 → CallOk2 (R := R) U (callP capB m) (runF tbl m)) → ∀ {av : Fr} {cs : List Fr} {k : Ret2 RW → Option R}, ca71 capB n av cs k = some r → ∃ q : Ret2 RW, runF tbl n 71 (TV.los U av) (cs.map (TV.los U)) = some (q.lo U) ∧ k q = some r := by
  intro n ih av cs k h
  unfold ca71 at h
  split at h
  · simp only [Option.bind_eq_some_iff] at h
    obtain ⟨c0_, h0, p0, g0, h⟩ := h
    obtain rfl := dA_ok h0
    obtain rfl := dPiece_ok g0
    cases n with
    | zero => cases h
    | succ n =>
      exact run2_ok UOk (ih n rfl) (f := fn71) rfl ((run71 capB n p0 k).symm.trans h)
  · cases h
theorem ok1011 {R : Type} {r : R} : ∀ {n : Nat}, (∀ m, n = m + 1 → CallOk2 (R := R) U (callP capB m) (runF tbl m)) → ∀ {av : Fr} {cs : List Fr} {k : Ret2 RW → Option R}, ca1011 capB n av cs k = some r → ∃ q : Ret2 RW, runF tbl n 1011 (TV.los U av) (cs.map (TV.los U)) = some (q.lo U) ∧ k q = some r := by
  intro n ih av cs k h
  unfold ca1011 at h
  split at h
  · simp only [Option.bind_eq_some_iff] at h
    obtain ⟨p0, h0, u1, h1, q0, i0, h⟩ := h
    obtain rfl := dRSpan_ok h0
    obtain rfl := dC_ok h1
    obtain rfl := dRecv_ok i0
    cases n with
    | zero => cases h
    | succ n =>
      exact run2_ok UOk (ih n rfl) (f := fn1011) rfl ((run1011 capB n p0 q0 k).symm.trans h)
  · cases h
theorem ok1010 {R : Type} {r : R} : ∀ {n : Nat}, (∀ m, n = m + 1 → CallOk2 (R := R) U (callP capB m) (runF tbl m)) → ∀ {av : Fr} {cs : List Fr} {k : Ret2 RW → Option R}, ca1010 capB n av cs k = some r → ∃ q : Ret2 RW, runF tbl n 1010 (TV.los U av) (cs.map (TV.los U)) = some (q.lo U) ∧ k q = some r := by
  intro n ih av cs k h
  unfold ca1010 at h
  split at h
  · simp only [Option.bind_eq_some_iff] at h
    obtain ⟨u0, h0, q0, i0, h⟩ := h
    obtain rfl := dC_ok h0
    obtain rfl := dRecv_ok i0
    cases n with
    | zero => cases h
    | succ n =>
      exact run2_ok UOk (ih n rfl) (f := fn1010) rfl ((run1010 capB n q0 k).symm.trans h)
  · cases h
theorem ok72 {R : Type} {r : R} : ∀ {n : Nat}, (∀ m, n = m + 1 → CallOk2 (R := R) U (callP capB m) (runF tbl m)) → ∀ {av : Fr} {cs : List Fr} {k : Ret2 RW → Option R}, ca72 capB n av cs k = some r → ∃ q : Ret2 RW, runF tbl n 72 (TV.los U av) (cs.map (TV.los U)) = some (q.lo U) ∧ k q = some r := by
  intro n ih av cs k h
  unfold ca72 at h
  split at h
  · simp only [Option.bind_eq_some_iff] at h
    obtain ⟨p0, h0, c1_, h1, p1, g1, h⟩ := h
    obtain rfl := dRSpan_ok h0
    obtain rfl := dA_ok h1
    obtain rfl := dSpan_ok g1
    cases n with
    | zero => cases h
    | succ n =>
      exact run2_ok UOk (ih n rfl) (f := fn72) rfl ((run72 capB n p0 p1 k).symm.trans h)
  · cases h
theorem ok56 {R : Type} {r : R} : ∀ {n : Nat}, (∀ m, n = m + 1 → CallOk2 (R := R) U (callP capB m) (runF tbl m)) → ∀ {av : Fr} {cs : List Fr} {k : Ret2 RW → Option R}, ca56 capB n av cs k = some r → ∃ q : Ret2 RW, runF tbl n 56 (TV.los U av) (cs.map (TV.los U)) = some (q.lo U) ∧ k q = some r := by
  intro n ih av cs k h
  unfold ca56 at h
  split at h
  · simp only [Option.bind_eq_some_iff] at h
    obtain ⟨p0, h0, c1_, h1, p1, g1, h⟩ := h
    obtain rfl := dRSpan_ok h0
    obtain rfl := dA_ok h1
    obtain rfl := dSpan_ok g1
    cases n with
    | zero => cases h
    | succ n =>
      exact run2_ok UOk (ih n rfl) (f := fn56) rfl ((run56 capB n p0 p1 k).symm.trans h)
  · cases h
theorem ok28 {R : Type} {r : R} : ∀ {n : Nat}, (∀ m, n = m + 1 → CallOk2 (R := R) U (callP capB m) (runF tbl m)) → ∀ {av : Fr} {cs : List Fr} {k : Ret2 RW → Option R}, ca28 capB n av cs k = some r → ∃ q : Ret2 RW, runF tbl n 28 (TV.los U av) (cs.map (TV.los U)) = some (q.lo U) ∧ k q = some r := by
  intro n ih av cs k h
  unfold ca28 at h
  split at h
  · simp only [Option.bind_eq_some_iff] at h
    obtain ⟨c0_, h0, p0, g0, h⟩ := h
    obtain rfl := dA_ok h0
    obtain rfl := dRecv_ok g0
    cases n with
    | zero => cases h
    | succ n =>
      exact run2_ok UOk (ih n rfl) (f := fn28) rfl ((run28 capB n p0 k).symm.trans h)
  · cases h
theorem ok10 {R : Type} {r : R} : ∀ {n : Nat}, (∀ m, n = m + 1 → CallOk2 (R := R) U (callP capB m) (runF tbl m)) → ∀ {av : Fr} {cs : List Fr} {k : Ret2 RW → Option R}, ca10 capB n av cs k = some r → ∃ q : Ret2 RW, runF tbl n 10 (TV.los U av) (cs.map (TV.los U)) = some (q.lo U) ∧ k q = some r := by
  intro n ih av cs k h
  unfold ca10 at h
  split at h
  · simp only [Option.bind_eq_some_iff] at h
    obtain ⟨c0_, h0, p0, g0, h⟩ := h
    obtain rfl := dA_ok h0
    obtain rfl := dRecv_ok g0
    cases n with
    | zero => cases h
    | succ n =>
      exact run2_ok UOk (ih n rfl) (f := fn10) rfl ((run10 capB n p0 k).symm.trans h)
  · cases h
theorem ok57 {R : Type} {r : R} : ∀ {n : Nat}, (∀ m, n = m + 1 → CallOk2 (R := R) U (callP capB m) (runF tbl m)) → ∀ {av : Fr} {cs : List Fr} {k : Ret2 RW → Option R}, ca57 capB n av cs k = some r → ∃ q : Ret2 RW, runF tbl n 57 (TV.los U av) (cs.map (TV.los U)) = some (q.lo U) ∧ k q = some r := by
  intro n ih av cs k h
  unfold ca57 at h
  split at h
  · simp only [Option.bind_eq_some_iff] at h
    obtain ⟨p0, h0, h⟩ := h
    obtain rfl := dRSpan_ok h0
    cases n with
    | zero => cases h
    | succ n =>
      obtain ⟨h1, h2⟩ := cond_some h
      exact ⟨⟨.row true (.rSpan p0), [], []⟩, clone57 n p0 h1, h2⟩
  · cases h
theorem ok52 {R : Type} {r : R} : ∀ {n : Nat}, (∀ m, n = m + 1 → CallOk2 (R := R) U (callP capB m) (runF tbl m)) → ∀ {av : Fr} {cs : List Fr} {k : Ret2 RW → Option R}, ca52 capB n av cs k = some r → ∃ q : Ret2 RW, runF tbl n 52 (TV.los U av) (cs.map (TV.los U)) = some (q.lo U) ∧ k q = some r := by
  intro n ih av cs k h
  unfold ca52 at h
  split at h
  · simp only [Option.bind_eq_some_iff] at h
    obtain ⟨p0, h0, h⟩ := h
    obtain rfl := dRuint8_ok h0
    cases n with
    | zero => cases h
    | succ n =>
      obtain ⟨h1, h2⟩ := cond_some h
      exact ⟨⟨.row true (.ruint8 p0), [], []⟩, clone52 n p0 h1, h2⟩
  · cases h
theorem ok29 {R : Type} {r : R} : ∀ {n : Nat}, (∀ m, n = m + 1 → CallOk2 (R := R) U (callP capB m) (runF tbl m)) → ∀ {av : Fr} {cs : List Fr} {k : Ret2 RW → Option R}, ca29 capB n av cs k = some r → ∃ q : Ret2 RW, runF tbl n 29 (TV.los U av) (cs.map (TV.los U)) = some (q.lo U) ∧ k q = some r := by
  intro n ih av cs k h
  unfold ca29 at h
  split at h
  · simp only [Option.bind_eq_some_iff] at h
    obtain ⟨c0_, h0, p0, g0, h⟩ := h
    obtain rfl := dA_ok h0
    obtain rfl := dRecv_ok g0
    cases n with
    | zero => cases h
    | succ n =>
      exact run2_ok UOk (ih n rfl) (f := fn29) rfl ((run29 capB n p0 k).symm.trans h)
  · cases h
theorem ok31 {R : Type} {r : R} : ∀ {n : Nat}, (∀ m, n = m + 1 → CallOk2 (R := R) U (callP capB m) (runF tbl m)) → ∀ {av : Fr} {cs : List Fr} {k : Ret2 RW → Option R}, ca31 capB n av cs k = some r → ∃ q : Ret2 RW, runF tbl n 31 (TV.los U av) (cs.map (TV.los U)) = some (q.lo U) ∧ k q = some r := by
  intro n ih av cs k h
  unfold ca31 at h
  split at h
  · simp only [Option.bind_eq_some_iff] at h
    obtain ⟨p0, h0, p1, h1, h⟩ := h
    obtain rfl := dI_ok h0
    obtain rfl := dI_ok h1
    cases n with
    | zero => cases h
    | succ n =>
      exact run2_ok UOk (ih n rfl) (f := fn31) rfl ((run31 capB n p0 p1 k).symm.trans h)
  · cases h
theorem ok58 {R : Type} {r : R} : ∀ {n : Nat}, (∀ m, n = m + 1 → CallOk2 (R := R) U (callP capB m) (runF tbl m)) → ∀ {av : Fr} {cs : List Fr} {k : Ret2 RW → Option R}, ca58 capB n av cs k = some r → ∃ q : Ret2 RW, runF tbl n 58 (TV.los U av) (cs.map (TV.los U)) = some (q.lo U) ∧ k q = some r := by
  intro n ih av cs k h
  unfold ca58 at h
  split at h
  · simp only [Option.bind_eq_some_iff] at h
    obtain ⟨p0, h0, p1, h1, h⟩ := h
    obtain rfl := dI_ok h0
    obtain rfl := dI_ok h1
    cases n with
    | zero => cases h
    | succ n =>
      exact run2_ok UOk (ih n rfl) (f := fn58) rfl ((run58 capB n p0 p1 k).symm.trans h)
  · cases h
theorem ok30 {R : Type} {r : R} : ∀ {n : Nat}, (∀ m, n = m + 1 → CallOk2 (R := R) U (callP capB m) (runF tbl m)) → ∀ {av : Fr} {cs : List Fr} {k : Ret2 RW → Option R}, ca30 capB n av cs k = some r → ∃ q : Ret2 RW, runF tbl n 30 (TV.los U av) (cs.map (TV.los U)) = some (q.lo U) ∧ k q = some r := by
  intro n ih av cs k h
  unfold ca30 at h
  split at h
  · simp only [Option.bind_eq_some_iff] at h
    obtain ⟨p0, h0, p1, h1, h⟩ := h
    obtain rfl := dI_ok h0
    obtain rfl := dI_ok h1
    cases n with
    | zero => cases h
    | succ n =>
      exact run2_ok UOk (ih n rfl) (f := fn30) rfl ((run30 capB n p0 p1 k).symm.trans h)
  · cases h
theorem ok36 {R : Type} {r : R} : ∀ {n : Nat}, (∀ m, n = m + 1 → CallOk2 (R := R) U (callP capB m) (runF tbl m)) → ∀ {av : Fr} {cs : List Fr} {k : Ret2 RW → Option R}, ca36 capB n av cs k = some r → ∃ q : Ret2 RW, runF tbl n 36 (TV.los U av) (cs.map (TV.los U)) = some (q.lo U) ∧ k q = some r := by
  intro n ih av cs k h
  unfold ca36 at h
  split at h
  · simp only [Option.bind_eq_some_iff] at h
    obtain ⟨p0, h0, p1, h1, h⟩ := h
    obtain rfl := dI_ok h0
    obtain rfl := dI_ok h1
    cases n with
    | zero => cases h
    | succ n =>
      exact run2_ok UOk (ih n rfl) (f := fn36) rfl ((run36 capB n p0 p1 k).symm.trans h)
  · cases h
theorem ok32 {R : Type} {r : R} : ∀ {n : Nat}, (∀ m, n = m + 1 → CallOk2 (R := R) U (callP capB m) (runF tbl m)) → ∀ {av : Fr} {cs : List Fr} {k : Ret2 RW → Option R}, ca32 capB n av cs k = some r → ∃ q : Ret2 RW, runF tbl n 32 (TV.los U av) (cs.map (TV.los U)) = some (q.lo U) ∧ k q = some r := by
  intro n ih av cs k h
  unfold ca32 at h
  split at h
  · simp only [Option.bind_eq_some_iff] at h
    obtain ⟨c0_, h0, p0, g0, p1, h1, h⟩ := h
    obtain rfl := dA_ok h0
    obtain rfl := dRecv_ok g0
    obtain rfl := dRBlock_ok h1
    cases n with
    | zero => cases h
    | succ n =>
      exact run2_ok UOk (ih n rfl) (f := fn32) rfl ((run32 capB n p0 p1 k).symm.trans h)
  · cases h
theorem ok33 {R : Type} {r : R} : ∀ {n : Nat}, (∀ m, n = m + 1 → CallOk2 (R := R) U (callP capB m) (runF tbl m)) → ∀ {av : Fr} {cs : List Fr} {k : Ret2 RW → Option R}, ca33 capB n av cs k = some r → ∃ q : Ret2 RW, runF tbl n 33 (TV.los U av) (cs.map (TV.los U)) = some (q.lo U) ∧ k q = some r := by
  intro n ih av cs k h
  unfold ca33 at h
  split at h
  · simp only [Option.bind_eq_some_iff] at h
    obtain ⟨c0_, h0, p0, g0, p1, h1, h⟩ := h
    obtain rfl := dA_ok h0
    obtain rfl := dRecv_ok g0
    obtain rfl := dI_ok h1
    cases n with
    | zero => cases h
    | succ n =>
      exact run2_ok UOk (ih n rfl) (f := fn33) rfl ((run33 capB n p0 p1 k).symm.trans h)
  · cases h
theorem ok82 {R : Type} {r : R} : ∀ {n : Nat}, (∀ m, n = m + 1 → CallOk2 (R := R) U (callP capB m) (runF tbl m)) → ∀ {av : Fr} {cs : List Fr} {k : Ret2 RW → Option R}, ca82 capB n av cs k = some r → ∃ q : Ret2 RW, runF tbl n 82 (TV.los U av) (cs.map (TV.los U)) = some (q.lo U) ∧ k q = some r := by
  intro n ih av cs k h
  unfold ca82 at h
  split at h
  · simp only [Option.bind_eq_some_iff] at h
    obtain ⟨c0_, h0, p0, g0, h⟩ := h
    obtain rfl := dA_ok h0
    obtain rfl := dSpan_ok g0
    cases n with
    | zero => cases h
    | succ n =>
      exact run2_ok UOk (ih n rfl) (f := fn82) rfl ((run82 capB n p0 k).symm.trans h)
  · cases h
theorem ok78 {R : Type} {r : R} : ∀ {n : Nat}, (∀ m, n = m + 1 → CallOk2 (R := R) U (callP capB m) (runF tbl m)) → ∀ {av : Fr} {cs : List Fr} {k : Ret2 RW → Option R}, ca78 capB n av cs k = some r → ∃ q : Ret2 RW, runF tbl n 78 (TV.los U av) (cs.map (TV.los U)) = some (q.lo U) ∧ k q = some r := by
  intro n ih av cs k h
  unfold ca78 at h
  split at h
  · simp only [Option.bind_eq_some_iff] at h
    obtain ⟨p0, h0, h⟩ := h
    obtain rfl := dRSpan_ok h0
    cases n with
    | zero => cases h
    | succ n =>
      exact run2_ok UOk (ih n rfl) (f := fn78) rfl ((run78 capB n p0 k).symm.trans h)
  · cases h
theorem ok79 {R : Type} {r : R} : ∀ {n : Nat}, (∀ m, n = m + 1 → CallOk2 (R := R) U (callP capB m) (runF tbl m)) → ∀ {av : Fr} {cs : List Fr} {k : Ret2 RW → Option R}, ca79 capB n av cs k = some r → ∃ q : Ret2 RW, runF tbl n 79 (TV.los U av) (cs.map (TV.los U)) = some (q.lo U) ∧ k q = some r := by
  intro n ih av cs k h
  unfold ca79 at h
  split at h
  · simp only [Option.bind_eq_some_iff] at h
    obtain ⟨p0, h0, c1_, h1, p1, g1, h⟩ := h
    obtain rfl := dRSpan_ok h0
    obtain rfl := dA_ok h1
    obtain rfl := dSpan_ok g1
    cases n with
    | zero => cases h
    | succ n =>
      exact run2_ok UOk (ih n rfl) (f := fn79) rfl ((run79 capB n p0 p1 k).symm.trans h)
  · cases h
theorem ok61 {R : Type} {r : R} : ∀ {n : Nat}, (∀ m, n = m + 1 → CallOk2 (R := R) U (callP capB m) (runF tbl m)) → ∀ {av : Fr} {cs : List Fr} {k : Ret2 RW → Option R}, ca61 capB n av cs k = some r → ∃ q : Ret2 RW, runF tbl n 61 (TV.los U av) (cs.map (TV.los U)) = some (q.lo U) ∧ k q = some r := by
  intro n ih av cs k h
  unfold ca61 at h
  split at h
  · simp only [Option.bind_eq_some_iff] at h
    obtain ⟨p0, h0, c1_, h1, p1, g1, h⟩ := h
    obtain rfl := dRSpan_ok h0
    obtain rfl := dA_ok h1
    obtain rfl := dSpan_ok g1
    cases n with
    | zero => cases h
    | succ n =>
      exact run2_ok UOk (ih n rfl) (f := fn61) rfl ((run61 capB n p0 p1 k).symm.trans h)
  · cases h
theorem ok74 {R : Type} {r : R} : ∀ {n : Nat}, (∀ m, n = m + 1 → CallOk2 (R := R) U (callP capB m) (runF tbl m)) → ∀ {av : Fr} {cs : List Fr} {k : Ret2 RW → Option R}, ca74 capB n av cs k = some r → ∃ q : Ret2 RW, runF tbl n 74 (TV.los U av) (cs.map (TV.los U)) = some (q.lo U) ∧ k q = some r := by
  intro n ih av cs k h
  unfold ca74 at h
  split at h
  · simp only [Option.bind_eq_some_iff] at h
    obtain ⟨c0_, h0, p0, g0, p1, h1, h⟩ := h
    obtain rfl := dA_ok h0
    obtain rfl := dPiece_ok g0
    obtain rfl := dI_ok h1
    cases n with
    | zero => cases h
    | succ n =>
      exact run2_ok UOk (ih n rfl) (f := fn74) rfl ((run74 capB n p0 p1 k).symm.trans h)
  · cases h
theorem ok1031 {R : Type} {r : R} : ∀ {n : Nat}, (∀ m, n = m + 1 → CallOk2 (R := R) U (callP capB m) (runF tbl m)) → ∀ {av : Fr} {cs : List Fr} {k : Ret2 RW → Option R}, ca1031 capB n av cs k = some r → ∃ q : Ret2 RW, runF tbl n 1031 (TV.los U av) (cs.map (TV.los U)) = some (q.lo U) ∧ k q = some r := by
  intro n ih av cs k h
  unfold ca1031 at h
  split at h
  · simp only [Option.bind_eq_some_iff] at h
    obtain ⟨p0, h0, p1, h1, u2, h2, h⟩ := h
    obtain rfl := dRPiece_ok h0
    obtain rfl := dI_ok h1
    obtain rfl := dC_ok h2
    cases n with
    | zero => cases h
    | succ n =>
      exact run2_ok UOk (ih n rfl) (f := fn1031) rfl ((run1031 capB n p0 p1 k).symm.trans h)
  · cases h
theorem ok1033 {R : Type} {r : R} : ∀ {n : Nat}, (∀ m, n = m + 1 → CallOk2 (R := R) U (callP capB m) (runF tbl m)) → ∀ {av : Fr} {cs : List Fr} {k : Ret2 RW → Option R}, ca1033 capB n av cs k = some r → ∃ q : Ret2 RW, runF tbl n 1033 (TV.los U av) (cs.map (TV.los U)) = some (q.lo U) ∧ k q = some r := by
  intro n ih av cs k h
  unfold ca1033 at h
  split at h
  · simp only [Option.bind_eq_some_iff] at h
    obtain ⟨p0, h0, h⟩ := h
    obtain rfl := dRPiece_ok h0
    cases n with
    | zero => cases h
    | succ n =>
      obtain ⟨h1, h2⟩ := cond_some h
      exact ⟨⟨.un none (.rPiece p0), [], []⟩, clone1033 n p0 h1, h2⟩
  · cases h
theorem ok75 {R : Type} {r : R} : ∀ {n : Nat}, (∀ m, n = m + 1 → CallOk2 (R := R) U (callP capB m) (runF tbl m)) → ∀ {av : Fr} {cs : List Fr} {k : Ret2 RW → Option R}, ca75 capB n av cs k = some r → ∃ q : Ret2 RW, runF tbl n 75 (TV.los U av) (cs.map (TV.los U)) = some (q.lo U) ∧ k q = some r := by
  intro n ih av cs k h
  unfold ca75 at h
  split at h
  · simp only [Option.bind_eq_some_iff] at h
    obtain ⟨p0, h0, p1, h1, p2, h2, h⟩ := h
    obtain rfl := dUPiece_ok h0
    obtain rfl := dI_ok h1
    obtain ⟨a2, rfl⟩ := dXPiece_ok h2
    cases n with
    | zero => cases h
    | succ n =>
      obtain ⟨h1, h2⟩ := cond_some h
      obtain ⟨h3, h4⟩ := cond_some h2
      obtain ⟨h5, h6⟩ := cond_some h4
      exact ⟨⟨.un none (.rPiece (insL p0 (Int.toNat p1) p2)), [], []⟩, clone75 n a2 p0 p1 p2 h1 h3 h5, h6⟩
  · cases h
theorem ok77 {R : Type} {r : R} : ∀ {n : Nat}, (∀ m, n = m + 1 → CallOk2 (R := R) U (callP capB m) (runF tbl m)) → ∀ {av : Fr} {cs : List Fr} {k : Ret2 RW → Option R}, ca77 capB n av cs k = some r → ∃ q : Ret2 RW, runF tbl n 77 (TV.los U av) (cs.map (TV.los U)) = some (q.lo U) ∧ k q = some r := by
  intro n ih av cs k h
  unfold ca77 at h
  split at h
  · simp only [Option.bind_eq_some_iff] at h
    obtain ⟨p0, h0, h⟩ := h
    obtain rfl := dRuint8_ok h0
    cases n with
    | zero => cases h
    | succ n =>
      exact run2_ok UOk (ih n rfl) (f := fn77) rfl ((run77 capB n p0 k).symm.trans h)
  · cases h
theorem ok60 {R : Type} {r : R} : ∀ {n : Nat}, (∀ m, n = m + 1 → CallOk2 (R := R) U (callP capB m) (runF tbl m)) → ∀ {av : Fr} {cs : List Fr} {k : Ret2 RW → Option R}, ca60 capB n av cs k = some r → ∃ q : Ret2 RW, runF tbl n 60 (TV.los U av) (cs.map (TV.los U)) = some (q.lo U) ∧ k q = some r := by
  intro n ih av cs k h
  unfold ca60 at h
  split at h
  · simp only [Option.bind_eq_some_iff] at h
    obtain ⟨p0, h0, c1_, h1, p1, g1, h⟩ := h
    obtain rfl := dRPiece_ok h0
    obtain rfl := dA_ok h1
    obtain rfl := dPiece_ok g1
    cases n with
    | zero => cases h
    | succ n =>
      exact run2_ok UOk (ih n rfl) (f := fn60) rfl ((run60 capB n p0 p1 k).symm.trans h)
  · cases h
theorem ok1029 {R : Type} {r : R} : ∀ {n : Nat}, (∀ m, n = m + 1 → CallOk2 (R := R) U (callP capB m) (runF tbl m)) → ∀ {av : Fr} {cs : List Fr} {k : Ret2 RW → Option R}, ca1029 capB n av cs k = some r → ∃ q : Ret2 RW, runF tbl n 1029 (TV.los U av) (cs.map (TV.los U)) = some (q.lo U) ∧ k q = some r := by
  intro n ih av cs k h
  unfold ca1029 at h
  split at h
  · simp only [Option.bind_eq_some_iff] at h
    obtain ⟨c0_, h0, p0, g0, u1, h1, u2, h2, u3, h3, u4, h4, q0, i0, u_1, j1, q1, i1, u_2, j2, q2, i2, u_3, j3, q3, i3, h⟩ := h
    obtain rfl := dA_ok h0
    obtain rfl := dSpan_ok g0
    obtain rfl := dP_ok h1
    obtain rfl := dP_ok h2
    obtain rfl := dP_ok h3
    obtain rfl := dP_ok h4
    obtain rfl := dRecvt_ok i0
    obtain rfl := dOne_ok j1
    obtain rfl := dI_ok i1
    obtain rfl := dOne_ok j2
    obtain rfl := dRuint8_ok i2
    obtain rfl := dOne_ok j3
    obtain rfl := dB_ok i3
    cases n with
    | zero => cases h
    | succ n =>
      exact run2_ok UOk (ih n rfl) (f := fn1029) rfl ((run1029 capB n p0 q0 q1 q2 q3 k).symm.trans h)
  · cases h
theorem ok34 {R : Type} {r : R} : ∀ {n : Nat}, (∀ m, n = m + 1 → CallOk2 (R := R) U (callP capB m) (runF tbl m)) → ∀ {av : Fr} {cs : List Fr} {k : Ret2 RW → Option R}, ca34 capB n av cs k = some r → ∃ q : Ret2 RW, runF tbl n 34 (TV.los U av) (cs.map (TV.los U)) = some (q.lo U) ∧ k q = some r := by
  intro n ih av cs k h
  unfold ca34 at h
  split at h
  · simp only [Option.bind_eq_some_iff] at h
    obtain ⟨c0_, h0, p0, g0, p1, h1, p2, h2, h⟩ := h
    obtain rfl := dA_ok h0
    obtain rfl := dRecvt_ok g0
    obtain rfl := dI_ok h1
    obtain rfl := dRuint8_ok h2
    cases n with
    | zero => cases h
    | succ n =>
      exact run2_ok UOk (ih n rfl) (f := fn34) rfl ((run34 capB n p0 p1 p2 k).symm.trans h)
  · cases h
theorem ok1038 {R : Type} {r : R} : ∀ {n : Nat}, (∀ m, n = m + 1 → CallOk2 (R := R) U (callP capB m) (runF tbl m)) → ∀ {av : Fr} {cs : List Fr} {k : Ret2 RW → Option R}, ca1038 capB n av cs k = some r → ∃ q : Ret2 RW, runF tbl n 1038 (TV.los U av) (cs.map (TV.los U)) = some (q.lo U) ∧ k q = some r := by
  intro n ih av cs k h
  unfold ca1038 at h
  split at h
  · simp only [Option.bind_eq_some_iff] at h
    obtain ⟨c0_, h0, p0, g0, u1, h1, q0, i0, h⟩ := h
    obtain rfl := dA_ok h0
    obtain rfl := dSpan_ok g0
    obtain rfl := dP_ok h1
    obtain rfl := dSpan_ok i0
    cases n with
    | zero => cases h
    | succ n =>
      exact run2_ok UOk (ih n rfl) (f := fn1038) rfl ((run1038 capB n p0 q0 k).symm.trans h)
  · cases h
theorem ok1037 {R : Type} {r : R} : ∀ {n : Nat}, (∀ m, n = m + 1 → CallOk2 (R := R) U (callP capB m) (runF tbl m)) → ∀ {av : Fr} {cs : List Fr} {k : Ret2 RW → Option R}, ca1037 capB n av cs k = some r → ∃ q : Ret2 RW, runF tbl n 1037 (TV.los U av) (cs.map (TV.los U)) = some (q.lo U) ∧ k q = some r := by
  intro n ih av cs k h
  unfold ca1037 at h
  split at h
  · simp only [Option.bind_eq_some_iff] at h
    obtain ⟨p0, h0, u1, h1, q0, i0, h⟩ := h
    obtain rfl := dRSpan_ok h0
    obtain rfl := dC_ok h1
    obtain rfl := dSpan_ok i0
    cases n with
    | zero => cases h
    | succ n =>
      exact run2_ok UOk (ih n rfl) (f := fn1037) rfl ((run1037 capB n p0 q0 k).symm.trans h)
  · cases h
theorem ok35 {R : Type} {r : R} : ∀ {n : Nat}, (∀ m, n = m + 1 → CallOk2 (R := R) U (callP capB m) (runF tbl m)) → ∀ {av : Fr} {cs : List Fr} {k : Ret2 RW → Option R}, ca35 capB n av cs k = some r → ∃ q : Ret2 RW, runF tbl n 35 (TV.los U av) (cs.map (TV.los U)) = some (q.lo U) ∧ k q = some r := by
  intro n ih av cs k h
  unfold ca35 at h
  split at h
  · simp only [Option.bind_eq_some_iff] at h
    obtain ⟨c0_, h0, p0, g0, p1, h1, p2, h2, h⟩ := h
    obtain rfl := dA_ok h0
    obtain rfl := dRecv_ok g0
    obtain rfl := dI_ok h1
    obtain rfl := dRuint8_ok h2
    cases n with
    | zero => cases h
    | succ n =>
      exact run2_ok UOk (ih n rfl) (f := fn35) rfl ((run35 capB n p0 p1 p2 k).symm.trans h)
  · cases h
theorem ok12 {R : Type} {r : R} : ∀ {n : Nat}, (∀ m, n = m + 1 → CallOk2 (R := R) U (callP capB m) (runF tbl m)) → ∀ {av : Fr} {cs : List Fr} {k : Ret2 RW → Option R}, ca12 capB n av cs k = some r → ∃ q : Ret2 RW, runF tbl n 12 (TV.los U av) (cs.map (TV.los U)) = some (q.lo U) ∧ k q = some r := by
  intro n ih av cs k h
  unfold ca12 at h
  split at h
  · simp only [Option.bind_eq_some_iff] at h
    obtain ⟨c0_, h0, p0, g0, c1_, h1, p1, g1, h⟩ := h
    obtain rfl := dA_ok h0
    obtain rfl := dRecv_ok g0
    obtain rfl := dA_ok h1
    obtain rfl := dSegment_ok g1
    cases n with
    | zero => cases h
    | succ n =>
      exact run2_ok UOk (ih n rfl) (f := fn12) rfl ((run12 capB n p0 p1 k).symm.trans h)
  · cases h
theorem ok51 {R : Type} {r : R} : ∀ {n : Nat}, (∀ m, n = m + 1 → CallOk2 (R := R) U (callP capB m) (runF tbl m)) → ∀ {av : Fr} {cs : List Fr} {k : Ret2 RW → Option R}, ca51 capB n av cs k = some r → ∃ q : Ret2 RW, runF tbl n 51 (TV.los U av) (cs.map (TV.los U)) = some (q.lo U) ∧ k q = some r := by
  intro n ih av cs k h
  unfold ca51 at h
  split at h
  · simp only [Option.bind_eq_some_iff] at h
    obtain ⟨p0, h0, p1, h1, p2, h2, h⟩ := h
    obtain rfl := dI_ok h0
    obtain rfl := dI_ok h1
    obtain rfl := dI_ok h2
    cases n with
    | zero => cases h
    | succ n =>
      exact run2_ok UOk (ih n rfl) (f := fn51) rfl ((run51 capB n p0 p1 p2 k).symm.trans h)
  · cases h
theorem ok20 {R : Type} {r : R} : ∀ {n : Nat}, (∀ m, n = m + 1 → CallOk2 (R := R) U (callP capB m) (runF tbl m)) → ∀ {av : Fr} {cs : List Fr} {k : Ret2 RW → Option R}, ca20 capB n av cs k = some r → ∃ q : Ret2 RW, runF tbl n 20 (TV.los U av) (cs.map (TV.los U)) = some (q.lo U) ∧ k q = some r := by
  intro n ih av cs k h
  unfold ca20 at h
  split at h
  · simp only [Option.bind_eq_some_iff] at h
    obtain ⟨c0_, h0, p0, g0, p1, h1, h⟩ := h
    obtain rfl := dA_ok h0
    obtain rfl := dRecv_ok g0
    obtain rfl := dI_ok h1
    cases n with
    | zero => cases h
    | succ n =>
      exact run2_ok UOk (ih n rfl) (f := fn20) rfl ((run20 capB n p0 p1 k).symm.trans h)
  · cases h
theorem ok22 {R : Type} {r : R} : ∀ {n : Nat}, (∀ m, n = m + 1 → CallOk2 (R := R) U (callP capB m) (runF tbl m)) → ∀ {av : Fr} {cs : List Fr} {k : Ret2 RW → Option R}, ca22 capB n av cs k = some r → ∃ q : Ret2 RW, runF tbl n 22 (TV.los U av) (cs.map (TV.los U)) = some (q.lo U) ∧ k q = some r := by
  intro n ih av cs k h
  unfold ca22 at h
  split at h
  · simp only [Option.bind_eq_some_iff] at h
    obtain ⟨c0_, h0, p0, g0, h⟩ := h
    obtain rfl := dA_ok h0
    obtain rfl := dRecv_ok g0
    cases n with
    | zero => cases h
    | succ n =>
      exact run2_ok UOk (ih n rfl) (f := fn22) rfl ((run22 capB n p0 k).symm.trans h)
  · cases h
theorem ok11 {R : Type} {r : R} : ∀ {n : Nat}, (∀ m, n = m + 1 → CallOk2 (R := R) U (callP capB m) (runF tbl m)) → ∀ {av : Fr} {cs : List Fr} {k : Ret2 RW → Option R}, ca11 capB n av cs k = some r → ∃ q : Ret2 RW, runF tbl n 11 (TV.los U av) (cs.map (TV.los U)) = some (q.lo U) ∧ k q = some r := by
  intro n ih av cs k h
  unfold ca11 at h
  split at h
  · cases n with
    | zero => cases h
    | succ n =>
      exact run2_ok UOk (ih n rfl) (f := fn11) rfl ((run11 capB n  k).symm.trans h)
  · cases h
theorem ok19 {R : Type} {r : R} : ∀ {n : Nat}, (∀ m, n = m + 1 → CallOk2 (R := R) U (callP capB m) (runF tbl m)) → ∀ {av : Fr} {cs : List Fr} {k : Ret2 RW → Option R}, ca19 capB n av cs k = some r → ∃ q : Ret2 RW, runF tbl n 19 (TV.los U av) (cs.map (TV.los U)) = some (q.lo U) ∧ k q = some r := by
  intro n ih av cs k h
  unfold ca19 at h
  split at h
  · simp only [Option.bind_eq_some_iff] at h
    obtain ⟨p0, h0, p1, h1, p2, h2, p3, h3, p4, h4, h⟩ := h
    obtain rfl := dI_ok h0
    obtain rfl := dRuint8_ok h1
    obtain rfl := dI_ok h2
    obtain rfl := dI_ok h3
    obtain rfl := dB_ok h4
    cases n with
    | zero => cases h
    | succ n =>
      exact run2_ok UOk (ih n rfl) (f := fn19) rfl ((run19 capB n p0 p1 p2 p3 p4 k).symm.trans h)
  · cases h
theorem ok21 {R : Type} {r : R} : ∀ {n : Nat}, (∀ m, n = m + 1 → CallOk2 (R := R) U (callP capB m) (runF tbl m)) → ∀ {av : Fr} {cs : List Fr} {k : Ret2 RW → Option R}, ca21 capB n av cs k = some r → ∃ q : Ret2 RW, runF tbl n 21 (TV.los U av) (cs.map (TV.los U)) = some (q.lo U) ∧ k q = some r := by
  intro n ih av cs k h
  unfold ca21 at h
  split at h
  · simp only [Option.bind_eq_some_iff] at h
    obtain ⟨p0, h0, p1, h1, h⟩ := h
    obtain rfl := dRuint8_ok h0
    obtain rfl := dRuint8_ok h1
    cases n with
    | zero => cases h
    | succ n =>
      exact run2_ok UOk (ih n rfl) (f := fn21) rfl ((run21 capB n p0 p1 k).symm.trans h)
  · cases h
theorem ok6 {R : Type} {r : R} : ∀ {n : Nat}, (∀ m, n = m + 1 → CallOk2 (R := R) U (callP capB m) (runF tbl m)) → ∀ {av : Fr} {cs : List Fr} {k : Ret2 RW → Option R}, ca6 capB n av cs k = some r → ∃ q : Ret2 RW, runF tbl n 6 (TV.los U av) (cs.map (TV.los U)) = some (q.lo U) ∧ k q = some r := by
  intro n ih av cs k h
  unfold ca6 at h
  split at h
  · simp only [Option.bind_eq_some_iff] at h
    obtain ⟨p0, h0, p1, h1, p2, h2, p3, h3, h⟩ := h
    obtain rfl := dRuint8_ok h0
    obtain rfl := dI_ok h1
    obtain rfl := dRint_ok h2
    obtain rfl := dRint_ok h3
    cases n with
    | zero => cases h
    | succ n =>
      exact run2_ok UOk (ih n rfl) (f := fn6) rfl ((run6 capB n p0 p1 p2 p3 k).symm.trans h)
  · cases h
theorem callOk {R : Type} : ∀ n, CallOk2 (R := R) U (callP capB n) (runF tbl n)
  | n => fun id av cells k r h => by
    have ih : ∀ m, n = m + 1 → CallOk2 (R := R) U (callP capB m) (runF tbl m) := fun m e => callOk m
    unfold callP at h
    split at h
    · exact ok49 ih h
    · exact ok17 ih h
    · exact ok27 ih h
    · exact ok53 ih h
    · exact ok55 ih h
    · exact ok71 ih h
    · exact ok1011 ih h
    · exact ok1010 ih h
    · exact ok72 ih h
    · exact ok56 ih h
    · exact ok28 ih h
    · exact ok10 ih h
    · exact ok57 ih h
    · exact ok52 ih h
    · exact ok29 ih h
    · exact ok31 ih h
    · exact ok58 ih h
    · exact ok30 ih h
    · exact ok36 ih h
    · exact ok32 ih h
    · exact ok33 ih h
    · exact ok82 ih h
    · exact ok78 ih h
    · exact ok79 ih h
    · exact ok61 ih h
    · exact ok74 ih h
    · exact ok1031 ih h
    · exact ok1033 ih h
    · exact ok75 ih h
    · exact ok77 ih h
    · exact ok60 ih h
    · exact ok1029 ih h
    · exact ok34 ih h
    · exact ok1038 ih h
    · exact ok1037 ih h
    · exact ok35 ih h
    · exact ok12 ih h
    · exact ok51 ih h
    · exact ok20 ih h
    · exact ok22 ih h
    · exact ok11 ih h
    · exact ok19 ih h
    · exact ok21 ih h
    · exact ok6 ih h
    · cases h
termination_by n => n
decreasing_by omega
end
end Go.Proofs.Ytilmdmjhdidoiaa.M
