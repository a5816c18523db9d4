/- The machine's code of the functions, and that it computes them. -/
import Derived.Test.YtafnmkbehjbkdaaAG1a
import Derived.Test.YtafnmkbehjbkdaaProg
import Derived.KernelRfl
set_option maxRecDepth 100000
set_option linter.unusedVariables false
set_option linter.unusedSimpArgs false
namespace Go.Proofs.Ytafnmkbehjbkdaa.M
open Go
noncomputable section
variable {R : Type}
/-! tideway/recv.take -/
section
variable (cp : CP) (n : Nat) (p0 : SRecv) (p1 : Int) (p2 : (List Int)) (v251 : Int) (v253 : SRecv) (v254 v255 : Int) (v256 : (List SSpan)) (v257 : Int) (v258 : (List Int)) (v260 v261 : Int) (v262 v263 v264 v265 v266 : (List SSpan)) (v267 v268 : Int) (v269 : (List SSpan)) (v270 : Int) (v271 v272 v273 v274 v275 v276 v277 : (List SSpan)) (v278 : Int) (v279 : Bool) (v281 : (List SSpan)) (v282 v283 : Int) (v284 : SRecv) (v285 : Int) (v286 : (List Int)) (v287 : Bool) (v292 : Int) (v293 : SRecv) (v294 : Int) (v295 : (List Int)) (v296 : Bool) (v297 : SRecv) (v298 : Bool) (v299 : SRecv) (v300 : Bool) (v301 : SRecv) (v302 : Bool) (v303 : SRecv) (v304 : Bool) (v305 : SRecv) (v306 : Bool) (v307 v308 v309 v310 v311 : SRecv) (v312 : Bool) (v313 : SRecv) (v314 : Bool) (v315 : SRecv) (v316 : Bool) (v317 : SRecv) (v318 : Bool) (v319 : SRecv) (k : KX R)
def w16_0 : Fr := dT 3 ((.ptr 112 0) :: (.ptr 128 0) :: (.ptr 130 0) :: (.ptr 132 0) :: (dT 1 ((tL v251) :: (.ptr 148 0) :: (dT 6 []))))
def w16_1 : Fr := (.hdr 15) :: (eRecvt p0)
def w16_2 : Fr := [.hdr 1, (tL p1), .hdr 1, .row false (.ruint8 p2), .hdr 15, (tL 0), .row true (.ruint8 []), .row true (.rPiece []), (tL 0), (tL 0), (tL 0), (tI .u32 0), (tB false), (tB false), (tL 0), (tB false)]
def fr16_2 : FF := [w16_0 v251, dc, dc, dc, dc, dc, dc, w16_1 p0, w16_2 p1 p2, (.row true (.rSpan [])) :: (tI .u32 0) :: (tI .u32 0) :: (tB false) :: (.hdr 1) :: (.row true (.rSpan [])) :: (dT 10 []), dc, dc]
def w16_3 : Fr := dT 15 ([.clo 41 [(158, 0)]])
def fr16_4 : FF := [w16_0 v251, w16_3, dc, dc, dc, dc, dc, w16_1 p0, w16_2 p1 p2, (.row true (.rSpan [])) :: (tI .u32 0) :: (tI .u32 0) :: (tB false) :: (.hdr 1) :: (.row true (.rSpan [])) :: (dT 8 ((.hdr 15) :: (sl 0 1 (eRecv v253)))), sl 1 14 (eRecv v253) ++ (dT 2 []), dc]
def fr16_6 : FF := [w16_0 v251, w16_3, dc, dc, dc, dc, dc, dc, dc, dc, dc, dc]
def y16_5 (cp : CP) (n : Nat) (v251 : Int) : List (TV RW) → FF → (FF → Option R) → Option R := rndT 7 [32] [112, 128, 130, 132, 148, 158, 174] (fr16_6 v251) (X cp n i16_2)
def fr16_8 (p0 : SRecv) (p1 : Int) (p2 : (List Int)) (v251 : Int) (v253 : SRecv) (v254 : Int) : FF := [.yld :: (dT 5 ((.row false (.rPiece v253.xLate)) :: (tL v254) :: (tL 0) :: (dT 7 []))), dc, dc, dc, dc, dc, dc, (.hdr 15) :: (eRecvt p0), [.hdr 1, (tL p1), .hdr 1, .row false (.ruint8 p2), .hdr 15, (tL 0), .row true (.ruint8 []), .row true (.rPiece []), (tL 0), (tL 0), (tL 0), (tI .u32 0), (tB false), (tB false), (tL 0), (tB false)], (.row true (.rSpan [])) :: (tI .u32 0) :: (tI .u32 0) :: (tB false) :: (.hdr 1) :: (.row true (.rSpan [])) :: (dT 8 ((.hdr 15) :: (sl 0 1 (eRecv v253)))), sl 1 14 (eRecv v253) ++ (dT 2 []), dc]
def fr16_10 (p0 : SRecv) (p1 : Int) (p2 : (List Int)) (v251 : Int) (v253 : SRecv) (v254 v255 : Int) (v256 : (List SSpan)) : FF := [.yld :: (dT 5 ((.row false (.rPiece v253.xLate)) :: (tL v254) :: (tL v255) :: (dT 7 []))), dc, dc, dc, dc, dc, dc, (.hdr 15) :: (eRecvt p0), [.hdr 1, (tL p1), .hdr 1, .row false (.ruint8 p2), .hdr 15, (tL 0), .row true (.ruint8 []), .row true (.rPiece []), (tL 0), (tL 0), (tL 0), (tI .u32 0), (tB false), (tB false), (tL 0), (tB false)], (.row true (.rSpan [])) :: (tI .u32 0) :: (tI .u32 0) :: (tB false) :: (.hdr 1) :: (.row true (.rSpan v256)) :: (dT 8 ((.hdr 15) :: (sl 0 1 (eRecv v253)))), sl 1 14 (eRecv v253) ++ (dT 2 []), dc]
def fr16_11 (p0 : SRecv) (p1 : Int) (p2 : (List Int)) (v251 : Int) (v253 : SRecv) (v256 : (List SSpan)) : FF := [dc, dc, dc, dc, dc, dc, dc, (.hdr 15) :: (eRecvt p0), [.hdr 1, (tL p1), .hdr 1, .row false (.ruint8 p2), .hdr 15, (tL 0), .row true (.ruint8 []), .row true (.rPiece []), (tL 0), (tL 0), (tL 0), (tI .u32 0), (tB false), (tB false), (tL 0), (tB false)], (.row true (.rSpan [])) :: (tI .u32 0) :: (tI .u32 0) :: (tB false) :: (.hdr 1) :: (.row true (.rSpan v256)) :: (dT 8 ((.hdr 15) :: (sl 0 1 (eRecv v253)))), sl 1 14 (eRecv v253) ++ (dT 2 []), dc]
def fr16_13 (p0 : SRecv) (p1 : Int) (p2 : (List Int)) (v251 : Int) (v253 : SRecv) (v254 v255 : Int) (v256 : (List SSpan)) (v257 : Int) (v258 : (List Int)) : FF := [.yld :: (dT 3 ((.ptr 174 0) :: (dT 1 ((.row false (.rPiece v253.xLate)) :: (tL v254) :: (tL v255) :: (dT 7 []))))), dc, dc, dc, dc, dc, dc, (.hdr 15) :: (eRecvt p0), [.hdr 1, (tL p1), .hdr 1, .row false (.ruint8 p2), .hdr 15, (tL 0), .row true (.ruint8 []), .row true (.rPiece []), (tL 0), (tL 0), (tL 0), (tI .u32 0), (tB false), (tB false), (tL 0), (tB false)], (.row true (.rSpan [])) :: (tI .u32 0) :: (tI .u32 0) :: (tB false) :: (.hdr 1) :: (.row true (.rSpan v256)) :: (dT 8 ((.hdr 15) :: (sl 0 1 (eRecv v253)))), sl 1 14 (eRecv v253) ++ [.hdr 2, (tL v257)], (.row false (.ruint8 v258)) :: (dT 15 [])]
def fr16_15 (p0 : SRecv) (p1 : Int) (p2 : (List Int)) (v251 : Int) (v253 : SRecv) (v254 v255 : Int) (v256 : (List SSpan)) (v257 : Int) (v258 : (List Int)) (v260 v261 : Int) : FF := [.yld :: (dT 3 ((.ptr 174 0) :: (dT 1 ((.row false (.rPiece v253.xLate)) :: (tL v254) :: (tL v255) :: (dT 3 (.yld :: (.agg [(tL v257), .row false (.ruint8 v258)]) :: (.agg [(tL v260), (tL v261)]) :: (dT 1 []))))))), dc, dc, dc, dc, dc, dc, (.hdr 15) :: (eRecvt p0), [.hdr 1, (tL p1), .hdr 1, .row false (.ruint8 p2), .hdr 15, (tL 0), .row true (.ruint8 []), .row true (.rPiece []), (tL 0), (tL 0), (tL 0), (tI .u32 0), (tB false), (tB false), (tL 0), (tB false)], (.row true (.rSpan [])) :: (tI .u32 0) :: (tI .u32 0) :: (tB false) :: (.hdr 1) :: (.row true (.rSpan v256)) :: (dT 8 ((.hdr 15) :: (sl 0 1 (eRecv v253)))), sl 1 14 (eRecv v253) ++ [.hdr 2, (tL v257)], (.row false (.ruint8 v258)) :: (dT 15 [])]
theorem s16_14_t (cp : CP) (n : Nat) (p0 : SRecv) (p1 : Int) (p2 : (List Int)) (v251 : Int) (v253 : SRecv) (v254 v255 : Int) (v256 : (List SSpan)) (v257 : Int) (v258 : (List Int)) (A B : FF → Option R) : (gF (fr16_13 p0 p1 p2 v251 v253 v254 v255 v256 v257 v258) fun l => steps2 U cp (callP cp n) g16_10031 l fun l1 => yGuard2 none l1 (A l1) (B l1)) = s16_14 cp n p0 p1 p2 v251 v253 v254 v255 v256 v257 v258 (fun v260 v261 => A (fr16_15 p0 p1 p2 v251 v253 v254 v255 v256 v257 v258 v260 v261)) := by kernel_rfl
def w16_4 : Fr := (.row false (.ruint8 v258)) :: (dT 15 [])
def fr16_17 : FF := [w16_0 v251, w16_3, dc, dc, dc, dc, dc, w16_1 p0, w16_2 p1 p2, (.row true (.rSpan [])) :: (tI .u32 0) :: (tI .u32 0) :: (tB false) :: (.hdr 1) :: (.row true (.rSpan v262)) :: (dT 8 ((.hdr 15) :: (sl 0 1 (eRecv v253)))), sl 1 14 (eRecv v253) ++ [.hdr 2, (tL v257)], w16_4 v258]
def fr16_18 : FF := [w16_0 v251, w16_3, (.agg [(tL v260), (tL v261)]) :: (dT 15 []), dc, dc, dc, dc, w16_1 p0, w16_2 p1 p2, (.row true (.rSpan [])) :: (tI .u32 0) :: (tI .u32 0) :: (tB false) :: (.hdr 1) :: (.row true (.rSpan v256)) :: (dT 8 ((.hdr 15) :: (sl 0 1 (eRecv v253)))), sl 1 14 (eRecv v253) ++ [.hdr 2, (tL v257)], w16_4 v258]
theorem s16_16_t : X cp n i16_2 (fr16_18 p0 p1 p2 v251 v253 v256 v257 v258 v260 v261) k = s16_16 cp n p0 p1 p2 v251 v253 v256 v257 v258 v260 v261 (fun v262 => k .norm (fr16_17 p0 p1 p2 v251 v253 v257 v258 v262)) := by kernel_rfl
def fr16_20 (p0 : SRecv) (p1 : Int) (p2 : (List Int)) (v251 : Int) (v253 : SRecv) (v254 v255 v257 : Int) (v258 : (List Int)) (v260 v261 : Int) (v262 : (List SSpan)) : FF := [.yld :: (dT 3 ((.ptr 174 0) :: (dT 1 ((.row false (.rPiece v253.xLate)) :: (tL v254) :: (tL v255) :: (dT 3 ([.yld, .agg [(tL v257), .row false (.ruint8 v258)], .agg [(tL v260), (tL v261)], (tB true)])))))), dc, dc, dc, dc, dc, dc, (.hdr 15) :: (eRecvt p0), [.hdr 1, (tL p1), .hdr 1, .row false (.ruint8 p2), .hdr 15, (tL 0), .row true (.ruint8 []), .row true (.rPiece []), (tL 0), (tL 0), (tL 0), (tI .u32 0), (tB false), (tB false), (tL 0), (tB false)], (.row true (.rSpan [])) :: (tI .u32 0) :: (tI .u32 0) :: (tB false) :: (.hdr 1) :: (.row true (.rSpan v262)) :: (dT 8 ((.hdr 15) :: (sl 0 1 (eRecv v253)))), sl 1 14 (eRecv v253) ++ [.hdr 2, (tL v257)], (.row false (.ruint8 v258)) :: (dT 15 [])]
theorem q16_19_t (cp : CP) (n : Nat) (p0 : SRecv) (p1 : Int) (p2 : (List Int)) (v251 : Int) (v253 : SRecv) (v254 v255 : Int) (v256 : (List SSpan)) (v257 : Int) (v258 : (List Int)) (v260 v261 : Int) (K : FF → Option R) : yRun2 (y16_5 cp n v251) (.s 12) [.s 14] 15 (fr16_15 p0 p1 p2 v251 v253 v254 v255 v256 v257 v258 v260 v261) K = s16_16 cp n p0 p1 p2 v251 v253 v256 v257 v258 v260 v261 (fun v262 => K (fr16_20 p0 p1 p2 v251 v253 v254 v255 v257 v258 v260 v261 v262)) := ((fun x => (show yRun2 (rndT 7 [32] [112, 128, 130, 132, 148, 158, 174] (fr16_6 v251) x) (.s 12) [.s 14] 15 (fr16_15 p0 p1 p2 v251 v253 v254 v255 v256 v257 v258 v260 v261) K = x (fr16_18 p0 p1 p2 v251 v253 v256 v257 v258 v260 v261) (roundT 7 (fr16_15 p0 p1 p2 v251 v253 v254 v255 v256 v257 v258 v260 v261) (fun l2 => putO l2 (some 15) (.sc (.bool true)) K)) from by kernel_rfl)) (X cp n i16_2)).trans ((s16_16_t cp n p0 p1 p2 v251 v253 v256 v257 v258 v260 v261 (roundT 7 (fr16_15 p0 p1 p2 v251 v253 v254 v255 v256 v257 v258 v260 v261) (fun l2 => putO l2 (some 15) (.sc (.bool true)) K))).trans (by kernel_rfl))
def fr16_21 (p0 : SRecv) (p1 : Int) (p2 : (List Int)) (v251 : Int) (v253 : SRecv) (v254 v255 : Int) (v263 : (List SSpan)) : FF := [.yld :: (dT 5 ((.row false (.rPiece v253.xLate)) :: (tL v254) :: (tL v255) :: (dT 7 []))), (tB false) :: (dT 15 []), dc, dc, dc, dc, dc, (.hdr 15) :: (eRecvt p0), [.hdr 1, (tL p1), .hdr 1, .row false (.ruint8 p2), .hdr 15, (tL 0), .row true (.ruint8 []), .row true (.rPiece []), (tL 0), (tL 0), (tL 0), (tI .u32 0), (tB false), (tB false), (tL 0), (tB false)], (.row true (.rSpan [])) :: (tI .u32 0) :: (tI .u32 0) :: (tB false) :: (.hdr 1) :: (.row true (.rSpan v263)) :: (dT 8 ((.hdr 15) :: (sl 0 1 (eRecv v253)))), sl 1 14 (eRecv v253) ++ (dT 2 []), dc]
theorem s16_22_t : XI cp n (y16_5 cp n v251) i16_4 (fr16_13 p0 p1 p2 v251 v253 v254 v255 v256 v257 v258) k = s16_22 cp n p0 p1 p2 v251 v253 v254 v255 v256 v257 v258 (fun v263 => k .norm (fr16_21 p0 p1 p2 v251 v253 v254 v255 v263)) := (show XI cp n (y16_5 cp n v251) i16_4 (fr16_13 p0 p1 p2 v251 v253 v254 v255 v256 v257 v258) k = gF (fr16_13 p0 p1 p2 v251 v253 v254 v255 v256 v257 v258) fun l => steps2 U cp (callP cp n) g16_10031 l fun l1 => yGuard2 none l1 ((fun l1 => yRun2 (y16_5 cp n v251) (.s 12) [.s 14] 15 l1 (fun l2 => steps2 U cp (callP cp n) g16_10032 l2 ((clrT [4, 12, 13, 14, 15] [(174, 2)] k) .norm))) l1) ((fun l1 => putO l1 (some 15) (.tup []) fun l2 => steps2 U cp (callP cp n) g16_10032 l2 ((clrT [4, 12, 13, 14, 15] [(174, 2)] k) .norm)) l1) from by kernel_rfl).trans ((s16_14_t cp n p0 p1 p2 v251 v253 v254 v255 v256 v257 v258 (fun l1 => yRun2 (y16_5 cp n v251) (.s 12) [.s 14] 15 l1 (fun l2 => steps2 U cp (callP cp n) g16_10032 l2 ((clrT [4, 12, 13, 14, 15] [(174, 2)] k) .norm))) (fun l1 => putO l1 (some 15) (.tup []) fun l2 => steps2 U cp (callP cp n) g16_10032 l2 ((clrT [4, 12, 13, 14, 15] [(174, 2)] k) .norm))).trans (congrArg (s16_14 cp n p0 p1 p2 v251 v253 v254 v255 v256 v257 v258) (funext fun v260 => funext fun v261 => (q16_19_t cp n p0 p1 p2 v251 v253 v254 v255 v256 v257 v258 v260 v261 (fun l2 => steps2 U cp (callP cp n) g16_10032 l2 ((clrT [4, 12, 13, 14, 15] [(174, 2)] k) .norm))).trans (show s16_16 cp n p0 p1 p2 v251 v253 v256 v257 v258 v260 v261 (fun v262 => (fun l2 => steps2 U cp (callP cp n) g16_10032 l2 ((clrT [4, 12, 13, 14, 15] [(174, 2)] k) .norm)) (fr16_20 p0 p1 p2 v251 v253 v254 v255 v257 v258 v260 v261 v262)) = s16_16 cp n p0 p1 p2 v251 v253 v256 v257 v258 v260 v261 (fun v262 => k .norm (fr16_21 p0 p1 p2 v251 v253 v254 v255 v262)) from by kernel_rfl))))
def fr16_24 (p0 : SRecv) (p1 : Int) (p2 : (List Int)) (v251 : Int) (v253 : SRecv) (v254 v255 : Int) (v263 : (List SSpan)) : FF := [.yld :: (dT 5 ((.row false (.rPiece v253.xLate)) :: (tL v254) :: (tL v255) :: (dT 7 []))), dc, dc, dc, dc, dc, dc, (.hdr 15) :: (eRecvt p0), [.hdr 1, (tL p1), .hdr 1, .row false (.ruint8 p2), .hdr 15, (tL 0), .row true (.ruint8 []), .row true (.rPiece []), (tL 0), (tL 0), (tL 0), (tI .u32 0), (tB false), (tB false), (tL 0), (tB false)], (.row true (.rSpan [])) :: (tI .u32 0) :: (tI .u32 0) :: (tB false) :: (.hdr 1) :: (.row true (.rSpan v263)) :: (dT 8 ((.hdr 15) :: (sl 0 1 (eRecv v253)))), sl 1 14 (eRecv v253) ++ (dT 2 []), dc]
theorem s16_23_t : XI cp n (y16_5 cp n v251) i16_5 (fr16_21 p0 p1 p2 v251 v253 v254 v255 v263) k = s16_23 cp n p0 p1 p2 v251 v253 v254 v255 v263 (k .norm (fr16_24 p0 p1 p2 v251 v253 v254 v255 v263)) := by kernel_rfl
def fr16_25 (p0 : SRecv) (p1 : Int) (p2 : (List Int)) (v251 : Int) (v253 : SRecv) (v254 v255 : Int) (v264 : (List SSpan)) : FF := [.yld :: (dT 5 ((.row false (.rPiece v253.xLate)) :: (tL v254) :: (tL v255) :: (dT 7 []))), dc, dc, dc, dc, dc, dc, (.hdr 15) :: (eRecvt p0), [.hdr 1, (tL p1), .hdr 1, .row false (.ruint8 p2), .hdr 15, (tL 0), .row true (.ruint8 []), .row true (.rPiece []), (tL 0), (tL 0), (tL 0), (tI .u32 0), (tB false), (tB false), (tL 0), (tB false)], (.row true (.rSpan [])) :: (tI .u32 0) :: (tI .u32 0) :: (tB false) :: (.hdr 1) :: (.row true (.rSpan v264)) :: (dT 8 ((.hdr 15) :: (sl 0 1 (eRecv v253)))), sl 1 14 (eRecv v253) ++ (dT 2 []), dc]
theorem s16_26_t : XI cp n (y16_5 cp n v251) i16_6 (fr16_13 p0 p1 p2 v251 v253 v254 v255 v256 v257 v258) k = s16_26 cp n p0 p1 p2 v251 v253 v254 v255 v256 v257 v258 (fun v264 => k .norm (fr16_25 p0 p1 p2 v251 v253 v254 v255 v264)) := tq (tq (congrArg (fun q => s16_22 cp n p0 p1 p2 v251 v253 v254 v255 v256 v257 v258 q) (funext fun v263 => (s16_23_t cp n p0 p1 p2 v251 v253 v254 v255 v263 k).trans (show _ = s16_23 cp n p0 p1 p2 v251 v253 v254 v255 v263 (k .norm (fr16_25 p0 p1 p2 v251 v253 v254 v255 v263)) from by kernel_rfl))) ((s16_22_t cp n p0 p1 p2 v251 v253 v254 v255 v256 v257 v258 (seqT (XI cp n (y16_5 cp n v251)) i16_5 k)).trans (by kernel_rfl))) (by kernel_rfl)
def fr16_27 (p0 : SRecv) (p1 : Int) (p2 : (List Int)) (v251 : Int) (v253 : SRecv) (v254 v255 : Int) (v265 : (List SSpan)) : FF := [.yld :: (dT 5 ((.row false (.rPiece v253.xLate)) :: (tL v254) :: (tL v255) :: (dT 7 []))), dc, dc, dc, dc, dc, dc, (.hdr 15) :: (eRecvt p0), [.hdr 1, (tL p1), .hdr 1, .row false (.ruint8 p2), .hdr 15, (tL 0), .row true (.ruint8 []), .row true (.rPiece []), (tL 0), (tL 0), (tL 0), (tI .u32 0), (tB false), (tB false), (tL 0), (tB false)], (.row true (.rSpan [])) :: (tI .u32 0) :: (tI .u32 0) :: (tB false) :: (.hdr 1) :: (.row true (.rSpan v265)) :: (dT 8 ((.hdr 15) :: (sl 0 1 (eRecv v253)))), sl 1 14 (eRecv v253) ++ (dT 2 []), dc]
theorem s16_28_t : XI cp n (y16_5 cp n v251) i16_7 (fr16_10 p0 p1 p2 v251 v253 v254 v255 v256) k = s16_28 cp n p0 p1 p2 v251 v253 v254 v255 v256 (fun v265 => k .norm (fr16_27 p0 p1 p2 v251 v253 v254 v255 v265)) := ch (fun q => s16_12 cp n p0 p1 p2 v251 v253 v254 v255 v256 q) (fun c v257 v258 => XI cp n (y16_5 cp n v251) c (fr16_13 p0 p1 p2 v251 v253 v254 v255 v256 v257 v258) k) i16_6 (fun c => XI cp n (y16_5 cp n v251) (.seq (.fin (.reg g16_1002) [10, 11] []) c) (fr16_10 p0 p1 p2 v251 v253 v254 v255 v256) k) (fun c => by kernel_rfl) (funext fun v257 => funext fun v258 => (s16_26_t cp n p0 p1 p2 v251 v253 v254 v255 v256 v257 v258 k).trans (show _ = s16_26 cp n p0 p1 p2 v251 v253 v254 v255 v256 v257 v258 (fun v264 => k .norm (fr16_27 p0 p1 p2 v251 v253 v254 v255 v264)) from by kernel_rfl)) (by kernel_rfl) (by kernel_rfl)
def fr16_29 (p0 : SRecv) (p1 : Int) (p2 : (List Int)) (v251 : Int) (v253 : SRecv) (v254 v255 : Int) (v266 : (List SSpan)) : FF := [.yld :: (dT 5 ((.row false (.rPiece v253.xLate)) :: (tL v254) :: (tL v255) :: (dT 7 []))), dc, dc, dc, dc, dc, dc, (.hdr 15) :: (eRecvt p0), [.hdr 1, (tL p1), .hdr 1, .row false (.ruint8 p2), .hdr 15, (tL 0), .row true (.ruint8 []), .row true (.rPiece []), (tL 0), (tL 0), (tL 0), (tI .u32 0), (tB false), (tB false), (tL 0), (tB false)], (.row true (.rSpan [])) :: (tI .u32 0) :: (tI .u32 0) :: (tB false) :: (.hdr 1) :: (.row true (.rSpan v266)) :: (dT 8 ((.hdr 15) :: (sl 0 1 (eRecv v253)))), sl 1 14 (eRecv v253) ++ (dT 2 []), dc]
theorem s16_30_t : XI cp n (y16_5 cp n v251) i16_8 (fr16_10 p0 p1 p2 v251 v253 v254 v255 v256) k = s16_30 cp n p0 p1 p2 v251 v253 v254 v255 v256 (fun v266 => k .norm (fr16_29 p0 p1 p2 v251 v253 v254 v255 v266)) := tq ((s16_28_t cp n p0 p1 p2 v251 v253 v254 v255 v256 (blkT 1 k)).trans (by kernel_rfl)) (by kernel_rfl)
def fr16_32 (p0 : SRecv) (p1 : Int) (p2 : (List Int)) (v251 : Int) (v253 : SRecv) (v254 : Int) (v266 : (List SSpan)) (v267 : Int) : FF := [.yld :: (dT 5 ((.row false (.rPiece v253.xLate)) :: (tL v254) :: (tL v267) :: (dT 7 []))), dc, dc, dc, dc, dc, dc, (.hdr 15) :: (eRecvt p0), [.hdr 1, (tL p1), .hdr 1, .row false (.ruint8 p2), .hdr 15, (tL 0), .row true (.ruint8 []), .row true (.rPiece []), (tL 0), (tL 0), (tL 0), (tI .u32 0), (tB false), (tB false), (tL 0), (tB false)], (.row true (.rSpan [])) :: (tI .u32 0) :: (tI .u32 0) :: (tB false) :: (.hdr 1) :: (.row true (.rSpan v266)) :: (dT 8 ((.hdr 15) :: (sl 0 1 (eRecv v253)))), sl 1 14 (eRecv v253) ++ (dT 2 []), dc]
theorem s16_31_t : XI cp n (y16_5 cp n v251) i16_9 (fr16_29 p0 p1 p2 v251 v253 v254 v255 v266) k = s16_31 cp n p0 p1 p2 v251 v253 v254 v255 v266 (fun v267 => k .norm (fr16_32 p0 p1 p2 v251 v253 v254 v266 v267)) := by kernel_rfl
def fr16_33 (p0 : SRecv) (p1 : Int) (p2 : (List Int)) (v251 : Int) (v253 : SRecv) (v254 v268 : Int) (v269 : (List SSpan)) : FF := [.yld :: (dT 5 ((.row false (.rPiece v253.xLate)) :: (tL v254) :: (tL v268) :: (dT 7 []))), dc, dc, dc, dc, dc, dc, (.hdr 15) :: (eRecvt p0), [.hdr 1, (tL p1), .hdr 1, .row false (.ruint8 p2), .hdr 15, (tL 0), .row true (.ruint8 []), .row true (.rPiece []), (tL 0), (tL 0), (tL 0), (tI .u32 0), (tB false), (tB false), (tL 0), (tB false)], (.row true (.rSpan [])) :: (tI .u32 0) :: (tI .u32 0) :: (tB false) :: (.hdr 1) :: (.row true (.rSpan v269)) :: (dT 8 ((.hdr 15) :: (sl 0 1 (eRecv v253)))), sl 1 14 (eRecv v253) ++ (dT 2 []), dc]
theorem s16_34_t : XI cp n (y16_5 cp n v251) i16_10 (fr16_10 p0 p1 p2 v251 v253 v254 v255 v256) k = s16_34 cp n p0 p1 p2 v251 v253 v254 v255 v256 (fun v268 v269 => k .norm (fr16_33 p0 p1 p2 v251 v253 v254 v268 v269)) := tq (tq (congrArg (fun q => s16_30 cp n p0 p1 p2 v251 v253 v254 v255 v256 q) (funext fun v266 => (s16_31_t cp n p0 p1 p2 v251 v253 v254 v255 v266 k).trans (show _ = s16_31 cp n p0 p1 p2 v251 v253 v254 v255 v266 (fun v267 => k .norm (fr16_33 p0 p1 p2 v251 v253 v254 v267 v266)) from by kernel_rfl))) ((s16_30_t cp n p0 p1 p2 v251 v253 v254 v255 v256 (seqT (XI cp n (y16_5 cp n v251)) i16_9 k)).trans (by kernel_rfl))) (by kernel_rfl)
def fr16_35 (p0 : SRecv) (p1 : Int) (p2 : (List Int)) (v251 : Int) (v253 : SRecv) (v254 v270 : Int) (v271 : (List SSpan)) : FF := [.yld :: (dT 5 ((.row false (.rPiece v253.xLate)) :: (tL v254) :: (tL v270) :: (dT 7 []))), dc, dc, dc, dc, dc, dc, (.hdr 15) :: (eRecvt p0), [.hdr 1, (tL p1), .hdr 1, .row false (.ruint8 p2), .hdr 15, (tL 0), .row true (.ruint8 []), .row true (.rPiece []), (tL 0), (tL 0), (tL 0), (tI .u32 0), (tB false), (tB false), (tL 0), (tB false)], (.row true (.rSpan [])) :: (tI .u32 0) :: (tI .u32 0) :: (tB false) :: (.hdr 1) :: (.row true (.rSpan v271)) :: (dT 8 ((.hdr 15) :: (sl 0 1 (eRecv v253)))), sl 1 14 (eRecv v253) ++ (dT 2 []), dc]
theorem s16_36_t : XI cp n (y16_5 cp n v251) i16_11 (fr16_10 p0 p1 p2 v251 v253 v254 v255 v256) k = s16_36 cp n p0 p1 p2 v251 v253 v254 v255 v256 (fun v270 v271 => k .norm (fr16_35 p0 p1 p2 v251 v253 v254 v270 v271)) (k (.exit 0) (fr16_11 p0 p1 p2 v251 v253 v256)) := ch (fun q => s16_9 cp n p0 p1 p2 v251 v253 v254 v255 v256 q (k (.exit 0) (fr16_11 p0 p1 p2 v251 v253 v256))) (fun c => XI cp n (y16_5 cp n v251) c (fr16_10 p0 p1 p2 v251 v253 v254 v255 v256) k) i16_10 (fun c => XI cp n (y16_5 cp n v251) (.seq (.reg g16_1001) (.seq (.fin (.cond (.s 9) (.skip) (.clr [0, 6, 7, 8, 9] [] (.exit 0))) [9] []) c)) (fr16_10 p0 p1 p2 v251 v253 v254 v255 v256) k) (fun c => by kernel_rfl) ((s16_34_t cp n p0 p1 p2 v251 v253 v254 v255 v256 k).trans (show _ = s16_34 cp n p0 p1 p2 v251 v253 v254 v255 v256 (fun v268 v269 => k .norm (fr16_35 p0 p1 p2 v251 v253 v254 v268 v269)) from by kernel_rfl)) (by kernel_rfl) (by kernel_rfl)
def fr16_37 (p0 : SRecv) (p1 : Int) (p2 : (List Int)) (v251 : Int) (v253 : SRecv) (v272 : (List SSpan)) : FF := [dc, dc, dc, dc, dc, dc, dc, (.hdr 15) :: (eRecvt p0), [.hdr 1, (tL p1), .hdr 1, .row false (.ruint8 p2), .hdr 15, (tL 0), .row true (.ruint8 []), .row true (.rPiece []), (tL 0), (tL 0), (tL 0), (tI .u32 0), (tB false), (tB false), (tL 0), (tB false)], (.row true (.rSpan [])) :: (tI .u32 0) :: (tI .u32 0) :: (tB false) :: (.hdr 1) :: (.row true (.rSpan v272)) :: (dT 8 ((.hdr 15) :: (sl 0 1 (eRecv v253)))), sl 1 14 (eRecv v253) ++ (dT 2 []), dc]
theorem l16_38_t (cp : CP) (n : Nat) : ∀ (m : Nat) (p0 : SRecv) (p1 : Int) (p2 : (List Int)) (v251 : Int) (v253 : SRecv) (v254 v255 : Int) (v256 : (List SSpan)) (k : KX R), loopN2 (XI cp n (y16_5 cp n v251) i16_11) m (fr16_10 p0 p1 p2 v251 v253 v254 v255 v256) k = l16_38 cp n m p0 p1 p2 v251 v253 v254 v255 v256 (fun v272 => k (.exit 0) (fr16_37 p0 p1 p2 v251 v253 v272))
  | 0, _, _, _, _, _, _, _, _, _ => rfl
  | m + 1, p0, p1, p2, v251, v253, v254, v255, v256, k => (loopN2_succ (XI cp n (y16_5 cp n v251) i16_11) m (fr16_10 p0 p1 p2 v251 v253 v254 v255 v256) k).trans ((s16_36_t cp n p0 p1 p2 v251 v253 v254 v255 v256 (loopT (XI cp n (y16_5 cp n v251) i16_11) m k)).trans (tq (congrArg (fun q => s16_36 cp n p0 p1 p2 v251 v253 v254 v255 v256 q (k (.exit 0) (fr16_37 p0 p1 p2 v251 v253 v256))) (funext fun v270 => funext fun v271 => l16_38_t cp n m p0 p1 p2 v251 v253 v254 v270 v271 k)) (by kernel_rfl)))
theorem s16_39_t : XI cp n (y16_5 cp n v251) i16_12 (fr16_8 p0 p1 p2 v251 v253 v254) k = s16_39 cp n p0 p1 p2 v251 v253 v254 (fun v272 => k (.exit 0) (fr16_37 p0 p1 p2 v251 v253 v272)) := tq (l16_38_t cp n n p0 p1 p2 v251 v253 v254 0 [] k) (by kernel_rfl)
def fr16_40 (p0 : SRecv) (p1 : Int) (p2 : (List Int)) (v251 : Int) (v253 : SRecv) (v273 : (List SSpan)) : FF := [dc, dc, dc, dc, dc, dc, dc, (.hdr 15) :: (eRecvt p0), [.hdr 1, (tL p1), .hdr 1, .row false (.ruint8 p2), .hdr 15, (tL 0), .row true (.ruint8 []), .row true (.rPiece []), (tL 0), (tL 0), (tL 0), (tI .u32 0), (tB false), (tB false), (tL 0), (tB false)], (.row true (.rSpan [])) :: (tI .u32 0) :: (tI .u32 0) :: (tB false) :: (.hdr 1) :: (.row true (.rSpan v273)) :: (dT 8 ((.hdr 15) :: (sl 0 1 (eRecv v253)))), sl 1 14 (eRecv v253) ++ (dT 2 []), dc]
theorem s16_41_t : XI cp n (y16_5 cp n v251) i16_13 (fr16_8 p0 p1 p2 v251 v253 v254) k = s16_41 cp n p0 p1 p2 v251 v253 v254 (fun v273 => k .norm (fr16_40 p0 p1 p2 v251 v253 v273)) := tq ((s16_39_t cp n p0 p1 p2 v251 v253 v254 (blkT 0 k)).trans (by kernel_rfl)) (by kernel_rfl)
def fr16_42 (p0 : SRecv) (p1 : Int) (p2 : (List Int)) (v251 : Int) (v253 : SRecv) (v274 : (List SSpan)) : FF := [dc, dc, dc, dc, dc, dc, dc, (.hdr 15) :: (eRecvt p0), [.hdr 1, (tL p1), .hdr 1, .row false (.ruint8 p2), .hdr 15, (tL 0), .row true (.ruint8 []), .row true (.rPiece []), (tL 0), (tL 0), (tL 0), (tI .u32 0), (tB false), (tB false), (tL 0), (tB false)], (.row true (.rSpan [])) :: (tI .u32 0) :: (tI .u32 0) :: (tB false) :: (.hdr 1) :: (.row true (.rSpan v274)) :: (dT 8 ((.hdr 15) :: (sl 0 1 (eRecv v253)))), sl 1 14 (eRecv v253) ++ (dT 2 []), dc]
def fr16_44 (p0 : SRecv) (p1 : Int) (p2 : (List Int)) (v251 : Int) (v253 : SRecv) : FF := [.yld :: (.ptr 158 0) :: (dT 14 []), dc, dc, dc, dc, dc, dc, (.hdr 15) :: (eRecvt p0), [.hdr 1, (tL p1), .hdr 1, .row false (.ruint8 p2), .hdr 15, (tL 0), .row true (.ruint8 []), .row true (.rPiece []), (tL 0), (tL 0), (tL 0), (tI .u32 0), (tB false), (tB false), (tL 0), (tB false)], (.row true (.rSpan [])) :: (tI .u32 0) :: (tI .u32 0) :: (tB false) :: (.hdr 1) :: (.row true (.rSpan [])) :: (dT 8 ((.hdr 15) :: (sl 0 1 (eRecv v253)))), sl 1 14 (eRecv v253) ++ (dT 2 []), dc]
theorem s16_43_t : XI cp n (y16_5 cp n v251) i16_3 (fr16_44 p0 p1 p2 v251 v253) k = s16_43 cp n p0 p1 p2 v251 v253 (fun v274 => k .norm (fr16_42 p0 p1 p2 v251 v253 v274)) := ch (fun q => s16_7 cp n p0 p1 p2 v251 v253 q) (fun c v254 => XI cp n (y16_5 cp n v251) c (fr16_8 p0 p1 p2 v251 v253 v254) k) i16_13 (fun c => XI cp n (y16_5 cp n v251) (.seq (.fin (.reg g16_1000) [1, 5] []) c) (fr16_44 p0 p1 p2 v251 v253) k) (fun c => by kernel_rfl) (funext fun v254 => (s16_41_t cp n p0 p1 p2 v251 v253 v254 k).trans (show _ = s16_41 cp n p0 p1 p2 v251 v253 v254 (fun v273 => k .norm (fr16_42 p0 p1 p2 v251 v253 v273)) from by kernel_rfl)) (by kernel_rfl) (by kernel_rfl)
def fr16_45 : FF := [w16_0 v251, dc, dc, dc, dc, dc, dc, w16_1 p0, w16_2 p1 p2, (.row true (.rSpan [])) :: (tI .u32 0) :: (tI .u32 0) :: (tB false) :: (.hdr 1) :: (.row true (.rSpan v275)) :: (dT 10 []), dc, dc]
theorem s16_46_t : X cp n i16_14 (fr16_4 p0 p1 p2 v251 v253) k = s16_46 cp n p0 p1 p2 v251 v253 (fun v275 => k .norm (fr16_45 p0 p1 p2 v251 v275)) := (show X cp n i16_14 (fr16_4 p0 p1 p2 v251 v253) k = XI cp n (roundK2 7 [32] [112, 128, 130, 132, 148, 158, 174] (fr16_4 p0 p1 p2 v251 v253) (X cp n i16_0) (X cp n i16_1)) i16_3 (fr16_44 p0 p1 p2 v251 v253) (rfnT 7 (fr16_4 p0 p1 p2 v251 v253) (clrT [31] [(158, 15)] k)) from rfn_eq (v := .clo 41 [(158, 0)]) (by kernel_rfl) (by kernel_rfl) (by kernel_rfl) _ _ _).trans ((congrArg (fun Y => XI cp n Y i16_3 (fr16_44 p0 p1 p2 v251 v253) (rfnT 7 (fr16_4 p0 p1 p2 v251 v253) (clrT [31] [(158, 15)] k))) ((rnd_eq 7 [32] [112, 128, 130, 132, 148, 158, 174] (fr16_4 p0 p1 p2 v251 v253) i16_0 i16_1).trans (show rndT 7 [32] [112, 128, 130, 132, 148, 158, 174] (fr16_4 p0 p1 p2 v251 v253) (X cp n i16_2) = (y16_5 cp n v251) from by kernel_rfl))).trans ((s16_43_t cp n p0 p1 p2 v251 v253 (rfnT 7 (fr16_4 p0 p1 p2 v251 v253) (clrT [31] [(158, 15)] k))).trans (by kernel_rfl)))
def fr16_47 : FF := [w16_0 v251, dc, dc, dc, dc, dc, dc, w16_1 p0, w16_2 p1 p2, (.row true (.rSpan [])) :: (tI .u32 0) :: (tI .u32 0) :: (tB false) :: (.hdr 1) :: (.row true (.rSpan v276)) :: (dT 10 []), dc, dc]
theorem s16_48_t : X cp n i16_15 (fr16_4 p0 p1 p2 v251 v253) k = s16_48 cp n p0 p1 p2 v251 v253 (fun v276 => k .norm (fr16_47 p0 p1 p2 v251 v276)) := tq ((s16_46_t cp n p0 p1 p2 v251 v253 (blkT 0 k)).trans (by kernel_rfl)) (by kernel_rfl)
def fr16_49 : FF := [w16_0 v251, dc, dc, dc, dc, dc, dc, w16_1 p0, w16_2 p1 p2, (.row true (.rSpan [])) :: (tI .u32 0) :: (tI .u32 0) :: (tB false) :: (.hdr 1) :: (.row true (.rSpan v277)) :: (dT 10 []), dc, dc]
theorem s16_50_t : X cp n i16_16 (fr16_2 p0 p1 p2 v251) k = s16_50 cp n p0 p1 p2 v251 (fun v277 => k .norm (fr16_49 p0 p1 p2 v251 v277)) := ch (fun q => s16_3 cp n p0 p1 p2 v251 q) (fun c v253 => X cp n c (fr16_4 p0 p1 p2 v251 v253) k) i16_15 (fun c => X cp n (.seq (.fin (.reg g16_5) [30] []) c) (fr16_2 p0 p1 p2 v251) k) (fun c => by kernel_rfl) (funext fun v253 => (s16_48_t cp n p0 p1 p2 v251 v253 k).trans (show _ = s16_48 cp n p0 p1 p2 v251 v253 (fun v276 => k .norm (fr16_49 p0 p1 p2 v251 v276)) from by kernel_rfl)) (by kernel_rfl) (by kernel_rfl)
def w16_5 : Fr := (.row true (.rSpan [])) :: (tI .u32 0) :: (tI .u32 0) :: (tB false) :: (.hdr 1) :: (.row true (.rSpan v277)) :: (dT 3 ((.hdr 1) :: (tB false) :: (dT 5 [])))
def fr16_52 : FF := [dT 3 ((.ptr 112 0) :: (.ptr 128 0) :: (dT 1 ((.ptr 132 0) :: (dT 1 ((tL v251) :: (.ptr 148 0) :: (dT 1 ((.ptr 153 0) :: (.clo 32 [(153, 0), (112, 0), (130, 0), (128, 0)]) :: (dT 3 [])))))))), dc, dc, dc, dc, dc, dc, w16_1 p0, w16_2 p1 p2, w16_5 v277, dc, dc]
def fr16_54 : FF := [dT 3 ((.ptr 112 0) :: (dT 2 ((.ptr 132 0) :: (dT 1 ((tL v251) :: (.ptr 148 0) :: (dT 1 ((.ptr 153 0) :: (.clo 32 [(153, 0), (112, 0), (130, 0), (128, 0)]) :: (tL v278) :: (dT 2 [])))))))), dc, dT 12 ((tB v279) :: (dT 3 [])), dc, dc, dc, dc, w16_1 p0, w16_2 p1 p2, w16_5 v277, dc, dc]
def w16_6 : Fr := dT 3 ((.ptr 112 0) :: (dT 2 ((.ptr 132 0) :: (dT 4 ((.ptr 153 0) :: (.clo 32 [(153, 0), (112, 0), (130, 0), (128, 0)]) :: (dT 3 []))))))
def fr16_56 : FF := [w16_6, dc, dc, dT 1 ((.row false (.rSpan v281)) :: (tL v282) :: (tL 0) :: (dT 12 [])), dc, dc, dc, w16_1 p0, w16_2 p1 p2, (.row true (.rSpan [])) :: (tI .u32 0) :: (tI .u32 0) :: (tB false) :: (dT 5 ((.hdr 1) :: (tB false) :: (dT 5 []))), dc, dc]
def fr16_58 : FF := [w16_6, dc, dc, dT 1 ((.row false (.rSpan v281)) :: (tL v282) :: (tL v292) :: (dT 12 [])), dc, dc, dc, (.hdr 15) :: (eRecvt v293), [.hdr 1, (tL v294), .hdr 1, .row false (.ruint8 v295), .hdr 15, (tL 0), .row true (.ruint8 []), .row true (.rPiece []), (tL 0), (tL 0), (tL 0), (tI .u32 0), (tB false), (tB false), (tL 0), (tB false)], (.row true (.rSpan [])) :: (tI .u32 0) :: (tI .u32 0) :: (tB false) :: (dT 5 ((.hdr 1) :: (tB v296) :: (dT 5 []))), dc, dc]
def w16_7 : Fr := dT 3 ((.ptr 112 0) :: (dT 2 ((.ptr 132 0) :: (dT 4 ((.ptr 153 0) :: (dT 4 []))))))
def w16_8 : Fr := dT 4 ([.hdr 15, (tL 0), .row true (.ruint8 []), .row true (.rPiece []), (tL 0), (tL 0), (tL 0), (tI .u32 0), (tB false), (tB false), (tL 0), (tB false)])
def w16_9 : Fr := (.row true (.rSpan [])) :: (tI .u32 0) :: (tI .u32 0) :: (tB false) :: (dT 5 ((.hdr 1) :: (tB v287) :: (dT 5 [])))
def fr16_59 : FF := [w16_7, dc, dc, dc, dc, dc, dc, (.hdr 15) :: (eRecvt v284), w16_8, w16_9 v287, dc, dc]
def fr16_60 : FF := [w16_6, dc, dc, dT 1 ((.row false (.rSpan v281)) :: (tL v282) :: (tL v283) :: (dT 12 [])), dc, dc, dc, (.hdr 15) :: (eRecvt v284), [.hdr 1, (tL v285), .hdr 1, .row false (.ruint8 v286), .hdr 15, (tL 0), .row true (.ruint8 []), .row true (.rPiece []), (tL 0), (tL 0), (tL 0), (tI .u32 0), (tB false), (tB false), (tL 0), (tB false)], w16_9 v287, dc, dc]
theorem s16_57_t : X cp n i16_17 (fr16_60 v281 v282 v283 v284 v285 v286 v287) k = s16_57 cp n v281 v282 v283 v284 v285 v286 v287 (fun v292 v293 v294 v295 v296 => k .norm (fr16_58 v281 v282 v292 v293 v294 v295 v296)) (k (.exit 2) (fr16_59 v284 v287)) := by kernel_rfl
def fr16_61 : FF := [w16_7, dc, dc, dc, dc, dc, dc, (.hdr 15) :: (eRecvt v297), w16_8, (.row true (.rSpan [])) :: (tI .u32 0) :: (tI .u32 0) :: (tB false) :: (dT 5 ((.hdr 1) :: (tB v298) :: (dT 5 []))), dc, dc]
theorem l16_62_t (cp : CP) (n : Nat) : ∀ (m : Nat) (v281 : (List SSpan)) (v282 v283 : Int) (v284 : SRecv) (v285 : Int) (v286 : (List Int)) (v287 : Bool) (k : KX R), loopN2 (X cp n i16_17) m (fr16_60 v281 v282 v283 v284 v285 v286 v287) k = l16_62 cp n m v281 v282 v283 v284 v285 v286 v287 (fun v297 v298 => k (.exit 2) (fr16_61 v297 v298))
  | 0, _, _, _, _, _, _, _, _ => rfl
  | m + 1, v281, v282, v283, v284, v285, v286, v287, k => (loopN2_succ (X cp n i16_17) m (fr16_60 v281 v282 v283 v284 v285 v286 v287) k).trans ((s16_57_t cp n v281 v282 v283 v284 v285 v286 v287 (loopT (X cp n i16_17) m k)).trans (tq (congrArg (fun q => s16_57 cp n v281 v282 v283 v284 v285 v286 v287 q (k (.exit 2) (fr16_61 v284 v287))) (funext fun v292 => funext fun v293 => funext fun v294 => funext fun v295 => funext fun v296 => l16_62_t cp n m v281 v282 v292 v293 v294 v295 v296 k)) (by kernel_rfl)))
theorem s16_63_t : X cp n i16_18 (fr16_56 p0 p1 p2 v281 v282) k = s16_63 cp n p0 p1 p2 v281 v282 (fun v297 v298 => k (.exit 2) (fr16_61 v297 v298)) := tq (l16_62_t cp n n v281 v282 0 p0 p1 p2 false k) (by kernel_rfl)
def fr16_64 : FF := [w16_7, dc, dc, dc, dc, dc, dc, (.hdr 15) :: (eRecvt v299), w16_8, (.row true (.rSpan [])) :: (tI .u32 0) :: (tI .u32 0) :: (tB false) :: (dT 5 ((.hdr 1) :: (tB v300) :: (dT 5 []))), dc, dc]
theorem s16_65_t : X cp n i16_19 (fr16_56 p0 p1 p2 v281 v282) k = s16_65 cp n p0 p1 p2 v281 v282 (fun v299 v300 => k .norm (fr16_64 v299 v300)) := tq ((s16_63_t cp n p0 p1 p2 v281 v282 (blkT 2 k)).trans (by kernel_rfl)) (by kernel_rfl)
def fr16_66 : FF := [w16_7, dc, dc, dc, dc, dc, dc, (.hdr 15) :: (eRecvt v301), w16_8, (.row true (.rSpan [])) :: (tI .u32 0) :: (tI .u32 0) :: (tB false) :: (dT 5 ((.hdr 1) :: (tB v302) :: (dT 5 []))), dc, dc]
theorem s16_67_t : X cp n i16_20 (fr16_54 p0 p1 p2 v251 v277 v278 v279) k = s16_67 cp n p0 p1 p2 v251 v277 v278 v279 (fun v301 v302 => k .norm (fr16_66 v301 v302)) := ch (fun q => s16_55 cp n p0 p1 p2 v251 v277 v278 v279 q) (fun c v281 v282 => X cp n c (fr16_56 p0 p1 p2 v281 v282) k) i16_19 (fun c => X cp n (.seq (.fin (.reg g16_12) [8, 9, 13, 44, 45, 46, 47, 48] [(148, 1)]) c) (fr16_54 p0 p1 p2 v251 v277 v278 v279) k) (fun c => by kernel_rfl) (funext fun v281 => funext fun v282 => (s16_65_t cp n p0 p1 p2 v281 v282 k).trans (show _ = s16_65 cp n p0 p1 p2 v281 v282 (fun v299 v300 => k .norm (fr16_66 v299 v300)) from by kernel_rfl)) (by kernel_rfl) (by kernel_rfl)
theorem s16_68_t : X cp n i16_21 (fr16_54 p0 p1 p2 v251 v277 v278 v279) k = s16_68 cp n p0 p1 p2 v251 v277 v278 v279 (k .norm (fr16_54 p0 p1 p2 v251 v277 v278 v279)) := by kernel_rfl
def fr16_70 : FF := [w16_7, dc, dc, dc, dc, dc, dc, (.hdr 15) :: (eRecvt v303), w16_8, (.row true (.rSpan [])) :: (tI .u32 0) :: (tI .u32 0) :: (tB false) :: (dT 5 ((.hdr 1) :: (tB v304) :: (dT 5 []))), dc, dc]
theorem s16_69_t : X cp n i16_22 (fr16_54 p0 p1 p2 v251 v277 v278 v279) k = s16_69 cp n p0 p1 p2 v251 v277 v278 v279 (fun v303 v304 => k .norm (fr16_70 v303 v304)) := tq (cc (b := v279) ((s16_67_t cp n p0 p1 p2 v251 v277 v278 v279 (clrT [8, 9, 12, 13, 44] [(128, 1), (130, 1), (148, 1)] k)).trans (show _ = s16_67 cp n p0 p1 p2 v251 v277 v278 v279 (fun v301 v302 => k .norm (fr16_70 v301 v302)) from by kernel_rfl)) ((s16_68_t cp n p0 p1 p2 v251 v277 v278 v279 (clrT [8, 9, 12, 13, 44] [(128, 1), (130, 1), (148, 1)] k)).trans (show _ = s16_68 cp n p0 p1 p2 v251 v277 v278 v279 (k .norm (fr16_70 p0 false)) from by kernel_rfl))) (by kernel_rfl)
def w16_10 : Fr := (.row true (.rSpan [])) :: (tI .u32 0) :: (tI .u32 0) :: (tB false) :: (dT 5 ((.hdr 1) :: (tB v306) :: (dT 5 [])))
def fr16_71 : FF := [w16_7, dc, dc, dc, dc, dc, dc, (.hdr 15) :: (eRecvt v305), w16_8, w16_10 v306, dc, dc]
theorem s16_72_t : X cp n i16_23 (fr16_52 p0 p1 p2 v251 v277) k = s16_72 cp n p0 p1 p2 v251 v277 (fun v305 v306 => k .norm (fr16_71 v305 v306)) := ch (fun q => s16_53 cp n p0 p1 p2 v251 v277 q) (fun c v278 v279 => X cp n c (fr16_54 p0 p1 p2 v251 v277 v278 v279) k) i16_22 (fun c => X cp n (.seq (.fin (.reg g16_10) [4, 38, 39, 40, 41] []) (.seq (.fin (.reg g16_11) [42, 43] []) c)) (fr16_52 p0 p1 p2 v251 v277) k) (fun c => by kernel_rfl) (funext fun v278 => funext fun v279 => (s16_69_t cp n p0 p1 p2 v251 v277 v278 v279 k).trans (show _ = s16_69 cp n p0 p1 p2 v251 v277 v278 v279 (fun v303 v304 => k .norm (fr16_71 v303 v304)) from by kernel_rfl)) (by kernel_rfl) (by kernel_rfl)
def fr16_74 : FF := [w16_7, dc, dc, dc, dc, dc, dc, [.hdr 15, (tL v308.xNext), .row true (.ruint8 v308.xUnread), .row false (.rPiece v308.xLate), (tL v308.xCap), (tL v308.xShift), (tL v308.xEdge), (tI .u32 v308.xRecent), (tB v308.xStamps), (tB v308.xSacks), (tL v308.xFin), (tB v308.xDone), .row true (.rSpan v308.xFirst), (tI .u32 v308.xIrs), (tI .u32 v308.xOwn), (tB v308.xStamp)], w16_8, w16_10 v306, dc, dc]
def fr16_75 : FF := [w16_7, dc, dc, dc, dc, dc, dc, [.hdr 15, (tL v307.xNext), .row true (.ruint8 v307.xUnread), .row false (.rPiece v307.xLate), (tL v307.xCap), (tL v307.xShift), (tL v307.xEdge), (tI .u32 v307.xRecent), (tB v307.xStamps), (tB v307.xSacks), (tL v307.xFin), (tB v307.xDone), .row true (.rSpan v307.xFirst), (tI .u32 v307.xIrs), (tI .u32 v307.xOwn), (tB v307.xStamp)], w16_8, w16_10 v306, dc, dc]
theorem s16_73_t : X cp n i16_24 (fr16_75 v306 v307) k = s16_73 cp n v306 v307 (fun v308 => k .norm (fr16_74 v306 v308)) (k (.exit 4) (fr16_75 v306 v307)) := by kernel_rfl
def fr16_76 : FF := [w16_7, dc, dc, dc, dc, dc, dc, [.hdr 15, (tL v309.xNext), .row true (.ruint8 v309.xUnread), .row false (.rPiece v309.xLate), (tL v309.xCap), (tL v309.xShift), (tL v309.xEdge), (tI .u32 v309.xRecent), (tB v309.xStamps), (tB v309.xSacks), (tL v309.xFin), (tB v309.xDone), .row true (.rSpan v309.xFirst), (tI .u32 v309.xIrs), (tI .u32 v309.xOwn), (tB v309.xStamp)], w16_8, w16_10 v306, dc, dc]
theorem l16_77_t (cp : CP) (n : Nat) : ∀ (m : Nat) (v306 : Bool) (v307 : SRecv) (k : KX R), loopN2 (X cp n i16_24) m (fr16_75 v306 v307) k = l16_77 cp n m v306 v307 (fun v309 => k (.exit 4) (fr16_76 v306 v309))
  | 0, _, _, _ => rfl
  | m + 1, v306, v307, k => (loopN2_succ (X cp n i16_24) m (fr16_75 v306 v307) k).trans ((s16_73_t cp n v306 v307 (loopT (X cp n i16_24) m k)).trans (tq (congrArg (fun q => s16_73 cp n v306 v307 q (k (.exit 4) (fr16_76 v306 v307))) (funext fun v308 => l16_77_t cp n m v306 v308 k)) (by kernel_rfl)))
def fr16_79 : FF := [w16_7, dc, dc, dc, dc, dc, dc, [.hdr 15, (tL v305.xNext), .row true (.ruint8 v305.xUnread), .row false (.rPiece v305.xLate), (tL v305.xCap), (tL v305.xShift), (tL v305.xEdge), (tI .u32 v305.xRecent), (tB v305.xStamps), (tB v305.xSacks), (tL v305.xFin), (tB v305.xDone), .row true (.rSpan v305.xFirst), (tI .u32 v305.xIrs), (tI .u32 v305.xOwn), (tB v305.xStamp)], w16_8, w16_10 v306, dc, dc]
theorem s16_78_t : X cp n i16_25 (fr16_79 v305 v306) k = s16_78 cp n v305 v306 (fun v309 => k (.exit 4) (fr16_76 v306 v309)) := tq (l16_77_t cp n n v306 v305 k) (by kernel_rfl)
theorem s16_80_t : X cp n i16_26 (fr16_71 v305 v306) k = s16_80 cp n v305 v306 (fun v309 => k (.exit 4) (fr16_76 v306 v309)) := tq (s16_78_t cp n v305 v306 k) (by kernel_rfl)
def fr16_81 : FF := [w16_7, dc, dc, dc, dc, dc, dc, [.hdr 15, (tL v310.xNext), .row true (.ruint8 v310.xUnread), .row false (.rPiece v310.xLate), (tL v310.xCap), (tL v310.xShift), (tL v310.xEdge), (tI .u32 v310.xRecent), (tB v310.xStamps), (tB v310.xSacks), (tL v310.xFin), (tB v310.xDone), .row true (.rSpan v310.xFirst), (tI .u32 v310.xIrs), (tI .u32 v310.xOwn), (tB v310.xStamp)], w16_8, w16_10 v306, dc, dc]
theorem s16_82_t : X cp n i16_27 (fr16_71 v305 v306) k = s16_82 cp n v305 v306 (fun v310 => k .norm (fr16_81 v306 v310)) := tq ((s16_80_t cp n v305 v306 (blkT 4 k)).trans (by kernel_rfl)) (by kernel_rfl)
def w16_11 : Fr := dT 6 ((.ptr 132 0) :: (tB v306) :: (dT 8 []))
def fr16_84 : FF := [w16_11 v306, dc, dc, dc, dc, dc, dc, dc, dT 4 ([.hdr 15, (tL v310.xNext), .row true (.ruint8 v310.xUnread), .row false (.rPiece v310.xLate), (tL v310.xCap), (tL v310.xShift), (tL v310.xEdge), (tI .u32 v310.xRecent), (tB v310.xStamps), (tB v310.xSacks), (tL v310.xFin), (tB v310.xDone)]), (.row true (.rSpan v310.xFirst)) :: (tI .u32 v310.xIrs) :: (tI .u32 v310.xOwn) :: (tB v310.xStamp) :: (dT 12 []), dc, dc]
theorem s16_83_t : X cp n i16_28 (fr16_81 v306 v310) k = s16_83 cp n v306 v310 (k .ret (fr16_84 v306 v310)) := by kernel_rfl
def fr16_85 : FF := [w16_11 v306, dc, dc, dc, dc, dc, dc, dc, dT 4 ([.hdr 15, (tL v311.xNext), .row true (.ruint8 v311.xUnread), .row false (.rPiece v311.xLate), (tL v311.xCap), (tL v311.xShift), (tL v311.xEdge), (tI .u32 v311.xRecent), (tB v311.xStamps), (tB v311.xSacks), (tL v311.xFin), (tB v311.xDone)]), (.row true (.rSpan v311.xFirst)) :: (tI .u32 v311.xIrs) :: (tI .u32 v311.xOwn) :: (tB v311.xStamp) :: (dT 12 []), dc, dc]
theorem s16_86_t : X cp n i16_29 (fr16_71 v305 v306) k = s16_86 cp n v305 v306 (fun v311 => k .ret (fr16_85 v306 v311)) := tq (tq (congrArg (fun q => s16_82 cp n v305 v306 q) (funext fun v310 => (s16_83_t cp n v306 v310 k).trans (show _ = s16_83 cp n v306 v310 (k .ret (fr16_85 v306 v310)) from by kernel_rfl))) ((s16_82_t cp n v305 v306 (seqT (X cp n) i16_28 k)).trans (by kernel_rfl))) (by kernel_rfl)
def fr16_87 : FF := [dT 6 ((.ptr 132 0) :: (tB v312) :: (dT 8 [])), dc, dc, dc, dc, dc, dc, dc, dT 4 ([.hdr 15, (tL v313.xNext), .row true (.ruint8 v313.xUnread), .row false (.rPiece v313.xLate), (tL v313.xCap), (tL v313.xShift), (tL v313.xEdge), (tI .u32 v313.xRecent), (tB v313.xStamps), (tB v313.xSacks), (tL v313.xFin), (tB v313.xDone)]), (.row true (.rSpan v313.xFirst)) :: (tI .u32 v313.xIrs) :: (tI .u32 v313.xOwn) :: (tB v313.xStamp) :: (dT 12 []), dc, dc]
theorem s16_88_t : X cp n i16_30 (fr16_52 p0 p1 p2 v251 v277) k = s16_88 cp n p0 p1 p2 v251 v277 (fun v312 v313 => k .ret (fr16_87 v312 v313)) := tq (tq (congrArg (fun q => s16_72 cp n p0 p1 p2 v251 v277 q) (funext fun v305 => funext fun v306 => (s16_86_t cp n v305 v306 k).trans (show _ = s16_86 cp n v305 v306 (fun v311 => k .ret (fr16_87 v306 v311)) from by kernel_rfl))) ((s16_72_t cp n p0 p1 p2 v251 v277 (seqT (X cp n) i16_29 k)).trans (by kernel_rfl))) (by kernel_rfl)
def fr16_89 : FF := [dT 6 ((.ptr 132 0) :: (tB v314) :: (dT 8 [])), dc, dc, dc, dc, dc, dc, dc, dT 4 ([.hdr 15, (tL v315.xNext), .row true (.ruint8 v315.xUnread), .row false (.rPiece v315.xLate), (tL v315.xCap), (tL v315.xShift), (tL v315.xEdge), (tI .u32 v315.xRecent), (tB v315.xStamps), (tB v315.xSacks), (tL v315.xFin), (tB v315.xDone)]), (.row true (.rSpan v315.xFirst)) :: (tI .u32 v315.xIrs) :: (tI .u32 v315.xOwn) :: (tB v315.xStamp) :: (dT 12 []), dc, dc]
theorem s16_90_t : X cp n i16_31 (fr16_49 p0 p1 p2 v251 v277) k = s16_90 cp n p0 p1 p2 v251 v277 (fun v314 v315 => k .ret (fr16_89 v314 v315)) := ch (fun q => s16_51 cp n p0 p1 p2 v251 v277 q) (fun c => X cp n c (fr16_52 p0 p1 p2 v251 v277) k) i16_30 (fun c => X cp n (.seq (.reg g16_8) (.seq (.fin (.reg g16_9) [5, 37] []) c)) (fr16_49 p0 p1 p2 v251 v277) k) (fun c => by kernel_rfl) ((s16_88_t cp n p0 p1 p2 v251 v277 k).trans (show _ = s16_88 cp n p0 p1 p2 v251 v277 (fun v312 v313 => k .ret (fr16_89 v312 v313)) from by kernel_rfl)) (by kernel_rfl) (by kernel_rfl)
def fr16_91 : FF := [dT 6 ((.ptr 132 0) :: (tB v316) :: (dT 8 [])), dc, dc, dc, dc, dc, dc, dc, dT 4 ([.hdr 15, (tL v317.xNext), .row true (.ruint8 v317.xUnread), .row false (.rPiece v317.xLate), (tL v317.xCap), (tL v317.xShift), (tL v317.xEdge), (tI .u32 v317.xRecent), (tB v317.xStamps), (tB v317.xSacks), (tL v317.xFin), (tB v317.xDone)]), (.row true (.rSpan v317.xFirst)) :: (tI .u32 v317.xIrs) :: (tI .u32 v317.xOwn) :: (tB v317.xStamp) :: (dT 12 []), dc, dc]
theorem s16_92_t : X cp n i16_32 (fr16_2 p0 p1 p2 v251) k = s16_92 cp n p0 p1 p2 v251 (fun v316 v317 => k .ret (fr16_91 v316 v317)) := tq (tq (congrArg (fun q => s16_50 cp n p0 p1 p2 v251 q) (funext fun v277 => (s16_90_t cp n p0 p1 p2 v251 v277 k).trans (show _ = s16_90 cp n p0 p1 p2 v251 v277 (fun v314 v315 => k .ret (fr16_91 v314 v315)) from by kernel_rfl))) ((s16_50_t cp n p0 p1 p2 v251 (seqT (X cp n) i16_31 k)).trans (by kernel_rfl))) (by kernel_rfl)
def fr16_93 : FF := [dT 6 ((.ptr 132 0) :: (tB v318) :: (dT 8 [])), dc, dc, dc, dc, dc, dc, dc, dT 4 ([.hdr 15, (tL v319.xNext), .row true (.ruint8 v319.xUnread), .row false (.rPiece v319.xLate), (tL v319.xCap), (tL v319.xShift), (tL v319.xEdge), (tI .u32 v319.xRecent), (tB v319.xStamps), (tB v319.xSacks), (tL v319.xFin), (tB v319.xDone)]), (.row true (.rSpan v319.xFirst)) :: (tI .u32 v319.xIrs) :: (tI .u32 v319.xOwn) :: (tB v319.xStamp) :: (dT 12 []), dc, dc]
def fr16_95 : FF := [(.agg (eRecvt p0)) :: (tL p1) :: (.row false (.ruint8 p2)) :: (dT 13 []), dc, dc, dc, dc, dc, dc, dc, dc, dc, dc, dc]
theorem s16_94_t : X cp n i16_33 (fr16_95 p0 p1 p2) k = s16_94 cp n p0 p1 p2 (fun v318 v319 => k .ret (fr16_93 v318 v319)) := ch (fun q => s16_1 cp n p0 p1 p2 q) (fun c v251 => X cp n c (fr16_2 p0 p1 p2 v251) k) i16_32 (fun c => X cp n (.seq (.fin (.reg g16_0) [0, 1, 2, 7] []) (.seq (.fin (.reg g16_1) [16, 17, 18, 19, 20, 21, 22] []) (.seq (.seq (.fin (.reg g16_2) [23, 24] []) (.fin (.cond (.s 25) (.fin (.reg g16_3) [25, 26, 27, 28, 29] []) i16_21) [25] [])) (.seq (.reg g16_4) c)))) (fr16_95 p0 p1 p2) k) (fun c => by kernel_rfl) (funext fun v251 => (s16_92_t cp n p0 p1 p2 v251 k).trans (show _ = s16_92 cp n p0 p1 p2 v251 (fun v316 v317 => k .ret (fr16_93 v316 v317)) from by kernel_rfl)) (by kernel_rfl) (by kernel_rfl)
theorem run16 (cp : CP) (n : Nat) (p0 : SRecv) (p1 : Int) (p2 : (List Int)) (k : Ret2 RW → Option R) : G16 cp (n + 1) p0 p1 p2 (fun r0 r1 => k ⟨.tup [.agg [(tL r0.xNext), .row true (.ruint8 r0.xUnread), .row false (.rPiece r0.xLate), (tL r0.xCap), (tL r0.xShift), (tL r0.xEdge), (tI .u32 r0.xRecent), (tB r0.xStamps), (tB r0.xSacks), (tL r0.xFin), (tB r0.xDone), .row true (.rSpan r0.xFirst), (tI .u32 r0.xIrs), (tI .u32 r0.xOwn), (tB r0.xStamp)], (tB r1)], [], []⟩) = run2 U cp (callP cp n) n fn16 [.agg (eRecvt p0), (tL p1), .row false (.ruint8 p2)] [] k := ((X_run (f := fn16) (av := [.agg (eRecvt p0), (tL p1), .row false (.ruint8 p2)]) (cells := []) (code := i16_33) (fr := (fr16_95 p0 p1 p2)) (k := k) (by kernel_rfl) (fun K => by kernel_rfl)).trans ((s16_94_t cp n p0 p1 p2 (finK2 fn16 k)).trans (by kernel_rfl))).symm
end
/-! tideway/recv.firsts$1 -/
section
variable (cp : CP) (n : Nat) (k : KX R)
theorem run1045 (cp : CP) (n : Nat) (p0 q0 : SSpan) (k : Ret2 RW → Option R) : G1045 cp (n + 1) p0 q0 (fun r0 r1 => k ⟨(tB r0), [(eSpan r1)], []⟩) = run2 U cp (callP cp n) n fn1045 [.agg (eSpan p0), .ptr 16 0] [(eSpan q0)] k := by kernel_rfl
end
/-! slices.IndexFunc[[]tideway/api.Span,tideway/api.Span] -/
section
variable (cp : CP) (n : Nat) (p0 : (List SSpan)) (q0 : SSpan) (v337 v338 v339 v340 v343 v344 v345 v346 v347 v348 v349 v350 v351 v352 v353 v354 v355 v356 v357 v358 v359 v360 v361 v362 v363 v364 v365 v366 v367 v368 : Int) (k : KX R)
def w1044_0 : Fr := dT 3 ((.hdr 2) :: ((eSpan q0) ++ (dT 10 [])))
def fr1044_2 : FF := [(.row false (.rSpan p0)) :: (.clo 37 [(19, 0)]) :: (dT 14 []), w1044_0 q0]
def fr1044_4 : FF := [(.row false (.rSpan p0)) :: (.clo 37 [(19, 0)]) :: (dT 5 ((tL v337) :: (tL 0) :: (dT 7 []))), w1044_0 q0]
def fr1044_6 : FF := [(.row false (.rSpan p0)) :: (.clo 37 [(19, 0)]) :: (dT 5 ((tL v337) :: (tL v343) :: (dT 7 []))), dT 3 ((.hdr 2) :: (tL v344) :: (tL v345) :: (dT 10 []))]
def fr1044_7 : FF := [dT 4 ((tL v338) :: (dT 11 [])), dT 3 ((.hdr 2) :: (tL v346) :: (tL v347) :: (dT 10 []))]
def w1044_1 : Fr := dT 3 ((.hdr 2) :: (tL v339) :: (tL v340) :: (dT 10 []))
def fr1044_8 : FF := [dc, w1044_1 v339 v340]
def fr1044_9 : FF := [(.row false (.rSpan p0)) :: (.clo 37 [(19, 0)]) :: (dT 5 ((tL v337) :: (tL v338) :: (dT 7 []))), w1044_1 v339 v340]
theorem s1044_5_t : X cp n i1044_0 (fr1044_9 p0 v337 v338 v339 v340) k = s1044_5 cp n p0 v337 v338 v339 v340 (fun v343 v344 v345 => k .norm (fr1044_6 p0 v337 v343 v344 v345)) (fun v346 v347 => k .ret (fr1044_7 v338 v346 v347)) (k (.exit 0) (fr1044_8 v339 v340)) := by kernel_rfl
def fr1044_10 : FF := [dT 4 ((tL v348) :: (dT 11 [])), dT 3 ((.hdr 2) :: (tL v349) :: (tL v350) :: (dT 10 []))]
def fr1044_11 : FF := [dc, dT 3 ((.hdr 2) :: (tL v351) :: (tL v352) :: (dT 10 []))]
theorem l1044_12_t (cp : CP) (n : Nat) : ∀ (m : Nat) (p0 : (List SSpan)) (v337 v338 v339 v340 : Int) (k : KX R), loopN2 (X cp n i1044_0) m (fr1044_9 p0 v337 v338 v339 v340) k = l1044_12 cp n m p0 v337 v338 v339 v340 (fun v348 v349 v350 => k .ret (fr1044_10 v348 v349 v350)) (fun v351 v352 => k (.exit 0) (fr1044_11 v351 v352))
  | 0, _, _, _, _, _, _ => rfl
  | m + 1, p0, v337, v338, v339, v340, k => (loopN2_succ (X cp n i1044_0) m (fr1044_9 p0 v337 v338 v339 v340) k).trans ((s1044_5_t cp n p0 v337 v338 v339 v340 (loopT (X cp n i1044_0) m k)).trans (tq (congrArg (fun q => s1044_5 cp n p0 v337 v338 v339 v340 q (fun v346 v347 => k .ret (fr1044_10 v338 v346 v347)) (k (.exit 0) (fr1044_11 v339 v340))) (funext fun v343 => funext fun v344 => funext fun v345 => l1044_12_t cp n m p0 v337 v343 v344 v345 k)) (by kernel_rfl)))
theorem s1044_13_t : X cp n i1044_1 (fr1044_4 p0 q0 v337) k = s1044_13 cp n p0 q0 v337 (fun v348 v349 v350 => k .ret (fr1044_10 v348 v349 v350)) (fun v351 v352 => k (.exit 0) (fr1044_11 v351 v352)) := tq (l1044_12_t cp n n p0 v337 0 q0.xFrom q0.xTo k) (by kernel_rfl)
def fr1044_14 : FF := [dc, dT 3 ((.hdr 2) :: (tL v353) :: (tL v354) :: (dT 10 []))]
def fr1044_15 : FF := [dT 4 ((tL v355) :: (dT 11 [])), dT 3 ((.hdr 2) :: (tL v356) :: (tL v357) :: (dT 10 []))]
theorem s1044_16_t : X cp n i1044_2 (fr1044_4 p0 q0 v337) k = s1044_16 cp n p0 q0 v337 (fun v353 v354 => k .norm (fr1044_14 v353 v354)) (fun v355 v356 v357 => k .ret (fr1044_15 v355 v356 v357)) := tq ((s1044_13_t cp n p0 q0 v337 (blkT 0 k)).trans (by kernel_rfl)) (by kernel_rfl)
def w1044_2 : Fr := dT 3 ((.hdr 2) :: (tL v358) :: (tL v359) :: (dT 10 []))
def fr1044_17 : FF := [dc, w1044_2 v358 v359]
def fr1044_18 : FF := [dT 4 ((tL v360) :: (dT 11 [])), dT 3 ((.hdr 2) :: (tL v361) :: (tL v362) :: (dT 10 []))]
theorem s1044_19_t : X cp n i1044_3 (fr1044_2 p0 q0) k = s1044_19 cp n p0 q0 (fun v358 v359 => k .norm (fr1044_17 v358 v359)) (fun v360 v361 v362 => k .ret (fr1044_18 v360 v361 v362)) := ch (fun q => s1044_3 cp n p0 q0 q) (fun c v337 => X cp n c (fr1044_4 p0 q0 v337) k) i1044_2 (fun c => X cp n (.seq (.fin (.reg g1044_1) [6] []) c) (fr1044_2 p0 q0) k) (fun c => by kernel_rfl) (funext fun v337 => (s1044_16_t cp n p0 q0 v337 k).trans (show _ = s1044_16 cp n p0 q0 v337 (fun v353 v354 => k .norm (fr1044_17 v353 v354)) (fun v355 v356 v357 => k .ret (fr1044_18 v355 v356 v357)) from by kernel_rfl)) (by kernel_rfl) (by kernel_rfl)
def fr1044_21 : FF := [dT 4 ((tL (-1)) :: (dT 11 [])), w1044_2 v358 v359]
theorem s1044_20_t : X cp n i1044_4 (fr1044_17 v358 v359) k = s1044_20 cp n v358 v359 (k .ret (fr1044_21 v358 v359)) := by kernel_rfl
def fr1044_22 : FF := [dT 4 ((tL v363) :: (dT 11 [])), dT 3 ((.hdr 2) :: (tL v364) :: (tL v365) :: (dT 10 []))]
theorem s1044_23_t : X cp n i1044_5 (fr1044_2 p0 q0) k = s1044_23 cp n p0 q0 (fun v363 v364 v365 => k .ret (fr1044_22 v363 v364 v365)) := tq (tq (congrArg (fun q => s1044_19 cp n p0 q0 q (fun v360 v361 v362 => k .ret (fr1044_22 v360 v361 v362))) (funext fun v358 => funext fun v359 => (s1044_20_t cp n v358 v359 k).trans (show _ = s1044_20 cp n v358 v359 (k .ret (fr1044_22 (-1) v358 v359)) from by kernel_rfl))) ((s1044_19_t cp n p0 q0 (seqT (X cp n) i1044_4 k)).trans (by kernel_rfl))) (by kernel_rfl)
def fr1044_24 : FF := [dT 4 ((tL v366) :: (dT 11 [])), dT 3 ((.hdr 2) :: (tL v367) :: (tL v368) :: (dT 10 []))]
theorem s1044_25_t : X cp n i1044_6 (fr1044_2 p0 q0) k = s1044_25 cp n p0 q0 (fun v366 v367 v368 => k .ret (fr1044_24 v366 v367 v368)) := ch (fun q => s1044_1 cp n p0 q0 q) (fun c => X cp n c (fr1044_2 p0 q0) k) i1044_5 (fun c => X cp n (.seq (.fin (.reg g1044_0) [4] []) c) (fr1044_2 p0 q0) k) (fun c => by kernel_rfl) ((s1044_23_t cp n p0 q0 k).trans (show _ = s1044_23 cp n p0 q0 (fun v363 v364 v365 => k .ret (fr1044_24 v363 v364 v365)) from by kernel_rfl)) (by kernel_rfl) (by kernel_rfl)
theorem run1044 (cp : CP) (n : Nat) (p0 : (List SSpan)) (q0 : SSpan) (k : Ret2 RW → Option R) : G1044 cp (n + 1) p0 q0 (fun r0 r1 => k ⟨(tL r0), [(eSpan r1)], []⟩) = run2 U cp (callP cp n) n fn1044 [.row false (.rSpan p0), .clo 37 [(19, 0)]] [(eSpan q0)] k := ((X_run (f := fn1044) (av := [.row false (.rSpan p0), .clo 37 [(19, 0)]]) (cells := [(eSpan q0)]) (code := i1044_6) (fr := (fr1044_2 p0 q0)) (k := k) (by kernel_rfl) (fun K => by kernel_rfl)).trans ((s1044_25_t cp n p0 q0 (finK2 fn1044 k)).trans (by kernel_rfl))).symm
end
/-! tideway/recv.firsts -/
section
variable (cp : CP) (n : Nat) (p0 : SRecv) (p1 : Int) (p2 : (List Int)) (v328 : (List SSpan)) (v329 v330 v331 : Int) (v332 v333 v334 v335 : (List SSpan)) (v336 : Int) (v337 : (List SSpan)) (v338 : Int) (v342 : (List SSpan)) (v343 : Int) (v344 v345 v346 v347 v348 v349 v350 : (List SSpan)) (k : KX R)
def fr17_2 : FF := [dT 1 ((tL p1) :: (.row false (.ruint8 p2)) :: (dT 4 ((.row false (.rSpan v328)) :: (.row false (.rSpan p0.xFirst)) :: (dT 7 [])))), dc, dc, dc, dc, dc, dc, dc]
def fr17_4 : FF := [dT 1 ((tL p1) :: (.row false (.ruint8 p2)) :: (dT 4 ((.row false (.rSpan v328)) :: (.row false (.rSpan p0.xFirst)) :: (tL v329) :: (dT 6 [])))), dc, dc, dc, dc, dc, dc, dc]
def fr17_6 : FF := [dT 1 ((tL p1) :: (.row false (.ruint8 p2)) :: (dT 4 ((.row false (.rSpan v328)) :: (.row false (.rSpan p0.xFirst)) :: (tL v331) :: (dT 6 [])))), dc, dc, dc, dc, dc, dc, dc]
def fr17_7 : FF := [dT 7 ((.row false (.rSpan v328)) :: (.row false (.rSpan v332)) :: (dT 7 [])), dc, dc, dc, dc, dc, dc, dc]
def fr17_8 : FF := [dT 1 ((tL p1) :: (.row false (.ruint8 p2)) :: (dT 4 ((.row false (.rSpan v328)) :: (.row false (.rSpan p0.xFirst)) :: (tL v330) :: (dT 6 [])))), dc, dc, dc, dc, dc, dc, dc]
theorem s17_5_t : X cp n i17_0 (fr17_8 p0 p1 p2 v328 v330) k = s17_5 cp n p0 p1 p2 v328 v330 (fun v331 => k .norm (fr17_6 p0 p1 p2 v328 v331)) (fun v332 => k (.exit 0) (fr17_7 v328 v332)) := by kernel_rfl
def fr17_9 : FF := [dT 7 ((.row false (.rSpan v328)) :: (.row false (.rSpan v333)) :: (dT 7 [])), dc, dc, dc, dc, dc, dc, dc]
theorem l17_10_t (cp : CP) (n : Nat) : ∀ (m : Nat) (p0 : SRecv) (p1 : Int) (p2 : (List Int)) (v328 : (List SSpan)) (v330 : Int) (k : KX R), loopN2 (X cp n i17_0) m (fr17_8 p0 p1 p2 v328 v330) k = l17_10 cp n m p0 p1 p2 v328 v330 (fun v333 => k (.exit 0) (fr17_9 v328 v333))
  | 0, _, _, _, _, _, _ => rfl
  | m + 1, p0, p1, p2, v328, v330, k => (loopN2_succ (X cp n i17_0) m (fr17_8 p0 p1 p2 v328 v330) k).trans ((s17_5_t cp n p0 p1 p2 v328 v330 (loopT (X cp n i17_0) m k)).trans (tq (congrArg (fun q => s17_5 cp n p0 p1 p2 v328 v330 q (fun v332 => k (.exit 0) (fr17_9 v328 v332))) (funext fun v331 => l17_10_t cp n m p0 p1 p2 v328 v331 k)) (by kernel_rfl)))
theorem s17_11_t : X cp n i17_1 (fr17_4 p0 p1 p2 v328 v329) k = s17_11 cp n p0 p1 p2 v328 v329 (fun v333 => k (.exit 0) (fr17_9 v328 v333)) := tq (l17_10_t cp n n p0 p1 p2 v328 v329 k) (by kernel_rfl)
def fr17_12 : FF := [dT 7 ((.row false (.rSpan v328)) :: (.row false (.rSpan v334)) :: (dT 7 [])), dc, dc, dc, dc, dc, dc, dc]
theorem s17_13_t : X cp n i17_2 (fr17_4 p0 p1 p2 v328 v329) k = s17_13 cp n p0 p1 p2 v328 v329 (fun v334 => k .norm (fr17_12 v328 v334)) := tq ((s17_11_t cp n p0 p1 p2 v328 v329 (blkT 0 k)).trans (by kernel_rfl)) (by kernel_rfl)
def fr17_14 : FF := [dT 7 ((.row false (.rSpan v328)) :: (.row false (.rSpan v335)) :: (dT 7 [])), dc, dc, dc, dc, dc, dc, dc]
theorem s17_15_t : X cp n i17_3 (fr17_2 p0 p1 p2 v328) k = s17_15 cp n p0 p1 p2 v328 (fun v335 => k .norm (fr17_14 v328 v335)) := ch (fun q => s17_3 cp n p0 p1 p2 v328 q) (fun c v329 => X cp n c (fr17_4 p0 p1 p2 v328 v329) k) i17_2 (fun c => X cp n (.seq (.fin (.reg g17_3) [19, 20, 21] []) c) (fr17_2 p0 p1 p2 v328) k) (fun c => by kernel_rfl) (funext fun v329 => (s17_13_t cp n p0 p1 p2 v328 v329 k).trans (show _ = s17_13 cp n p0 p1 p2 v328 v329 (fun v334 => k .norm (fr17_14 v328 v334)) from by kernel_rfl)) (by kernel_rfl) (by kernel_rfl)
def fr17_17 : FF := [dT 7 ((.row false (.rSpan v328)) :: (.row false (.rSpan v335)) :: (dT 1 ((.row true (.rSpan [])) :: (dT 5 [])))), dc, dc, dc, dc, dc, dc, dc]
def fr17_19 : FF := [dT 7 ((.row false (.rSpan v328)) :: (dT 2 ((.row true (.rSpan [])) :: (dT 5 [])))), dc, dc, dT 9 ((.row false (.rSpan v335)) :: (tL v336) :: (tL 0) :: (dT 4 [])), dc, dc, dc, dc]
def fr17_21 : FF := [dT 7 ((.row false (.rSpan v328)) :: (dT 2 ((.row true (.rSpan v342)) :: (dT 5 [])))), dc, dc, dT 9 ((.row false (.rSpan v335)) :: (tL v336) :: (tL v343) :: (dT 4 [])), dc, dc, dc, dc]
def fr17_22 : FF := [dT 10 ((.row true (.rSpan v337)) :: (dT 5 [])), dc, dc, dc, dc, dc, dc, dc]
def fr17_23 : FF := [dT 7 ((.row false (.rSpan v328)) :: (dT 2 ((.row true (.rSpan v337)) :: (dT 5 [])))), dc, dc, dT 9 ((.row false (.rSpan v335)) :: (tL v336) :: (tL v338) :: (dT 4 [])), dc, dc, dc, dc]
theorem s17_20_t : X cp n i17_4 (fr17_23 v328 v335 v336 v337 v338) k = s17_20 cp n v328 v335 v336 v337 v338 (fun v342 v343 => k .norm (fr17_21 v328 v335 v336 v342 v343)) (k (.exit 2) (fr17_22 v337)) := by kernel_rfl
def fr17_24 : FF := [dT 10 ((.row true (.rSpan v344)) :: (dT 5 [])), dc, dc, dc, dc, dc, dc, dc]
theorem l17_25_t (cp : CP) (n : Nat) : ∀ (m : Nat) (v328 v335 : (List SSpan)) (v336 : Int) (v337 : (List SSpan)) (v338 : Int) (k : KX R), loopN2 (X cp n i17_4) m (fr17_23 v328 v335 v336 v337 v338) k = l17_25 cp n m v328 v335 v336 v337 v338 (fun v344 => k (.exit 2) (fr17_24 v344))
  | 0, _, _, _, _, _, _ => rfl
  | m + 1, v328, v335, v336, v337, v338, k => (loopN2_succ (X cp n i17_4) m (fr17_23 v328 v335 v336 v337 v338) k).trans ((s17_20_t cp n v328 v335 v336 v337 v338 (loopT (X cp n i17_4) m k)).trans (tq (congrArg (fun q => s17_20 cp n v328 v335 v336 v337 v338 q (k (.exit 2) (fr17_24 v337))) (funext fun v342 => funext fun v343 => l17_25_t cp n m v328 v335 v336 v342 v343 k)) (by kernel_rfl)))
theorem s17_26_t : X cp n i17_5 (fr17_19 v328 v335 v336) k = s17_26 cp n v328 v335 v336 (fun v344 => k (.exit 2) (fr17_24 v344)) := tq (l17_25_t cp n n v328 v335 v336 [] 0 k) (by kernel_rfl)
def fr17_27 : FF := [dT 10 ((.row true (.rSpan v345)) :: (dT 5 [])), dc, dc, dc, dc, dc, dc, dc]
theorem s17_28_t : X cp n i17_6 (fr17_19 v328 v335 v336) k = s17_28 cp n v328 v335 v336 (fun v345 => k .norm (fr17_27 v345)) := tq ((s17_26_t cp n v328 v335 v336 (blkT 2 k)).trans (by kernel_rfl)) (by kernel_rfl)
def fr17_29 : FF := [dT 10 ((.row true (.rSpan v346)) :: (dT 5 [])), dc, dc, dc, dc, dc, dc, dc]
theorem s17_30_t : X cp n i17_7 (fr17_17 v328 v335) k = s17_30 cp n v328 v335 (fun v346 => k .norm (fr17_29 v346)) := ch (fun q => s17_18 cp n v328 v335 q) (fun c v336 => X cp n c (fr17_19 v328 v335 v336) k) i17_6 (fun c => X cp n (.seq (.fin (.reg g17_9) [8] []) c) (fr17_17 v328 v335) k) (fun c => by kernel_rfl) (funext fun v336 => (s17_28_t cp n v328 v335 v336 k).trans (show _ = s17_28 cp n v328 v335 v336 (fun v345 => k .norm (fr17_29 v345)) from by kernel_rfl)) (by kernel_rfl) (by kernel_rfl)
def fr17_32 : FF := [dT 6 ((.row true (.rSpan v346)) :: (dT 9 [])), dc, dc, dc, dc, dc, dc, dc]
theorem s17_31_t : X cp n i17_8 (fr17_29 v346) k = s17_31 cp n v346 (k .ret (fr17_32 v346)) := by kernel_rfl
def fr17_33 : FF := [dT 6 ((.row true (.rSpan v347)) :: (dT 9 [])), dc, dc, dc, dc, dc, dc, dc]
theorem s17_34_t : X cp n i17_9 (fr17_17 v328 v335) k = s17_34 cp n v328 v335 (fun v347 => k .ret (fr17_33 v347)) := tq (tq (congrArg (fun q => s17_30 cp n v328 v335 q) (funext fun v346 => (s17_31_t cp n v346 k).trans (show _ = s17_31 cp n v346 (k .ret (fr17_33 v346)) from by kernel_rfl))) ((s17_30_t cp n v328 v335 (seqT (X cp n) i17_8 k)).trans (by kernel_rfl))) (by kernel_rfl)
def fr17_35 : FF := [dT 6 ((.row true (.rSpan v348)) :: (dT 9 [])), dc, dc, dc, dc, dc, dc, dc]
theorem s17_36_t : X cp n i17_10 (fr17_14 v328 v335) k = s17_36 cp n v328 v335 (fun v348 => k .ret (fr17_35 v348)) := ch (fun q => s17_16 cp n v328 v335 q) (fun c => X cp n c (fr17_17 v328 v335) k) i17_9 (fun c => X cp n (.seq (.reg g17_8) c) (fr17_14 v328 v335) k) (fun c => by kernel_rfl) ((s17_34_t cp n v328 v335 k).trans (show _ = s17_34 cp n v328 v335 (fun v347 => k .ret (fr17_35 v347)) from by kernel_rfl)) (by kernel_rfl) (by kernel_rfl)
def fr17_37 : FF := [dT 6 ((.row true (.rSpan v349)) :: (dT 9 [])), dc, dc, dc, dc, dc, dc, dc]
theorem s17_38_t : X cp n i17_11 (fr17_2 p0 p1 p2 v328) k = s17_38 cp n p0 p1 p2 v328 (fun v349 => k .ret (fr17_37 v349)) := tq (tq (congrArg (fun q => s17_15 cp n p0 p1 p2 v328 q) (funext fun v335 => (s17_36_t cp n v328 v335 k).trans (show _ = s17_36 cp n v328 v335 (fun v348 => k .ret (fr17_37 v348)) from by kernel_rfl))) ((s17_15_t cp n p0 p1 p2 v328 (seqT (X cp n) i17_10 k)).trans (by kernel_rfl))) (by kernel_rfl)
def fr17_39 : FF := [dT 6 ((.row true (.rSpan v350)) :: (dT 9 [])), dc, dc, dc, dc, dc, dc, dc]
def fr17_41 : FF := [(.agg (eRecv p0)) :: (tL p1) :: (.row false (.ruint8 p2)) :: (dT 13 []), dc, dc, dc, dc, dc, dc, dc]
theorem s17_40_t : X cp n i17_12 (fr17_41 p0 p1 p2) k = s17_40 cp n p0 p1 p2 (fun v350 => k .ret (fr17_39 v350)) := ch (fun q => s17_1 cp n p0 p1 p2 q) (fun c v328 => X cp n c (fr17_2 p0 p1 p2 v328) k) i17_11 (fun c => X cp n (.seq (.fin (.reg g17_0) [0, 6] []) (.seq (.fin (.reg g17_1) [14, 15, 16] [(105, 15)]) (.seq (.fin (.reg g17_2) [3, 17, 18] [(86, 15)]) c))) (fr17_41 p0 p1 p2) k) (fun c => by kernel_rfl) (funext fun v328 => (s17_38_t cp n p0 p1 p2 v328 k).trans (show _ = s17_38 cp n p0 p1 p2 v328 (fun v349 => k .ret (fr17_39 v349)) from by kernel_rfl)) (by kernel_rfl) (by kernel_rfl)
theorem run17 (cp : CP) (n : Nat) (p0 : SRecv) (p1 : Int) (p2 : (List Int)) (k : Ret2 RW → Option R) : G17 cp (n + 1) p0 p1 p2 (fun r0 => k ⟨.row true (.rSpan r0), [], []⟩) = run2 U cp (callP cp n) n fn17 [.agg (eRecv p0), (tL p1), .row false (.ruint8 p2)] [] k := ((X_run (f := fn17) (av := [.agg (eRecv p0), (tL p1), .row false (.ruint8 p2)]) (cells := []) (code := i17_12) (fr := (fr17_41 p0 p1 p2)) (k := k) (by kernel_rfl) (fun K => by kernel_rfl)).trans ((s17_40_t cp n p0 p1 p2 (finK2 fn17 k)).trans (by kernel_rfl))).symm
end
/-! tideway/recv.Input -/
section
variable (cp : CP) (n : Nat) (p0 : SRecv) (p1 : SSegment) (v104 : Int) (v105 : SRecv) (v106 : Int) (v107 v111 : SRecv) (v112 : SSegment) (v113 : Int) (v114 v126 : Bool) (v127 : SRecv) (v130 : (List SSpan)) (v132 : (List SBlock)) (v135 : SRecv) (v136 : SSegment) (v137 : SRecv) (v138 : SSegment) (v139 : SRecv) (v140 : SSegment) (v141 : SRecv) (v142 : SSegment) (v143 : SRecv) (v144 : SSegment) (v145 : SRecv) (v146 : SSegment) (v147 : Bool) (v148 : Int) (v149 : SRecv) (v150 : SSegment) (k : KX R)
def w6_0 : Fr := dT 2 ((.ptr 140 0) :: (.ptr 156 0) :: (.ptr 172 0) :: (.ptr 188 0) :: (dT 3 ((tL v104) :: (dT 6 []))))
def w6_1 : Fr := sl 3 12 (eSegment p1) ++ [.hdr 15, (tL 0), .row false (.ruint8 []), .row false (.rPiece [])]
def w6_2 : Fr := [(tL 0), (tL 0), (tL 0), (tI .u32 0), (tB false), (tB false), (tL 0), (tB false), .row false (.rSpan []), (tI .u32 0), (tI .u32 0), (tB false), .hdr 15, (tL 0), (tL 0), (tI .u32 0)]
def w6_3 : Fr := (tI .u32 0) :: (tL 0) :: (tL 0) :: (tL 0) :: (tL 0) :: (tL 0) :: (tB false) :: (tB false) :: (tI .u32 0) :: (tI .u32 0) :: (.row false (.rBlock [])) :: (.row false (.ruint8 [])) :: (dT 4 [])
def fr6_2 : FF := [w6_0 v104, dc, dc, dc, dc, dc, dc, dc, dT 12 ((.hdr 15) :: (sl 0 3 (eRecvt v105))), sl 3 12 (eRecvt v105) ++ ((.hdr 15) :: (sl 0 3 (eSegment p1))), w6_1 p1, w6_2, w6_3, dc, dc, dc]
def fr6_3 : FF := [dT 4 ((.ptr 172 0) :: (.ptr 188 0) :: (tB false) :: (tL v106) :: (dT 8 [])), dc, dc, dc, dc, dc, dc, dc, dc, dc, dT 12 ((.hdr 15) :: (sl 0 3 (eRecv v107))), sl 3 12 (eRecv v107) ++ [.hdr 15, (tL 0), (tL 0), (tI .u32 0)], w6_3, dc, dc, dc]
def w6_4 : Fr := dT 4 ((.ptr 172 0) :: (.ptr 188 0) :: (tB true) :: (tL 0) :: (dT 8 []))
def fr6_5 : FF := [w6_4, dc, dc, dc, dc, dc, dc, dc, dc, dc, dT 12 ((.hdr 15) :: (sl 0 3 (eRecv v111))), sl 3 12 (eRecv v111) ++ ((.hdr 15) :: (sl 0 3 (eSegment v112))), sl 3 12 (eSegment v112) ++ (dT 4 []), dc, dc, dc]
def fr6_7 : FF := [w6_0 v104, dc, dc, dc, dc, dc, dc, dc, dT 12 ([.hdr 15, (tL v105.xNext), .row true (.ruint8 v105.xUnread), .row true (.rPiece v105.xLate)]), (tL v105.xCap) :: (tL v105.xShift) :: (tL v105.xEdge) :: (tI .u32 v113) :: (tB v105.xStamps) :: (tB v105.xSacks) :: (tL v105.xFin) :: (tB v105.xDone) :: (.row true (.rSpan v105.xFirst)) :: (tI .u32 v105.xIrs) :: (tI .u32 v105.xOwn) :: (tB v114) :: (.hdr 15) :: (sl 0 3 (eSegment p1)), w6_1 p1, w6_2, w6_3, dc, dc, dc]
def w6_5 : Fr := dT 12 ([.hdr 15, (tL v127.xNext), .row true (.ruint8 v127.xUnread), .row false (.rPiece v127.xLate)])
def fr6_9 : FF := [dT 2 ((.ptr 140 0) :: (.ptr 156 0) :: (.ptr 172 0) :: (.ptr 188 0) :: (dT 3 ((tL v104) :: (dT 2 ((tB v126) :: (dT 3 [])))))), dc, dc, dc, dc, dc, dc, dc, w6_5 v127, (tL v127.xCap) :: (tL v127.xShift) :: (tL v127.xEdge) :: (tI .u32 v127.xRecent) :: (tB v127.xStamps) :: (tB v127.xSacks) :: (tL v127.xFin) :: (tB v127.xDone) :: (.row true (.rSpan v127.xFirst)) :: (tI .u32 v127.xIrs) :: (tI .u32 v127.xOwn) :: (tB v127.xStamp) :: (.hdr 15) :: (sl 0 3 (eSegment p1)), w6_1 p1, w6_2, w6_3, dc, dc, dc]
def fr6_11 : FF := [dT 2 ((.ptr 140 0) :: (.ptr 156 0) :: (.ptr 172 0) :: (.ptr 188 0) :: (dT 3 ((tL v104) :: (dT 2 ((tB v126) :: (.row true (.rBlock [])) :: (dT 2 [])))))), dc, dc, dc, dc, dc, dc, dc, w6_5 v127, (tL v127.xCap) :: (tL v127.xShift) :: (tL v127.xEdge) :: (tI .u32 v127.xRecent) :: (tB v127.xStamps) :: (tB v127.xSacks) :: (tL v127.xFin) :: (tB v127.xDone) :: (.row true (.rSpan v130)) :: (tI .u32 v127.xIrs) :: (tI .u32 v127.xOwn) :: (tB v127.xStamp) :: (.hdr 15) :: (sl 0 3 (eSegment p1)), w6_1 p1, w6_2, w6_3, dc, dc, dc]
def fr6_13 : FF := [dT 2 ((.ptr 140 0) :: (dT 1 ((.ptr 172 0) :: (.ptr 188 0) :: (dT 7 ((.row true (.rBlock v132)) :: (dT 2 [])))))), dc, dc, dc, dc, dc, dc, dc, w6_5 v127, (tL v127.xCap) :: (tL v127.xShift) :: (tL v127.xEdge) :: (tI .u32 v127.xRecent) :: (tB v127.xStamps) :: (tB v127.xSacks) :: (tL v127.xFin) :: (tB v127.xDone) :: (.row true (.rSpan v130)) :: (tI .u32 v127.xIrs) :: (tI .u32 v127.xOwn) :: (tB v127.xStamp) :: (dT 4 []), dT 12 ([.hdr 15, (tL 0), .row false (.ruint8 []), .row false (.rPiece [])]), w6_2, w6_3, dc, dc, dc]
def fr6_15 : FF := [w6_4, dc, dc, dc, dc, dc, dc, dc, dc, dc, dT 12 ((.hdr 15) :: (sl 0 3 (eRecv v135))), sl 3 12 (eRecv v135) ++ ((.hdr 15) :: (sl 0 3 (eSegment v136))), sl 3 12 (eSegment v136) ++ (dT 4 []), dc, dc, dc]
theorem s6_14_t : X cp n i6_0 (fr6_13 v127 v130 v132) k = s6_14 cp n v127 v130 v132 (fun v135 v136 => k .ret (fr6_15 v135 v136)) := by kernel_rfl
def fr6_16 : FF := [w6_4, dc, dc, dc, dc, dc, dc, dc, dc, dc, dT 12 ((.hdr 15) :: (sl 0 3 (eRecv v137))), sl 3 12 (eRecv v137) ++ ((.hdr 15) :: (sl 0 3 (eSegment v138))), sl 3 12 (eSegment v138) ++ (dT 4 []), dc, dc, dc]
theorem s6_17_t : X cp n i6_1 (fr6_11 p1 v104 v126 v127 v130) k = s6_17 cp n p1 v104 v126 v127 v130 (fun v137 v138 => k .ret (fr6_16 v137 v138)) := ch (fun q => s6_12 cp n p1 v104 v126 v127 v130 q) (fun c v132 => X cp n c (fr6_13 v127 v130 v132) k) i6_0 (fun c => X cp n (.seq (.seq (.fin (.reg g6_19) [9, 12, 106, 107, 108, 109, 110, 111, 112, 113, 114, 115, 116, 117, 118, 119, 120] []) (.fin (.cond (.s 121) (.fin (.reg g6_20) [3, 121, 122, 123, 124, 125, 126, 127, 128, 129, 130, 131] [(156, 15)]) (.skip)) [3, 121] [(156, 15)])) c) (fr6_11 p1 v104 v126 v127 v130) k) (fun c => by kernel_rfl) (funext fun v132 => (s6_14_t cp n v127 v130 v132 k).trans (show _ = s6_14 cp n v127 v130 v132 (fun v135 v136 => k .ret (fr6_16 v135 v136)) from by kernel_rfl)) (by kernel_rfl) (by kernel_rfl)
def fr6_18 : FF := [w6_4, dc, dc, dc, dc, dc, dc, dc, dc, dc, dT 12 ((.hdr 15) :: (sl 0 3 (eRecv v139))), sl 3 12 (eRecv v139) ++ ((.hdr 15) :: (sl 0 3 (eSegment v140))), sl 3 12 (eSegment v140) ++ (dT 4 []), dc, dc, dc]
theorem s6_19_t : X cp n i6_2 (fr6_9 p1 v104 v126 v127) k = s6_19 cp n p1 v104 v126 v127 (fun v139 v140 => k .ret (fr6_18 v139 v140)) := ch (fun q => s6_10 cp n p1 v104 v126 v127 q) (fun c v130 => X cp n c (fr6_11 p1 v104 v126 v127 v130) k) i6_1 (fun c => X cp n (.seq (.fin (.reg g6_17) [100, 101, 102, 103, 104, 105] []) (.seq (.reg g6_18) c)) (fr6_9 p1 v104 v126 v127) k) (fun c => by kernel_rfl) (funext fun v130 => (s6_17_t cp n p1 v104 v126 v127 v130 k).trans (show _ = s6_17 cp n p1 v104 v126 v127 v130 (fun v137 v138 => k .ret (fr6_18 v137 v138)) from by kernel_rfl)) (by kernel_rfl) (by kernel_rfl)
def fr6_20 : FF := [w6_4, dc, dc, dc, dc, dc, dc, dc, dc, dc, dT 12 ((.hdr 15) :: (sl 0 3 (eRecv v141))), sl 3 12 (eRecv v141) ++ ((.hdr 15) :: (sl 0 3 (eSegment v142))), sl 3 12 (eSegment v142) ++ (dT 4 []), dc, dc, dc]
theorem s6_21_t : X cp n i6_3 (fr6_7 p1 v104 v105 v113 v114) k = s6_21 cp n p1 v104 v105 v113 v114 (fun v141 v142 => k .ret (fr6_20 v141 v142)) := ch (fun q => s6_8 cp n p1 v104 v105 v113 v114 q) (fun c v126 v127 => X cp n c (fr6_9 p1 v104 v126 v127) k) i6_2 (fun c => X cp n (.seq (.seq (.fin (.reg g6_13) [74, 75, 76] []) (.fin (.cond (.s 77) (.fin (.reg g6_14) [77, 78, 79, 80, 81, 82, 83, 84, 85] []) (.skip)) [77] [])) (.seq (.fin (.reg g6_15) [86, 87, 88, 89, 90, 91, 92, 93] []) (.seq (.fin (.reg g6_16) [94, 95, 96, 97, 98, 99] []) c))) (fr6_7 p1 v104 v105 v113 v114) k) (fun c => by kernel_rfl) (funext fun v126 => funext fun v127 => (s6_19_t cp n p1 v104 v126 v127 k).trans (show _ = s6_19 cp n p1 v104 v126 v127 (fun v139 v140 => k .ret (fr6_20 v139 v140)) from by kernel_rfl)) (by kernel_rfl) (by kernel_rfl)
def fr6_22 : FF := [w6_4, dc, dc, dc, dc, dc, dc, dc, dc, dc, dT 12 ((.hdr 15) :: (sl 0 3 (eRecv v143))), sl 3 12 (eRecv v143) ++ ((.hdr 15) :: (sl 0 3 (eSegment v144))), sl 3 12 (eSegment v144) ++ (dT 4 []), dc, dc, dc]
theorem s6_23_t : X cp n i6_4 (fr6_2 p1 v104 v105) k = s6_23 cp n p1 v104 v105 (fun v143 v144 => k .ret (fr6_22 v143 v144)) := ch (fun q => s6_6 cp n p1 v104 v105 q) (fun c v113 v114 => X cp n c (fr6_7 p1 v104 v105 v113 v114) k) i6_3 (fun c => X cp n (.seq (.seq (.fin (.reg g6_11) [62, 63, 64, 65, 66, 67, 68] []) (.fin (.cond (.s 69) (.fin (.reg g6_12) [69, 70, 71, 72, 73] []) (.skip)) [69] [])) c) (fr6_2 p1 v104 v105) k) (fun c => by kernel_rfl) (funext fun v113 => funext fun v114 => (s6_21_t cp n p1 v104 v105 v113 v114 k).trans (show _ = s6_21 cp n p1 v104 v105 v113 v114 (fun v141 v142 => k .ret (fr6_22 v141 v142)) from by kernel_rfl)) (by kernel_rfl) (by kernel_rfl)
def fr6_24 : FF := [w6_4, dc, dc, dc, dc, dc, dc, dc, dc, dc, dT 12 ((.hdr 15) :: (sl 0 3 (eRecv v145))), sl 3 12 (eRecv v145) ++ ((.hdr 15) :: (sl 0 3 (eSegment v146))), sl 3 12 (eSegment v146) ++ (dT 4 []), dc, dc, dc]
theorem s6_25_t : X cp n i6_5 (fr6_2 p1 v104 v105) k = s6_25 cp n p1 v104 v105 (fun v145 v146 => k .ret (fr6_24 v145 v146)) := ch (fun q => s6_4 cp n p1 v104 v105 q (fun v111 v112 => k .ret (fr6_24 v111 v112))) (fun c => X cp n c (fr6_2 p1 v104 v105) k) i6_4 (fun c => X cp n (.seq (.seq (.fin (.reg g6_8) [41, 42, 43, 44, 45, 46, 47, 48, 49, 50, 51, 52, 53] []) (.fin (.cond (.s 54) (.seq (.fin (.reg g6_9) [2, 3, 9, 54, 55, 56, 57, 58, 59] [(140, 15), (156, 15)]) (.seq (.fin (.reg g6_10) [10, 11, 60, 61] [(204, 15), (220, 15)]) (.wk [6, 7] (.ret)))) (.skip)) [54] [])) c) (fr6_2 p1 v104 v105) k) (fun c => by kernel_rfl) ((s6_23_t cp n p1 v104 v105 k).trans (show _ = s6_23 cp n p1 v104 v105 (fun v143 v144 => k .ret (fr6_24 v143 v144)) from by kernel_rfl)) (by kernel_rfl) (by kernel_rfl)
def fr6_26 : FF := [dT 4 ((.ptr 172 0) :: (.ptr 188 0) :: (tB v147) :: (tL v148) :: (dT 8 [])), dc, dc, dc, dc, dc, dc, dc, dc, dc, dT 12 ((.hdr 15) :: (sl 0 3 (eRecv v149))), sl 3 12 (eRecv v149) ++ ((.hdr 15) :: (sl 0 3 (eSegment v150))), sl 3 12 (eSegment v150) ++ (dT 4 []), dc, dc, dc]
def fr6_28 : FF := [(.agg (eRecv p0)) :: (.agg (eSegment p1)) :: (dT 14 []), dc, dc, dc, dc, dc, dc, dc, dc, dc, dc, dc, dc, dc, dc, dc]
theorem s6_27_t : X cp n i6_6 (fr6_28 p0 p1) k = s6_27 cp n p0 p1 (fun v147 v148 v149 v150 => k .ret (fr6_26 v147 v148 v149 v150)) := ch (fun q => s6_1 cp n p0 p1 q (fun v106 v107 => k .ret (fr6_26 false v106 v107 (SSegment.mk 0 0 0 0 0 0 0 0 0 false false 0 0 [] [])))) (fun c v104 v105 => X cp n c (fr6_2 p1 v104 v105) k) i6_5 (fun c => X cp n (.seq (.fin (.reg g6_0) [0, 1, 6, 7] []) (.seq (.seq (.fin (.reg g6_1) [15, 16] []) (.seq (.fin (.reg g6_2) [17] []) (.fin (.cond (.s 18) (.seq (.fin (.reg g6_3) [2, 3, 8, 18, 19, 20, 21] [(140, 15), (156, 15)]) (.wk [6, 7] (.ret))) (.skip)) [8, 18] []))) (.seq (.fin (.reg g6_4) [22, 23] []) (.seq (.seq (.fin (.reg g6_5) [24, 25, 26, 27, 28, 29] []) (.fin (.cond (.s 30) (.seq (.fin (.reg g6_6) [2, 3, 30, 31, 32] [(140, 15), (156, 15)]) (.wk [6, 7] (.ret))) (.skip)) [30] [])) (.seq (.fin (.reg g6_7) [33, 34, 35, 36, 37, 38, 39, 40] []) c))))) (fr6_28 p0 p1) k) (fun c => by kernel_rfl) (funext fun v104 => funext fun v105 => (s6_25_t cp n p1 v104 v105 k).trans (show _ = s6_25 cp n p1 v104 v105 (fun v145 v146 => k .ret (fr6_26 true 0 v145 v146)) from by kernel_rfl)) (by kernel_rfl) (by kernel_rfl)
theorem run6 (cp : CP) (n : Nat) (p0 : SRecv) (p1 : SSegment) (k : Ret2 RW → Option R) : G6 cp (n + 1) p0 p1 (fun r0 r1 r2 r3 => k ⟨.tup [.agg (eRecv r0), .agg (eSegment r1), (tB r2), (tL r3)], [], []⟩) = run2 U cp (callP cp n) n fn6 [.agg (eRecv p0), .agg (eSegment p1)] [] k := ((X_run (f := fn6) (av := [.agg (eRecv p0), .agg (eSegment p1)]) (cells := []) (code := i6_6) (fr := (fr6_28 p0 p1)) (k := k) (by kernel_rfl) (fun K => by kernel_rfl)).trans ((s6_27_t cp n p0 p1 (finK2 fn6 k)).trans (by kernel_rfl))).symm
end
/-! tideway/span.Size -/
section
variable (cp : CP) (n : Nat) (p0 : (List SSpan)) (v189 v190 v191 v192 v193 v194 v195 v196 v197 v198 : Int) (k : KX R)
def fr8_2 : FF := [(.row false (.rSpan p0)) :: (dT 2 ((tL 0) :: (dT 12 []))), dc]
def fr8_3 : FF := [dT 2 ((tL 0) :: (dT 13 [])), dc]
def fr8_5 : FF := [dT 3 ((tL 0) :: (dT 5 ((.row false (.rSpan p0)) :: (tL v189) :: (tL 0) :: (dT 4 [])))), dc]
def fr8_7 : FF := [dT 3 ((tL v192) :: (dT 5 ((.row false (.rSpan p0)) :: (tL v189) :: (tL v193) :: (dT 4 [])))), dc]
def fr8_8 : FF := [dT 3 ((tL v190) :: (dT 12 [])), dc]
def fr8_9 : FF := [dT 3 ((tL v190) :: (dT 5 ((.row false (.rSpan p0)) :: (tL v189) :: (tL v191) :: (dT 4 [])))), dc]
theorem s8_6_t : X cp n i8_0 (fr8_9 p0 v189 v190 v191) k = s8_6 cp n p0 v189 v190 v191 (fun v192 v193 => k .norm (fr8_7 p0 v189 v192 v193)) (k (.exit 0) (fr8_8 v190)) := by kernel_rfl
def fr8_10 : FF := [dT 3 ((tL v194) :: (dT 12 [])), dc]
theorem l8_11_t (cp : CP) (n : Nat) : ∀ (m : Nat) (p0 : (List SSpan)) (v189 v190 v191 : Int) (k : KX R), loopN2 (X cp n i8_0) m (fr8_9 p0 v189 v190 v191) k = l8_11 cp n m p0 v189 v190 v191 (fun v194 => k (.exit 0) (fr8_10 v194))
  | 0, _, _, _, _, _ => rfl
  | m + 1, p0, v189, v190, v191, k => (loopN2_succ (X cp n i8_0) m (fr8_9 p0 v189 v190 v191) k).trans ((s8_6_t cp n p0 v189 v190 v191 (loopT (X cp n i8_0) m k)).trans (tq (congrArg (fun q => s8_6 cp n p0 v189 v190 v191 q (k (.exit 0) (fr8_10 v190))) (funext fun v192 => funext fun v193 => l8_11_t cp n m p0 v189 v192 v193 k)) (by kernel_rfl)))
theorem s8_12_t : X cp n i8_1 (fr8_5 p0 v189) k = s8_12 cp n p0 v189 (fun v194 => k (.exit 0) (fr8_10 v194)) := tq (l8_11_t cp n n p0 v189 0 0 k) (by kernel_rfl)
def fr8_13 : FF := [dT 3 ((tL v195) :: (dT 12 [])), dc]
theorem s8_14_t : X cp n i8_2 (fr8_5 p0 v189) k = s8_14 cp n p0 v189 (fun v195 => k .norm (fr8_13 v195)) := tq ((s8_12_t cp n p0 v189 (blkT 0 k)).trans (by kernel_rfl)) (by kernel_rfl)
def fr8_15 : FF := [dT 3 ((tL v196) :: (dT 12 [])), dc]
theorem s8_16_t : X cp n i8_3 (fr8_2 p0) k = s8_16 cp n p0 (fun v196 => k .norm (fr8_15 v196)) := ch (fun q => s8_4 cp n p0 q) (fun c v189 => X cp n c (fr8_5 p0 v189) k) i8_2 (fun c => X cp n (.seq (.fin (.reg g8_4) [0] []) c) (fr8_2 p0) k) (fun c => by kernel_rfl) (funext fun v189 => (s8_14_t cp n p0 v189 k).trans (show _ = s8_14 cp n p0 v189 (fun v195 => k .norm (fr8_15 v195)) from by kernel_rfl)) (by kernel_rfl) (by kernel_rfl)
def fr8_18 : FF := [dT 2 ((tL v196) :: (dT 13 [])), dc]
theorem s8_17_t : X cp n i8_4 (fr8_15 v196) k = s8_17 cp n v196 (k .ret (fr8_18 v196)) := by kernel_rfl
def fr8_19 : FF := [dT 2 ((tL v197) :: (dT 13 [])), dc]
theorem s8_20_t : X cp n i8_5 (fr8_2 p0) k = s8_20 cp n p0 (fun v197 => k .ret (fr8_19 v197)) := tq (tq (congrArg (fun q => s8_16 cp n p0 q) (funext fun v196 => (s8_17_t cp n v196 k).trans (show _ = s8_17 cp n v196 (k .ret (fr8_19 v196)) from by kernel_rfl))) ((s8_16_t cp n p0 (seqT (X cp n) i8_4 k)).trans (by kernel_rfl))) (by kernel_rfl)
def fr8_21 : FF := [dT 2 ((tL v198) :: (dT 13 [])), dc]
def fr8_23 : FF := [(.row false (.rSpan p0)) :: (dT 15 []), dc]
theorem s8_22_t : X cp n i8_6 (fr8_23 p0) k = s8_22 cp n p0 (fun v198 => k .ret (fr8_21 v198)) := ch (fun q => s8_1 cp n p0 q (k .ret (fr8_21 0))) (fun c => X cp n c (fr8_2 p0) k) i8_5 (fun c => X cp n (.seq (.fin (.reg g8_0) [2] []) (.seq (.seq (.fin (.reg g8_1) [6, 7] []) (.fin (.cond (.s 8) (.seq (.fin (.reg g8_2) [0, 8] []) (.ret)) (.skip)) [8] [])) (.seq (.reg g8_3) c))) (fr8_23 p0) k) (fun c => by kernel_rfl) ((s8_20_t cp n p0 k).trans (show _ = s8_20 cp n p0 (fun v197 => k .ret (fr8_21 v197)) from by kernel_rfl)) (by kernel_rfl) (by kernel_rfl)
theorem run8 (cp : CP) (n : Nat) (p0 : (List SSpan)) (k : Ret2 RW → Option R) : G8 cp (n + 1) p0 (fun r0 => k ⟨(tL r0), [], []⟩) = run2 U cp (callP cp n) n fn8 [.row false (.rSpan p0)] [] k := ((X_run (f := fn8) (av := [.row false (.rSpan p0)]) (cells := []) (code := i8_6) (fr := (fr8_23 p0)) (k := k) (by kernel_rfl) (fun K => by kernel_rfl)).trans ((s8_22_t cp n p0 (finK2 fn8 k)).trans (by kernel_rfl))).symm
end
/-! tideway/tidewaylaw22.AckAnswers -/
section
variable (cp : CP) (n : Nat) (p0 : Int) (p1 p2 : (List Int)) (v92 : SRecv) (v93 : Int) (v94 : Bool) (v95 : Int) (v96 : SRecv) (v97 : Int) (v125 : SRecv) (v126 : SHeard) (v127 v128 v129 v130 v131 v132 v133 : Int) (v135 : SRecv) (v136 : Int) (v137 : SRecv) (v138 v139 v140 : Int) (v141 : SRecv) (v142 v143 : Int) (v144 : SRecv) (v145 : Int) (v147 v148 v149 : Bool) (k : KX R)
def w3_0 : Fr := dT 14 ((.hdr 15) :: (sl 0 1 (eRecv v92)))
def w3_1 : Fr := sl 1 14 (eRecv v92) ++ [.hdr 9, (tL 0)]
def w3_2 : Fr := (tL v93) :: (tI .u32 p0) :: (tL 0) :: (tI .u32 77) :: (tB false) :: (tI .u32 0) :: (tI .u32 0) :: (tB true) :: (dT 8 [])
def fr3_2 : FF := [(tI .u32 p0) :: (.row false (.rint p1)) :: (.row false (.ruint8 p2)) :: (dT 4 ((.ptr 142 0) :: (dT 1 ((.ptr 158 0) :: (dT 6 []))))), dc, dc, dc, dc, dc, dc, dc, w3_0 v92, w3_1 v92, w3_2 p0 v93, dc, dc, dc]
def fr3_3 : FF := [dT 6 ((tB v94) :: (dT 9 [])), dc, dc, dc, dc, dc, dc, dc, dc, dc, dc, dc, dc, dc]
def fr3_5 : FF := [(tI .u32 p0) :: (.row false (.rint p1)) :: (.row false (.ruint8 p2)) :: (dT 4 ((.ptr 142 0) :: (dT 1 ((.ptr 158 0) :: (tL 0) :: (dT 5 []))))), dc, dc, dc, dc, dc, dc, dc, w3_0 v92, w3_1 v92, w3_2 p0 v93, dc, dc, dc]
def w3_3 : Fr := (tI .u32 p0) :: (.row false (.rint p1)) :: (.row false (.ruint8 p2)) :: (dT 4 ((.ptr 142 0) :: (dT 1 ((.ptr 158 0) :: (tL v95) :: (dT 5 [])))))
def fr3_7 : FF := [w3_3 p0 p1 p2 v95, dc, dc, dc, dc, dc, dc, dc, dT 14 ((.hdr 15) :: (sl 0 1 (eRecv v96))), sl 1 14 (eRecv v96) ++ [.hdr 9, (tL v97)], w3_2 p0 v93, dc, dc, dc]
def fr3_8 : FF := [dc, dc, dc, dc, dc, dc, dc, dc, dc, dc, dc, dc, dc, dc]
def w3_4 : Fr := dT 14 ((.hdr 15) :: (sl 0 1 (eRecv v125)))
def w3_5 : Fr := sl 1 14 (eRecv v125) ++ [.hdr 9, (tL v97)]
def w3_6 : Fr := dT 8 ((.hdr 9) :: (sl 0 7 (eHeard v126)))
def w3_7 : Fr := sl 7 2 (eHeard v126) ++ (dT 14 [])
def fr3_10 : FF := [w3_3 p0 p1 p2 v95, dT 1 ((.ptr 200 0) :: (tL 0) :: (dT 13 [])), dc, dc, dc, dc, dc, dc, w3_4 v125, w3_5 v97 v125, w3_2 p0 v93, dc, w3_6 v126, w3_7 v126]
def fr3_11 : FF := [dT 6 ((tB false) :: (dT 9 [])), dc, dc, dc, dc, dc, dc, dc, dc, dc, dc, dc, dc, dc]
def fr3_13 : FF := [w3_3 p0 p1 p2 v95, dT 1 ((.ptr 200 0) :: (tL 0) :: (tL 0) :: (dT 12 [])), dc, dc, dc, dc, dc, dc, w3_4 v125, w3_5 v97 v125, w3_2 p0 v93, dc, w3_6 v126, w3_7 v126]
def fr3_15 : FF := [w3_3 p0 p1 p2 v95, dT 1 ((.ptr 200 0) :: (tL v129) :: (tL v130) :: (dT 12 [])), dc, dc, dc, dc, dc, dc, w3_4 v125, w3_5 v97 v125, w3_2 p0 v93, dc, w3_6 v126, w3_7 v126]
def fr3_16 : FF := [w3_3 p0 p1 p2 v95, dT 1 ((.ptr 200 0) :: (tL v127) :: (dT 13 [])), dc, dc, dc, dc, dc, dc, w3_4 v125, w3_5 v97 v125, w3_2 p0 v93, dc, w3_6 v126, w3_7 v126]
def fr3_17 : FF := [w3_3 p0 p1 p2 v95, dT 1 ((.ptr 200 0) :: (tL v127) :: (tL v128) :: (dT 12 [])), dc, dc, dc, dc, dc, dc, w3_4 v125, w3_5 v97 v125, w3_2 p0 v93, dc, w3_6 v126, w3_7 v126]
theorem s3_14_t : X cp n i3_0 (fr3_17 p0 p1 p2 v93 v95 v97 v125 v126 v127 v128) k = s3_14 cp n p0 p1 p2 v93 v95 v97 v125 v126 v127 v128 (fun v129 v130 => k .norm (fr3_15 p0 p1 p2 v93 v95 v97 v125 v126 v129 v130)) (k (.exit 2) (fr3_16 p0 p1 p2 v93 v95 v97 v125 v126 v127)) := by kernel_rfl
def fr3_18 : FF := [w3_3 p0 p1 p2 v95, dT 1 ((.ptr 200 0) :: (tL v131) :: (dT 13 [])), dc, dc, dc, dc, dc, dc, w3_4 v125, w3_5 v97 v125, w3_2 p0 v93, dc, w3_6 v126, w3_7 v126]
theorem l3_19_t (cp : CP) (n : Nat) : ∀ (m : Nat) (p0 : Int) (p1 p2 : (List Int)) (v93 v95 v97 : Int) (v125 : SRecv) (v126 : SHeard) (v127 v128 : Int) (k : KX R), loopN2 (X cp n i3_0) m (fr3_17 p0 p1 p2 v93 v95 v97 v125 v126 v127 v128) k = l3_19 cp n m p0 p1 p2 v93 v95 v97 v125 v126 v127 v128 (fun v131 => k (.exit 2) (fr3_18 p0 p1 p2 v93 v95 v97 v125 v126 v131))
  | 0, _, _, _, _, _, _, _, _, _, _, _ => rfl
  | m + 1, p0, p1, p2, v93, v95, v97, v125, v126, v127, v128, k => (loopN2_succ (X cp n i3_0) m (fr3_17 p0 p1 p2 v93 v95 v97 v125 v126 v127 v128) k).trans ((s3_14_t cp n p0 p1 p2 v93 v95 v97 v125 v126 v127 v128 (loopT (X cp n i3_0) m k)).trans (tq (congrArg (fun q => s3_14 cp n p0 p1 p2 v93 v95 v97 v125 v126 v127 v128 q (k (.exit 2) (fr3_18 p0 p1 p2 v93 v95 v97 v125 v126 v127))) (funext fun v129 => funext fun v130 => l3_19_t cp n m p0 p1 p2 v93 v95 v97 v125 v126 v129 v130 k)) (by kernel_rfl)))
theorem s3_20_t : X cp n i3_1 (fr3_13 p0 p1 p2 v93 v95 v97 v125 v126) k = s3_20 cp n p0 p1 p2 v93 v95 v97 v125 v126 (fun v131 => k (.exit 2) (fr3_18 p0 p1 p2 v93 v95 v97 v125 v126 v131)) := tq (l3_19_t cp n n p0 p1 p2 v93 v95 v97 v125 v126 0 0 k) (by kernel_rfl)
def fr3_21 : FF := [w3_3 p0 p1 p2 v95, dT 1 ((.ptr 200 0) :: (tL v132) :: (dT 13 [])), dc, dc, dc, dc, dc, dc, w3_4 v125, w3_5 v97 v125, w3_2 p0 v93, dc, w3_6 v126, w3_7 v126]
theorem s3_22_t : X cp n i3_2 (fr3_13 p0 p1 p2 v93 v95 v97 v125 v126) k = s3_22 cp n p0 p1 p2 v93 v95 v97 v125 v126 (fun v132 => k .norm (fr3_21 p0 p1 p2 v93 v95 v97 v125 v126 v132)) := tq ((s3_20_t cp n p0 p1 p2 v93 v95 v97 v125 v126 (blkT 2 k)).trans (by kernel_rfl)) (by kernel_rfl)
def fr3_23 : FF := [w3_3 p0 p1 p2 v95, dT 1 ((.ptr 200 0) :: (tL v133) :: (dT 13 [])), dc, dc, dc, dc, dc, dc, w3_4 v125, w3_5 v97 v125, w3_2 p0 v93, dc, w3_6 v126, w3_7 v126]
theorem s3_24_t : X cp n i3_3 (fr3_10 p0 p1 p2 v93 v95 v97 v125 v126) k = s3_24 cp n p0 p1 p2 v93 v95 v97 v125 v126 (fun v133 => k .norm (fr3_23 p0 p1 p2 v93 v95 v97 v125 v126 v133)) := ch (fun q => s3_12 cp n p0 p1 p2 v93 v95 v97 v125 v126 q) (fun c => X cp n c (fr3_13 p0 p1 p2 v93 v95 v97 v125 v126) k) i3_2 (fun c => X cp n (.seq (.reg g3_20) c) (fr3_10 p0 p1 p2 v93 v95 v97 v125 v126) k) (fun c => by kernel_rfl) ((s3_22_t cp n p0 p1 p2 v93 v95 v97 v125 v126 k).trans (show _ = s3_22 cp n p0 p1 p2 v93 v95 v97 v125 v126 (fun v132 => k .norm (fr3_23 p0 p1 p2 v93 v95 v97 v125 v126 v132)) from by kernel_rfl)) (by kernel_rfl) (by kernel_rfl)
def fr3_26 : FF := [w3_3 p0 p1 p2 v95, dc, dc, dc, dc, dc, dc, dc, w3_4 v125, sl 1 14 (eRecv v125) ++ [.hdr 9, (tL v126.xAck)], w3_2 p0 v93, dc, dc, dc]
theorem s3_25_t : X cp n i3_4 (fr3_23 p0 p1 p2 v93 v95 v97 v125 v126 v133) k = s3_25 cp n p0 p1 p2 v93 v95 v97 v125 v126 v133 (k .norm (fr3_26 p0 p1 p2 v93 v95 v125 v126)) (k .ret fr3_11) := by kernel_rfl
theorem s3_27_t : X cp n i3_5 (fr3_10 p0 p1 p2 v93 v95 v97 v125 v126) k = s3_27 cp n p0 p1 p2 v93 v95 v97 v125 v126 (k .norm (fr3_26 p0 p1 p2 v93 v95 v125 v126)) (k .ret fr3_11) := tq (tq (congrArg (fun q => s3_24 cp n p0 p1 p2 v93 v95 v97 v125 v126 q) (funext fun v133 => s3_25_t cp n p0 p1 p2 v93 v95 v97 v125 v126 v133 k)) ((s3_24_t cp n p0 p1 p2 v93 v95 v97 v125 v126 (seqT (X cp n) i3_4 k)).trans (by kernel_rfl))) (by kernel_rfl)
def fr3_28 : FF := [w3_3 p0 p1 p2 v95, dc, dc, dc, dc, dc, dc, dc, dT 14 ((.hdr 15) :: (sl 0 1 (eRecv v135))), sl 1 14 (eRecv v135) ++ [.hdr 9, (tL v136)], w3_2 p0 v93, dc, dc, dc]
theorem s3_29_t : X cp n i3_6 (fr3_7 p0 p1 p2 v93 v95 v96 v97) k = s3_29 cp n p0 p1 p2 v93 v95 v96 v97 (fun v135 v136 => k .norm (fr3_28 p0 p1 p2 v93 v95 v135 v136)) (k .ret fr3_11) := ch (fun q => s3_9 cp n p0 p1 p2 v93 v95 v96 v97 q (k .ret fr3_11)) (fun c v125 v126 => X cp n c (fr3_10 p0 p1 p2 v93 v95 v97 v125 v126) k) i3_5 (fun c => X cp n (.seq (.fin (.reg g3_10) [46, 47, 48, 49, 50, 51, 52, 53, 54, 55, 56] []) (.seq (.fin (.reg g3_11) [57, 58, 59, 60, 61, 62, 63, 64, 65, 66, 67, 68, 69, 70] []) (.seq (.fin (.reg g3_12) [11, 12, 71, 72, 73, 74, 75, 76, 77, 78, 79, 80, 81, 82, 83, 84, 85, 86] []) (.seq (.seq (.fin (.reg g3_13) [15, 16, 87, 88, 89, 90, 91] []) (.fin (.cond (.s 92) (.seq (.fin (.reg g3_14) [0, 1, 2, 7, 9, 10, 13, 14, 92] [(142, 15), (158, 9), (168, 15), (184, 15)]) (.ret)) (.skip)) [92] [])) (.seq (.fin (.reg g3_15) [13, 93] [(168, 15)]) (.seq (.fin (.reg g3_16) [14, 94, 95, 96] [(184, 15)]) (.seq (.seq (.fin (.reg g3_17) [97, 98, 99, 100, 101, 102, 103, 104, 105, 106, 107, 108, 109] []) (.fin (.cond (.s 110) (.seq (.fin (.reg g3_18) [0, 1, 2, 7, 9, 10, 17, 110] [(142, 15), (158, 9), (200, 9)]) (.ret)) (.skip)) [110] [])) (.seq (.reg g3_19) c)))))))) (fr3_7 p0 p1 p2 v93 v95 v96 v97) k) (fun c => by kernel_rfl) (funext fun v125 => funext fun v126 => (s3_27_t cp n p0 p1 p2 v93 v95 v97 v125 v126 k).trans (show _ = s3_27 cp n p0 p1 p2 v93 v95 v97 v125 v126 (k .norm (fr3_28 p0 p1 p2 v93 v95 v125 v126.xAck)) (k .ret fr3_11) from by kernel_rfl)) (by kernel_rfl) (by kernel_rfl)
def w3_8 : Fr := dT 14 ((.hdr 15) :: (sl 0 1 (eRecv v137)))
def fr3_30 : FF := [w3_3 p0 p1 p2 v95, dc, dc, dc, dc, dc, dc, dc, w3_8 v137, sl 1 14 (eRecv v137) ++ [.hdr 9, (tL v138)], w3_2 p0 v93, dc, dc, dc]
theorem s3_31_t : X cp n i3_7 (fr3_7 p0 p1 p2 v93 v95 v96 v97) k = s3_31 cp n p0 p1 p2 v93 v95 v96 v97 (fun v137 v138 => k .norm (fr3_30 p0 p1 p2 v93 v95 v137 v138)) (k .ret fr3_11) := tq ((s3_29_t cp n p0 p1 p2 v93 v95 v96 v97 (blkT 1 k)).trans (by kernel_rfl)) (by kernel_rfl)
def fr3_33 : FF := [(tI .u32 p0) :: (.row false (.rint p1)) :: (.row false (.ruint8 p2)) :: (dT 4 ((.ptr 142 0) :: (dT 1 ((.ptr 158 0) :: (tL v139) :: (dT 5 []))))), dc, dc, dc, dc, dc, dc, dc, w3_8 v137, sl 1 14 (eRecv v137) ++ [.hdr 9, (tL v138)], w3_2 p0 v93, dc, dc, dc]
theorem s3_32_t : X cp n i3_8 (fr3_30 p0 p1 p2 v93 v95 v137 v138) k = s3_32 cp n p0 p1 p2 v93 v95 v137 v138 (fun v139 => k .norm (fr3_33 p0 p1 p2 v93 v137 v138 v139)) := by kernel_rfl
def fr3_34 : FF := [(tI .u32 p0) :: (.row false (.rint p1)) :: (.row false (.ruint8 p2)) :: (dT 4 ((.ptr 142 0) :: (dT 1 ((.ptr 158 0) :: (tL v140) :: (dT 5 []))))), dc, dc, dc, dc, dc, dc, dc, dT 14 ((.hdr 15) :: (sl 0 1 (eRecv v141))), sl 1 14 (eRecv v141) ++ [.hdr 9, (tL v142)], w3_2 p0 v93, dc, dc, dc]
theorem s3_35_t : X cp n i3_9 (fr3_7 p0 p1 p2 v93 v95 v96 v97) k = s3_35 cp n p0 p1 p2 v93 v95 v96 v97 (fun v140 v141 v142 => k .norm (fr3_34 p0 p1 p2 v93 v140 v141 v142)) (k .ret fr3_11) := tq (tq (congrArg (fun q => s3_31 cp n p0 p1 p2 v93 v95 v96 v97 q (k .ret fr3_11)) (funext fun v137 => funext fun v138 => (s3_32_t cp n p0 p1 p2 v93 v95 v137 v138 k).trans (show _ = s3_32 cp n p0 p1 p2 v93 v95 v137 v138 (fun v139 => k .norm (fr3_34 p0 p1 p2 v93 v139 v137 v138)) from by kernel_rfl))) ((s3_31_t cp n p0 p1 p2 v93 v95 v96 v97 (seqT (X cp n) i3_8 k)).trans (by kernel_rfl))) (by kernel_rfl)
def fr3_36 : FF := [(tI .u32 p0) :: (.row false (.rint p1)) :: (.row false (.ruint8 p2)) :: (dT 4 ((.ptr 142 0) :: (dT 1 ((.ptr 158 0) :: (tL v143) :: (dT 5 []))))), dc, dc, dc, dc, dc, dc, dc, dT 14 ((.hdr 15) :: (sl 0 1 (eRecv v144))), sl 1 14 (eRecv v144) ++ [.hdr 9, (tL v145)], w3_2 p0 v93, dc, dc, dc]
theorem s3_37_t : X cp n i3_10 (fr3_7 p0 p1 p2 v93 v95 v96 v97) k = s3_37 cp n p0 p1 p2 v93 v95 v96 v97 (fun v143 v144 v145 => k .norm (fr3_36 p0 p1 p2 v93 v143 v144 v145)) (k .ret fr3_11) (k (.exit 0) fr3_8) := ch (fun q => s3_6 cp n p0 p1 p2 v93 v95 v96 v97 q (k (.exit 0) fr3_8)) (fun c => X cp n c (fr3_7 p0 p1 p2 v93 v95 v96 v97) k) i3_9 (fun c => X cp n (.seq (.seq (.fin (.reg g3_8) [40, 41, 42] []) (.fin (.cond (.s 43) (.skip) (.clr [0, 1, 2, 7, 9, 10, 43] [(142, 15), (158, 9)] (.exit 0))) [43] [])) c) (fr3_7 p0 p1 p2 v93 v95 v96 v97) k) (fun c => by kernel_rfl) ((s3_35_t cp n p0 p1 p2 v93 v95 v96 v97 k).trans (show _ = s3_35 cp n p0 p1 p2 v93 v95 v96 v97 (fun v140 v141 v142 => k .norm (fr3_36 p0 p1 p2 v93 v140 v141 v142)) (k .ret fr3_11) from by kernel_rfl)) (by kernel_rfl) (by kernel_rfl)
theorem l3_38_t (cp : CP) (n : Nat) : ∀ (m : Nat) (p0 : Int) (p1 p2 : (List Int)) (v93 v95 : Int) (v96 : SRecv) (v97 : Int) (k : KX R), loopN2 (X cp n i3_10) m (fr3_7 p0 p1 p2 v93 v95 v96 v97) k = l3_38 cp n m p0 p1 p2 v93 v95 v96 v97 (k .ret fr3_11) (k (.exit 0) fr3_8)
  | 0, _, _, _, _, _, _, _, _ => rfl
  | m + 1, p0, p1, p2, v93, v95, v96, v97, k => (loopN2_succ (X cp n i3_10) m (fr3_7 p0 p1 p2 v93 v95 v96 v97) k).trans ((s3_37_t cp n p0 p1 p2 v93 v95 v96 v97 (loopT (X cp n i3_10) m k)).trans (tq (congrArg (fun q => s3_37 cp n p0 p1 p2 v93 v95 v96 v97 q (k .ret fr3_11) (k (.exit 0) fr3_8)) (funext fun v143 => funext fun v144 => funext fun v145 => l3_38_t cp n m p0 p1 p2 v93 v143 v144 v145 k)) (by kernel_rfl)))
theorem s3_39_t : X cp n i3_11 (fr3_5 p0 p1 p2 v92 v93) k = s3_39 cp n p0 p1 p2 v92 v93 (k .ret fr3_11) (k (.exit 0) fr3_8) := tq (l3_38_t cp n n p0 p1 p2 v93 0 v92 0 k) (by kernel_rfl)
theorem s3_40_t : X cp n i3_12 (fr3_5 p0 p1 p2 v92 v93) k = s3_40 cp n p0 p1 p2 v92 v93 (k .norm fr3_8) (k .ret fr3_11) := tq ((s3_39_t cp n p0 p1 p2 v92 v93 (blkT 0 k)).trans (by kernel_rfl)) (by kernel_rfl)
theorem s3_41_t : X cp n i3_13 (fr3_2 p0 p1 p2 v92 v93) k = s3_41 cp n p0 p1 p2 v92 v93 (k .norm fr3_8) (k .ret fr3_11) := ch (fun q => s3_4 cp n p0 p1 p2 v92 v93 q) (fun c => X cp n c (fr3_5 p0 p1 p2 v92 v93) k) i3_12 (fun c => X cp n (.seq (.reg g3_7) c) (fr3_2 p0 p1 p2 v92 v93) k) (fun c => by kernel_rfl) (s3_40_t cp n p0 p1 p2 v92 v93 k) (by kernel_rfl) (by kernel_rfl)
def fr3_43 : FF := [dT 6 ((tB v147) :: (dT 9 [])), dc, dc, dc, dc, dc, dc, dc, dc, dc, dc, dc, dc, dc]
theorem s3_42_t : X cp n i3_14 fr3_8 k = s3_42 cp n (fun v147 => k .ret (fr3_43 v147)) := by kernel_rfl
def fr3_44 : FF := [dT 6 ((tB v148) :: (dT 9 [])), dc, dc, dc, dc, dc, dc, dc, dc, dc, dc, dc, dc, dc]
theorem s3_45_t : X cp n i3_15 (fr3_2 p0 p1 p2 v92 v93) k = s3_45 cp n p0 p1 p2 v92 v93 (fun v148 => k .ret (fr3_44 v148)) := tq (tq (congrArg (fun q => s3_41 cp n p0 p1 p2 v92 v93 q (k .ret (fr3_44 false))) ((s3_42_t cp n  k).trans (show _ = s3_42 cp n (fun v147 => k .ret (fr3_44 v147)) from by kernel_rfl))) ((s3_41_t cp n p0 p1 p2 v92 v93 (seqT (X cp n) i3_14 k)).trans (by kernel_rfl))) (by kernel_rfl)
def fr3_46 : FF := [dT 6 ((tB v149) :: (dT 9 [])), dc, dc, dc, dc, dc, dc, dc, dc, dc, dc, dc, dc, dc]
def fr3_48 : FF := [(tI .u32 p0) :: (.row false (.rint p1)) :: (.row false (.ruint8 p2)) :: (dT 13 []), dc, dc, dc, dc, dc, dc, dc, dc, dc, dc, dc, dc, dc]
theorem s3_47_t : X cp n i3_16 (fr3_48 p0 p1 p2) k = s3_47 cp n p0 p1 p2 (fun v149 => k .ret (fr3_46 v149)) := ch (fun q => s3_1 cp n p0 p1 p2 q (fun v94 => k .ret (fr3_46 v94))) (fun c v92 v93 => X cp n c (fr3_2 p0 p1 p2 v92 v93) k) i3_15 (fun c => X cp n (.seq (.fin (.reg g3_0) [6] []) (.seq (.seq (.fin (.reg g3_1) [20, 21, 22, 23, 24, 25, 26] []) (.fin (.cond (.s 27) (.seq (.fin (.reg g3_2) [0, 1, 2, 27, 28] []) (.ret)) (.skip)) [27] [])) (.seq (.fin (.reg g3_3) [29, 30, 31, 32, 33] []) (.seq (.seq (.fin (.reg g3_4) [8, 34] []) (.fin (.cond (.s 35) (.seq (.fin (.reg g3_5) [0, 1, 2, 7, 35] [(142, 15)]) (.ret)) (.skip)) [35] [])) (.seq (.fin (.reg g3_6) [36, 37, 38, 39] []) c))))) (fr3_48 p0 p1 p2) k) (fun c => by kernel_rfl) (funext fun v92 => funext fun v93 => (s3_45_t cp n p0 p1 p2 v92 v93 k).trans (show _ = s3_45 cp n p0 p1 p2 v92 v93 (fun v148 => k .ret (fr3_46 v148)) from by kernel_rfl)) (by kernel_rfl) (by kernel_rfl)
theorem run3 (cp : CP) (n : Nat) (p0 : Int) (p1 p2 : (List Int)) (k : Ret2 RW → Option R) : G3 cp (n + 1) p0 p1 p2 (fun r0 => k ⟨(tB r0), [], []⟩) = run2 U cp (callP cp n) n fn3 [(tI .u32 p0), .row false (.rint p1), .row false (.ruint8 p2)] [] k := ((X_run (f := fn3) (av := [(tI .u32 p0), .row false (.rint p1), .row false (.ruint8 p2)]) (cells := []) (code := i3_16) (fr := (fr3_48 p0 p1 p2)) (k := k) (by kernel_rfl) (fun K => by kernel_rfl)).trans ((s3_47_t cp n p0 p1 p2 (finK2 fn3 k)).trans (by kernel_rfl))).symm
end
def tbl : Nat → Option IFn
  | 13 => some (fn13.lo U)
  | 29 => some (fn29.lo U)
  | 12 => some (fn12.lo U)
  | 19 => some (fn19.lo U)
  | 1008 => some (fn1008.lo U)
  | 1007 => some (fn1007.lo U)
  | 22 => some (fn22.lo U)
  | 40 => some (fn40.lo U)
  | 24 => some (fn24.lo U)
  | 39 => some (fn39.lo U)
  | 27 => some fn27
  | 23 => some (fn23.lo U)
  | 7 => some (fn7.lo U)
  | 4 => some (fn4.lo U)
  | 9 => some (fn9.lo U)
  | 5 => some (fn5.lo U)
  | 25 => some (fn25.lo U)
  | 31 => some (fn31.lo U)
  | 30 => some (fn30.lo U)
  | 42 => some (fn42.lo U)
  | 1024 => some (fn1024.lo U)
  | 1023 => some (fn1023.lo U)
  | 50 => some (fn50.lo U)
  | 38 => some (fn38.lo U)
  | 26 => some (fn26.lo U)
  | 10 => some (fn10.lo U)
  | 28 => some fn28
  | 11 => some (fn11.lo U)
  | 18 => some (fn18.lo U)
  | 14 => some (fn14.lo U)
  | 15 => some (fn15.lo U)
  | 48 => some (fn48.lo U)
  | 34 => some (fn34.lo U)
  | 44 => some (fn44.lo U)
  | 1038 => some (fn1038.lo U)
  | 1040 => some fn1040
  | 45 => some fn45
  | 47 => some (fn47.lo U)
  | 33 => some (fn33.lo U)
  | 1036 => some (fn1036.lo U)
  | 16 => some (fn16.lo U)
  | 1045 => some (fn1045.lo U)
  | 1044 => some (fn1044.lo U)
  | 17 => some (fn17.lo U)
  | 6 => some (fn6.lo U)
  | 8 => some (fn8.lo U)
  | 3 => some (fn3.lo U)
  | _ => none
theorem chk13 : chkFn Try.prog tbl (fn13.lo U) = true := by kernel_rfl
theorem chk29 : chkFn Try.prog tbl (fn29.lo U) = true := by kernel_rfl
theorem chk12 : chkFn Try.prog tbl (fn12.lo U) = true := by kernel_rfl
theorem chk19 : chkFn Try.prog tbl (fn19.lo U) = true := by kernel_rfl
theorem chk1008 : chkFn Try.prog tbl (fn1008.lo U) = true := by kernel_rfl
theorem chk1007 : chkFn Try.prog tbl (fn1007.lo U) = true := by kernel_rfl
theorem chk22 : chkFn Try.prog tbl (fn22.lo U) = true := by kernel_rfl
theorem chk40 : chkFn Try.prog tbl (fn40.lo U) = true := by kernel_rfl
theorem chk24 : chkFn Try.prog tbl (fn24.lo U) = true := by kernel_rfl
theorem chk39 : chkFn Try.prog tbl (fn39.lo U) = true := by kernel_rfl
theorem chk27 : chkFn Try.prog tbl fn27 = true := by kernel_rfl
theorem chk23 : chkFn Try.prog tbl (fn23.lo U) = true := by kernel_rfl
theorem chk7 : chkFn Try.prog tbl (fn7.lo U) = true := by kernel_rfl
theorem chk4 : chkFn Try.prog tbl (fn4.lo U) = true := by kernel_rfl
theorem chk9 : chkFn Try.prog tbl (fn9.lo U) = true := by kernel_rfl
theorem chk5 : chkFn Try.prog tbl (fn5.lo U) = true := by kernel_rfl
theorem chk25 : chkFn Try.prog tbl (fn25.lo U) = true := by kernel_rfl
theorem chk31 : chkFn Try.prog tbl (fn31.lo U) = true := by kernel_rfl
theorem chk30 : chkFn Try.prog tbl (fn30.lo U) = true := by kernel_rfl
theorem chk42 : chkFn Try.prog tbl (fn42.lo U) = true := by kernel_rfl
theorem chk1024 : chkFn Try.prog tbl (fn1024.lo U) = true := by kernel_rfl
theorem chk1023 : chkFn Try.prog tbl (fn1023.lo U) = true := by kernel_rfl
theorem chk50 : chkFn Try.prog tbl (fn50.lo U) = true := by kernel_rfl
theorem chk38 : chkFn Try.prog tbl (fn38.lo U) = true := by kernel_rfl
theorem chk26 : chkFn Try.prog tbl (fn26.lo U) = true := by kernel_rfl
theorem chk10 : chkFn Try.prog tbl (fn10.lo U) = true := by kernel_rfl
theorem chk28 : chkFn Try.prog tbl fn28 = true := by kernel_rfl
theorem chk11 : chkFn Try.prog tbl (fn11.lo U) = true := by kernel_rfl
theorem chk18 : chkFn Try.prog tbl (fn18.lo U) = true := by kernel_rfl
theorem chk14 : chkFn Try.prog tbl (fn14.lo U) = true := by kernel_rfl
theorem chk15 : chkFn Try.prog tbl (fn15.lo U) = true := by kernel_rfl
theorem chk48 : chkFn Try.prog tbl (fn48.lo U) = true := by kernel_rfl
theorem chk34 : chkFn Try.prog tbl (fn34.lo U) = true := by kernel_rfl
theorem chk44 : chkFn Try.prog tbl (fn44.lo U) = true := by kernel_rfl
theorem chk1038 : chkFn Try.prog tbl (fn1038.lo U) = true := by kernel_rfl
theorem chk1040 : chkFn Try.prog tbl fn1040 = true := by kernel_rfl
theorem chk45 : chkFn Try.prog tbl fn45 = true := by kernel_rfl
theorem chk47 : chkFn Try.prog tbl (fn47.lo U) = true := by kernel_rfl
theorem chk33 : chkFn Try.prog tbl (fn33.lo U) = true := by kernel_rfl
theorem chk1036 : chkFn Try.prog tbl (fn1036.lo U) = true := by kernel_rfl
theorem chk16 : chkFn Try.prog tbl (fn16.lo U) = true := by kernel_rfl
theorem chk1045 : chkFn Try.prog tbl (fn1045.lo U) = true := by kernel_rfl
theorem chk1044 : chkFn Try.prog tbl (fn1044.lo U) = true := by kernel_rfl
theorem chk17 : chkFn Try.prog tbl (fn17.lo U) = true := by kernel_rfl
theorem chk6 : chkFn Try.prog tbl (fn6.lo U) = true := by kernel_rfl
theorem chk8 : chkFn Try.prog tbl (fn8.lo U) = true := by kernel_rfl
theorem chk3 : chkFn Try.prog tbl (fn3.lo U) = true := by kernel_rfl
theorem chkAll : ∀ (id : Nat) (f : IFn), tbl id = some f → chkFn Try.prog tbl f = true := by
  intro id f h
  unfold tbl at h
  split at h
  · cases h; exact chk13
  · cases h; exact chk29
  · cases h; exact chk12
  · cases h; exact chk19
  · cases h; exact chk1008
  · cases h; exact chk1007
  · cases h; exact chk22
  · cases h; exact chk40
  · cases h; exact chk24
  · cases h; exact chk39
  · cases h; exact chk27
  · cases h; exact chk23
  · cases h; exact chk7
  · cases h; exact chk4
  · cases h; exact chk9
  · cases h; exact chk5
  · cases h; exact chk25
  · cases h; exact chk31
  · cases h; exact chk30
  · cases h; exact chk42
  · cases h; exact chk1024
  · cases h; exact chk1023
  · cases h; exact chk50
  · cases h; exact chk38
  · cases h; exact chk26
  · cases h; exact chk10
  · cases h; exact chk28
  · cases h; exact chk11
  · cases h; exact chk18
  · cases h; exact chk14
  · cases h; exact chk15
  · cases h; exact chk48
  · cases h; exact chk34
  · cases h; exact chk44
  · cases h; exact chk1038
  · cases h; exact chk1040
  · cases h; exact chk45
  · cases h; exact chk47
  · cases h; exact chk33
  · cases h; exact chk1036
  · cases h; exact chk16
  · cases h; exact chk1045
  · cases h; exact chk1044
  · cases h; exact chk17
  · cases h; exact chk6
  · cases h; exact chk8
  · cases h; exact chk3
  · cases h
theorem clone27 (n : Nat) (xs : (List SSpan)) (hc : capB (0 + xs.length) 16 = true) : runF tbl (n + 1) 27 [.row false 2 xs.length (rg cSpan zSpan xs)] [] = some ⟨.row true 2 xs.length (rg cSpan zSpan xs), [], []⟩ :=
  clone_fin (F := fun m g => runF tbl (n + 1) 27 [.row false 2 m g] []) (fun g => show runF tbl (n + 1) 27 [.row false 2 0 g] [] = both (some ⟨.row true 2 0 (fun _ => [.sc (.int .i64 0), .sc (.int .i64 0)]), [], []⟩) (cond (capB (0 + 0) 16) (some ⟨.row true 2 (0 + 0) (appGet 0 0 (litGet 2 0 [.sc (.int .i64 0), .sc (.int .i64 0)] []) g), [], []⟩) none) from by kernel_rfl) (fun m g => show runF tbl (n + 1) 27 [.row false 2 (m + 1) g] [] = (cond (capB (0 + (m + 1)) 16) (some ⟨.row true 2 (0 + (m + 1)) (appGet 0 (m + 1) (litGet 2 0 [.sc (.int .i64 0), .sc (.int .i64 0)] []) g), [], []⟩) none) from by kernel_rfl) (show cSpan zSpan = [.sc (.int .i64 0), .sc (.int .i64 0)] from by kernel_rfl) xs hc
theorem clone28 (n : Nat) (xs : (List Int)) (hc : capB (0 + xs.length) 1 = true) : runF tbl (n + 1) 28 [.row false 1 xs.length (rg cuint8 zuint8 xs)] [] = some ⟨.row true 1 xs.length (rg cuint8 zuint8 xs), [], []⟩ :=
  clone_fin (F := fun m g => runF tbl (n + 1) 28 [.row false 1 m g] []) (fun g => show runF tbl (n + 1) 28 [.row false 1 0 g] [] = both (some ⟨.row true 1 0 (fun _ => [.sc (.int .u8 0)]), [], []⟩) (cond (capB (0 + 0) 1) (some ⟨.row true 1 (0 + 0) (appGet 0 0 (litGet 1 0 [.sc (.int .u8 0)] []) g), [], []⟩) none) from by kernel_rfl) (fun m g => show runF tbl (n + 1) 28 [.row false 1 (m + 1) g] [] = (cond (capB (0 + (m + 1)) 1) (some ⟨.row true 1 (0 + (m + 1)) (appGet 0 (m + 1) (litGet 1 0 [.sc (.int .u8 0)] []) g), [], []⟩) none) from by kernel_rfl) (show cuint8 zuint8 = [.sc (.int .u8 0)] from by kernel_rfl) xs hc
theorem clone1040 (n : Nat) (xs : (List SPiece)) (hc : capB (0 + xs.length) 32 = true) : runF tbl (n + 1) 1040 [.row false 2 xs.length (rg cPiece zPiece xs)] [] = some ⟨.un none 2 xs.length (rg cPiece zPiece xs), [], []⟩ :=
  uclone_fin (F := fun m g => runF tbl (n + 1) 1040 [.row false 2 m g] []) (fun g => show runF tbl (n + 1) 1040 [.row false 2 0 g] [] = both (some ⟨.un none 2 0 (fun _ => [.sc (.int .i64 0), .row false 1 0 (fun _ => [.sc (.int .u8 0)])]), [], []⟩) (cond (capB (0 + 0) 32) (some ⟨.un none 2 (0 + 0) (appGet 0 0 (litGet 2 0 [.sc (.int .i64 0), .row false 1 0 (fun _ => [.sc (.int .u8 0)])] []) g), [], []⟩) none) from by kernel_rfl) (fun m g => show runF tbl (n + 1) 1040 [.row false 2 (m + 1) g] [] = (cond (capB (0 + (m + 1)) 32) (some ⟨.un none 2 (0 + (m + 1)) (appGet 0 (m + 1) (litGet 2 0 [.sc (.int .i64 0), .row false 1 0 (fun _ => [.sc (.int .u8 0)])] []) g), [], []⟩) none) from by kernel_rfl) (show cPiece zPiece = [.sc (.int .i64 0), .row false 1 0 (fun _ => [.sc (.int .u8 0)])] from by kernel_rfl) xs hc
theorem clone45 (n : Nat) (a : Bool) (xs : (List SPiece)) (i : Int) (x : SPiece) (hc : capB (xs.length + 1) 32 = true) (h0 : decide (0 ≤ i) = true) (h1 : decide (i ≤ (xs.length : Int)) = true) : runF tbl (n + 1) 45 [.un none 2 xs.length (rg cPiece zPiece xs), .sc (.int .i64 i), .row a 2 1 (rg cPiece zPiece [x])] [] = some ⟨.un none 2 (insL xs (Int.toNat i) x).length (rg cPiece zPiece (insL xs (Int.toNat i) x)), [], []⟩ :=
  ins_fin (show runF tbl (n + 1) 45 [.un none 2 xs.length (rg cPiece zPiece xs), .sc (.int .i64 i), .row a 2 1 (rg cPiece zPiece [x])] [] = cond (capB (xs.length + 1) 32) (cond (decide (0 ≤ i)) (cond (decide (i ≤ (xs.length : Int))) (some ⟨.un none 2 (xs.length + 1) (insGet xs.length (Int.toNat i) (rg cPiece zPiece xs) (rg cPiece zPiece [x])), [], []⟩) none) none) none from by kernel_rfl) hc h0 h1
theorem dI_ok {kd : IntKind} {y : TV RW} {a : Int} (h : dI kd y = some a) : y = .sc (.int kd a) := by
  unfold dI at h
  split at h
  · obtain ⟨h1, h2⟩ := cond_some h
    cases h2
    rw [of_decide_eq_true h1]
  · cases h
theorem dB_ok {y : TV RW} {a : Bool} (h : dB y = some a) : y = .sc (.bool a) := by
  unfold dB at h
  split at h <;> cases h
  rfl
theorem dS_ok {y : TV RW} {a : ByteArray} (h : dS y = some a) : y = .sc (.string a) := by
  unfold dS at h
  split at h <;> cases h
  rfl
theorem dA_ok {y : TV RW} {a : Fr} (h : dA y = some a) : y = .agg a := by
  unfold dA at h
  split at h <;> cases h
  rfl
theorem dOne_ok {y : Fr} {a : TV RW} (h : dOne y = some a) : y = [a] := by
  unfold dOne at h
  split at h <;> cases h
  rfl
theorem dP_ok {a b : Nat} {y : TV RW} {u : Unit} (h : dP a b y = some u) : y = .ptr a b := by
  unfold dP at h
  split at h
  · obtain ⟨h1, h2⟩ := cond_some h
    simp only [Bool.and_eq_true] at h1
    rw [nbeq h1.1, nbeq h1.2]
  · cases h
theorem dC_ok {a : Nat} {b : List (Nat × Nat)} {y : TV RW} {u : Unit} (h : dC a b y = some u) : y = .clo a b := by
  unfold dC at h
  split at h
  · obtain ⟨h1, h2⟩ := cond_some h
    simp only [Bool.and_eq_true] at h1
    rw [nbeq h1.1, of_decide_eq_true h1.2]
  · cases h
theorem dRint_ok {fl : Bool} {y : TV RW} {a : List Int} (h : dRint fl y = some a) : y = .row fl (.rint a) := by
  unfold dRint at h
  split at h
  · obtain ⟨h1, h2⟩ := cond_some h
    cases h2
    rw [eq_of_beq h1]
  · cases h
theorem dRuint8_ok {fl : Bool} {y : TV RW} {a : List Int} (h : dRuint8 fl y = some a) : y = .row fl (.ruint8 a) := by
  unfold dRuint8 at h
  split at h
  · obtain ⟨h1, h2⟩ := cond_some h
    cases h2
    rw [eq_of_beq h1]
  · cases h
theorem dRBlock_ok {fl : Bool} {y : TV RW} {a : List SBlock} (h : dRBlock fl y = some a) : y = .row fl (.rBlock a) := by
  unfold dRBlock at h
  split at h
  · obtain ⟨h1, h2⟩ := cond_some h
    cases h2
    rw [eq_of_beq h1]
  · cases h
theorem dRSpan_ok {fl : Bool} {y : TV RW} {a : List SSpan} (h : dRSpan fl y = some a) : y = .row fl (.rSpan a) := by
  unfold dRSpan at h
  split at h
  · obtain ⟨h1, h2⟩ := cond_some h
    cases h2
    rw [eq_of_beq h1]
  · cases h
theorem dRPiece_ok {fl : Bool} {y : TV RW} {a : List SPiece} (h : dRPiece fl y = some a) : y = .row fl (.rPiece a) := by
  unfold dRPiece at h
  split at h
  · obtain ⟨h1, h2⟩ := cond_some h
    cases h2
    rw [eq_of_beq h1]
  · cases h
theorem dBlock_ok {L : Fr} {a : SBlock} (h : dBlock L = some a) : L = eBlock a := by
  unfold dBlock at h
  split at h
  · simp only [Option.bind_eq_some_iff] at h
    obtain ⟨a0, h0, a1, h1, h⟩ := h
    cases h
    obtain rfl := dI_ok h0
    obtain rfl := dI_ok h1
    rfl
  · cases h
theorem dAsked_ok {L : Fr} {a : SAsked} (h : dAsked L = some a) : L = eAsked a := by
  unfold dAsked at h
  split at h
  · simp only [Option.bind_eq_some_iff] at h
    obtain ⟨a0, h0, a1, h1, a2, h2, a3, h3, a4, h4, a5, h5, a6, h6, a7, h7, a8, h8, h⟩ := h
    cases h
    obtain rfl := dI_ok h0
    obtain rfl := dI_ok h1
    obtain rfl := dI_ok h2
    obtain rfl := dI_ok h3
    obtain rfl := dI_ok h4
    obtain rfl := dB_ok h5
    obtain rfl := dI_ok h6
    obtain rfl := dI_ok h7
    obtain rfl := dB_ok h8
    rfl
  · cases h
theorem dSegment_ok {L : Fr} {a : SSegment} (h : dSegment L = some a) : L = eSegment a := by
  unfold dSegment at h
  split at h
  · simp only [Option.bind_eq_some_iff] at h
    obtain ⟨a0, h0, a1, h1, a2, h2, a3, h3, a4, h4, a5, h5, a6, h6, a7, h7, a8, h8, a9, h9, a10, h10, a11, h11, a12, h12, a13, h13, a14, h14, h⟩ := h
    cases h
    obtain rfl := dI_ok h0
    obtain rfl := dI_ok h1
    obtain rfl := dI_ok h2
    obtain rfl := dI_ok h3
    obtain rfl := dI_ok h4
    obtain rfl := dI_ok h5
    obtain rfl := dI_ok h6
    obtain rfl := dI_ok h7
    obtain rfl := dI_ok h8
    obtain rfl := dB_ok h9
    obtain rfl := dB_ok h10
    obtain rfl := dI_ok h11
    obtain rfl := dI_ok h12
    obtain rfl := dRBlock_ok h13
    obtain rfl := dRuint8_ok h14
    rfl
  · cases h
theorem dSegmentt_ok {L : Fr} {a : SSegment} (h : dSegmentt L = some a) : L = eSegmentt a := by
  unfold dSegmentt at h
  split at h
  · simp only [Option.bind_eq_some_iff] at h
    obtain ⟨a0, h0, a1, h1, a2, h2, a3, h3, a4, h4, a5, h5, a6, h6, a7, h7, a8, h8, a9, h9, a10, h10, a11, h11, a12, h12, a13, h13, a14, h14, h⟩ := h
    cases h
    obtain rfl := dI_ok h0
    obtain rfl := dI_ok h1
    obtain rfl := dI_ok h2
    obtain rfl := dI_ok h3
    obtain rfl := dI_ok h4
    obtain rfl := dI_ok h5
    obtain rfl := dI_ok h6
    obtain rfl := dI_ok h7
    obtain rfl := dI_ok h8
    obtain rfl := dB_ok h9
    obtain rfl := dB_ok h10
    obtain rfl := dI_ok h11
    obtain rfl := dI_ok h12
    obtain rfl := dRBlock_ok h13
    obtain rfl := dRuint8_ok h14
    rfl
  · cases h
theorem dHeard_ok {L : Fr} {a : SHeard} (h : dHeard L = some a) : L = eHeard a := by
  unfold dHeard at h
  split at h
  · simp only [Option.bind_eq_some_iff] at h
    obtain ⟨a0, h0, a1, h1, a2, h2, a3, h3, a4, h4, a5, h5, a6, h6, a7, h7, a8, h8, h⟩ := h
    cases h
    obtain rfl := dB_ok h0
    obtain rfl := dI_ok h1
    obtain rfl := dB_ok h2
    obtain rfl := dI_ok h3
    obtain rfl := dI_ok h4
    obtain rfl := dI_ok h5
    obtain rfl := dI_ok h6
    obtain rfl := dB_ok h7
    obtain rfl := dRSpan_ok h8
    rfl
  · cases h
theorem dHeardt_ok {L : Fr} {a : SHeard} (h : dHeardt L = some a) : L = eHeardt a := by
  unfold dHeardt at h
  split at h
  · simp only [Option.bind_eq_some_iff] at h
    obtain ⟨a0, h0, a1, h1, a2, h2, a3, h3, a4, h4, a5, h5, a6, h6, a7, h7, a8, h8, h⟩ := h
    cases h
    obtain rfl := dB_ok h0
    obtain rfl := dI_ok h1
    obtain rfl := dB_ok h2
    obtain rfl := dI_ok h3
    obtain rfl := dI_ok h4
    obtain rfl := dI_ok h5
    obtain rfl := dI_ok h6
    obtain rfl := dB_ok h7
    obtain rfl := dRSpan_ok h8
    rfl
  · cases h
theorem dSpan_ok {L : Fr} {a : SSpan} (h : dSpan L = some a) : L = eSpan a := by
  unfold dSpan at h
  split at h
  · simp only [Option.bind_eq_some_iff] at h
    obtain ⟨a0, h0, a1, h1, h⟩ := h
    cases h
    obtain rfl := dI_ok h0
    obtain rfl := dI_ok h1
    rfl
  · cases h
theorem dRecv_ok {L : Fr} {a : SRecv} (h : dRecv L = some a) : L = eRecv a := by
  unfold dRecv at h
  split at h
  · simp only [Option.bind_eq_some_iff] at h
    obtain ⟨a0, h0, a1, h1, a2, h2, a3, h3, a4, h4, a5, h5, a6, h6, a7, h7, a8, h8, a9, h9, a10, h10, a11, h11, a12, h12, a13, h13, a14, h14, h⟩ := h
    cases h
    obtain rfl := dI_ok h0
    obtain rfl := dRuint8_ok h1
    obtain rfl := dRPiece_ok h2
    obtain rfl := dI_ok h3
    obtain rfl := dI_ok h4
    obtain rfl := dI_ok h5
    obtain rfl := dI_ok h6
    obtain rfl := dB_ok h7
    obtain rfl := dB_ok h8
    obtain rfl := dI_ok h9
    obtain rfl := dB_ok h10
    obtain rfl := dRSpan_ok h11
    obtain rfl := dI_ok h12
    obtain rfl := dI_ok h13
    obtain rfl := dB_ok h14
    rfl
  · cases h
theorem dRecvt_ok {L : Fr} {a : SRecv} (h : dRecvt L = some a) : L = eRecvt a := by
  unfold dRecvt at h
  split at h
  · simp only [Option.bind_eq_some_iff] at h
    obtain ⟨a0, h0, a1, h1, a2, h2, a3, h3, a4, h4, a5, h5, a6, h6, a7, h7, a8, h8, a9, h9, a10, h10, a11, h11, a12, h12, a13, h13, a14, h14, h⟩ := h
    cases h
    obtain rfl := dI_ok h0
    obtain rfl := dRuint8_ok h1
    obtain rfl := dRPiece_ok h2
    obtain rfl := dI_ok h3
    obtain rfl := dI_ok h4
    obtain rfl := dI_ok h5
    obtain rfl := dI_ok h6
    obtain rfl := dB_ok h7
    obtain rfl := dB_ok h8
    obtain rfl := dI_ok h9
    obtain rfl := dB_ok h10
    obtain rfl := dRSpan_ok h11
    obtain rfl := dI_ok h12
    obtain rfl := dI_ok h13
    obtain rfl := dB_ok h14
    rfl
  · cases h
theorem dPiece_ok {L : Fr} {a : SPiece} (h : dPiece L = some a) : L = ePiece a := by
  unfold dPiece at h
  split at h
  · simp only [Option.bind_eq_some_iff] at h
    obtain ⟨a0, h0, a1, h1, h⟩ := h
    cases h
    obtain rfl := dI_ok h0
    obtain rfl := dRuint8_ok h1
    rfl
  · cases h
theorem dPiecet_ok {L : Fr} {a : SPiece} (h : dPiecet L = some a) : L = ePiecet a := by
  unfold dPiecet at h
  split at h
  · simp only [Option.bind_eq_some_iff] at h
    obtain ⟨a0, h0, a1, h1, h⟩ := h
    cases h
    obtain rfl := dI_ok h0
    obtain rfl := dRuint8_ok h1
    rfl
  · cases h
theorem pint_ok : ∀ {L : Fr} {xs : List Int}, pint_ L = some xs → TV.los U L = (xs.map cint).flatten
  | [], xs, h => by cases h; rfl
  | y0 :: r, xs, h => by
    simp only [pint_, Option.bind_eq_some_iff] at h
    obtain ⟨a0, h0, xs', h', h⟩ := h
    cases h
    have ih := pint_ok h'
    obtain rfl := dI_ok h0
    show _ :: TV.los U r = _
    rw [ih]; rfl
theorem puint8_ok : ∀ {L : Fr} {xs : List Int}, puint8_ L = some xs → TV.los U L = (xs.map cuint8).flatten
  | [], xs, h => by cases h; rfl
  | y0 :: r, xs, h => by
    simp only [puint8_, Option.bind_eq_some_iff] at h
    obtain ⟨a0, h0, xs', h', h⟩ := h
    cases h
    have ih := puint8_ok h'
    obtain rfl := dI_ok h0
    show _ :: TV.los U r = _
    rw [ih]; rfl
theorem pBlock_ok : ∀ {L : Fr} {xs : List SBlock}, pBlock_ L = some xs → TV.los U L = (xs.map cBlock).flatten
  | [], xs, h => by cases h; rfl
  | [_], xs, h => by cases h
  | y0 :: y1 :: r, xs, h => by
    simp only [pBlock_, Option.bind_eq_some_iff] at h
    obtain ⟨a0, h0, a1, h1, xs', h', h⟩ := h
    cases h
    have ih := pBlock_ok h'
    obtain rfl := dI_ok h0
    obtain rfl := dI_ok h1
    show _ :: _ :: TV.los U r = _
    rw [ih]; rfl
theorem pSpan_ok : ∀ {L : Fr} {xs : List SSpan}, pSpan_ L = some xs → TV.los U L = (xs.map cSpan).flatten
  | [], xs, h => by cases h; rfl
  | [_], xs, h => by cases h
  | y0 :: y1 :: r, xs, h => by
    simp only [pSpan_, Option.bind_eq_some_iff] at h
    obtain ⟨a0, h0, a1, h1, xs', h', h⟩ := h
    cases h
    have ih := pSpan_ok h'
    obtain rfl := dI_ok h0
    obtain rfl := dI_ok h1
    show _ :: _ :: TV.los U r = _
    rw [ih]; rfl
theorem pPiece_ok : ∀ {L : Fr} {xs : List SPiece}, pPiece_ L = some xs → TV.los U L = (xs.map cPiece).flatten
  | [], xs, h => by cases h; rfl
  | [_], xs, h => by cases h
  | y0 :: y1 :: r, xs, h => by
    simp only [pPiece_, Option.bind_eq_some_iff] at h
    obtain ⟨a0, h0, a1, h1, xs', h', h⟩ := h
    cases h
    have ih := pPiece_ok h'
    obtain rfl := dI_ok h0
    obtain rfl := dRuint8_ok h1
    show _ :: _ :: TV.los U r = _
    rw [ih]; rfl
theorem dUPiece_ok {y : TV RW} {a : List SPiece} (h : dUPiece y = some a) : y = .un none (.rPiece a) := by
  unfold dUPiece at h
  split at h <;> cases h
  rfl
theorem dXPiece_ok {y : TV RW} {a : SPiece} (h : dXPiece y = some a) : ∃ fl, y = .row fl (.rPiece [a]) := by
  unfold dXPiece at h
  split at h <;> cases h
  exact ⟨_, rfl⟩
theorem UOk : UniOk U where
  get := fun r i => match r with
    | .rint xs => by kernel_rfl
    | .ruint8 xs => by kernel_rfl
    | .rBlock xs => by kernel_rfl
    | .rSpan xs => by kernel_rfl
    | .rPiece xs => by kernel_rfl
  app := fun r q x h => by cases r <;> cases q <;> first | (cases h; done) | (cases h; exact ⟨rfl, rfl, List.length_append, (rg_app (c := cint) (z := zint)).symm⟩) | (cases h; exact ⟨rfl, rfl, List.length_append, (rg_app (c := cuint8) (z := zuint8)).symm⟩) | (cases h; exact ⟨rfl, rfl, List.length_append, (rg_app (c := cBlock) (z := zBlock)).symm⟩) | (cases h; exact ⟨rfl, rfl, List.length_append, (rg_app (c := cSpan) (z := zSpan)).symm⟩) | (cases h; exact ⟨rfl, rfl, List.length_append, (rg_app (c := cPiece) (z := zPiece)).symm⟩)
  sub := fun lo n r h => by cases r <;> first | exact ⟨rfl, sub_len h, (rg_sub (c := cint) (z := zint) h).symm⟩ | exact ⟨rfl, sub_len h, (rg_sub (c := cuint8) (z := zuint8) h).symm⟩ | exact ⟨rfl, sub_len h, (rg_sub (c := cBlock) (z := zBlock) h).symm⟩ | exact ⟨rfl, sub_len h, (rg_sub (c := cSpan) (z := zSpan) h).symm⟩ | exact ⟨rfl, sub_len h, (rg_sub (c := cPiece) (z := zPiece) h).symm⟩
  lit := fun t n L r h => by
    unfold U at h
    dsimp only at h
    split at h
    · obtain ⟨xs, h1, rfl, rfl⟩ := bind_lit h
      have e := pint_ok h1
      exact ⟨rfl, rfl, by rw [e]; exact (rg_lit (c := cint) (sz := 1) (z := zint) (fun _ => rfl)).symm, by rw [e]; exact all_flat (fun _ => rfl) xs⟩
    · obtain ⟨xs, h1, rfl, rfl⟩ := bind_lit h
      have e := puint8_ok h1
      exact ⟨rfl, rfl, by rw [e]; exact (rg_lit (c := cuint8) (sz := 1) (z := zuint8) (fun _ => rfl)).symm, by rw [e]; exact all_flat (fun _ => rfl) xs⟩
    · obtain ⟨xs, h1, rfl, rfl⟩ := bind_lit h
      have e := pBlock_ok h1
      exact ⟨rfl, rfl, by rw [e]; exact (rg_lit (c := cBlock) (sz := 2) (z := zBlock) (fun _ => rfl)).symm, by rw [e]; exact all_flat (fun _ => rfl) xs⟩
    · obtain ⟨xs, h1, rfl, rfl⟩ := bind_lit h
      have e := pSpan_ok h1
      exact ⟨rfl, rfl, by rw [e]; exact (rg_lit (c := cSpan) (sz := 2) (z := zSpan) (fun _ => rfl)).symm, by rw [e]; exact all_flat (fun _ => rfl) xs⟩
    · obtain ⟨xs, h1, rfl, rfl⟩ := bind_lit h
      have e := pPiece_ok h1
      exact ⟨rfl, rfl, by rw [e]; exact (rg_lit (c := cPiece) (sz := 2) (z := zPiece) (fun _ => rfl)).symm, by rw [e]; exact all_flat (fun _ => rfl) xs⟩
    · cases h
  set := fun r q off cs r' hq h => by
    unfold U at h hq
    dsimp only at h hq
    split at h
    · cases h
    · cases h
    · obtain ⟨x, h1, h2⟩ := Option.bind_eq_some_iff.1 h
      cases h2
      obtain ⟨a1, a2, a3⟩ := set_fin (U := U) (c := cBlock) (z := zBlock) (e := eBlock) (fun _ => by kernel_rfl) (fun _ => rfl) hq (dBlock_ok h1)
      exact ⟨rfl, a1, a2, a3⟩
    · obtain ⟨x, h1, h2⟩ := Option.bind_eq_some_iff.1 h
      cases h2
      obtain ⟨a1, a2, a3⟩ := set_fin (U := U) (c := cSpan) (z := zSpan) (e := eSpan) (fun _ => by kernel_rfl) (fun _ => rfl) hq (dSpan_ok h1)
      exact ⟨rfl, a1, a2, a3⟩
    · obtain ⟨x, h1, h2⟩ := Option.bind_eq_some_iff.1 h
      cases h2
      obtain ⟨a1, a2, a3⟩ := set_fin (U := U) (c := cPiece) (z := zPiece) (e := ePiece) (fun _ => by kernel_rfl) (fun _ => rfl) hq (dPiece_ok h1)
      exact ⟨rfl, a1, a2, a3⟩
  str := fun r l h => by
    unfold U at h
    dsimp only at h
    split at h
    · cases h
    · cases h
      exact ⟨rfl, bytes_rg (fun _ => rfl) l⟩
    · cases h
    · cases h
    · cases h

theorem ok13 {R : Type} {r : R} : ∀ {n : Nat}, (∀ m, n = m + 1 → CallOk2 (R := R) U (callP capB m) (runF tbl m)) → ∀ {av : Fr} {cs : List Fr} {k : Ret2 RW → Option R}, ca13 capB n av cs k = some r → ∃ q : Ret2 RW, runF tbl n 13 (TV.los U av) (cs.map (TV.los U)) = some (q.lo U) ∧ k q = some r := by
  intro n ih av cs k h
  unfold ca13 at h
  split at h
  · simp only [Option.bind_eq_some_iff] at h
    obtain ⟨p0, h0, p1, h1, h⟩ := h
    obtain rfl := dI_ok h0
    obtain rfl := dI_ok h1
    cases n with
    | zero => cases h
    | succ n =>
      exact run2_ok UOk (ih n rfl) (f := fn13) rfl ((run13 capB n p0 p1 k).symm.trans h)
  · cases h
theorem ok29 {R : Type} {r : R} : ∀ {n : Nat}, (∀ m, n = m + 1 → CallOk2 (R := R) U (callP capB m) (runF tbl m)) → ∀ {av : Fr} {cs : List Fr} {k : Ret2 RW → Option R}, ca29 capB n av cs k = some r → ∃ q : Ret2 RW, runF tbl n 29 (TV.los U av) (cs.map (TV.los U)) = some (q.lo U) ∧ k q = some r := by
  intro n ih av cs k h
  unfold ca29 at h
  split at h
  · simp only [Option.bind_eq_some_iff] at h
    obtain ⟨p0, h0, p1, h1, h⟩ := h
    obtain rfl := dI_ok h0
    obtain rfl := dI_ok h1
    cases n with
    | zero => cases h
    | succ n =>
      exact run2_ok UOk (ih n rfl) (f := fn29) rfl ((run29 capB n p0 p1 k).symm.trans h)
  · cases h
theorem ok12 {R : Type} {r : R} : ∀ {n : Nat}, (∀ m, n = m + 1 → CallOk2 (R := R) U (callP capB m) (runF tbl m)) → ∀ {av : Fr} {cs : List Fr} {k : Ret2 RW → Option R}, ca12 capB n av cs k = some r → ∃ q : Ret2 RW, runF tbl n 12 (TV.los U av) (cs.map (TV.los U)) = some (q.lo U) ∧ k q = some r := by
  intro n ih av cs k h
  unfold ca12 at h
  split at h
  · simp only [Option.bind_eq_some_iff] at h
    obtain ⟨p0, h0, p1, h1, h⟩ := h
    obtain rfl := dI_ok h0
    obtain rfl := dI_ok h1
    cases n with
    | zero => cases h
    | succ n =>
      exact run2_ok UOk (ih n rfl) (f := fn12) rfl ((run12 capB n p0 p1 k).symm.trans h)
  · cases h
theorem ok19 {R : Type} {r : R} : ∀ {n : Nat}, (∀ m, n = m + 1 → CallOk2 (R := R) U (callP capB m) (runF tbl m)) → ∀ {av : Fr} {cs : List Fr} {k : Ret2 RW → Option R}, ca19 capB n av cs k = some r → ∃ q : Ret2 RW, runF tbl n 19 (TV.los U av) (cs.map (TV.los U)) = some (q.lo U) ∧ k q = some r := by
  intro n ih av cs k h
  unfold ca19 at h
  split at h
  · simp only [Option.bind_eq_some_iff] at h
    obtain ⟨c0_, h0, p0, g0, c1_, h1, p1, g1, h⟩ := h
    obtain rfl := dA_ok h0
    obtain rfl := dAsked_ok g0
    obtain rfl := dA_ok h1
    obtain rfl := dSegment_ok g1
    cases n with
    | zero => cases h
    | succ n =>
      exact run2_ok UOk (ih n rfl) (f := fn19) rfl ((run19 capB n p0 p1 k).symm.trans h)
  · cases h
theorem ok1008 {R : Type} {r : R} : ∀ {n : Nat}, (∀ m, n = m + 1 → CallOk2 (R := R) U (callP capB m) (runF tbl m)) → ∀ {av : Fr} {cs : List Fr} {k : Ret2 RW → Option R}, ca1008 capB n av cs k = some r → ∃ q : Ret2 RW, runF tbl n 1008 (TV.los U av) (cs.map (TV.los U)) = some (q.lo U) ∧ k q = some r := by
  intro n ih av cs k h
  unfold ca1008 at h
  split at h
  · simp only [Option.bind_eq_some_iff] at h
    obtain ⟨p0, h0, u1, h1, q0, i0, h⟩ := h
    obtain rfl := dI_ok h0
    obtain rfl := dP_ok h1
    obtain rfl := dAsked_ok i0
    cases n with
    | zero => cases h
    | succ n =>
      exact run2_ok UOk (ih n rfl) (f := fn1008) rfl ((run1008 capB n p0 q0 k).symm.trans h)
  · cases h
theorem ok1007 {R : Type} {r : R} : ∀ {n : Nat}, (∀ m, n = m + 1 → CallOk2 (R := R) U (callP capB m) (runF tbl m)) → ∀ {av : Fr} {cs : List Fr} {k : Ret2 RW → Option R}, ca1007 capB n av cs k = some r → ∃ q : Ret2 RW, runF tbl n 1007 (TV.los U av) (cs.map (TV.los U)) = some (q.lo U) ∧ k q = some r := by
  intro n ih av cs k h
  unfold ca1007 at h
  split at h
  · simp only [Option.bind_eq_some_iff] at h
    obtain ⟨p0, h0, u1, h1, q0, i0, h⟩ := h
    obtain rfl := dRBlock_ok h0
    obtain rfl := dC_ok h1
    obtain rfl := dAsked_ok i0
    cases n with
    | zero => cases h
    | succ n =>
      exact run2_ok UOk (ih n rfl) (f := fn1007) rfl ((run1007 capB n p0 q0 k).symm.trans h)
  · cases h
theorem ok22 {R : Type} {r : R} : ∀ {n : Nat}, (∀ m, n = m + 1 → CallOk2 (R := R) U (callP capB m) (runF tbl m)) → ∀ {av : Fr} {cs : List Fr} {k : Ret2 RW → Option R}, ca22 capB n av cs k = some r → ∃ q : Ret2 RW, runF tbl n 22 (TV.los U av) (cs.map (TV.los U)) = some (q.lo U) ∧ k q = some r := by
  intro n ih av cs k h
  unfold ca22 at h
  split at h
  · simp only [Option.bind_eq_some_iff] at h
    obtain ⟨p0, h0, p1, h1, h⟩ := h
    obtain rfl := dRSpan_ok h0
    obtain rfl := dI_ok h1
    cases n with
    | zero => cases h
    | succ n =>
      exact run2_ok UOk (ih n rfl) (f := fn22) rfl ((run22 capB n p0 p1 k).symm.trans h)
  · cases h
theorem ok40 {R : Type} {r : R} : ∀ {n : Nat}, (∀ m, n = m + 1 → CallOk2 (R := R) U (callP capB m) (runF tbl m)) → ∀ {av : Fr} {cs : List Fr} {k : Ret2 RW → Option R}, ca40 capB n av cs k = some r → ∃ q : Ret2 RW, runF tbl n 40 (TV.los U av) (cs.map (TV.los U)) = some (q.lo U) ∧ k q = some r := by
  intro n ih av cs k h
  unfold ca40 at h
  split at h
  · simp only [Option.bind_eq_some_iff] at h
    obtain ⟨c0_, h0, p0, g0, h⟩ := h
    obtain rfl := dA_ok h0
    obtain rfl := dSpan_ok g0
    cases n with
    | zero => cases h
    | succ n =>
      exact run2_ok UOk (ih n rfl) (f := fn40) rfl ((run40 capB n p0 k).symm.trans h)
  · cases h
theorem ok24 {R : Type} {r : R} : ∀ {n : Nat}, (∀ m, n = m + 1 → CallOk2 (R := R) U (callP capB m) (runF tbl m)) → ∀ {av : Fr} {cs : List Fr} {k : Ret2 RW → Option R}, ca24 capB n av cs k = some r → ∃ q : Ret2 RW, runF tbl n 24 (TV.los U av) (cs.map (TV.los U)) = some (q.lo U) ∧ k q = some r := by
  intro n ih av cs k h
  unfold ca24 at h
  split at h
  · simp only [Option.bind_eq_some_iff] at h
    obtain ⟨p0, h0, h⟩ := h
    obtain rfl := dRSpan_ok h0
    cases n with
    | zero => cases h
    | succ n =>
      exact run2_ok UOk (ih n rfl) (f := fn24) rfl ((run24 capB n p0 k).symm.trans h)
  · cases h
theorem ok39 {R : Type} {r : R} : ∀ {n : Nat}, (∀ m, n = m + 1 → CallOk2 (R := R) U (callP capB m) (runF tbl m)) → ∀ {av : Fr} {cs : List Fr} {k : Ret2 RW → Option R}, ca39 capB n av cs k = some r → ∃ q : Ret2 RW, runF tbl n 39 (TV.los U av) (cs.map (TV.los U)) = some (q.lo U) ∧ k q = some r := by
  intro n ih av cs k h
  unfold ca39 at h
  split at h
  · simp only [Option.bind_eq_some_iff] at h
    obtain ⟨p0, h0, c1_, h1, p1, g1, h⟩ := h
    obtain rfl := dRSpan_ok h0
    obtain rfl := dA_ok h1
    obtain rfl := dSpan_ok g1
    cases n with
    | zero => cases h
    | succ n =>
      exact run2_ok UOk (ih n rfl) (f := fn39) rfl ((run39 capB n p0 p1 k).symm.trans h)
  · cases h
theorem ok27 {R : Type} {r : R} : ∀ {n : Nat}, (∀ m, n = m + 1 → CallOk2 (R := R) U (callP capB m) (runF tbl m)) → ∀ {av : Fr} {cs : List Fr} {k : Ret2 RW → Option R}, ca27 capB n av cs k = some r → ∃ q : Ret2 RW, runF tbl n 27 (TV.los U av) (cs.map (TV.los U)) = some (q.lo U) ∧ k q = some r := by
  intro n ih av cs k h
  unfold ca27 at h
  split at h
  · simp only [Option.bind_eq_some_iff] at h
    obtain ⟨p0, h0, h⟩ := h
    obtain rfl := dRSpan_ok h0
    cases n with
    | zero => cases h
    | succ n =>
      obtain ⟨h1, h2⟩ := cond_some h
      exact ⟨⟨.row true (.rSpan p0), [], []⟩, clone27 n p0 h1, h2⟩
  · cases h
theorem ok23 {R : Type} {r : R} : ∀ {n : Nat}, (∀ m, n = m + 1 → CallOk2 (R := R) U (callP capB m) (runF tbl m)) → ∀ {av : Fr} {cs : List Fr} {k : Ret2 RW → Option R}, ca23 capB n av cs k = some r → ∃ q : Ret2 RW, runF tbl n 23 (TV.los U av) (cs.map (TV.los U)) = some (q.lo U) ∧ k q = some r := by
  intro n ih av cs k h
  unfold ca23 at h
  split at h
  · simp only [Option.bind_eq_some_iff] at h
    obtain ⟨p0, h0, c1_, h1, p1, g1, h⟩ := h
    obtain rfl := dRSpan_ok h0
    obtain rfl := dA_ok h1
    obtain rfl := dSpan_ok g1
    cases n with
    | zero => cases h
    | succ n =>
      exact run2_ok UOk (ih n rfl) (f := fn23) rfl ((run23 capB n p0 p1 k).symm.trans h)
  · cases h
theorem ok7 {R : Type} {r : R} : ∀ {n : Nat}, (∀ m, n = m + 1 → CallOk2 (R := R) U (callP capB m) (runF tbl m)) → ∀ {av : Fr} {cs : List Fr} {k : Ret2 RW → Option R}, ca7 capB n av cs k = some r → ∃ q : Ret2 RW, runF tbl n 7 (TV.los U av) (cs.map (TV.los U)) = some (q.lo U) ∧ k q = some r := by
  intro n ih av cs k h
  unfold ca7 at h
  split at h
  · simp only [Option.bind_eq_some_iff] at h
    obtain ⟨c0_, h0, p0, g0, c1_, h1, p1, g1, h⟩ := h
    obtain rfl := dA_ok h0
    obtain rfl := dAsked_ok g0
    obtain rfl := dA_ok h1
    obtain rfl := dSegment_ok g1
    cases n with
    | zero => cases h
    | succ n =>
      exact run2_ok UOk (ih n rfl) (f := fn7) rfl ((run7 capB n p0 p1 k).symm.trans h)
  · cases h
theorem ok4 {R : Type} {r : R} : ∀ {n : Nat}, (∀ m, n = m + 1 → CallOk2 (R := R) U (callP capB m) (runF tbl m)) → ∀ {av : Fr} {cs : List Fr} {k : Ret2 RW → Option R}, ca4 capB n av cs k = some r → ∃ q : Ret2 RW, runF tbl n 4 (TV.los U av) (cs.map (TV.los U)) = some (q.lo U) ∧ k q = some r := by
  intro n ih av cs k h
  unfold ca4 at h
  split at h
  · cases n with
    | zero => cases h
    | succ n =>
      exact run2_ok UOk (ih n rfl) (f := fn4) rfl ((run4 capB n  k).symm.trans h)
  · cases h
theorem ok9 {R : Type} {r : R} : ∀ {n : Nat}, (∀ m, n = m + 1 → CallOk2 (R := R) U (callP capB m) (runF tbl m)) → ∀ {av : Fr} {cs : List Fr} {k : Ret2 RW → Option R}, ca9 capB n av cs k = some r → ∃ q : Ret2 RW, runF tbl n 9 (TV.los U av) (cs.map (TV.los U)) = some (q.lo U) ∧ k q = some r := by
  intro n ih av cs k h
  unfold ca9 at h
  split at h
  · simp only [Option.bind_eq_some_iff] at h
    obtain ⟨c0_, h0, p0, g0, h⟩ := h
    obtain rfl := dA_ok h0
    obtain rfl := dRecv_ok g0
    cases n with
    | zero => cases h
    | succ n =>
      exact run2_ok UOk (ih n rfl) (f := fn9) rfl ((run9 capB n p0 k).symm.trans h)
  · cases h
theorem ok5 {R : Type} {r : R} : ∀ {n : Nat}, (∀ m, n = m + 1 → CallOk2 (R := R) U (callP capB m) (runF tbl m)) → ∀ {av : Fr} {cs : List Fr} {k : Ret2 RW → Option R}, ca5 capB n av cs k = some r → ∃ q : Ret2 RW, runF tbl n 5 (TV.los U av) (cs.map (TV.los U)) = some (q.lo U) ∧ k q = some r := by
  intro n ih av cs k h
  unfold ca5 at h
  split at h
  · simp only [Option.bind_eq_some_iff] at h
    obtain ⟨p0, h0, p1, h1, p2, h2, p3, h3, p4, h4, p5, h5, h⟩ := h
    obtain rfl := dI_ok h0
    obtain rfl := dI_ok h1
    obtain rfl := dI_ok h2
    obtain rfl := dI_ok h3
    obtain rfl := dB_ok h4
    obtain rfl := dB_ok h5
    cases n with
    | zero => cases h
    | succ n =>
      exact run2_ok UOk (ih n rfl) (f := fn5) rfl ((run5 capB n p0 p1 p2 p3 p4 p5 k).symm.trans h)
  · cases h
theorem ok25 {R : Type} {r : R} : ∀ {n : Nat}, (∀ m, n = m + 1 → CallOk2 (R := R) U (callP capB m) (runF tbl m)) → ∀ {av : Fr} {cs : List Fr} {k : Ret2 RW → Option R}, ca25 capB n av cs k = some r → ∃ q : Ret2 RW, runF tbl n 25 (TV.los U av) (cs.map (TV.los U)) = some (q.lo U) ∧ k q = some r := by
  intro n ih av cs k h
  unfold ca25 at h
  split at h
  · simp only [Option.bind_eq_some_iff] at h
    obtain ⟨c0_, h0, p0, g0, h⟩ := h
    obtain rfl := dA_ok h0
    obtain rfl := dRecv_ok g0
    cases n with
    | zero => cases h
    | succ n =>
      exact run2_ok UOk (ih n rfl) (f := fn25) rfl ((run25 capB n p0 k).symm.trans h)
  · cases h
theorem ok31 {R : Type} {r : R} : ∀ {n : Nat}, (∀ m, n = m + 1 → CallOk2 (R := R) U (callP capB m) (runF tbl m)) → ∀ {av : Fr} {cs : List Fr} {k : Ret2 RW → Option R}, ca31 capB n av cs k = some r → ∃ q : Ret2 RW, runF tbl n 31 (TV.los U av) (cs.map (TV.los U)) = some (q.lo U) ∧ k q = some r := by
  intro n ih av cs k h
  unfold ca31 at h
  split at h
  · simp only [Option.bind_eq_some_iff] at h
    obtain ⟨c0_, h0, p0, g0, h⟩ := h
    obtain rfl := dA_ok h0
    obtain rfl := dRecv_ok g0
    cases n with
    | zero => cases h
    | succ n =>
      exact run2_ok UOk (ih n rfl) (f := fn31) rfl ((run31 capB n p0 k).symm.trans h)
  · cases h
theorem ok30 {R : Type} {r : R} : ∀ {n : Nat}, (∀ m, n = m + 1 → CallOk2 (R := R) U (callP capB m) (runF tbl m)) → ∀ {av : Fr} {cs : List Fr} {k : Ret2 RW → Option R}, ca30 capB n av cs k = some r → ∃ q : Ret2 RW, runF tbl n 30 (TV.los U av) (cs.map (TV.los U)) = some (q.lo U) ∧ k q = some r := by
  intro n ih av cs k h
  unfold ca30 at h
  split at h
  · simp only [Option.bind_eq_some_iff] at h
    obtain ⟨c0_, h0, p0, g0, h⟩ := h
    obtain rfl := dA_ok h0
    obtain rfl := dRecv_ok g0
    cases n with
    | zero => cases h
    | succ n =>
      exact run2_ok UOk (ih n rfl) (f := fn30) rfl ((run30 capB n p0 k).symm.trans h)
  · cases h
theorem ok42 {R : Type} {r : R} : ∀ {n : Nat}, (∀ m, n = m + 1 → CallOk2 (R := R) U (callP capB m) (runF tbl m)) → ∀ {av : Fr} {cs : List Fr} {k : Ret2 RW → Option R}, ca42 capB n av cs k = some r → ∃ q : Ret2 RW, runF tbl n 42 (TV.los U av) (cs.map (TV.los U)) = some (q.lo U) ∧ k q = some r := by
  intro n ih av cs k h
  unfold ca42 at h
  split at h
  · simp only [Option.bind_eq_some_iff] at h
    obtain ⟨c0_, h0, p0, g0, h⟩ := h
    obtain rfl := dA_ok h0
    obtain rfl := dPiece_ok g0
    cases n with
    | zero => cases h
    | succ n =>
      exact run2_ok UOk (ih n rfl) (f := fn42) rfl ((run42 capB n p0 k).symm.trans h)
  · cases h
theorem ok1024 {R : Type} {r : R} : ∀ {n : Nat}, (∀ m, n = m + 1 → CallOk2 (R := R) U (callP capB m) (runF tbl m)) → ∀ {av : Fr} {cs : List Fr} {k : Ret2 RW → Option R}, ca1024 capB n av cs k = some r → ∃ q : Ret2 RW, runF tbl n 1024 (TV.los U av) (cs.map (TV.los U)) = some (q.lo U) ∧ k q = some r := by
  intro n ih av cs k h
  unfold ca1024 at h
  split at h
  · simp only [Option.bind_eq_some_iff] at h
    obtain ⟨p0, h0, u1, h1, q0, i0, h⟩ := h
    obtain rfl := dRSpan_ok h0
    obtain rfl := dC_ok h1
    obtain rfl := dRecv_ok i0
    cases n with
    | zero => cases h
    | succ n =>
      exact run2_ok UOk (ih n rfl) (f := fn1024) rfl ((run1024 capB n p0 q0 k).symm.trans h)
  · cases h
theorem ok1023 {R : Type} {r : R} : ∀ {n : Nat}, (∀ m, n = m + 1 → CallOk2 (R := R) U (callP capB m) (runF tbl m)) → ∀ {av : Fr} {cs : List Fr} {k : Ret2 RW → Option R}, ca1023 capB n av cs k = some r → ∃ q : Ret2 RW, runF tbl n 1023 (TV.los U av) (cs.map (TV.los U)) = some (q.lo U) ∧ k q = some r := by
  intro n ih av cs k h
  unfold ca1023 at h
  split at h
  · simp only [Option.bind_eq_some_iff] at h
    obtain ⟨u0, h0, q0, i0, h⟩ := h
    obtain rfl := dC_ok h0
    obtain rfl := dRecv_ok i0
    cases n with
    | zero => cases h
    | succ n =>
      exact run2_ok UOk (ih n rfl) (f := fn1023) rfl ((run1023 capB n q0 k).symm.trans h)
  · cases h
theorem ok50 {R : Type} {r : R} : ∀ {n : Nat}, (∀ m, n = m + 1 → CallOk2 (R := R) U (callP capB m) (runF tbl m)) → ∀ {av : Fr} {cs : List Fr} {k : Ret2 RW → Option R}, ca50 capB n av cs k = some r → ∃ q : Ret2 RW, runF tbl n 50 (TV.los U av) (cs.map (TV.los U)) = some (q.lo U) ∧ k q = some r := by
  intro n ih av cs k h
  unfold ca50 at h
  split at h
  · simp only [Option.bind_eq_some_iff] at h
    obtain ⟨p0, h0, c1_, h1, p1, g1, h⟩ := h
    obtain rfl := dRSpan_ok h0
    obtain rfl := dA_ok h1
    obtain rfl := dSpan_ok g1
    cases n with
    | zero => cases h
    | succ n =>
      exact run2_ok UOk (ih n rfl) (f := fn50) rfl ((run50 capB n p0 p1 k).symm.trans h)
  · cases h
theorem ok38 {R : Type} {r : R} : ∀ {n : Nat}, (∀ m, n = m + 1 → CallOk2 (R := R) U (callP capB m) (runF tbl m)) → ∀ {av : Fr} {cs : List Fr} {k : Ret2 RW → Option R}, ca38 capB n av cs k = some r → ∃ q : Ret2 RW, runF tbl n 38 (TV.los U av) (cs.map (TV.los U)) = some (q.lo U) ∧ k q = some r := by
  intro n ih av cs k h
  unfold ca38 at h
  split at h
  · simp only [Option.bind_eq_some_iff] at h
    obtain ⟨p0, h0, c1_, h1, p1, g1, h⟩ := h
    obtain rfl := dRSpan_ok h0
    obtain rfl := dA_ok h1
    obtain rfl := dSpan_ok g1
    cases n with
    | zero => cases h
    | succ n =>
      exact run2_ok UOk (ih n rfl) (f := fn38) rfl ((run38 capB n p0 p1 k).symm.trans h)
  · cases h
theorem ok26 {R : Type} {r : R} : ∀ {n : Nat}, (∀ m, n = m + 1 → CallOk2 (R := R) U (callP capB m) (runF tbl m)) → ∀ {av : Fr} {cs : List Fr} {k : Ret2 RW → Option R}, ca26 capB n av cs k = some r → ∃ q : Ret2 RW, runF tbl n 26 (TV.los U av) (cs.map (TV.los U)) = some (q.lo U) ∧ k q = some r := by
  intro n ih av cs k h
  unfold ca26 at h
  split at h
  · simp only [Option.bind_eq_some_iff] at h
    obtain ⟨c0_, h0, p0, g0, h⟩ := h
    obtain rfl := dA_ok h0
    obtain rfl := dRecv_ok g0
    cases n with
    | zero => cases h
    | succ n =>
      exact run2_ok UOk (ih n rfl) (f := fn26) rfl ((run26 capB n p0 k).symm.trans h)
  · cases h
theorem ok10 {R : Type} {r : R} : ∀ {n : Nat}, (∀ m, n = m + 1 → CallOk2 (R := R) U (callP capB m) (runF tbl m)) → ∀ {av : Fr} {cs : List Fr} {k : Ret2 RW → Option R}, ca10 capB n av cs k = some r → ∃ q : Ret2 RW, runF tbl n 10 (TV.los U av) (cs.map (TV.los U)) = some (q.lo U) ∧ k q = some r := by
  intro n ih av cs k h
  unfold ca10 at h
  split at h
  · simp only [Option.bind_eq_some_iff] at h
    obtain ⟨c0_, h0, p0, g0, h⟩ := h
    obtain rfl := dA_ok h0
    obtain rfl := dRecv_ok g0
    cases n with
    | zero => cases h
    | succ n =>
      exact run2_ok UOk (ih n rfl) (f := fn10) rfl ((run10 capB n p0 k).symm.trans h)
  · cases h
theorem ok28 {R : Type} {r : R} : ∀ {n : Nat}, (∀ m, n = m + 1 → CallOk2 (R := R) U (callP capB m) (runF tbl m)) → ∀ {av : Fr} {cs : List Fr} {k : Ret2 RW → Option R}, ca28 capB n av cs k = some r → ∃ q : Ret2 RW, runF tbl n 28 (TV.los U av) (cs.map (TV.los U)) = some (q.lo U) ∧ k q = some r := by
  intro n ih av cs k h
  unfold ca28 at h
  split at h
  · simp only [Option.bind_eq_some_iff] at h
    obtain ⟨p0, h0, h⟩ := h
    obtain rfl := dRuint8_ok h0
    cases n with
    | zero => cases h
    | succ n =>
      obtain ⟨h1, h2⟩ := cond_some h
      exact ⟨⟨.row true (.ruint8 p0), [], []⟩, clone28 n p0 h1, h2⟩
  · cases h
theorem ok11 {R : Type} {r : R} : ∀ {n : Nat}, (∀ m, n = m + 1 → CallOk2 (R := R) U (callP capB m) (runF tbl m)) → ∀ {av : Fr} {cs : List Fr} {k : Ret2 RW → Option R}, ca11 capB n av cs k = some r → ∃ q : Ret2 RW, runF tbl n 11 (TV.los U av) (cs.map (TV.los U)) = some (q.lo U) ∧ k q = some r := by
  intro n ih av cs k h
  unfold ca11 at h
  split at h
  · simp only [Option.bind_eq_some_iff] at h
    obtain ⟨c0_, h0, p0, g0, h⟩ := h
    obtain rfl := dA_ok h0
    obtain rfl := dRecv_ok g0
    cases n with
    | zero => cases h
    | succ n =>
      exact run2_ok UOk (ih n rfl) (f := fn11) rfl ((run11 capB n p0 k).symm.trans h)
  · cases h
theorem ok18 {R : Type} {r : R} : ∀ {n : Nat}, (∀ m, n = m + 1 → CallOk2 (R := R) U (callP capB m) (runF tbl m)) → ∀ {av : Fr} {cs : List Fr} {k : Ret2 RW → Option R}, ca18 capB n av cs k = some r → ∃ q : Ret2 RW, runF tbl n 18 (TV.los U av) (cs.map (TV.los U)) = some (q.lo U) ∧ k q = some r := by
  intro n ih av cs k h
  unfold ca18 at h
  split at h
  · simp only [Option.bind_eq_some_iff] at h
    obtain ⟨p0, h0, p1, h1, h⟩ := h
    obtain rfl := dI_ok h0
    obtain rfl := dI_ok h1
    cases n with
    | zero => cases h
    | succ n =>
      exact run2_ok UOk (ih n rfl) (f := fn18) rfl ((run18 capB n p0 p1 k).symm.trans h)
  · cases h
theorem ok14 {R : Type} {r : R} : ∀ {n : Nat}, (∀ m, n = m + 1 → CallOk2 (R := R) U (callP capB m) (runF tbl m)) → ∀ {av : Fr} {cs : List Fr} {k : Ret2 RW → Option R}, ca14 capB n av cs k = some r → ∃ q : Ret2 RW, runF tbl n 14 (TV.los U av) (cs.map (TV.los U)) = some (q.lo U) ∧ k q = some r := by
  intro n ih av cs k h
  unfold ca14 at h
  split at h
  · simp only [Option.bind_eq_some_iff] at h
    obtain ⟨c0_, h0, p0, g0, p1, h1, h⟩ := h
    obtain rfl := dA_ok h0
    obtain rfl := dRecv_ok g0
    obtain rfl := dRBlock_ok h1
    cases n with
    | zero => cases h
    | succ n =>
      exact run2_ok UOk (ih n rfl) (f := fn14) rfl ((run14 capB n p0 p1 k).symm.trans h)
  · cases h
theorem ok15 {R : Type} {r : R} : ∀ {n : Nat}, (∀ m, n = m + 1 → CallOk2 (R := R) U (callP capB m) (runF tbl m)) → ∀ {av : Fr} {cs : List Fr} {k : Ret2 RW → Option R}, ca15 capB n av cs k = some r → ∃ q : Ret2 RW, runF tbl n 15 (TV.los U av) (cs.map (TV.los U)) = some (q.lo U) ∧ k q = some r := by
  intro n ih av cs k h
  unfold ca15 at h
  split at h
  · simp only [Option.bind_eq_some_iff] at h
    obtain ⟨c0_, h0, p0, g0, p1, h1, h⟩ := h
    obtain rfl := dA_ok h0
    obtain rfl := dRecv_ok g0
    obtain rfl := dI_ok h1
    cases n with
    | zero => cases h
    | succ n =>
      exact run2_ok UOk (ih n rfl) (f := fn15) rfl ((run15 capB n p0 p1 k).symm.trans h)
  · cases h
theorem ok48 {R : Type} {r : R} : ∀ {n : Nat}, (∀ m, n = m + 1 → CallOk2 (R := R) U (callP capB m) (runF tbl m)) → ∀ {av : Fr} {cs : List Fr} {k : Ret2 RW → Option R}, ca48 capB n av cs k = some r → ∃ q : Ret2 RW, runF tbl n 48 (TV.los U av) (cs.map (TV.los U)) = some (q.lo U) ∧ k q = some r := by
  intro n ih av cs k h
  unfold ca48 at h
  split at h
  · simp only [Option.bind_eq_some_iff] at h
    obtain ⟨p0, h0, c1_, h1, p1, g1, h⟩ := h
    obtain rfl := dRSpan_ok h0
    obtain rfl := dA_ok h1
    obtain rfl := dSpan_ok g1
    cases n with
    | zero => cases h
    | succ n =>
      exact run2_ok UOk (ih n rfl) (f := fn48) rfl ((run48 capB n p0 p1 k).symm.trans h)
  · cases h
theorem ok34 {R : Type} {r : R} : ∀ {n : Nat}, (∀ m, n = m + 1 → CallOk2 (R := R) U (callP capB m) (runF tbl m)) → ∀ {av : Fr} {cs : List Fr} {k : Ret2 RW → Option R}, ca34 capB n av cs k = some r → ∃ q : Ret2 RW, runF tbl n 34 (TV.los U av) (cs.map (TV.los U)) = some (q.lo U) ∧ k q = some r := by
  intro n ih av cs k h
  unfold ca34 at h
  split at h
  · simp only [Option.bind_eq_some_iff] at h
    obtain ⟨p0, h0, c1_, h1, p1, g1, h⟩ := h
    obtain rfl := dRSpan_ok h0
    obtain rfl := dA_ok h1
    obtain rfl := dSpan_ok g1
    cases n with
    | zero => cases h
    | succ n =>
      exact run2_ok UOk (ih n rfl) (f := fn34) rfl ((run34 capB n p0 p1 k).symm.trans h)
  · cases h
theorem ok44 {R : Type} {r : R} : ∀ {n : Nat}, (∀ m, n = m + 1 → CallOk2 (R := R) U (callP capB m) (runF tbl m)) → ∀ {av : Fr} {cs : List Fr} {k : Ret2 RW → Option R}, ca44 capB n av cs k = some r → ∃ q : Ret2 RW, runF tbl n 44 (TV.los U av) (cs.map (TV.los U)) = some (q.lo U) ∧ k q = some r := by
  intro n ih av cs k h
  unfold ca44 at h
  split at h
  · simp only [Option.bind_eq_some_iff] at h
    obtain ⟨c0_, h0, p0, g0, p1, h1, h⟩ := h
    obtain rfl := dA_ok h0
    obtain rfl := dPiece_ok g0
    obtain rfl := dI_ok h1
    cases n with
    | zero => cases h
    | succ n =>
      exact run2_ok UOk (ih n rfl) (f := fn44) rfl ((run44 capB n p0 p1 k).symm.trans h)
  · cases h
theorem ok1038 {R : Type} {r : R} : ∀ {n : Nat}, (∀ m, n = m + 1 → CallOk2 (R := R) U (callP capB m) (runF tbl m)) → ∀ {av : Fr} {cs : List Fr} {k : Ret2 RW → Option R}, ca1038 capB n av cs k = some r → ∃ q : Ret2 RW, runF tbl n 1038 (TV.los U av) (cs.map (TV.los U)) = some (q.lo U) ∧ k q = some r := by
  intro n ih av cs k h
  unfold ca1038 at h
  split at h
  · simp only [Option.bind_eq_some_iff] at h
    obtain ⟨p0, h0, p1, h1, u2, h2, h⟩ := h
    obtain rfl := dRPiece_ok h0
    obtain rfl := dI_ok h1
    obtain rfl := dC_ok h2
    cases n with
    | zero => cases h
    | succ n =>
      exact run2_ok UOk (ih n rfl) (f := fn1038) rfl ((run1038 capB n p0 p1 k).symm.trans h)
  · cases h
theorem ok1040 {R : Type} {r : R} : ∀ {n : Nat}, (∀ m, n = m + 1 → CallOk2 (R := R) U (callP capB m) (runF tbl m)) → ∀ {av : Fr} {cs : List Fr} {k : Ret2 RW → Option R}, ca1040 capB n av cs k = some r → ∃ q : Ret2 RW, runF tbl n 1040 (TV.los U av) (cs.map (TV.los U)) = some (q.lo U) ∧ k q = some r := by
  intro n ih av cs k h
  unfold ca1040 at h
  split at h
  · simp only [Option.bind_eq_some_iff] at h
    obtain ⟨p0, h0, h⟩ := h
    obtain rfl := dRPiece_ok h0
    cases n with
    | zero => cases h
    | succ n =>
      obtain ⟨h1, h2⟩ := cond_some h
      exact ⟨⟨.un none (.rPiece p0), [], []⟩, clone1040 n p0 h1, h2⟩
  · cases h
theorem ok45 {R : Type} {r : R} : ∀ {n : Nat}, (∀ m, n = m + 1 → CallOk2 (R := R) U (callP capB m) (runF tbl m)) → ∀ {av : Fr} {cs : List Fr} {k : Ret2 RW → Option R}, ca45 capB n av cs k = some r → ∃ q : Ret2 RW, runF tbl n 45 (TV.los U av) (cs.map (TV.los U)) = some (q.lo U) ∧ k q = some r := by
  intro n ih av cs k h
  unfold ca45 at h
  split at h
  · simp only [Option.bind_eq_some_iff] at h
    obtain ⟨p0, h0, p1, h1, p2, h2, h⟩ := h
    obtain rfl := dUPiece_ok h0
    obtain rfl := dI_ok h1
    obtain ⟨a2, rfl⟩ := dXPiece_ok h2
    cases n with
    | zero => cases h
    | succ n =>
      obtain ⟨h1, h2⟩ := cond_some h
      obtain ⟨h3, h4⟩ := cond_some h2
      obtain ⟨h5, h6⟩ := cond_some h4
      exact ⟨⟨.un none (.rPiece (insL p0 (Int.toNat p1) p2)), [], []⟩, clone45 n a2 p0 p1 p2 h1 h3 h5, h6⟩
  · cases h
theorem ok47 {R : Type} {r : R} : ∀ {n : Nat}, (∀ m, n = m + 1 → CallOk2 (R := R) U (callP capB m) (runF tbl m)) → ∀ {av : Fr} {cs : List Fr} {k : Ret2 RW → Option R}, ca47 capB n av cs k = some r → ∃ q : Ret2 RW, runF tbl n 47 (TV.los U av) (cs.map (TV.los U)) = some (q.lo U) ∧ k q = some r := by
  intro n ih av cs k h
  unfold ca47 at h
  split at h
  · simp only [Option.bind_eq_some_iff] at h
    obtain ⟨p0, h0, h⟩ := h
    obtain rfl := dRuint8_ok h0
    cases n with
    | zero => cases h
    | succ n =>
      exact run2_ok UOk (ih n rfl) (f := fn47) rfl ((run47 capB n p0 k).symm.trans h)
  · cases h
theorem ok33 {R : Type} {r : R} : ∀ {n : Nat}, (∀ m, n = m + 1 → CallOk2 (R := R) U (callP capB m) (runF tbl m)) → ∀ {av : Fr} {cs : List Fr} {k : Ret2 RW → Option R}, ca33 capB n av cs k = some r → ∃ q : Ret2 RW, runF tbl n 33 (TV.los U av) (cs.map (TV.los U)) = some (q.lo U) ∧ k q = some r := by
  intro n ih av cs k h
  unfold ca33 at h
  split at h
  · simp only [Option.bind_eq_some_iff] at h
    obtain ⟨p0, h0, c1_, h1, p1, g1, h⟩ := h
    obtain rfl := dRPiece_ok h0
    obtain rfl := dA_ok h1
    obtain rfl := dPiece_ok g1
    cases n with
    | zero => cases h
    | succ n =>
      exact run2_ok UOk (ih n rfl) (f := fn33) rfl ((run33 capB n p0 p1 k).symm.trans h)
  · cases h
theorem ok1036 {R : Type} {r : R} : ∀ {n : Nat}, (∀ m, n = m + 1 → CallOk2 (R := R) U (callP capB m) (runF tbl m)) → ∀ {av : Fr} {cs : List Fr} {k : Ret2 RW → Option R}, ca1036 capB n av cs k = some r → ∃ q : Ret2 RW, runF tbl n 1036 (TV.los U av) (cs.map (TV.los U)) = some (q.lo U) ∧ k q = some r := by
  intro n ih av cs k h
  unfold ca1036 at h
  split at h
  · simp only [Option.bind_eq_some_iff] at h
    obtain ⟨c0_, h0, p0, g0, u1, h1, u2, h2, u3, h3, u4, h4, q0, i0, u_1, j1, q1, i1, u_2, j2, q2, i2, u_3, j3, q3, i3, h⟩ := h
    obtain rfl := dA_ok h0
    obtain rfl := dSpan_ok g0
    obtain rfl := dP_ok h1
    obtain rfl := dP_ok h2
    obtain rfl := dP_ok h3
    obtain rfl := dP_ok h4
    obtain rfl := dRecvt_ok i0
    obtain rfl := dOne_ok j1
    obtain rfl := dI_ok i1
    obtain rfl := dOne_ok j2
    obtain rfl := dRuint8_ok i2
    obtain rfl := dOne_ok j3
    obtain rfl := dB_ok i3
    cases n with
    | zero => cases h
    | succ n =>
      exact run2_ok UOk (ih n rfl) (f := fn1036) rfl ((run1036 capB n p0 q0 q1 q2 q3 k).symm.trans h)
  · cases h
theorem ok16 {R : Type} {r : R} : ∀ {n : Nat}, (∀ m, n = m + 1 → CallOk2 (R := R) U (callP capB m) (runF tbl m)) → ∀ {av : Fr} {cs : List Fr} {k : Ret2 RW → Option R}, ca16 capB n av cs k = some r → ∃ q : Ret2 RW, runF tbl n 16 (TV.los U av) (cs.map (TV.los U)) = some (q.lo U) ∧ k q = some r := by
  intro n ih av cs k h
  unfold ca16 at h
  split at h
  · simp only [Option.bind_eq_some_iff] at h
    obtain ⟨c0_, h0, p0, g0, p1, h1, p2, h2, h⟩ := h
    obtain rfl := dA_ok h0
    obtain rfl := dRecvt_ok g0
    obtain rfl := dI_ok h1
    obtain rfl := dRuint8_ok h2
    cases n with
    | zero => cases h
    | succ n =>
      exact run2_ok UOk (ih n rfl) (f := fn16) rfl ((run16 capB n p0 p1 p2 k).symm.trans h)
  · cases h
theorem ok1045 {R : Type} {r : R} : ∀ {n : Nat}, (∀ m, n = m + 1 → CallOk2 (R := R) U (callP capB m) (runF tbl m)) → ∀ {av : Fr} {cs : List Fr} {k : Ret2 RW → Option R}, ca1045 capB n av cs k = some r → ∃ q : Ret2 RW, runF tbl n 1045 (TV.los U av) (cs.map (TV.los U)) = some (q.lo U) ∧ k q = some r := by
  intro n ih av cs k h
  unfold ca1045 at h
  split at h
  · simp only [Option.bind_eq_some_iff] at h
    obtain ⟨c0_, h0, p0, g0, u1, h1, q0, i0, h⟩ := h
    obtain rfl := dA_ok h0
    obtain rfl := dSpan_ok g0
    obtain rfl := dP_ok h1
    obtain rfl := dSpan_ok i0
    cases n with
    | zero => cases h
    | succ n =>
      exact run2_ok UOk (ih n rfl) (f := fn1045) rfl ((run1045 capB n p0 q0 k).symm.trans h)
  · cases h
theorem ok1044 {R : Type} {r : R} : ∀ {n : Nat}, (∀ m, n = m + 1 → CallOk2 (R := R) U (callP capB m) (runF tbl m)) → ∀ {av : Fr} {cs : List Fr} {k : Ret2 RW → Option R}, ca1044 capB n av cs k = some r → ∃ q : Ret2 RW, runF tbl n 1044 (TV.los U av) (cs.map (TV.los U)) = some (q.lo U) ∧ k q = some r := by
  intro n ih av cs k h
  unfold ca1044 at h
  split at h
  · simp only [Option.bind_eq_some_iff] at h
    obtain ⟨p0, h0, u1, h1, q0, i0, h⟩ := h
    obtain rfl := dRSpan_ok h0
    obtain rfl := dC_ok h1
    obtain rfl := dSpan_ok i0
    cases n with
    | zero => cases h
    | succ n =>
      exact run2_ok UOk (ih n rfl) (f := fn1044) rfl ((run1044 capB n p0 q0 k).symm.trans h)
  · cases h
theorem ok17 {R : Type} {r : R} : ∀ {n : Nat}, (∀ m, n = m + 1 → CallOk2 (R := R) U (callP capB m) (runF tbl m)) → ∀ {av : Fr} {cs : List Fr} {k : Ret2 RW → Option R}, ca17 capB n av cs k = some r → ∃ q : Ret2 RW, runF tbl n 17 (TV.los U av) (cs.map (TV.los U)) = some (q.lo U) ∧ k q = some r := by
  intro n ih av cs k h
  unfold ca17 at h
  split at h
  · simp only [Option.bind_eq_some_iff] at h
    obtain ⟨c0_, h0, p0, g0, p1, h1, p2, h2, h⟩ := h
    obtain rfl := dA_ok h0
    obtain rfl := dRecv_ok g0
    obtain rfl := dI_ok h1
    obtain rfl := dRuint8_ok h2
    cases n with
    | zero => cases h
    | succ n =>
      exact run2_ok UOk (ih n rfl) (f := fn17) rfl ((run17 capB n p0 p1 p2 k).symm.trans h)
  · cases h
theorem ok6 {R : Type} {r : R} : ∀ {n : Nat}, (∀ m, n = m + 1 → CallOk2 (R := R) U (callP capB m) (runF tbl m)) → ∀ {av : Fr} {cs : List Fr} {k : Ret2 RW → Option R}, ca6 capB n av cs k = some r → ∃ q : Ret2 RW, runF tbl n 6 (TV.los U av) (cs.map (TV.los U)) = some (q.lo U) ∧ k q = some r := by
  intro n ih av cs k h
  unfold ca6 at h
  split at h
  · simp only [Option.bind_eq_some_iff] at h
    obtain ⟨c0_, h0, p0, g0, c1_, h1, p1, g1, h⟩ := h
    obtain rfl := dA_ok h0
    obtain rfl := dRecv_ok g0
    obtain rfl := dA_ok h1
    obtain rfl := dSegment_ok g1
    cases n with
    | zero => cases h
    | succ n =>
      exact run2_ok UOk (ih n rfl) (f := fn6) rfl ((run6 capB n p0 p1 k).symm.trans h)
  · cases h
theorem ok8 {R : Type} {r : R} : ∀ {n : Nat}, (∀ m, n = m + 1 → CallOk2 (R := R) U (callP capB m) (runF tbl m)) → ∀ {av : Fr} {cs : List Fr} {k : Ret2 RW → Option R}, ca8 capB n av cs k = some r → ∃ q : Ret2 RW, runF tbl n 8 (TV.los U av) (cs.map (TV.los U)) = some (q.lo U) ∧ k q = some r := by
  intro n ih av cs k h
  unfold ca8 at h
  split at h
  · simp only [Option.bind_eq_some_iff] at h
    obtain ⟨p0, h0, h⟩ := h
    obtain rfl := dRSpan_ok h0
    cases n with
    | zero => cases h
    | succ n =>
      exact run2_ok UOk (ih n rfl) (f := fn8) rfl ((run8 capB n p0 k).symm.trans h)
  · cases h
theorem ok3 {R : Type} {r : R} : ∀ {n : Nat}, (∀ m, n = m + 1 → CallOk2 (R := R) U (callP capB m) (runF tbl m)) → ∀ {av : Fr} {cs : List Fr} {k : Ret2 RW → Option R}, ca3 capB n av cs k = some r → ∃ q : Ret2 RW, runF tbl n 3 (TV.los U av) (cs.map (TV.los U)) = some (q.lo U) ∧ k q = some r := by
  intro n ih av cs k h
  unfold ca3 at h
  split at h
  · simp only [Option.bind_eq_some_iff] at h
    obtain ⟨p0, h0, p1, h1, p2, h2, h⟩ := h
    obtain rfl := dI_ok h0
    obtain rfl := dRint_ok h1
    obtain rfl := dRuint8_ok h2
    cases n with
    | zero => cases h
    | succ n =>
      exact run2_ok UOk (ih n rfl) (f := fn3) rfl ((run3 capB n p0 p1 p2 k).symm.trans h)
  · cases h
theorem callOk {R : Type} : ∀ n, CallOk2 (R := R) U (callP capB n) (runF tbl n)
  | n => fun id av cells k r h => by
    have ih : ∀ m, n = m + 1 → CallOk2 (R := R) U (callP capB m) (runF tbl m) := fun m e => callOk m
    unfold callP at h
    split at h
    · exact ok13 ih h
    · exact ok29 ih h
    · exact ok12 ih h
    · exact ok19 ih h
    · exact ok1008 ih h
    · exact ok1007 ih h
    · exact ok22 ih h
    · exact ok40 ih h
    · exact ok24 ih h
    · exact ok39 ih h
    · exact ok27 ih h
    · exact ok23 ih h
    · exact ok7 ih h
    · exact ok4 ih h
    · exact ok9 ih h
    · exact ok5 ih h
    · exact ok25 ih h
    · exact ok31 ih h
    · exact ok30 ih h
    · exact ok42 ih h
    · exact ok1024 ih h
    · exact ok1023 ih h
    · exact ok50 ih h
    · exact ok38 ih h
    · exact ok26 ih h
    · exact ok10 ih h
    · exact ok28 ih h
    · exact ok11 ih h
    · exact ok18 ih h
    · exact ok14 ih h
    · exact ok15 ih h
    · exact ok48 ih h
    · exact ok34 ih h
    · exact ok44 ih h
    · exact ok1038 ih h
    · exact ok1040 ih h
    · exact ok45 ih h
    · exact ok47 ih h
    · exact ok33 ih h
    · exact ok1036 ih h
    · exact ok16 ih h
    · exact ok1045 ih h
    · exact ok1044 ih h
    · exact ok17 ih h
    · exact ok6 ih h
    · exact ok8 ih h
    · exact ok3 ih h
    · cases h
termination_by n => n
decreasing_by omega
end
end Go.Proofs.Ytafnmkbehjbkdaa.M
