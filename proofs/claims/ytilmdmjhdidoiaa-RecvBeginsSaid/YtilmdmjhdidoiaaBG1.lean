/- The machine's code of the functions, and that it computes them. -/
import Derived.Test.YtilmdmjhdidoiaaBG1a
import Derived.Test.YtilmdmjhdidoiaaProg
import Derived.KernelRfl
set_option maxRecDepth 100000
set_option linter.unusedVariables false
set_option linter.unusedSimpArgs false
namespace Go.Proofs.Ytilmdmjhdidoiaa.M
open Go
noncomputable section
theorem run_span_Check {R : Type} (cp : Nat → Nat → Bool) (n : Nat) (p0 : (List SSpan)) (k : Ret2 RW → Option R) : G_span_Check cp (n + 1) p0 (fun r0 => k ⟨(tL r0), [], []⟩) = run2 U cp (callP cp n) n fn_span_Check [.row false (.rSpan p0)] [] k := ((X_run (f := fn_span_Check) (av := [.row false (.rSpan p0)]) (cells := []) (code := i_span_Check_6) (fr := (fr_span_Check_2 p0)) (k := k) (by kernel_rfl) (fun K => by kernel_rfl)).trans ((s_span_Check_19_t cp n p0 (finK2 fn_span_Check k)).trans (by kernel_rfl))).symm
/-! tideway/span.within -/
theorem run_span_within {R : Type} (cp : Nat → Nat → Bool) (n : Nat) (p0 : (List SSpan)) (p1 : SSpan) (k : Ret2 RW → Option R) : G_span_within cp (n + 1) p0 p1 (fun r0 r1 => k ⟨.clo 83 [(6, 0), (8, 0)], [], [[.row false (.rSpan r0)], (eSpan r1)]⟩) = run2 U cp (callP cp n) n fn_span_within [.row false (.rSpan p0), .agg (eSpan p1)] [] k := by kernel_rfl
/-! tideway/span.Gaps -/
def fr_span_Gaps_2 (p0 : (List SSpan)) (p1 : SSpan) : FF := [(.row false (.rSpan p0)) :: (dT 2 ((.ptr 64 0) :: (dT 1 ((.ptr 67 0) :: (.ptr 69 0) :: (dT 9 []))))), dc, dc, dc, (.hdr 2) :: ((eSpan p1) ++ ((.hdr 1) :: (.row true (.rSpan [])) :: (.hdr 1) :: (tL p1.xFrom) :: (dT 9 []))), dc]
def fr_span_Gaps_3 : FF := [dT 4 ((.row false (.rSpan [])) :: (dT 11 [])), dc, dc, dc, dc, dc]
def fr_span_Gaps_5 (p1 : SSpan) (v108 : (List SSpan)) (v109 v110 : Int) : FF := [dT 3 ((.ptr 64 0) :: (dT 1 ((.ptr 67 0) :: (.ptr 69 0) :: (dT 9 [])))), dT 6 ((.clo 83 [(74, 0), (76, 0)]) :: (dT 9 [])), dc, dc, (.hdr 2) :: ((eSpan p1) ++ ((.hdr 1) :: (.row true (.rSpan [])) :: (.hdr 1) :: (tL p1.xFrom) :: (dT 3 ((.hdr 1) :: (.row false (.rSpan v108)) :: (.hdr 2) :: (tL v109) :: (tL v110) :: (dT 1 []))))), dc]
def fr_span_Gaps_7 : FF := [dT 3 ((.ptr 64 0) :: (dT 1 ((.ptr 67 0) :: (.ptr 69 0) :: (dT 9 [])))), dT 6 ((.clo 83 [(74, 0), (76, 0)]) :: (dT 9 [])), dc, dc, dc, dc]
def y_span_Gaps_6 {R : Type} (cp : Nat → Nat → Bool) (n : Nat) : List (TV RW) → FF → (FF → Option R) → Option R := rndT 4 [23] [64, 67, 69, 74, 76, 79, 82] fr_span_Gaps_7 (X cp n i_span_Gaps_2)
def fr_span_Gaps_9 (p1 : SSpan) (v108 : (List SSpan)) (v109 v110 v111 : Int) : FF := [.yld :: (dT 1 ((.ptr 76 0) :: (dT 4 ((.row false (.rSpan v108)) :: (tL v111) :: (tL 0) :: (dT 6 []))))), dc, dc, dc, (.hdr 2) :: ((eSpan p1) ++ ((.hdr 1) :: (.row true (.rSpan [])) :: (.hdr 1) :: (tL p1.xFrom) :: (dT 3 ((.hdr 1) :: (.row false (.rSpan v108)) :: (.hdr 2) :: (tL v109) :: (tL v110) :: (dT 1 []))))), dc]
def fr_span_Gaps_11 (p1 : SSpan) (v108 : (List SSpan)) (v109 v110 v111 v112 : Int) (v113 : (List SSpan)) (v114 : Int) : FF := [.yld :: (dT 1 ((.ptr 76 0) :: (dT 4 ((.row false (.rSpan v108)) :: (tL v111) :: (tL v112) :: (dT 6 []))))), dc, dc, dc, (.hdr 2) :: ((eSpan p1) ++ ((.hdr 1) :: (.row true (.rSpan v113)) :: (.hdr 1) :: (tL v114) :: (dT 3 ((.hdr 1) :: (.row false (.rSpan v108)) :: (.hdr 2) :: (tL v109) :: (tL v110) :: (dT 1 []))))), dc]
def fr_span_Gaps_12 (p1 : SSpan) (v108 : (List SSpan)) (v109 v110 : Int) (v113 : (List SSpan)) (v114 : Int) : FF := [dc, dc, dc, dc, (.hdr 2) :: ((eSpan p1) ++ ((.hdr 1) :: (.row true (.rSpan v113)) :: (.hdr 1) :: (tL v114) :: (dT 3 ((.hdr 1) :: (.row false (.rSpan v108)) :: (.hdr 2) :: (tL v109) :: (tL v110) :: (dT 1 []))))), dc]
def fr_span_Gaps_14 (p1 : SSpan) (v108 : (List SSpan)) (v109 v110 v111 v112 : Int) (v113 : (List SSpan)) (v114 v115 v116 : Int) : FF := [.yld :: (dT 1 ((.ptr 76 0) :: (dT 3 ((.ptr 82 0) :: (.row false (.rSpan v108)) :: (tL v111) :: (tL v112) :: (dT 6 []))))), dc, dc, dc, (.hdr 2) :: ((eSpan p1) ++ ((.hdr 1) :: (.row true (.rSpan v113)) :: (.hdr 1) :: (tL v114) :: (dT 3 ((.hdr 1) :: (.row false (.rSpan v108)) :: (.hdr 2) :: (tL v109) :: (tL v110) :: (dT 1 []))))), dT 2 ((.hdr 2) :: (tL v115) :: (tL v116) :: (dT 11 []))]
def fr_span_Gaps_16 (p1 : SSpan) (v108 : (List SSpan)) (v109 v110 v111 v112 : Int) (v113 : (List SSpan)) (v114 v115 v116 : Int) (v117 : Bool) : FF := [.yld :: (dT 1 ((.ptr 76 0) :: (dT 3 ((.ptr 82 0) :: (.row false (.rSpan v108)) :: (tL v111) :: (tL v112) :: (dT 6 []))))), dT 8 ([.ptr 82 0, (tL v115), .ptr 82 1, (tL v116), (tB v117), (tB true), .yld, .agg [(tL v115), (tL v116)]]), dc, dc, (.hdr 2) :: ((eSpan p1) ++ ((.hdr 1) :: (.row true (.rSpan v113)) :: (.hdr 1) :: (tL v114) :: (dT 3 ((.hdr 1) :: (.row false (.rSpan v108)) :: (.hdr 2) :: (tL v109) :: (tL v110) :: (dT 1 []))))), dT 2 ((.hdr 2) :: (tL v115) :: (tL v116) :: (dT 11 []))]
def fr_span_Gaps_17 (p1 : SSpan) (v108 : (List SSpan)) (v109 v110 v111 v112 : Int) (v113 : (List SSpan)) (v114 v115 v116 : Int) (v118 : Bool) : FF := [.yld :: (dT 1 ((.ptr 76 0) :: (dT 3 ((.ptr 82 0) :: (.row false (.rSpan v108)) :: (tL v111) :: (tL v112) :: (dT 6 []))))), dT 8 ([.ptr 82 0, (tL v115), .ptr 82 1, (tL v116), (tB v118), (tB false), .tup [], .tup []]), dc, dc, (.hdr 2) :: ((eSpan p1) ++ ((.hdr 1) :: (.row true (.rSpan v113)) :: (.hdr 1) :: (tL v114) :: (dT 3 ((.hdr 1) :: (.row false (.rSpan v108)) :: (.hdr 2) :: (tL v109) :: (tL v110) :: (dT 1 []))))), dT 2 ((.hdr 2) :: (tL v115) :: (tL v116) :: (dT 11 []))]
theorem s_span_Gaps_15_t {R : Type} (cp : Nat → Nat → Bool) (n : Nat) (p1 : SSpan) (v108 : (List SSpan)) (v109 v110 v111 v112 : Int) (v113 : (List SSpan)) (v114 v115 v116 : Int) (A B : FF → Option R) : (gF (fr_span_Gaps_14 p1 v108 v109 v110 v111 v112 v113 v114 v115 v116) fun l => steps2 U cp (callP cp n) g_span_Gaps_10041 l fun l1 => yGuard2 (some (29, true)) l1 (A l1) (B l1)) = s_span_Gaps_15 cp n p1 v108 v109 v110 v111 v112 v113 v114 v115 v116 (fun v117 => A (fr_span_Gaps_16 p1 v108 v109 v110 v111 v112 v113 v114 v115 v116 v117)) (fun v118 => B (fr_span_Gaps_17 p1 v108 v109 v110 v111 v112 v113 v114 v115 v116 v118)) := by kernel_rfl
def fr_span_Gaps_19 (p1 : SSpan) (v108 : (List SSpan)) (v109 v110 v115 v116 : Int) (v119 : (List SSpan)) : FF := [dT 3 ((.ptr 64 0) :: (dT 1 ((.ptr 67 0) :: (.ptr 69 0) :: (dT 9 [])))), dT 6 ((.clo 83 [(74, 0), (76, 0)]) :: (dT 9 [])), dc, dc, (.hdr 2) :: ((eSpan p1) ++ ((.hdr 1) :: (.row true (.rSpan v119)) :: (.hdr 1) :: (tL v116) :: (dT 3 ((.hdr 1) :: (.row false (.rSpan v108)) :: (.hdr 2) :: (tL v109) :: (tL v110) :: (dT 1 []))))), dT 2 ((.hdr 2) :: (tL v115) :: (tL v116) :: (dT 11 []))]
def fr_span_Gaps_20 (p1 : SSpan) (v108 : (List SSpan)) (v109 v110 : Int) (v113 : (List SSpan)) (v114 v115 v116 : Int) : FF := [dT 3 ((.ptr 64 0) :: (dT 1 ((.ptr 67 0) :: (.ptr 69 0) :: (dT 9 [])))), dT 6 ((.clo 83 [(74, 0), (76, 0)]) :: (.agg [(tL v115), (tL v116)]) :: (dT 8 [])), dc, dc, (.hdr 2) :: ((eSpan p1) ++ ((.hdr 1) :: (.row true (.rSpan v113)) :: (.hdr 1) :: (tL v114) :: (dT 3 ((.hdr 1) :: (.row false (.rSpan v108)) :: (.hdr 2) :: (tL v109) :: (tL v110) :: (dT 1 []))))), dT 2 ((.hdr 2) :: (tL v115) :: (tL v116) :: (dT 11 []))]
theorem s_span_Gaps_18_t {R : Type} (cp : Nat → Nat → Bool) (n : Nat) (p1 : SSpan) (v108 : (List SSpan)) (v109 v110 : Int) (v113 : (List SSpan)) (v114 v115 v116 : Int) (k : Ex → FF → Option R) : X cp n i_span_Gaps_2 (fr_span_Gaps_20 p1 v108 v109 v110 v113 v114 v115 v116) k = s_span_Gaps_18 cp n p1 v108 v109 v110 v113 v114 v115 v116 (fun v119 => k .norm (fr_span_Gaps_19 p1 v108 v109 v110 v115 v116 v119)) := by kernel_rfl
def fr_span_Gaps_22 (p1 : SSpan) (v108 : (List SSpan)) (v109 v110 v111 v112 v115 v116 : Int) (v117 : Bool) (v119 : (List SSpan)) : FF := [.yld :: (dT 1 ((.ptr 76 0) :: (dT 3 ((.ptr 82 0) :: (.row false (.rSpan v108)) :: (tL v111) :: (tL v112) :: (dT 6 []))))), dT 8 ([.ptr 82 0, (tL v115), .ptr 82 1, (tL v116), (tB v117), (tB true), .yld, .agg [(tL v115), (tL v116)]]), (tB true) :: (dT 15 []), dc, (.hdr 2) :: ((eSpan p1) ++ ((.hdr 1) :: (.row true (.rSpan v119)) :: (.hdr 1) :: (tL v116) :: (dT 3 ((.hdr 1) :: (.row false (.rSpan v108)) :: (.hdr 2) :: (tL v109) :: (tL v110) :: (dT 1 []))))), dT 2 ((.hdr 2) :: (tL v115) :: (tL v116) :: (dT 11 []))]
theorem q_span_Gaps_21_t {R : Type} (cp : Nat → Nat → Bool) (n : Nat) (p1 : SSpan) (v108 : (List SSpan)) (v109 v110 v111 v112 : Int) (v113 : (List SSpan)) (v114 v115 v116 : Int) (v117 : Bool) (K : FF → Option R) : yRun2 (y_span_Gaps_6 cp n) (.s 30) [.s 31] 32 (fr_span_Gaps_16 p1 v108 v109 v110 v111 v112 v113 v114 v115 v116 v117) K = s_span_Gaps_18 cp n p1 v108 v109 v110 v113 v114 v115 v116 (fun v119 => K (fr_span_Gaps_22 p1 v108 v109 v110 v111 v112 v115 v116 v117 v119)) := ((fun x => (show yRun2 (rndT 4 [23] [64, 67, 69, 74, 76, 79, 82] fr_span_Gaps_7 x) (.s 30) [.s 31] 32 (fr_span_Gaps_16 p1 v108 v109 v110 v111 v112 v113 v114 v115 v116 v117) K = x (fr_span_Gaps_20 p1 v108 v109 v110 v113 v114 v115 v116) (roundT 4 (fr_span_Gaps_16 p1 v108 v109 v110 v111 v112 v113 v114 v115 v116 v117) (fun l2 => putO l2 (some 32) (.sc (.bool true)) K)) from by kernel_rfl)) (X cp n i_span_Gaps_2)).trans ((s_span_Gaps_18_t cp n p1 v108 v109 v110 v113 v114 v115 v116 (roundT 4 (fr_span_Gaps_16 p1 v108 v109 v110 v111 v112 v113 v114 v115 v116 v117) (fun l2 => putO l2 (some 32) (.sc (.bool true)) K))).trans (by kernel_rfl))
def fr_span_Gaps_23 (p1 : SSpan) (v108 : (List SSpan)) (v109 v110 v111 v112 : Int) (v120 : (List SSpan)) (v121 : Int) : FF := [.yld :: (dT 1 ((.ptr 76 0) :: (dT 4 ((.row false (.rSpan v108)) :: (tL v111) :: (tL v112) :: (dT 6 []))))), dc, dT 2 ((tB false) :: (dT 13 [])), dc, (.hdr 2) :: ((eSpan p1) ++ ((.hdr 1) :: (.row true (.rSpan v120)) :: (.hdr 1) :: (tL v121) :: (dT 3 ((.hdr 1) :: (.row false (.rSpan v108)) :: (.hdr 2) :: (tL v109) :: (tL v110) :: (dT 1 []))))), dc]
theorem s_span_Gaps_24_t {R : Type} (cp : Nat → Nat → Bool) (n : Nat) (p1 : SSpan) (v108 : (List SSpan)) (v109 v110 v111 v112 : Int) (v113 : (List SSpan)) (v114 v115 v116 : Int) (k : Ex → FF → Option R) : XI cp n (y_span_Gaps_6 cp n) i_span_Gaps_4 (fr_span_Gaps_14 p1 v108 v109 v110 v111 v112 v113 v114 v115 v116) k = s_span_Gaps_24 cp n p1 v108 v109 v110 v111 v112 v113 v114 v115 v116 (fun v120 v121 => k .norm (fr_span_Gaps_23 p1 v108 v109 v110 v111 v112 v120 v121)) := (show XI cp n (y_span_Gaps_6 cp n) i_span_Gaps_4 (fr_span_Gaps_14 p1 v108 v109 v110 v111 v112 v113 v114 v115 v116) k = gF (fr_span_Gaps_14 p1 v108 v109 v110 v111 v112 v113 v114 v115 v116) fun l => steps2 U cp (callP cp n) g_span_Gaps_10041 l fun l1 => yGuard2 (some (29, true)) l1 ((fun l1 => yRun2 (y_span_Gaps_6 cp n) (.s 30) [.s 31] 32 l1 (fun l2 => steps2 U cp (callP cp n) g_span_Gaps_10042 l2 ((clrT [6, 24, 25, 26, 27, 28, 29, 30, 31, 32, 33] [(82, 2)] k) .norm))) l1) ((fun l1 => putO l1 (some 32) (.tup []) fun l2 => steps2 U cp (callP cp n) g_span_Gaps_10042 l2 ((clrT [6, 24, 25, 26, 27, 28, 29, 30, 31, 32, 33] [(82, 2)] k) .norm)) l1) from by kernel_rfl).trans ((s_span_Gaps_15_t cp n p1 v108 v109 v110 v111 v112 v113 v114 v115 v116 (fun l1 => yRun2 (y_span_Gaps_6 cp n) (.s 30) [.s 31] 32 l1 (fun l2 => steps2 U cp (callP cp n) g_span_Gaps_10042 l2 ((clrT [6, 24, 25, 26, 27, 28, 29, 30, 31, 32, 33] [(82, 2)] k) .norm))) (fun l1 => putO l1 (some 32) (.tup []) fun l2 => steps2 U cp (callP cp n) g_span_Gaps_10042 l2 ((clrT [6, 24, 25, 26, 27, 28, 29, 30, 31, 32, 33] [(82, 2)] k) .norm))).trans (cg2 (f := s_span_Gaps_15 cp n p1 v108 v109 v110 v111 v112 v113 v114 v115 v116) (funext fun v117 => (q_span_Gaps_21_t cp n p1 v108 v109 v110 v111 v112 v113 v114 v115 v116 v117 (fun l2 => steps2 U cp (callP cp n) g_span_Gaps_10042 l2 ((clrT [6, 24, 25, 26, 27, 28, 29, 30, 31, 32, 33] [(82, 2)] k) .norm))).trans (show s_span_Gaps_18 cp n p1 v108 v109 v110 v113 v114 v115 v116 (fun v119 => (fun l2 => steps2 U cp (callP cp n) g_span_Gaps_10042 l2 ((clrT [6, 24, 25, 26, 27, 28, 29, 30, 31, 32, 33] [(82, 2)] k) .norm)) (fr_span_Gaps_22 p1 v108 v109 v110 v111 v112 v115 v116 v117 v119)) = s_span_Gaps_18 cp n p1 v108 v109 v110 v113 v114 v115 v116 (fun v119 => k .norm (fr_span_Gaps_23 p1 v108 v109 v110 v111 v112 v119 v116)) from by kernel_rfl)) (funext fun v118 => (show (fun l1 => putO l1 (some 32) (.tup []) fun l2 => steps2 U cp (callP cp n) g_span_Gaps_10042 l2 ((clrT [6, 24, 25, 26, 27, 28, 29, 30, 31, 32, 33] [(82, 2)] k) .norm)) (fr_span_Gaps_17 p1 v108 v109 v110 v111 v112 v113 v114 v115 v116 v118) = k .norm (fr_span_Gaps_23 p1 v108 v109 v110 v111 v112 v113 v114) from by kernel_rfl))))
def fr_span_Gaps_26 (p1 : SSpan) (v108 : (List SSpan)) (v109 v110 v111 v112 : Int) (v120 : (List SSpan)) (v121 : Int) : FF := [.yld :: (dT 1 ((.ptr 76 0) :: (dT 4 ((.row false (.rSpan v108)) :: (tL v111) :: (tL v112) :: (dT 6 []))))), dc, dc, dc, (.hdr 2) :: ((eSpan p1) ++ ((.hdr 1) :: (.row true (.rSpan v120)) :: (.hdr 1) :: (tL v121) :: (dT 3 ((.hdr 1) :: (.row false (.rSpan v108)) :: (.hdr 2) :: (tL v109) :: (tL v110) :: (dT 1 []))))), dc]
theorem s_span_Gaps_25_t {R : Type} (cp : Nat → Nat → Bool) (n : Nat) (p1 : SSpan) (v108 : (List SSpan)) (v109 v110 v111 v112 : Int) (v120 : (List SSpan)) (v121 : Int) (k : Ex → FF → Option R) : XI cp n (y_span_Gaps_6 cp n) i_span_Gaps_5 (fr_span_Gaps_23 p1 v108 v109 v110 v111 v112 v120 v121) k = s_span_Gaps_25 cp n p1 v108 v109 v110 v111 v112 v120 v121 (k .norm (fr_span_Gaps_26 p1 v108 v109 v110 v111 v112 v120 v121)) := by kernel_rfl
def fr_span_Gaps_27 (p1 : SSpan) (v108 : (List SSpan)) (v109 v110 v111 v112 : Int) (v122 : (List SSpan)) (v123 : Int) : FF := [.yld :: (dT 1 ((.ptr 76 0) :: (dT 4 ((.row false (.rSpan v108)) :: (tL v111) :: (tL v112) :: (dT 6 []))))), dc, dc, dc, (.hdr 2) :: ((eSpan p1) ++ ((.hdr 1) :: (.row true (.rSpan v122)) :: (.hdr 1) :: (tL v123) :: (dT 3 ((.hdr 1) :: (.row false (.rSpan v108)) :: (.hdr 2) :: (tL v109) :: (tL v110) :: (dT 1 []))))), dc]
theorem s_span_Gaps_28_t {R : Type} (cp : Nat → Nat → Bool) (n : Nat) (p1 : SSpan) (v108 : (List SSpan)) (v109 v110 v111 v112 : Int) (v113 : (List SSpan)) (v114 v115 v116 : Int) (k : Ex → FF → Option R) : XI cp n (y_span_Gaps_6 cp n) i_span_Gaps_6 (fr_span_Gaps_14 p1 v108 v109 v110 v111 v112 v113 v114 v115 v116) k = s_span_Gaps_28 cp n p1 v108 v109 v110 v111 v112 v113 v114 v115 v116 (fun v122 v123 => k .norm (fr_span_Gaps_27 p1 v108 v109 v110 v111 v112 v122 v123)) := (show XI cp n (y_span_Gaps_6 cp n) i_span_Gaps_6 (fr_span_Gaps_14 p1 v108 v109 v110 v111 v112 v113 v114 v115 v116) k = XI cp n (y_span_Gaps_6 cp n) i_span_Gaps_4 (fr_span_Gaps_14 p1 v108 v109 v110 v111 v112 v113 v114 v115 v116) (seqT (XI cp n (y_span_Gaps_6 cp n)) i_span_Gaps_5 k) from by kernel_rfl).trans ((show XI cp n (y_span_Gaps_6 cp n) i_span_Gaps_4 (fr_span_Gaps_14 p1 v108 v109 v110 v111 v112 v113 v114 v115 v116) (seqT (XI cp n (y_span_Gaps_6 cp n)) i_span_Gaps_5 k) = s_span_Gaps_24 cp n p1 v108 v109 v110 v111 v112 v113 v114 v115 v116 (fun v120 v121 => XI cp n (y_span_Gaps_6 cp n) i_span_Gaps_5 (fr_span_Gaps_23 p1 v108 v109 v110 v111 v112 v120 v121) k) from (s_span_Gaps_24_t cp n p1 v108 v109 v110 v111 v112 v113 v114 v115 v116 (seqT (XI cp n (y_span_Gaps_6 cp n)) i_span_Gaps_5 k)).trans (by kernel_rfl)).trans (congrArg (fun q => s_span_Gaps_24 cp n p1 v108 v109 v110 v111 v112 v113 v114 v115 v116 q) (funext fun v120 => funext fun v121 => (s_span_Gaps_25_t cp n p1 v108 v109 v110 v111 v112 v120 v121 k).trans (show s_span_Gaps_25 cp n p1 v108 v109 v110 v111 v112 v120 v121 (k .norm (fr_span_Gaps_26 p1 v108 v109 v110 v111 v112 v120 v121)) = s_span_Gaps_25 cp n p1 v108 v109 v110 v111 v112 v120 v121 (k .norm (fr_span_Gaps_27 p1 v108 v109 v110 v111 v112 v120 v121)) from by kernel_rfl))))
def fr_span_Gaps_29 (p1 : SSpan) (v108 : (List SSpan)) (v109 v110 v111 v112 : Int) (v124 : (List SSpan)) (v125 : Int) : FF := [.yld :: (dT 1 ((.ptr 76 0) :: (dT 4 ((.row false (.rSpan v108)) :: (tL v111) :: (tL v112) :: (dT 6 []))))), dc, dc, dc, (.hdr 2) :: ((eSpan p1) ++ ((.hdr 1) :: (.row true (.rSpan v124)) :: (.hdr 1) :: (tL v125) :: (dT 3 ((.hdr 1) :: (.row false (.rSpan v108)) :: (.hdr 2) :: (tL v109) :: (tL v110) :: (dT 1 []))))), dc]
theorem s_span_Gaps_30_t {R : Type} (cp : Nat → Nat → Bool) (n : Nat) (p1 : SSpan) (v108 : (List SSpan)) (v109 v110 v111 v112 : Int) (v113 : (List SSpan)) (v114 : Int) (k : Ex → FF → Option R) : XI cp n (y_span_Gaps_6 cp n) i_span_Gaps_7 (fr_span_Gaps_11 p1 v108 v109 v110 v111 v112 v113 v114) k = s_span_Gaps_30 cp n p1 v108 v109 v110 v111 v112 v113 v114 (fun v124 v125 => k .norm (fr_span_Gaps_29 p1 v108 v109 v110 v111 v112 v124 v125)) := ((fun c => (show XI cp n (y_span_Gaps_6 cp n) (.seq (.fin (.reg g_span_Gaps_1002) [11, 12] []) (.seq (.fin (.reg g_span_Gaps_1003) [5, 13, 14, 15, 16, 17, 18, 19, 20, 21, 22, 23] [(79, 2)]) c)) (fr_span_Gaps_11 p1 v108 v109 v110 v111 v112 v113 v114) k = s_span_Gaps_13 cp n p1 v108 v109 v110 v111 v112 v113 v114 (fun v115 v116 => XI cp n (y_span_Gaps_6 cp n) c (fr_span_Gaps_14 p1 v108 v109 v110 v111 v112 v113 v114 v115 v116) k) from by kernel_rfl)) i_span_Gaps_6).trans (congrArg (fun q => s_span_Gaps_13 cp n p1 v108 v109 v110 v111 v112 v113 v114 q) (funext fun v115 => funext fun v116 => (s_span_Gaps_28_t cp n p1 v108 v109 v110 v111 v112 v113 v114 v115 v116 k).trans (show s_span_Gaps_28 cp n p1 v108 v109 v110 v111 v112 v113 v114 v115 v116 (fun v122 v123 => k .norm (fr_span_Gaps_27 p1 v108 v109 v110 v111 v112 v122 v123)) = s_span_Gaps_28 cp n p1 v108 v109 v110 v111 v112 v113 v114 v115 v116 (fun v122 v123 => k .norm (fr_span_Gaps_29 p1 v108 v109 v110 v111 v112 v122 v123)) from by kernel_rfl)))
def fr_span_Gaps_31 (p1 : SSpan) (v108 : (List SSpan)) (v109 v110 v111 v112 : Int) (v126 : (List SSpan)) (v127 : Int) : FF := [.yld :: (dT 1 ((.ptr 76 0) :: (dT 4 ((.row false (.rSpan v108)) :: (tL v111) :: (tL v112) :: (dT 6 []))))), dc, dc, dc, (.hdr 2) :: ((eSpan p1) ++ ((.hdr 1) :: (.row true (.rSpan v126)) :: (.hdr 1) :: (tL v127) :: (dT 3 ((.hdr 1) :: (.row false (.rSpan v108)) :: (.hdr 2) :: (tL v109) :: (tL v110) :: (dT 1 []))))), dc]
theorem s_span_Gaps_32_t {R : Type} (cp : Nat → Nat → Bool) (n : Nat) (p1 : SSpan) (v108 : (List SSpan)) (v109 v110 v111 v112 : Int) (v113 : (List SSpan)) (v114 : Int) (k : Ex → FF → Option R) : XI cp n (y_span_Gaps_6 cp n) i_span_Gaps_8 (fr_span_Gaps_11 p1 v108 v109 v110 v111 v112 v113 v114) k = s_span_Gaps_32 cp n p1 v108 v109 v110 v111 v112 v113 v114 (fun v126 v127 => k .norm (fr_span_Gaps_31 p1 v108 v109 v110 v111 v112 v126 v127)) := (show XI cp n (y_span_Gaps_6 cp n) i_span_Gaps_8 (fr_span_Gaps_11 p1 v108 v109 v110 v111 v112 v113 v114) k = XI cp n (y_span_Gaps_6 cp n) i_span_Gaps_7 (fr_span_Gaps_11 p1 v108 v109 v110 v111 v112 v113 v114) (blkT 1 k) from by kernel_rfl).trans ((s_span_Gaps_30_t cp n p1 v108 v109 v110 v111 v112 v113 v114 (blkT 1 k)).trans (by kernel_rfl))
def fr_span_Gaps_34 (p1 : SSpan) (v108 : (List SSpan)) (v109 v110 v111 : Int) (v126 : (List SSpan)) (v127 v128 : Int) : FF := [.yld :: (dT 1 ((.ptr 76 0) :: (dT 4 ((.row false (.rSpan v108)) :: (tL v111) :: (tL v128) :: (dT 6 []))))), dc, dc, dc, (.hdr 2) :: ((eSpan p1) ++ ((.hdr 1) :: (.row true (.rSpan v126)) :: (.hdr 1) :: (tL v127) :: (dT 3 ((.hdr 1) :: (.row false (.rSpan v108)) :: (.hdr 2) :: (tL v109) :: (tL v110) :: (dT 1 []))))), dc]
theorem s_span_Gaps_33_t {R : Type} (cp : Nat → Nat → Bool) (n : Nat) (p1 : SSpan) (v108 : (List SSpan)) (v109 v110 v111 v112 : Int) (v126 : (List SSpan)) (v127 : Int) (k : Ex → FF → Option R) : XI cp n (y_span_Gaps_6 cp n) i_span_Gaps_9 (fr_span_Gaps_31 p1 v108 v109 v110 v111 v112 v126 v127) k = s_span_Gaps_33 cp n p1 v108 v109 v110 v111 v112 v126 v127 (fun v128 => k .norm (fr_span_Gaps_34 p1 v108 v109 v110 v111 v126 v127 v128)) := by kernel_rfl
def fr_span_Gaps_35 (p1 : SSpan) (v108 : (List SSpan)) (v109 v110 v111 v129 : Int) (v130 : (List SSpan)) (v131 : Int) : FF := [.yld :: (dT 1 ((.ptr 76 0) :: (dT 4 ((.row false (.rSpan v108)) :: (tL v111) :: (tL v129) :: (dT 6 []))))), dc, dc, dc, (.hdr 2) :: ((eSpan p1) ++ ((.hdr 1) :: (.row true (.rSpan v130)) :: (.hdr 1) :: (tL v131) :: (dT 3 ((.hdr 1) :: (.row false (.rSpan v108)) :: (.hdr 2) :: (tL v109) :: (tL v110) :: (dT 1 []))))), dc]
theorem s_span_Gaps_36_t {R : Type} (cp : Nat → Nat → Bool) (n : Nat) (p1 : SSpan) (v108 : (List SSpan)) (v109 v110 v111 v112 : Int) (v113 : (List SSpan)) (v114 : Int) (k : Ex → FF → Option R) : XI cp n (y_span_Gaps_6 cp n) i_span_Gaps_10 (fr_span_Gaps_11 p1 v108 v109 v110 v111 v112 v113 v114) k = s_span_Gaps_36 cp n p1 v108 v109 v110 v111 v112 v113 v114 (fun v129 v130 v131 => k .norm (fr_span_Gaps_35 p1 v108 v109 v110 v111 v129 v130 v131)) := (show XI cp n (y_span_Gaps_6 cp n) i_span_Gaps_10 (fr_span_Gaps_11 p1 v108 v109 v110 v111 v112 v113 v114) k = XI cp n (y_span_Gaps_6 cp n) i_span_Gaps_8 (fr_span_Gaps_11 p1 v108 v109 v110 v111 v112 v113 v114) (seqT (XI cp n (y_span_Gaps_6 cp n)) i_span_Gaps_9 k) from by kernel_rfl).trans ((show XI cp n (y_span_Gaps_6 cp n) i_span_Gaps_8 (fr_span_Gaps_11 p1 v108 v109 v110 v111 v112 v113 v114) (seqT (XI cp n (y_span_Gaps_6 cp n)) i_span_Gaps_9 k) = s_span_Gaps_32 cp n p1 v108 v109 v110 v111 v112 v113 v114 (fun v126 v127 => XI cp n (y_span_Gaps_6 cp n) i_span_Gaps_9 (fr_span_Gaps_31 p1 v108 v109 v110 v111 v112 v126 v127) k) from (s_span_Gaps_32_t cp n p1 v108 v109 v110 v111 v112 v113 v114 (seqT (XI cp n (y_span_Gaps_6 cp n)) i_span_Gaps_9 k)).trans (by kernel_rfl)).trans (congrArg (fun q => s_span_Gaps_32 cp n p1 v108 v109 v110 v111 v112 v113 v114 q) (funext fun v126 => funext fun v127 => (s_span_Gaps_33_t cp n p1 v108 v109 v110 v111 v112 v126 v127 k).trans (show s_span_Gaps_33 cp n p1 v108 v109 v110 v111 v112 v126 v127 (fun v128 => k .norm (fr_span_Gaps_34 p1 v108 v109 v110 v111 v126 v127 v128)) = s_span_Gaps_33 cp n p1 v108 v109 v110 v111 v112 v126 v127 (fun v128 => k .norm (fr_span_Gaps_35 p1 v108 v109 v110 v111 v128 v126 v127)) from by kernel_rfl))))
def fr_span_Gaps_37 (p1 : SSpan) (v108 : (List SSpan)) (v109 v110 v111 v132 : Int) (v133 : (List SSpan)) (v134 : Int) : FF := [.yld :: (dT 1 ((.ptr 76 0) :: (dT 4 ((.row false (.rSpan v108)) :: (tL v111) :: (tL v132) :: (dT 6 []))))), dc, dc, dc, (.hdr 2) :: ((eSpan p1) ++ ((.hdr 1) :: (.row true (.rSpan v133)) :: (.hdr 1) :: (tL v134) :: (dT 3 ((.hdr 1) :: (.row false (.rSpan v108)) :: (.hdr 2) :: (tL v109) :: (tL v110) :: (dT 1 []))))), dc]
theorem s_span_Gaps_38_t {R : Type} (cp : Nat → Nat → Bool) (n : Nat) (p1 : SSpan) (v108 : (List SSpan)) (v109 v110 v111 v112 : Int) (v113 : (List SSpan)) (v114 : Int) (k : Ex → FF → Option R) : XI cp n (y_span_Gaps_6 cp n) i_span_Gaps_11 (fr_span_Gaps_11 p1 v108 v109 v110 v111 v112 v113 v114) k = s_span_Gaps_38 cp n p1 v108 v109 v110 v111 v112 v113 v114 (fun v132 v133 v134 => k .norm (fr_span_Gaps_37 p1 v108 v109 v110 v111 v132 v133 v134)) (k (.exit 0) (fr_span_Gaps_12 p1 v108 v109 v110 v113 v114)) := ((fun c => (show XI cp n (y_span_Gaps_6 cp n) (.seq (.reg g_span_Gaps_1001) (.seq (.fin (.cond (.s 10) (.skip) (.clr [0, 2, 7, 8, 9, 10] [] (.exit 0))) [10] []) c)) (fr_span_Gaps_11 p1 v108 v109 v110 v111 v112 v113 v114) k = s_span_Gaps_10 cp n p1 v108 v109 v110 v111 v112 v113 v114 (XI cp n (y_span_Gaps_6 cp n) c (fr_span_Gaps_11 p1 v108 v109 v110 v111 v112 v113 v114) k) (k (.exit 0) (fr_span_Gaps_12 p1 v108 v109 v110 v113 v114)) from by kernel_rfl)) i_span_Gaps_10).trans (congrArg (fun q => s_span_Gaps_10 cp n p1 v108 v109 v110 v111 v112 v113 v114 q (k (.exit 0) (fr_span_Gaps_12 p1 v108 v109 v110 v113 v114))) ((s_span_Gaps_36_t cp n p1 v108 v109 v110 v111 v112 v113 v114 k).trans (show s_span_Gaps_36 cp n p1 v108 v109 v110 v111 v112 v113 v114 (fun v129 v130 v131 => k .norm (fr_span_Gaps_35 p1 v108 v109 v110 v111 v129 v130 v131)) = s_span_Gaps_36 cp n p1 v108 v109 v110 v111 v112 v113 v114 (fun v129 v130 v131 => k .norm (fr_span_Gaps_37 p1 v108 v109 v110 v111 v129 v130 v131)) from by kernel_rfl)))
def fr_span_Gaps_39 (p1 : SSpan) (v108 : (List SSpan)) (v109 v110 : Int) (v135 : (List SSpan)) (v136 : Int) : FF := [dc, dc, dc, dc, (.hdr 2) :: ((eSpan p1) ++ ((.hdr 1) :: (.row true (.rSpan v135)) :: (.hdr 1) :: (tL v136) :: (dT 3 ((.hdr 1) :: (.row false (.rSpan v108)) :: (.hdr 2) :: (tL v109) :: (tL v110) :: (dT 1 []))))), dc]
theorem l_span_Gaps_40_t {R : Type} (cp : Nat → Nat → Bool) (n : Nat) : ∀ (m : Nat) (p1 : SSpan) (v108 : (List SSpan)) (v109 v110 v111 v112 : Int) (v113 : (List SSpan)) (v114 : Int) (k : Ex → FF → Option R), loopN2 (XI cp n (y_span_Gaps_6 cp n) i_span_Gaps_11) m (fr_span_Gaps_11 p1 v108 v109 v110 v111 v112 v113 v114) k = l_span_Gaps_40 cp n m p1 v108 v109 v110 v111 v112 v113 v114 (fun v135 v136 => k (.exit 0) (fr_span_Gaps_39 p1 v108 v109 v110 v135 v136))
  | 0, _, _, _, _, _, _, _, _, _ => rfl
  | m + 1, p1, v108, v109, v110, v111, v112, v113, v114, k => (loopN2_succ (XI cp n (y_span_Gaps_6 cp n) i_span_Gaps_11) m (fr_span_Gaps_11 p1 v108 v109 v110 v111 v112 v113 v114) k).trans ((s_span_Gaps_38_t cp n p1 v108 v109 v110 v111 v112 v113 v114 (loopT (XI cp n (y_span_Gaps_6 cp n) i_span_Gaps_11) m k)).trans ((show s_span_Gaps_38 cp n p1 v108 v109 v110 v111 v112 v113 v114 (fun v132 v133 v134 => loopT (XI cp n (y_span_Gaps_6 cp n) i_span_Gaps_11) m k .norm (fr_span_Gaps_37 p1 v108 v109 v110 v111 v132 v133 v134)) (loopT (XI cp n (y_span_Gaps_6 cp n) i_span_Gaps_11) m k (.exit 0) (fr_span_Gaps_12 p1 v108 v109 v110 v113 v114)) = s_span_Gaps_38 cp n p1 v108 v109 v110 v111 v112 v113 v114 (fun v132 v133 v134 => loopN2 (XI cp n (y_span_Gaps_6 cp n) i_span_Gaps_11) m (fr_span_Gaps_11 p1 v108 v109 v110 v111 v132 v133 v134) k) (k (.exit 0) (fr_span_Gaps_39 p1 v108 v109 v110 v113 v114)) from by kernel_rfl).trans (congrArg (fun q => s_span_Gaps_38 cp n p1 v108 v109 v110 v111 v112 v113 v114 q (k (.exit 0) (fr_span_Gaps_39 p1 v108 v109 v110 v113 v114))) (funext fun v132 => funext fun v133 => funext fun v134 => l_span_Gaps_40_t cp n m p1 v108 v109 v110 v111 v132 v133 v134 k))))
theorem s_span_Gaps_41_t {R : Type} (cp : Nat → Nat → Bool) (n : Nat) (p1 : SSpan) (v108 : (List SSpan)) (v109 v110 v111 : Int) (k : Ex → FF → Option R) : XI cp n (y_span_Gaps_6 cp n) i_span_Gaps_12 (fr_span_Gaps_9 p1 v108 v109 v110 v111) k = s_span_Gaps_41 cp n p1 v108 v109 v110 v111 (fun v135 v136 => k (.exit 0) (fr_span_Gaps_39 p1 v108 v109 v110 v135 v136)) := (show XI cp n (y_span_Gaps_6 cp n) i_span_Gaps_12 (fr_span_Gaps_9 p1 v108 v109 v110 v111) k = loopN2 (XI cp n (y_span_Gaps_6 cp n) i_span_Gaps_11) n (fr_span_Gaps_11 p1 v108 v109 v110 v111 0 [] p1.xFrom) k from by kernel_rfl).trans (l_span_Gaps_40_t cp n n p1 v108 v109 v110 v111 0 [] p1.xFrom k)
def fr_span_Gaps_42 (p1 : SSpan) (v108 : (List SSpan)) (v109 v110 : Int) (v137 : (List SSpan)) (v138 : Int) : FF := [dc, dc, dc, dc, (.hdr 2) :: ((eSpan p1) ++ ((.hdr 1) :: (.row true (.rSpan v137)) :: (.hdr 1) :: (tL v138) :: (dT 3 ((.hdr 1) :: (.row false (.rSpan v108)) :: (.hdr 2) :: (tL v109) :: (tL v110) :: (dT 1 []))))), dc]
theorem s_span_Gaps_43_t {R : Type} (cp : Nat → Nat → Bool) (n : Nat) (p1 : SSpan) (v108 : (List SSpan)) (v109 v110 v111 : Int) (k : Ex → FF → Option R) : XI cp n (y_span_Gaps_6 cp n) i_span_Gaps_13 (fr_span_Gaps_9 p1 v108 v109 v110 v111) k = s_span_Gaps_43 cp n p1 v108 v109 v110 v111 (fun v137 v138 => k .norm (fr_span_Gaps_42 p1 v108 v109 v110 v137 v138)) := (show XI cp n (y_span_Gaps_6 cp n) i_span_Gaps_13 (fr_span_Gaps_9 p1 v108 v109 v110 v111) k = XI cp n (y_span_Gaps_6 cp n) i_span_Gaps_12 (fr_span_Gaps_9 p1 v108 v109 v110 v111) (blkT 0 k) from by kernel_rfl).trans ((s_span_Gaps_41_t cp n p1 v108 v109 v110 v111 (blkT 0 k)).trans (by kernel_rfl))
def fr_span_Gaps_44 (p1 : SSpan) (v108 : (List SSpan)) (v109 v110 : Int) (v139 : (List SSpan)) (v140 : Int) : FF := [dc, dc, dc, dc, (.hdr 2) :: ((eSpan p1) ++ ((.hdr 1) :: (.row true (.rSpan v139)) :: (.hdr 1) :: (tL v140) :: (dT 3 ((.hdr 1) :: (.row false (.rSpan v108)) :: (.hdr 2) :: (tL v109) :: (tL v110) :: (dT 1 []))))), dc]
def fr_span_Gaps_46 (p1 : SSpan) (v108 : (List SSpan)) (v109 v110 : Int) : FF := [.yld :: (.ptr 74 0) :: (.ptr 76 0) :: (dT 13 []), dc, dc, dc, (.hdr 2) :: ((eSpan p1) ++ ((.hdr 1) :: (.row true (.rSpan [])) :: (.hdr 1) :: (tL p1.xFrom) :: (dT 3 ((.hdr 1) :: (.row false (.rSpan v108)) :: (.hdr 2) :: (tL v109) :: (tL v110) :: (dT 1 []))))), dc]
theorem s_span_Gaps_45_t {R : Type} (cp : Nat → Nat → Bool) (n : Nat) (p1 : SSpan) (v108 : (List SSpan)) (v109 v110 : Int) (k : Ex → FF → Option R) : XI cp n (y_span_Gaps_6 cp n) i_span_Gaps_3 (fr_span_Gaps_46 p1 v108 v109 v110) k = s_span_Gaps_45 cp n p1 v108 v109 v110 (fun v139 v140 => k .norm (fr_span_Gaps_44 p1 v108 v109 v110 v139 v140)) := ((fun c => (show XI cp n (y_span_Gaps_6 cp n) (.seq (.fin (.reg g_span_Gaps_1000) [1] []) c) (fr_span_Gaps_46 p1 v108 v109 v110) k = s_span_Gaps_8 cp n p1 v108 v109 v110 (fun v111 => XI cp n (y_span_Gaps_6 cp n) c (fr_span_Gaps_9 p1 v108 v109 v110 v111) k) from by kernel_rfl)) i_span_Gaps_13).trans (congrArg (fun q => s_span_Gaps_8 cp n p1 v108 v109 v110 q) (funext fun v111 => (s_span_Gaps_43_t cp n p1 v108 v109 v110 v111 k).trans (show s_span_Gaps_43 cp n p1 v108 v109 v110 v111 (fun v137 v138 => k .norm (fr_span_Gaps_42 p1 v108 v109 v110 v137 v138)) = s_span_Gaps_43 cp n p1 v108 v109 v110 v111 (fun v137 v138 => k .norm (fr_span_Gaps_44 p1 v108 v109 v110 v137 v138)) from by kernel_rfl)))
def fr_span_Gaps_47 (p1 : SSpan) (v141 : (List SSpan)) (v142 : Int) : FF := [dT 3 ((.ptr 64 0) :: (dT 1 ((.ptr 67 0) :: (.ptr 69 0) :: (dT 9 [])))), dc, dc, dc, (.hdr 2) :: ((eSpan p1) ++ ((.hdr 1) :: (.row true (.rSpan v141)) :: (.hdr 1) :: (tL v142) :: (dT 9 []))), dc]
theorem s_span_Gaps_48_t {R : Type} (cp : Nat → Nat → Bool) (n : Nat) (p1 : SSpan) (v108 : (List SSpan)) (v109 v110 : Int) (k : Ex → FF → Option R) : X cp n i_span_Gaps_14 (fr_span_Gaps_5 p1 v108 v109 v110) k = s_span_Gaps_48 cp n p1 v108 v109 v110 (fun v141 v142 => k .norm (fr_span_Gaps_47 p1 v141 v142)) := (show X cp n i_span_Gaps_14 (fr_span_Gaps_5 p1 v108 v109 v110) k = XI cp n (roundK2 4 [23] [64, 67, 69, 74, 76, 79, 82] (fr_span_Gaps_5 p1 v108 v109 v110) (X cp n i_span_Gaps_0) (X cp n i_span_Gaps_1)) i_span_Gaps_3 (fr_span_Gaps_46 p1 v108 v109 v110) (rfnT 4 (fr_span_Gaps_5 p1 v108 v109 v110) (clrT [22] [(74, 1), (76, 2)] k)) from rfn_eq (v := .clo 83 [(74, 0), (76, 0)]) (by kernel_rfl) (by kernel_rfl) (by kernel_rfl) _ _ _).trans ((congrArg (fun Y => XI cp n Y i_span_Gaps_3 (fr_span_Gaps_46 p1 v108 v109 v110) (rfnT 4 (fr_span_Gaps_5 p1 v108 v109 v110) (clrT [22] [(74, 1), (76, 2)] k))) ((rnd_eq 4 [23] [64, 67, 69, 74, 76, 79, 82] (fr_span_Gaps_5 p1 v108 v109 v110) i_span_Gaps_0 i_span_Gaps_1).trans (show rndT 4 [23] [64, 67, 69, 74, 76, 79, 82] (fr_span_Gaps_5 p1 v108 v109 v110) (X cp n i_span_Gaps_2) = (y_span_Gaps_6 cp n) from by kernel_rfl))).trans ((s_span_Gaps_45_t cp n p1 v108 v109 v110 (rfnT 4 (fr_span_Gaps_5 p1 v108 v109 v110) (clrT [22] [(74, 1), (76, 2)] k))).trans (by kernel_rfl)))
def fr_span_Gaps_49 (p1 : SSpan) (v143 : (List SSpan)) (v144 : Int) : FF := [dT 3 ((.ptr 64 0) :: (dT 1 ((.ptr 67 0) :: (.ptr 69 0) :: (dT 9 [])))), dc, dc, dc, (.hdr 2) :: ((eSpan p1) ++ ((.hdr 1) :: (.row true (.rSpan v143)) :: (.hdr 1) :: (tL v144) :: (dT 9 []))), dc]
theorem s_span_Gaps_50_t {R : Type} (cp : Nat → Nat → Bool) (n : Nat) (p1 : SSpan) (v108 : (List SSpan)) (v109 v110 : Int) (k : Ex → FF → Option R) : X cp n i_span_Gaps_15 (fr_span_Gaps_5 p1 v108 v109 v110) k = s_span_Gaps_50 cp n p1 v108 v109 v110 (fun v143 v144 => k .norm (fr_span_Gaps_49 p1 v143 v144)) := (show X cp n i_span_Gaps_15 (fr_span_Gaps_5 p1 v108 v109 v110) k = X cp n i_span_Gaps_14 (fr_span_Gaps_5 p1 v108 v109 v110) (blkT 0 k) from by kernel_rfl).trans ((s_span_Gaps_48_t cp n p1 v108 v109 v110 (blkT 0 k)).trans (by kernel_rfl))
def fr_span_Gaps_51 (p1 : SSpan) (v145 : (List SSpan)) (v146 : Int) : FF := [dT 3 ((.ptr 64 0) :: (dT 1 ((.ptr 67 0) :: (.ptr 69 0) :: (dT 9 [])))), dc, dc, dc, (.hdr 2) :: ((eSpan p1) ++ ((.hdr 1) :: (.row true (.rSpan v145)) :: (.hdr 1) :: (tL v146) :: (dT 9 []))), dc]
theorem s_span_Gaps_52_t {R : Type} (cp : Nat → Nat → Bool) (n : Nat) (p0 : (List SSpan)) (p1 : SSpan) (k : Ex → FF → Option R) : X cp n i_span_Gaps_16 (fr_span_Gaps_2 p0 p1) k = s_span_Gaps_52 cp n p0 p1 (fun v145 v146 => k .norm (fr_span_Gaps_51 p1 v145 v146)) := ((fun c => (show X cp n (.seq (.fin (.reg g_span_Gaps_5) [0, 20, 21] []) c) (fr_span_Gaps_2 p0 p1) k = s_span_Gaps_4 cp n p0 p1 (fun v108 v109 v110 => X cp n c (fr_span_Gaps_5 p1 v108 v109 v110) k) from by kernel_rfl)) i_span_Gaps_15).trans (congrArg (fun q => s_span_Gaps_4 cp n p0 p1 q) (funext fun v108 => funext fun v109 => funext fun v110 => (s_span_Gaps_50_t cp n p1 v108 v109 v110 k).trans (show s_span_Gaps_50 cp n p1 v108 v109 v110 (fun v143 v144 => k .norm (fr_span_Gaps_49 p1 v143 v144)) = s_span_Gaps_50 cp n p1 v108 v109 v110 (fun v143 v144 => k .norm (fr_span_Gaps_51 p1 v143 v144)) from by kernel_rfl)))
def fr_span_Gaps_54 (v147 : (List SSpan)) : FF := [dT 4 ((.row false (.rSpan v147)) :: (dT 11 [])), dc, dc, dc, dc, dc]
theorem s_span_Gaps_53_t {R : Type} (cp : Nat → Nat → Bool) (n : Nat) (p1 : SSpan) (v145 : (List SSpan)) (v146 : Int) (k : Ex → FF → Option R) : X cp n i_span_Gaps_17 (fr_span_Gaps_51 p1 v145 v146) k = s_span_Gaps_53 cp n p1 v145 v146 (fun v147 => k .ret (fr_span_Gaps_54 v147)) := by kernel_rfl
def fr_span_Gaps_55 (v148 : (List SSpan)) : FF := [dT 4 ((.row false (.rSpan v148)) :: (dT 11 [])), dc, dc, dc, dc, dc]
theorem s_span_Gaps_56_t {R : Type} (cp : Nat → Nat → Bool) (n : Nat) (p0 : (List SSpan)) (p1 : SSpan) (k : Ex → FF → Option R) : X cp n i_span_Gaps_18 (fr_span_Gaps_2 p0 p1) k = s_span_Gaps_56 cp n p0 p1 (fun v148 => k .ret (fr_span_Gaps_55 v148)) := (show X cp n i_span_Gaps_18 (fr_span_Gaps_2 p0 p1) k = X cp n i_span_Gaps_16 (fr_span_Gaps_2 p0 p1) (seqT (X cp n) i_span_Gaps_17 k) from by kernel_rfl).trans ((show X cp n i_span_Gaps_16 (fr_span_Gaps_2 p0 p1) (seqT (X cp n) i_span_Gaps_17 k) = s_span_Gaps_52 cp n p0 p1 (fun v145 v146 => X cp n i_span_Gaps_17 (fr_span_Gaps_51 p1 v145 v146) k) from (s_span_Gaps_52_t cp n p0 p1 (seqT (X cp n) i_span_Gaps_17 k)).trans (by kernel_rfl)).trans (congrArg (fun q => s_span_Gaps_52 cp n p0 p1 q) (funext fun v145 => funext fun v146 => (s_span_Gaps_53_t cp n p1 v145 v146 k).trans (show s_span_Gaps_53 cp n p1 v145 v146 (fun v147 => k .ret (fr_span_Gaps_54 v147)) = s_span_Gaps_53 cp n p1 v145 v146 (fun v147 => k .ret (fr_span_Gaps_55 v147)) from by kernel_rfl))))
def fr_span_Gaps_57 (v149 : (List SSpan)) : FF := [dT 4 ((.row false (.rSpan v149)) :: (dT 11 [])), dc, dc, dc, dc, dc]
def fr_span_Gaps_59 (p0 : (List SSpan)) (p1 : SSpan) : FF := [(.row false (.rSpan p0)) :: (.agg (eSpan p1)) :: (dT 14 []), dc, dc, dc, dc, dc]
theorem s_span_Gaps_58_t {R : Type} (cp : Nat → Nat → Bool) (n : Nat) (p0 : (List SSpan)) (p1 : SSpan) (k : Ex → FF → Option R) : X cp n i_span_Gaps_19 (fr_span_Gaps_59 p0 p1) k = s_span_Gaps_58 cp n p0 p1 (fun v149 => k .ret (fr_span_Gaps_57 v149)) := ((fun c => (show X cp n (.seq (.fin (.reg g_span_Gaps_0) [1, 4] []) (.seq (.seq (.fin (.reg g_span_Gaps_1) [8, 9, 10, 11, 12, 13, 14, 15, 16] []) (.fin (.cond (.s 17) (.seq (.fin (.reg g_span_Gaps_2) [0, 3, 17] [(64, 2)]) (.ret)) (.skip)) [17] [])) (.seq (.reg g_span_Gaps_3) (.seq (.fin (.reg g_span_Gaps_4) [18, 19] []) c)))) (fr_span_Gaps_59 p0 p1) k = s_span_Gaps_1 cp n p0 p1 (X cp n c (fr_span_Gaps_2 p0 p1) k) (k .ret (fr_span_Gaps_57 [])) from by kernel_rfl)) i_span_Gaps_18).trans (congrArg (fun q => s_span_Gaps_1 cp n p0 p1 q (k .ret (fr_span_Gaps_57 []))) ((s_span_Gaps_56_t cp n p0 p1 k).trans (show s_span_Gaps_56 cp n p0 p1 (fun v148 => k .ret (fr_span_Gaps_55 v148)) = s_span_Gaps_56 cp n p0 p1 (fun v148 => k .ret (fr_span_Gaps_57 v148)) from by kernel_rfl)))
theorem run_span_Gaps {R : Type} (cp : Nat → Nat → Bool) (n : Nat) (p0 : (List SSpan)) (p1 : SSpan) (k : Ret2 RW → Option R) : G_span_Gaps cp (n + 1) p0 p1 (fun r0 => k ⟨.row false (.rSpan r0), [], []⟩) = run2 U cp (callP cp n) n fn_span_Gaps [.row false (.rSpan p0), .agg (eSpan p1)] [] k := ((X_run (f := fn_span_Gaps) (av := [.row false (.rSpan p0), .agg (eSpan p1)]) (cells := []) (code := i_span_Gaps_19) (fr := (fr_span_Gaps_59 p0 p1)) (k := k) (by kernel_rfl) (fun K => by kernel_rfl)).trans ((s_span_Gaps_58_t cp n p0 p1 (finK2 fn_span_Gaps k)).trans (by kernel_rfl))).symm
/-! tideway/recv.put$1 -/
theorem run_recv_put_1 {R : Type} (cp : Nat → Nat → Bool) (n : Nat) (p0 : SPiece) (p1 : Int) (k : Ret2 RW → Option R) : G_recv_put_1 cp (n + 1) p0 p1 (fun r0 => k ⟨(tL r0), [], []⟩) = run2 U cp (callP cp n) n fn_recv_put_1 [.agg (ePiece p0), (tL p1)] [] k := by kernel_rfl
/-! slices.BinarySearchFunc[[]tideway/api.Piece,tideway/api.Piece,int] -/
def fr_slices_BinarySearchFunc_Piece_2 (p0 : (List SPiece)) (p1 v153 : Int) : FF := [(.row false (.rPiece p0)) :: (tL p1) :: (.clo 74 []) :: (dT 5 ((tL v153) :: (tL 0) :: (tL v153) :: (dT 5 []))), dc, dc, dc]
def fr_slices_BinarySearchFunc_Piece_4 (p0 : (List SPiece)) (p1 v153 v157 v158 : Int) : FF := [(.row false (.rPiece p0)) :: (tL p1) :: (.clo 74 []) :: (dT 5 ((tL v153) :: (tL v157) :: (tL v158) :: (dT 5 []))), dc, dc, dc]
def fr_slices_BinarySearchFunc_Piece_5 (p0 : (List SPiece)) (p1 v153 v154 : Int) : FF := [(.row false (.rPiece p0)) :: (tL p1) :: (.clo 74 []) :: (dT 5 ((tL v153) :: (tL v154) :: (dT 6 []))), dc, dc, dc]
def fr_slices_BinarySearchFunc_Piece_6 (p0 : (List SPiece)) (p1 v153 v154 v155 : Int) : FF := [(.row false (.rPiece p0)) :: (tL p1) :: (.clo 74 []) :: (dT 5 ((tL v153) :: (tL v154) :: (tL v155) :: (dT 5 []))), dc, dc, dc]
theorem s_slices_BinarySearchFunc_Piece_3_t {R : Type} (cp : Nat → Nat → Bool) (n : Nat) (p0 : (List SPiece)) (p1 v153 v154 v155 : Int) (k : Ex → FF → Option R) : X cp n i_slices_BinarySearchFunc_Piece_0 (fr_slices_BinarySearchFunc_Piece_6 p0 p1 v153 v154 v155) k = s_slices_BinarySearchFunc_Piece_3 cp n p0 p1 v153 v154 v155 (fun v157 v158 => k .norm (fr_slices_BinarySearchFunc_Piece_4 p0 p1 v153 v157 v158)) (k (.exit 0) (fr_slices_BinarySearchFunc_Piece_5 p0 p1 v153 v154)) := by kernel_rfl
def fr_slices_BinarySearchFunc_Piece_7 (p0 : (List SPiece)) (p1 v153 v159 : Int) : FF := [(.row false (.rPiece p0)) :: (tL p1) :: (.clo 74 []) :: (dT 5 ((tL v153) :: (tL v159) :: (dT 6 []))), dc, dc, dc]
theorem l_slices_BinarySearchFunc_Piece_8_t {R : Type} (cp : Nat → Nat → Bool) (n : Nat) : ∀ (m : Nat) (p0 : (List SPiece)) (p1 v153 v154 v155 : Int) (k : Ex → FF → Option R), loopN2 (X cp n i_slices_BinarySearchFunc_Piece_0) m (fr_slices_BinarySearchFunc_Piece_6 p0 p1 v153 v154 v155) k = l_slices_BinarySearchFunc_Piece_8 cp n m p0 p1 v153 v154 v155 (fun v159 => k (.exit 0) (fr_slices_BinarySearchFunc_Piece_7 p0 p1 v153 v159))
  | 0, _, _, _, _, _, _ => rfl
  | m + 1, p0, p1, v153, v154, v155, k => (loopN2_succ (X cp n i_slices_BinarySearchFunc_Piece_0) m (fr_slices_BinarySearchFunc_Piece_6 p0 p1 v153 v154 v155) k).trans ((s_slices_BinarySearchFunc_Piece_3_t cp n p0 p1 v153 v154 v155 (loopT (X cp n i_slices_BinarySearchFunc_Piece_0) m k)).trans ((show s_slices_BinarySearchFunc_Piece_3 cp n p0 p1 v153 v154 v155 (fun v157 v158 => loopT (X cp n i_slices_BinarySearchFunc_Piece_0) m k .norm (fr_slices_BinarySearchFunc_Piece_4 p0 p1 v153 v157 v158)) (loopT (X cp n i_slices_BinarySearchFunc_Piece_0) m k (.exit 0) (fr_slices_BinarySearchFunc_Piece_5 p0 p1 v153 v154)) = s_slices_BinarySearchFunc_Piece_3 cp n p0 p1 v153 v154 v155 (fun v157 v158 => loopN2 (X cp n i_slices_BinarySearchFunc_Piece_0) m (fr_slices_BinarySearchFunc_Piece_6 p0 p1 v153 v157 v158) k) (k (.exit 0) (fr_slices_BinarySearchFunc_Piece_7 p0 p1 v153 v154)) from by kernel_rfl).trans (congrArg (fun q => s_slices_BinarySearchFunc_Piece_3 cp n p0 p1 v153 v154 v155 q (k (.exit 0) (fr_slices_BinarySearchFunc_Piece_7 p0 p1 v153 v154))) (funext fun v157 => funext fun v158 => l_slices_BinarySearchFunc_Piece_8_t cp n m p0 p1 v153 v157 v158 k))))
theorem s_slices_BinarySearchFunc_Piece_9_t {R : Type} (cp : Nat → Nat → Bool) (n : Nat) (p0 : (List SPiece)) (p1 v153 : Int) (k : Ex → FF → Option R) : X cp n i_slices_BinarySearchFunc_Piece_1 (fr_slices_BinarySearchFunc_Piece_2 p0 p1 v153) k = s_slices_BinarySearchFunc_Piece_9 cp n p0 p1 v153 (fun v159 => k (.exit 0) (fr_slices_BinarySearchFunc_Piece_7 p0 p1 v153 v159)) := (show X cp n i_slices_BinarySearchFunc_Piece_1 (fr_slices_BinarySearchFunc_Piece_2 p0 p1 v153) k = loopN2 (X cp n i_slices_BinarySearchFunc_Piece_0) n (fr_slices_BinarySearchFunc_Piece_6 p0 p1 v153 0 v153) k from by kernel_rfl).trans (l_slices_BinarySearchFunc_Piece_8_t cp n n p0 p1 v153 0 v153 k)
def fr_slices_BinarySearchFunc_Piece_10 (p0 : (List SPiece)) (p1 v153 v160 : Int) : FF := [(.row false (.rPiece p0)) :: (tL p1) :: (.clo 74 []) :: (dT 5 ((tL v153) :: (tL v160) :: (dT 6 []))), dc, dc, dc]
theorem s_slices_BinarySearchFunc_Piece_11_t {R : Type} (cp : Nat → Nat → Bool) (n : Nat) (p0 : (List SPiece)) (p1 v153 : Int) (k : Ex → FF → Option R) : X cp n i_slices_BinarySearchFunc_Piece_2 (fr_slices_BinarySearchFunc_Piece_2 p0 p1 v153) k = s_slices_BinarySearchFunc_Piece_11 cp n p0 p1 v153 (fun v160 => k .norm (fr_slices_BinarySearchFunc_Piece_10 p0 p1 v153 v160)) := (show X cp n i_slices_BinarySearchFunc_Piece_2 (fr_slices_BinarySearchFunc_Piece_2 p0 p1 v153) k = X cp n i_slices_BinarySearchFunc_Piece_1 (fr_slices_BinarySearchFunc_Piece_2 p0 p1 v153) (blkT 0 k) from by kernel_rfl).trans ((s_slices_BinarySearchFunc_Piece_9_t cp n p0 p1 v153 (blkT 0 k)).trans (by kernel_rfl))
def fr_slices_BinarySearchFunc_Piece_13 (v160 : Int) (v162 : Bool) : FF := [dT 6 ((tL v160) :: (tB v162) :: (dT 8 [])), dc, dc, dc]
theorem s_slices_BinarySearchFunc_Piece_12_t {R : Type} (cp : Nat → Nat → Bool) (n : Nat) (p0 : (List SPiece)) (p1 v153 v160 : Int) (k : Ex → FF → Option R) : X cp n i_slices_BinarySearchFunc_Piece_3 (fr_slices_BinarySearchFunc_Piece_10 p0 p1 v153 v160) k = s_slices_BinarySearchFunc_Piece_12 cp n p0 p1 v153 v160 (fun v162 => k .ret (fr_slices_BinarySearchFunc_Piece_13 v160 v162)) := by kernel_rfl
def fr_slices_BinarySearchFunc_Piece_14 (v163 : Int) (v164 : Bool) : FF := [dT 6 ((tL v163) :: (tB v164) :: (dT 8 [])), dc, dc, dc]
theorem s_slices_BinarySearchFunc_Piece_15_t {R : Type} (cp : Nat → Nat → Bool) (n : Nat) (p0 : (List SPiece)) (p1 v153 : Int) (k : Ex → FF → Option R) : X cp n i_slices_BinarySearchFunc_Piece_4 (fr_slices_BinarySearchFunc_Piece_2 p0 p1 v153) k = s_slices_BinarySearchFunc_Piece_15 cp n p0 p1 v153 (fun v163 v164 => k .ret (fr_slices_BinarySearchFunc_Piece_14 v163 v164)) := (show X cp n i_slices_BinarySearchFunc_Piece_4 (fr_slices_BinarySearchFunc_Piece_2 p0 p1 v153) k = X cp n i_slices_BinarySearchFunc_Piece_2 (fr_slices_BinarySearchFunc_Piece_2 p0 p1 v153) (seqT (X cp n) i_slices_BinarySearchFunc_Piece_3 k) from by kernel_rfl).trans ((show X cp n i_slices_BinarySearchFunc_Piece_2 (fr_slices_BinarySearchFunc_Piece_2 p0 p1 v153) (seqT (X cp n) i_slices_BinarySearchFunc_Piece_3 k) = s_slices_BinarySearchFunc_Piece_11 cp n p0 p1 v153 (fun v160 => X cp n i_slices_BinarySearchFunc_Piece_3 (fr_slices_BinarySearchFunc_Piece_10 p0 p1 v153 v160) k) from (s_slices_BinarySearchFunc_Piece_11_t cp n p0 p1 v153 (seqT (X cp n) i_slices_BinarySearchFunc_Piece_3 k)).trans (by kernel_rfl)).trans (congrArg (fun q => s_slices_BinarySearchFunc_Piece_11 cp n p0 p1 v153 q) (funext fun v160 => (s_slices_BinarySearchFunc_Piece_12_t cp n p0 p1 v153 v160 k).trans (show s_slices_BinarySearchFunc_Piece_12 cp n p0 p1 v153 v160 (fun v162 => k .ret (fr_slices_BinarySearchFunc_Piece_13 v160 v162)) = s_slices_BinarySearchFunc_Piece_12 cp n p0 p1 v153 v160 (fun v162 => k .ret (fr_slices_BinarySearchFunc_Piece_14 v160 v162)) from by kernel_rfl))))
def fr_slices_BinarySearchFunc_Piece_16 (v165 : Int) (v166 : Bool) : FF := [dT 6 ((tL v165) :: (tB v166) :: (dT 8 [])), dc, dc, dc]
def fr_slices_BinarySearchFunc_Piece_18 (p0 : (List SPiece)) (p1 : Int) : FF := [(.row false (.rPiece p0)) :: (tL p1) :: (.clo 74 []) :: (dT 13 []), dc, dc, dc]
theorem s_slices_BinarySearchFunc_Piece_17_t {R : Type} (cp : Nat → Nat → Bool) (n : Nat) (p0 : (List SPiece)) (p1 : Int) (k : Ex → FF → Option R) : X cp n i_slices_BinarySearchFunc_Piece_5 (fr_slices_BinarySearchFunc_Piece_18 p0 p1) k = s_slices_BinarySearchFunc_Piece_17 cp n p0 p1 (fun v165 v166 => k .ret (fr_slices_BinarySearchFunc_Piece_16 v165 v166)) := ((fun c => (show X cp n (.seq (.fin (.reg g_slices_BinarySearchFunc_Piece_0) [6, 7] []) (.seq (.fin (.reg g_slices_BinarySearchFunc_Piece_1) [12, 13] []) (.seq (.fin (.reg g_slices_BinarySearchFunc_Piece_2) [14] []) c))) (fr_slices_BinarySearchFunc_Piece_18 p0 p1) k = s_slices_BinarySearchFunc_Piece_1 cp n p0 p1 (fun v153 => X cp n c (fr_slices_BinarySearchFunc_Piece_2 p0 p1 v153) k) from by kernel_rfl)) i_slices_BinarySearchFunc_Piece_4).trans (congrArg (fun q => s_slices_BinarySearchFunc_Piece_1 cp n p0 p1 q) (funext fun v153 => (s_slices_BinarySearchFunc_Piece_15_t cp n p0 p1 v153 k).trans (show s_slices_BinarySearchFunc_Piece_15 cp n p0 p1 v153 (fun v163 v164 => k .ret (fr_slices_BinarySearchFunc_Piece_14 v163 v164)) = s_slices_BinarySearchFunc_Piece_15 cp n p0 p1 v153 (fun v163 v164 => k .ret (fr_slices_BinarySearchFunc_Piece_16 v163 v164)) from by kernel_rfl)))
theorem run_slices_BinarySearchFunc_Piece {R : Type} (cp : Nat → Nat → Bool) (n : Nat) (p0 : (List SPiece)) (p1 : Int) (k : Ret2 RW → Option R) : G_slices_BinarySearchFunc_Piece cp (n + 1) p0 p1 (fun r0 r1 => k ⟨.tup [(tL r0), (tB r1)], [], []⟩) = run2 U cp (callP cp n) n fn_slices_BinarySearchFunc_Piece [.row false (.rPiece p0), (tL p1), .clo 74 []] [] k := ((X_run (f := fn_slices_BinarySearchFunc_Piece) (av := [.row false (.rPiece p0), (tL p1), .clo 74 []]) (cells := []) (code := i_slices_BinarySearchFunc_Piece_5) (fr := (fr_slices_BinarySearchFunc_Piece_18 p0 p1)) (k := k) (by kernel_rfl) (fun K => by kernel_rfl)).trans ((s_slices_BinarySearchFunc_Piece_17_t cp n p0 p1 (finK2 fn_slices_BinarySearchFunc_Piece k)).trans (by kernel_rfl))).symm
/-! slices.Clip[[]byte,byte] -/
theorem run_slices_Clip_byte {R : Type} (cp : Nat → Nat → Bool) (n : Nat) (p0 : (List Int)) (k : Ret2 RW → Option R) : G_slices_Clip_byte cp (n + 1) p0 (fun r0 => k ⟨.row true (.ruint8 r0), [], []⟩) = run2 U cp (callP cp n) n fn_slices_Clip_byte [.row false (.ruint8 p0)] [] k := by kernel_rfl
/-! tideway/recv.put -/
def fr_recv_put_2 (v184 : (List SPiece)) : FF := [(.row true (.rPiece v184)) :: (dT 6 ((.un none (.rPiece [])) :: (dT 8 []))), dc, dc, dc, dc]
def fr_recv_put_4 (v184 : (List SPiece)) (v185 : Int) : FF := [dT 7 ((.un none (.rPiece [])) :: (dT 8 [])), dT 13 ([.row false (.rPiece v184), (tL v185), (tL 0)]), dc, dc, dc]
def fr_recv_put_6 (v184 : (List SPiece)) (v185 : Int) (v190 : (List SPiece)) (v191 : Int) : FF := [dT 7 ((.un none (.rPiece v190)) :: (dT 8 [])), dT 13 ([.row false (.rPiece v184), (tL v185), (tL v191)]), dc, dc, dc]
def fr_recv_put_7 (v186 : (List SPiece)) : FF := [dT 7 ((.un none (.rPiece v186)) :: (dT 8 [])), dc, dc, dc, dc]
def fr_recv_put_8 (v184 : (List SPiece)) (v185 : Int) (v186 : (List SPiece)) (v187 : Int) : FF := [dT 7 ((.un none (.rPiece v186)) :: (dT 8 [])), dT 13 ([.row false (.rPiece v184), (tL v185), (tL v187)]), dc, dc, dc]
theorem s_recv_put_5_t {R : Type} (cp : Nat → Nat → Bool) (n : Nat) (v184 : (List SPiece)) (v185 : Int) (v186 : (List SPiece)) (v187 : Int) (k : Ex → FF → Option R) : X cp n i_recv_put_0 (fr_recv_put_8 v184 v185 v186 v187) k = s_recv_put_5 cp n v184 v185 v186 v187 (fun v190 v191 => k .norm (fr_recv_put_6 v184 v185 v190 v191)) (k (.exit 0) (fr_recv_put_7 v186)) := by kernel_rfl
def fr_recv_put_9 (v192 : (List SPiece)) : FF := [dT 7 ((.un none (.rPiece v192)) :: (dT 8 [])), dc, dc, dc, dc]
theorem l_recv_put_10_t {R : Type} (cp : Nat → Nat → Bool) (n : Nat) : ∀ (m : Nat) (v184 : (List SPiece)) (v185 : Int) (v186 : (List SPiece)) (v187 : Int) (k : Ex → FF → Option R), loopN2 (X cp n i_recv_put_0) m (fr_recv_put_8 v184 v185 v186 v187) k = l_recv_put_10 cp n m v184 v185 v186 v187 (fun v192 => k (.exit 0) (fr_recv_put_9 v192))
  | 0, _, _, _, _, _ => rfl
  | m + 1, v184, v185, v186, v187, k => (loopN2_succ (X cp n i_recv_put_0) m (fr_recv_put_8 v184 v185 v186 v187) k).trans ((s_recv_put_5_t cp n v184 v185 v186 v187 (loopT (X cp n i_recv_put_0) m k)).trans ((show s_recv_put_5 cp n v184 v185 v186 v187 (fun v190 v191 => loopT (X cp n i_recv_put_0) m k .norm (fr_recv_put_6 v184 v185 v190 v191)) (loopT (X cp n i_recv_put_0) m k (.exit 0) (fr_recv_put_7 v186)) = s_recv_put_5 cp n v184 v185 v186 v187 (fun v190 v191 => loopN2 (X cp n i_recv_put_0) m (fr_recv_put_8 v184 v185 v190 v191) k) (k (.exit 0) (fr_recv_put_9 v186)) from by kernel_rfl).trans (congrArg (fun q => s_recv_put_5 cp n v184 v185 v186 v187 q (k (.exit 0) (fr_recv_put_9 v186))) (funext fun v190 => funext fun v191 => l_recv_put_10_t cp n m v184 v185 v190 v191 k))))
theorem s_recv_put_11_t {R : Type} (cp : Nat → Nat → Bool) (n : Nat) (v184 : (List SPiece)) (v185 : Int) (k : Ex → FF → Option R) : X cp n i_recv_put_1 (fr_recv_put_4 v184 v185) k = s_recv_put_11 cp n v184 v185 (fun v192 => k (.exit 0) (fr_recv_put_9 v192)) := (show X cp n i_recv_put_1 (fr_recv_put_4 v184 v185) k = loopN2 (X cp n i_recv_put_0) n (fr_recv_put_8 v184 v185 [] 0) k from by kernel_rfl).trans (l_recv_put_10_t cp n n v184 v185 [] 0 k)
def fr_recv_put_12 (v193 : (List SPiece)) : FF := [dT 7 ((.un none (.rPiece v193)) :: (dT 8 [])), dc, dc, dc, dc]
theorem s_recv_put_13_t {R : Type} (cp : Nat → Nat → Bool) (n : Nat) (v184 : (List SPiece)) (v185 : Int) (k : Ex → FF → Option R) : X cp n i_recv_put_2 (fr_recv_put_4 v184 v185) k = s_recv_put_13 cp n v184 v185 (fun v193 => k .norm (fr_recv_put_12 v193)) := (show X cp n i_recv_put_2 (fr_recv_put_4 v184 v185) k = X cp n i_recv_put_1 (fr_recv_put_4 v184 v185) (blkT 0 k) from by kernel_rfl).trans ((s_recv_put_11_t cp n v184 v185 (blkT 0 k)).trans (by kernel_rfl))
def fr_recv_put_14 (v194 : (List SPiece)) : FF := [dT 7 ((.un none (.rPiece v194)) :: (dT 8 [])), dc, dc, dc, dc]
theorem s_recv_put_15_t {R : Type} (cp : Nat → Nat → Bool) (n : Nat) (v184 : (List SPiece)) (k : Ex → FF → Option R) : X cp n i_recv_put_3 (fr_recv_put_2 v184) k = s_recv_put_15 cp n v184 (fun v194 => k .norm (fr_recv_put_14 v194)) := ((fun c => (show X cp n (.seq (.fin (.reg g_recv_put_4) [0] []) c) (fr_recv_put_2 v184) k = s_recv_put_3 cp n v184 (fun v185 => X cp n c (fr_recv_put_4 v184 v185) k) from by kernel_rfl)) i_recv_put_2).trans (congrArg (fun q => s_recv_put_3 cp n v184 q) (funext fun v185 => (s_recv_put_13_t cp n v184 v185 k).trans (show s_recv_put_13 cp n v184 v185 (fun v193 => k .norm (fr_recv_put_12 v193)) = s_recv_put_13 cp n v184 v185 (fun v193 => k .norm (fr_recv_put_14 v193)) from by kernel_rfl)))
def fr_recv_put_17 (v194 : (List SPiece)) : FF := [dT 4 ((.row true (.rPiece v194)) :: (dT 11 [])), dc, dc, dc, dc]
theorem s_recv_put_16_t {R : Type} (cp : Nat → Nat → Bool) (n : Nat) (v194 : (List SPiece)) (k : Ex → FF → Option R) : X cp n i_recv_put_4 (fr_recv_put_14 v194) k = s_recv_put_16 cp n v194 (k .ret (fr_recv_put_17 v194)) := by kernel_rfl
def fr_recv_put_18 (v195 : (List SPiece)) : FF := [dT 4 ((.row true (.rPiece v195)) :: (dT 11 [])), dc, dc, dc, dc]
theorem s_recv_put_19_t {R : Type} (cp : Nat → Nat → Bool) (n : Nat) (v184 : (List SPiece)) (k : Ex → FF → Option R) : X cp n i_recv_put_5 (fr_recv_put_2 v184) k = s_recv_put_19 cp n v184 (fun v195 => k .ret (fr_recv_put_18 v195)) := (show X cp n i_recv_put_5 (fr_recv_put_2 v184) k = X cp n i_recv_put_3 (fr_recv_put_2 v184) (seqT (X cp n) i_recv_put_4 k) from by kernel_rfl).trans ((show X cp n i_recv_put_3 (fr_recv_put_2 v184) (seqT (X cp n) i_recv_put_4 k) = s_recv_put_15 cp n v184 (fun v194 => X cp n i_recv_put_4 (fr_recv_put_14 v194) k) from (s_recv_put_15_t cp n v184 (seqT (X cp n) i_recv_put_4 k)).trans (by kernel_rfl)).trans (congrArg (fun q => s_recv_put_15 cp n v184 q) (funext fun v194 => (s_recv_put_16_t cp n v194 k).trans (show s_recv_put_16 cp n v194 (k .ret (fr_recv_put_17 v194)) = s_recv_put_16 cp n v194 (k .ret (fr_recv_put_18 v194)) from by kernel_rfl))))
def fr_recv_put_20 (v196 : (List SPiece)) : FF := [dT 4 ((.row true (.rPiece v196)) :: (dT 11 [])), dc, dc, dc, dc]
def fr_recv_put_22 (p0 : (List SPiece)) (p1 : SPiece) : FF := [(.row false (.rPiece p0)) :: (.agg (ePiece p1)) :: (dT 14 []), dc, dc, dc, dc]
theorem s_recv_put_21_t {R : Type} (cp : Nat → Nat → Bool) (n : Nat) (p0 : (List SPiece)) (p1 : SPiece) (k : Ex → FF → Option R) : X cp n i_recv_put_6 (fr_recv_put_22 p0 p1) k = s_recv_put_21 cp n p0 p1 (fun v196 => k .ret (fr_recv_put_20 v196)) := ((fun c => (show X cp n (.seq (.fin (.reg g_recv_put_0) [1, 4] []) (.seq (.fin (.reg g_recv_put_1) [6, 11, 12, 13, 14, 15, 16, 17] []) (.seq (.fin (.reg g_recv_put_2) [3, 5, 18, 19, 20, 21, 22, 23, 24, 25, 26, 27, 28] [(72, 2)]) (.seq (.reg g_recv_put_3) (.seq (.skip) c))))) (fr_recv_put_22 p0 p1) k = s_recv_put_1 cp n p0 p1 (fun v184 => X cp n c (fr_recv_put_2 v184) k) from by kernel_rfl)) i_recv_put_5).trans (congrArg (fun q => s_recv_put_1 cp n p0 p1 q) (funext fun v184 => (s_recv_put_19_t cp n v184 k).trans (show s_recv_put_19 cp n v184 (fun v195 => k .ret (fr_recv_put_18 v195)) = s_recv_put_19 cp n v184 (fun v195 => k .ret (fr_recv_put_20 v195)) from by kernel_rfl)))
theorem run_recv_put {R : Type} (cp : Nat → Nat → Bool) (n : Nat) (p0 : (List SPiece)) (p1 : SPiece) (k : Ret2 RW → Option R) : G_recv_put cp (n + 1) p0 p1 (fun r0 => k ⟨.row true (.rPiece r0), [], []⟩) = run2 U cp (callP cp n) n fn_recv_put [.row false (.rPiece p0), .agg (ePiece p1)] [] k := ((X_run (f := fn_recv_put) (av := [.row false (.rPiece p0), .agg (ePiece p1)]) (cells := []) (code := i_recv_put_6) (fr := (fr_recv_put_22 p0 p1)) (k := k) (by kernel_rfl) (fun K => by kernel_rfl)).trans ((s_recv_put_21_t cp n p0 p1 (finK2 fn_recv_put k)).trans (by kernel_rfl))).symm
/-! tideway/recv.take$1 -/
theorem run_recv_take_1 {R : Type} (cp : Nat → Nat → Bool) (n : Nat) (p0 : SSpan) (q0 : SRecv) (q1 : Int) (q2 : (List Int)) (q3 : Bool) (k : Ret2 RW → Option R) : G_recv_take_1 cp (n + 1) p0 q0 q1 q2 q3 (fun r0 r1 r2 r3 => k ⟨.tup [], [(eRecvt r0), [(tL r1)], [.row false (.ruint8 r2)], [(tB r3)]], []⟩) = run2 U cp (callP cp n) n fn_recv_take_1 [.agg (eSpan p0), .ptr 43 0, .ptr 23 0, .ptr 41 0, .ptr 39 0] [(eRecvt q0), [(tL q1)], [.row false (.ruint8 q2)], [(tB q3)]] k := by kernel_rfl
/-! tideway/recv.take -/
def fr_recv_take_2 (p0 : SRecv) (p1 : Int) (p2 : (List Int)) (v181 : Int) : FF := [dT 3 ((.ptr 112 0) :: (.ptr 128 0) :: (.ptr 130 0) :: (.ptr 132 0) :: (dT 1 ((tL v181) :: (.ptr 148 0) :: (dT 6 [])))), dc, dc, dc, dc, dc, dc, (.hdr 15) :: (eRecvt p0), [.hdr 1, (tL p1), .hdr 1, .row false (.ruint8 p2), .hdr 15, (tL 0), .row true (.ruint8 []), .row true (.rPiece []), (tL 0), (tL 0), (tL 0), (tI .u32 0), (tB false), (tB false), (tL 0), (tB false)], (.row true (.rSpan [])) :: (tI .u32 0) :: (tI .u32 0) :: (tB false) :: (.hdr 1) :: (.row true (.rSpan [])) :: (dT 10 []), dc, dc]
def fr_recv_take_4 (p0 : SRecv) (p1 : Int) (p2 : (List Int)) (v181 : Int) (v183 : SRecv) : FF := [dT 3 ((.ptr 112 0) :: (.ptr 128 0) :: (.ptr 130 0) :: (.ptr 132 0) :: (dT 1 ((tL v181) :: (.ptr 148 0) :: (dT 6 [])))), dT 15 ([.clo 70 [(158, 0)]]), dc, dc, dc, dc, dc, (.hdr 15) :: (eRecvt p0), [.hdr 1, (tL p1), .hdr 1, .row false (.ruint8 p2), .hdr 15, (tL 0), .row true (.ruint8 []), .row true (.rPiece []), (tL 0), (tL 0), (tL 0), (tI .u32 0), (tB false), (tB false), (tL 0), (tB false)], (.row true (.rSpan [])) :: (tI .u32 0) :: (tI .u32 0) :: (tB false) :: (.hdr 1) :: (.row true (.rSpan [])) :: (dT 8 ((.hdr 15) :: (sl 0 1 (eRecv v183)))), sl 1 14 (eRecv v183) ++ (dT 2 []), dc]
def fr_recv_take_6 (v181 : Int) : FF := [dT 3 ((.ptr 112 0) :: (.ptr 128 0) :: (.ptr 130 0) :: (.ptr 132 0) :: (dT 1 ((tL v181) :: (.ptr 148 0) :: (dT 6 [])))), dT 15 ([.clo 70 [(158, 0)]]), dc, dc, dc, dc, dc, dc, dc, dc, dc, dc]
def y_recv_take_5 {R : Type} (cp : Nat → Nat → Bool) (n : Nat) (v181 : Int) : List (TV RW) → FF → (FF → Option R) → Option R := rndT 7 [32] [112, 128, 130, 132, 148, 158, 174] (fr_recv_take_6 v181) (X cp n i_recv_take_2)
def fr_recv_take_8 (p0 : SRecv) (p1 : Int) (p2 : (List Int)) (v181 : Int) (v183 : SRecv) (v184 : Int) : FF := [.yld :: (dT 5 ((.row false (.rPiece v183.xLate)) :: (tL v184) :: (tL 0) :: (dT 7 []))), dc, dc, dc, dc, dc, dc, (.hdr 15) :: (eRecvt p0), [.hdr 1, (tL p1), .hdr 1, .row false (.ruint8 p2), .hdr 15, (tL 0), .row true (.ruint8 []), .row true (.rPiece []), (tL 0), (tL 0), (tL 0), (tI .u32 0), (tB false), (tB false), (tL 0), (tB false)], (.row true (.rSpan [])) :: (tI .u32 0) :: (tI .u32 0) :: (tB false) :: (.hdr 1) :: (.row true (.rSpan [])) :: (dT 8 ((.hdr 15) :: (sl 0 1 (eRecv v183)))), sl 1 14 (eRecv v183) ++ (dT 2 []), dc]
def fr_recv_take_10 (p0 : SRecv) (p1 : Int) (p2 : (List Int)) (v181 : Int) (v183 : SRecv) (v184 v185 : Int) (v186 : (List SSpan)) : FF := [.yld :: (dT 5 ((.row false (.rPiece v183.xLate)) :: (tL v184) :: (tL v185) :: (dT 7 []))), dc, dc, dc, dc, dc, dc, (.hdr 15) :: (eRecvt p0), [.hdr 1, (tL p1), .hdr 1, .row false (.ruint8 p2), .hdr 15, (tL 0), .row true (.ruint8 []), .row true (.rPiece []), (tL 0), (tL 0), (tL 0), (tI .u32 0), (tB false), (tB false), (tL 0), (tB false)], (.row true (.rSpan [])) :: (tI .u32 0) :: (tI .u32 0) :: (tB false) :: (.hdr 1) :: (.row true (.rSpan v186)) :: (dT 8 ((.hdr 15) :: (sl 0 1 (eRecv v183)))), sl 1 14 (eRecv v183) ++ (dT 2 []), dc]
def fr_recv_take_11 (p0 : SRecv) (p1 : Int) (p2 : (List Int)) (v181 : Int) (v183 : SRecv) (v186 : (List SSpan)) : FF := [dc, dc, dc, dc, dc, dc, dc, (.hdr 15) :: (eRecvt p0), [.hdr 1, (tL p1), .hdr 1, .row false (.ruint8 p2), .hdr 15, (tL 0), .row true (.ruint8 []), .row true (.rPiece []), (tL 0), (tL 0), (tL 0), (tI .u32 0), (tB false), (tB false), (tL 0), (tB false)], (.row true (.rSpan [])) :: (tI .u32 0) :: (tI .u32 0) :: (tB false) :: (.hdr 1) :: (.row true (.rSpan v186)) :: (dT 8 ((.hdr 15) :: (sl 0 1 (eRecv v183)))), sl 1 14 (eRecv v183) ++ (dT 2 []), dc]
def fr_recv_take_13 (p0 : SRecv) (p1 : Int) (p2 : (List Int)) (v181 : Int) (v183 : SRecv) (v184 v185 : Int) (v186 : (List SSpan)) (v187 : Int) (v188 : (List Int)) : FF := [.yld :: (dT 3 ((.ptr 174 0) :: (dT 1 ((.row false (.rPiece v183.xLate)) :: (tL v184) :: (tL v185) :: (dT 7 []))))), dc, dc, dc, dc, dc, dc, (.hdr 15) :: (eRecvt p0), [.hdr 1, (tL p1), .hdr 1, .row false (.ruint8 p2), .hdr 15, (tL 0), .row true (.ruint8 []), .row true (.rPiece []), (tL 0), (tL 0), (tL 0), (tI .u32 0), (tB false), (tB false), (tL 0), (tB false)], (.row true (.rSpan [])) :: (tI .u32 0) :: (tI .u32 0) :: (tB false) :: (.hdr 1) :: (.row true (.rSpan v186)) :: (dT 8 ((.hdr 15) :: (sl 0 1 (eRecv v183)))), sl 1 14 (eRecv v183) ++ [.hdr 2, (tL v187)], (.row false (.ruint8 v188)) :: (dT 15 [])]
def fr_recv_take_15 (p0 : SRecv) (p1 : Int) (p2 : (List Int)) (v181 : Int) (v183 : SRecv) (v184 v185 : Int) (v186 : (List SSpan)) (v187 : Int) (v188 : (List Int)) (v190 v191 : Int) : FF := [.yld :: (dT 3 ((.ptr 174 0) :: (dT 1 ((.row false (.rPiece v183.xLate)) :: (tL v184) :: (tL v185) :: (dT 3 (.yld :: (.agg [(tL v187), .row false (.ruint8 v188)]) :: (.agg [(tL v190), (tL v191)]) :: (dT 1 []))))))), dc, dc, dc, dc, dc, dc, (.hdr 15) :: (eRecvt p0), [.hdr 1, (tL p1), .hdr 1, .row false (.ruint8 p2), .hdr 15, (tL 0), .row true (.ruint8 []), .row true (.rPiece []), (tL 0), (tL 0), (tL 0), (tI .u32 0), (tB false), (tB false), (tL 0), (tB false)], (.row true (.rSpan [])) :: (tI .u32 0) :: (tI .u32 0) :: (tB false) :: (.hdr 1) :: (.row true (.rSpan v186)) :: (dT 8 ((.hdr 15) :: (sl 0 1 (eRecv v183)))), sl 1 14 (eRecv v183) ++ [.hdr 2, (tL v187)], (.row false (.ruint8 v188)) :: (dT 15 [])]
theorem s_recv_take_14_t {R : Type} (cp : Nat → Nat → Bool) (n : Nat) (p0 : SRecv) (p1 : Int) (p2 : (List Int)) (v181 : Int) (v183 : SRecv) (v184 v185 : Int) (v186 : (List SSpan)) (v187 : Int) (v188 : (List Int)) (A B : FF → Option R) : (gF (fr_recv_take_13 p0 p1 p2 v181 v183 v184 v185 v186 v187 v188) fun l => steps2 U cp (callP cp n) g_recv_take_10031 l fun l1 => yGuard2 none l1 (A l1) (B l1)) = s_recv_take_14 cp n p0 p1 p2 v181 v183 v184 v185 v186 v187 v188 (fun v190 v191 => A (fr_recv_take_15 p0 p1 p2 v181 v183 v184 v185 v186 v187 v188 v190 v191)) := by kernel_rfl
def fr_recv_take_17 (p0 : SRecv) (p1 : Int) (p2 : (List Int)) (v181 : Int) (v183 : SRecv) (v187 : Int) (v188 : (List Int)) (v192 : (List SSpan)) : FF := [dT 3 ((.ptr 112 0) :: (.ptr 128 0) :: (.ptr 130 0) :: (.ptr 132 0) :: (dT 1 ((tL v181) :: (.ptr 148 0) :: (dT 6 [])))), dT 15 ([.clo 70 [(158, 0)]]), dc, dc, dc, dc, dc, (.hdr 15) :: (eRecvt p0), [.hdr 1, (tL p1), .hdr 1, .row false (.ruint8 p2), .hdr 15, (tL 0), .row true (.ruint8 []), .row true (.rPiece []), (tL 0), (tL 0), (tL 0), (tI .u32 0), (tB false), (tB false), (tL 0), (tB false)], (.row true (.rSpan [])) :: (tI .u32 0) :: (tI .u32 0) :: (tB false) :: (.hdr 1) :: (.row true (.rSpan v192)) :: (dT 8 ((.hdr 15) :: (sl 0 1 (eRecv v183)))), sl 1 14 (eRecv v183) ++ [.hdr 2, (tL v187)], (.row false (.ruint8 v188)) :: (dT 15 [])]
def fr_recv_take_18 (p0 : SRecv) (p1 : Int) (p2 : (List Int)) (v181 : Int) (v183 : SRecv) (v186 : (List SSpan)) (v187 : Int) (v188 : (List Int)) (v190 v191 : Int) : FF := [dT 3 ((.ptr 112 0) :: (.ptr 128 0) :: (.ptr 130 0) :: (.ptr 132 0) :: (dT 1 ((tL v181) :: (.ptr 148 0) :: (dT 6 [])))), dT 15 ([.clo 70 [(158, 0)]]), (.agg [(tL v190), (tL v191)]) :: (dT 15 []), dc, dc, dc, dc, (.hdr 15) :: (eRecvt p0), [.hdr 1, (tL p1), .hdr 1, .row false (.ruint8 p2), .hdr 15, (tL 0), .row true (.ruint8 []), .row true (.rPiece []), (tL 0), (tL 0), (tL 0), (tI .u32 0), (tB false), (tB false), (tL 0), (tB false)], (.row true (.rSpan [])) :: (tI .u32 0) :: (tI .u32 0) :: (tB false) :: (.hdr 1) :: (.row true (.rSpan v186)) :: (dT 8 ((.hdr 15) :: (sl 0 1 (eRecv v183)))), sl 1 14 (eRecv v183) ++ [.hdr 2, (tL v187)], (.row false (.ruint8 v188)) :: (dT 15 [])]
theorem s_recv_take_16_t {R : Type} (cp : Nat → Nat → Bool) (n : Nat) (p0 : SRecv) (p1 : Int) (p2 : (List Int)) (v181 : Int) (v183 : SRecv) (v186 : (List SSpan)) (v187 : Int) (v188 : (List Int)) (v190 v191 : Int) (k : Ex → FF → Option R) : X cp n i_recv_take_2 (fr_recv_take_18 p0 p1 p2 v181 v183 v186 v187 v188 v190 v191) k = s_recv_take_16 cp n p0 p1 p2 v181 v183 v186 v187 v188 v190 v191 (fun v192 => k .norm (fr_recv_take_17 p0 p1 p2 v181 v183 v187 v188 v192)) := by kernel_rfl
def fr_recv_take_20 (p0 : SRecv) (p1 : Int) (p2 : (List Int)) (v181 : Int) (v183 : SRecv) (v184 v185 v187 : Int) (v188 : (List Int)) (v190 v191 : Int) (v192 : (List SSpan)) : FF := [.yld :: (dT 3 ((.ptr 174 0) :: (dT 1 ((.row false (.rPiece v183.xLate)) :: (tL v184) :: (tL v185) :: (dT 3 ([.yld, .agg [(tL v187), .row false (.ruint8 v188)], .agg [(tL v190), (tL v191)], (tB true)])))))), dc, dc, dc, dc, dc, dc, (.hdr 15) :: (eRecvt p0), [.hdr 1, (tL p1), .hdr 1, .row false (.ruint8 p2), .hdr 15, (tL 0), .row true (.ruint8 []), .row true (.rPiece []), (tL 0), (tL 0), (tL 0), (tI .u32 0), (tB false), (tB false), (tL 0), (tB false)], (.row true (.rSpan [])) :: (tI .u32 0) :: (tI .u32 0) :: (tB false) :: (.hdr 1) :: (.row true (.rSpan v192)) :: (dT 8 ((.hdr 15) :: (sl 0 1 (eRecv v183)))), sl 1 14 (eRecv v183) ++ [.hdr 2, (tL v187)], (.row false (.ruint8 v188)) :: (dT 15 [])]
theorem q_recv_take_19_t {R : Type} (cp : Nat → Nat → Bool) (n : Nat) (p0 : SRecv) (p1 : Int) (p2 : (List Int)) (v181 : Int) (v183 : SRecv) (v184 v185 : Int) (v186 : (List SSpan)) (v187 : Int) (v188 : (List Int)) (v190 v191 : Int) (K : FF → Option R) : yRun2 (y_recv_take_5 cp n v181) (.s 12) [.s 14] 15 (fr_recv_take_15 p0 p1 p2 v181 v183 v184 v185 v186 v187 v188 v190 v191) K = s_recv_take_16 cp n p0 p1 p2 v181 v183 v186 v187 v188 v190 v191 (fun v192 => K (fr_recv_take_20 p0 p1 p2 v181 v183 v184 v185 v187 v188 v190 v191 v192)) := ((fun x => (show yRun2 (rndT 7 [32] [112, 128, 130, 132, 148, 158, 174] (fr_recv_take_6 v181) x) (.s 12) [.s 14] 15 (fr_recv_take_15 p0 p1 p2 v181 v183 v184 v185 v186 v187 v188 v190 v191) K = x (fr_recv_take_18 p0 p1 p2 v181 v183 v186 v187 v188 v190 v191) (roundT 7 (fr_recv_take_15 p0 p1 p2 v181 v183 v184 v185 v186 v187 v188 v190 v191) (fun l2 => putO l2 (some 15) (.sc (.bool true)) K)) from by kernel_rfl)) (X cp n i_recv_take_2)).trans ((s_recv_take_16_t cp n p0 p1 p2 v181 v183 v186 v187 v188 v190 v191 (roundT 7 (fr_recv_take_15 p0 p1 p2 v181 v183 v184 v185 v186 v187 v188 v190 v191) (fun l2 => putO l2 (some 15) (.sc (.bool true)) K))).trans (by kernel_rfl))
def fr_recv_take_21 (p0 : SRecv) (p1 : Int) (p2 : (List Int)) (v181 : Int) (v183 : SRecv) (v184 v185 : Int) (v193 : (List SSpan)) : FF := [.yld :: (dT 5 ((.row false (.rPiece v183.xLate)) :: (tL v184) :: (tL v185) :: (dT 7 []))), (tB false) :: (dT 15 []), dc, dc, dc, dc, dc, (.hdr 15) :: (eRecvt p0), [.hdr 1, (tL p1), .hdr 1, .row false (.ruint8 p2), .hdr 15, (tL 0), .row true (.ruint8 []), .row true (.rPiece []), (tL 0), (tL 0), (tL 0), (tI .u32 0), (tB false), (tB false), (tL 0), (tB false)], (.row true (.rSpan [])) :: (tI .u32 0) :: (tI .u32 0) :: (tB false) :: (.hdr 1) :: (.row true (.rSpan v193)) :: (dT 8 ((.hdr 15) :: (sl 0 1 (eRecv v183)))), sl 1 14 (eRecv v183) ++ (dT 2 []), dc]
theorem s_recv_take_22_t {R : Type} (cp : Nat → Nat → Bool) (n : Nat) (p0 : SRecv) (p1 : Int) (p2 : (List Int)) (v181 : Int) (v183 : SRecv) (v184 v185 : Int) (v186 : (List SSpan)) (v187 : Int) (v188 : (List Int)) (k : Ex → FF → Option R) : XI cp n (y_recv_take_5 cp n v181) i_recv_take_4 (fr_recv_take_13 p0 p1 p2 v181 v183 v184 v185 v186 v187 v188) k = s_recv_take_22 cp n p0 p1 p2 v181 v183 v184 v185 v186 v187 v188 (fun v193 => k .norm (fr_recv_take_21 p0 p1 p2 v181 v183 v184 v185 v193)) := (show XI cp n (y_recv_take_5 cp n v181) i_recv_take_4 (fr_recv_take_13 p0 p1 p2 v181 v183 v184 v185 v186 v187 v188) k = gF (fr_recv_take_13 p0 p1 p2 v181 v183 v184 v185 v186 v187 v188) fun l => steps2 U cp (callP cp n) g_recv_take_10031 l fun l1 => yGuard2 none l1 ((fun l1 => yRun2 (y_recv_take_5 cp n v181) (.s 12) [.s 14] 15 l1 (fun l2 => steps2 U cp (callP cp n) g_recv_take_10032 l2 ((clrT [4, 12, 13, 14, 15] [(174, 2)] k) .norm))) l1) ((fun l1 => putO l1 (some 15) (.tup []) fun l2 => steps2 U cp (callP cp n) g_recv_take_10032 l2 ((clrT [4, 12, 13, 14, 15] [(174, 2)] k) .norm)) l1) from by kernel_rfl).trans ((s_recv_take_14_t cp n p0 p1 p2 v181 v183 v184 v185 v186 v187 v188 (fun l1 => yRun2 (y_recv_take_5 cp n v181) (.s 12) [.s 14] 15 l1 (fun l2 => steps2 U cp (callP cp n) g_recv_take_10032 l2 ((clrT [4, 12, 13, 14, 15] [(174, 2)] k) .norm))) (fun l1 => putO l1 (some 15) (.tup []) fun l2 => steps2 U cp (callP cp n) g_recv_take_10032 l2 ((clrT [4, 12, 13, 14, 15] [(174, 2)] k) .norm))).trans (congrArg (s_recv_take_14 cp n p0 p1 p2 v181 v183 v184 v185 v186 v187 v188) (funext fun v190 => funext fun v191 => (q_recv_take_19_t cp n p0 p1 p2 v181 v183 v184 v185 v186 v187 v188 v190 v191 (fun l2 => steps2 U cp (callP cp n) g_recv_take_10032 l2 ((clrT [4, 12, 13, 14, 15] [(174, 2)] k) .norm))).trans (show s_recv_take_16 cp n p0 p1 p2 v181 v183 v186 v187 v188 v190 v191 (fun v192 => (fun l2 => steps2 U cp (callP cp n) g_recv_take_10032 l2 ((clrT [4, 12, 13, 14, 15] [(174, 2)] k) .norm)) (fr_recv_take_20 p0 p1 p2 v181 v183 v184 v185 v187 v188 v190 v191 v192)) = s_recv_take_16 cp n p0 p1 p2 v181 v183 v186 v187 v188 v190 v191 (fun v192 => k .norm (fr_recv_take_21 p0 p1 p2 v181 v183 v184 v185 v192)) from by kernel_rfl))))
def fr_recv_take_24 (p0 : SRecv) (p1 : Int) (p2 : (List Int)) (v181 : Int) (v183 : SRecv) (v184 v185 : Int) (v193 : (List SSpan)) : FF := [.yld :: (dT 5 ((.row false (.rPiece v183.xLate)) :: (tL v184) :: (tL v185) :: (dT 7 []))), dc, dc, dc, dc, dc, dc, (.hdr 15) :: (eRecvt p0), [.hdr 1, (tL p1), .hdr 1, .row false (.ruint8 p2), .hdr 15, (tL 0), .row true (.ruint8 []), .row true (.rPiece []), (tL 0), (tL 0), (tL 0), (tI .u32 0), (tB false), (tB false), (tL 0), (tB false)], (.row true (.rSpan [])) :: (tI .u32 0) :: (tI .u32 0) :: (tB false) :: (.hdr 1) :: (.row true (.rSpan v193)) :: (dT 8 ((.hdr 15) :: (sl 0 1 (eRecv v183)))), sl 1 14 (eRecv v183) ++ (dT 2 []), dc]
theorem s_recv_take_23_t {R : Type} (cp : Nat → Nat → Bool) (n : Nat) (p0 : SRecv) (p1 : Int) (p2 : (List Int)) (v181 : Int) (v183 : SRecv) (v184 v185 : Int) (v193 : (List SSpan)) (k : Ex → FF → Option R) : XI cp n (y_recv_take_5 cp n v181) i_recv_take_5 (fr_recv_take_21 p0 p1 p2 v181 v183 v184 v185 v193) k = s_recv_take_23 cp n p0 p1 p2 v181 v183 v184 v185 v193 (k .norm (fr_recv_take_24 p0 p1 p2 v181 v183 v184 v185 v193)) := by kernel_rfl
def fr_recv_take_25 (p0 : SRecv) (p1 : Int) (p2 : (List Int)) (v181 : Int) (v183 : SRecv) (v184 v185 : Int) (v194 : (List SSpan)) : FF := [.yld :: (dT 5 ((.row false (.rPiece v183.xLate)) :: (tL v184) :: (tL v185) :: (dT 7 []))), dc, dc, dc, dc, dc, dc, (.hdr 15) :: (eRecvt p0), [.hdr 1, (tL p1), .hdr 1, .row false (.ruint8 p2), .hdr 15, (tL 0), .row true (.ruint8 []), .row true (.rPiece []), (tL 0), (tL 0), (tL 0), (tI .u32 0), (tB false), (tB false), (tL 0), (tB false)], (.row true (.rSpan [])) :: (tI .u32 0) :: (tI .u32 0) :: (tB false) :: (.hdr 1) :: (.row true (.rSpan v194)) :: (dT 8 ((.hdr 15) :: (sl 0 1 (eRecv v183)))), sl 1 14 (eRecv v183) ++ (dT 2 []), dc]
theorem s_recv_take_26_t {R : Type} (cp : Nat → Nat → Bool) (n : Nat) (p0 : SRecv) (p1 : Int) (p2 : (List Int)) (v181 : Int) (v183 : SRecv) (v184 v185 : Int) (v186 : (List SSpan)) (v187 : Int) (v188 : (List Int)) (k : Ex → FF → Option R) : XI cp n (y_recv_take_5 cp n v181) i_recv_take_6 (fr_recv_take_13 p0 p1 p2 v181 v183 v184 v185 v186 v187 v188) k = s_recv_take_26 cp n p0 p1 p2 v181 v183 v184 v185 v186 v187 v188 (fun v194 => k .norm (fr_recv_take_25 p0 p1 p2 v181 v183 v184 v185 v194)) := (show XI cp n (y_recv_take_5 cp n v181) i_recv_take_6 (fr_recv_take_13 p0 p1 p2 v181 v183 v184 v185 v186 v187 v188) k = XI cp n (y_recv_take_5 cp n v181) i_recv_take_4 (fr_recv_take_13 p0 p1 p2 v181 v183 v184 v185 v186 v187 v188) (seqT (XI cp n (y_recv_take_5 cp n v181)) i_recv_take_5 k) from by kernel_rfl).trans ((show XI cp n (y_recv_take_5 cp n v181) i_recv_take_4 (fr_recv_take_13 p0 p1 p2 v181 v183 v184 v185 v186 v187 v188) (seqT (XI cp n (y_recv_take_5 cp n v181)) i_recv_take_5 k) = s_recv_take_22 cp n p0 p1 p2 v181 v183 v184 v185 v186 v187 v188 (fun v193 => XI cp n (y_recv_take_5 cp n v181) i_recv_take_5 (fr_recv_take_21 p0 p1 p2 v181 v183 v184 v185 v193) k) from (s_recv_take_22_t cp n p0 p1 p2 v181 v183 v184 v185 v186 v187 v188 (seqT (XI cp n (y_recv_take_5 cp n v181)) i_recv_take_5 k)).trans (by kernel_rfl)).trans (congrArg (fun q => s_recv_take_22 cp n p0 p1 p2 v181 v183 v184 v185 v186 v187 v188 q) (funext fun v193 => (s_recv_take_23_t cp n p0 p1 p2 v181 v183 v184 v185 v193 k).trans (show s_recv_take_23 cp n p0 p1 p2 v181 v183 v184 v185 v193 (k .norm (fr_recv_take_24 p0 p1 p2 v181 v183 v184 v185 v193)) = s_recv_take_23 cp n p0 p1 p2 v181 v183 v184 v185 v193 (k .norm (fr_recv_take_25 p0 p1 p2 v181 v183 v184 v185 v193)) from by kernel_rfl))))
def fr_recv_take_27 (p0 : SRecv) (p1 : Int) (p2 : (List Int)) (v181 : Int) (v183 : SRecv) (v184 v185 : Int) (v195 : (List SSpan)) : FF := [.yld :: (dT 5 ((.row false (.rPiece v183.xLate)) :: (tL v184) :: (tL v185) :: (dT 7 []))), dc, dc, dc, dc, dc, dc, (.hdr 15) :: (eRecvt p0), [.hdr 1, (tL p1), .hdr 1, .row false (.ruint8 p2), .hdr 15, (tL 0), .row true (.ruint8 []), .row true (.rPiece []), (tL 0), (tL 0), (tL 0), (tI .u32 0), (tB false), (tB false), (tL 0), (tB false)], (.row true (.rSpan [])) :: (tI .u32 0) :: (tI .u32 0) :: (tB false) :: (.hdr 1) :: (.row true (.rSpan v195)) :: (dT 8 ((.hdr 15) :: (sl 0 1 (eRecv v183)))), sl 1 14 (eRecv v183) ++ (dT 2 []), dc]
theorem s_recv_take_28_t {R : Type} (cp : Nat → Nat → Bool) (n : Nat) (p0 : SRecv) (p1 : Int) (p2 : (List Int)) (v181 : Int) (v183 : SRecv) (v184 v185 : Int) (v186 : (List SSpan)) (k : Ex → FF → Option R) : XI cp n (y_recv_take_5 cp n v181) i_recv_take_7 (fr_recv_take_10 p0 p1 p2 v181 v183 v184 v185 v186) k = s_recv_take_28 cp n p0 p1 p2 v181 v183 v184 v185 v186 (fun v195 => k .norm (fr_recv_take_27 p0 p1 p2 v181 v183 v184 v185 v195)) := ((fun c => (show XI cp n (y_recv_take_5 cp n v181) (.seq (.fin (.reg g_recv_take_1002) [10, 11] []) c) (fr_recv_take_10 p0 p1 p2 v181 v183 v184 v185 v186) k = s_recv_take_12 cp n p0 p1 p2 v181 v183 v184 v185 v186 (fun v187 v188 => XI cp n (y_recv_take_5 cp n v181) c (fr_recv_take_13 p0 p1 p2 v181 v183 v184 v185 v186 v187 v188) k) from by kernel_rfl)) i_recv_take_6).trans (congrArg (fun q => s_recv_take_12 cp n p0 p1 p2 v181 v183 v184 v185 v186 q) (funext fun v187 => funext fun v188 => (s_recv_take_26_t cp n p0 p1 p2 v181 v183 v184 v185 v186 v187 v188 k).trans (show s_recv_take_26 cp n p0 p1 p2 v181 v183 v184 v185 v186 v187 v188 (fun v194 => k .norm (fr_recv_take_25 p0 p1 p2 v181 v183 v184 v185 v194)) = s_recv_take_26 cp n p0 p1 p2 v181 v183 v184 v185 v186 v187 v188 (fun v194 => k .norm (fr_recv_take_27 p0 p1 p2 v181 v183 v184 v185 v194)) from by kernel_rfl)))
def fr_recv_take_29 (p0 : SRecv) (p1 : Int) (p2 : (List Int)) (v181 : Int) (v183 : SRecv) (v184 v185 : Int) (v196 : (List SSpan)) : FF := [.yld :: (dT 5 ((.row false (.rPiece v183.xLate)) :: (tL v184) :: (tL v185) :: (dT 7 []))), dc, dc, dc, dc, dc, dc, (.hdr 15) :: (eRecvt p0), [.hdr 1, (tL p1), .hdr 1, .row false (.ruint8 p2), .hdr 15, (tL 0), .row true (.ruint8 []), .row true (.rPiece []), (tL 0), (tL 0), (tL 0), (tI .u32 0), (tB false), (tB false), (tL 0), (tB false)], (.row true (.rSpan [])) :: (tI .u32 0) :: (tI .u32 0) :: (tB false) :: (.hdr 1) :: (.row true (.rSpan v196)) :: (dT 8 ((.hdr 15) :: (sl 0 1 (eRecv v183)))), sl 1 14 (eRecv v183) ++ (dT 2 []), dc]
theorem s_recv_take_30_t {R : Type} (cp : Nat → Nat → Bool) (n : Nat) (p0 : SRecv) (p1 : Int) (p2 : (List Int)) (v181 : Int) (v183 : SRecv) (v184 v185 : Int) (v186 : (List SSpan)) (k : Ex → FF → Option R) : XI cp n (y_recv_take_5 cp n v181) i_recv_take_8 (fr_recv_take_10 p0 p1 p2 v181 v183 v184 v185 v186) k = s_recv_take_30 cp n p0 p1 p2 v181 v183 v184 v185 v186 (fun v196 => k .norm (fr_recv_take_29 p0 p1 p2 v181 v183 v184 v185 v196)) := (show XI cp n (y_recv_take_5 cp n v181) i_recv_take_8 (fr_recv_take_10 p0 p1 p2 v181 v183 v184 v185 v186) k = XI cp n (y_recv_take_5 cp n v181) i_recv_take_7 (fr_recv_take_10 p0 p1 p2 v181 v183 v184 v185 v186) (blkT 1 k) from by kernel_rfl).trans ((s_recv_take_28_t cp n p0 p1 p2 v181 v183 v184 v185 v186 (blkT 1 k)).trans (by kernel_rfl))
def fr_recv_take_32 (p0 : SRecv) (p1 : Int) (p2 : (List Int)) (v181 : Int) (v183 : SRecv) (v184 : Int) (v196 : (List SSpan)) (v197 : Int) : FF := [.yld :: (dT 5 ((.row false (.rPiece v183.xLate)) :: (tL v184) :: (tL v197) :: (dT 7 []))), dc, dc, dc, dc, dc, dc, (.hdr 15) :: (eRecvt p0), [.hdr 1, (tL p1), .hdr 1, .row false (.ruint8 p2), .hdr 15, (tL 0), .row true (.ruint8 []), .row true (.rPiece []), (tL 0), (tL 0), (tL 0), (tI .u32 0), (tB false), (tB false), (tL 0), (tB false)], (.row true (.rSpan [])) :: (tI .u32 0) :: (tI .u32 0) :: (tB false) :: (.hdr 1) :: (.row true (.rSpan v196)) :: (dT 8 ((.hdr 15) :: (sl 0 1 (eRecv v183)))), sl 1 14 (eRecv v183) ++ (dT 2 []), dc]
theorem s_recv_take_31_t {R : Type} (cp : Nat → Nat → Bool) (n : Nat) (p0 : SRecv) (p1 : Int) (p2 : (List Int)) (v181 : Int) (v183 : SRecv) (v184 v185 : Int) (v196 : (List SSpan)) (k : Ex → FF → Option R) : XI cp n (y_recv_take_5 cp n v181) i_recv_take_9 (fr_recv_take_29 p0 p1 p2 v181 v183 v184 v185 v196) k = s_recv_take_31 cp n p0 p1 p2 v181 v183 v184 v185 v196 (fun v197 => k .norm (fr_recv_take_32 p0 p1 p2 v181 v183 v184 v196 v197)) := by kernel_rfl
def fr_recv_take_33 (p0 : SRecv) (p1 : Int) (p2 : (List Int)) (v181 : Int) (v183 : SRecv) (v184 v198 : Int) (v199 : (List SSpan)) : FF := [.yld :: (dT 5 ((.row false (.rPiece v183.xLate)) :: (tL v184) :: (tL v198) :: (dT 7 []))), dc, dc, dc, dc, dc, dc, (.hdr 15) :: (eRecvt p0), [.hdr 1, (tL p1), .hdr 1, .row false (.ruint8 p2), .hdr 15, (tL 0), .row true (.ruint8 []), .row true (.rPiece []), (tL 0), (tL 0), (tL 0), (tI .u32 0), (tB false), (tB false), (tL 0), (tB false)], (.row true (.rSpan [])) :: (tI .u32 0) :: (tI .u32 0) :: (tB false) :: (.hdr 1) :: (.row true (.rSpan v199)) :: (dT 8 ((.hdr 15) :: (sl 0 1 (eRecv v183)))), sl 1 14 (eRecv v183) ++ (dT 2 []), dc]
theorem s_recv_take_34_t {R : Type} (cp : Nat → Nat → Bool) (n : Nat) (p0 : SRecv) (p1 : Int) (p2 : (List Int)) (v181 : Int) (v183 : SRecv) (v184 v185 : Int) (v186 : (List SSpan)) (k : Ex → FF → Option R) : XI cp n (y_recv_take_5 cp n v181) i_recv_take_10 (fr_recv_take_10 p0 p1 p2 v181 v183 v184 v185 v186) k = s_recv_take_34 cp n p0 p1 p2 v181 v183 v184 v185 v186 (fun v198 v199 => k .norm (fr_recv_take_33 p0 p1 p2 v181 v183 v184 v198 v199)) := (show XI cp n (y_recv_take_5 cp n v181) i_recv_take_10 (fr_recv_take_10 p0 p1 p2 v181 v183 v184 v185 v186) k = XI cp n (y_recv_take_5 cp n v181) i_recv_take_8 (fr_recv_take_10 p0 p1 p2 v181 v183 v184 v185 v186) (seqT (XI cp n (y_recv_take_5 cp n v181)) i_recv_take_9 k) from by kernel_rfl).trans ((show XI cp n (y_recv_take_5 cp n v181) i_recv_take_8 (fr_recv_take_10 p0 p1 p2 v181 v183 v184 v185 v186) (seqT (XI cp n (y_recv_take_5 cp n v181)) i_recv_take_9 k) = s_recv_take_30 cp n p0 p1 p2 v181 v183 v184 v185 v186 (fun v196 => XI cp n (y_recv_take_5 cp n v181) i_recv_take_9 (fr_recv_take_29 p0 p1 p2 v181 v183 v184 v185 v196) k) from (s_recv_take_30_t cp n p0 p1 p2 v181 v183 v184 v185 v186 (seqT (XI cp n (y_recv_take_5 cp n v181)) i_recv_take_9 k)).trans (by kernel_rfl)).trans (congrArg (fun q => s_recv_take_30 cp n p0 p1 p2 v181 v183 v184 v185 v186 q) (funext fun v196 => (s_recv_take_31_t cp n p0 p1 p2 v181 v183 v184 v185 v196 k).trans (show s_recv_take_31 cp n p0 p1 p2 v181 v183 v184 v185 v196 (fun v197 => k .norm (fr_recv_take_32 p0 p1 p2 v181 v183 v184 v196 v197)) = s_recv_take_31 cp n p0 p1 p2 v181 v183 v184 v185 v196 (fun v197 => k .norm (fr_recv_take_33 p0 p1 p2 v181 v183 v184 v197 v196)) from by kernel_rfl))))
def fr_recv_take_35 (p0 : SRecv) (p1 : Int) (p2 : (List Int)) (v181 : Int) (v183 : SRecv) (v184 v200 : Int) (v201 : (List SSpan)) : FF := [.yld :: (dT 5 ((.row false (.rPiece v183.xLate)) :: (tL v184) :: (tL v200) :: (dT 7 []))), dc, dc, dc, dc, dc, dc, (.hdr 15) :: (eRecvt p0), [.hdr 1, (tL p1), .hdr 1, .row false (.ruint8 p2), .hdr 15, (tL 0), .row true (.ruint8 []), .row true (.rPiece []), (tL 0), (tL 0), (tL 0), (tI .u32 0), (tB false), (tB false), (tL 0), (tB false)], (.row true (.rSpan [])) :: (tI .u32 0) :: (tI .u32 0) :: (tB false) :: (.hdr 1) :: (.row true (.rSpan v201)) :: (dT 8 ((.hdr 15) :: (sl 0 1 (eRecv v183)))), sl 1 14 (eRecv v183) ++ (dT 2 []), dc]
theorem s_recv_take_36_t {R : Type} (cp : Nat → Nat → Bool) (n : Nat) (p0 : SRecv) (p1 : Int) (p2 : (List Int)) (v181 : Int) (v183 : SRecv) (v184 v185 : Int) (v186 : (List SSpan)) (k : Ex → FF → Option R) : XI cp n (y_recv_take_5 cp n v181) i_recv_take_11 (fr_recv_take_10 p0 p1 p2 v181 v183 v184 v185 v186) k = s_recv_take_36 cp n p0 p1 p2 v181 v183 v184 v185 v186 (fun v200 v201 => k .norm (fr_recv_take_35 p0 p1 p2 v181 v183 v184 v200 v201)) (k (.exit 0) (fr_recv_take_11 p0 p1 p2 v181 v183 v186)) := ((fun c => (show XI cp n (y_recv_take_5 cp n v181) (.seq (.reg g_recv_take_1001) (.seq (.fin (.cond (.s 9) (.skip) (.clr [0, 6, 7, 8, 9] [] (.exit 0))) [9] []) c)) (fr_recv_take_10 p0 p1 p2 v181 v183 v184 v185 v186) k = s_recv_take_9 cp n p0 p1 p2 v181 v183 v184 v185 v186 (XI cp n (y_recv_take_5 cp n v181) c (fr_recv_take_10 p0 p1 p2 v181 v183 v184 v185 v186) k) (k (.exit 0) (fr_recv_take_11 p0 p1 p2 v181 v183 v186)) from by kernel_rfl)) i_recv_take_10).trans (congrArg (fun q => s_recv_take_9 cp n p0 p1 p2 v181 v183 v184 v185 v186 q (k (.exit 0) (fr_recv_take_11 p0 p1 p2 v181 v183 v186))) ((s_recv_take_34_t cp n p0 p1 p2 v181 v183 v184 v185 v186 k).trans (show s_recv_take_34 cp n p0 p1 p2 v181 v183 v184 v185 v186 (fun v198 v199 => k .norm (fr_recv_take_33 p0 p1 p2 v181 v183 v184 v198 v199)) = s_recv_take_34 cp n p0 p1 p2 v181 v183 v184 v185 v186 (fun v198 v199 => k .norm (fr_recv_take_35 p0 p1 p2 v181 v183 v184 v198 v199)) from by kernel_rfl)))
def fr_recv_take_37 (p0 : SRecv) (p1 : Int) (p2 : (List Int)) (v181 : Int) (v183 : SRecv) (v202 : (List SSpan)) : FF := [dc, dc, dc, dc, dc, dc, dc, (.hdr 15) :: (eRecvt p0), [.hdr 1, (tL p1), .hdr 1, .row false (.ruint8 p2), .hdr 15, (tL 0), .row true (.ruint8 []), .row true (.rPiece []), (tL 0), (tL 0), (tL 0), (tI .u32 0), (tB false), (tB false), (tL 0), (tB false)], (.row true (.rSpan [])) :: (tI .u32 0) :: (tI .u32 0) :: (tB false) :: (.hdr 1) :: (.row true (.rSpan v202)) :: (dT 8 ((.hdr 15) :: (sl 0 1 (eRecv v183)))), sl 1 14 (eRecv v183) ++ (dT 2 []), dc]
theorem l_recv_take_38_t {R : Type} (cp : Nat → Nat → Bool) (n : Nat) : ∀ (m : Nat) (p0 : SRecv) (p1 : Int) (p2 : (List Int)) (v181 : Int) (v183 : SRecv) (v184 v185 : Int) (v186 : (List SSpan)) (k : Ex → FF → Option R), loopN2 (XI cp n (y_recv_take_5 cp n v181) i_recv_take_11) m (fr_recv_take_10 p0 p1 p2 v181 v183 v184 v185 v186) k = l_recv_take_38 cp n m p0 p1 p2 v181 v183 v184 v185 v186 (fun v202 => k (.exit 0) (fr_recv_take_37 p0 p1 p2 v181 v183 v202))
  | 0, _, _, _, _, _, _, _, _, _ => rfl
  | m + 1, p0, p1, p2, v181, v183, v184, v185, v186, k => (loopN2_succ (XI cp n (y_recv_take_5 cp n v181) i_recv_take_11) m (fr_recv_take_10 p0 p1 p2 v181 v183 v184 v185 v186) k).trans ((s_recv_take_36_t cp n p0 p1 p2 v181 v183 v184 v185 v186 (loopT (XI cp n (y_recv_take_5 cp n v181) i_recv_take_11) m k)).trans ((show s_recv_take_36 cp n p0 p1 p2 v181 v183 v184 v185 v186 (fun v200 v201 => loopT (XI cp n (y_recv_take_5 cp n v181) i_recv_take_11) m k .norm (fr_recv_take_35 p0 p1 p2 v181 v183 v184 v200 v201)) (loopT (XI cp n (y_recv_take_5 cp n v181) i_recv_take_11) m k (.exit 0) (fr_recv_take_11 p0 p1 p2 v181 v183 v186)) = s_recv_take_36 cp n p0 p1 p2 v181 v183 v184 v185 v186 (fun v200 v201 => loopN2 (XI cp n (y_recv_take_5 cp n v181) i_recv_take_11) m (fr_recv_take_10 p0 p1 p2 v181 v183 v184 v200 v201) k) (k (.exit 0) (fr_recv_take_37 p0 p1 p2 v181 v183 v186)) from by kernel_rfl).trans (congrArg (fun q => s_recv_take_36 cp n p0 p1 p2 v181 v183 v184 v185 v186 q (k (.exit 0) (fr_recv_take_37 p0 p1 p2 v181 v183 v186))) (funext fun v200 => funext fun v201 => l_recv_take_38_t cp n m p0 p1 p2 v181 v183 v184 v200 v201 k))))
theorem s_recv_take_39_t {R : Type} (cp : Nat → Nat → Bool) (n : Nat) (p0 : SRecv) (p1 : Int) (p2 : (List Int)) (v181 : Int) (v183 : SRecv) (v184 : Int) (k : Ex → FF → Option R) : XI cp n (y_recv_take_5 cp n v181) i_recv_take_12 (fr_recv_take_8 p0 p1 p2 v181 v183 v184) k = s_recv_take_39 cp n p0 p1 p2 v181 v183 v184 (fun v202 => k (.exit 0) (fr_recv_take_37 p0 p1 p2 v181 v183 v202)) := (show XI cp n (y_recv_take_5 cp n v181) i_recv_take_12 (fr_recv_take_8 p0 p1 p2 v181 v183 v184) k = loopN2 (XI cp n (y_recv_take_5 cp n v181) i_recv_take_11) n (fr_recv_take_10 p0 p1 p2 v181 v183 v184 0 []) k from by kernel_rfl).trans (l_recv_take_38_t cp n n p0 p1 p2 v181 v183 v184 0 [] k)
def fr_recv_take_40 (p0 : SRecv) (p1 : Int) (p2 : (List Int)) (v181 : Int) (v183 : SRecv) (v203 : (List SSpan)) : FF := [dc, dc, dc, dc, dc, dc, dc, (.hdr 15) :: (eRecvt p0), [.hdr 1, (tL p1), .hdr 1, .row false (.ruint8 p2), .hdr 15, (tL 0), .row true (.ruint8 []), .row true (.rPiece []), (tL 0), (tL 0), (tL 0), (tI .u32 0), (tB false), (tB false), (tL 0), (tB false)], (.row true (.rSpan [])) :: (tI .u32 0) :: (tI .u32 0) :: (tB false) :: (.hdr 1) :: (.row true (.rSpan v203)) :: (dT 8 ((.hdr 15) :: (sl 0 1 (eRecv v183)))), sl 1 14 (eRecv v183) ++ (dT 2 []), dc]
theorem s_recv_take_41_t {R : Type} (cp : Nat → Nat → Bool) (n : Nat) (p0 : SRecv) (p1 : Int) (p2 : (List Int)) (v181 : Int) (v183 : SRecv) (v184 : Int) (k : Ex → FF → Option R) : XI cp n (y_recv_take_5 cp n v181) i_recv_take_13 (fr_recv_take_8 p0 p1 p2 v181 v183 v184) k = s_recv_take_41 cp n p0 p1 p2 v181 v183 v184 (fun v203 => k .norm (fr_recv_take_40 p0 p1 p2 v181 v183 v203)) := (show XI cp n (y_recv_take_5 cp n v181) i_recv_take_13 (fr_recv_take_8 p0 p1 p2 v181 v183 v184) k = XI cp n (y_recv_take_5 cp n v181) i_recv_take_12 (fr_recv_take_8 p0 p1 p2 v181 v183 v184) (blkT 0 k) from by kernel_rfl).trans ((s_recv_take_39_t cp n p0 p1 p2 v181 v183 v184 (blkT 0 k)).trans (by kernel_rfl))
def fr_recv_take_42 (p0 : SRecv) (p1 : Int) (p2 : (List Int)) (v181 : Int) (v183 : SRecv) (v204 : (List SSpan)) : FF := [dc, dc, dc, dc, dc, dc, dc, (.hdr 15) :: (eRecvt p0), [.hdr 1, (tL p1), .hdr 1, .row false (.ruint8 p2), .hdr 15, (tL 0), .row true (.ruint8 []), .row true (.rPiece []), (tL 0), (tL 0), (tL 0), (tI .u32 0), (tB false), (tB false), (tL 0), (tB false)], (.row true (.rSpan [])) :: (tI .u32 0) :: (tI .u32 0) :: (tB false) :: (.hdr 1) :: (.row true (.rSpan v204)) :: (dT 8 ((.hdr 15) :: (sl 0 1 (eRecv v183)))), sl 1 14 (eRecv v183) ++ (dT 2 []), dc]
def fr_recv_take_44 (p0 : SRecv) (p1 : Int) (p2 : (List Int)) (v181 : Int) (v183 : SRecv) : FF := [.yld :: (.ptr 158 0) :: (dT 14 []), dc, dc, dc, dc, dc, dc, (.hdr 15) :: (eRecvt p0), [.hdr 1, (tL p1), .hdr 1, .row false (.ruint8 p2), .hdr 15, (tL 0), .row true (.ruint8 []), .row true (.rPiece []), (tL 0), (tL 0), (tL 0), (tI .u32 0), (tB false), (tB false), (tL 0), (tB false)], (.row true (.rSpan [])) :: (tI .u32 0) :: (tI .u32 0) :: (tB false) :: (.hdr 1) :: (.row true (.rSpan [])) :: (dT 8 ((.hdr 15) :: (sl 0 1 (eRecv v183)))), sl 1 14 (eRecv v183) ++ (dT 2 []), dc]
theorem s_recv_take_43_t {R : Type} (cp : Nat → Nat → Bool) (n : Nat) (p0 : SRecv) (p1 : Int) (p2 : (List Int)) (v181 : Int) (v183 : SRecv) (k : Ex → FF → Option R) : XI cp n (y_recv_take_5 cp n v181) i_recv_take_3 (fr_recv_take_44 p0 p1 p2 v181 v183) k = s_recv_take_43 cp n p0 p1 p2 v181 v183 (fun v204 => k .norm (fr_recv_take_42 p0 p1 p2 v181 v183 v204)) := ((fun c => (show XI cp n (y_recv_take_5 cp n v181) (.seq (.fin (.reg g_recv_take_1000) [1, 5] []) c) (fr_recv_take_44 p0 p1 p2 v181 v183) k = s_recv_take_7 cp n p0 p1 p2 v181 v183 (fun v184 => XI cp n (y_recv_take_5 cp n v181) c (fr_recv_take_8 p0 p1 p2 v181 v183 v184) k) from by kernel_rfl)) i_recv_take_13).trans (congrArg (fun q => s_recv_take_7 cp n p0 p1 p2 v181 v183 q) (funext fun v184 => (s_recv_take_41_t cp n p0 p1 p2 v181 v183 v184 k).trans (show s_recv_take_41 cp n p0 p1 p2 v181 v183 v184 (fun v203 => k .norm (fr_recv_take_40 p0 p1 p2 v181 v183 v203)) = s_recv_take_41 cp n p0 p1 p2 v181 v183 v184 (fun v203 => k .norm (fr_recv_take_42 p0 p1 p2 v181 v183 v203)) from by kernel_rfl)))
def fr_recv_take_45 (p0 : SRecv) (p1 : Int) (p2 : (List Int)) (v181 : Int) (v205 : (List SSpan)) : FF := [dT 3 ((.ptr 112 0) :: (.ptr 128 0) :: (.ptr 130 0) :: (.ptr 132 0) :: (dT 1 ((tL v181) :: (.ptr 148 0) :: (dT 6 [])))), dc, dc, dc, dc, dc, dc, (.hdr 15) :: (eRecvt p0), [.hdr 1, (tL p1), .hdr 1, .row false (.ruint8 p2), .hdr 15, (tL 0), .row true (.ruint8 []), .row true (.rPiece []), (tL 0), (tL 0), (tL 0), (tI .u32 0), (tB false), (tB false), (tL 0), (tB false)], (.row true (.rSpan [])) :: (tI .u32 0) :: (tI .u32 0) :: (tB false) :: (.hdr 1) :: (.row true (.rSpan v205)) :: (dT 10 []), dc, dc]
theorem s_recv_take_46_t {R : Type} (cp : Nat → Nat → Bool) (n : Nat) (p0 : SRecv) (p1 : Int) (p2 : (List Int)) (v181 : Int) (v183 : SRecv) (k : Ex → FF → Option R) : X cp n i_recv_take_14 (fr_recv_take_4 p0 p1 p2 v181 v183) k = s_recv_take_46 cp n p0 p1 p2 v181 v183 (fun v205 => k .norm (fr_recv_take_45 p0 p1 p2 v181 v205)) := (show X cp n i_recv_take_14 (fr_recv_take_4 p0 p1 p2 v181 v183) k = XI cp n (roundK2 7 [32] [112, 128, 130, 132, 148, 158, 174] (fr_recv_take_4 p0 p1 p2 v181 v183) (X cp n i_recv_take_0) (X cp n i_recv_take_1)) i_recv_take_3 (fr_recv_take_44 p0 p1 p2 v181 v183) (rfnT 7 (fr_recv_take_4 p0 p1 p2 v181 v183) (clrT [31] [(158, 15)] k)) from rfn_eq (v := .clo 70 [(158, 0)]) (by kernel_rfl) (by kernel_rfl) (by kernel_rfl) _ _ _).trans ((congrArg (fun Y => XI cp n Y i_recv_take_3 (fr_recv_take_44 p0 p1 p2 v181 v183) (rfnT 7 (fr_recv_take_4 p0 p1 p2 v181 v183) (clrT [31] [(158, 15)] k))) ((rnd_eq 7 [32] [112, 128, 130, 132, 148, 158, 174] (fr_recv_take_4 p0 p1 p2 v181 v183) i_recv_take_0 i_recv_take_1).trans (show rndT 7 [32] [112, 128, 130, 132, 148, 158, 174] (fr_recv_take_4 p0 p1 p2 v181 v183) (X cp n i_recv_take_2) = (y_recv_take_5 cp n v181) from by kernel_rfl))).trans ((s_recv_take_43_t cp n p0 p1 p2 v181 v183 (rfnT 7 (fr_recv_take_4 p0 p1 p2 v181 v183) (clrT [31] [(158, 15)] k))).trans (by kernel_rfl)))
def fr_recv_take_47 (p0 : SRecv) (p1 : Int) (p2 : (List Int)) (v181 : Int) (v206 : (List SSpan)) : FF := [dT 3 ((.ptr 112 0) :: (.ptr 128 0) :: (.ptr 130 0) :: (.ptr 132 0) :: (dT 1 ((tL v181) :: (.ptr 148 0) :: (dT 6 [])))), dc, dc, dc, dc, dc, dc, (.hdr 15) :: (eRecvt p0), [.hdr 1, (tL p1), .hdr 1, .row false (.ruint8 p2), .hdr 15, (tL 0), .row true (.ruint8 []), .row true (.rPiece []), (tL 0), (tL 0), (tL 0), (tI .u32 0), (tB false), (tB false), (tL 0), (tB false)], (.row true (.rSpan [])) :: (tI .u32 0) :: (tI .u32 0) :: (tB false) :: (.hdr 1) :: (.row true (.rSpan v206)) :: (dT 10 []), dc, dc]
theorem s_recv_take_48_t {R : Type} (cp : Nat → Nat → Bool) (n : Nat) (p0 : SRecv) (p1 : Int) (p2 : (List Int)) (v181 : Int) (v183 : SRecv) (k : Ex → FF → Option R) : X cp n i_recv_take_15 (fr_recv_take_4 p0 p1 p2 v181 v183) k = s_recv_take_48 cp n p0 p1 p2 v181 v183 (fun v206 => k .norm (fr_recv_take_47 p0 p1 p2 v181 v206)) := (show X cp n i_recv_take_15 (fr_recv_take_4 p0 p1 p2 v181 v183) k = X cp n i_recv_take_14 (fr_recv_take_4 p0 p1 p2 v181 v183) (blkT 0 k) from by kernel_rfl).trans ((s_recv_take_46_t cp n p0 p1 p2 v181 v183 (blkT 0 k)).trans (by kernel_rfl))
def fr_recv_take_49 (p0 : SRecv) (p1 : Int) (p2 : (List Int)) (v181 : Int) (v207 : (List SSpan)) : FF := [dT 3 ((.ptr 112 0) :: (.ptr 128 0) :: (.ptr 130 0) :: (.ptr 132 0) :: (dT 1 ((tL v181) :: (.ptr 148 0) :: (dT 6 [])))), dc, dc, dc, dc, dc, dc, (.hdr 15) :: (eRecvt p0), [.hdr 1, (tL p1), .hdr 1, .row false (.ruint8 p2), .hdr 15, (tL 0), .row true (.ruint8 []), .row true (.rPiece []), (tL 0), (tL 0), (tL 0), (tI .u32 0), (tB false), (tB false), (tL 0), (tB false)], (.row true (.rSpan [])) :: (tI .u32 0) :: (tI .u32 0) :: (tB false) :: (.hdr 1) :: (.row true (.rSpan v207)) :: (dT 10 []), dc, dc]
theorem s_recv_take_50_t {R : Type} (cp : Nat → Nat → Bool) (n : Nat) (p0 : SRecv) (p1 : Int) (p2 : (List Int)) (v181 : Int) (k : Ex → FF → Option R) : X cp n i_recv_take_16 (fr_recv_take_2 p0 p1 p2 v181) k = s_recv_take_50 cp n p0 p1 p2 v181 (fun v207 => k .norm (fr_recv_take_49 p0 p1 p2 v181 v207)) := ((fun c => (show X cp n (.seq (.fin (.reg g_recv_take_5) [30] []) c) (fr_recv_take_2 p0 p1 p2 v181) k = s_recv_take_3 cp n p0 p1 p2 v181 (fun v183 => X cp n c (fr_recv_take_4 p0 p1 p2 v181 v183) k) from by kernel_rfl)) i_recv_take_15).trans (congrArg (fun q => s_recv_take_3 cp n p0 p1 p2 v181 q) (funext fun v183 => (s_recv_take_48_t cp n p0 p1 p2 v181 v183 k).trans (show s_recv_take_48 cp n p0 p1 p2 v181 v183 (fun v206 => k .norm (fr_recv_take_47 p0 p1 p2 v181 v206)) = s_recv_take_48 cp n p0 p1 p2 v181 v183 (fun v206 => k .norm (fr_recv_take_49 p0 p1 p2 v181 v206)) from by kernel_rfl)))
def fr_recv_take_52 (p0 : SRecv) (p1 : Int) (p2 : (List Int)) (v181 : Int) (v207 : (List SSpan)) : FF := [dT 3 ((.ptr 112 0) :: (.ptr 128 0) :: (dT 1 ((.ptr 132 0) :: (dT 1 ((tL v181) :: (.ptr 148 0) :: (dT 1 ((.ptr 153 0) :: (.clo 59 [(153, 0), (112, 0), (130, 0), (128, 0)]) :: (dT 3 [])))))))), dc, dc, dc, dc, dc, dc, (.hdr 15) :: (eRecvt p0), [.hdr 1, (tL p1), .hdr 1, .row false (.ruint8 p2), .hdr 15, (tL 0), .row true (.ruint8 []), .row true (.rPiece []), (tL 0), (tL 0), (tL 0), (tI .u32 0), (tB false), (tB false), (tL 0), (tB false)], (.row true (.rSpan [])) :: (tI .u32 0) :: (tI .u32 0) :: (tB false) :: (.hdr 1) :: (.row true (.rSpan v207)) :: (dT 3 ((.hdr 1) :: (tB false) :: (dT 5 []))), dc, dc]
def fr_recv_take_54 (p0 : SRecv) (p1 : Int) (p2 : (List Int)) (v181 : Int) (v207 : (List SSpan)) (v208 : Int) (v209 : Bool) : FF := [dT 3 ((.ptr 112 0) :: (dT 2 ((.ptr 132 0) :: (dT 1 ((tL v181) :: (.ptr 148 0) :: (dT 1 ((.ptr 153 0) :: (.clo 59 [(153, 0), (112, 0), (130, 0), (128, 0)]) :: (tL v208) :: (dT 2 [])))))))), dc, dT 12 ((tB v209) :: (dT 3 [])), dc, dc, dc, dc, (.hdr 15) :: (eRecvt p0), [.hdr 1, (tL p1), .hdr 1, .row false (.ruint8 p2), .hdr 15, (tL 0), .row true (.ruint8 []), .row true (.rPiece []), (tL 0), (tL 0), (tL 0), (tI .u32 0), (tB false), (tB false), (tL 0), (tB false)], (.row true (.rSpan [])) :: (tI .u32 0) :: (tI .u32 0) :: (tB false) :: (.hdr 1) :: (.row true (.rSpan v207)) :: (dT 3 ((.hdr 1) :: (tB false) :: (dT 5 []))), dc, dc]
def fr_recv_take_56 (p0 : SRecv) (p1 : Int) (p2 : (List Int)) (v211 : (List SSpan)) (v212 : Int) : FF := [dT 3 ((.ptr 112 0) :: (dT 2 ((.ptr 132 0) :: (dT 4 ((.ptr 153 0) :: (.clo 59 [(153, 0), (112, 0), (130, 0), (128, 0)]) :: (dT 3 [])))))), dc, dc, dT 1 ((.row false (.rSpan v211)) :: (tL v212) :: (tL 0) :: (dT 12 [])), dc, dc, dc, (.hdr 15) :: (eRecvt p0), [.hdr 1, (tL p1), .hdr 1, .row false (.ruint8 p2), .hdr 15, (tL 0), .row true (.ruint8 []), .row true (.rPiece []), (tL 0), (tL 0), (tL 0), (tI .u32 0), (tB false), (tB false), (tL 0), (tB false)], (.row true (.rSpan [])) :: (tI .u32 0) :: (tI .u32 0) :: (tB false) :: (dT 5 ((.hdr 1) :: (tB false) :: (dT 5 []))), dc, dc]
def fr_recv_take_58 (v211 : (List SSpan)) (v212 v222 : Int) (v223 : SRecv) (v224 : Int) (v225 : (List Int)) (v226 : Bool) : FF := [dT 3 ((.ptr 112 0) :: (dT 2 ((.ptr 132 0) :: (dT 4 ((.ptr 153 0) :: (.clo 59 [(153, 0), (112, 0), (130, 0), (128, 0)]) :: (dT 3 [])))))), dc, dc, dT 1 ((.row false (.rSpan v211)) :: (tL v212) :: (tL v222) :: (dT 12 [])), dc, dc, dc, (.hdr 15) :: (eRecvt v223), [.hdr 1, (tL v224), .hdr 1, .row false (.ruint8 v225), .hdr 15, (tL 0), .row true (.ruint8 []), .row true (.rPiece []), (tL 0), (tL 0), (tL 0), (tI .u32 0), (tB false), (tB false), (tL 0), (tB false)], (.row true (.rSpan [])) :: (tI .u32 0) :: (tI .u32 0) :: (tB false) :: (dT 5 ((.hdr 1) :: (tB v226) :: (dT 5 []))), dc, dc]
def fr_recv_take_59 (v214 : SRecv) (v217 : Bool) : FF := [dT 3 ((.ptr 112 0) :: (dT 2 ((.ptr 132 0) :: (dT 4 ((.ptr 153 0) :: (dT 4 [])))))), dc, dc, dc, dc, dc, dc, (.hdr 15) :: (eRecvt v214), dT 4 ([.hdr 15, (tL 0), .row true (.ruint8 []), .row true (.rPiece []), (tL 0), (tL 0), (tL 0), (tI .u32 0), (tB false), (tB false), (tL 0), (tB false)]), (.row true (.rSpan [])) :: (tI .u32 0) :: (tI .u32 0) :: (tB false) :: (dT 5 ((.hdr 1) :: (tB v217) :: (dT 5 []))), dc, dc]
def fr_recv_take_60 (v211 : (List SSpan)) (v212 v213 : Int) (v214 : SRecv) (v215 : Int) (v216 : (List Int)) (v217 : Bool) : FF := [dT 3 ((.ptr 112 0) :: (dT 2 ((.ptr 132 0) :: (dT 4 ((.ptr 153 0) :: (.clo 59 [(153, 0), (112, 0), (130, 0), (128, 0)]) :: (dT 3 [])))))), dc, dc, dT 1 ((.row false (.rSpan v211)) :: (tL v212) :: (tL v213) :: (dT 12 [])), dc, dc, dc, (.hdr 15) :: (eRecvt v214), [.hdr 1, (tL v215), .hdr 1, .row false (.ruint8 v216), .hdr 15, (tL 0), .row true (.ruint8 []), .row true (.rPiece []), (tL 0), (tL 0), (tL 0), (tI .u32 0), (tB false), (tB false), (tL 0), (tB false)], (.row true (.rSpan [])) :: (tI .u32 0) :: (tI .u32 0) :: (tB false) :: (dT 5 ((.hdr 1) :: (tB v217) :: (dT 5 []))), dc, dc]
theorem s_recv_take_57_t {R : Type} (cp : Nat → Nat → Bool) (n : Nat) (v211 : (List SSpan)) (v212 v213 : Int) (v214 : SRecv) (v215 : Int) (v216 : (List Int)) (v217 : Bool) (k : Ex → FF → Option R) : X cp n i_recv_take_17 (fr_recv_take_60 v211 v212 v213 v214 v215 v216 v217) k = s_recv_take_57 cp n v211 v212 v213 v214 v215 v216 v217 (fun v222 v223 v224 v225 v226 => k .norm (fr_recv_take_58 v211 v212 v222 v223 v224 v225 v226)) (k (.exit 2) (fr_recv_take_59 v214 v217)) := by kernel_rfl
def fr_recv_take_61 (v227 : SRecv) (v228 : Bool) : FF := [dT 3 ((.ptr 112 0) :: (dT 2 ((.ptr 132 0) :: (dT 4 ((.ptr 153 0) :: (dT 4 [])))))), dc, dc, dc, dc, dc, dc, (.hdr 15) :: (eRecvt v227), dT 4 ([.hdr 15, (tL 0), .row true (.ruint8 []), .row true (.rPiece []), (tL 0), (tL 0), (tL 0), (tI .u32 0), (tB false), (tB false), (tL 0), (tB false)]), (.row true (.rSpan [])) :: (tI .u32 0) :: (tI .u32 0) :: (tB false) :: (dT 5 ((.hdr 1) :: (tB v228) :: (dT 5 []))), dc, dc]
theorem l_recv_take_62_t {R : Type} (cp : Nat → Nat → Bool) (n : Nat) : ∀ (m : Nat) (v211 : (List SSpan)) (v212 v213 : Int) (v214 : SRecv) (v215 : Int) (v216 : (List Int)) (v217 : Bool) (k : Ex → FF → Option R), loopN2 (X cp n i_recv_take_17) m (fr_recv_take_60 v211 v212 v213 v214 v215 v216 v217) k = l_recv_take_62 cp n m v211 v212 v213 v214 v215 v216 v217 (fun v227 v228 => k (.exit 2) (fr_recv_take_61 v227 v228))
  | 0, _, _, _, _, _, _, _, _ => rfl
  | m + 1, v211, v212, v213, v214, v215, v216, v217, k => (loopN2_succ (X cp n i_recv_take_17) m (fr_recv_take_60 v211 v212 v213 v214 v215 v216 v217) k).trans ((s_recv_take_57_t cp n v211 v212 v213 v214 v215 v216 v217 (loopT (X cp n i_recv_take_17) m k)).trans ((show s_recv_take_57 cp n v211 v212 v213 v214 v215 v216 v217 (fun v222 v223 v224 v225 v226 => loopT (X cp n i_recv_take_17) m k .norm (fr_recv_take_58 v211 v212 v222 v223 v224 v225 v226)) (loopT (X cp n i_recv_take_17) m k (.exit 2) (fr_recv_take_59 v214 v217)) = s_recv_take_57 cp n v211 v212 v213 v214 v215 v216 v217 (fun v222 v223 v224 v225 v226 => loopN2 (X cp n i_recv_take_17) m (fr_recv_take_60 v211 v212 v222 v223 v224 v225 v226) k) (k (.exit 2) (fr_recv_take_61 v214 v217)) from by kernel_rfl).trans (congrArg (fun q => s_recv_take_57 cp n v211 v212 v213 v214 v215 v216 v217 q (k (.exit 2) (fr_recv_take_61 v214 v217))) (funext fun v222 => funext fun v223 => funext fun v224 => funext fun v225 => funext fun v226 => l_recv_take_62_t cp n m v211 v212 v222 v223 v224 v225 v226 k))))
theorem s_recv_take_63_t {R : Type} (cp : Nat → Nat → Bool) (n : Nat) (p0 : SRecv) (p1 : Int) (p2 : (List Int)) (v211 : (List SSpan)) (v212 : Int) (k : Ex → FF → Option R) : X cp n i_recv_take_18 (fr_recv_take_56 p0 p1 p2 v211 v212) k = s_recv_take_63 cp n p0 p1 p2 v211 v212 (fun v227 v228 => k (.exit 2) (fr_recv_take_61 v227 v228)) := (show X cp n i_recv_take_18 (fr_recv_take_56 p0 p1 p2 v211 v212) k = loopN2 (X cp n i_recv_take_17) n (fr_recv_take_60 v211 v212 0 p0 p1 p2 false) k from by kernel_rfl).trans (l_recv_take_62_t cp n n v211 v212 0 p0 p1 p2 false k)
def fr_recv_take_64 (v229 : SRecv) (v230 : Bool) : FF := [dT 3 ((.ptr 112 0) :: (dT 2 ((.ptr 132 0) :: (dT 4 ((.ptr 153 0) :: (dT 4 [])))))), dc, dc, dc, dc, dc, dc, (.hdr 15) :: (eRecvt v229), dT 4 ([.hdr 15, (tL 0), .row true (.ruint8 []), .row true (.rPiece []), (tL 0), (tL 0), (tL 0), (tI .u32 0), (tB false), (tB false), (tL 0), (tB false)]), (.row true (.rSpan [])) :: (tI .u32 0) :: (tI .u32 0) :: (tB false) :: (dT 5 ((.hdr 1) :: (tB v230) :: (dT 5 []))), dc, dc]
theorem s_recv_take_65_t {R : Type} (cp : Nat → Nat → Bool) (n : Nat) (p0 : SRecv) (p1 : Int) (p2 : (List Int)) (v211 : (List SSpan)) (v212 : Int) (k : Ex → FF → Option R) : X cp n i_recv_take_19 (fr_recv_take_56 p0 p1 p2 v211 v212) k = s_recv_take_65 cp n p0 p1 p2 v211 v212 (fun v229 v230 => k .norm (fr_recv_take_64 v229 v230)) := (show X cp n i_recv_take_19 (fr_recv_take_56 p0 p1 p2 v211 v212) k = X cp n i_recv_take_18 (fr_recv_take_56 p0 p1 p2 v211 v212) (blkT 2 k) from by kernel_rfl).trans ((s_recv_take_63_t cp n p0 p1 p2 v211 v212 (blkT 2 k)).trans (by kernel_rfl))
def fr_recv_take_66 (v231 : SRecv) (v232 : Bool) : FF := [dT 3 ((.ptr 112 0) :: (dT 2 ((.ptr 132 0) :: (dT 4 ((.ptr 153 0) :: (dT 4 [])))))), dc, dc, dc, dc, dc, dc, (.hdr 15) :: (eRecvt v231), dT 4 ([.hdr 15, (tL 0), .row true (.ruint8 []), .row true (.rPiece []), (tL 0), (tL 0), (tL 0), (tI .u32 0), (tB false), (tB false), (tL 0), (tB false)]), (.row true (.rSpan [])) :: (tI .u32 0) :: (tI .u32 0) :: (tB false) :: (dT 5 ((.hdr 1) :: (tB v232) :: (dT 5 []))), dc, dc]
theorem s_recv_take_67_t {R : Type} (cp : Nat → Nat → Bool) (n : Nat) (p0 : SRecv) (p1 : Int) (p2 : (List Int)) (v181 : Int) (v207 : (List SSpan)) (v208 : Int) (v209 : Bool) (k : Ex → FF → Option R) : X cp n i_recv_take_20 (fr_recv_take_54 p0 p1 p2 v181 v207 v208 v209) k = s_recv_take_67 cp n p0 p1 p2 v181 v207 v208 v209 (fun v231 v232 => k .norm (fr_recv_take_66 v231 v232)) := ((fun c => (show X cp n (.seq (.fin (.reg g_recv_take_12) [8, 9, 13, 44, 45, 46, 47, 48] [(148, 1)]) c) (fr_recv_take_54 p0 p1 p2 v181 v207 v208 v209) k = s_recv_take_55 cp n p0 p1 p2 v181 v207 v208 v209 (fun v211 v212 => X cp n c (fr_recv_take_56 p0 p1 p2 v211 v212) k) from by kernel_rfl)) i_recv_take_19).trans (congrArg (fun q => s_recv_take_55 cp n p0 p1 p2 v181 v207 v208 v209 q) (funext fun v211 => funext fun v212 => (s_recv_take_65_t cp n p0 p1 p2 v211 v212 k).trans (show s_recv_take_65 cp n p0 p1 p2 v211 v212 (fun v229 v230 => k .norm (fr_recv_take_64 v229 v230)) = s_recv_take_65 cp n p0 p1 p2 v211 v212 (fun v229 v230 => k .norm (fr_recv_take_66 v229 v230)) from by kernel_rfl)))
theorem s_recv_take_68_t {R : Type} (cp : Nat → Nat → Bool) (n : Nat) (p0 : SRecv) (p1 : Int) (p2 : (List Int)) (v181 : Int) (v207 : (List SSpan)) (v208 : Int) (v209 : Bool) (k : Ex → FF → Option R) : X cp n i_recv_take_21 (fr_recv_take_54 p0 p1 p2 v181 v207 v208 v209) k = s_recv_take_68 cp n p0 p1 p2 v181 v207 v208 v209 (k .norm (fr_recv_take_54 p0 p1 p2 v181 v207 v208 v209)) := by kernel_rfl
def fr_recv_take_70 (v233 : SRecv) (v234 : Bool) : FF := [dT 3 ((.ptr 112 0) :: (dT 2 ((.ptr 132 0) :: (dT 4 ((.ptr 153 0) :: (dT 4 [])))))), dc, dc, dc, dc, dc, dc, (.hdr 15) :: (eRecvt v233), dT 4 ([.hdr 15, (tL 0), .row true (.ruint8 []), .row true (.rPiece []), (tL 0), (tL 0), (tL 0), (tI .u32 0), (tB false), (tB false), (tL 0), (tB false)]), (.row true (.rSpan [])) :: (tI .u32 0) :: (tI .u32 0) :: (tB false) :: (dT 5 ((.hdr 1) :: (tB v234) :: (dT 5 []))), dc, dc]
theorem s_recv_take_69_t {R : Type} (cp : Nat → Nat → Bool) (n : Nat) (p0 : SRecv) (p1 : Int) (p2 : (List Int)) (v181 : Int) (v207 : (List SSpan)) (v208 : Int) (v209 : Bool) (k : Ex → FF → Option R) : X cp n i_recv_take_22 (fr_recv_take_54 p0 p1 p2 v181 v207 v208 v209) k = s_recv_take_69 cp n p0 p1 p2 v181 v207 v208 v209 (fun v233 v234 => k .norm (fr_recv_take_70 v233 v234)) := (show X cp n i_recv_take_22 (fr_recv_take_54 p0 p1 p2 v181 v207 v208 v209) k = cond (v209) (X cp n i_recv_take_20 (fr_recv_take_54 p0 p1 p2 v181 v207 v208 v209) (clrT [8, 9, 12, 13, 44] [(128, 1), (130, 1), (148, 1)] k)) (X cp n i_recv_take_21 (fr_recv_take_54 p0 p1 p2 v181 v207 v208 v209) (clrT [8, 9, 12, 13, 44] [(128, 1), (130, 1), (148, 1)] k)) from by kernel_rfl).trans (cc ((s_recv_take_67_t cp n p0 p1 p2 v181 v207 v208 v209 (clrT [8, 9, 12, 13, 44] [(128, 1), (130, 1), (148, 1)] k)).trans (show s_recv_take_67 cp n p0 p1 p2 v181 v207 v208 v209 (fun v231 v232 => (clrT [8, 9, 12, 13, 44] [(128, 1), (130, 1), (148, 1)] k) .norm (fr_recv_take_66 v231 v232)) = s_recv_take_67 cp n p0 p1 p2 v181 v207 v208 v209 (fun v231 v232 => k .norm (fr_recv_take_70 v231 v232)) from by kernel_rfl)) ((s_recv_take_68_t cp n p0 p1 p2 v181 v207 v208 v209 (clrT [8, 9, 12, 13, 44] [(128, 1), (130, 1), (148, 1)] k)).trans (show s_recv_take_68 cp n p0 p1 p2 v181 v207 v208 v209 ((clrT [8, 9, 12, 13, 44] [(128, 1), (130, 1), (148, 1)] k) .norm (fr_recv_take_54 p0 p1 p2 v181 v207 v208 v209)) = s_recv_take_68 cp n p0 p1 p2 v181 v207 v208 v209 (k .norm (fr_recv_take_70 p0 false)) from by kernel_rfl)))
def fr_recv_take_71 (v235 : SRecv) (v236 : Bool) : FF := [dT 3 ((.ptr 112 0) :: (dT 2 ((.ptr 132 0) :: (dT 4 ((.ptr 153 0) :: (dT 4 [])))))), dc, dc, dc, dc, dc, dc, (.hdr 15) :: (eRecvt v235), dT 4 ([.hdr 15, (tL 0), .row true (.ruint8 []), .row true (.rPiece []), (tL 0), (tL 0), (tL 0), (tI .u32 0), (tB false), (tB false), (tL 0), (tB false)]), (.row true (.rSpan [])) :: (tI .u32 0) :: (tI .u32 0) :: (tB false) :: (dT 5 ((.hdr 1) :: (tB v236) :: (dT 5 []))), dc, dc]
theorem s_recv_take_72_t {R : Type} (cp : Nat → Nat → Bool) (n : Nat) (p0 : SRecv) (p1 : Int) (p2 : (List Int)) (v181 : Int) (v207 : (List SSpan)) (k : Ex → FF → Option R) : X cp n i_recv_take_23 (fr_recv_take_52 p0 p1 p2 v181 v207) k = s_recv_take_72 cp n p0 p1 p2 v181 v207 (fun v235 v236 => k .norm (fr_recv_take_71 v235 v236)) := ((fun c => (show X cp n (.seq (.fin (.reg g_recv_take_10) [4, 38, 39, 40, 41] []) (.seq (.fin (.reg g_recv_take_11) [42, 43] []) c)) (fr_recv_take_52 p0 p1 p2 v181 v207) k = s_recv_take_53 cp n p0 p1 p2 v181 v207 (fun v208 v209 => X cp n c (fr_recv_take_54 p0 p1 p2 v181 v207 v208 v209) k) from by kernel_rfl)) i_recv_take_22).trans (congrArg (fun q => s_recv_take_53 cp n p0 p1 p2 v181 v207 q) (funext fun v208 => funext fun v209 => (s_recv_take_69_t cp n p0 p1 p2 v181 v207 v208 v209 k).trans (show s_recv_take_69 cp n p0 p1 p2 v181 v207 v208 v209 (fun v233 v234 => k .norm (fr_recv_take_70 v233 v234)) = s_recv_take_69 cp n p0 p1 p2 v181 v207 v208 v209 (fun v233 v234 => k .norm (fr_recv_take_71 v233 v234)) from by kernel_rfl)))
def fr_recv_take_74 (v236 : Bool) (v238 : SRecv) : FF := [dT 3 ((.ptr 112 0) :: (dT 2 ((.ptr 132 0) :: (dT 4 ((.ptr 153 0) :: (dT 4 [])))))), dc, dc, dc, dc, dc, dc, [.hdr 15, (tL v238.xNext), .row true (.ruint8 v238.xUnread), .row false (.rPiece v238.xLate), (tL v238.xCap), (tL v238.xShift), (tL v238.xEdge), (tI .u32 v238.xRecent), (tB v238.xStamps), (tB v238.xSacks), (tL v238.xFin), (tB v238.xDone), .row true (.rSpan v238.xFirst), (tI .u32 v238.xIrs), (tI .u32 v238.xOwn), (tB v238.xStamp)], dT 4 ([.hdr 15, (tL 0), .row true (.ruint8 []), .row true (.rPiece []), (tL 0), (tL 0), (tL 0), (tI .u32 0), (tB false), (tB false), (tL 0), (tB false)]), (.row true (.rSpan [])) :: (tI .u32 0) :: (tI .u32 0) :: (tB false) :: (dT 5 ((.hdr 1) :: (tB v236) :: (dT 5 []))), dc, dc]
def fr_recv_take_75 (v236 : Bool) (v237 : SRecv) : FF := [dT 3 ((.ptr 112 0) :: (dT 2 ((.ptr 132 0) :: (dT 4 ((.ptr 153 0) :: (dT 4 [])))))), dc, dc, dc, dc, dc, dc, [.hdr 15, (tL v237.xNext), .row true (.ruint8 v237.xUnread), .row false (.rPiece v237.xLate), (tL v237.xCap), (tL v237.xShift), (tL v237.xEdge), (tI .u32 v237.xRecent), (tB v237.xStamps), (tB v237.xSacks), (tL v237.xFin), (tB v237.xDone), .row true (.rSpan v237.xFirst), (tI .u32 v237.xIrs), (tI .u32 v237.xOwn), (tB v237.xStamp)], dT 4 ([.hdr 15, (tL 0), .row true (.ruint8 []), .row true (.rPiece []), (tL 0), (tL 0), (tL 0), (tI .u32 0), (tB false), (tB false), (tL 0), (tB false)]), (.row true (.rSpan [])) :: (tI .u32 0) :: (tI .u32 0) :: (tB false) :: (dT 5 ((.hdr 1) :: (tB v236) :: (dT 5 []))), dc, dc]
theorem s_recv_take_73_t {R : Type} (cp : Nat → Nat → Bool) (n : Nat) (v236 : Bool) (v237 : SRecv) (k : Ex → FF → Option R) : X cp n i_recv_take_24 (fr_recv_take_75 v236 v237) k = s_recv_take_73 cp n v236 v237 (fun v238 => k .norm (fr_recv_take_74 v236 v238)) (k (.exit 4) (fr_recv_take_75 v236 v237)) := by kernel_rfl
def fr_recv_take_76 (v236 : Bool) (v239 : SRecv) : FF := [dT 3 ((.ptr 112 0) :: (dT 2 ((.ptr 132 0) :: (dT 4 ((.ptr 153 0) :: (dT 4 [])))))), dc, dc, dc, dc, dc, dc, [.hdr 15, (tL v239.xNext), .row true (.ruint8 v239.xUnread), .row false (.rPiece v239.xLate), (tL v239.xCap), (tL v239.xShift), (tL v239.xEdge), (tI .u32 v239.xRecent), (tB v239.xStamps), (tB v239.xSacks), (tL v239.xFin), (tB v239.xDone), .row true (.rSpan v239.xFirst), (tI .u32 v239.xIrs), (tI .u32 v239.xOwn), (tB v239.xStamp)], dT 4 ([.hdr 15, (tL 0), .row true (.ruint8 []), .row true (.rPiece []), (tL 0), (tL 0), (tL 0), (tI .u32 0), (tB false), (tB false), (tL 0), (tB false)]), (.row true (.rSpan [])) :: (tI .u32 0) :: (tI .u32 0) :: (tB false) :: (dT 5 ((.hdr 1) :: (tB v236) :: (dT 5 []))), dc, dc]
theorem l_recv_take_77_t {R : Type} (cp : Nat → Nat → Bool) (n : Nat) : ∀ (m : Nat) (v236 : Bool) (v237 : SRecv) (k : Ex → FF → Option R), loopN2 (X cp n i_recv_take_24) m (fr_recv_take_75 v236 v237) k = l_recv_take_77 cp n m v236 v237 (fun v239 => k (.exit 4) (fr_recv_take_76 v236 v239))
  | 0, _, _, _ => rfl
  | m + 1, v236, v237, k => (loopN2_succ (X cp n i_recv_take_24) m (fr_recv_take_75 v236 v237) k).trans ((s_recv_take_73_t cp n v236 v237 (loopT (X cp n i_recv_take_24) m k)).trans ((show s_recv_take_73 cp n v236 v237 (fun v238 => loopT (X cp n i_recv_take_24) m k .norm (fr_recv_take_74 v236 v238)) (loopT (X cp n i_recv_take_24) m k (.exit 4) (fr_recv_take_75 v236 v237)) = s_recv_take_73 cp n v236 v237 (fun v238 => loopN2 (X cp n i_recv_take_24) m (fr_recv_take_75 v236 v238) k) (k (.exit 4) (fr_recv_take_76 v236 v237)) from by kernel_rfl).trans (congrArg (fun q => s_recv_take_73 cp n v236 v237 q (k (.exit 4) (fr_recv_take_76 v236 v237))) (funext fun v238 => l_recv_take_77_t cp n m v236 v238 k))))
def fr_recv_take_79 (v235 : SRecv) (v236 : Bool) : FF := [dT 3 ((.ptr 112 0) :: (dT 2 ((.ptr 132 0) :: (dT 4 ((.ptr 153 0) :: (dT 4 [])))))), dc, dc, dc, dc, dc, dc, [.hdr 15, (tL v235.xNext), .row true (.ruint8 v235.xUnread), .row false (.rPiece v235.xLate), (tL v235.xCap), (tL v235.xShift), (tL v235.xEdge), (tI .u32 v235.xRecent), (tB v235.xStamps), (tB v235.xSacks), (tL v235.xFin), (tB v235.xDone), .row true (.rSpan v235.xFirst), (tI .u32 v235.xIrs), (tI .u32 v235.xOwn), (tB v235.xStamp)], dT 4 ([.hdr 15, (tL 0), .row true (.ruint8 []), .row true (.rPiece []), (tL 0), (tL 0), (tL 0), (tI .u32 0), (tB false), (tB false), (tL 0), (tB false)]), (.row true (.rSpan [])) :: (tI .u32 0) :: (tI .u32 0) :: (tB false) :: (dT 5 ((.hdr 1) :: (tB v236) :: (dT 5 []))), dc, dc]
theorem s_recv_take_78_t {R : Type} (cp : Nat → Nat → Bool) (n : Nat) (v235 : SRecv) (v236 : Bool) (k : Ex → FF → Option R) : X cp n i_recv_take_25 (fr_recv_take_79 v235 v236) k = s_recv_take_78 cp n v235 v236 (fun v239 => k (.exit 4) (fr_recv_take_76 v236 v239)) := (show X cp n i_recv_take_25 (fr_recv_take_79 v235 v236) k = loopN2 (X cp n i_recv_take_24) n (fr_recv_take_75 v236 v235) k from by kernel_rfl).trans (l_recv_take_77_t cp n n v236 v235 k)
theorem s_recv_take_80_t {R : Type} (cp : Nat → Nat → Bool) (n : Nat) (v235 : SRecv) (v236 : Bool) (k : Ex → FF → Option R) : X cp n i_recv_take_26 (fr_recv_take_71 v235 v236) k = s_recv_take_80 cp n v235 v236 (fun v239 => k (.exit 4) (fr_recv_take_76 v236 v239)) := (show X cp n i_recv_take_26 (fr_recv_take_71 v235 v236) k = X cp n i_recv_take_25 (fr_recv_take_79 v235 v236) k from by kernel_rfl).trans (s_recv_take_78_t cp n v235 v236 k)
def fr_recv_take_81 (v236 : Bool) (v240 : SRecv) : FF := [dT 3 ((.ptr 112 0) :: (dT 2 ((.ptr 132 0) :: (dT 4 ((.ptr 153 0) :: (dT 4 [])))))), dc, dc, dc, dc, dc, dc, [.hdr 15, (tL v240.xNext), .row true (.ruint8 v240.xUnread), .row false (.rPiece v240.xLate), (tL v240.xCap), (tL v240.xShift), (tL v240.xEdge), (tI .u32 v240.xRecent), (tB v240.xStamps), (tB v240.xSacks), (tL v240.xFin), (tB v240.xDone), .row true (.rSpan v240.xFirst), (tI .u32 v240.xIrs), (tI .u32 v240.xOwn), (tB v240.xStamp)], dT 4 ([.hdr 15, (tL 0), .row true (.ruint8 []), .row true (.rPiece []), (tL 0), (tL 0), (tL 0), (tI .u32 0), (tB false), (tB false), (tL 0), (tB false)]), (.row true (.rSpan [])) :: (tI .u32 0) :: (tI .u32 0) :: (tB false) :: (dT 5 ((.hdr 1) :: (tB v236) :: (dT 5 []))), dc, dc]
theorem s_recv_take_82_t {R : Type} (cp : Nat → Nat → Bool) (n : Nat) (v235 : SRecv) (v236 : Bool) (k : Ex → FF → Option R) : X cp n i_recv_take_27 (fr_recv_take_71 v235 v236) k = s_recv_take_82 cp n v235 v236 (fun v240 => k .norm (fr_recv_take_81 v236 v240)) := (show X cp n i_recv_take_27 (fr_recv_take_71 v235 v236) k = X cp n i_recv_take_26 (fr_recv_take_71 v235 v236) (blkT 4 k) from by kernel_rfl).trans ((s_recv_take_80_t cp n v235 v236 (blkT 4 k)).trans (by kernel_rfl))
def fr_recv_take_84 (v236 : Bool) (v240 : SRecv) : FF := [dT 6 ((.ptr 132 0) :: (tB v236) :: (dT 8 [])), dc, dc, dc, dc, dc, dc, dc, dT 4 ([.hdr 15, (tL v240.xNext), .row true (.ruint8 v240.xUnread), .row false (.rPiece v240.xLate), (tL v240.xCap), (tL v240.xShift), (tL v240.xEdge), (tI .u32 v240.xRecent), (tB v240.xStamps), (tB v240.xSacks), (tL v240.xFin), (tB v240.xDone)]), (.row true (.rSpan v240.xFirst)) :: (tI .u32 v240.xIrs) :: (tI .u32 v240.xOwn) :: (tB v240.xStamp) :: (dT 12 []), dc, dc]
theorem s_recv_take_83_t {R : Type} (cp : Nat → Nat → Bool) (n : Nat) (v236 : Bool) (v240 : SRecv) (k : Ex → FF → Option R) : X cp n i_recv_take_28 (fr_recv_take_81 v236 v240) k = s_recv_take_83 cp n v236 v240 (k .ret (fr_recv_take_84 v236 v240)) := by kernel_rfl
def fr_recv_take_85 (v236 : Bool) (v241 : SRecv) : FF := [dT 6 ((.ptr 132 0) :: (tB v236) :: (dT 8 [])), dc, dc, dc, dc, dc, dc, dc, dT 4 ([.hdr 15, (tL v241.xNext), .row true (.ruint8 v241.xUnread), .row false (.rPiece v241.xLate), (tL v241.xCap), (tL v241.xShift), (tL v241.xEdge), (tI .u32 v241.xRecent), (tB v241.xStamps), (tB v241.xSacks), (tL v241.xFin), (tB v241.xDone)]), (.row true (.rSpan v241.xFirst)) :: (tI .u32 v241.xIrs) :: (tI .u32 v241.xOwn) :: (tB v241.xStamp) :: (dT 12 []), dc, dc]
theorem s_recv_take_86_t {R : Type} (cp : Nat → Nat → Bool) (n : Nat) (v235 : SRecv) (v236 : Bool) (k : Ex → FF → Option R) : X cp n i_recv_take_29 (fr_recv_take_71 v235 v236) k = s_recv_take_86 cp n v235 v236 (fun v241 => k .ret (fr_recv_take_85 v236 v241)) := (show X cp n i_recv_take_29 (fr_recv_take_71 v235 v236) k = X cp n i_recv_take_27 (fr_recv_take_71 v235 v236) (seqT (X cp n) i_recv_take_28 k) from by kernel_rfl).trans ((show X cp n i_recv_take_27 (fr_recv_take_71 v235 v236) (seqT (X cp n) i_recv_take_28 k) = s_recv_take_82 cp n v235 v236 (fun v240 => X cp n i_recv_take_28 (fr_recv_take_81 v236 v240) k) from (s_recv_take_82_t cp n v235 v236 (seqT (X cp n) i_recv_take_28 k)).trans (by kernel_rfl)).trans (congrArg (fun q => s_recv_take_82 cp n v235 v236 q) (funext fun v240 => (s_recv_take_83_t cp n v236 v240 k).trans (show s_recv_take_83 cp n v236 v240 (k .ret (fr_recv_take_84 v236 v240)) = s_recv_take_83 cp n v236 v240 (k .ret (fr_recv_take_85 v236 v240)) from by kernel_rfl))))
def fr_recv_take_87 (v242 : Bool) (v243 : SRecv) : FF := [dT 6 ((.ptr 132 0) :: (tB v242) :: (dT 8 [])), dc, dc, dc, dc, dc, dc, dc, dT 4 ([.hdr 15, (tL v243.xNext), .row true (.ruint8 v243.xUnread), .row false (.rPiece v243.xLate), (tL v243.xCap), (tL v243.xShift), (tL v243.xEdge), (tI .u32 v243.xRecent), (tB v243.xStamps), (tB v243.xSacks), (tL v243.xFin), (tB v243.xDone)]), (.row true (.rSpan v243.xFirst)) :: (tI .u32 v243.xIrs) :: (tI .u32 v243.xOwn) :: (tB v243.xStamp) :: (dT 12 []), dc, dc]
theorem s_recv_take_88_t {R : Type} (cp : Nat → Nat → Bool) (n : Nat) (p0 : SRecv) (p1 : Int) (p2 : (List Int)) (v181 : Int) (v207 : (List SSpan)) (k : Ex → FF → Option R) : X cp n i_recv_take_30 (fr_recv_take_52 p0 p1 p2 v181 v207) k = s_recv_take_88 cp n p0 p1 p2 v181 v207 (fun v242 v243 => k .ret (fr_recv_take_87 v242 v243)) := (show X cp n i_recv_take_30 (fr_recv_take_52 p0 p1 p2 v181 v207) k = X cp n i_recv_take_23 (fr_recv_take_52 p0 p1 p2 v181 v207) (seqT (X cp n) i_recv_take_29 k) from by kernel_rfl).trans ((show X cp n i_recv_take_23 (fr_recv_take_52 p0 p1 p2 v181 v207) (seqT (X cp n) i_recv_take_29 k) = s_recv_take_72 cp n p0 p1 p2 v181 v207 (fun v235 v236 => X cp n i_recv_take_29 (fr_recv_take_71 v235 v236) k) from (s_recv_take_72_t cp n p0 p1 p2 v181 v207 (seqT (X cp n) i_recv_take_29 k)).trans (by kernel_rfl)).trans (congrArg (fun q => s_recv_take_72 cp n p0 p1 p2 v181 v207 q) (funext fun v235 => funext fun v236 => (s_recv_take_86_t cp n v235 v236 k).trans (show s_recv_take_86 cp n v235 v236 (fun v241 => k .ret (fr_recv_take_85 v236 v241)) = s_recv_take_86 cp n v235 v236 (fun v241 => k .ret (fr_recv_take_87 v236 v241)) from by kernel_rfl))))
def fr_recv_take_89 (v244 : Bool) (v245 : SRecv) : FF := [dT 6 ((.ptr 132 0) :: (tB v244) :: (dT 8 [])), dc, dc, dc, dc, dc, dc, dc, dT 4 ([.hdr 15, (tL v245.xNext), .row true (.ruint8 v245.xUnread), .row false (.rPiece v245.xLate), (tL v245.xCap), (tL v245.xShift), (tL v245.xEdge), (tI .u32 v245.xRecent), (tB v245.xStamps), (tB v245.xSacks), (tL v245.xFin), (tB v245.xDone)]), (.row true (.rSpan v245.xFirst)) :: (tI .u32 v245.xIrs) :: (tI .u32 v245.xOwn) :: (tB v245.xStamp) :: (dT 12 []), dc, dc]
theorem s_recv_take_90_t {R : Type} (cp : Nat → Nat → Bool) (n : Nat) (p0 : SRecv) (p1 : Int) (p2 : (List Int)) (v181 : Int) (v207 : (List SSpan)) (k : Ex → FF → Option R) : X cp n i_recv_take_31 (fr_recv_take_49 p0 p1 p2 v181 v207) k = s_recv_take_90 cp n p0 p1 p2 v181 v207 (fun v244 v245 => k .ret (fr_recv_take_89 v244 v245)) := ((fun c => (show X cp n (.seq (.reg g_recv_take_8) (.seq (.fin (.reg g_recv_take_9) [5, 37] []) c)) (fr_recv_take_49 p0 p1 p2 v181 v207) k = s_recv_take_51 cp n p0 p1 p2 v181 v207 (X cp n c (fr_recv_take_52 p0 p1 p2 v181 v207) k) from by kernel_rfl)) i_recv_take_30).trans (congrArg (fun q => s_recv_take_51 cp n p0 p1 p2 v181 v207 q) ((s_recv_take_88_t cp n p0 p1 p2 v181 v207 k).trans (show s_recv_take_88 cp n p0 p1 p2 v181 v207 (fun v242 v243 => k .ret (fr_recv_take_87 v242 v243)) = s_recv_take_88 cp n p0 p1 p2 v181 v207 (fun v242 v243 => k .ret (fr_recv_take_89 v242 v243)) from by kernel_rfl)))
def fr_recv_take_91 (v246 : Bool) (v247 : SRecv) : FF := [dT 6 ((.ptr 132 0) :: (tB v246) :: (dT 8 [])), dc, dc, dc, dc, dc, dc, dc, dT 4 ([.hdr 15, (tL v247.xNext), .row true (.ruint8 v247.xUnread), .row false (.rPiece v247.xLate), (tL v247.xCap), (tL v247.xShift), (tL v247.xEdge), (tI .u32 v247.xRecent), (tB v247.xStamps), (tB v247.xSacks), (tL v247.xFin), (tB v247.xDone)]), (.row true (.rSpan v247.xFirst)) :: (tI .u32 v247.xIrs) :: (tI .u32 v247.xOwn) :: (tB v247.xStamp) :: (dT 12 []), dc, dc]
theorem s_recv_take_92_t {R : Type} (cp : Nat → Nat → Bool) (n : Nat) (p0 : SRecv) (p1 : Int) (p2 : (List Int)) (v181 : Int) (k : Ex → FF → Option R) : X cp n i_recv_take_32 (fr_recv_take_2 p0 p1 p2 v181) k = s_recv_take_92 cp n p0 p1 p2 v181 (fun v246 v247 => k .ret (fr_recv_take_91 v246 v247)) := (show X cp n i_recv_take_32 (fr_recv_take_2 p0 p1 p2 v181) k = X cp n i_recv_take_16 (fr_recv_take_2 p0 p1 p2 v181) (seqT (X cp n) i_recv_take_31 k) from by kernel_rfl).trans ((show X cp n i_recv_take_16 (fr_recv_take_2 p0 p1 p2 v181) (seqT (X cp n) i_recv_take_31 k) = s_recv_take_50 cp n p0 p1 p2 v181 (fun v207 => X cp n i_recv_take_31 (fr_recv_take_49 p0 p1 p2 v181 v207) k) from (s_recv_take_50_t cp n p0 p1 p2 v181 (seqT (X cp n) i_recv_take_31 k)).trans (by kernel_rfl)).trans (congrArg (fun q => s_recv_take_50 cp n p0 p1 p2 v181 q) (funext fun v207 => (s_recv_take_90_t cp n p0 p1 p2 v181 v207 k).trans (show s_recv_take_90 cp n p0 p1 p2 v181 v207 (fun v244 v245 => k .ret (fr_recv_take_89 v244 v245)) = s_recv_take_90 cp n p0 p1 p2 v181 v207 (fun v244 v245 => k .ret (fr_recv_take_91 v244 v245)) from by kernel_rfl))))
def fr_recv_take_93 (v248 : Bool) (v249 : SRecv) : FF := [dT 6 ((.ptr 132 0) :: (tB v248) :: (dT 8 [])), dc, dc, dc, dc, dc, dc, dc, dT 4 ([.hdr 15, (tL v249.xNext), .row true (.ruint8 v249.xUnread), .row false (.rPiece v249.xLate), (tL v249.xCap), (tL v249.xShift), (tL v249.xEdge), (tI .u32 v249.xRecent), (tB v249.xStamps), (tB v249.xSacks), (tL v249.xFin), (tB v249.xDone)]), (.row true (.rSpan v249.xFirst)) :: (tI .u32 v249.xIrs) :: (tI .u32 v249.xOwn) :: (tB v249.xStamp) :: (dT 12 []), dc, dc]
def fr_recv_take_95 (p0 : SRecv) (p1 : Int) (p2 : (List Int)) : FF := [(.agg (eRecvt p0)) :: (tL p1) :: (.row false (.ruint8 p2)) :: (dT 13 []), dc, dc, dc, dc, dc, dc, dc, dc, dc, dc, dc]
theorem s_recv_take_94_t {R : Type} (cp : Nat → Nat → Bool) (n : Nat) (p0 : SRecv) (p1 : Int) (p2 : (List Int)) (k : Ex → FF → Option R) : X cp n i_recv_take_33 (fr_recv_take_95 p0 p1 p2) k = s_recv_take_94 cp n p0 p1 p2 (fun v248 v249 => k .ret (fr_recv_take_93 v248 v249)) := ((fun c => (show X cp n (.seq (.fin (.reg g_recv_take_0) [0, 1, 2, 7] []) (.seq (.fin (.reg g_recv_take_1) [16, 17, 18, 19, 20, 21, 22] []) (.seq (.seq (.fin (.reg g_recv_take_2) [23, 24] []) (.fin (.cond (.s 25) (.fin (.reg g_recv_take_3) [25, 26, 27, 28, 29] []) i_recv_take_21) [25] [])) (.seq (.reg g_recv_take_4) c)))) (fr_recv_take_95 p0 p1 p2) k = s_recv_take_1 cp n p0 p1 p2 (fun v181 => X cp n c (fr_recv_take_2 p0 p1 p2 v181) k) from by kernel_rfl)) i_recv_take_32).trans (congrArg (fun q => s_recv_take_1 cp n p0 p1 p2 q) (funext fun v181 => (s_recv_take_92_t cp n p0 p1 p2 v181 k).trans (show s_recv_take_92 cp n p0 p1 p2 v181 (fun v246 v247 => k .ret (fr_recv_take_91 v246 v247)) = s_recv_take_92 cp n p0 p1 p2 v181 (fun v246 v247 => k .ret (fr_recv_take_93 v246 v247)) from by kernel_rfl)))
theorem run_recv_take {R : Type} (cp : Nat → Nat → Bool) (n : Nat) (p0 : SRecv) (p1 : Int) (p2 : (List Int)) (k : Ret2 RW → Option R) : G_recv_take cp (n + 1) p0 p1 p2 (fun r0 r1 => k ⟨.tup [.agg [(tL r0.xNext), .row true (.ruint8 r0.xUnread), .row false (.rPiece r0.xLate), (tL r0.xCap), (tL r0.xShift), (tL r0.xEdge), (tI .u32 r0.xRecent), (tB r0.xStamps), (tB r0.xSacks), (tL r0.xFin), (tB r0.xDone), .row true (.rSpan r0.xFirst), (tI .u32 r0.xIrs), (tI .u32 r0.xOwn), (tB r0.xStamp)], (tB r1)], [], []⟩) = run2 U cp (callP cp n) n fn_recv_take [.agg (eRecvt p0), (tL p1), .row false (.ruint8 p2)] [] k := ((X_run (f := fn_recv_take) (av := [.agg (eRecvt p0), (tL p1), .row false (.ruint8 p2)]) (cells := []) (code := i_recv_take_33) (fr := (fr_recv_take_95 p0 p1 p2)) (k := k) (by kernel_rfl) (fun K => by kernel_rfl)).trans ((s_recv_take_94_t cp n p0 p1 p2 (finK2 fn_recv_take k)).trans (by kernel_rfl))).symm
/-! tideway/recv.firsts$1 -/
theorem run_recv_firsts_1 {R : Type} (cp : Nat → Nat → Bool) (n : Nat) (p0 q0 : SSpan) (k : Ret2 RW → Option R) : G_recv_firsts_1 cp (n + 1) p0 q0 (fun r0 r1 => k ⟨(tB r0), [(eSpan r1)], []⟩) = run2 U cp (callP cp n) n fn_recv_firsts_1 [.agg (eSpan p0), .ptr 16 0] [(eSpan q0)] k := by kernel_rfl
/-! slices.IndexFunc[[]tideway/api.Span,tideway/api.Span] -/
def fr_slices_IndexFunc_Span_2 (p0 : (List SSpan)) (q0 : SSpan) : FF := [(.row false (.rSpan p0)) :: (.clo 63 [(19, 0)]) :: (dT 14 []), dT 3 ((.hdr 2) :: ((eSpan q0) ++ (dT 10 [])))]
def fr_slices_IndexFunc_Span_4 (p0 : (List SSpan)) (q0 : SSpan) (v267 : Int) : FF := [(.row false (.rSpan p0)) :: (.clo 63 [(19, 0)]) :: (dT 5 ((tL v267) :: (tL 0) :: (dT 7 []))), dT 3 ((.hdr 2) :: ((eSpan q0) ++ (dT 10 [])))]
def fr_slices_IndexFunc_Span_6 (p0 : (List SSpan)) (v267 v273 v274 v275 : Int) : FF := [(.row false (.rSpan p0)) :: (.clo 63 [(19, 0)]) :: (dT 5 ((tL v267) :: (tL v273) :: (dT 7 []))), dT 3 ((.hdr 2) :: (tL v274) :: (tL v275) :: (dT 10 []))]
def fr_slices_IndexFunc_Span_7 (v268 v276 v277 : Int) : FF := [dT 4 ((tL v268) :: (dT 11 [])), dT 3 ((.hdr 2) :: (tL v276) :: (tL v277) :: (dT 10 []))]
def fr_slices_IndexFunc_Span_8 (v269 v270 : Int) : FF := [dc, dT 3 ((.hdr 2) :: (tL v269) :: (tL v270) :: (dT 10 []))]
def fr_slices_IndexFunc_Span_9 (p0 : (List SSpan)) (v267 v268 v269 v270 : Int) : FF := [(.row false (.rSpan p0)) :: (.clo 63 [(19, 0)]) :: (dT 5 ((tL v267) :: (tL v268) :: (dT 7 []))), dT 3 ((.hdr 2) :: (tL v269) :: (tL v270) :: (dT 10 []))]
theorem s_slices_IndexFunc_Span_5_t {R : Type} (cp : Nat → Nat → Bool) (n : Nat) (p0 : (List SSpan)) (v267 v268 v269 v270 : Int) (k : Ex → FF → Option R) : X cp n i_slices_IndexFunc_Span_0 (fr_slices_IndexFunc_Span_9 p0 v267 v268 v269 v270) k = s_slices_IndexFunc_Span_5 cp n p0 v267 v268 v269 v270 (fun v273 v274 v275 => k .norm (fr_slices_IndexFunc_Span_6 p0 v267 v273 v274 v275)) (fun v276 v277 => k .ret (fr_slices_IndexFunc_Span_7 v268 v276 v277)) (k (.exit 0) (fr_slices_IndexFunc_Span_8 v269 v270)) := by kernel_rfl
def fr_slices_IndexFunc_Span_10 (v278 v279 v280 : Int) : FF := [dT 4 ((tL v278) :: (dT 11 [])), dT 3 ((.hdr 2) :: (tL v279) :: (tL v280) :: (dT 10 []))]
def fr_slices_IndexFunc_Span_11 (v281 v282 : Int) : FF := [dc, dT 3 ((.hdr 2) :: (tL v281) :: (tL v282) :: (dT 10 []))]
theorem l_slices_IndexFunc_Span_12_t {R : Type} (cp : Nat → Nat → Bool) (n : Nat) : ∀ (m : Nat) (p0 : (List SSpan)) (v267 v268 v269 v270 : Int) (k : Ex → FF → Option R), loopN2 (X cp n i_slices_IndexFunc_Span_0) m (fr_slices_IndexFunc_Span_9 p0 v267 v268 v269 v270) k = l_slices_IndexFunc_Span_12 cp n m p0 v267 v268 v269 v270 (fun v278 v279 v280 => k .ret (fr_slices_IndexFunc_Span_10 v278 v279 v280)) (fun v281 v282 => k (.exit 0) (fr_slices_IndexFunc_Span_11 v281 v282))
  | 0, _, _, _, _, _, _ => rfl
  | m + 1, p0, v267, v268, v269, v270, k => (loopN2_succ (X cp n i_slices_IndexFunc_Span_0) m (fr_slices_IndexFunc_Span_9 p0 v267 v268 v269 v270) k).trans ((s_slices_IndexFunc_Span_5_t cp n p0 v267 v268 v269 v270 (loopT (X cp n i_slices_IndexFunc_Span_0) m k)).trans ((show s_slices_IndexFunc_Span_5 cp n p0 v267 v268 v269 v270 (fun v273 v274 v275 => loopT (X cp n i_slices_IndexFunc_Span_0) m k .norm (fr_slices_IndexFunc_Span_6 p0 v267 v273 v274 v275)) (fun v276 v277 => loopT (X cp n i_slices_IndexFunc_Span_0) m k .ret (fr_slices_IndexFunc_Span_7 v268 v276 v277)) (loopT (X cp n i_slices_IndexFunc_Span_0) m k (.exit 0) (fr_slices_IndexFunc_Span_8 v269 v270)) = s_slices_IndexFunc_Span_5 cp n p0 v267 v268 v269 v270 (fun v273 v274 v275 => loopN2 (X cp n i_slices_IndexFunc_Span_0) m (fr_slices_IndexFunc_Span_9 p0 v267 v273 v274 v275) k) (fun v276 v277 => k .ret (fr_slices_IndexFunc_Span_10 v268 v276 v277)) (k (.exit 0) (fr_slices_IndexFunc_Span_11 v269 v270)) from by kernel_rfl).trans (congrArg (fun q => s_slices_IndexFunc_Span_5 cp n p0 v267 v268 v269 v270 q (fun v276 v277 => k .ret (fr_slices_IndexFunc_Span_10 v268 v276 v277)) (k (.exit 0) (fr_slices_IndexFunc_Span_11 v269 v270))) (funext fun v273 => funext fun v274 => funext fun v275 => l_slices_IndexFunc_Span_12_t cp n m p0 v267 v273 v274 v275 k))))
theorem s_slices_IndexFunc_Span_13_t {R : Type} (cp : Nat → Nat → Bool) (n : Nat) (p0 : (List SSpan)) (q0 : SSpan) (v267 : Int) (k : Ex → FF → Option R) : X cp n i_slices_IndexFunc_Span_1 (fr_slices_IndexFunc_Span_4 p0 q0 v267) k = s_slices_IndexFunc_Span_13 cp n p0 q0 v267 (fun v278 v279 v280 => k .ret (fr_slices_IndexFunc_Span_10 v278 v279 v280)) (fun v281 v282 => k (.exit 0) (fr_slices_IndexFunc_Span_11 v281 v282)) := (show X cp n i_slices_IndexFunc_Span_1 (fr_slices_IndexFunc_Span_4 p0 q0 v267) k = loopN2 (X cp n i_slices_IndexFunc_Span_0) n (fr_slices_IndexFunc_Span_9 p0 v267 0 q0.xFrom q0.xTo) k from by kernel_rfl).trans (l_slices_IndexFunc_Span_12_t cp n n p0 v267 0 q0.xFrom q0.xTo k)
def fr_slices_IndexFunc_Span_14 (v283 v284 : Int) : FF := [dc, dT 3 ((.hdr 2) :: (tL v283) :: (tL v284) :: (dT 10 []))]
def fr_slices_IndexFunc_Span_15 (v285 v286 v287 : Int) : FF := [dT 4 ((tL v285) :: (dT 11 [])), dT 3 ((.hdr 2) :: (tL v286) :: (tL v287) :: (dT 10 []))]
theorem s_slices_IndexFunc_Span_16_t {R : Type} (cp : Nat → Nat → Bool) (n : Nat) (p0 : (List SSpan)) (q0 : SSpan) (v267 : Int) (k : Ex → FF → Option R) : X cp n i_slices_IndexFunc_Span_2 (fr_slices_IndexFunc_Span_4 p0 q0 v267) k = s_slices_IndexFunc_Span_16 cp n p0 q0 v267 (fun v283 v284 => k .norm (fr_slices_IndexFunc_Span_14 v283 v284)) (fun v285 v286 v287 => k .ret (fr_slices_IndexFunc_Span_15 v285 v286 v287)) := (show X cp n i_slices_IndexFunc_Span_2 (fr_slices_IndexFunc_Span_4 p0 q0 v267) k = X cp n i_slices_IndexFunc_Span_1 (fr_slices_IndexFunc_Span_4 p0 q0 v267) (blkT 0 k) from by kernel_rfl).trans ((s_slices_IndexFunc_Span_13_t cp n p0 q0 v267 (blkT 0 k)).trans (by kernel_rfl))
def fr_slices_IndexFunc_Span_17 (v288 v289 : Int) : FF := [dc, dT 3 ((.hdr 2) :: (tL v288) :: (tL v289) :: (dT 10 []))]
def fr_slices_IndexFunc_Span_18 (v290 v291 v292 : Int) : FF := [dT 4 ((tL v290) :: (dT 11 [])), dT 3 ((.hdr 2) :: (tL v291) :: (tL v292) :: (dT 10 []))]
theorem s_slices_IndexFunc_Span_19_t {R : Type} (cp : Nat → Nat → Bool) (n : Nat) (p0 : (List SSpan)) (q0 : SSpan) (k : Ex → FF → Option R) : X cp n i_slices_IndexFunc_Span_3 (fr_slices_IndexFunc_Span_2 p0 q0) k = s_slices_IndexFunc_Span_19 cp n p0 q0 (fun v288 v289 => k .norm (fr_slices_IndexFunc_Span_17 v288 v289)) (fun v290 v291 v292 => k .ret (fr_slices_IndexFunc_Span_18 v290 v291 v292)) := ((fun c => (show X cp n (.seq (.fin (.reg g_slices_IndexFunc_Span_1) [6] []) c) (fr_slices_IndexFunc_Span_2 p0 q0) k = s_slices_IndexFunc_Span_3 cp n p0 q0 (fun v267 => X cp n c (fr_slices_IndexFunc_Span_4 p0 q0 v267) k) from by kernel_rfl)) i_slices_IndexFunc_Span_2).trans (congrArg (fun q => s_slices_IndexFunc_Span_3 cp n p0 q0 q) (funext fun v267 => (s_slices_IndexFunc_Span_16_t cp n p0 q0 v267 k).trans (show s_slices_IndexFunc_Span_16 cp n p0 q0 v267 (fun v283 v284 => k .norm (fr_slices_IndexFunc_Span_14 v283 v284)) (fun v285 v286 v287 => k .ret (fr_slices_IndexFunc_Span_15 v285 v286 v287)) = s_slices_IndexFunc_Span_16 cp n p0 q0 v267 (fun v283 v284 => k .norm (fr_slices_IndexFunc_Span_17 v283 v284)) (fun v285 v286 v287 => k .ret (fr_slices_IndexFunc_Span_18 v285 v286 v287)) from by kernel_rfl)))
def fr_slices_IndexFunc_Span_21 (v288 v289 : Int) : FF := [dT 4 ((tL (-1)) :: (dT 11 [])), dT 3 ((.hdr 2) :: (tL v288) :: (tL v289) :: (dT 10 []))]
theorem s_slices_IndexFunc_Span_20_t {R : Type} (cp : Nat → Nat → Bool) (n : Nat) (v288 v289 : Int) (k : Ex → FF → Option R) : X cp n i_slices_IndexFunc_Span_4 (fr_slices_IndexFunc_Span_17 v288 v289) k = s_slices_IndexFunc_Span_20 cp n v288 v289 (k .ret (fr_slices_IndexFunc_Span_21 v288 v289)) := by kernel_rfl
def fr_slices_IndexFunc_Span_22 (v293 v294 v295 : Int) : FF := [dT 4 ((tL v293) :: (dT 11 [])), dT 3 ((.hdr 2) :: (tL v294) :: (tL v295) :: (dT 10 []))]
theorem s_slices_IndexFunc_Span_23_t {R : Type} (cp : Nat → Nat → Bool) (n : Nat) (p0 : (List SSpan)) (q0 : SSpan) (k : Ex → FF → Option R) : X cp n i_slices_IndexFunc_Span_5 (fr_slices_IndexFunc_Span_2 p0 q0) k = s_slices_IndexFunc_Span_23 cp n p0 q0 (fun v293 v294 v295 => k .ret (fr_slices_IndexFunc_Span_22 v293 v294 v295)) := (show X cp n i_slices_IndexFunc_Span_5 (fr_slices_IndexFunc_Span_2 p0 q0) k = X cp n i_slices_IndexFunc_Span_3 (fr_slices_IndexFunc_Span_2 p0 q0) (seqT (X cp n) i_slices_IndexFunc_Span_4 k) from by kernel_rfl).trans ((show X cp n i_slices_IndexFunc_Span_3 (fr_slices_IndexFunc_Span_2 p0 q0) (seqT (X cp n) i_slices_IndexFunc_Span_4 k) = s_slices_IndexFunc_Span_19 cp n p0 q0 (fun v288 v289 => X cp n i_slices_IndexFunc_Span_4 (fr_slices_IndexFunc_Span_17 v288 v289) k) (fun v290 v291 v292 => k .ret (fr_slices_IndexFunc_Span_22 v290 v291 v292)) from (s_slices_IndexFunc_Span_19_t cp n p0 q0 (seqT (X cp n) i_slices_IndexFunc_Span_4 k)).trans (by kernel_rfl)).trans (congrArg (fun q => s_slices_IndexFunc_Span_19 cp n p0 q0 q (fun v290 v291 v292 => k .ret (fr_slices_IndexFunc_Span_22 v290 v291 v292))) (funext fun v288 => funext fun v289 => (s_slices_IndexFunc_Span_20_t cp n v288 v289 k).trans (show s_slices_IndexFunc_Span_20 cp n v288 v289 (k .ret (fr_slices_IndexFunc_Span_21 v288 v289)) = s_slices_IndexFunc_Span_20 cp n v288 v289 (k .ret (fr_slices_IndexFunc_Span_22 (-1) v288 v289)) from by kernel_rfl))))
def fr_slices_IndexFunc_Span_24 (v296 v297 v298 : Int) : FF := [dT 4 ((tL v296) :: (dT 11 [])), dT 3 ((.hdr 2) :: (tL v297) :: (tL v298) :: (dT 10 []))]
theorem s_slices_IndexFunc_Span_25_t {R : Type} (cp : Nat → Nat → Bool) (n : Nat) (p0 : (List SSpan)) (q0 : SSpan) (k : Ex → FF → Option R) : X cp n i_slices_IndexFunc_Span_6 (fr_slices_IndexFunc_Span_2 p0 q0) k = s_slices_IndexFunc_Span_25 cp n p0 q0 (fun v296 v297 v298 => k .ret (fr_slices_IndexFunc_Span_24 v296 v297 v298)) := ((fun c => (show X cp n (.seq (.fin (.reg g_slices_IndexFunc_Span_0) [4] []) c) (fr_slices_IndexFunc_Span_2 p0 q0) k = s_slices_IndexFunc_Span_1 cp n p0 q0 (X cp n c (fr_slices_IndexFunc_Span_2 p0 q0) k) from by kernel_rfl)) i_slices_IndexFunc_Span_5).trans (congrArg (fun q => s_slices_IndexFunc_Span_1 cp n p0 q0 q) ((s_slices_IndexFunc_Span_23_t cp n p0 q0 k).trans (show s_slices_IndexFunc_Span_23 cp n p0 q0 (fun v293 v294 v295 => k .ret (fr_slices_IndexFunc_Span_22 v293 v294 v295)) = s_slices_IndexFunc_Span_23 cp n p0 q0 (fun v293 v294 v295 => k .ret (fr_slices_IndexFunc_Span_24 v293 v294 v295)) from by kernel_rfl)))
theorem run_slices_IndexFunc_Span {R : Type} (cp : Nat → Nat → Bool) (n : Nat) (p0 : (List SSpan)) (q0 : SSpan) (k : Ret2 RW → Option R) : G_slices_IndexFunc_Span cp (n + 1) p0 q0 (fun r0 r1 => k ⟨(tL r0), [(eSpan r1)], []⟩) = run2 U cp (callP cp n) n fn_slices_IndexFunc_Span [.row false (.rSpan p0), .clo 63 [(19, 0)]] [(eSpan q0)] k := ((X_run (f := fn_slices_IndexFunc_Span) (av := [.row false (.rSpan p0), .clo 63 [(19, 0)]]) (cells := [(eSpan q0)]) (code := i_slices_IndexFunc_Span_6) (fr := (fr_slices_IndexFunc_Span_2 p0 q0)) (k := k) (by kernel_rfl) (fun K => by kernel_rfl)).trans ((s_slices_IndexFunc_Span_25_t cp n p0 q0 (finK2 fn_slices_IndexFunc_Span k)).trans (by kernel_rfl))).symm
/-! tideway/recv.firsts -/
def fr_recv_firsts_2 (p0 : SRecv) (p1 : Int) (p2 : (List Int)) (v258 : (List SSpan)) : FF := [dT 1 ((tL p1) :: (.row false (.ruint8 p2)) :: (dT 4 ((.row false (.rSpan v258)) :: (.row false (.rSpan p0.xFirst)) :: (dT 7 [])))), dc, dc, dc, dc, dc, dc, dc]
def fr_recv_firsts_4 (p0 : SRecv) (p1 : Int) (p2 : (List Int)) (v258 : (List SSpan)) (v259 : Int) : FF := [dT 1 ((tL p1) :: (.row false (.ruint8 p2)) :: (dT 4 ((.row false (.rSpan v258)) :: (.row false (.rSpan p0.xFirst)) :: (tL v259) :: (dT 6 [])))), dc, dc, dc, dc, dc, dc, dc]
def fr_recv_firsts_6 (p0 : SRecv) (p1 : Int) (p2 : (List Int)) (v258 : (List SSpan)) (v261 : Int) : FF := [dT 1 ((tL p1) :: (.row false (.ruint8 p2)) :: (dT 4 ((.row false (.rSpan v258)) :: (.row false (.rSpan p0.xFirst)) :: (tL v261) :: (dT 6 [])))), dc, dc, dc, dc, dc, dc, dc]
def fr_recv_firsts_7 (v258 v262 : (List SSpan)) : FF := [dT 7 ((.row false (.rSpan v258)) :: (.row false (.rSpan v262)) :: (dT 7 [])), dc, dc, dc, dc, dc, dc, dc]
def fr_recv_firsts_8 (p0 : SRecv) (p1 : Int) (p2 : (List Int)) (v258 : (List SSpan)) (v260 : Int) : FF := [dT 1 ((tL p1) :: (.row false (.ruint8 p2)) :: (dT 4 ((.row false (.rSpan v258)) :: (.row false (.rSpan p0.xFirst)) :: (tL v260) :: (dT 6 [])))), dc, dc, dc, dc, dc, dc, dc]
theorem s_recv_firsts_5_t {R : Type} (cp : Nat → Nat → Bool) (n : Nat) (p0 : SRecv) (p1 : Int) (p2 : (List Int)) (v258 : (List SSpan)) (v260 : Int) (k : Ex → FF → Option R) : X cp n i_recv_firsts_0 (fr_recv_firsts_8 p0 p1 p2 v258 v260) k = s_recv_firsts_5 cp n p0 p1 p2 v258 v260 (fun v261 => k .norm (fr_recv_firsts_6 p0 p1 p2 v258 v261)) (fun v262 => k (.exit 0) (fr_recv_firsts_7 v258 v262)) := by kernel_rfl
def fr_recv_firsts_9 (v258 v263 : (List SSpan)) : FF := [dT 7 ((.row false (.rSpan v258)) :: (.row false (.rSpan v263)) :: (dT 7 [])), dc, dc, dc, dc, dc, dc, dc]
theorem l_recv_firsts_10_t {R : Type} (cp : Nat → Nat → Bool) (n : Nat) : ∀ (m : Nat) (p0 : SRecv) (p1 : Int) (p2 : (List Int)) (v258 : (List SSpan)) (v260 : Int) (k : Ex → FF → Option R), loopN2 (X cp n i_recv_firsts_0) m (fr_recv_firsts_8 p0 p1 p2 v258 v260) k = l_recv_firsts_10 cp n m p0 p1 p2 v258 v260 (fun v263 => k (.exit 0) (fr_recv_firsts_9 v258 v263))
  | 0, _, _, _, _, _, _ => rfl
  | m + 1, p0, p1, p2, v258, v260, k => (loopN2_succ (X cp n i_recv_firsts_0) m (fr_recv_firsts_8 p0 p1 p2 v258 v260) k).trans ((s_recv_firsts_5_t cp n p0 p1 p2 v258 v260 (loopT (X cp n i_recv_firsts_0) m k)).trans ((show s_recv_firsts_5 cp n p0 p1 p2 v258 v260 (fun v261 => loopT (X cp n i_recv_firsts_0) m k .norm (fr_recv_firsts_6 p0 p1 p2 v258 v261)) (fun v262 => loopT (X cp n i_recv_firsts_0) m k (.exit 0) (fr_recv_firsts_7 v258 v262)) = s_recv_firsts_5 cp n p0 p1 p2 v258 v260 (fun v261 => loopN2 (X cp n i_recv_firsts_0) m (fr_recv_firsts_8 p0 p1 p2 v258 v261) k) (fun v262 => k (.exit 0) (fr_recv_firsts_9 v258 v262)) from by kernel_rfl).trans (congrArg (fun q => s_recv_firsts_5 cp n p0 p1 p2 v258 v260 q (fun v262 => k (.exit 0) (fr_recv_firsts_9 v258 v262))) (funext fun v261 => l_recv_firsts_10_t cp n m p0 p1 p2 v258 v261 k))))
theorem s_recv_firsts_11_t {R : Type} (cp : Nat → Nat → Bool) (n : Nat) (p0 : SRecv) (p1 : Int) (p2 : (List Int)) (v258 : (List SSpan)) (v259 : Int) (k : Ex → FF → Option R) : X cp n i_recv_firsts_1 (fr_recv_firsts_4 p0 p1 p2 v258 v259) k = s_recv_firsts_11 cp n p0 p1 p2 v258 v259 (fun v263 => k (.exit 0) (fr_recv_firsts_9 v258 v263)) := (show X cp n i_recv_firsts_1 (fr_recv_firsts_4 p0 p1 p2 v258 v259) k = loopN2 (X cp n i_recv_firsts_0) n (fr_recv_firsts_8 p0 p1 p2 v258 v259) k from by kernel_rfl).trans (l_recv_firsts_10_t cp n n p0 p1 p2 v258 v259 k)
def fr_recv_firsts_12 (v258 v264 : (List SSpan)) : FF := [dT 7 ((.row false (.rSpan v258)) :: (.row false (.rSpan v264)) :: (dT 7 [])), dc, dc, dc, dc, dc, dc, dc]
theorem s_recv_firsts_13_t {R : Type} (cp : Nat → Nat → Bool) (n : Nat) (p0 : SRecv) (p1 : Int) (p2 : (List Int)) (v258 : (List SSpan)) (v259 : Int) (k : Ex → FF → Option R) : X cp n i_recv_firsts_2 (fr_recv_firsts_4 p0 p1 p2 v258 v259) k = s_recv_firsts_13 cp n p0 p1 p2 v258 v259 (fun v264 => k .norm (fr_recv_firsts_12 v258 v264)) := (show X cp n i_recv_firsts_2 (fr_recv_firsts_4 p0 p1 p2 v258 v259) k = X cp n i_recv_firsts_1 (fr_recv_firsts_4 p0 p1 p2 v258 v259) (blkT 0 k) from by kernel_rfl).trans ((s_recv_firsts_11_t cp n p0 p1 p2 v258 v259 (blkT 0 k)).trans (by kernel_rfl))
def fr_recv_firsts_14 (v258 v265 : (List SSpan)) : FF := [dT 7 ((.row false (.rSpan v258)) :: (.row false (.rSpan v265)) :: (dT 7 [])), dc, dc, dc, dc, dc, dc, dc]
theorem s_recv_firsts_15_t {R : Type} (cp : Nat → Nat → Bool) (n : Nat) (p0 : SRecv) (p1 : Int) (p2 : (List Int)) (v258 : (List SSpan)) (k : Ex → FF → Option R) : X cp n i_recv_firsts_3 (fr_recv_firsts_2 p0 p1 p2 v258) k = s_recv_firsts_15 cp n p0 p1 p2 v258 (fun v265 => k .norm (fr_recv_firsts_14 v258 v265)) := ((fun c => (show X cp n (.seq (.fin (.reg g_recv_firsts_3) [19, 20, 21] []) c) (fr_recv_firsts_2 p0 p1 p2 v258) k = s_recv_firsts_3 cp n p0 p1 p2 v258 (fun v259 => X cp n c (fr_recv_firsts_4 p0 p1 p2 v258 v259) k) from by kernel_rfl)) i_recv_firsts_2).trans (congrArg (fun q => s_recv_firsts_3 cp n p0 p1 p2 v258 q) (funext fun v259 => (s_recv_firsts_13_t cp n p0 p1 p2 v258 v259 k).trans (show s_recv_firsts_13 cp n p0 p1 p2 v258 v259 (fun v264 => k .norm (fr_recv_firsts_12 v258 v264)) = s_recv_firsts_13 cp n p0 p1 p2 v258 v259 (fun v264 => k .norm (fr_recv_firsts_14 v258 v264)) from by kernel_rfl)))
def fr_recv_firsts_17 (v258 v265 : (List SSpan)) : FF := [dT 7 ((.row false (.rSpan v258)) :: (.row false (.rSpan v265)) :: (dT 1 ((.row true (.rSpan [])) :: (dT 5 [])))), dc, dc, dc, dc, dc, dc, dc]
def fr_recv_firsts_19 (v258 v265 : (List SSpan)) (v266 : Int) : FF := [dT 7 ((.row false (.rSpan v258)) :: (dT 2 ((.row true (.rSpan [])) :: (dT 5 [])))), dc, dc, dT 9 ((.row false (.rSpan v265)) :: (tL v266) :: (tL 0) :: (dT 4 [])), dc, dc, dc, dc]
def fr_recv_firsts_21 (v258 v265 : (List SSpan)) (v266 : Int) (v272 : (List SSpan)) (v273 : Int) : FF := [dT 7 ((.row false (.rSpan v258)) :: (dT 2 ((.row true (.rSpan v272)) :: (dT 5 [])))), dc, dc, dT 9 ((.row false (.rSpan v265)) :: (tL v266) :: (tL v273) :: (dT 4 [])), dc, dc, dc, dc]
def fr_recv_firsts_22 (v267 : (List SSpan)) : FF := [dT 10 ((.row true (.rSpan v267)) :: (dT 5 [])), dc, dc, dc, dc, dc, dc, dc]
def fr_recv_firsts_23 (v258 v265 : (List SSpan)) (v266 : Int) (v267 : (List SSpan)) (v268 : Int) : FF := [dT 7 ((.row false (.rSpan v258)) :: (dT 2 ((.row true (.rSpan v267)) :: (dT 5 [])))), dc, dc, dT 9 ((.row false (.rSpan v265)) :: (tL v266) :: (tL v268) :: (dT 4 [])), dc, dc, dc, dc]
theorem s_recv_firsts_20_t {R : Type} (cp : Nat → Nat → Bool) (n : Nat) (v258 v265 : (List SSpan)) (v266 : Int) (v267 : (List SSpan)) (v268 : Int) (k : Ex → FF → Option R) : X cp n i_recv_firsts_4 (fr_recv_firsts_23 v258 v265 v266 v267 v268) k = s_recv_firsts_20 cp n v258 v265 v266 v267 v268 (fun v272 v273 => k .norm (fr_recv_firsts_21 v258 v265 v266 v272 v273)) (k (.exit 2) (fr_recv_firsts_22 v267)) := by kernel_rfl
def fr_recv_firsts_24 (v274 : (List SSpan)) : FF := [dT 10 ((.row true (.rSpan v274)) :: (dT 5 [])), dc, dc, dc, dc, dc, dc, dc]
theorem l_recv_firsts_25_t {R : Type} (cp : Nat → Nat → Bool) (n : Nat) : ∀ (m : Nat) (v258 v265 : (List SSpan)) (v266 : Int) (v267 : (List SSpan)) (v268 : Int) (k : Ex → FF → Option R), loopN2 (X cp n i_recv_firsts_4) m (fr_recv_firsts_23 v258 v265 v266 v267 v268) k = l_recv_firsts_25 cp n m v258 v265 v266 v267 v268 (fun v274 => k (.exit 2) (fr_recv_firsts_24 v274))
  | 0, _, _, _, _, _, _ => rfl
  | m + 1, v258, v265, v266, v267, v268, k => (loopN2_succ (X cp n i_recv_firsts_4) m (fr_recv_firsts_23 v258 v265 v266 v267 v268) k).trans ((s_recv_firsts_20_t cp n v258 v265 v266 v267 v268 (loopT (X cp n i_recv_firsts_4) m k)).trans ((show s_recv_firsts_20 cp n v258 v265 v266 v267 v268 (fun v272 v273 => loopT (X cp n i_recv_firsts_4) m k .norm (fr_recv_firsts_21 v258 v265 v266 v272 v273)) (loopT (X cp n i_recv_firsts_4) m k (.exit 2) (fr_recv_firsts_22 v267)) = s_recv_firsts_20 cp n v258 v265 v266 v267 v268 (fun v272 v273 => loopN2 (X cp n i_recv_firsts_4) m (fr_recv_firsts_23 v258 v265 v266 v272 v273) k) (k (.exit 2) (fr_recv_firsts_24 v267)) from by kernel_rfl).trans (congrArg (fun q => s_recv_firsts_20 cp n v258 v265 v266 v267 v268 q (k (.exit 2) (fr_recv_firsts_24 v267))) (funext fun v272 => funext fun v273 => l_recv_firsts_25_t cp n m v258 v265 v266 v272 v273 k))))
theorem s_recv_firsts_26_t {R : Type} (cp : Nat → Nat → Bool) (n : Nat) (v258 v265 : (List SSpan)) (v266 : Int) (k : Ex → FF → Option R) : X cp n i_recv_firsts_5 (fr_recv_firsts_19 v258 v265 v266) k = s_recv_firsts_26 cp n v258 v265 v266 (fun v274 => k (.exit 2) (fr_recv_firsts_24 v274)) := (show X cp n i_recv_firsts_5 (fr_recv_firsts_19 v258 v265 v266) k = loopN2 (X cp n i_recv_firsts_4) n (fr_recv_firsts_23 v258 v265 v266 [] 0) k from by kernel_rfl).trans (l_recv_firsts_25_t cp n n v258 v265 v266 [] 0 k)
def fr_recv_firsts_27 (v275 : (List SSpan)) : FF := [dT 10 ((.row true (.rSpan v275)) :: (dT 5 [])), dc, dc, dc, dc, dc, dc, dc]
theorem s_recv_firsts_28_t {R : Type} (cp : Nat → Nat → Bool) (n : Nat) (v258 v265 : (List SSpan)) (v266 : Int) (k : Ex → FF → Option R) : X cp n i_recv_firsts_6 (fr_recv_firsts_19 v258 v265 v266) k = s_recv_firsts_28 cp n v258 v265 v266 (fun v275 => k .norm (fr_recv_firsts_27 v275)) := (show X cp n i_recv_firsts_6 (fr_recv_firsts_19 v258 v265 v266) k = X cp n i_recv_firsts_5 (fr_recv_firsts_19 v258 v265 v266) (blkT 2 k) from by kernel_rfl).trans ((s_recv_firsts_26_t cp n v258 v265 v266 (blkT 2 k)).trans (by kernel_rfl))
def fr_recv_firsts_29 (v276 : (List SSpan)) : FF := [dT 10 ((.row true (.rSpan v276)) :: (dT 5 [])), dc, dc, dc, dc, dc, dc, dc]
theorem s_recv_firsts_30_t {R : Type} (cp : Nat → Nat → Bool) (n : Nat) (v258 v265 : (List SSpan)) (k : Ex → FF → Option R) : X cp n i_recv_firsts_7 (fr_recv_firsts_17 v258 v265) k = s_recv_firsts_30 cp n v258 v265 (fun v276 => k .norm (fr_recv_firsts_29 v276)) := ((fun c => (show X cp n (.seq (.fin (.reg g_recv_firsts_9) [8] []) c) (fr_recv_firsts_17 v258 v265) k = s_recv_firsts_18 cp n v258 v265 (fun v266 => X cp n c (fr_recv_firsts_19 v258 v265 v266) k) from by kernel_rfl)) i_recv_firsts_6).trans (congrArg (fun q => s_recv_firsts_18 cp n v258 v265 q) (funext fun v266 => (s_recv_firsts_28_t cp n v258 v265 v266 k).trans (show s_recv_firsts_28 cp n v258 v265 v266 (fun v275 => k .norm (fr_recv_firsts_27 v275)) = s_recv_firsts_28 cp n v258 v265 v266 (fun v275 => k .norm (fr_recv_firsts_29 v275)) from by kernel_rfl)))
def fr_recv_firsts_32 (v276 : (List SSpan)) : FF := [dT 6 ((.row true (.rSpan v276)) :: (dT 9 [])), dc, dc, dc, dc, dc, dc, dc]
theorem s_recv_firsts_31_t {R : Type} (cp : Nat → Nat → Bool) (n : Nat) (v276 : (List SSpan)) (k : Ex → FF → Option R) : X cp n i_recv_firsts_8 (fr_recv_firsts_29 v276) k = s_recv_firsts_31 cp n v276 (k .ret (fr_recv_firsts_32 v276)) := by kernel_rfl
def fr_recv_firsts_33 (v277 : (List SSpan)) : FF := [dT 6 ((.row true (.rSpan v277)) :: (dT 9 [])), dc, dc, dc, dc, dc, dc, dc]
theorem s_recv_firsts_34_t {R : Type} (cp : Nat → Nat → Bool) (n : Nat) (v258 v265 : (List SSpan)) (k : Ex → FF → Option R) : X cp n i_recv_firsts_9 (fr_recv_firsts_17 v258 v265) k = s_recv_firsts_34 cp n v258 v265 (fun v277 => k .ret (fr_recv_firsts_33 v277)) := (show X cp n i_recv_firsts_9 (fr_recv_firsts_17 v258 v265) k = X cp n i_recv_firsts_7 (fr_recv_firsts_17 v258 v265) (seqT (X cp n) i_recv_firsts_8 k) from by kernel_rfl).trans ((show X cp n i_recv_firsts_7 (fr_recv_firsts_17 v258 v265) (seqT (X cp n) i_recv_firsts_8 k) = s_recv_firsts_30 cp n v258 v265 (fun v276 => X cp n i_recv_firsts_8 (fr_recv_firsts_29 v276) k) from (s_recv_firsts_30_t cp n v258 v265 (seqT (X cp n) i_recv_firsts_8 k)).trans (by kernel_rfl)).trans (congrArg (fun q => s_recv_firsts_30 cp n v258 v265 q) (funext fun v276 => (s_recv_firsts_31_t cp n v276 k).trans (show s_recv_firsts_31 cp n v276 (k .ret (fr_recv_firsts_32 v276)) = s_recv_firsts_31 cp n v276 (k .ret (fr_recv_firsts_33 v276)) from by kernel_rfl))))
def fr_recv_firsts_35 (v278 : (List SSpan)) : FF := [dT 6 ((.row true (.rSpan v278)) :: (dT 9 [])), dc, dc, dc, dc, dc, dc, dc]
theorem s_recv_firsts_36_t {R : Type} (cp : Nat → Nat → Bool) (n : Nat) (v258 v265 : (List SSpan)) (k : Ex → FF → Option R) : X cp n i_recv_firsts_10 (fr_recv_firsts_14 v258 v265) k = s_recv_firsts_36 cp n v258 v265 (fun v278 => k .ret (fr_recv_firsts_35 v278)) := ((fun c => (show X cp n (.seq (.reg g_recv_firsts_8) c) (fr_recv_firsts_14 v258 v265) k = s_recv_firsts_16 cp n v258 v265 (X cp n c (fr_recv_firsts_17 v258 v265) k) from by kernel_rfl)) i_recv_firsts_9).trans (congrArg (fun q => s_recv_firsts_16 cp n v258 v265 q) ((s_recv_firsts_34_t cp n v258 v265 k).trans (show s_recv_firsts_34 cp n v258 v265 (fun v277 => k .ret (fr_recv_firsts_33 v277)) = s_recv_firsts_34 cp n v258 v265 (fun v277 => k .ret (fr_recv_firsts_35 v277)) from by kernel_rfl)))
def fr_recv_firsts_37 (v279 : (List SSpan)) : FF := [dT 6 ((.row true (.rSpan v279)) :: (dT 9 [])), dc, dc, dc, dc, dc, dc, dc]
theorem s_recv_firsts_38_t {R : Type} (cp : Nat → Nat → Bool) (n : Nat) (p0 : SRecv) (p1 : Int) (p2 : (List Int)) (v258 : (List SSpan)) (k : Ex → FF → Option R) : X cp n i_recv_firsts_11 (fr_recv_firsts_2 p0 p1 p2 v258) k = s_recv_firsts_38 cp n p0 p1 p2 v258 (fun v279 => k .ret (fr_recv_firsts_37 v279)) := (show X cp n i_recv_firsts_11 (fr_recv_firsts_2 p0 p1 p2 v258) k = X cp n i_recv_firsts_3 (fr_recv_firsts_2 p0 p1 p2 v258) (seqT (X cp n) i_recv_firsts_10 k) from by kernel_rfl).trans ((show X cp n i_recv_firsts_3 (fr_recv_firsts_2 p0 p1 p2 v258) (seqT (X cp n) i_recv_firsts_10 k) = s_recv_firsts_15 cp n p0 p1 p2 v258 (fun v265 => X cp n i_recv_firsts_10 (fr_recv_firsts_14 v258 v265) k) from (s_recv_firsts_15_t cp n p0 p1 p2 v258 (seqT (X cp n) i_recv_firsts_10 k)).trans (by kernel_rfl)).trans (congrArg (fun q => s_recv_firsts_15 cp n p0 p1 p2 v258 q) (funext fun v265 => (s_recv_firsts_36_t cp n v258 v265 k).trans (show s_recv_firsts_36 cp n v258 v265 (fun v278 => k .ret (fr_recv_firsts_35 v278)) = s_recv_firsts_36 cp n v258 v265 (fun v278 => k .ret (fr_recv_firsts_37 v278)) from by kernel_rfl))))
def fr_recv_firsts_39 (v280 : (List SSpan)) : FF := [dT 6 ((.row true (.rSpan v280)) :: (dT 9 [])), dc, dc, dc, dc, dc, dc, dc]
def fr_recv_firsts_41 (p0 : SRecv) (p1 : Int) (p2 : (List Int)) : FF := [(.agg (eRecv p0)) :: (tL p1) :: (.row false (.ruint8 p2)) :: (dT 13 []), dc, dc, dc, dc, dc, dc, dc]
theorem s_recv_firsts_40_t {R : Type} (cp : Nat → Nat → Bool) (n : Nat) (p0 : SRecv) (p1 : Int) (p2 : (List Int)) (k : Ex → FF → Option R) : X cp n i_recv_firsts_12 (fr_recv_firsts_41 p0 p1 p2) k = s_recv_firsts_40 cp n p0 p1 p2 (fun v280 => k .ret (fr_recv_firsts_39 v280)) := ((fun c => (show X cp n (.seq (.fin (.reg g_recv_firsts_0) [0, 6] []) (.seq (.fin (.reg g_recv_firsts_1) [14, 15, 16] [(105, 15)]) (.seq (.fin (.reg g_recv_firsts_2) [3, 17, 18] [(86, 15)]) c))) (fr_recv_firsts_41 p0 p1 p2) k = s_recv_firsts_1 cp n p0 p1 p2 (fun v258 => X cp n c (fr_recv_firsts_2 p0 p1 p2 v258) k) from by kernel_rfl)) i_recv_firsts_11).trans (congrArg (fun q => s_recv_firsts_1 cp n p0 p1 p2 q) (funext fun v258 => (s_recv_firsts_38_t cp n p0 p1 p2 v258 k).trans (show s_recv_firsts_38 cp n p0 p1 p2 v258 (fun v279 => k .ret (fr_recv_firsts_37 v279)) = s_recv_firsts_38 cp n p0 p1 p2 v258 (fun v279 => k .ret (fr_recv_firsts_39 v279)) from by kernel_rfl)))
theorem run_recv_firsts {R : Type} (cp : Nat → Nat → Bool) (n : Nat) (p0 : SRecv) (p1 : Int) (p2 : (List Int)) (k : Ret2 RW → Option R) : G_recv_firsts cp (n + 1) p0 p1 p2 (fun r0 => k ⟨.row true (.rSpan r0), [], []⟩) = run2 U cp (callP cp n) n fn_recv_firsts [.agg (eRecv p0), (tL p1), .row false (.ruint8 p2)] [] k := ((X_run (f := fn_recv_firsts) (av := [.agg (eRecv p0), (tL p1), .row false (.ruint8 p2)]) (cells := []) (code := i_recv_firsts_12) (fr := (fr_recv_firsts_41 p0 p1 p2)) (k := k) (by kernel_rfl) (fun K => by kernel_rfl)).trans ((s_recv_firsts_40_t cp n p0 p1 p2 (finK2 fn_recv_firsts k)).trans (by kernel_rfl))).symm
/-! tideway/recv.Input -/
def fr_recv_Input_2 (p1 : SSegment) (v28 : Int) (v29 : SRecv) : FF := [dT 2 ((.ptr 140 0) :: (.ptr 156 0) :: (.ptr 172 0) :: (.ptr 188 0) :: (dT 3 ((tL v28) :: (dT 6 [])))), dc, dc, dc, dc, dc, dc, dc, dT 12 ((.hdr 15) :: (sl 0 3 (eRecvt v29))), sl 3 12 (eRecvt v29) ++ ((.hdr 15) :: (sl 0 3 (eSegment p1))), sl 3 12 (eSegment p1) ++ [.hdr 15, (tL 0), .row false (.ruint8 []), .row false (.rPiece [])], [(tL 0), (tL 0), (tL 0), (tI .u32 0), (tB false), (tB false), (tL 0), (tB false), .row false (.rSpan []), (tI .u32 0), (tI .u32 0), (tB false), .hdr 15, (tL 0), (tL 0), (tI .u32 0)], (tI .u32 0) :: (tL 0) :: (tL 0) :: (tL 0) :: (tL 0) :: (tL 0) :: (tB false) :: (tB false) :: (tI .u32 0) :: (tI .u32 0) :: (.row false (.rBlock [])) :: (.row false (.ruint8 [])) :: (dT 4 []), dc, dc, dc]
def fr_recv_Input_3 (v30 : Int) (v31 : SRecv) : FF := [dT 4 ((.ptr 172 0) :: (.ptr 188 0) :: (tB false) :: (tL v30) :: (dT 8 [])), dc, dc, dc, dc, dc, dc, dc, dc, dc, dT 12 ((.hdr 15) :: (sl 0 3 (eRecv v31))), sl 3 12 (eRecv v31) ++ [.hdr 15, (tL 0), (tL 0), (tI .u32 0)], (tI .u32 0) :: (tL 0) :: (tL 0) :: (tL 0) :: (tL 0) :: (tL 0) :: (tB false) :: (tB false) :: (tI .u32 0) :: (tI .u32 0) :: (.row false (.rBlock [])) :: (.row false (.ruint8 [])) :: (dT 4 []), dc, dc, dc]
def fr_recv_Input_5 (v35 : SRecv) (v36 : SSegment) : FF := [dT 4 ((.ptr 172 0) :: (.ptr 188 0) :: (tB true) :: (tL 0) :: (dT 8 [])), dc, dc, dc, dc, dc, dc, dc, dc, dc, dT 12 ((.hdr 15) :: (sl 0 3 (eRecv v35))), sl 3 12 (eRecv v35) ++ ((.hdr 15) :: (sl 0 3 (eSegment v36))), sl 3 12 (eSegment v36) ++ (dT 4 []), dc, dc, dc]
def fr_recv_Input_7 (p1 : SSegment) (v28 : Int) (v29 : SRecv) (v37 : Int) (v38 : Bool) : FF := [dT 2 ((.ptr 140 0) :: (.ptr 156 0) :: (.ptr 172 0) :: (.ptr 188 0) :: (dT 3 ((tL v28) :: (dT 6 [])))), dc, dc, dc, dc, dc, dc, dc, dT 12 ([.hdr 15, (tL v29.xNext), .row true (.ruint8 v29.xUnread), .row true (.rPiece v29.xLate)]), (tL v29.xCap) :: (tL v29.xShift) :: (tL v29.xEdge) :: (tI .u32 v37) :: (tB v29.xStamps) :: (tB v29.xSacks) :: (tL v29.xFin) :: (tB v29.xDone) :: (.row true (.rSpan v29.xFirst)) :: (tI .u32 v29.xIrs) :: (tI .u32 v29.xOwn) :: (tB v38) :: (.hdr 15) :: (sl 0 3 (eSegment p1)), sl 3 12 (eSegment p1) ++ [.hdr 15, (tL 0), .row false (.ruint8 []), .row false (.rPiece [])], [(tL 0), (tL 0), (tL 0), (tI .u32 0), (tB false), (tB false), (tL 0), (tB false), .row false (.rSpan []), (tI .u32 0), (tI .u32 0), (tB false), .hdr 15, (tL 0), (tL 0), (tI .u32 0)], (tI .u32 0) :: (tL 0) :: (tL 0) :: (tL 0) :: (tL 0) :: (tL 0) :: (tB false) :: (tB false) :: (tI .u32 0) :: (tI .u32 0) :: (.row false (.rBlock [])) :: (.row false (.ruint8 [])) :: (dT 4 []), dc, dc, dc]
def fr_recv_Input_9 (p1 : SSegment) (v28 : Int) (v50 : Bool) (v51 : SRecv) : FF := [dT 2 ((.ptr 140 0) :: (.ptr 156 0) :: (.ptr 172 0) :: (.ptr 188 0) :: (dT 3 ((tL v28) :: (dT 2 ((tB v50) :: (dT 3 [])))))), dc, dc, dc, dc, dc, dc, dc, dT 12 ([.hdr 15, (tL v51.xNext), .row true (.ruint8 v51.xUnread), .row false (.rPiece v51.xLate)]), (tL v51.xCap) :: (tL v51.xShift) :: (tL v51.xEdge) :: (tI .u32 v51.xRecent) :: (tB v51.xStamps) :: (tB v51.xSacks) :: (tL v51.xFin) :: (tB v51.xDone) :: (.row true (.rSpan v51.xFirst)) :: (tI .u32 v51.xIrs) :: (tI .u32 v51.xOwn) :: (tB v51.xStamp) :: (.hdr 15) :: (sl 0 3 (eSegment p1)), sl 3 12 (eSegment p1) ++ [.hdr 15, (tL 0), .row false (.ruint8 []), .row false (.rPiece [])], [(tL 0), (tL 0), (tL 0), (tI .u32 0), (tB false), (tB false), (tL 0), (tB false), .row false (.rSpan []), (tI .u32 0), (tI .u32 0), (tB false), .hdr 15, (tL 0), (tL 0), (tI .u32 0)], (tI .u32 0) :: (tL 0) :: (tL 0) :: (tL 0) :: (tL 0) :: (tL 0) :: (tB false) :: (tB false) :: (tI .u32 0) :: (tI .u32 0) :: (.row false (.rBlock [])) :: (.row false (.ruint8 [])) :: (dT 4 []), dc, dc, dc]
def fr_recv_Input_11 (p1 : SSegment) (v28 : Int) (v50 : Bool) (v51 : SRecv) (v54 : (List SSpan)) : FF := [dT 2 ((.ptr 140 0) :: (.ptr 156 0) :: (.ptr 172 0) :: (.ptr 188 0) :: (dT 3 ((tL v28) :: (dT 2 ((tB v50) :: (.row true (.rBlock [])) :: (dT 2 [])))))), dc, dc, dc, dc, dc, dc, dc, dT 12 ([.hdr 15, (tL v51.xNext), .row true (.ruint8 v51.xUnread), .row false (.rPiece v51.xLate)]), (tL v51.xCap) :: (tL v51.xShift) :: (tL v51.xEdge) :: (tI .u32 v51.xRecent) :: (tB v51.xStamps) :: (tB v51.xSacks) :: (tL v51.xFin) :: (tB v51.xDone) :: (.row true (.rSpan v54)) :: (tI .u32 v51.xIrs) :: (tI .u32 v51.xOwn) :: (tB v51.xStamp) :: (.hdr 15) :: (sl 0 3 (eSegment p1)), sl 3 12 (eSegment p1) ++ [.hdr 15, (tL 0), .row false (.ruint8 []), .row false (.rPiece [])], [(tL 0), (tL 0), (tL 0), (tI .u32 0), (tB false), (tB false), (tL 0), (tB false), .row false (.rSpan []), (tI .u32 0), (tI .u32 0), (tB false), .hdr 15, (tL 0), (tL 0), (tI .u32 0)], (tI .u32 0) :: (tL 0) :: (tL 0) :: (tL 0) :: (tL 0) :: (tL 0) :: (tB false) :: (tB false) :: (tI .u32 0) :: (tI .u32 0) :: (.row false (.rBlock [])) :: (.row false (.ruint8 [])) :: (dT 4 []), dc, dc, dc]
def fr_recv_Input_13 (v51 : SRecv) (v54 : (List SSpan)) (v56 : (List SBlock)) : FF := [dT 2 ((.ptr 140 0) :: (dT 1 ((.ptr 172 0) :: (.ptr 188 0) :: (dT 7 ((.row true (.rBlock v56)) :: (dT 2 [])))))), dc, dc, dc, dc, dc, dc, dc, dT 12 ([.hdr 15, (tL v51.xNext), .row true (.ruint8 v51.xUnread), .row false (.rPiece v51.xLate)]), (tL v51.xCap) :: (tL v51.xShift) :: (tL v51.xEdge) :: (tI .u32 v51.xRecent) :: (tB v51.xStamps) :: (tB v51.xSacks) :: (tL v51.xFin) :: (tB v51.xDone) :: (.row true (.rSpan v54)) :: (tI .u32 v51.xIrs) :: (tI .u32 v51.xOwn) :: (tB v51.xStamp) :: (dT 4 []), dT 12 ([.hdr 15, (tL 0), .row false (.ruint8 []), .row false (.rPiece [])]), [(tL 0), (tL 0), (tL 0), (tI .u32 0), (tB false), (tB false), (tL 0), (tB false), .row false (.rSpan []), (tI .u32 0), (tI .u32 0), (tB false), .hdr 15, (tL 0), (tL 0), (tI .u32 0)], (tI .u32 0) :: (tL 0) :: (tL 0) :: (tL 0) :: (tL 0) :: (tL 0) :: (tB false) :: (tB false) :: (tI .u32 0) :: (tI .u32 0) :: (.row false (.rBlock [])) :: (.row false (.ruint8 [])) :: (dT 4 []), dc, dc, dc]
def fr_recv_Input_15 (v59 : SRecv) (v60 : SSegment) : FF := [dT 4 ((.ptr 172 0) :: (.ptr 188 0) :: (tB true) :: (tL 0) :: (dT 8 [])), dc, dc, dc, dc, dc, dc, dc, dc, dc, dT 12 ((.hdr 15) :: (sl 0 3 (eRecv v59))), sl 3 12 (eRecv v59) ++ ((.hdr 15) :: (sl 0 3 (eSegment v60))), sl 3 12 (eSegment v60) ++ (dT 4 []), dc, dc, dc]
theorem s_recv_Input_14_t {R : Type} (cp : Nat → Nat → Bool) (n : Nat) (v51 : SRecv) (v54 : (List SSpan)) (v56 : (List SBlock)) (k : Ex → FF → Option R) : X cp n i_recv_Input_0 (fr_recv_Input_13 v51 v54 v56) k = s_recv_Input_14 cp n v51 v54 v56 (fun v59 v60 => k .ret (fr_recv_Input_15 v59 v60)) := by kernel_rfl
def fr_recv_Input_16 (v61 : SRecv) (v62 : SSegment) : FF := [dT 4 ((.ptr 172 0) :: (.ptr 188 0) :: (tB true) :: (tL 0) :: (dT 8 [])), dc, dc, dc, dc, dc, dc, dc, dc, dc, dT 12 ((.hdr 15) :: (sl 0 3 (eRecv v61))), sl 3 12 (eRecv v61) ++ ((.hdr 15) :: (sl 0 3 (eSegment v62))), sl 3 12 (eSegment v62) ++ (dT 4 []), dc, dc, dc]
theorem s_recv_Input_17_t {R : Type} (cp : Nat → Nat → Bool) (n : Nat) (p1 : SSegment) (v28 : Int) (v50 : Bool) (v51 : SRecv) (v54 : (List SSpan)) (k : Ex → FF → Option R) : X cp n i_recv_Input_1 (fr_recv_Input_11 p1 v28 v50 v51 v54) k = s_recv_Input_17 cp n p1 v28 v50 v51 v54 (fun v61 v62 => k .ret (fr_recv_Input_16 v61 v62)) := ((fun c => (show X cp n (.seq (.seq (.fin (.reg g_recv_Input_19) [9, 12, 106, 107, 108, 109, 110, 111, 112, 113, 114, 115, 116, 117, 118, 119, 120] []) (.fin (.cond (.s 121) (.fin (.reg g_recv_Input_20) [3, 121, 122, 123, 124, 125, 126, 127, 128, 129, 130, 131] [(156, 15)]) (.skip)) [3, 121] [(156, 15)])) c) (fr_recv_Input_11 p1 v28 v50 v51 v54) k = s_recv_Input_12 cp n p1 v28 v50 v51 v54 (fun v56 => X cp n c (fr_recv_Input_13 v51 v54 v56) k) from by kernel_rfl)) i_recv_Input_0).trans (congrArg (fun q => s_recv_Input_12 cp n p1 v28 v50 v51 v54 q) (funext fun v56 => (s_recv_Input_14_t cp n v51 v54 v56 k).trans (show s_recv_Input_14 cp n v51 v54 v56 (fun v59 v60 => k .ret (fr_recv_Input_15 v59 v60)) = s_recv_Input_14 cp n v51 v54 v56 (fun v59 v60 => k .ret (fr_recv_Input_16 v59 v60)) from by kernel_rfl)))
def fr_recv_Input_18 (v63 : SRecv) (v64 : SSegment) : FF := [dT 4 ((.ptr 172 0) :: (.ptr 188 0) :: (tB true) :: (tL 0) :: (dT 8 [])), dc, dc, dc, dc, dc, dc, dc, dc, dc, dT 12 ((.hdr 15) :: (sl 0 3 (eRecv v63))), sl 3 12 (eRecv v63) ++ ((.hdr 15) :: (sl 0 3 (eSegment v64))), sl 3 12 (eSegment v64) ++ (dT 4 []), dc, dc, dc]
theorem s_recv_Input_19_t {R : Type} (cp : Nat → Nat → Bool) (n : Nat) (p1 : SSegment) (v28 : Int) (v50 : Bool) (v51 : SRecv) (k : Ex → FF → Option R) : X cp n i_recv_Input_2 (fr_recv_Input_9 p1 v28 v50 v51) k = s_recv_Input_19 cp n p1 v28 v50 v51 (fun v63 v64 => k .ret (fr_recv_Input_18 v63 v64)) := ((fun c => (show X cp n (.seq (.fin (.reg g_recv_Input_17) [100, 101, 102, 103, 104, 105] []) (.seq (.reg g_recv_Input_18) c)) (fr_recv_Input_9 p1 v28 v50 v51) k = s_recv_Input_10 cp n p1 v28 v50 v51 (fun v54 => X cp n c (fr_recv_Input_11 p1 v28 v50 v51 v54) k) from by kernel_rfl)) i_recv_Input_1).trans (congrArg (fun q => s_recv_Input_10 cp n p1 v28 v50 v51 q) (funext fun v54 => (s_recv_Input_17_t cp n p1 v28 v50 v51 v54 k).trans (show s_recv_Input_17 cp n p1 v28 v50 v51 v54 (fun v61 v62 => k .ret (fr_recv_Input_16 v61 v62)) = s_recv_Input_17 cp n p1 v28 v50 v51 v54 (fun v61 v62 => k .ret (fr_recv_Input_18 v61 v62)) from by kernel_rfl)))
def fr_recv_Input_20 (v65 : SRecv) (v66 : SSegment) : FF := [dT 4 ((.ptr 172 0) :: (.ptr 188 0) :: (tB true) :: (tL 0) :: (dT 8 [])), dc, dc, dc, dc, dc, dc, dc, dc, dc, dT 12 ((.hdr 15) :: (sl 0 3 (eRecv v65))), sl 3 12 (eRecv v65) ++ ((.hdr 15) :: (sl 0 3 (eSegment v66))), sl 3 12 (eSegment v66) ++ (dT 4 []), dc, dc, dc]
theorem s_recv_Input_21_t {R : Type} (cp : Nat → Nat → Bool) (n : Nat) (p1 : SSegment) (v28 : Int) (v29 : SRecv) (v37 : Int) (v38 : Bool) (k : Ex → FF → Option R) : X cp n i_recv_Input_3 (fr_recv_Input_7 p1 v28 v29 v37 v38) k = s_recv_Input_21 cp n p1 v28 v29 v37 v38 (fun v65 v66 => k .ret (fr_recv_Input_20 v65 v66)) := ((fun c => (show X cp n (.seq (.seq (.fin (.reg g_recv_Input_13) [74, 75, 76] []) (.fin (.cond (.s 77) (.fin (.reg g_recv_Input_14) [77, 78, 79, 80, 81, 82, 83, 84, 85] []) (.skip)) [77] [])) (.seq (.fin (.reg g_recv_Input_15) [86, 87, 88, 89, 90, 91, 92, 93] []) (.seq (.fin (.reg g_recv_Input_16) [94, 95, 96, 97, 98, 99] []) c))) (fr_recv_Input_7 p1 v28 v29 v37 v38) k = s_recv_Input_8 cp n p1 v28 v29 v37 v38 (fun v50 v51 => X cp n c (fr_recv_Input_9 p1 v28 v50 v51) k) from by kernel_rfl)) i_recv_Input_2).trans (congrArg (fun q => s_recv_Input_8 cp n p1 v28 v29 v37 v38 q) (funext fun v50 => funext fun v51 => (s_recv_Input_19_t cp n p1 v28 v50 v51 k).trans (show s_recv_Input_19 cp n p1 v28 v50 v51 (fun v63 v64 => k .ret (fr_recv_Input_18 v63 v64)) = s_recv_Input_19 cp n p1 v28 v50 v51 (fun v63 v64 => k .ret (fr_recv_Input_20 v63 v64)) from by kernel_rfl)))
def fr_recv_Input_22 (v67 : SRecv) (v68 : SSegment) : FF := [dT 4 ((.ptr 172 0) :: (.ptr 188 0) :: (tB true) :: (tL 0) :: (dT 8 [])), dc, dc, dc, dc, dc, dc, dc, dc, dc, dT 12 ((.hdr 15) :: (sl 0 3 (eRecv v67))), sl 3 12 (eRecv v67) ++ ((.hdr 15) :: (sl 0 3 (eSegment v68))), sl 3 12 (eSegment v68) ++ (dT 4 []), dc, dc, dc]
theorem s_recv_Input_23_t {R : Type} (cp : Nat → Nat → Bool) (n : Nat) (p1 : SSegment) (v28 : Int) (v29 : SRecv) (k : Ex → FF → Option R) : X cp n i_recv_Input_4 (fr_recv_Input_2 p1 v28 v29) k = s_recv_Input_23 cp n p1 v28 v29 (fun v67 v68 => k .ret (fr_recv_Input_22 v67 v68)) := ((fun c => (show X cp n (.seq (.seq (.fin (.reg g_recv_Input_11) [62, 63, 64, 65, 66, 67, 68] []) (.fin (.cond (.s 69) (.fin (.reg g_recv_Input_12) [69, 70, 71, 72, 73] []) (.skip)) [69] [])) c) (fr_recv_Input_2 p1 v28 v29) k = s_recv_Input_6 cp n p1 v28 v29 (fun v37 v38 => X cp n c (fr_recv_Input_7 p1 v28 v29 v37 v38) k) from by kernel_rfl)) i_recv_Input_3).trans (congrArg (fun q => s_recv_Input_6 cp n p1 v28 v29 q) (funext fun v37 => funext fun v38 => (s_recv_Input_21_t cp n p1 v28 v29 v37 v38 k).trans (show s_recv_Input_21 cp n p1 v28 v29 v37 v38 (fun v65 v66 => k .ret (fr_recv_Input_20 v65 v66)) = s_recv_Input_21 cp n p1 v28 v29 v37 v38 (fun v65 v66 => k .ret (fr_recv_Input_22 v65 v66)) from by kernel_rfl)))
def fr_recv_Input_24 (v69 : SRecv) (v70 : SSegment) : FF := [dT 4 ((.ptr 172 0) :: (.ptr 188 0) :: (tB true) :: (tL 0) :: (dT 8 [])), dc, dc, dc, dc, dc, dc, dc, dc, dc, dT 12 ((.hdr 15) :: (sl 0 3 (eRecv v69))), sl 3 12 (eRecv v69) ++ ((.hdr 15) :: (sl 0 3 (eSegment v70))), sl 3 12 (eSegment v70) ++ (dT 4 []), dc, dc, dc]
theorem s_recv_Input_25_t {R : Type} (cp : Nat → Nat → Bool) (n : Nat) (p1 : SSegment) (v28 : Int) (v29 : SRecv) (k : Ex → FF → Option R) : X cp n i_recv_Input_5 (fr_recv_Input_2 p1 v28 v29) k = s_recv_Input_25 cp n p1 v28 v29 (fun v69 v70 => k .ret (fr_recv_Input_24 v69 v70)) := ((fun c => (show X cp n (.seq (.seq (.fin (.reg g_recv_Input_8) [41, 42, 43, 44, 45, 46, 47, 48, 49, 50, 51, 52, 53] []) (.fin (.cond (.s 54) (.seq (.fin (.reg g_recv_Input_9) [2, 3, 9, 54, 55, 56, 57, 58, 59] [(140, 15), (156, 15)]) (.seq (.fin (.reg g_recv_Input_10) [10, 11, 60, 61] [(204, 15), (220, 15)]) (.wk [6, 7] (.ret)))) (.skip)) [54] [])) c) (fr_recv_Input_2 p1 v28 v29) k = s_recv_Input_4 cp n p1 v28 v29 (X cp n c (fr_recv_Input_2 p1 v28 v29) k) (fun v35 v36 => k .ret (fr_recv_Input_24 v35 v36)) from by kernel_rfl)) i_recv_Input_4).trans (congrArg (fun q => s_recv_Input_4 cp n p1 v28 v29 q (fun v35 v36 => k .ret (fr_recv_Input_24 v35 v36))) ((s_recv_Input_23_t cp n p1 v28 v29 k).trans (show s_recv_Input_23 cp n p1 v28 v29 (fun v67 v68 => k .ret (fr_recv_Input_22 v67 v68)) = s_recv_Input_23 cp n p1 v28 v29 (fun v67 v68 => k .ret (fr_recv_Input_24 v67 v68)) from by kernel_rfl)))
def fr_recv_Input_26 (v71 : Bool) (v72 : Int) (v73 : SRecv) (v74 : SSegment) : FF := [dT 4 ((.ptr 172 0) :: (.ptr 188 0) :: (tB v71) :: (tL v72) :: (dT 8 [])), dc, dc, dc, dc, dc, dc, dc, dc, dc, dT 12 ((.hdr 15) :: (sl 0 3 (eRecv v73))), sl 3 12 (eRecv v73) ++ ((.hdr 15) :: (sl 0 3 (eSegment v74))), sl 3 12 (eSegment v74) ++ (dT 4 []), dc, dc, dc]
def fr_recv_Input_28 (p0 : SRecv) (p1 : SSegment) : FF := [(.agg (eRecv p0)) :: (.agg (eSegment p1)) :: (dT 14 []), dc, dc, dc, dc, dc, dc, dc, dc, dc, dc, dc, dc, dc, dc, dc]
theorem s_recv_Input_27_t {R : Type} (cp : Nat → Nat → Bool) (n : Nat) (p0 : SRecv) (p1 : SSegment) (k : Ex → FF → Option R) : X cp n i_recv_Input_6 (fr_recv_Input_28 p0 p1) k = s_recv_Input_27 cp n p0 p1 (fun v71 v72 v73 v74 => k .ret (fr_recv_Input_26 v71 v72 v73 v74)) := ((fun c => (show X cp n (.seq (.fin (.reg g_recv_Input_0) [0, 1, 6, 7] []) (.seq (.seq (.fin (.reg g_recv_Input_1) [15, 16] []) (.seq (.fin (.reg g_recv_Input_2) [17] []) (.fin (.cond (.s 18) (.seq (.fin (.reg g_recv_Input_3) [2, 3, 8, 18, 19, 20, 21] [(140, 15), (156, 15)]) (.wk [6, 7] (.ret))) (.skip)) [8, 18] []))) (.seq (.fin (.reg g_recv_Input_4) [22, 23] []) (.seq (.seq (.fin (.reg g_recv_Input_5) [24, 25, 26, 27, 28, 29] []) (.fin (.cond (.s 30) (.seq (.fin (.reg g_recv_Input_6) [2, 3, 30, 31, 32] [(140, 15), (156, 15)]) (.wk [6, 7] (.ret))) (.skip)) [30] [])) (.seq (.fin (.reg g_recv_Input_7) [33, 34, 35, 36, 37, 38, 39, 40] []) c))))) (fr_recv_Input_28 p0 p1) k = s_recv_Input_1 cp n p0 p1 (fun v28 v29 => X cp n c (fr_recv_Input_2 p1 v28 v29) k) (fun v30 v31 => k .ret (fr_recv_Input_26 false v30 v31 (SSegment.mk 0 0 0 0 0 0 0 0 0 false false 0 0 [] []))) from by kernel_rfl)) i_recv_Input_5).trans (congrArg (fun q => s_recv_Input_1 cp n p0 p1 q (fun v30 v31 => k .ret (fr_recv_Input_26 false v30 v31 (SSegment.mk 0 0 0 0 0 0 0 0 0 false false 0 0 [] [])))) (funext fun v28 => funext fun v29 => (s_recv_Input_25_t cp n p1 v28 v29 k).trans (show s_recv_Input_25 cp n p1 v28 v29 (fun v69 v70 => k .ret (fr_recv_Input_24 v69 v70)) = s_recv_Input_25 cp n p1 v28 v29 (fun v69 v70 => k .ret (fr_recv_Input_26 true 0 v69 v70)) from by kernel_rfl)))
theorem run_recv_Input {R : Type} (cp : Nat → Nat → Bool) (n : Nat) (p0 : SRecv) (p1 : SSegment) (k : Ret2 RW → Option R) : G_recv_Input cp (n + 1) p0 p1 (fun r0 r1 r2 r3 => k ⟨.tup [.agg (eRecv r0), .agg (eSegment r1), (tB r2), (tL r3)], [], []⟩) = run2 U cp (callP cp n) n fn_recv_Input [.agg (eRecv p0), .agg (eSegment p1)] [] k := ((X_run (f := fn_recv_Input) (av := [.agg (eRecv p0), .agg (eSegment p1)]) (cells := []) (code := i_recv_Input_6) (fr := (fr_recv_Input_28 p0 p1)) (k := k) (by kernel_rfl) (fun K => by kernel_rfl)).trans ((s_recv_Input_27_t cp n p0 p1 (finK2 fn_recv_Input k)).trans (by kernel_rfl))).symm
/-! tideway/seq.Clamp -/
theorem run_seq_Clamp {R : Type} (cp : Nat → Nat → Bool) (n : Nat) (p0 p1 p2 : Int) (k : Ret2 RW → Option R) : G_seq_Clamp cp (n + 1) p0 p1 p2 (fun r0 => k ⟨(tL r0), [], []⟩) = run2 U cp (callP cp n) n fn_seq_Clamp [(tL p0), (tL p1), (tL p2)] [] k := by kernel_rfl
/-! tideway/recv.Read -/
def fr_recv_Read_2 (v97 : (List Int)) (v98 : SRecv) : FF := [dT 2 ((.ptr 60 0) :: (dT 1 ((.ptr 76 0) :: (dT 1 ((.ptr 92 0) :: (dT 3 ((.row false (.ruint8 v97)) :: (dT 5 [])))))))), dc, dc, dT 12 ((.hdr 15) :: (sl 0 3 (eRecv v98))), sl 3 12 (eRecv v98) ++ [.hdr 15, (tL 0), .row false (.ruint8 []), .row false (.rPiece [])], [(tL 0), (tL 0), (tL 0), (tI .u32 0), (tB false), (tB false), (tL 0), (tB false), .row false (.rSpan []), (tI .u32 0), (tI .u32 0), (tB false), .hdr 15, (tL 0), (tL 0), (tI .u32 0)], (tI .u32 0) :: (tL 0) :: (tL 0) :: (tL 0) :: (tL 0) :: (tL 0) :: (tB false) :: (tB false) :: (tI .u32 0) :: (tI .u32 0) :: (.row false (.rBlock [])) :: (.row false (.ruint8 [])) :: (dT 4 []), dc]
def fr_recv_Read_3 (v99 : Int) : FF := [dT 4 ((.ptr 76 0) :: (.row false (.ruint8 [])) :: (.ptr 92 0) :: (tB false) :: (tL v99) :: (dT 7 [])), dc, dc, dc, dT 12 ([.hdr 15, (tL 0), .row false (.ruint8 []), .row false (.rPiece [])]), [(tL 0), (tL 0), (tL 0), (tI .u32 0), (tB false), (tB false), (tL 0), (tB false), .row false (.rSpan []), (tI .u32 0), (tI .u32 0), (tB false), .hdr 15, (tL 0), (tL 0), (tI .u32 0)], (tI .u32 0) :: (tL 0) :: (tL 0) :: (tL 0) :: (tL 0) :: (tL 0) :: (tB false) :: (tB false) :: (tI .u32 0) :: (tI .u32 0) :: (.row false (.rBlock [])) :: (.row false (.ruint8 [])) :: (dT 4 []), dc]
def fr_recv_Read_5 (v97 : (List Int)) (v103 : Bool) (v104 : SRecv) (v105 : SSegment) : FF := [dT 4 ((.ptr 76 0) :: (.row false (.ruint8 v97)) :: (.ptr 92 0) :: (tB v103) :: (tL 0) :: (dT 7 [])), dc, dc, dc, dT 12 ((.hdr 15) :: (sl 0 3 (eRecv v104))), sl 3 12 (eRecv v104) ++ ((.hdr 15) :: (sl 0 3 (eSegment v105))), sl 3 12 (eSegment v105) ++ (dT 4 []), dc]
theorem s_recv_Read_4_t {R : Type} (cp : Nat → Nat → Bool) (n : Nat) (v97 : (List Int)) (v98 : SRecv) (k : Ex → FF → Option R) : X cp n i_recv_Read_0 (fr_recv_Read_2 v97 v98) k = s_recv_Read_4 cp n v97 v98 (fun v103 v104 v105 => k .ret (fr_recv_Read_5 v97 v103 v104 v105)) := by kernel_rfl
def fr_recv_Read_6 (v106 : (List Int)) (v107 : Bool) (v108 : Int) (v109 : SRecv) (v110 : SSegment) : FF := [dT 4 ((.ptr 76 0) :: (.row false (.ruint8 v106)) :: (.ptr 92 0) :: (tB v107) :: (tL v108) :: (dT 7 [])), dc, dc, dc, dT 12 ((.hdr 15) :: (sl 0 3 (eRecv v109))), sl 3 12 (eRecv v109) ++ ((.hdr 15) :: (sl 0 3 (eSegment v110))), sl 3 12 (eSegment v110) ++ (dT 4 []), dc]
def fr_recv_Read_8 (p0 : SRecv) (p1 : Int) : FF := [(.agg (eRecv p0)) :: (tL p1) :: (dT 14 []), dc, dc, dc, dc, dc, dc, dc]
theorem s_recv_Read_7_t {R : Type} (cp : Nat → Nat → Bool) (n : Nat) (p0 : SRecv) (p1 : Int) (k : Ex → FF → Option R) : X cp n i_recv_Read_1 (fr_recv_Read_8 p0 p1) k = s_recv_Read_7 cp n p0 p1 (fun v106 v107 v108 v109 v110 => k .ret (fr_recv_Read_6 v106 v107 v108 v109 v110)) := ((fun c => (show X cp n (.seq (.fin (.reg g_recv_Read_0) [0, 5, 7, 8] []) (.seq (.seq (.fin (.reg g_recv_Read_1) [12, 13] []) (.seq (.fin (.reg g_recv_Read_2) [14] []) (.fin (.cond (.s 15) (.seq (.fin (.reg g_recv_Read_3) [1, 2, 9, 15, 16, 17, 18] [(60, 15)]) (.wk [5, 7, 8] (.ret))) (.skip)) [9, 15] []))) (.seq (.fin (.reg g_recv_Read_4) [19, 20] []) (.seq (.fin (.reg g_recv_Read_5) [21, 22, 23, 24, 25] []) (.seq (.fin (.reg g_recv_Read_6) [26, 27, 28, 29, 30] []) (.seq (.fin (.reg g_recv_Read_7) [1, 31, 32, 33, 34, 35] []) c)))))) (fr_recv_Read_8 p0 p1) k = s_recv_Read_1 cp n p0 p1 (fun v97 v98 => X cp n c (fr_recv_Read_2 v97 v98) k) (fun v99 => k .ret (fr_recv_Read_6 [] false v99 (SRecv.mk 0 [] [] 0 0 0 0 false false 0 false [] 0 0 false) (SSegment.mk 0 0 0 0 0 0 0 0 0 false false 0 0 [] []))) from by kernel_rfl)) i_recv_Read_0).trans (congrArg (fun q => s_recv_Read_1 cp n p0 p1 q (fun v99 => k .ret (fr_recv_Read_6 [] false v99 (SRecv.mk 0 [] [] 0 0 0 0 false false 0 false [] 0 0 false) (SSegment.mk 0 0 0 0 0 0 0 0 0 false false 0 0 [] [])))) (funext fun v97 => funext fun v98 => (s_recv_Read_4_t cp n v97 v98 k).trans (show s_recv_Read_4 cp n v97 v98 (fun v103 v104 v105 => k .ret (fr_recv_Read_5 v97 v103 v104 v105)) = s_recv_Read_4 cp n v97 v98 (fun v103 v104 v105 => k .ret (fr_recv_Read_6 v97 v103 0 v104 v105)) from by kernel_rfl)))
theorem run_recv_Read {R : Type} (cp : Nat → Nat → Bool) (n : Nat) (p0 : SRecv) (p1 : Int) (k : Ret2 RW → Option R) : G_recv_Read cp (n + 1) p0 p1 (fun r0 r1 r2 r3 r4 => k ⟨.tup [.agg (eRecv r0), .row false (.ruint8 r1), .agg (eSegment r2), (tB r3), (tL r4)], [], []⟩) = run2 U cp (callP cp n) n fn_recv_Read [.agg (eRecv p0), (tL p1)] [] k := ((X_run (f := fn_recv_Read) (av := [.agg (eRecv p0), (tL p1)]) (cells := []) (code := i_recv_Read_1) (fr := (fr_recv_Read_8 p0 p1)) (k := k) (by kernel_rfl) (fun K => by kernel_rfl)).trans ((s_recv_Read_7_t cp n p0 p1 (finK2 fn_recv_Read k)).trans (by kernel_rfl))).symm
/-! tideway/recv.Window -/
theorem run_recv_Window {R : Type} (cp : Nat → Nat → Bool) (n : Nat) (p0 : SRecv) (k : Ret2 RW → Option R) : G_recv_Window cp (n + 1) p0 (fun r0 => k ⟨(tL r0), [], []⟩) = run2 U cp (callP cp n) n fn_recv_Window [.agg (eRecv p0)] [] k := by kernel_rfl
/-! tideway/tidewaylaw08.heads -/
def fr_law08_heads_2 (v50 : Int) (v51 : Bool) (v52 : Int) (v53 : Bool) (v54 : Int) (v55 : (List Int)) (v56 : Int) (v57 : SRecv) (v58 : SSegment) (v59 : SRecv) (v60 : SSegment) (v61 : SRecv) : FF := [dT 1 ((.ptr 124 0) :: (tL v50) :: (dT 1 ((.ptr 156 0) :: (tB v51) :: (tL v52) :: (.ptr 172 0) :: (.ptr 188 0) :: (tB v53) :: (tL v54) :: (.ptr 204 0) :: (.row false (.ruint8 v55)) :: (dT 2 ([(tL v56)]))))), dc, dc, dc, dc, dc, dc, dT 12 ((.hdr 15) :: (sl 0 3 (eRecv v57))), sl 3 12 (eRecv v57) ++ (dT 4 []), dT 12 ((.hdr 15) :: (sl 0 3 (eSegment v58))), sl 3 12 (eSegment v58) ++ ((.hdr 15) :: (sl 0 3 (eRecv v59))), sl 3 12 (eRecv v59) ++ ((.hdr 15) :: (sl 0 3 (eSegment v60))), sl 3 12 (eSegment v60) ++ ((.hdr 15) :: (sl 0 3 (eRecv v61))), sl 3 12 (eRecv v61) ++ (dT 4 []), dc, dc]
def fr_law08_heads_4 (v67 : Bool) : FF := [(tB v67) :: (dT 15 []), dc, dc, dc, dc, dc, dc, dc, dc, dc, dc, dc, dc, dc, dc, dc]
theorem s_law08_heads_3_t {R : Type} (cp : Nat → Nat → Bool) (n : Nat) (v50 : Int) (v51 : Bool) (v52 : Int) (v53 : Bool) (v54 : Int) (v55 : (List Int)) (v56 : Int) (v57 : SRecv) (v58 : SSegment) (v59 : SRecv) (v60 : SSegment) (v61 : SRecv) (k : Ex → FF → Option R) : X cp n i_law08_heads_0 (fr_law08_heads_2 v50 v51 v52 v53 v54 v55 v56 v57 v58 v59 v60 v61) k = s_law08_heads_3 cp n v50 v51 v52 v53 v54 v55 v56 v57 v58 v59 v60 v61 (fun v67 => k .ret (fr_law08_heads_4 v67)) := by kernel_rfl
def fr_law08_heads_5 (v68 : Bool) : FF := [(tB v68) :: (dT 15 []), dc, dc, dc, dc, dc, dc, dc, dc, dc, dc, dc, dc, dc, dc, dc]
def fr_law08_heads_7 : FF := [dc, dc, dc, dc, dc, dc, dc, dc, dc, dc, dc, dc, dc, dc, dc, dc]
theorem s_law08_heads_6_t {R : Type} (cp : Nat → Nat → Bool) (n : Nat) (k : Ex → FF → Option R) : X cp n i_law08_heads_1 fr_law08_heads_7 k = s_law08_heads_6 cp n (fun v68 => k .ret (fr_law08_heads_5 v68)) := ((fun c => (show X cp n (.seq (.fin (.reg g_law08_heads_0) [0] []) (.seq (.fin (.reg g_law08_heads_1) [18, 19, 20, 21] []) (.seq (.fin (.reg g_law08_heads_2) [22, 23, 24, 25, 26, 27, 28, 29, 30, 31] []) (.seq (.fin (.reg g_law08_heads_3) [3, 32, 33, 34, 35, 36, 37, 38, 39, 40, 41] [(140, 15)]) (.seq (.fin (.reg g_law08_heads_4) [13, 14, 42, 43, 44, 45, 46, 47, 48, 49] [(220, 15)]) c))))) fr_law08_heads_7 k = s_law08_heads_1 cp n (fun v50 v51 v52 v53 v54 v55 v56 v57 v58 v59 v60 v61 => X cp n c (fr_law08_heads_2 v50 v51 v52 v53 v54 v55 v56 v57 v58 v59 v60 v61) k) from by kernel_rfl)) i_law08_heads_0).trans (congrArg (fun q => s_law08_heads_1 cp n q) (funext fun v50 => funext fun v51 => funext fun v52 => funext fun v53 => funext fun v54 => funext fun v55 => funext fun v56 => funext fun v57 => funext fun v58 => funext fun v59 => funext fun v60 => funext fun v61 => (s_law08_heads_3_t cp n v50 v51 v52 v53 v54 v55 v56 v57 v58 v59 v60 v61 k).trans (show s_law08_heads_3 cp n v50 v51 v52 v53 v54 v55 v56 v57 v58 v59 v60 v61 (fun v67 => k .ret (fr_law08_heads_4 v67)) = s_law08_heads_3 cp n v50 v51 v52 v53 v54 v55 v56 v57 v58 v59 v60 v61 (fun v67 => k .ret (fr_law08_heads_5 v67)) from by kernel_rfl)))
theorem run_law08_heads {R : Type} (cp : Nat → Nat → Bool) (n : Nat) (k : Ret2 RW → Option R) : G_law08_heads cp (n + 1) (fun r0 => k ⟨(tB r0), [], []⟩) = run2 U cp (callP cp n) n fn_law08_heads [] [] k := ((X_run (f := fn_law08_heads) (av := []) (cells := []) (code := i_law08_heads_1) (fr := fr_law08_heads_7) (k := k) (by kernel_rfl) (fun K => by kernel_rfl)).trans ((s_law08_heads_6_t cp n  (finK2 fn_law08_heads k)).trans (by kernel_rfl))).symm
/-! tideway/tidewaylaw08.RecvBegins -/
def fr_law08_RecvBegins_2 (v7 v8 : Int) (v9 v10 : SRecv) : FF := [dT 9 ((.ptr 57 0) :: (tL v7) :: (.ptr 73 0) :: (tL v8) :: (dT 3 [])), dc, dc, dT 9 ((.hdr 15) :: (sl 0 6 (eRecv v9))), sl 6 9 (eRecv v9) ++ ((.hdr 15) :: (sl 0 6 (eRecv v10))), sl 6 9 (eRecv v10) ++ (dT 7 [])]
def fr_law08_RecvBegins_4 (v15 : Bool) : FF := [dT 8 ((tB v15) :: (dT 7 [])), dc, dc, dc, dc, dc]
theorem s_law08_RecvBegins_3_t {R : Type} (cp : Nat → Nat → Bool) (n : Nat) (v7 v8 : Int) (v9 v10 : SRecv) (k : Ex → FF → Option R) : X cp n i_law08_RecvBegins_0 (fr_law08_RecvBegins_2 v7 v8 v9 v10) k = s_law08_RecvBegins_3 cp n v7 v8 v9 v10 (fun v15 => k .ret (fr_law08_RecvBegins_4 v15)) := by kernel_rfl
def fr_law08_RecvBegins_5 (v16 : Bool) : FF := [dT 8 ((tB v16) :: (dT 7 [])), dc, dc, dc, dc, dc]
def fr_law08_RecvBegins_7 (p0 p1 p2 : Int) (p3 : Bool) : FF := [(tL p0) :: (tL p1) :: (tI .u32 p2) :: (tB p3) :: (dT 12 []), dc, dc, dc, dc, dc]
theorem s_law08_RecvBegins_6_t {R : Type} (cp : Nat → Nat → Bool) (n : Nat) (p0 p1 p2 : Int) (p3 : Bool) (k : Ex → FF → Option R) : X cp n i_law08_RecvBegins_1 (fr_law08_RecvBegins_7 p0 p1 p2 p3) k = s_law08_RecvBegins_6 cp n p0 p1 p2 p3 (fun v16 => k .ret (fr_law08_RecvBegins_5 v16)) := ((fun c => (show X cp n (.seq (.fin (.reg g_law08_RecvBegins_0) [8] []) (.seq (.fin (.reg g_law08_RecvBegins_1) [13, 14, 15, 16, 17, 18, 19, 20, 21, 22, 23, 24] []) (.seq (.fin (.reg g_law08_RecvBegins_2) [0, 1, 2, 3, 25, 26, 27, 28, 29, 30, 31, 32, 33, 34, 35, 36] []) c))) (fr_law08_RecvBegins_7 p0 p1 p2 p3) k = s_law08_RecvBegins_1 cp n p0 p1 p2 p3 (fun v7 v8 v9 v10 => X cp n c (fr_law08_RecvBegins_2 v7 v8 v9 v10) k) from by kernel_rfl)) i_law08_RecvBegins_0).trans (congrArg (fun q => s_law08_RecvBegins_1 cp n p0 p1 p2 p3 q) (funext fun v7 => funext fun v8 => funext fun v9 => funext fun v10 => (s_law08_RecvBegins_3_t cp n v7 v8 v9 v10 k).trans (show s_law08_RecvBegins_3 cp n v7 v8 v9 v10 (fun v15 => k .ret (fr_law08_RecvBegins_4 v15)) = s_law08_RecvBegins_3 cp n v7 v8 v9 v10 (fun v15 => k .ret (fr_law08_RecvBegins_5 v15)) from by kernel_rfl)))
theorem run_law08_RecvBegins {R : Type} (cp : Nat → Nat → Bool) (n : Nat) (p0 p1 p2 : Int) (p3 : Bool) (k : Ret2 RW → Option R) : G_law08_RecvBegins cp (n + 1) p0 p1 p2 p3 (fun r0 => k ⟨(tB r0), [], []⟩) = run2 U cp (callP cp n) n fn_law08_RecvBegins [(tL p0), (tL p1), (tI .u32 p2), (tB p3)] [] k := ((X_run (f := fn_law08_RecvBegins) (av := [(tL p0), (tL p1), (tI .u32 p2), (tB p3)]) (cells := []) (code := i_law08_RecvBegins_1) (fr := (fr_law08_RecvBegins_7 p0 p1 p2 p3)) (k := k) (by kernel_rfl) (fun K => by kernel_rfl)).trans ((s_law08_RecvBegins_6_t cp n p0 p1 p2 p3 (finK2 fn_law08_RecvBegins k)).trans (by kernel_rfl))).symm
def tbl : Nat → Option IFn
  | 49 => some (fn_recv_window.lo U)
  | 17 => some (fn_recv_New.lo U)
  | 50 => some (fn_ref08_window.lo U)
  | 18 => some (fn_ref08_New.lo U)
  | 21 => some (fn_ref02_Same.lo U)
  | 14 => some (fn_ref08_Same.lo U)
  | 27 => some (fn_recv_reach.lo U)
  | 53 => some (fn_recv_limit.lo U)
  | 55 => some (fn_recv_late.lo U)
  | 71 => some (fn_recv_of.lo U)
  | 1013 => some (fn_slices_AppendSeq_Span.lo U)
  | 1012 => some (fn_slices_Collect.lo U)
  | 72 => some (fn_slices_Index_Span.lo U)
  | 56 => some (fn_slices_Contains_Span.lo U)
  | 28 => some (fn_recv_pieces.lo U)
  | 10 => some (fn_recv_Check.lo U)
  | 57 => some fn_slices_Clone_Span
  | 52 => some fn_bytes_Clone
  | 29 => some (fn_recv_copied.lo U)
  | 31 => some (fn_seq_Diff.lo U)
  | 58 => some (fn_seq_Sum.lo U)
  | 30 => some (fn_seq_Unwrap.lo U)
  | 36 => some (fn_seq_Add.lo U)
  | 32 => some (fn_recv_tell.lo U)
  | 33 => some (fn_recv_end.lo U)
  | 82 => some (fn_span_may.lo U)
  | 78 => some (fn_span_Check.lo U)
  | 79 => some (fn_span_within.lo U)
  | 61 => some (fn_span_Gaps.lo U)
  | 74 => some (fn_recv_put_1.lo U)
  | 1035 => some (fn_slices_BinarySearchFunc_Piece.lo U)
  | 1037 => some fn_slices_Clone_Piece
  | 75 => some fn_slices_Insert_Piece
  | 77 => some (fn_slices_Clip_byte.lo U)
  | 60 => some (fn_recv_put.lo U)
  | 1033 => some (fn_recv_take_1.lo U)
  | 34 => some (fn_recv_take.lo U)
  | 1042 => some (fn_recv_firsts_1.lo U)
  | 1041 => some (fn_slices_IndexFunc_Span.lo U)
  | 35 => some (fn_recv_firsts.lo U)
  | 12 => some (fn_recv_Input.lo U)
  | 51 => some (fn_seq_Clamp.lo U)
  | 20 => some (fn_recv_Read.lo U)
  | 22 => some (fn_recv_Window.lo U)
  | 11 => some (fn_law08_heads.lo U)
  | 5 => some (fn_law08_RecvBegins.lo U)
  | _ => none
theorem chk_recv_window : chkFn Try.prog tbl (fn_recv_window.lo U) = true := by kernel_rfl
theorem chk_recv_New : chkFn Try.prog tbl (fn_recv_New.lo U) = true := by kernel_rfl
theorem chk_ref08_window : chkFn Try.prog tbl (fn_ref08_window.lo U) = true := by kernel_rfl
theorem chk_ref08_New : chkFn Try.prog tbl (fn_ref08_New.lo U) = true := by kernel_rfl
theorem chk_ref02_Same : chkFn Try.prog tbl (fn_ref02_Same.lo U) = true := by kernel_rfl
theorem chk_ref08_Same : chkFn Try.prog tbl (fn_ref08_Same.lo U) = true := by kernel_rfl
theorem chk_recv_reach : chkFn Try.prog tbl (fn_recv_reach.lo U) = true := by kernel_rfl
theorem chk_recv_limit : chkFn Try.prog tbl (fn_recv_limit.lo U) = true := by kernel_rfl
theorem chk_recv_late : chkFn Try.prog tbl (fn_recv_late.lo U) = true := by kernel_rfl
theorem chk_recv_of : chkFn Try.prog tbl (fn_recv_of.lo U) = true := by kernel_rfl
theorem chk_slices_AppendSeq_Span : chkFn Try.prog tbl (fn_slices_AppendSeq_Span.lo U) = true := by kernel_rfl
theorem chk_slices_Collect : chkFn Try.prog tbl (fn_slices_Collect.lo U) = true := by kernel_rfl
theorem chk_slices_Index_Span : chkFn Try.prog tbl (fn_slices_Index_Span.lo U) = true := by kernel_rfl
theorem chk_slices_Contains_Span : chkFn Try.prog tbl (fn_slices_Contains_Span.lo U) = true := by kernel_rfl
theorem chk_recv_pieces : chkFn Try.prog tbl (fn_recv_pieces.lo U) = true := by kernel_rfl
theorem chk_recv_Check : chkFn Try.prog tbl (fn_recv_Check.lo U) = true := by kernel_rfl
theorem chk_slices_Clone_Span : chkFn Try.prog tbl fn_slices_Clone_Span = true := by kernel_rfl
theorem chk_bytes_Clone : chkFn Try.prog tbl fn_bytes_Clone = true := by kernel_rfl
theorem chk_recv_copied : chkFn Try.prog tbl (fn_recv_copied.lo U) = true := by kernel_rfl
theorem chk_seq_Diff : chkFn Try.prog tbl (fn_seq_Diff.lo U) = true := by kernel_rfl
theorem chk_seq_Sum : chkFn Try.prog tbl (fn_seq_Sum.lo U) = true := by kernel_rfl
theorem chk_seq_Unwrap : chkFn Try.prog tbl (fn_seq_Unwrap.lo U) = true := by kernel_rfl
theorem chk_seq_Add : chkFn Try.prog tbl (fn_seq_Add.lo U) = true := by kernel_rfl
theorem chk_recv_tell : chkFn Try.prog tbl (fn_recv_tell.lo U) = true := by kernel_rfl
theorem chk_recv_end : chkFn Try.prog tbl (fn_recv_end.lo U) = true := by kernel_rfl
theorem chk_span_may : chkFn Try.prog tbl (fn_span_may.lo U) = true := by kernel_rfl
theorem chk_span_Check : chkFn Try.prog tbl (fn_span_Check.lo U) = true := by kernel_rfl
theorem chk_span_within : chkFn Try.prog tbl (fn_span_within.lo U) = true := by kernel_rfl
theorem chk_span_Gaps : chkFn Try.prog tbl (fn_span_Gaps.lo U) = true := by kernel_rfl
theorem chk_recv_put_1 : chkFn Try.prog tbl (fn_recv_put_1.lo U) = true := by kernel_rfl
theorem chk_slices_BinarySearchFunc_Piece : chkFn Try.prog tbl (fn_slices_BinarySearchFunc_Piece.lo U) = true := by kernel_rfl
theorem chk_slices_Clone_Piece : chkFn Try.prog tbl fn_slices_Clone_Piece = true := by kernel_rfl
theorem chk_slices_Insert_Piece : chkFn Try.prog tbl fn_slices_Insert_Piece = true := by kernel_rfl
theorem chk_slices_Clip_byte : chkFn Try.prog tbl (fn_slices_Clip_byte.lo U) = true := by kernel_rfl
theorem chk_recv_put : chkFn Try.prog tbl (fn_recv_put.lo U) = true := by kernel_rfl
theorem chk_recv_take_1 : chkFn Try.prog tbl (fn_recv_take_1.lo U) = true := by kernel_rfl
theorem chk_recv_take : chkFn Try.prog tbl (fn_recv_take.lo U) = true := by kernel_rfl
theorem chk_recv_firsts_1 : chkFn Try.prog tbl (fn_recv_firsts_1.lo U) = true := by kernel_rfl
theorem chk_slices_IndexFunc_Span : chkFn Try.prog tbl (fn_slices_IndexFunc_Span.lo U) = true := by kernel_rfl
theorem chk_recv_firsts : chkFn Try.prog tbl (fn_recv_firsts.lo U) = true := by kernel_rfl
theorem chk_recv_Input : chkFn Try.prog tbl (fn_recv_Input.lo U) = true := by kernel_rfl
theorem chk_seq_Clamp : chkFn Try.prog tbl (fn_seq_Clamp.lo U) = true := by kernel_rfl
theorem chk_recv_Read : chkFn Try.prog tbl (fn_recv_Read.lo U) = true := by kernel_rfl
theorem chk_recv_Window : chkFn Try.prog tbl (fn_recv_Window.lo U) = true := by kernel_rfl
theorem chk_law08_heads : chkFn Try.prog tbl (fn_law08_heads.lo U) = true := by kernel_rfl
theorem chk_law08_RecvBegins : chkFn Try.prog tbl (fn_law08_RecvBegins.lo U) = true := by kernel_rfl
theorem chkAll : ∀ (id : Nat) (f : IFn), tbl id = some f → chkFn Try.prog tbl f = true := by
  intro id f h
  unfold tbl at h
  split at h
  · cases h; exact chk_recv_window
  · cases h; exact chk_recv_New
  · cases h; exact chk_ref08_window
  · cases h; exact chk_ref08_New
  · cases h; exact chk_ref02_Same
  · cases h; exact chk_ref08_Same
  · cases h; exact chk_recv_reach
  · cases h; exact chk_recv_limit
  · cases h; exact chk_recv_late
  · cases h; exact chk_recv_of
  · cases h; exact chk_slices_AppendSeq_Span
  · cases h; exact chk_slices_Collect
  · cases h; exact chk_slices_Index_Span
  · cases h; exact chk_slices_Contains_Span
  · cases h; exact chk_recv_pieces
  · cases h; exact chk_recv_Check
  · cases h; exact chk_slices_Clone_Span
  · cases h; exact chk_bytes_Clone
  · cases h; exact chk_recv_copied
  · cases h; exact chk_seq_Diff
  · cases h; exact chk_seq_Sum
  · cases h; exact chk_seq_Unwrap
  · cases h; exact chk_seq_Add
  · cases h; exact chk_recv_tell
  · cases h; exact chk_recv_end
  · cases h; exact chk_span_may
  · cases h; exact chk_span_Check
  · cases h; exact chk_span_within
  · cases h; exact chk_span_Gaps
  · cases h; exact chk_recv_put_1
  · cases h; exact chk_slices_BinarySearchFunc_Piece
  · cases h; exact chk_slices_Clone_Piece
  · cases h; exact chk_slices_Insert_Piece
  · cases h; exact chk_slices_Clip_byte
  · cases h; exact chk_recv_put
  · cases h; exact chk_recv_take_1
  · cases h; exact chk_recv_take
  · cases h; exact chk_recv_firsts_1
  · cases h; exact chk_slices_IndexFunc_Span
  · cases h; exact chk_recv_firsts
  · cases h; exact chk_recv_Input
  · cases h; exact chk_seq_Clamp
  · cases h; exact chk_recv_Read
  · cases h; exact chk_recv_Window
  · cases h; exact chk_law08_heads
  · cases h; exact chk_law08_RecvBegins
  · cases h
theorem clone_slices_Clone_Span (n : Nat) (xs : (List SSpan)) (hc : capB (0 + xs.length) 16 = true) : runF tbl (n + 1) 57 [.row false 2 xs.length (rg cSpan zSpan xs)] [] = some ⟨.row true 2 xs.length (rg cSpan zSpan xs), [], []⟩ :=
  clone_fin (F := fun m g => runF tbl (n + 1) 57 [.row false 2 m g] []) (fun g => show runF tbl (n + 1) 57 [.row false 2 0 g] [] = both (some ⟨.row true 2 0 (fun _ => [.sc (.int .i64 0), .sc (.int .i64 0)]), [], []⟩) (cond (capB (0 + 0) 16) (some ⟨.row true 2 (0 + 0) (appGet 0 0 (litGet 2 0 [.sc (.int .i64 0), .sc (.int .i64 0)] []) g), [], []⟩) none) from by kernel_rfl) (fun m g => show runF tbl (n + 1) 57 [.row false 2 (m + 1) g] [] = (cond (capB (0 + (m + 1)) 16) (some ⟨.row true 2 (0 + (m + 1)) (appGet 0 (m + 1) (litGet 2 0 [.sc (.int .i64 0), .sc (.int .i64 0)] []) g), [], []⟩) none) from by kernel_rfl) (show cSpan zSpan = [.sc (.int .i64 0), .sc (.int .i64 0)] from by kernel_rfl) xs hc
theorem clone_bytes_Clone (n : Nat) (xs : (List Int)) (hc : capB (0 + xs.length) 1 = true) : runF tbl (n + 1) 52 [.row false 1 xs.length (rg cuint8 zuint8 xs)] [] = some ⟨.row true 1 xs.length (rg cuint8 zuint8 xs), [], []⟩ :=
  clone_fin (F := fun m g => runF tbl (n + 1) 52 [.row false 1 m g] []) (fun g => show runF tbl (n + 1) 52 [.row false 1 0 g] [] = both (some ⟨.row true 1 0 (fun _ => [.sc (.int .u8 0)]), [], []⟩) (cond (capB (0 + 0) 1) (some ⟨.row true 1 (0 + 0) (appGet 0 0 (litGet 1 0 [.sc (.int .u8 0)] []) g), [], []⟩) none) from by kernel_rfl) (fun m g => show runF tbl (n + 1) 52 [.row false 1 (m + 1) g] [] = (cond (capB (0 + (m + 1)) 1) (some ⟨.row true 1 (0 + (m + 1)) (appGet 0 (m + 1) (litGet 1 0 [.sc (.int .u8 0)] []) g), [], []⟩) none) from by kernel_rfl) (show cuint8 zuint8 = [.sc (.int .u8 0)] from by kernel_rfl) xs hc
theorem clone_slices_Clone_Piece (n : Nat) (xs : (List SPiece)) (hc : capB (0 + xs.length) 32 = true) : runF tbl (n + 1) 1037 [.row false 2 xs.length (rg cPiece zPiece xs)] [] = some ⟨.un none 2 xs.length (rg cPiece zPiece xs), [], []⟩ :=
  uclone_fin (F := fun m g => runF tbl (n + 1) 1037 [.row false 2 m g] []) (fun g => show runF tbl (n + 1) 1037 [.row false 2 0 g] [] = both (some ⟨.un none 2 0 (fun _ => [.sc (.int .i64 0), .row false 1 0 (fun _ => [.sc (.int .u8 0)])]), [], []⟩) (cond (capB (0 + 0) 32) (some ⟨.un none 2 (0 + 0) (appGet 0 0 (litGet 2 0 [.sc (.int .i64 0), .row false 1 0 (fun _ => [.sc (.int .u8 0)])] []) g), [], []⟩) none) from by kernel_rfl) (fun m g => show runF tbl (n + 1) 1037 [.row false 2 (m + 1) g] [] = (cond (capB (0 + (m + 1)) 32) (some ⟨.un none 2 (0 + (m + 1)) (appGet 0 (m + 1) (litGet 2 0 [.sc (.int .i64 0), .row false 1 0 (fun _ => [.sc (.int .u8 0)])] []) g), [], []⟩) none) from by kernel_rfl) (show cPiece zPiece = [.sc (.int .i64 0), .row false 1 0 (fun _ => [.sc (.int .u8 0)])] from by kernel_rfl) xs hc
theorem clone_slices_Insert_Piece (n : Nat) (a : Bool) (xs : (List SPiece)) (i : Int) (x : SPiece) (hc : capB (xs.length + 1) 32 = true) (h0 : decide (0 ≤ i) = true) (h1 : decide (i ≤ (xs.length : Int)) = true) : runF tbl (n + 1) 75 [.un none 2 xs.length (rg cPiece zPiece xs), .sc (.int .i64 i), .row a 2 1 (rg cPiece zPiece [x])] [] = some ⟨.un none 2 (insL xs (Int.toNat i) x).length (rg cPiece zPiece (insL xs (Int.toNat i) x)), [], []⟩ :=
  ins_fin (show runF tbl (n + 1) 75 [.un none 2 xs.length (rg cPiece zPiece xs), .sc (.int .i64 i), .row a 2 1 (rg cPiece zPiece [x])] [] = cond (capB (xs.length + 1) 32) (cond (decide (0 ≤ i)) (cond (decide (i ≤ (xs.length : Int))) (some ⟨.un none 2 (xs.length + 1) (insGet xs.length (Int.toNat i) (rg cPiece zPiece xs) (rg cPiece zPiece [x])), [], []⟩) none) none) none from by kernel_rfl) hc h0 h1
theorem dI_ok {kd : IntKind} {y : TV RW} {a : Int} (h : dI kd y = some a) : y = .sc (.int kd a) := by
  unfold dI at h
  split at h
  · obtain ⟨h1, h2⟩ := cond_some h
    cases h2
    rw [of_decide_eq_true h1]
  · cases h
theorem dB_ok {y : TV RW} {a : Bool} (h : dB y = some a) : y = .sc (.bool a) := by
  unfold dB at h
  split at h <;> cases h
  rfl
theorem dS_ok {y : TV RW} {a : ByteArray} (h : dS y = some a) : y = .sc (.string a) := by
  unfold dS at h
  split at h <;> cases h
  rfl
theorem dA_ok {y : TV RW} {a : Fr} (h : dA y = some a) : y = .agg a := by
  unfold dA at h
  split at h <;> cases h
  rfl
theorem dOne_ok {y : Fr} {a : TV RW} (h : dOne y = some a) : y = [a] := by
  unfold dOne at h
  split at h <;> cases h
  rfl
theorem dP_ok {a b : Nat} {y : TV RW} {u : Unit} (h : dP a b y = some u) : y = .ptr a b := by
  unfold dP at h
  split at h
  · obtain ⟨h1, h2⟩ := cond_some h
    simp only [Bool.and_eq_true] at h1
    rw [nbeq h1.1, nbeq h1.2]
  · cases h
theorem dC_ok {a : Nat} {b : List (Nat × Nat)} {y : TV RW} {u : Unit} (h : dC a b y = some u) : y = .clo a b := by
  unfold dC at h
  split at h
  · obtain ⟨h1, h2⟩ := cond_some h
    simp only [Bool.and_eq_true] at h1
    rw [nbeq h1.1, of_decide_eq_true h1.2]
  · cases h
theorem dRuint8_ok {fl : Bool} {y : TV RW} {a : List Int} (h : dRuint8 fl y = some a) : y = .row fl (.ruint8 a) := by
  unfold dRuint8 at h
  split at h
  · obtain ⟨h1, h2⟩ := cond_some h
    cases h2
    rw [eq_of_beq h1]
  · cases h
theorem dRPiece_ok {fl : Bool} {y : TV RW} {a : List SPiece} (h : dRPiece fl y = some a) : y = .row fl (.rPiece a) := by
  unfold dRPiece at h
  split at h
  · obtain ⟨h1, h2⟩ := cond_some h
    cases h2
    rw [eq_of_beq h1]
  · cases h
theorem dRSpan_ok {fl : Bool} {y : TV RW} {a : List SSpan} (h : dRSpan fl y = some a) : y = .row fl (.rSpan a) := by
  unfold dRSpan at h
  split at h
  · obtain ⟨h1, h2⟩ := cond_some h
    cases h2
    rw [eq_of_beq h1]
  · cases h
theorem dRBlock_ok {fl : Bool} {y : TV RW} {a : List SBlock} (h : dRBlock fl y = some a) : y = .row fl (.rBlock a) := by
  unfold dRBlock at h
  split at h
  · obtain ⟨h1, h2⟩ := cond_some h
    cases h2
    rw [eq_of_beq h1]
  · cases h
theorem dRecv_ok {L : Fr} {a : SRecv} (h : dRecv L = some a) : L = eRecv a := by
  unfold dRecv at h
  split at h
  · simp only [Option.bind_eq_some_iff] at h
    obtain ⟨a0, h0, a1, h1, a2, h2, a3, h3, a4, h4, a5, h5, a6, h6, a7, h7, a8, h8, a9, h9, a10, h10, a11, h11, a12, h12, a13, h13, a14, h14, h⟩ := h
    cases h
    obtain rfl := dI_ok h0
    obtain rfl := dRuint8_ok h1
    obtain rfl := dRPiece_ok h2
    obtain rfl := dI_ok h3
    obtain rfl := dI_ok h4
    obtain rfl := dI_ok h5
    obtain rfl := dI_ok h6
    obtain rfl := dB_ok h7
    obtain rfl := dB_ok h8
    obtain rfl := dI_ok h9
    obtain rfl := dB_ok h10
    obtain rfl := dRSpan_ok h11
    obtain rfl := dI_ok h12
    obtain rfl := dI_ok h13
    obtain rfl := dB_ok h14
    rfl
  · cases h
theorem dRecvt_ok {L : Fr} {a : SRecv} (h : dRecvt L = some a) : L = eRecvt a := by
  unfold dRecvt at h
  split at h
  · simp only [Option.bind_eq_some_iff] at h
    obtain ⟨a0, h0, a1, h1, a2, h2, a3, h3, a4, h4, a5, h5, a6, h6, a7, h7, a8, h8, a9, h9, a10, h10, a11, h11, a12, h12, a13, h13, a14, h14, h⟩ := h
    cases h
    obtain rfl := dI_ok h0
    obtain rfl := dRuint8_ok h1
    obtain rfl := dRPiece_ok h2
    obtain rfl := dI_ok h3
    obtain rfl := dI_ok h4
    obtain rfl := dI_ok h5
    obtain rfl := dI_ok h6
    obtain rfl := dB_ok h7
    obtain rfl := dB_ok h8
    obtain rfl := dI_ok h9
    obtain rfl := dB_ok h10
    obtain rfl := dRSpan_ok h11
    obtain rfl := dI_ok h12
    obtain rfl := dI_ok h13
    obtain rfl := dB_ok h14
    rfl
  · cases h
theorem dPiece_ok {L : Fr} {a : SPiece} (h : dPiece L = some a) : L = ePiece a := by
  unfold dPiece at h
  split at h
  · simp only [Option.bind_eq_some_iff] at h
    obtain ⟨a0, h0, a1, h1, h⟩ := h
    cases h
    obtain rfl := dI_ok h0
    obtain rfl := dRuint8_ok h1
    rfl
  · cases h
theorem dPiecet_ok {L : Fr} {a : SPiece} (h : dPiecet L = some a) : L = ePiecet a := by
  unfold dPiecet at h
  split at h
  · simp only [Option.bind_eq_some_iff] at h
    obtain ⟨a0, h0, a1, h1, h⟩ := h
    cases h
    obtain rfl := dI_ok h0
    obtain rfl := dRuint8_ok h1
    rfl
  · cases h
theorem dSpan_ok {L : Fr} {a : SSpan} (h : dSpan L = some a) : L = eSpan a := by
  unfold dSpan at h
  split at h
  · simp only [Option.bind_eq_some_iff] at h
    obtain ⟨a0, h0, a1, h1, h⟩ := h
    cases h
    obtain rfl := dI_ok h0
    obtain rfl := dI_ok h1
    rfl
  · cases h
theorem dBlock_ok {L : Fr} {a : SBlock} (h : dBlock L = some a) : L = eBlock a := by
  unfold dBlock at h
  split at h
  · simp only [Option.bind_eq_some_iff] at h
    obtain ⟨a0, h0, a1, h1, h⟩ := h
    cases h
    obtain rfl := dI_ok h0
    obtain rfl := dI_ok h1
    rfl
  · cases h
theorem dSegment_ok {L : Fr} {a : SSegment} (h : dSegment L = some a) : L = eSegment a := by
  unfold dSegment at h
  split at h
  · simp only [Option.bind_eq_some_iff] at h
    obtain ⟨a0, h0, a1, h1, a2, h2, a3, h3, a4, h4, a5, h5, a6, h6, a7, h7, a8, h8, a9, h9, a10, h10, a11, h11, a12, h12, a13, h13, a14, h14, h⟩ := h
    cases h
    obtain rfl := dI_ok h0
    obtain rfl := dI_ok h1
    obtain rfl := dI_ok h2
    obtain rfl := dI_ok h3
    obtain rfl := dI_ok h4
    obtain rfl := dI_ok h5
    obtain rfl := dI_ok h6
    obtain rfl := dI_ok h7
    obtain rfl := dI_ok h8
    obtain rfl := dB_ok h9
    obtain rfl := dB_ok h10
    obtain rfl := dI_ok h11
    obtain rfl := dI_ok h12
    obtain rfl := dRBlock_ok h13
    obtain rfl := dRuint8_ok h14
    rfl
  · cases h
theorem dSegmentt_ok {L : Fr} {a : SSegment} (h : dSegmentt L = some a) : L = eSegmentt a := by
  unfold dSegmentt at h
  split at h
  · simp only [Option.bind_eq_some_iff] at h
    obtain ⟨a0, h0, a1, h1, a2, h2, a3, h3, a4, h4, a5, h5, a6, h6, a7, h7, a8, h8, a9, h9, a10, h10, a11, h11, a12, h12, a13, h13, a14, h14, h⟩ := h
    cases h
    obtain rfl := dI_ok h0
    obtain rfl := dI_ok h1
    obtain rfl := dI_ok h2
    obtain rfl := dI_ok h3
    obtain rfl := dI_ok h4
    obtain rfl := dI_ok h5
    obtain rfl := dI_ok h6
    obtain rfl := dI_ok h7
    obtain rfl := dI_ok h8
    obtain rfl := dB_ok h9
    obtain rfl := dB_ok h10
    obtain rfl := dI_ok h11
    obtain rfl := dI_ok h12
    obtain rfl := dRBlock_ok h13
    obtain rfl := dRuint8_ok h14
    rfl
  · cases h
theorem puint8_ok : ∀ {L : Fr} {xs : List Int}, puint8_ L = some xs → TV.los U L = (xs.map cuint8).flatten
  | [], xs, h => by cases h; rfl
  | y0 :: r, xs, h => by
    simp only [puint8_, Option.bind_eq_some_iff] at h
    obtain ⟨a0, h0, xs', h', h⟩ := h
    cases h
    have ih := puint8_ok h'
    obtain rfl := dI_ok h0
    show _ :: TV.los U r = _
    rw [ih]; rfl
theorem pPiece_ok : ∀ {L : Fr} {xs : List SPiece}, pPiece_ L = some xs → TV.los U L = (xs.map cPiece).flatten
  | [], xs, h => by cases h; rfl
  | [_], xs, h => by cases h
  | y0 :: y1 :: r, xs, h => by
    simp only [pPiece_, Option.bind_eq_some_iff] at h
    obtain ⟨a0, h0, a1, h1, xs', h', h⟩ := h
    cases h
    have ih := pPiece_ok h'
    obtain rfl := dI_ok h0
    obtain rfl := dRuint8_ok h1
    show _ :: _ :: TV.los U r = _
    rw [ih]; rfl
theorem pSpan_ok : ∀ {L : Fr} {xs : List SSpan}, pSpan_ L = some xs → TV.los U L = (xs.map cSpan).flatten
  | [], xs, h => by cases h; rfl
  | [_], xs, h => by cases h
  | y0 :: y1 :: r, xs, h => by
    simp only [pSpan_, Option.bind_eq_some_iff] at h
    obtain ⟨a0, h0, a1, h1, xs', h', h⟩ := h
    cases h
    have ih := pSpan_ok h'
    obtain rfl := dI_ok h0
    obtain rfl := dI_ok h1
    show _ :: _ :: TV.los U r = _
    rw [ih]; rfl
theorem pBlock_ok : ∀ {L : Fr} {xs : List SBlock}, pBlock_ L = some xs → TV.los U L = (xs.map cBlock).flatten
  | [], xs, h => by cases h; rfl
  | [_], xs, h => by cases h
  | y0 :: y1 :: r, xs, h => by
    simp only [pBlock_, Option.bind_eq_some_iff] at h
    obtain ⟨a0, h0, a1, h1, xs', h', h⟩ := h
    cases h
    have ih := pBlock_ok h'
    obtain rfl := dI_ok h0
    obtain rfl := dI_ok h1
    show _ :: _ :: TV.los U r = _
    rw [ih]; rfl
theorem dUPiece_ok {y : TV RW} {a : List SPiece} (h : dUPiece y = some a) : y = .un none (.rPiece a) := by
  unfold dUPiece at h
  split at h <;> cases h
  rfl
theorem dXPiece_ok {y : TV RW} {a : SPiece} (h : dXPiece y = some a) : ∃ fl, y = .row fl (.rPiece [a]) := by
  unfold dXPiece at h
  split at h <;> cases h
  exact ⟨_, rfl⟩
theorem UOk : UniOk U where
  get := fun r i => match r with
    | .ruint8 xs => by kernel_rfl
    | .rPiece xs => by kernel_rfl
    | .rSpan xs => by kernel_rfl
    | .rBlock xs => by kernel_rfl
  app := fun r q x h => by cases r <;> cases q <;> first | (cases h; done) | (cases h; exact ⟨rfl, rfl, List.length_append, (rg_app (c := cuint8) (z := zuint8)).symm⟩) | (cases h; exact ⟨rfl, rfl, List.length_append, (rg_app (c := cPiece) (z := zPiece)).symm⟩) | (cases h; exact ⟨rfl, rfl, List.length_append, (rg_app (c := cSpan) (z := zSpan)).symm⟩) | (cases h; exact ⟨rfl, rfl, List.length_append, (rg_app (c := cBlock) (z := zBlock)).symm⟩)
  sub := fun lo n r h => by cases r <;> first | exact ⟨rfl, sub_len h, (rg_sub (c := cuint8) (z := zuint8) h).symm⟩ | exact ⟨rfl, sub_len h, (rg_sub (c := cPiece) (z := zPiece) h).symm⟩ | exact ⟨rfl, sub_len h, (rg_sub (c := cSpan) (z := zSpan) h).symm⟩ | exact ⟨rfl, sub_len h, (rg_sub (c := cBlock) (z := zBlock) h).symm⟩
  lit := fun t n L r h => by
    unfold U at h
    dsimp only at h
    split at h
    · obtain ⟨xs, h1, rfl, rfl⟩ := bind_lit h
      have e := puint8_ok h1
      exact ⟨rfl, rfl, by rw [e]; exact (rg_lit (c := cuint8) (sz := 1) (z := zuint8) (fun _ => rfl)).symm, by rw [e]; exact all_flat (fun _ => rfl) xs⟩
    · obtain ⟨xs, h1, rfl, rfl⟩ := bind_lit h
      have e := pPiece_ok h1
      exact ⟨rfl, rfl, by rw [e]; exact (rg_lit (c := cPiece) (sz := 2) (z := zPiece) (fun _ => rfl)).symm, by rw [e]; exact all_flat (fun _ => rfl) xs⟩
    · obtain ⟨xs, h1, rfl, rfl⟩ := bind_lit h
      have e := pSpan_ok h1
      exact ⟨rfl, rfl, by rw [e]; exact (rg_lit (c := cSpan) (sz := 2) (z := zSpan) (fun _ => rfl)).symm, by rw [e]; exact all_flat (fun _ => rfl) xs⟩
    · obtain ⟨xs, h1, rfl, rfl⟩ := bind_lit h
      have e := pBlock_ok h1
      exact ⟨rfl, rfl, by rw [e]; exact (rg_lit (c := cBlock) (sz := 2) (z := zBlock) (fun _ => rfl)).symm, by rw [e]; exact all_flat (fun _ => rfl) xs⟩
    · cases h
  set := fun r q off cs r' hq h => by
    unfold U at h hq
    dsimp only at h hq
    split at h
    · cases h
    · obtain ⟨x, h1, h2⟩ := Option.bind_eq_some_iff.1 h
      cases h2
      obtain ⟨a1, a2, a3⟩ := set_fin (U := U) (c := cPiece) (z := zPiece) (e := ePiece) (fun _ => by kernel_rfl) (fun _ => rfl) hq (dPiece_ok h1)
      exact ⟨rfl, a1, a2, a3⟩
    · obtain ⟨x, h1, h2⟩ := Option.bind_eq_some_iff.1 h
      cases h2
      obtain ⟨a1, a2, a3⟩ := set_fin (U := U) (c := cSpan) (z := zSpan) (e := eSpan) (fun _ => by kernel_rfl) (fun _ => rfl) hq (dSpan_ok h1)
      exact ⟨rfl, a1, a2, a3⟩
    · obtain ⟨x, h1, h2⟩ := Option.bind_eq_some_iff.1 h
      cases h2
      obtain ⟨a1, a2, a3⟩ := set_fin (U := U) (c := cBlock) (z := zBlock) (e := eBlock) (fun _ => by kernel_rfl) (fun _ => rfl) hq (dBlock_ok h1)
      exact ⟨rfl, a1, a2, a3⟩
  str := fun r l h => by
    unfold U at h
    dsimp only at h
    split at h
    · cases h
      exact ⟨rfl, bytes_rg (fun _ => rfl) l⟩
    · cases h
    · cases h
    · cases h

theorem ok_recv_window {R : Type} {r : R} : ∀ {n : Nat}, (∀ m, n = m + 1 → CallOk2 (R := R) U (callP capB m) (runF tbl m)) → ∀ {av : Fr} {cs : List Fr} {k : Ret2 RW → Option R}, ca_recv_window capB n av cs k = some r → ∃ q : Ret2 RW, runF tbl n 49 (TV.los U av) (cs.map (TV.los U)) = some (q.lo U) ∧ k q = some r := by
  intro n ih av cs k h
  unfold ca_recv_window at h
  split at h
  · simp only [Option.bind_eq_some_iff] at h
    obtain ⟨c0_, h0, p0, g0, h⟩ := h
    obtain rfl := dA_ok h0
    obtain rfl := dRecv_ok g0
    cases n with
    | zero => cases h
    | succ n =>
      exact run2_ok UOk (ih n rfl) (f := fn_recv_window) rfl ((run_recv_window capB n p0 k).symm.trans h)
  · cases h
theorem ok_recv_New {R : Type} {r : R} : ∀ {n : Nat}, (∀ m, n = m + 1 → CallOk2 (R := R) U (callP capB m) (runF tbl m)) → ∀ {av : Fr} {cs : List Fr} {k : Ret2 RW → Option R}, ca_recv_New capB n av cs k = some r → ∃ q : Ret2 RW, runF tbl n 17 (TV.los U av) (cs.map (TV.los U)) = some (q.lo U) ∧ k q = some r := by
  intro n ih av cs k h
  unfold ca_recv_New at h
  split at h
  · simp only [Option.bind_eq_some_iff] at h
    obtain ⟨p0, h0, p1, h1, p2, h2, p3, h3, p4, h4, p5, h5, h⟩ := h
    obtain rfl := dI_ok h0
    obtain rfl := dI_ok h1
    obtain rfl := dI_ok h2
    obtain rfl := dI_ok h3
    obtain rfl := dB_ok h4
    obtain rfl := dB_ok h5
    cases n with
    | zero => cases h
    | succ n =>
      exact run2_ok UOk (ih n rfl) (f := fn_recv_New) rfl ((run_recv_New capB n p0 p1 p2 p3 p4 p5 k).symm.trans h)
  · cases h
theorem ok_ref08_window {R : Type} {r : R} : ∀ {n : Nat}, (∀ m, n = m + 1 → CallOk2 (R := R) U (callP capB m) (runF tbl m)) → ∀ {av : Fr} {cs : List Fr} {k : Ret2 RW → Option R}, ca_ref08_window capB n av cs k = some r → ∃ q : Ret2 RW, runF tbl n 50 (TV.los U av) (cs.map (TV.los U)) = some (q.lo U) ∧ k q = some r := by
  intro n ih av cs k h
  unfold ca_ref08_window at h
  split at h
  · simp only [Option.bind_eq_some_iff] at h
    obtain ⟨c0_, h0, p0, g0, h⟩ := h
    obtain rfl := dA_ok h0
    obtain rfl := dRecv_ok g0
    cases n with
    | zero => cases h
    | succ n =>
      exact run2_ok UOk (ih n rfl) (f := fn_ref08_window) rfl ((run_ref08_window capB n p0 k).symm.trans h)
  · cases h
theorem ok_ref08_New {R : Type} {r : R} : ∀ {n : Nat}, (∀ m, n = m + 1 → CallOk2 (R := R) U (callP capB m) (runF tbl m)) → ∀ {av : Fr} {cs : List Fr} {k : Ret2 RW → Option R}, ca_ref08_New capB n av cs k = some r → ∃ q : Ret2 RW, runF tbl n 18 (TV.los U av) (cs.map (TV.los U)) = some (q.lo U) ∧ k q = some r := by
  intro n ih av cs k h
  unfold ca_ref08_New at h
  split at h
  · simp only [Option.bind_eq_some_iff] at h
    obtain ⟨p0, h0, p1, h1, p2, h2, p3, h3, p4, h4, p5, h5, h⟩ := h
    obtain rfl := dI_ok h0
    obtain rfl := dI_ok h1
    obtain rfl := dI_ok h2
    obtain rfl := dI_ok h3
    obtain rfl := dB_ok h4
    obtain rfl := dB_ok h5
    cases n with
    | zero => cases h
    | succ n =>
      exact run2_ok UOk (ih n rfl) (f := fn_ref08_New) rfl ((run_ref08_New capB n p0 p1 p2 p3 p4 p5 k).symm.trans h)
  · cases h
theorem ok_ref02_Same {R : Type} {r : R} : ∀ {n : Nat}, (∀ m, n = m + 1 → CallOk2 (R := R) U (callP capB m) (runF tbl m)) → ∀ {av : Fr} {cs : List Fr} {k : Ret2 RW → Option R}, ca_ref02_Same capB n av cs k = some r → ∃ q : Ret2 RW, runF tbl n 21 (TV.los U av) (cs.map (TV.los U)) = some (q.lo U) ∧ k q = some r := by
  intro n ih av cs k h
  unfold ca_ref02_Same at h
  split at h
  · simp only [Option.bind_eq_some_iff] at h
    obtain ⟨p0, h0, p1, h1, h⟩ := h
    obtain rfl := dRuint8_ok h0
    obtain rfl := dRuint8_ok h1
    cases n with
    | zero => cases h
    | succ n =>
      exact run2_ok UOk (ih n rfl) (f := fn_ref02_Same) rfl ((run_ref02_Same capB n p0 p1 k).symm.trans h)
  · cases h
theorem ok_ref08_Same {R : Type} {r : R} : ∀ {n : Nat}, (∀ m, n = m + 1 → CallOk2 (R := R) U (callP capB m) (runF tbl m)) → ∀ {av : Fr} {cs : List Fr} {k : Ret2 RW → Option R}, ca_ref08_Same capB n av cs k = some r → ∃ q : Ret2 RW, runF tbl n 14 (TV.los U av) (cs.map (TV.los U)) = some (q.lo U) ∧ k q = some r := by
  intro n ih av cs k h
  unfold ca_ref08_Same at h
  split at h
  · simp only [Option.bind_eq_some_iff] at h
    obtain ⟨c0_, h0, p0, g0, c1_, h1, p1, g1, h⟩ := h
    obtain rfl := dA_ok h0
    obtain rfl := dRecv_ok g0
    obtain rfl := dA_ok h1
    obtain rfl := dRecv_ok g1
    cases n with
    | zero => cases h
    | succ n =>
      exact run2_ok UOk (ih n rfl) (f := fn_ref08_Same) rfl ((run_ref08_Same capB n p0 p1 k).symm.trans h)
  · cases h
theorem ok_recv_reach {R : Type} {r : R} : ∀ {n : Nat}, (∀ m, n = m + 1 → CallOk2 (R := R) U (callP capB m) (runF tbl m)) → ∀ {av : Fr} {cs : List Fr} {k : Ret2 RW → Option R}, ca_recv_reach capB n av cs k = some r → ∃ q : Ret2 RW, runF tbl n 27 (TV.los U av) (cs.map (TV.los U)) = some (q.lo U) ∧ k q = some r := by
  intro n ih av cs k h
  unfold ca_recv_reach at h
  split at h
  · simp only [Option.bind_eq_some_iff] at h
    obtain ⟨c0_, h0, p0, g0, h⟩ := h
    obtain rfl := dA_ok h0
    obtain rfl := dRecv_ok g0
    cases n with
    | zero => cases h
    | succ n =>
      exact run2_ok UOk (ih n rfl) (f := fn_recv_reach) rfl ((run_recv_reach capB n p0 k).symm.trans h)
  · cases h
theorem ok_recv_limit {R : Type} {r : R} : ∀ {n : Nat}, (∀ m, n = m + 1 → CallOk2 (R := R) U (callP capB m) (runF tbl m)) → ∀ {av : Fr} {cs : List Fr} {k : Ret2 RW → Option R}, ca_recv_limit capB n av cs k = some r → ∃ q : Ret2 RW, runF tbl n 53 (TV.los U av) (cs.map (TV.los U)) = some (q.lo U) ∧ k q = some r := by
  intro n ih av cs k h
  unfold ca_recv_limit at h
  split at h
  · simp only [Option.bind_eq_some_iff] at h
    obtain ⟨c0_, h0, p0, g0, h⟩ := h
    obtain rfl := dA_ok h0
    obtain rfl := dRecv_ok g0
    cases n with
    | zero => cases h
    | succ n =>
      exact run2_ok UOk (ih n rfl) (f := fn_recv_limit) rfl ((run_recv_limit capB n p0 k).symm.trans h)
  · cases h
theorem ok_recv_late {R : Type} {r : R} : ∀ {n : Nat}, (∀ m, n = m + 1 → CallOk2 (R := R) U (callP capB m) (runF tbl m)) → ∀ {av : Fr} {cs : List Fr} {k : Ret2 RW → Option R}, ca_recv_late capB n av cs k = some r → ∃ q : Ret2 RW, runF tbl n 55 (TV.los U av) (cs.map (TV.los U)) = some (q.lo U) ∧ k q = some r := by
  intro n ih av cs k h
  unfold ca_recv_late at h
  split at h
  · simp only [Option.bind_eq_some_iff] at h
    obtain ⟨c0_, h0, p0, g0, h⟩ := h
    obtain rfl := dA_ok h0
    obtain rfl := dRecv_ok g0
    cases n with
    | zero => cases h
    | succ n =>
      exact run2_ok UOk (ih n rfl) (f := fn_recv_late) rfl ((run_recv_late capB n p0 k).symm.trans h)
  · cases h
theorem ok_recv_of {R : Type} {r : R} : ∀ {n : Nat}, (∀ m, n = m + 1 → CallOk2 (R := R) U (callP capB m) (runF tbl m)) → ∀ {av : Fr} {cs : List Fr} {k : Ret2 RW → Option R}, ca_recv_of capB n av cs k = some r → ∃ q : Ret2 RW, runF tbl n 71 (TV.los U av) (cs.map (TV.los U)) = some (q.lo U) ∧ k q = some r := by
  intro n ih av cs k h
  unfold ca_recv_of at h
  split at h
  · simp only [Option.bind_eq_some_iff] at h
    obtain ⟨c0_, h0, p0, g0, h⟩ := h
    obtain rfl := dA_ok h0
    obtain rfl := dPiece_ok g0
    cases n with
    | zero => cases h
    | succ n =>
      exact run2_ok UOk (ih n rfl) (f := fn_recv_of) rfl ((run_recv_of capB n p0 k).symm.trans h)
  · cases h
theorem ok_slices_AppendSeq_Span {R : Type} {r : R} : ∀ {n : Nat}, (∀ m, n = m + 1 → CallOk2 (R := R) U (callP capB m) (runF tbl m)) → ∀ {av : Fr} {cs : List Fr} {k : Ret2 RW → Option R}, ca_slices_AppendSeq_Span capB n av cs k = some r → ∃ q : Ret2 RW, runF tbl n 1013 (TV.los U av) (cs.map (TV.los U)) = some (q.lo U) ∧ k q = some r := by
  intro n ih av cs k h
  unfold ca_slices_AppendSeq_Span at h
  split at h
  · simp only [Option.bind_eq_some_iff] at h
    obtain ⟨p0, h0, u1, h1, q0, i0, h⟩ := h
    obtain rfl := dRSpan_ok h0
    obtain rfl := dC_ok h1
    obtain rfl := dRecv_ok i0
    cases n with
    | zero => cases h
    | succ n =>
      exact run2_ok UOk (ih n rfl) (f := fn_slices_AppendSeq_Span) rfl ((run_slices_AppendSeq_Span capB n p0 q0 k).symm.trans h)
  · cases h
theorem ok_slices_Collect {R : Type} {r : R} : ∀ {n : Nat}, (∀ m, n = m + 1 → CallOk2 (R := R) U (callP capB m) (runF tbl m)) → ∀ {av : Fr} {cs : List Fr} {k : Ret2 RW → Option R}, ca_slices_Collect capB n av cs k = some r → ∃ q : Ret2 RW, runF tbl n 1012 (TV.los U av) (cs.map (TV.los U)) = some (q.lo U) ∧ k q = some r := by
  intro n ih av cs k h
  unfold ca_slices_Collect at h
  split at h
  · simp only [Option.bind_eq_some_iff] at h
    obtain ⟨u0, h0, q0, i0, h⟩ := h
    obtain rfl := dC_ok h0
    obtain rfl := dRecv_ok i0
    cases n with
    | zero => cases h
    | succ n =>
      exact run2_ok UOk (ih n rfl) (f := fn_slices_Collect) rfl ((run_slices_Collect capB n q0 k).symm.trans h)
  · cases h
theorem ok_slices_Index_Span {R : Type} {r : R} : ∀ {n : Nat}, (∀ m, n = m + 1 → CallOk2 (R := R) U (callP capB m) (runF tbl m)) → ∀ {av : Fr} {cs : List Fr} {k : Ret2 RW → Option R}, ca_slices_Index_Span capB n av cs k = some r → ∃ q : Ret2 RW, runF tbl n 72 (TV.los U av) (cs.map (TV.los U)) = some (q.lo U) ∧ k q = some r := by
  intro n ih av cs k h
  unfold ca_slices_Index_Span at h
  split at h
  · simp only [Option.bind_eq_some_iff] at h
    obtain ⟨p0, h0, c1_, h1, p1, g1, h⟩ := h
    obtain rfl := dRSpan_ok h0
    obtain rfl := dA_ok h1
    obtain rfl := dSpan_ok g1
    cases n with
    | zero => cases h
    | succ n =>
      exact run2_ok UOk (ih n rfl) (f := fn_slices_Index_Span) rfl ((run_slices_Index_Span capB n p0 p1 k).symm.trans h)
  · cases h
theorem ok_slices_Contains_Span {R : Type} {r : R} : ∀ {n : Nat}, (∀ m, n = m + 1 → CallOk2 (R := R) U (callP capB m) (runF tbl m)) → ∀ {av : Fr} {cs : List Fr} {k : Ret2 RW → Option R}, ca_slices_Contains_Span capB n av cs k = some r → ∃ q : Ret2 RW, runF tbl n 56 (TV.los U av) (cs.map (TV.los U)) = some (q.lo U) ∧ k q = some r := by
  intro n ih av cs k h
  unfold ca_slices_Contains_Span at h
  split at h
  · simp only [Option.bind_eq_some_iff] at h
    obtain ⟨p0, h0, c1_, h1, p1, g1, h⟩ := h
    obtain rfl := dRSpan_ok h0
    obtain rfl := dA_ok h1
    obtain rfl := dSpan_ok g1
    cases n with
    | zero => cases h
    | succ n =>
      exact run2_ok UOk (ih n rfl) (f := fn_slices_Contains_Span) rfl ((run_slices_Contains_Span capB n p0 p1 k).symm.trans h)
  · cases h
theorem ok_recv_pieces {R : Type} {r : R} : ∀ {n : Nat}, (∀ m, n = m + 1 → CallOk2 (R := R) U (callP capB m) (runF tbl m)) → ∀ {av : Fr} {cs : List Fr} {k : Ret2 RW → Option R}, ca_recv_pieces capB n av cs k = some r → ∃ q : Ret2 RW, runF tbl n 28 (TV.los U av) (cs.map (TV.los U)) = some (q.lo U) ∧ k q = some r := by
  intro n ih av cs k h
  unfold ca_recv_pieces at h
  split at h
  · simp only [Option.bind_eq_some_iff] at h
    obtain ⟨c0_, h0, p0, g0, h⟩ := h
    obtain rfl := dA_ok h0
    obtain rfl := dRecv_ok g0
    cases n with
    | zero => cases h
    | succ n =>
      exact run2_ok UOk (ih n rfl) (f := fn_recv_pieces) rfl ((run_recv_pieces capB n p0 k).symm.trans h)
  · cases h
theorem ok_recv_Check {R : Type} {r : R} : ∀ {n : Nat}, (∀ m, n = m + 1 → CallOk2 (R := R) U (callP capB m) (runF tbl m)) → ∀ {av : Fr} {cs : List Fr} {k : Ret2 RW → Option R}, ca_recv_Check capB n av cs k = some r → ∃ q : Ret2 RW, runF tbl n 10 (TV.los U av) (cs.map (TV.los U)) = some (q.lo U) ∧ k q = some r := by
  intro n ih av cs k h
  unfold ca_recv_Check at h
  split at h
  · simp only [Option.bind_eq_some_iff] at h
    obtain ⟨c0_, h0, p0, g0, h⟩ := h
    obtain rfl := dA_ok h0
    obtain rfl := dRecv_ok g0
    cases n with
    | zero => cases h
    | succ n =>
      exact run2_ok UOk (ih n rfl) (f := fn_recv_Check) rfl ((run_recv_Check capB n p0 k).symm.trans h)
  · cases h
theorem ok_slices_Clone_Span {R : Type} {r : R} : ∀ {n : Nat}, (∀ m, n = m + 1 → CallOk2 (R := R) U (callP capB m) (runF tbl m)) → ∀ {av : Fr} {cs : List Fr} {k : Ret2 RW → Option R}, ca_slices_Clone_Span capB n av cs k = some r → ∃ q : Ret2 RW, runF tbl n 57 (TV.los U av) (cs.map (TV.los U)) = some (q.lo U) ∧ k q = some r := by
  intro n ih av cs k h
  unfold ca_slices_Clone_Span at h
  split at h
  · simp only [Option.bind_eq_some_iff] at h
    obtain ⟨p0, h0, h⟩ := h
    obtain rfl := dRSpan_ok h0
    cases n with
    | zero => cases h
    | succ n =>
      obtain ⟨h1, h2⟩ := cond_some h
      exact ⟨⟨.row true (.rSpan p0), [], []⟩, clone_slices_Clone_Span n p0 h1, h2⟩
  · cases h
theorem ok_bytes_Clone {R : Type} {r : R} : ∀ {n : Nat}, (∀ m, n = m + 1 → CallOk2 (R := R) U (callP capB m) (runF tbl m)) → ∀ {av : Fr} {cs : List Fr} {k : Ret2 RW → Option R}, ca_bytes_Clone capB n av cs k = some r → ∃ q : Ret2 RW, runF tbl n 52 (TV.los U av) (cs.map (TV.los U)) = some (q.lo U) ∧ k q = some r := by
  intro n ih av cs k h
  unfold ca_bytes_Clone at h
  split at h
  · simp only [Option.bind_eq_some_iff] at h
    obtain ⟨p0, h0, h⟩ := h
    obtain rfl := dRuint8_ok h0
    cases n with
    | zero => cases h
    | succ n =>
      obtain ⟨h1, h2⟩ := cond_some h
      exact ⟨⟨.row true (.ruint8 p0), [], []⟩, clone_bytes_Clone n p0 h1, h2⟩
  · cases h
theorem ok_recv_copied {R : Type} {r : R} : ∀ {n : Nat}, (∀ m, n = m + 1 → CallOk2 (R := R) U (callP capB m) (runF tbl m)) → ∀ {av : Fr} {cs : List Fr} {k : Ret2 RW → Option R}, ca_recv_copied capB n av cs k = some r → ∃ q : Ret2 RW, runF tbl n 29 (TV.los U av) (cs.map (TV.los U)) = some (q.lo U) ∧ k q = some r := by
  intro n ih av cs k h
  unfold ca_recv_copied at h
  split at h
  · simp only [Option.bind_eq_some_iff] at h
    obtain ⟨c0_, h0, p0, g0, h⟩ := h
    obtain rfl := dA_ok h0
    obtain rfl := dRecv_ok g0
    cases n with
    | zero => cases h
    | succ n =>
      exact run2_ok UOk (ih n rfl) (f := fn_recv_copied) rfl ((run_recv_copied capB n p0 k).symm.trans h)
  · cases h
theorem ok_seq_Diff {R : Type} {r : R} : ∀ {n : Nat}, (∀ m, n = m + 1 → CallOk2 (R := R) U (callP capB m) (runF tbl m)) → ∀ {av : Fr} {cs : List Fr} {k : Ret2 RW → Option R}, ca_seq_Diff capB n av cs k = some r → ∃ q : Ret2 RW, runF tbl n 31 (TV.los U av) (cs.map (TV.los U)) = some (q.lo U) ∧ k q = some r := by
  intro n ih av cs k h
  unfold ca_seq_Diff at h
  split at h
  · simp only [Option.bind_eq_some_iff] at h
    obtain ⟨p0, h0, p1, h1, h⟩ := h
    obtain rfl := dI_ok h0
    obtain rfl := dI_ok h1
    cases n with
    | zero => cases h
    | succ n =>
      exact run2_ok UOk (ih n rfl) (f := fn_seq_Diff) rfl ((run_seq_Diff capB n p0 p1 k).symm.trans h)
  · cases h
theorem ok_seq_Sum {R : Type} {r : R} : ∀ {n : Nat}, (∀ m, n = m + 1 → CallOk2 (R := R) U (callP capB m) (runF tbl m)) → ∀ {av : Fr} {cs : List Fr} {k : Ret2 RW → Option R}, ca_seq_Sum capB n av cs k = some r → ∃ q : Ret2 RW, runF tbl n 58 (TV.los U av) (cs.map (TV.los U)) = some (q.lo U) ∧ k q = some r := by
  intro n ih av cs k h
  unfold ca_seq_Sum at h
  split at h
  · simp only [Option.bind_eq_some_iff] at h
    obtain ⟨p0, h0, p1, h1, h⟩ := h
    obtain rfl := dI_ok h0
    obtain rfl := dI_ok h1
    cases n with
    | zero => cases h
    | succ n =>
      exact run2_ok UOk (ih n rfl) (f := fn_seq_Sum) rfl ((run_seq_Sum capB n p0 p1 k).symm.trans h)
  · cases h
theorem ok_seq_Unwrap {R : Type} {r : R} : ∀ {n : Nat}, (∀ m, n = m + 1 → CallOk2 (R := R) U (callP capB m) (runF tbl m)) → ∀ {av : Fr} {cs : List Fr} {k : Ret2 RW → Option R}, ca_seq_Unwrap capB n av cs k = some r → ∃ q : Ret2 RW, runF tbl n 30 (TV.los U av) (cs.map (TV.los U)) = some (q.lo U) ∧ k q = some r := by
  intro n ih av cs k h
  unfold ca_seq_Unwrap at h
  split at h
  · simp only [Option.bind_eq_some_iff] at h
    obtain ⟨p0, h0, p1, h1, h⟩ := h
    obtain rfl := dI_ok h0
    obtain rfl := dI_ok h1
    cases n with
    | zero => cases h
    | succ n =>
      exact run2_ok UOk (ih n rfl) (f := fn_seq_Unwrap) rfl ((run_seq_Unwrap capB n p0 p1 k).symm.trans h)
  · cases h
theorem ok_seq_Add {R : Type} {r : R} : ∀ {n : Nat}, (∀ m, n = m + 1 → CallOk2 (R := R) U (callP capB m) (runF tbl m)) → ∀ {av : Fr} {cs : List Fr} {k : Ret2 RW → Option R}, ca_seq_Add capB n av cs k = some r → ∃ q : Ret2 RW, runF tbl n 36 (TV.los U av) (cs.map (TV.los U)) = some (q.lo U) ∧ k q = some r := by
  intro n ih av cs k h
  unfold ca_seq_Add at h
  split at h
  · simp only [Option.bind_eq_some_iff] at h
    obtain ⟨p0, h0, p1, h1, h⟩ := h
    obtain rfl := dI_ok h0
    obtain rfl := dI_ok h1
    cases n with
    | zero => cases h
    | succ n =>
      exact run2_ok UOk (ih n rfl) (f := fn_seq_Add) rfl ((run_seq_Add capB n p0 p1 k).symm.trans h)
  · cases h
theorem ok_recv_tell {R : Type} {r : R} : ∀ {n : Nat}, (∀ m, n = m + 1 → CallOk2 (R := R) U (callP capB m) (runF tbl m)) → ∀ {av : Fr} {cs : List Fr} {k : Ret2 RW → Option R}, ca_recv_tell capB n av cs k = some r → ∃ q : Ret2 RW, runF tbl n 32 (TV.los U av) (cs.map (TV.los U)) = some (q.lo U) ∧ k q = some r := by
  intro n ih av cs k h
  unfold ca_recv_tell at h
  split at h
  · simp only [Option.bind_eq_some_iff] at h
    obtain ⟨c0_, h0, p0, g0, p1, h1, h⟩ := h
    obtain rfl := dA_ok h0
    obtain rfl := dRecv_ok g0
    obtain rfl := dRBlock_ok h1
    cases n with
    | zero => cases h
    | succ n =>
      exact run2_ok UOk (ih n rfl) (f := fn_recv_tell) rfl ((run_recv_tell capB n p0 p1 k).symm.trans h)
  · cases h
theorem ok_recv_end {R : Type} {r : R} : ∀ {n : Nat}, (∀ m, n = m + 1 → CallOk2 (R := R) U (callP capB m) (runF tbl m)) → ∀ {av : Fr} {cs : List Fr} {k : Ret2 RW → Option R}, ca_recv_end capB n av cs k = some r → ∃ q : Ret2 RW, runF tbl n 33 (TV.los U av) (cs.map (TV.los U)) = some (q.lo U) ∧ k q = some r := by
  intro n ih av cs k h
  unfold ca_recv_end at h
  split at h
  · simp only [Option.bind_eq_some_iff] at h
    obtain ⟨c0_, h0, p0, g0, p1, h1, h⟩ := h
    obtain rfl := dA_ok h0
    obtain rfl := dRecv_ok g0
    obtain rfl := dI_ok h1
    cases n with
    | zero => cases h
    | succ n =>
      exact run2_ok UOk (ih n rfl) (f := fn_recv_end) rfl ((run_recv_end capB n p0 p1 k).symm.trans h)
  · cases h
theorem ok_span_may {R : Type} {r : R} : ∀ {n : Nat}, (∀ m, n = m + 1 → CallOk2 (R := R) U (callP capB m) (runF tbl m)) → ∀ {av : Fr} {cs : List Fr} {k : Ret2 RW → Option R}, ca_span_may capB n av cs k = some r → ∃ q : Ret2 RW, runF tbl n 82 (TV.los U av) (cs.map (TV.los U)) = some (q.lo U) ∧ k q = some r := by
  intro n ih av cs k h
  unfold ca_span_may at h
  split at h
  · simp only [Option.bind_eq_some_iff] at h
    obtain ⟨c0_, h0, p0, g0, h⟩ := h
    obtain rfl := dA_ok h0
    obtain rfl := dSpan_ok g0
    cases n with
    | zero => cases h
    | succ n =>
      exact run2_ok UOk (ih n rfl) (f := fn_span_may) rfl ((run_span_may capB n p0 k).symm.trans h)
  · cases h
theorem ok_span_Check {R : Type} {r : R} : ∀ {n : Nat}, (∀ m, n = m + 1 → CallOk2 (R := R) U (callP capB m) (runF tbl m)) → ∀ {av : Fr} {cs : List Fr} {k : Ret2 RW → Option R}, ca_span_Check capB n av cs k = some r → ∃ q : Ret2 RW, runF tbl n 78 (TV.los U av) (cs.map (TV.los U)) = some (q.lo U) ∧ k q = some r := by
  intro n ih av cs k h
  unfold ca_span_Check at h
  split at h
  · simp only [Option.bind_eq_some_iff] at h
    obtain ⟨p0, h0, h⟩ := h
    obtain rfl := dRSpan_ok h0
    cases n with
    | zero => cases h
    | succ n =>
      exact run2_ok UOk (ih n rfl) (f := fn_span_Check) rfl ((run_span_Check capB n p0 k).symm.trans h)
  · cases h
theorem ok_span_within {R : Type} {r : R} : ∀ {n : Nat}, (∀ m, n = m + 1 → CallOk2 (R := R) U (callP capB m) (runF tbl m)) → ∀ {av : Fr} {cs : List Fr} {k : Ret2 RW → Option R}, ca_span_within capB n av cs k = some r → ∃ q : Ret2 RW, runF tbl n 79 (TV.los U av) (cs.map (TV.los U)) = some (q.lo U) ∧ k q = some r := by
  intro n ih av cs k h
  unfold ca_span_within at h
  split at h
  · simp only [Option.bind_eq_some_iff] at h
    obtain ⟨p0, h0, c1_, h1, p1, g1, h⟩ := h
    obtain rfl := dRSpan_ok h0
    obtain rfl := dA_ok h1
    obtain rfl := dSpan_ok g1
    cases n with
    | zero => cases h
    | succ n =>
      exact run2_ok UOk (ih n rfl) (f := fn_span_within) rfl ((run_span_within capB n p0 p1 k).symm.trans h)
  · cases h
theorem ok_span_Gaps {R : Type} {r : R} : ∀ {n : Nat}, (∀ m, n = m + 1 → CallOk2 (R := R) U (callP capB m) (runF tbl m)) → ∀ {av : Fr} {cs : List Fr} {k : Ret2 RW → Option R}, ca_span_Gaps capB n av cs k = some r → ∃ q : Ret2 RW, runF tbl n 61 (TV.los U av) (cs.map (TV.los U)) = some (q.lo U) ∧ k q = some r := by
  intro n ih av cs k h
  unfold ca_span_Gaps at h
  split at h
  · simp only [Option.bind_eq_some_iff] at h
    obtain ⟨p0, h0, c1_, h1, p1, g1, h⟩ := h
    obtain rfl := dRSpan_ok h0
    obtain rfl := dA_ok h1
    obtain rfl := dSpan_ok g1
    cases n with
    | zero => cases h
    | succ n =>
      exact run2_ok UOk (ih n rfl) (f := fn_span_Gaps) rfl ((run_span_Gaps capB n p0 p1 k).symm.trans h)
  · cases h
theorem ok_recv_put_1 {R : Type} {r : R} : ∀ {n : Nat}, (∀ m, n = m + 1 → CallOk2 (R := R) U (callP capB m) (runF tbl m)) → ∀ {av : Fr} {cs : List Fr} {k : Ret2 RW → Option R}, ca_recv_put_1 capB n av cs k = some r → ∃ q : Ret2 RW, runF tbl n 74 (TV.los U av) (cs.map (TV.los U)) = some (q.lo U) ∧ k q = some r := by
  intro n ih av cs k h
  unfold ca_recv_put_1 at h
  split at h
  · simp only [Option.bind_eq_some_iff] at h
    obtain ⟨c0_, h0, p0, g0, p1, h1, h⟩ := h
    obtain rfl := dA_ok h0
    obtain rfl := dPiece_ok g0
    obtain rfl := dI_ok h1
    cases n with
    | zero => cases h
    | succ n =>
      exact run2_ok UOk (ih n rfl) (f := fn_recv_put_1) rfl ((run_recv_put_1 capB n p0 p1 k).symm.trans h)
  · cases h
theorem ok_slices_BinarySearchFunc_Piece {R : Type} {r : R} : ∀ {n : Nat}, (∀ m, n = m + 1 → CallOk2 (R := R) U (callP capB m) (runF tbl m)) → ∀ {av : Fr} {cs : List Fr} {k : Ret2 RW → Option R}, ca_slices_BinarySearchFunc_Piece capB n av cs k = some r → ∃ q : Ret2 RW, runF tbl n 1035 (TV.los U av) (cs.map (TV.los U)) = some (q.lo U) ∧ k q = some r := by
  intro n ih av cs k h
  unfold ca_slices_BinarySearchFunc_Piece at h
  split at h
  · simp only [Option.bind_eq_some_iff] at h
    obtain ⟨p0, h0, p1, h1, u2, h2, h⟩ := h
    obtain rfl := dRPiece_ok h0
    obtain rfl := dI_ok h1
    obtain rfl := dC_ok h2
    cases n with
    | zero => cases h
    | succ n =>
      exact run2_ok UOk (ih n rfl) (f := fn_slices_BinarySearchFunc_Piece) rfl ((run_slices_BinarySearchFunc_Piece capB n p0 p1 k).symm.trans h)
  · cases h
theorem ok_slices_Clone_Piece {R : Type} {r : R} : ∀ {n : Nat}, (∀ m, n = m + 1 → CallOk2 (R := R) U (callP capB m) (runF tbl m)) → ∀ {av : Fr} {cs : List Fr} {k : Ret2 RW → Option R}, ca_slices_Clone_Piece capB n av cs k = some r → ∃ q : Ret2 RW, runF tbl n 1037 (TV.los U av) (cs.map (TV.los U)) = some (q.lo U) ∧ k q = some r := by
  intro n ih av cs k h
  unfold ca_slices_Clone_Piece at h
  split at h
  · simp only [Option.bind_eq_some_iff] at h
    obtain ⟨p0, h0, h⟩ := h
    obtain rfl := dRPiece_ok h0
    cases n with
    | zero => cases h
    | succ n =>
      obtain ⟨h1, h2⟩ := cond_some h
      exact ⟨⟨.un none (.rPiece p0), [], []⟩, clone_slices_Clone_Piece n p0 h1, h2⟩
  · cases h
theorem ok_slices_Insert_Piece {R : Type} {r : R} : ∀ {n : Nat}, (∀ m, n = m + 1 → CallOk2 (R := R) U (callP capB m) (runF tbl m)) → ∀ {av : Fr} {cs : List Fr} {k : Ret2 RW → Option R}, ca_slices_Insert_Piece capB n av cs k = some r → ∃ q : Ret2 RW, runF tbl n 75 (TV.los U av) (cs.map (TV.los U)) = some (q.lo U) ∧ k q = some r := by
  intro n ih av cs k h
  unfold ca_slices_Insert_Piece at h
  split at h
  · simp only [Option.bind_eq_some_iff] at h
    obtain ⟨p0, h0, p1, h1, p2, h2, h⟩ := h
    obtain rfl := dUPiece_ok h0
    obtain rfl := dI_ok h1
    obtain ⟨a2, rfl⟩ := dXPiece_ok h2
    cases n with
    | zero => cases h
    | succ n =>
      obtain ⟨h1, h2⟩ := cond_some h
      obtain ⟨h3, h4⟩ := cond_some h2
      obtain ⟨h5, h6⟩ := cond_some h4
      exact ⟨⟨.un none (.rPiece (insL p0 (Int.toNat p1) p2)), [], []⟩, clone_slices_Insert_Piece n a2 p0 p1 p2 h1 h3 h5, h6⟩
  · cases h
theorem ok_slices_Clip_byte {R : Type} {r : R} : ∀ {n : Nat}, (∀ m, n = m + 1 → CallOk2 (R := R) U (callP capB m) (runF tbl m)) → ∀ {av : Fr} {cs : List Fr} {k : Ret2 RW → Option R}, ca_slices_Clip_byte capB n av cs k = some r → ∃ q : Ret2 RW, runF tbl n 77 (TV.los U av) (cs.map (TV.los U)) = some (q.lo U) ∧ k q = some r := by
  intro n ih av cs k h
  unfold ca_slices_Clip_byte at h
  split at h
  · simp only [Option.bind_eq_some_iff] at h
    obtain ⟨p0, h0, h⟩ := h
    obtain rfl := dRuint8_ok h0
    cases n with
    | zero => cases h
    | succ n =>
      exact run2_ok UOk (ih n rfl) (f := fn_slices_Clip_byte) rfl ((run_slices_Clip_byte capB n p0 k).symm.trans h)
  · cases h
theorem ok_recv_put {R : Type} {r : R} : ∀ {n : Nat}, (∀ m, n = m + 1 → CallOk2 (R := R) U (callP capB m) (runF tbl m)) → ∀ {av : Fr} {cs : List Fr} {k : Ret2 RW → Option R}, ca_recv_put capB n av cs k = some r → ∃ q : Ret2 RW, runF tbl n 60 (TV.los U av) (cs.map (TV.los U)) = some (q.lo U) ∧ k q = some r := by
  intro n ih av cs k h
  unfold ca_recv_put at h
  split at h
  · simp only [Option.bind_eq_some_iff] at h
    obtain ⟨p0, h0, c1_, h1, p1, g1, h⟩ := h
    obtain rfl := dRPiece_ok h0
    obtain rfl := dA_ok h1
    obtain rfl := dPiece_ok g1
    cases n with
    | zero => cases h
    | succ n =>
      exact run2_ok UOk (ih n rfl) (f := fn_recv_put) rfl ((run_recv_put capB n p0 p1 k).symm.trans h)
  · cases h
theorem ok_recv_take_1 {R : Type} {r : R} : ∀ {n : Nat}, (∀ m, n = m + 1 → CallOk2 (R := R) U (callP capB m) (runF tbl m)) → ∀ {av : Fr} {cs : List Fr} {k : Ret2 RW → Option R}, ca_recv_take_1 capB n av cs k = some r → ∃ q : Ret2 RW, runF tbl n 1033 (TV.los U av) (cs.map (TV.los U)) = some (q.lo U) ∧ k q = some r := by
  intro n ih av cs k h
  unfold ca_recv_take_1 at h
  split at h
  · simp only [Option.bind_eq_some_iff] at h
    obtain ⟨c0_, h0, p0, g0, u1, h1, u2, h2, u3, h3, u4, h4, q0, i0, u_1, j1, q1, i1, u_2, j2, q2, i2, u_3, j3, q3, i3, h⟩ := h
    obtain rfl := dA_ok h0
    obtain rfl := dSpan_ok g0
    obtain rfl := dP_ok h1
    obtain rfl := dP_ok h2
    obtain rfl := dP_ok h3
    obtain rfl := dP_ok h4
    obtain rfl := dRecvt_ok i0
    obtain rfl := dOne_ok j1
    obtain rfl := dI_ok i1
    obtain rfl := dOne_ok j2
    obtain rfl := dRuint8_ok i2
    obtain rfl := dOne_ok j3
    obtain rfl := dB_ok i3
    cases n with
    | zero => cases h
    | succ n =>
      exact run2_ok UOk (ih n rfl) (f := fn_recv_take_1) rfl ((run_recv_take_1 capB n p0 q0 q1 q2 q3 k).symm.trans h)
  · cases h
theorem ok_recv_take {R : Type} {r : R} : ∀ {n : Nat}, (∀ m, n = m + 1 → CallOk2 (R := R) U (callP capB m) (runF tbl m)) → ∀ {av : Fr} {cs : List Fr} {k : Ret2 RW → Option R}, ca_recv_take capB n av cs k = some r → ∃ q : Ret2 RW, runF tbl n 34 (TV.los U av) (cs.map (TV.los U)) = some (q.lo U) ∧ k q = some r := by
  intro n ih av cs k h
  unfold ca_recv_take at h
  split at h
  · simp only [Option.bind_eq_some_iff] at h
    obtain ⟨c0_, h0, p0, g0, p1, h1, p2, h2, h⟩ := h
    obtain rfl := dA_ok h0
    obtain rfl := dRecvt_ok g0
    obtain rfl := dI_ok h1
    obtain rfl := dRuint8_ok h2
    cases n with
    | zero => cases h
    | succ n =>
      exact run2_ok UOk (ih n rfl) (f := fn_recv_take) rfl ((run_recv_take capB n p0 p1 p2 k).symm.trans h)
  · cases h
theorem ok_recv_firsts_1 {R : Type} {r : R} : ∀ {n : Nat}, (∀ m, n = m + 1 → CallOk2 (R := R) U (callP capB m) (runF tbl m)) → ∀ {av : Fr} {cs : List Fr} {k : Ret2 RW → Option R}, ca_recv_firsts_1 capB n av cs k = some r → ∃ q : Ret2 RW, runF tbl n 1042 (TV.los U av) (cs.map (TV.los U)) = some (q.lo U) ∧ k q = some r := by
  intro n ih av cs k h
  unfold ca_recv_firsts_1 at h
  split at h
  · simp only [Option.bind_eq_some_iff] at h
    obtain ⟨c0_, h0, p0, g0, u1, h1, q0, i0, h⟩ := h
    obtain rfl := dA_ok h0
    obtain rfl := dSpan_ok g0
    obtain rfl := dP_ok h1
    obtain rfl := dSpan_ok i0
    cases n with
    | zero => cases h
    | succ n =>
      exact run2_ok UOk (ih n rfl) (f := fn_recv_firsts_1) rfl ((run_recv_firsts_1 capB n p0 q0 k).symm.trans h)
  · cases h
theorem ok_slices_IndexFunc_Span {R : Type} {r : R} : ∀ {n : Nat}, (∀ m, n = m + 1 → CallOk2 (R := R) U (callP capB m) (runF tbl m)) → ∀ {av : Fr} {cs : List Fr} {k : Ret2 RW → Option R}, ca_slices_IndexFunc_Span capB n av cs k = some r → ∃ q : Ret2 RW, runF tbl n 1041 (TV.los U av) (cs.map (TV.los U)) = some (q.lo U) ∧ k q = some r := by
  intro n ih av cs k h
  unfold ca_slices_IndexFunc_Span at h
  split at h
  · simp only [Option.bind_eq_some_iff] at h
    obtain ⟨p0, h0, u1, h1, q0, i0, h⟩ := h
    obtain rfl := dRSpan_ok h0
    obtain rfl := dC_ok h1
    obtain rfl := dSpan_ok i0
    cases n with
    | zero => cases h
    | succ n =>
      exact run2_ok UOk (ih n rfl) (f := fn_slices_IndexFunc_Span) rfl ((run_slices_IndexFunc_Span capB n p0 q0 k).symm.trans h)
  · cases h
theorem ok_recv_firsts {R : Type} {r : R} : ∀ {n : Nat}, (∀ m, n = m + 1 → CallOk2 (R := R) U (callP capB m) (runF tbl m)) → ∀ {av : Fr} {cs : List Fr} {k : Ret2 RW → Option R}, ca_recv_firsts capB n av cs k = some r → ∃ q : Ret2 RW, runF tbl n 35 (TV.los U av) (cs.map (TV.los U)) = some (q.lo U) ∧ k q = some r := by
  intro n ih av cs k h
  unfold ca_recv_firsts at h
  split at h
  · simp only [Option.bind_eq_some_iff] at h
    obtain ⟨c0_, h0, p0, g0, p1, h1, p2, h2, h⟩ := h
    obtain rfl := dA_ok h0
    obtain rfl := dRecv_ok g0
    obtain rfl := dI_ok h1
    obtain rfl := dRuint8_ok h2
    cases n with
    | zero => cases h
    | succ n =>
      exact run2_ok UOk (ih n rfl) (f := fn_recv_firsts) rfl ((run_recv_firsts capB n p0 p1 p2 k).symm.trans h)
  · cases h
theorem ok_recv_Input {R : Type} {r : R} : ∀ {n : Nat}, (∀ m, n = m + 1 → CallOk2 (R := R) U (callP capB m) (runF tbl m)) → ∀ {av : Fr} {cs : List Fr} {k : Ret2 RW → Option R}, ca_recv_Input capB n av cs k = some r → ∃ q : Ret2 RW, runF tbl n 12 (TV.los U av) (cs.map (TV.los U)) = some (q.lo U) ∧ k q = some r := by
  intro n ih av cs k h
  unfold ca_recv_Input at h
  split at h
  · simp only [Option.bind_eq_some_iff] at h
    obtain ⟨c0_, h0, p0, g0, c1_, h1, p1, g1, h⟩ := h
    obtain rfl := dA_ok h0
    obtain rfl := dRecv_ok g0
    obtain rfl := dA_ok h1
    obtain rfl := dSegment_ok g1
    cases n with
    | zero => cases h
    | succ n =>
      exact run2_ok UOk (ih n rfl) (f := fn_recv_Input) rfl ((run_recv_Input capB n p0 p1 k).symm.trans h)
  · cases h
theorem ok_seq_Clamp {R : Type} {r : R} : ∀ {n : Nat}, (∀ m, n = m + 1 → CallOk2 (R := R) U (callP capB m) (runF tbl m)) → ∀ {av : Fr} {cs : List Fr} {k : Ret2 RW → Option R}, ca_seq_Clamp capB n av cs k = some r → ∃ q : Ret2 RW, runF tbl n 51 (TV.los U av) (cs.map (TV.los U)) = some (q.lo U) ∧ k q = some r := by
  intro n ih av cs k h
  unfold ca_seq_Clamp at h
  split at h
  · simp only [Option.bind_eq_some_iff] at h
    obtain ⟨p0, h0, p1, h1, p2, h2, h⟩ := h
    obtain rfl := dI_ok h0
    obtain rfl := dI_ok h1
    obtain rfl := dI_ok h2
    cases n with
    | zero => cases h
    | succ n =>
      exact run2_ok UOk (ih n rfl) (f := fn_seq_Clamp) rfl ((run_seq_Clamp capB n p0 p1 p2 k).symm.trans h)
  · cases h
theorem ok_recv_Read {R : Type} {r : R} : ∀ {n : Nat}, (∀ m, n = m + 1 → CallOk2 (R := R) U (callP capB m) (runF tbl m)) → ∀ {av : Fr} {cs : List Fr} {k : Ret2 RW → Option R}, ca_recv_Read capB n av cs k = some r → ∃ q : Ret2 RW, runF tbl n 20 (TV.los U av) (cs.map (TV.los U)) = some (q.lo U) ∧ k q = some r := by
  intro n ih av cs k h
  unfold ca_recv_Read at h
  split at h
  · simp only [Option.bind_eq_some_iff] at h
    obtain ⟨c0_, h0, p0, g0, p1, h1, h⟩ := h
    obtain rfl := dA_ok h0
    obtain rfl := dRecv_ok g0
    obtain rfl := dI_ok h1
    cases n with
    | zero => cases h
    | succ n =>
      exact run2_ok UOk (ih n rfl) (f := fn_recv_Read) rfl ((run_recv_Read capB n p0 p1 k).symm.trans h)
  · cases h
theorem ok_recv_Window {R : Type} {r : R} : ∀ {n : Nat}, (∀ m, n = m + 1 → CallOk2 (R := R) U (callP capB m) (runF tbl m)) → ∀ {av : Fr} {cs : List Fr} {k : Ret2 RW → Option R}, ca_recv_Window capB n av cs k = some r → ∃ q : Ret2 RW, runF tbl n 22 (TV.los U av) (cs.map (TV.los U)) = some (q.lo U) ∧ k q = some r := by
  intro n ih av cs k h
  unfold ca_recv_Window at h
  split at h
  · simp only [Option.bind_eq_some_iff] at h
    obtain ⟨c0_, h0, p0, g0, h⟩ := h
    obtain rfl := dA_ok h0
    obtain rfl := dRecv_ok g0
    cases n with
    | zero => cases h
    | succ n =>
      exact run2_ok UOk (ih n rfl) (f := fn_recv_Window) rfl ((run_recv_Window capB n p0 k).symm.trans h)
  · cases h
theorem ok_law08_heads {R : Type} {r : R} : ∀ {n : Nat}, (∀ m, n = m + 1 → CallOk2 (R := R) U (callP capB m) (runF tbl m)) → ∀ {av : Fr} {cs : List Fr} {k : Ret2 RW → Option R}, ca_law08_heads capB n av cs k = some r → ∃ q : Ret2 RW, runF tbl n 11 (TV.los U av) (cs.map (TV.los U)) = some (q.lo U) ∧ k q = some r := by
  intro n ih av cs k h
  unfold ca_law08_heads at h
  split at h
  · cases n with
    | zero => cases h
    | succ n =>
      exact run2_ok UOk (ih n rfl) (f := fn_law08_heads) rfl ((run_law08_heads capB n  k).symm.trans h)
  · cases h
theorem ok_law08_RecvBegins {R : Type} {r : R} : ∀ {n : Nat}, (∀ m, n = m + 1 → CallOk2 (R := R) U (callP capB m) (runF tbl m)) → ∀ {av : Fr} {cs : List Fr} {k : Ret2 RW → Option R}, ca_law08_RecvBegins capB n av cs k = some r → ∃ q : Ret2 RW, runF tbl n 5 (TV.los U av) (cs.map (TV.los U)) = some (q.lo U) ∧ k q = some r := by
  intro n ih av cs k h
  unfold ca_law08_RecvBegins at h
  split at h
  · simp only [Option.bind_eq_some_iff] at h
    obtain ⟨p0, h0, p1, h1, p2, h2, p3, h3, h⟩ := h
    obtain rfl := dI_ok h0
    obtain rfl := dI_ok h1
    obtain rfl := dI_ok h2
    obtain rfl := dB_ok h3
    cases n with
    | zero => cases h
    | succ n =>
      exact run2_ok UOk (ih n rfl) (f := fn_law08_RecvBegins) rfl ((run_law08_RecvBegins capB n p0 p1 p2 p3 k).symm.trans h)
  · cases h
theorem callOk {R : Type} : ∀ n, CallOk2 (R := R) U (callP capB n) (runF tbl n)
  | n => fun id av cells k r h => by
    have ih : ∀ m, n = m + 1 → CallOk2 (R := R) U (callP capB m) (runF tbl m) := fun m e => callOk m
    unfold callP at h
    split at h
    · exact ok_recv_window ih h
    · exact ok_recv_New ih h
    · exact ok_ref08_window ih h
    · exact ok_ref08_New ih h
    · exact ok_ref02_Same ih h
    · exact ok_ref08_Same ih h
    · exact ok_recv_reach ih h
    · exact ok_recv_limit ih h
    · exact ok_recv_late ih h
    · exact ok_recv_of ih h
    · exact ok_slices_AppendSeq_Span ih h
    · exact ok_slices_Collect ih h
    · exact ok_slices_Index_Span ih h
    · exact ok_slices_Contains_Span ih h
    · exact ok_recv_pieces ih h
    · exact ok_recv_Check ih h
    · exact ok_slices_Clone_Span ih h
    · exact ok_bytes_Clone ih h
    · exact ok_recv_copied ih h
    · exact ok_seq_Diff ih h
    · exact ok_seq_Sum ih h
    · exact ok_seq_Unwrap ih h
    · exact ok_seq_Add ih h
    · exact ok_recv_tell ih h
    · exact ok_recv_end ih h
    · exact ok_span_may ih h
    · exact ok_span_Check ih h
    · exact ok_span_within ih h
    · exact ok_span_Gaps ih h
    · exact ok_recv_put_1 ih h
    · exact ok_slices_BinarySearchFunc_Piece ih h
    · exact ok_slices_Clone_Piece ih h
    · exact ok_slices_Insert_Piece ih h
    · exact ok_slices_Clip_byte ih h
    · exact ok_recv_put ih h
    · exact ok_recv_take_1 ih h
    · exact ok_recv_take ih h
    · exact ok_recv_firsts_1 ih h
    · exact ok_slices_IndexFunc_Span ih h
    · exact ok_recv_firsts ih h
    · exact ok_recv_Input ih h
    · exact ok_seq_Clamp ih h
    · exact ok_recv_Read ih h
    · exact ok_recv_Window ih h
    · exact ok_law08_heads ih h
    · exact ok_law08_RecvBegins ih h
    · cases h
termination_by n => n
decreasing_by omega
end
end Go.Proofs.Ytilmdmjhdidoiaa.M
