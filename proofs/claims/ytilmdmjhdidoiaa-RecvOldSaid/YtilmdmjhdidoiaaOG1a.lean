/- The machine's code of the functions, and that it computes them. -/
import Derived.Test.YtilmdmjhdidoiaaOG0
import Derived.Test.YtilmdmjhdidoiaaProg
import Derived.KernelRfl
set_option maxRecDepth 100000
set_option linter.unusedVariables false
set_option linter.unusedSimpArgs false
namespace Go.Proofs.Ytilmdmjhdidoiaa.M
open Go
noncomputable section
def X {R : Type} (cp : Nat → Nat → Bool) (n : Nat) (c : IC2 RW) (l : FF) (k : Ex → FF → Option R) : Option R := exec2 U cp (callP cp n) n c l k
theorem X_run {R : Type} {cp : Nat → Nat → Bool} {n : Nat} {f : IFn2 RW} {av : Fr} {cells : List Fr} {code : IC2 RW} {fr : FF} {k : Ret2 RW → Option R} (hb : f.body = code) (h : ∀ K : FF → Option R, start2 f av cells K = K fr) : run2 U cp (callP cp n) n f av cells k = X cp n code fr (finK2 f k) := by
  subst hb
  exact h _
def XI {R : Type} (cp : Nat → Nat → Bool) (n : Nat) (Y : List (TV RW) → FF → (FF → Option R) → Option R) (c : IC2 RW) (l : FF) (k : Ex → FF → Option R) : Option R := execI2 U cp (callP cp n) n Y c l k
def o0 (op : IOp2 RW) : IStep2 RW := ⟨none, op, none, false⟩
def o1 (d : Nat) (op : IOp2 RW) : IStep2 RW := ⟨some d, op, none, false⟩
def o2 (d : Nat) (op : IOp2 RW) : IStep2 RW := ⟨some d, op, none, true⟩
def o3 (d g : Nat) (b : Bool) (op : IOp2 RW) : IStep2 RW := ⟨some d, op, some (g, b), false⟩
def g_recv_reach_0 : List (IStep2 RW) := [o1 1 (.box 12 15 false (.s 0)),
  o1 2 (.mv false (.k (.sc (.int .i64 0))))]
def g_recv_reach_1 : List (IStep2 RW) := [o1 3 (.fld 0 (.s 1)),
  o1 4 (.load 12 0 1 false false 3),
  o1 5 (.fld 1 (.s 1)),
  o1 6 (.load 12 1 1 false false 5),
  o1 7 (.len false (.s 6)),
  o1 8 (.bin .sub (.s 4) (.s 7)),
  o1 9 (.fld 3 (.s 1)),
  o1 10 (.load 12 3 1 false false 9),
  o1 11 (.bin .add (.s 8) (.s 10)),
  o1 2 (.mv false (.s 11))]
def i_recv_reach_0 : IC2 RW := .seq (.fin (.reg g_recv_reach_0) [0, 2] []) (.seq (.fin (.reg g_recv_reach_1) [1, 3, 4, 5, 6, 7, 8, 9, 10, 11] [(12, 15)]) (.ret))
def fn_recv_reach : IFn2 RW := ⟨27, 1, 12, 32, [(12, 15)], [], [], [.slot 2], i_recv_reach_0⟩
def g_recv_limit_0 : List (IStep2 RW) := [o1 1 (.box 6 15 false (.s 0)),
  o1 2 (.mv false (.k (.sc (.int .i64 0))))]
def g_recv_limit_1 : List (IStep2 RW) := [o1 3 (.load 6 0 15 true false 1),
  o1 4 (.call 27 [(false, .s 3)] [] []),
  o1 5 (.mnmx false [.s 4, .k (.sc (.int .i64 562949953421312))]),
  o1 2 (.mv false (.s 5))]
def i_recv_limit_0 : IC2 RW := .seq (.fin (.reg g_recv_limit_0) [0, 2] []) (.seq (.fin (.reg g_recv_limit_1) [1, 3, 4, 5] [(6, 15)]) (.ret))
def fn_recv_limit : IFn2 RW := ⟨53, 1, 6, 32, [(6, 15)], [], [], [.slot 2], i_recv_limit_0⟩
def g_recv_late_0 : List (IStep2 RW) := [o1 1 (.box 4 15 false (.s 0)),
  o1 2 (.mv false (.k (.sc .nilFunc)))]
def g_recv_late_1 : List (IStep2 RW) := [o1 3 (.mkclo 70 [.s 1]),
  o1 2 (.mv false (.s 3))]
def i_recv_late_0 : IC2 RW := .seq (.fin (.reg g_recv_late_0) [0, 2] []) (.seq (.fin (.reg g_recv_late_1) [1, 3] []) (.ret))
def fn_recv_late : IFn2 RW := ⟨55, 1, 4, 32, [(4, 15)], [], [(4, 15)], [.slot 2], i_recv_late_0⟩
def g_recv_of_0 : List (IStep2 RW) := [o1 1 (.box 12 2 false (.s 0)),
  o1 2 (.alloc 15 [.sc (.int .i64 0), .sc (.int .i64 0)])]
def g_recv_of_1 : List (IStep2 RW) := [o1 3 (.fld 0 (.s 1)),
  o1 4 (.load 12 0 1 false false 3),
  o1 5 (.fld 0 (.s 1)),
  o1 6 (.load 12 0 1 false false 5),
  o1 7 (.fld 1 (.s 1)),
  o1 8 (.load 12 1 1 false false 7),
  o1 9 (.len false (.s 8)),
  o1 10 (.bin .add (.s 6) (.s 9)),
  o1 11 (.build [.sc (.int .i64 0), .sc (.int .i64 0)] [(0, 1, .s 4), (1, 1, .s 10)]),
  o0 (.store 15 0 2 false 2 (.s 11))]
def i_recv_of_0 : IC2 RW := .seq (.fin (.reg g_recv_of_0) [0] []) (.seq (.fin (.reg g_recv_of_1) [1, 3, 4, 5, 6, 7, 8, 9, 10, 11] [(12, 2)]) (.ret))
def fn_recv_of : IFn2 RW := ⟨71, 1, 12, 32, [(12, 2), (15, 2)], [], [], [.cell 2 15 2 true], i_recv_of_0⟩
def g_slices_AppendSeq_Span_2 : List (IStep2 RW) := [o1 5 (.alloc 50 [.sc (.int .i64 0), .sc (.int .i64 0)]),
  o0 (.store 50 0 2 false 5 (.s 7))]
def i_slices_AppendSeq_Span_0 : IC2 RW := .fin (.reg g_slices_AppendSeq_Span_2) [7] []
def g_slices_AppendSeq_Span_3 : List (IStep2 RW) := [o1 8 (.load 48 0 1 false true 2),
  o1 9 (.load 50 0 2 true false 5),
  o1 10 (.bslice 78 1 [(0, 2, .s 9)]),
  o1 11 (.app 2 16 true (.s 8) (.s 10)),
  o0 (.store 48 0 1 true 2 (.s 11))]
def i_slices_AppendSeq_Span_1 : IC2 RW := .blk 1 (.fin (.reg g_slices_AppendSeq_Span_3) [5, 8, 9, 10, 11] [(50, 2)])
def i_slices_AppendSeq_Span_2 : IC2 RW := .seq i_slices_AppendSeq_Span_0 i_slices_AppendSeq_Span_1
def g_slices_AppendSeq_Span_1000 : List (IStep2 RW) := [o1 5 (.fld 2 (.s 1)),
  o1 6 (.load 32 2 1 false false 5),
  o1 7 (.len false (.s 6)),
  o1 8 (.mv false (.k (.sc (.int .i64 0))))]
def g_slices_AppendSeq_Span_1001 : List (IStep2 RW) := [o1 9 (.bin .lss (.s 8) (.s 7))]
def g_slices_AppendSeq_Span_1002 : List (IStep2 RW) := [o1 10 (.idx 2 (.s 6) (.s 8)),
  o1 11 (.loade 2 true 10),
  o1 4 (.alloc 53 [.sc (.int .i64 0), .row false (.ruint8 [])]),
  o0 (.store 53 0 2 false 4 (.s 11))]
def g_slices_AppendSeq_Span_10031 : List (IStep2 RW) := [o1 12 (.mv false (.s 0)),
  o1 13 (.load 53 0 2 true false 4),
  o1 14 (.call 71 [(false, .s 13)] [] [])]
def g_slices_AppendSeq_Span_10032 : List (IStep2 RW) := [o1 16 (.un .not (.s 15))]
def g_slices_AppendSeq_Span_1004 : List (IStep2 RW) := [o1 17 (.bin .add (.s 8) (.k (.sc (.int .i64 1)))),
  o1 8 (.mv false (.s 17))]
def i_slices_AppendSeq_Span_3 : IC2 RW := .seq (.fin (.reg g_slices_AppendSeq_Span_1000) [1, 5] []) (.blk 0 (.loop (.seq (.reg g_slices_AppendSeq_Span_1001) (.seq (.fin (.cond (.s 9) (.skip) (.clr [0, 6, 7, 8, 9] [] (.exit 0))) [9] []) (.seq (.blk 1 (.seq (.fin (.reg g_slices_AppendSeq_Span_1002) [10, 11] []) (.seq (.fin (.yreg g_slices_AppendSeq_Span_10031 (.s 12) [.s 14] none 15 g_slices_AppendSeq_Span_10032) [4, 12, 13, 14, 15] [(53, 2)]) (.fin (.cond (.s 16) (.clr [0, 6, 7, 8, 16] [] (.ret)) (.skip)) [16] [])))) (.fin (.reg g_slices_AppendSeq_Span_1004) [17] []))))))
def i_slices_AppendSeq_Span_4 : IC2 RW := .fin (.yreg g_slices_AppendSeq_Span_10031 (.s 12) [.s 14] none 15 g_slices_AppendSeq_Span_10032) [4, 12, 13, 14, 15] [(53, 2)]
def i_slices_AppendSeq_Span_5 : IC2 RW := .fin (.cond (.s 16) (.clr [0, 6, 7, 8, 16] [] (.ret)) (.skip)) [16] []
def i_slices_AppendSeq_Span_6 : IC2 RW := .seq i_slices_AppendSeq_Span_4 i_slices_AppendSeq_Span_5
def i_slices_AppendSeq_Span_7 : IC2 RW := .seq (.fin (.reg g_slices_AppendSeq_Span_1002) [10, 11] []) i_slices_AppendSeq_Span_6
def i_slices_AppendSeq_Span_8 : IC2 RW := .blk 1 i_slices_AppendSeq_Span_7
def i_slices_AppendSeq_Span_9 : IC2 RW := .fin (.reg g_slices_AppendSeq_Span_1004) [17] []
def i_slices_AppendSeq_Span_10 : IC2 RW := .seq i_slices_AppendSeq_Span_8 i_slices_AppendSeq_Span_9
def i_slices_AppendSeq_Span_11 : IC2 RW := .seq (.reg g_slices_AppendSeq_Span_1001) (.seq (.fin (.cond (.s 9) (.skip) (.clr [0, 6, 7, 8, 9] [] (.exit 0))) [9] []) i_slices_AppendSeq_Span_10)
def i_slices_AppendSeq_Span_12 : IC2 RW := .loop i_slices_AppendSeq_Span_11
def i_slices_AppendSeq_Span_13 : IC2 RW := .blk 0 i_slices_AppendSeq_Span_12
def i_slices_AppendSeq_Span_14 : IC2 RW := .fin (.rfn (.s 6) 70 2 18 [7] i_slices_AppendSeq_Span_3 i_slices_AppendSeq_Span_0 i_slices_AppendSeq_Span_1 [32, 48] [32, 48, 53]) [6] []
def i_slices_AppendSeq_Span_15 : IC2 RW := .blk 0 i_slices_AppendSeq_Span_14
def g_slices_AppendSeq_Span_1 : List (IStep2 RW) := [o1 6 (.mv false (.s 1))]
def i_slices_AppendSeq_Span_16 : IC2 RW := .seq (.fin (.reg g_slices_AppendSeq_Span_1) [1] []) i_slices_AppendSeq_Span_15
def g_slices_AppendSeq_Span_4 : List (IStep2 RW) := [o1 12 (.load 48 0 1 false false 2),
  o1 4 (.mv false (.s 12))]
def i_slices_AppendSeq_Span_17 : IC2 RW := .seq (.fin (.reg g_slices_AppendSeq_Span_4) [2, 12] [(48, 1)]) (.ret)
def i_slices_AppendSeq_Span_18 : IC2 RW := .seq i_slices_AppendSeq_Span_16 i_slices_AppendSeq_Span_17
def g_slices_AppendSeq_Span_0 : List (IStep2 RW) := [o1 2 (.box 48 1 true (.s 0)),
  o1 4 (.mv false (.k (.row false (.rSpan []))))]
def i_slices_AppendSeq_Span_19 : IC2 RW := .seq (.fin (.reg g_slices_AppendSeq_Span_0) [0, 4] []) i_slices_AppendSeq_Span_18
def fn_slices_AppendSeq_Span : IFn2 RW := ⟨69, 2, 13, 64, [(32, 15), (48, 1), (50, 2), (53, 2)], [(32, 15)], [], [.slot 4], i_slices_AppendSeq_Span_19⟩
def g_slices_Collect_0 : List (IStep2 RW) := [o1 2 (.mv false (.k (.row false (.rSpan []))))]
def g_slices_Collect_1 : List (IStep2 RW) := [o1 3 (.mv false (.s 0)),
  o1 4 (.call 1007 [(true, .k (.row true (.rSpan []))), (false, .s 3)] [(5, 15, 32)] []),
  o1 2 (.mv false (.s 4))]
def i_slices_Collect_0 : IC2 RW := .seq (.fin (.reg g_slices_Collect_0) [2] []) (.seq (.fin (.reg g_slices_Collect_1) [0, 3, 4] []) (.ret))
def fn_slices_Collect : IFn2 RW := ⟨54, 1, 5, 32, [(5, 15)], [(5, 15)], [], [.slot 2], i_slices_Collect_0⟩
def g_slices_Index_Span_2 : List (IStep2 RW) := [o1 9 (.bin .lss (.s 8) (.s 7))]
def g_slices_Index_Span_3 : List (IStep2 RW) := [o1 10 (.mv false (.s 8)),
  o1 5 (.mv false (.s 10))]
def g_slices_Index_Span_4 : List (IStep2 RW) := [o1 11 (.load 19 0 2 true false 3),
  o1 12 (.mv false (.s 0)),
  o1 13 (.mv false (.s 5)),
  o1 14 (.idx 2 (.s 12) (.s 13)),
  o1 15 (.loade 2 true 14),
  o1 16 (.eqs [true, true] false (.s 11) (.s 15))]
def g_slices_Index_Span_5 : List (IStep2 RW) := [o1 17 (.mv false (.s 5)),
  o1 4 (.mv false (.s 17))]
def g_slices_Index_Span_6 : List (IStep2 RW) := [o1 18 (.bin .add (.s 8) (.k (.sc (.int .i64 1)))),
  o1 8 (.mv false (.s 18))]
def i_slices_Index_Span_0 : IC2 RW := .seq (.reg g_slices_Index_Span_2) (.seq (.fin (.cond (.s 9) (.skip) (.clr [0, 3, 7, 8, 9] [(19, 2)] (.exit 0))) [9] []) (.seq (.blk 1 (.seq (.fin (.reg g_slices_Index_Span_3) [10] []) (.seq (.fin (.reg g_slices_Index_Span_4) [11, 12, 13, 14, 15] []) (.fin (.cond (.s 16) (.seq (.fin (.reg g_slices_Index_Span_5) [0, 3, 5, 7, 8, 16, 17] [(19, 2)]) (.ret)) (.skip)) [5, 16] [])))) (.fin (.reg g_slices_Index_Span_6) [18] [])))
def i_slices_Index_Span_1 : IC2 RW := .loop i_slices_Index_Span_0
def i_slices_Index_Span_2 : IC2 RW := .blk 0 i_slices_Index_Span_1
def g_slices_Index_Span_1 : List (IStep2 RW) := [o1 6 (.mv false (.s 0)),
  o1 7 (.len false (.s 6)),
  o1 8 (.mv false (.k (.sc (.int .i64 0))))]
def i_slices_Index_Span_3 : IC2 RW := .seq (.fin (.reg g_slices_Index_Span_1) [6] []) i_slices_Index_Span_2
def g_slices_Index_Span_7 : List (IStep2 RW) := [o1 4 (.mv false (.k (.sc (.int .i64 (-1)))))]
def i_slices_Index_Span_4 : IC2 RW := .seq (.reg g_slices_Index_Span_7) (.ret)
def i_slices_Index_Span_5 : IC2 RW := .seq i_slices_Index_Span_3 i_slices_Index_Span_4
def g_slices_Index_Span_0 : List (IStep2 RW) := [o1 3 (.box 19 2 false (.s 1)),
  o1 4 (.mv false (.k (.sc (.int .i64 0))))]
def i_slices_Index_Span_6 : IC2 RW := .seq (.fin (.reg g_slices_Index_Span_0) [1, 4] []) i_slices_Index_Span_5
def fn_slices_Index_Span : IFn2 RW := ⟨72, 2, 19, 32, [(19, 2)], [], [], [.slot 4], i_slices_Index_Span_6⟩
def g_slices_Contains_Span_0 : List (IStep2 RW) := [o1 3 (.box 9 2 false (.s 1)),
  o1 4 (.mv false (.k (.sc (.bool false))))]
def g_slices_Contains_Span_1 : List (IStep2 RW) := [o1 5 (.mv false (.s 0)),
  o1 6 (.load 9 0 2 true false 3),
  o1 7 (.call 72 [(false, .s 5), (false, .s 6)] [] []),
  o1 8 (.bin .geq (.s 7) (.k (.sc (.int .i64 0)))),
  o1 4 (.mv false (.s 8))]
def i_slices_Contains_Span_0 : IC2 RW := .seq (.fin (.reg g_slices_Contains_Span_0) [1, 4] []) (.seq (.fin (.reg g_slices_Contains_Span_1) [0, 3, 5, 6, 7, 8] [(9, 2)]) (.ret))
def fn_slices_Contains_Span : IFn2 RW := ⟨56, 2, 9, 16, [(9, 2)], [], [], [.slot 4], i_slices_Contains_Span_0⟩
def g_recv_pieces_3 : List (IStep2 RW) := [o1 16 (.bin .lss (.s 15) (.s 14))]
def g_recv_pieces_4 : List (IStep2 RW) := [o1 17 (.idx 2 (.s 13) (.s 15)),
  o1 18 (.loade 2 true 17),
  o1 5 (.alloc 98 [.sc (.int .i64 0), .row false (.ruint8 [])]),
  o0 (.store 98 0 2 false 5 (.s 18))]
def g_recv_pieces_5 : List (IStep2 RW) := [o1 19 (.fld 1 (.s 5)),
  o1 20 (.load 98 1 1 false false 19),
  o1 21 (.len false (.s 20)),
  o1 6 (.mv false (.s 21))]
def g_recv_pieces_6 : List (IStep2 RW) := [o1 22 (.mv false (.s 6)),
  o1 23 (.bin .eql (.s 22) (.k (.sc (.int .i64 0)))),
  o2 24 (.mv false (.s 23)),
  o3 25 24 false (.fld 0 (.s 5)),
  o3 26 24 false (.load 98 0 1 false false 25),
  o3 27 24 false (.mv false (.s 3)),
  o3 28 24 false (.bin .leq (.s 26) (.s 27)),
  o1 29 (.pick (.s 24) (.k (.sc (.bool true))) (.s 28)),
  o2 30 (.mv false (.s 29)),
  o3 31 30 false (.fld 0 (.s 5)),
  o3 32 30 false (.load 98 0 1 false false 31),
  o3 33 30 false (.load 82 0 15 true false 1),
  o3 34 30 false (.call 53 [(false, .s 33)] [] []),
  o3 35 30 false (.mv false (.s 6)),
  o3 36 30 false (.bin .sub (.s 34) (.s 35)),
  o3 37 30 false (.bin .gtr (.s 32) (.s 36)),
  o1 38 (.pick (.s 30) (.k (.sc (.bool true))) (.s 37)),
  o2 39 (.mv false (.s 38)),
  o3 40 39 false (.fld 9 (.s 1)),
  o3 41 39 false (.load 82 9 1 false false 40),
  o3 42 39 false (.bin .geq (.s 41) (.k (.sc (.int .i64 0)))),
  ⟨some 43, .mv false (.s 42), (some (39, false)), true⟩,
  o3 44 43 true (.fld 0 (.s 5)),
  o3 45 43 true (.load 98 0 1 false false 44),
  o3 46 43 true (.fld 9 (.s 1)),
  o3 47 43 true (.load 82 9 1 false false 46),
  o3 48 43 true (.mv false (.s 6)),
  o3 49 43 true (.bin .sub (.s 47) (.s 48)),
  o3 50 43 true (.bin .gtr (.s 45) (.s 49)),
  o3 51 39 false (.pick (.s 43) (.s 50) (.k (.sc (.bool false)))),
  o1 52 (.pick (.s 39) (.k (.sc (.bool true))) (.s 51))]
def g_recv_pieces_7 : List (IStep2 RW) := [o1 2 (.mv false (.k (.sc (.bool false))))]
def g_recv_pieces_8 : List (IStep2 RW) := [o1 53 (.fld 0 (.s 5)),
  o1 54 (.load 98 0 1 false false 53),
  o1 55 (.mv false (.s 6)),
  o1 56 (.bin .add (.s 54) (.s 55)),
  o1 3 (.mv false (.s 56))]
def g_recv_pieces_9 : List (IStep2 RW) := [o1 57 (.bin .add (.s 15) (.k (.sc (.int .i64 1)))),
  o1 15 (.mv false (.s 57))]
def i_recv_pieces_0 : IC2 RW := .seq (.reg g_recv_pieces_3) (.seq (.fin (.cond (.s 16) (.skip) (.clr [3, 13, 14, 15, 16] [] (.exit 0))) [16] []) (.seq (.blk 1 (.seq (.fin (.reg g_recv_pieces_4) [17, 18] []) (.seq (.fin (.reg g_recv_pieces_5) [19, 20, 21] []) (.seq (.seq (.fin (.reg g_recv_pieces_6) [3, 22, 23, 24, 25, 26, 27, 28, 29, 30, 31, 32, 33, 34, 35, 36, 37, 38, 39, 40, 41, 42, 43, 44, 45, 46, 47, 48, 49, 50, 51] []) (.fin (.cond (.s 52) (.seq (.fin (.reg g_recv_pieces_7) [1, 5, 6, 13, 14, 15, 52] [(82, 15), (98, 2)]) (.ret)) (.skip)) [52] [])) (.fin (.reg g_recv_pieces_8) [5, 6, 53, 54, 55, 56] [(98, 2)]))))) (.fin (.reg g_recv_pieces_9) [57] [])))
def i_recv_pieces_1 : IC2 RW := .loop i_recv_pieces_0
def i_recv_pieces_2 : IC2 RW := .blk 0 i_recv_pieces_1
def g_recv_pieces_2 : List (IStep2 RW) := [o1 12 (.fld 2 (.s 1)),
  o1 13 (.load 82 2 1 false false 12),
  o1 14 (.len false (.s 13)),
  o1 15 (.mv false (.k (.sc (.int .i64 0))))]
def i_recv_pieces_3 : IC2 RW := .seq (.fin (.reg g_recv_pieces_2) [12] []) i_recv_pieces_2
def g_recv_pieces_12 : List (IStep2 RW) := [o1 65 (.bin .lss (.s 64) (.s 63))]
def g_recv_pieces_13 : List (IStep2 RW) := [o1 66 (.mv false (.s 64)),
  o1 67 (.idx 2 (.s 62) (.s 64)),
  o1 68 (.loade 2 true 67),
  o1 9 (.alloc 101 [.sc (.int .i64 0), .sc (.int .i64 0)]),
  o1 8 (.mv false (.s 66)),
  o0 (.store 101 0 2 false 9 (.s 68))]
def g_recv_pieces_14 : List (IStep2 RW) := [o1 69 (.mv false (.s 7)),
  o1 70 (.load 101 0 2 true false 9),
  o1 71 (.call 56 [(false, .s 69), (false, .s 70)] [] []),
  o1 72 (.un .not (.s 71)),
  o2 73 (.mv false (.s 72)),
  o3 74 73 false (.fld 11 (.s 1)),
  o3 75 73 false (.load 82 11 1 false false 74),
  o3 76 73 false (.mv false (.s 8)),
  o3 77 73 false (.slice 2 (.s 75) none (some (.s 76)) none),
  o3 78 73 false (.load 101 0 2 true false 9),
  o3 79 73 false (.call 56 [(false, .s 77), (false, .s 78)] [] []),
  o1 80 (.pick (.s 73) (.k (.sc (.bool true))) (.s 79))]
def g_recv_pieces_15 : List (IStep2 RW) := [o1 2 (.mv false (.k (.sc (.bool false))))]
def g_recv_pieces_16 : List (IStep2 RW) := [o1 81 (.bin .add (.s 64) (.k (.sc (.int .i64 1)))),
  o1 64 (.mv false (.s 81))]
def i_recv_pieces_4 : IC2 RW := .seq (.reg g_recv_pieces_12) (.seq (.fin (.cond (.s 65) (.skip) (.clr [1, 7, 62, 63, 64, 65] [(82, 15)] (.exit 2))) [65] []) (.seq (.blk 3 (.seq (.fin (.reg g_recv_pieces_13) [66, 67, 68] []) (.seq (.fin (.reg g_recv_pieces_14) [8, 9, 69, 70, 71, 72, 73, 74, 75, 76, 77, 78, 79] [(101, 2)]) (.fin (.cond (.s 80) (.seq (.fin (.reg g_recv_pieces_15) [1, 7, 62, 63, 64, 80] [(82, 15)]) (.ret)) (.skip)) [80] [])))) (.fin (.reg g_recv_pieces_16) [81] [])))
def i_recv_pieces_5 : IC2 RW := .loop i_recv_pieces_4
def i_recv_pieces_6 : IC2 RW := .blk 2 i_recv_pieces_5
def g_recv_pieces_11 : List (IStep2 RW) := [o1 61 (.fld 11 (.s 1)),
  o1 62 (.load 82 11 1 false false 61),
  o1 63 (.len false (.s 62)),
  o1 64 (.mv false (.k (.sc (.int .i64 0))))]
def i_recv_pieces_7 : IC2 RW := .seq (.fin (.reg g_recv_pieces_11) [61] []) i_recv_pieces_6
def g_recv_pieces_17 : List (IStep2 RW) := [o1 2 (.mv false (.k (.sc (.bool true))))]
def i_recv_pieces_8 : IC2 RW := .seq (.reg g_recv_pieces_17) (.ret)
def i_recv_pieces_9 : IC2 RW := .seq i_recv_pieces_7 i_recv_pieces_8
def g_recv_pieces_10 : List (IStep2 RW) := [o1 58 (.load 82 0 15 true false 1),
  o1 59 (.call 55 [(false, .s 58)] [] [(4, 15, 104)]),
  o1 60 (.call 1006 [(false, .s 59)] [(104, 15, 5)] []),
  o1 7 (.mv false (.s 60))]
def i_recv_pieces_10 : IC2 RW := .seq (.fin (.reg g_recv_pieces_10) [58, 59, 60] [(104, 15)]) i_recv_pieces_9
def i_recv_pieces_11 : IC2 RW := .seq i_recv_pieces_3 i_recv_pieces_10
def g_recv_pieces_0 : List (IStep2 RW) := [o1 1 (.box 82 15 false (.s 0)),
  o1 2 (.mv false (.k (.sc (.bool false))))]
def g_recv_pieces_1 : List (IStep2 RW) := [o1 10 (.fld 0 (.s 1)),
  o1 11 (.load 82 0 1 false false 10),
  o1 3 (.mv false (.s 11))]
def i_recv_pieces_12 : IC2 RW := .seq (.fin (.reg g_recv_pieces_0) [0, 2] []) (.seq (.fin (.reg g_recv_pieces_1) [10, 11] []) i_recv_pieces_11)
def fn_recv_pieces : IFn2 RW := ⟨28, 1, 82, 128, [(82, 15), (98, 2), (101, 2), (104, 15)], [], [], [.slot 2], i_recv_pieces_12⟩
def g_recv_Check_4 : List (IStep2 RW) := [o1 79 (.load 102 0 15 true false 1),
  o1 80 (.call 28 [(false, .s 79)] [] []),
  o1 81 (.un .not (.s 80)),
  o2 82 (.mv false (.s 81)),
  o3 83 82 false (.fld 10 (.s 1)),
  o3 84 82 false (.load 102 10 1 false false 83),
  o3 85 82 false (.fld 9 (.s 1)),
  o3 86 82 false (.load 102 9 1 false false 85),
  o3 87 82 false (.fld 0 (.s 1)),
  o3 88 82 false (.load 102 0 1 false false 87),
  o3 89 82 false (.bin .eql (.s 86) (.s 88)),
  o3 90 82 false (.eqb true (.s 84) (.s 89)),
  o1 91 (.pick (.s 82) (.k (.sc (.bool true))) (.s 90)),
  o2 92 (.mv false (.s 91)),
  o3 93 92 false (.fld 10 (.s 1)),
  o3 94 92 false (.load 102 10 1 false false 93),
  ⟨some 95, .mv false (.s 94), (some (92, false)), true⟩,
  o3 96 95 true (.fld 2 (.s 1)),
  o3 97 95 true (.load 102 2 1 false false 96),
  o3 98 95 true (.len false (.s 97)),
  o3 99 95 true (.bin .gtr (.s 98) (.k (.sc (.int .i64 0)))),
  o3 100 92 false (.pick (.s 95) (.s 99) (.k (.sc (.bool false)))),
  o1 101 (.pick (.s 92) (.k (.sc (.bool true))) (.s 100))]
def g_recv_Check_5 : List (IStep2 RW) := [o1 2 (.mv false (.k (.sc (.int .i64 230))))]
def g_recv_Check_6 : List (IStep2 RW) := [o1 2 (.mv false (.k (.sc (.int .i64 0))))]
def i_recv_Check_0 : IC2 RW := .seq (.seq (.fin (.reg g_recv_Check_4) [1, 79, 80, 81, 82, 83, 84, 85, 86, 87, 88, 89, 90, 91, 92, 93, 94, 95, 96, 97, 98, 99, 100] [(102, 15)]) (.fin (.cond (.s 101) (.seq (.fin (.reg g_recv_Check_5) [101] []) (.ret)) (.skip)) [101] [])) (.seq (.reg g_recv_Check_6) (.ret))
def g_recv_Check_1 : List (IStep2 RW) := [o1 4 (.fld 0 (.s 1)),
  o1 5 (.load 102 0 1 false false 4),
  o1 6 (.bin .geq (.s 5) (.k (.sc (.int .i64 0)))),
  o2 7 (.mv false (.s 6)),
  o3 8 7 true (.fld 0 (.s 1)),
  o3 9 7 true (.load 102 0 1 false false 8),
  o3 10 7 true (.bin .leq (.s 9) (.k (.sc (.int .i64 562949953421312)))),
  o1 11 (.pick (.s 7) (.s 10) (.k (.sc (.bool false)))),
  o2 12 (.mv false (.s 11)),
  o3 13 12 true (.fld 3 (.s 1)),
  o3 14 12 true (.load 102 3 1 false false 13),
  o3 15 12 true (.bin .geq (.s 14) (.k (.sc (.int .i64 1)))),
  o1 16 (.pick (.s 12) (.s 15) (.k (.sc (.bool false)))),
  o2 17 (.mv false (.s 16)),
  o3 18 17 true (.fld 3 (.s 1)),
  o3 19 17 true (.load 102 3 1 false false 18),
  o3 20 17 true (.bin .leq (.s 19) (.k (.sc (.int .i64 1073741824)))),
  o1 21 (.pick (.s 17) (.s 20) (.k (.sc (.bool false)))),
  o2 22 (.mv false (.s 21)),
  o3 23 22 true (.fld 4 (.s 1)),
  o3 24 22 true (.load 102 4 1 false false 23),
  o3 25 22 true (.bin .geq (.s 24) (.k (.sc (.int .i64 0)))),
  o1 26 (.pick (.s 22) (.s 25) (.k (.sc (.bool false)))),
  o2 27 (.mv false (.s 26)),
  o3 28 27 true (.fld 4 (.s 1)),
  o3 29 27 true (.load 102 4 1 false false 28),
  o3 30 27 true (.bin .leq (.s 29) (.k (.sc (.int .i64 14)))),
  o1 31 (.pick (.s 27) (.s 30) (.k (.sc (.bool false)))),
  o2 32 (.mv false (.s 31)),
  o3 33 32 true (.fld 1 (.s 1)),
  o3 34 32 true (.load 102 1 1 false false 33),
  o3 35 32 true (.len false (.s 34)),
  o3 36 32 true (.fld 3 (.s 1)),
  o3 37 32 true (.load 102 3 1 false false 36),
  o3 38 32 true (.fld 0 (.s 1)),
  o3 39 32 true (.load 102 0 1 false false 38),
  o3 40 32 true (.mnmx false [.s 37, .s 39]),
  o3 41 32 true (.bin .leq (.s 35) (.s 40)),
  o1 42 (.pick (.s 32) (.s 41) (.k (.sc (.bool false)))),
  o1 3 (.mv false (.s 42))]
def g_recv_Check_2 : List (IStep2 RW) := [o1 43 (.mv false (.s 3)),
  o1 44 (.un .not (.s 43)),
  o2 45 (.mv false (.s 44)),
  o3 46 45 false (.fld 5 (.s 1)),
  o3 47 45 false (.load 102 5 1 false false 46),
  o3 48 45 false (.bin .lss (.s 47) (.k (.sc (.int .i64 0)))),
  o1 49 (.pick (.s 45) (.k (.sc (.bool true))) (.s 48)),
  o2 50 (.mv false (.s 49)),
  o3 51 50 false (.fld 5 (.s 1)),
  o3 52 50 false (.load 102 5 1 false false 51),
  o3 53 50 false (.load 102 0 15 true false 1),
  o3 54 50 false (.call 27 [(false, .s 53)] [] []),
  o3 55 50 false (.bin .gtr (.s 52) (.s 54)),
  o1 56 (.pick (.s 50) (.k (.sc (.bool true))) (.s 55)),
  o2 57 (.mv false (.s 56)),
  o3 58 57 false (.fld 9 (.s 1)),
  o3 59 57 false (.load 102 9 1 false false 58),
  o3 60 57 false (.bin .lss (.s 59) (.k (.sc (.int .i64 (-1))))),
  o1 61 (.pick (.s 57) (.k (.sc (.bool true))) (.s 60)),
  o2 62 (.mv false (.s 61)),
  o3 63 62 false (.fld 9 (.s 1)),
  o3 64 62 false (.load 102 9 1 false false 63),
  o3 65 62 false (.bin .geq (.s 64) (.k (.sc (.int .i64 0)))),
  ⟨some 66, .mv false (.s 65), (some (62, false)), true⟩,
  o3 67 66 true (.fld 9 (.s 1)),
  o3 68 66 true (.load 102 9 1 false false 67),
  o3 69 66 true (.fld 0 (.s 1)),
  o3 70 66 true (.load 102 0 1 false false 69),
  o3 71 66 true (.bin .lss (.s 68) (.s 70)),
  o3 72 62 false (.pick (.s 66) (.s 71) (.k (.sc (.bool false)))),
  o1 73 (.pick (.s 62) (.k (.sc (.bool true))) (.s 72)),
  o2 74 (.mv false (.s 73)),
  o3 75 74 false (.fld 9 (.s 1)),
  o3 76 74 false (.load 102 9 1 false false 75),
  o3 77 74 false (.bin .gtr (.s 76) (.k (.sc (.int .i64 562949953421312)))),
  o1 78 (.pick (.s 74) (.k (.sc (.bool true))) (.s 77))]
def g_recv_Check_3 : List (IStep2 RW) := [o1 2 (.mv false (.k (.sc (.int .i64 230))))]
def i_recv_Check_1 : IC2 RW := .seq (.fin (.reg g_recv_Check_1) [4, 5, 6, 7, 8, 9, 10, 11, 12, 13, 14, 15, 16, 17, 18, 19, 20, 21, 22, 23, 24, 25, 26, 27, 28, 29, 30, 31, 32, 33, 34, 35, 36, 37, 38, 39, 40, 41, 42] []) (.seq (.seq (.fin (.reg g_recv_Check_2) [3, 43, 44, 45, 46, 47, 48, 49, 50, 51, 52, 53, 54, 55, 56, 57, 58, 59, 60, 61, 62, 63, 64, 65, 66, 67, 68, 69, 70, 71, 72, 73, 74, 75, 76, 77] []) (.fin (.cond (.s 78) (.seq (.fin (.reg g_recv_Check_3) [1, 78] [(102, 15)]) (.ret)) (.skip)) [78] [])) i_recv_Check_0)
def g_recv_Check_0 : List (IStep2 RW) := [o1 1 (.box 102 15 false (.s 0)),
  o1 2 (.mv false (.k (.sc (.int .i64 0))))]
def i_recv_Check_2 : IC2 RW := .seq (.fin (.reg g_recv_Check_0) [0, 2] []) i_recv_Check_1
def fn_recv_Check : IFn2 RW := ⟨10, 1, 102, 128, [(102, 15)], [], [], [.slot 2], i_recv_Check_2⟩
def g_recv_window_0 : List (IStep2 RW) := [o1 1 (.box 16 15 false (.s 0)),
  o1 2 (.mv false (.k (.sc (.int .i64 0))))]
def g_recv_window_1 : List (IStep2 RW) := [o1 3 (.fld 3 (.s 1)),
  o1 4 (.load 16 3 1 false false 3),
  o1 5 (.fld 1 (.s 1)),
  o1 6 (.load 16 1 1 false false 5),
  o1 7 (.len false (.s 6)),
  o1 8 (.bin .sub (.s 4) (.s 7)),
  o1 9 (.fld 4 (.s 1)),
  o1 10 (.load 16 4 1 false false 9),
  o1 11 (.bin .shr (.s 8) (.s 10)),
  o1 12 (.mnmx false [.s 11, .k (.sc (.int .i64 65535))]),
  o1 13 (.fld 4 (.s 1)),
  o1 14 (.load 16 4 1 false false 13),
  o1 15 (.bin .shl (.s 12) (.s 14)),
  o1 2 (.mv false (.s 15))]
def i_recv_window_0 : IC2 RW := .seq (.fin (.reg g_recv_window_0) [0, 2] []) (.seq (.fin (.reg g_recv_window_1) [1, 3, 4, 5, 6, 7, 8, 9, 10, 11, 12, 13, 14, 15] [(16, 15)]) (.ret))
def fn_recv_window : IFn2 RW := ⟨49, 1, 16, 32, [(16, 15)], [], [], [.slot 2], i_recv_window_0⟩
def g_recv_New_0 : List (IStep2 RW) := [o1 12 (.alloc 41 [.sc (.int .i64 0), .row false (.ruint8 []), .row false (.rPiece []), .sc (.int .i64 0), .sc (.int .i64 0), .sc (.int .i64 0), .sc (.int .u32 0), .sc (.bool false), .sc (.bool false), .sc (.int .i64 0), .sc (.bool false), .row false (.rSpan []), .sc (.int .u32 0), .sc (.int .u32 0), .sc (.bool false)]),
  o1 13 (.mv false (.k (.sc (.int .i64 0))))]
def g_recv_New_1 : List (IStep2 RW) := [o1 15 (.mv false (.s 0)),
  o1 16 (.bin .lss (.s 15) (.k (.sc (.int .i64 1)))),
  o2 17 (.mv false (.s 16)),
  o3 18 17 false (.mv false (.s 0)),
  o3 19 17 false (.bin .gtr (.s 18) (.k (.sc (.int .i64 1073741824)))),
  o1 20 (.pick (.s 17) (.k (.sc (.bool true))) (.s 19)),
  o2 21 (.mv false (.s 20)),
  o3 22 21 false (.mv false (.s 1)),
  o3 23 21 false (.bin .lss (.s 22) (.k (.sc (.int .i64 0)))),
  o1 24 (.pick (.s 21) (.k (.sc (.bool true))) (.s 23)),
  o2 25 (.mv false (.s 24)),
  o3 26 25 false (.mv false (.s 1)),
  o3 27 25 false (.bin .gtr (.s 26) (.k (.sc (.int .i64 14)))),
  o1 28 (.pick (.s 25) (.k (.sc (.bool true))) (.s 27))]
def g_recv_New_2 : List (IStep2 RW) := [o1 29 (.build [.sc (.int .i64 0), .row false (.ruint8 []), .row false (.rPiece []), .sc (.int .i64 0), .sc (.int .i64 0), .sc (.int .i64 0), .sc (.int .u32 0), .sc (.bool false), .sc (.bool false), .sc (.int .i64 0), .sc (.bool false), .row false (.rSpan []), .sc (.int .u32 0), .sc (.int .u32 0), .sc (.bool false)] []),
  o0 (.store 41 0 15 false 12 (.s 29)),
  o1 13 (.mv false (.k (.sc (.int .i64 2))))]
def g_recv_New_3 : List (IStep2 RW) := [o1 30 (.mv false (.s 0)),
  o1 31 (.mv false (.s 1)),
  o1 32 (.mv false (.s 2)),
  o1 33 (.mv false (.s 3)),
  o1 34 (.mv false (.s 4)),
  o1 35 (.mv false (.s 5)),
  o1 36 (.build [.sc (.int .i64 0), .row false (.ruint8 []), .row false (.rPiece []), .sc (.int .i64 0), .sc (.int .i64 0), .sc (.int .i64 0), .sc (.int .u32 0), .sc (.bool false), .sc (.bool false), .sc (.int .i64 0), .sc (.bool false), .row false (.rSpan []), .sc (.int .u32 0), .sc (.int .u32 0), .sc (.bool false)] [(3, 1, .s 30), (4, 1, .s 31), (9, 1, .k (.sc (.int .i64 (-1)))), (12, 1, .s 32), (13, 1, .s 33), (7, 1, .s 34), (8, 1, .s 35)]),
  o1 14 (.alloc 57 [.sc (.int .i64 0), .row false (.ruint8 []), .row false (.rPiece []), .sc (.int .i64 0), .sc (.int .i64 0), .sc (.int .i64 0), .sc (.int .u32 0), .sc (.bool false), .sc (.bool false), .sc (.int .i64 0), .sc (.bool false), .row false (.rSpan []), .sc (.int .u32 0), .sc (.int .u32 0), .sc (.bool false)]),
  o0 (.store 57 0 15 false 14 (.s 36))]
def g_recv_New_4 : List (IStep2 RW) := [o1 37 (.load 57 0 15 true false 14),
  o1 38 (.call 49 [(false, .s 37)] [] []),
  o1 39 (.fld 5 (.s 14)),
  o0 (.store 57 5 1 false 39 (.s 38))]
def g_recv_New_5 : List (IStep2 RW) := [o1 40 (.load 57 0 15 true false 14),
  o0 (.store 41 0 15 false 12 (.s 40)),
  o1 13 (.mv false (.k (.sc (.int .i64 0))))]
def i_recv_New_0 : IC2 RW := .seq (.fin (.reg g_recv_New_0) [13] []) (.seq (.seq (.fin (.reg g_recv_New_1) [15, 16, 17, 18, 19, 20, 21, 22, 23, 24, 25, 26, 27] []) (.fin (.cond (.s 28) (.seq (.fin (.reg g_recv_New_2) [0, 1, 2, 3, 4, 5, 28, 29] []) (.ret)) (.skip)) [28] [])) (.seq (.fin (.reg g_recv_New_3) [0, 1, 2, 3, 4, 5, 30, 31, 32, 33, 34, 35, 36] []) (.seq (.fin (.reg g_recv_New_4) [37, 38, 39] []) (.seq (.fin (.reg g_recv_New_5) [14, 40] [(57, 15)]) (.ret)))))
def fn_recv_New : IFn2 RW := ⟨17, 6, 41, 80, [(41, 15), (57, 15)], [], [], [.cell 12 41 15 true, .slot 13], i_recv_New_0⟩
/-! slices.Clone[[]tideway/api.Span,tideway/api.Span] -/
def g_slices_Clone_Span_0 : List IStep := [⟨(some 2), .mv true (.k (.row true 2 0 (fun _ => [.sc (.int .i64 0), .sc (.int .i64 0)]))), none, false⟩]
def g_slices_Clone_Span_1 : List IStep := [⟨(some 3), .mv false (.s 0), none, false⟩,
  ⟨(some 4), .nilq false (.s 3), none, false⟩]
def g_slices_Clone_Span_2 : List IStep := [⟨(some 2), .mv true (.k (.row true 2 0 (fun _ => [.sc (.int .i64 0), .sc (.int .i64 0)]))), none, false⟩]
def g_slices_Clone_Span_3 : List IStep := [⟨(some 5), .bslice 2 0 [.sc (.int .i64 0), .sc (.int .i64 0)] [], none, false⟩,
  ⟨(some 6), .mv false (.s 0), none, false⟩,
  ⟨(some 7), .app 2 16 true (.s 5) (.s 6), none, false⟩,
  ⟨(some 2), .mv true (.s 7), none, false⟩]
def fn_slices_Clone_Span : IFn := ⟨57, 1, 8, 8, [], [], [], [.slot 2],
  .seq (.fin (.reg g_slices_Clone_Span_0) [2] []) (.seq (.seq (.fin (.reg g_slices_Clone_Span_1) [3] []) (.fin (.cond (.s 4) (.seq (.fin (.reg g_slices_Clone_Span_2) [0, 4] []) (.ret)) (.skip)) [4] [])) (.seq (.fin (.reg g_slices_Clone_Span_3) [0, 5, 6, 7] []) (.ret)))⟩

/-! bytes.Clone -/
def g_bytes_Clone_0 : List IStep := [⟨(some 2), .mv true (.k (.row true 1 0 (fun _ => [.sc (.int .u8 0)]))), none, false⟩]
def g_bytes_Clone_1 : List IStep := [⟨(some 3), .mv false (.s 0), none, false⟩,
  ⟨(some 4), .nilq false (.s 3), none, false⟩]
def g_bytes_Clone_2 : List IStep := [⟨(some 2), .mv true (.k (.row true 1 0 (fun _ => [.sc (.int .u8 0)]))), none, false⟩]
def g_bytes_Clone_3 : List IStep := [⟨(some 5), .bslice 1 0 [.sc (.int .u8 0)] [], none, false⟩,
  ⟨(some 6), .mv false (.s 0), none, false⟩,
  ⟨(some 7), .app 1 1 true (.s 5) (.s 6), none, false⟩,
  ⟨(some 2), .mv true (.s 7), none, false⟩]
def fn_bytes_Clone : IFn := ⟨52, 1, 8, 8, [], [], [], [.slot 2],
  .seq (.fin (.reg g_bytes_Clone_0) [2] []) (.seq (.seq (.fin (.reg g_bytes_Clone_1) [3] []) (.fin (.cond (.s 4) (.seq (.fin (.reg g_bytes_Clone_2) [0, 4] []) (.ret)) (.skip)) [4] [])) (.seq (.fin (.reg g_bytes_Clone_3) [0, 5, 6, 7] []) (.ret)))⟩

def g_recv_copied_6 : List (IStep2 RW) := [o1 21 (.bin .lss (.s 20) (.s 19))]
def g_recv_copied_7 : List (IStep2 RW) := [o1 22 (.idx 2 (.s 18) (.s 20)),
  o1 23 (.loade 2 true 22),
  o1 5 (.alloc 69 [.sc (.int .i64 0), .row false (.ruint8 [])]),
  o0 (.store 69 0 2 false 5 (.s 23))]
def g_recv_copied_8 : List (IStep2 RW) := [o1 24 (.fld 2 (.s 1)),
  o1 25 (.load 37 2 1 false true 24),
  o1 26 (.fld 0 (.s 5)),
  o1 27 (.load 69 0 1 false false 26),
  o1 28 (.fld 1 (.s 5)),
  o1 29 (.load 69 1 1 false false 28),
  o1 30 (.call 52 [(false, .s 29)] [] []),
  o1 31 (.build [.sc (.int .i64 0), .row false (.ruint8 [])] [(0, 1, .s 27), (1, 1, .s 30)]),
  o1 32 (.bslice 74 1 [(0, 2, .s 31)]),
  o1 33 (.app 2 32 true (.s 25) (.s 32)),
  o1 34 (.fld 2 (.s 1)),
  o0 (.store 37 2 1 true 34 (.s 33))]
def g_recv_copied_9 : List (IStep2 RW) := [o1 35 (.bin .add (.s 20) (.k (.sc (.int .i64 1)))),
  o1 20 (.mv false (.s 35))]
def i_recv_copied_0 : IC2 RW := .seq (.reg g_recv_copied_6) (.seq (.fin (.cond (.s 21) (.skip) (.clr [18, 19, 20, 21] [] (.exit 0))) [21] []) (.seq (.blk 1 (.seq (.fin (.reg g_recv_copied_7) [22, 23] []) (.fin (.reg g_recv_copied_8) [5, 24, 25, 26, 27, 28, 29, 30, 31, 32, 33, 34] [(69, 2)]))) (.fin (.reg g_recv_copied_9) [35] [])))
def i_recv_copied_1 : IC2 RW := .loop i_recv_copied_0
def i_recv_copied_2 : IC2 RW := .blk 0 i_recv_copied_1
def g_recv_copied_5 : List (IStep2 RW) := [o1 18 (.mv false (.s 3)),
  o1 19 (.len false (.s 18)),
  o1 20 (.mv false (.k (.sc (.int .i64 0))))]
def i_recv_copied_3 : IC2 RW := .seq (.fin (.reg g_recv_copied_5) [3] []) i_recv_copied_2
def g_recv_copied_10 : List (IStep2 RW) := [o1 36 (.load 37 0 15 true true 1),
  o0 (.store 53 0 15 true 2 (.s 36))]
def i_recv_copied_4 : IC2 RW := .seq (.fin (.reg g_recv_copied_10) [1, 36] [(37, 15)]) (.ret)
def i_recv_copied_5 : IC2 RW := .seq i_recv_copied_3 i_recv_copied_4
def g_recv_copied_0 : List (IStep2 RW) := [o1 1 (.box 37 15 true (.s 0)),
  o1 2 (.alloc 53 [.sc (.int .i64 0), .row true (.ruint8 []), .row true (.rPiece []), .sc (.int .i64 0), .sc (.int .i64 0), .sc (.int .i64 0), .sc (.int .u32 0), .sc (.bool false), .sc (.bool false), .sc (.int .i64 0), .sc (.bool false), .row true (.rSpan []), .sc (.int .u32 0), .sc (.int .u32 0), .sc (.bool false)])]
def g_recv_copied_1 : List (IStep2 RW) := [o1 6 (.bslice 5 0 []),
  o1 7 (.fld 1 (.s 1)),
  o1 8 (.load 37 1 1 false false 7),
  o1 9 (.app 1 1 true (.s 6) (.s 8)),
  o1 10 (.fld 1 (.s 1)),
  o0 (.store 37 1 1 true 10 (.s 9))]
def g_recv_copied_2 : List (IStep2 RW) := [o1 11 (.fld 11 (.s 1)),
  o1 12 (.load 37 11 1 false false 11),
  o1 13 (.call 57 [(false, .s 12)] [] []),
  o1 14 (.fld 11 (.s 1)),
  o0 (.store 37 11 1 true 14 (.s 13))]
def g_recv_copied_3 : List (IStep2 RW) := [o1 15 (.fld 2 (.s 1)),
  o1 16 (.load 37 2 1 false false 15),
  o1 3 (.mv false (.s 16))]
def g_recv_copied_4 : List (IStep2 RW) := [o1 17 (.fld 2 (.s 1)),
  o0 (.store 37 2 1 true 17 (.k (.row true (.rPiece []))))]
def i_recv_copied_6 : IC2 RW := .seq (.fin (.reg g_recv_copied_0) [0] []) (.seq (.fin (.reg g_recv_copied_1) [6, 7, 8, 9, 10] []) (.seq (.fin (.reg g_recv_copied_2) [11, 12, 13, 14] []) (.seq (.fin (.reg g_recv_copied_3) [15, 16] []) (.seq (.fin (.reg g_recv_copied_4) [17] []) i_recv_copied_5))))
def fn_recv_copied : IFn2 RW := ⟨29, 1, 37, 80, [(37, 15), (53, 15), (69, 2)], [], [], [.cell 2 53 15 true], i_recv_copied_6⟩
def g_seq_Diff_0 : List (IStep2 RW) := [o1 4 (.mv false (.k (.sc (.int .i64 0))))]
def g_seq_Diff_1 : List (IStep2 RW) := [o1 5 (.mv false (.s 1)),
  o1 6 (.mv false (.s 0)),
  o1 7 (.bin .sub (.s 5) (.s 6)),
  o1 8 (.conv .i32 (.s 7)),
  o1 9 (.conv .i64 (.s 8)),
  o1 4 (.mv false (.s 9))]
def i_seq_Diff_0 : IC2 RW := .seq (.fin (.reg g_seq_Diff_0) [4] []) (.seq (.fin (.reg g_seq_Diff_1) [0, 1, 5, 6, 7, 8, 9] []) (.ret))
def fn_seq_Diff : IFn2 RW := ⟨31, 2, 10, 16, [], [], [], [.slot 4], i_seq_Diff_0⟩
def g_seq_Sum_0 : List (IStep2 RW) := [o1 4 (.mv false (.k (.sc (.int .i64 0))))]
def g_seq_Sum_1 : List (IStep2 RW) := [o1 6 (.mv false (.s 0)),
  o1 7 (.mv false (.s 1)),
  o1 8 (.bin .add (.s 6) (.s 7)),
  o1 5 (.mv false (.s 8))]
def g_seq_Sum_2 : List (IStep2 RW) := [o1 10 (.mv false (.s 0)),
  o1 11 (.bin .gtr (.s 10) (.k (.sc (.int .i64 0)))),
  o2 12 (.mv false (.s 11)),
  o3 13 12 true (.mv false (.s 1)),
  o3 14 12 true (.bin .gtr (.s 13) (.k (.sc (.int .i64 0)))),
  o1 15 (.pick (.s 12) (.s 14) (.k (.sc (.bool false)))),
  o2 16 (.mv false (.s 15)),
  o3 17 16 true (.mv false (.s 5)),
  o3 18 16 true (.bin .lss (.s 17) (.k (.sc (.int .i64 0)))),
  o1 19 (.pick (.s 16) (.s 18) (.k (.sc (.bool false)))),
  o1 9 (.mv false (.s 19))]
def g_seq_Sum_3 : List (IStep2 RW) := [o1 4 (.mv false (.k (.sc (.int .i64 9223372036854775807))))]
def g_seq_Sum_4 : List (IStep2 RW) := [o1 21 (.mv false (.s 0)),
  o1 22 (.bin .lss (.s 21) (.k (.sc (.int .i64 0)))),
  o2 23 (.mv false (.s 22)),
  o3 24 23 true (.mv false (.s 1)),
  o3 25 23 true (.bin .lss (.s 24) (.k (.sc (.int .i64 0)))),
  o1 26 (.pick (.s 23) (.s 25) (.k (.sc (.bool false)))),
  o2 27 (.mv false (.s 26)),
  o3 28 27 true (.mv false (.s 5)),
  o3 29 27 true (.bin .geq (.s 28) (.k (.sc (.int .i64 0)))),
  o1 30 (.pick (.s 27) (.s 29) (.k (.sc (.bool false)))),
  o1 20 (.mv false (.s 30))]
def g_seq_Sum_5 : List (IStep2 RW) := [o1 4 (.mv false (.k (.sc (.int .i64 (-9223372036854775808)))))]
def g_seq_Sum_6 : List (IStep2 RW) := [o1 31 (.mv false (.s 5)),
  o1 4 (.mv false (.s 31))]
def i_seq_Sum_0 : IC2 RW := .seq (.fin (.reg g_seq_Sum_0) [4] []) (.seq (.fin (.reg g_seq_Sum_1) [6, 7, 8] []) (.seq (.blk 0 (.seq (.fin (.reg g_seq_Sum_2) [10, 11, 12, 13, 14, 15, 16, 17, 18, 19] []) (.cond (.s 9) (.seq (.fin (.reg g_seq_Sum_3) [0, 1, 5, 9] []) (.ret)) (.seq (.fin (.reg g_seq_Sum_4) [0, 1, 9, 21, 22, 23, 24, 25, 26, 27, 28, 29, 30] []) (.fin (.cond (.s 20) (.seq (.fin (.reg g_seq_Sum_5) [5, 20] []) (.ret)) (.skip)) [20] []))))) (.seq (.fin (.reg g_seq_Sum_6) [5, 31] []) (.ret))))
def fn_seq_Sum : IFn2 RW := ⟨58, 2, 32, 32, [], [], [], [.slot 4], i_seq_Sum_0⟩
def g_seq_Unwrap_0 : List (IStep2 RW) := [o1 4 (.mv false (.k (.sc (.int .i64 0))))]
def g_seq_Unwrap_1 : List (IStep2 RW) := [o1 5 (.mv false (.s 0)),
  o1 6 (.mv false (.s 0)),
  o1 7 (.conv .u32 (.s 6)),
  o1 8 (.mv false (.s 1)),
  o1 9 (.call 31 [(false, .s 7), (false, .s 8)] [] []),
  o1 10 (.call 58 [(false, .s 5), (false, .s 9)] [] []),
  o1 4 (.mv false (.s 10))]
def i_seq_Unwrap_0 : IC2 RW := .seq (.fin (.reg g_seq_Unwrap_0) [4] []) (.seq (.fin (.reg g_seq_Unwrap_1) [0, 1, 5, 6, 7, 8, 9, 10] []) (.ret))
def fn_seq_Unwrap : IFn2 RW := ⟨30, 2, 11, 16, [], [], [], [.slot 4], i_seq_Unwrap_0⟩
def g_seq_Add_0 : List (IStep2 RW) := [o1 4 (.mv false (.k (.sc (.int .u32 0))))]
def g_seq_Add_1 : List (IStep2 RW) := [o1 5 (.mv false (.s 0)),
  o1 6 (.mv false (.s 1)),
  o1 7 (.conv .u32 (.s 6)),
  o1 8 (.bin .add (.s 5) (.s 7)),
  o1 4 (.mv false (.s 8))]
def i_seq_Add_0 : IC2 RW := .seq (.fin (.reg g_seq_Add_0) [4] []) (.seq (.fin (.reg g_seq_Add_1) [0, 1, 5, 6, 7, 8] []) (.ret))
def fn_seq_Add : IFn2 RW := ⟨36, 2, 9, 16, [], [], [], [.slot 4], i_seq_Add_0⟩
def g_recv_tell_10 : List (IStep2 RW) := [o1 42 (.bin .lss (.s 41) (.s 40))]
def g_recv_tell_11 : List (IStep2 RW) := [o1 43 (.idx 2 (.s 39) (.s 41)),
  o1 44 (.loade 2 true 43),
  o1 10 (.alloc 146 [.sc (.int .i64 0), .sc (.int .i64 0)]),
  o0 (.store 146 0 2 false 10 (.s 44))]
def g_recv_tell_12 : List (IStep2 RW) := [o1 45 (.fld 8 (.s 2)),
  o1 46 (.load 82 8 1 false false 45),
  o2 47 (.mv false (.s 46)),
  o3 48 47 true (.fld 13 (.s 7)),
  o3 49 47 true (.load 130 13 1 false false 48),
  o3 50 47 true (.len false (.s 49)),
  o3 51 47 true (.mv false (.s 8)),
  o3 52 47 true (.bin .lss (.s 50) (.s 51)),
  o1 53 (.pick (.s 47) (.s 52) (.k (.sc (.bool false))))]
def g_recv_tell_13 : List (IStep2 RW) := [o1 54 (.fld 13 (.s 7)),
  o1 55 (.load 130 13 1 false true 54),
  o1 56 (.fld 12 (.s 2)),
  o1 57 (.load 82 12 1 false false 56),
  o1 58 (.fld 0 (.s 10)),
  o1 59 (.load 146 0 1 false false 58),
  o1 60 (.call 36 [(false, .s 57), (false, .s 59)] [] []),
  o1 61 (.fld 12 (.s 2)),
  o1 62 (.load 82 12 1 false false 61),
  o1 63 (.fld 1 (.s 10)),
  o1 64 (.load 146 1 1 false false 63),
  o1 65 (.call 36 [(false, .s 62), (false, .s 64)] [] []),
  o1 66 (.build [.sc (.int .u32 0), .sc (.int .u32 0)] [(0, 1, .s 60), (1, 1, .s 65)]),
  o1 67 (.bslice 62 1 [(0, 2, .s 66)]),
  o1 68 (.app 2 8 true (.s 55) (.s 67)),
  o1 69 (.fld 13 (.s 7)),
  o0 (.store 130 13 1 true 69 (.s 68))]
def g_recv_tell_14 : List (IStep2 RW) := [o1 70 (.bin .add (.s 41) (.k (.sc (.int .i64 1)))),
  o1 41 (.mv false (.s 70))]
def i_recv_tell_0 : IC2 RW := .seq (.reg g_recv_tell_10) (.seq (.fin (.cond (.s 42) (.skip) (.clr [8, 39, 40, 41, 42] [] (.exit 0))) [42] []) (.seq (.blk 1 (.seq (.fin (.reg g_recv_tell_11) [43, 44] []) (.seq (.fin (.reg g_recv_tell_12) [45, 46, 47, 48, 49, 50, 51, 52] []) (.fin (.cond (.s 53) (.fin (.reg g_recv_tell_13) [10, 53, 54, 55, 56, 57, 58, 59, 60, 61, 62, 63, 64, 65, 66, 67, 68, 69] [(146, 2)]) (.skip)) [10, 53] [(146, 2)])))) (.fin (.reg g_recv_tell_14) [70] [])))
def i_recv_tell_1 : IC2 RW := .loop i_recv_tell_0
def i_recv_tell_2 : IC2 RW := .blk 0 i_recv_tell_1
def g_recv_tell_9 : List (IStep2 RW) := [o1 38 (.fld 11 (.s 2)),
  o1 39 (.load 82 11 1 false false 38),
  o1 40 (.len false (.s 39)),
  o1 41 (.mv false (.k (.sc (.int .i64 0))))]
def i_recv_tell_3 : IC2 RW := .seq (.fin (.reg g_recv_tell_9) [38] []) i_recv_tell_2
def g_recv_tell_15 : List (IStep2 RW) := [o1 71 (.fld 5 (.s 2)),
  o1 72 (.load 82 5 1 false false 71),
  o1 73 (.fld 0 (.s 2)),
  o1 74 (.load 82 0 1 false false 73),
  o1 75 (.load 82 0 15 true false 2),
  o1 76 (.call 49 [(false, .s 75)] [] []),
  o1 77 (.bin .add (.s 74) (.s 76)),
  o1 78 (.mnmx true [.s 72, .s 77]),
  o1 79 (.fld 5 (.s 2)),
  o0 (.store 82 5 1 false 79 (.s 78))]
def g_recv_tell_16 : List (IStep2 RW) := [o1 80 (.load 82 0 15 true true 2),
  o1 81 (.load 130 0 15 true true 7),
  o0 (.store 98 0 15 true 4 (.s 80)),
  o0 (.store 114 0 15 true 5 (.s 81))]
def i_recv_tell_4 : IC2 RW := .seq (.fin (.reg g_recv_tell_15) [71, 72, 73, 74, 75, 76, 77, 78, 79] []) (.seq (.fin (.reg g_recv_tell_16) [2, 7, 80, 81] [(82, 15), (130, 15)]) (.ret))
def i_recv_tell_5 : IC2 RW := .seq i_recv_tell_3 i_recv_tell_4
def g_recv_tell_0 : List (IStep2 RW) := [o1 2 (.box 82 15 true (.s 0)),
  o1 4 (.alloc 98 [.sc (.int .i64 0), .row true (.ruint8 []), .row true (.rPiece []), .sc (.int .i64 0), .sc (.int .i64 0), .sc (.int .i64 0), .sc (.int .u32 0), .sc (.bool false), .sc (.bool false), .sc (.int .i64 0), .sc (.bool false), .row true (.rSpan []), .sc (.int .u32 0), .sc (.int .u32 0), .sc (.bool false)]),
  o1 5 (.alloc 114 [.sc (.int .i64 0), .sc (.int .i64 0), .sc (.int .u32 0), .sc (.int .u32 0), .sc (.int .i64 0), .sc (.int .i64 0), .sc (.int .i64 0), .sc (.int .i64 0), .sc (.int .i64 0), .sc (.bool false), .sc (.bool false), .sc (.int .u32 0), .sc (.int .u32 0), .row true (.rBlock []), .row true (.ruint8 [])])]
def g_recv_tell_1 : List (IStep2 RW) := [o1 11 (.fld 0 (.s 2)),
  o1 12 (.load 82 0 1 false false 11),
  o1 6 (.mv false (.s 12))]
def g_recv_tell_2 : List (IStep2 RW) := [o1 13 (.fld 10 (.s 2)),
  o1 14 (.load 82 10 1 false false 13)]
def g_recv_tell_3 : List (IStep2 RW) := [o1 15 (.mv false (.s 6)),
  o1 16 (.bin .add (.s 15) (.k (.sc (.int .i64 1)))),
  o1 6 (.mv false (.s 16))]
def g_recv_tell_4 : List (IStep2 RW) := [o1 17 (.fld 13 (.s 2)),
  o1 18 (.load 82 13 1 false false 17),
  o1 19 (.fld 12 (.s 2)),
  o1 20 (.load 82 12 1 false false 19),
  o1 21 (.mv false (.s 6)),
  o1 22 (.call 36 [(false, .s 20), (false, .s 21)] [] []),
  o1 23 (.load 82 0 15 true false 2),
  o1 24 (.call 49 [(false, .s 23)] [] []),
  o1 25 (.fld 4 (.s 2)),
  o1 26 (.load 82 4 1 false false 25),
  o1 27 (.bin .shr (.s 24) (.s 26)),
  o1 28 (.mv true (.s 1)),
  o1 29 (.buildl [.sc (.int .i64 0), .sc (.int .i64 0), .sc (.int .u32 0), .sc (.int .u32 0), .sc (.int .i64 0), .sc (.int .i64 0), .sc (.int .i64 0), .sc (.int .i64 0), .sc (.int .i64 0), .sc (.bool false), .sc (.bool false), .sc (.int .u32 0), .sc (.int .u32 0), .row false (.rBlock []), .row false (.ruint8 [])] [(2, 1, .s 18), (3, 1, .s 22), (4, 1, .k (.sc (.int .i64 16))), (5, 1, .s 27), (7, 1, .k (.sc (.int .i64 (-1)))), (8, 1, .k (.sc (.int .i64 (-1)))), (13, 1, .s 28)] 13 28),
  o1 7 (.alloc 130 [.sc (.int .i64 0), .sc (.int .i64 0), .sc (.int .u32 0), .sc (.int .u32 0), .sc (.int .i64 0), .sc (.int .i64 0), .sc (.int .i64 0), .sc (.int .i64 0), .sc (.int .i64 0), .sc (.bool false), .sc (.bool false), .sc (.int .u32 0), .sc (.int .u32 0), .row true (.rBlock []), .row true (.ruint8 [])]),
  o0 (.store 130 0 15 true 7 (.s 29))]
def g_recv_tell_5 : List (IStep2 RW) := [o1 8 (.mv false (.k (.sc (.int .i64 4))))]
def g_recv_tell_6 : List (IStep2 RW) := [o1 30 (.fld 7 (.s 2)),
  o1 31 (.load 82 7 1 false false 30)]
def g_recv_tell_7 : List (IStep2 RW) := [o1 32 (.fld 6 (.s 2)),
  o1 33 (.load 82 6 1 false false 32),
  o1 34 (.fld 10 (.s 7)),
  o0 (.store 130 10 1 false 34 (.k (.sc (.bool true)))),
  o1 35 (.fld 12 (.s 7)),
  o0 (.store 130 12 1 false 35 (.s 33))]
def g_recv_tell_8 : List (IStep2 RW) := [o1 36 (.mv false (.s 8)),
  o1 37 (.bin .sub (.s 36) (.k (.sc (.int .i64 1)))),
  o1 8 (.mv false (.s 37))]
def i_recv_tell_6 : IC2 RW := .seq (.fin (.reg g_recv_tell_0) [0] []) (.seq (.fin (.reg g_recv_tell_1) [11, 12] []) (.seq (.seq (.fin (.reg g_recv_tell_2) [13] []) (.fin (.cond (.s 14) (.fin (.reg g_recv_tell_3) [14, 15, 16] []) (.skip)) [14] [])) (.seq (.fin (.reg g_recv_tell_4) [1, 6, 17, 18, 19, 20, 21, 22, 23, 24, 25, 26, 27, 28, 29] []) (.seq (.reg g_recv_tell_5) (.seq (.seq (.fin (.reg g_recv_tell_6) [30] []) (.fin (.cond (.s 31) (.seq (.fin (.reg g_recv_tell_7) [31, 32, 33, 34, 35] []) (.fin (.reg g_recv_tell_8) [36, 37] [])) (.skip)) [31] [])) i_recv_tell_5)))))
def fn_recv_tell : IFn2 RW := ⟨32, 2, 82, 160, [(82, 15), (98, 15), (114, 15), (130, 15), (146, 2)], [], [], [.cell 4 98 15 true, .cell 5 114 15 true], i_recv_tell_6⟩
def g_recv_end_3 : List (IStep2 RW) := [o1 6 (.alloc 50 [.sc (.int .i64 0), .sc (.int .i64 0)]),
  o0 (.store 50 0 2 false 6 (.s 11))]
def i_recv_end_0 : IC2 RW := .fin (.reg g_recv_end_3) [11] []
def g_recv_end_4 : List (IStep2 RW) := [o1 12 (.fld 1 (.s 6)),
  o1 13 (.load 50 1 1 false false 12),
  o0 (.store 48 0 1 false 5 (.s 13))]
def i_recv_end_1 : IC2 RW := .blk 1 (.fin (.reg g_recv_end_4) [6, 12, 13] [(50, 2)])
def i_recv_end_2 : IC2 RW := .seq i_recv_end_0 i_recv_end_1
def g_recv_end_1000 : List (IStep2 RW) := [o1 5 (.fld 2 (.s 1)),
  o1 6 (.load 53 2 1 false false 5),
  o1 7 (.len false (.s 6)),
  o1 8 (.mv false (.k (.sc (.int .i64 0))))]
def g_recv_end_1001 : List (IStep2 RW) := [o1 9 (.bin .lss (.s 8) (.s 7))]
def g_recv_end_1002 : List (IStep2 RW) := [o1 10 (.idx 2 (.s 6) (.s 8)),
  o1 11 (.loade 2 true 10),
  o1 4 (.alloc 69 [.sc (.int .i64 0), .row false (.ruint8 [])]),
  o0 (.store 69 0 2 false 4 (.s 11))]
def g_recv_end_10031 : List (IStep2 RW) := [o1 12 (.mv false (.s 0)),
  o1 13 (.load 69 0 2 true false 4),
  o1 14 (.call 71 [(false, .s 13)] [] [])]
def g_recv_end_10032 : List (IStep2 RW) := [o1 16 (.un .not (.s 15))]
def g_recv_end_1004 : List (IStep2 RW) := [o1 17 (.bin .add (.s 8) (.k (.sc (.int .i64 1)))),
  o1 8 (.mv false (.s 17))]
def i_recv_end_3 : IC2 RW := .seq (.fin (.reg g_recv_end_1000) [1, 5] []) (.blk 0 (.loop (.seq (.reg g_recv_end_1001) (.seq (.fin (.cond (.s 9) (.skip) (.clr [0, 6, 7, 8, 9] [] (.exit 0))) [9] []) (.seq (.blk 1 (.seq (.fin (.reg g_recv_end_1002) [10, 11] []) (.seq (.fin (.yreg g_recv_end_10031 (.s 12) [.s 14] none 15 g_recv_end_10032) [4, 12, 13, 14, 15] [(69, 2)]) (.fin (.cond (.s 16) (.clr [0, 6, 7, 8, 16] [] (.ret)) (.skip)) [16] [])))) (.fin (.reg g_recv_end_1004) [17] []))))))
def i_recv_end_4 : IC2 RW := .fin (.yreg g_recv_end_10031 (.s 12) [.s 14] none 15 g_recv_end_10032) [4, 12, 13, 14, 15] [(69, 2)]
def i_recv_end_5 : IC2 RW := .fin (.cond (.s 16) (.clr [0, 6, 7, 8, 16] [] (.ret)) (.skip)) [16] []
def i_recv_end_6 : IC2 RW := .seq i_recv_end_4 i_recv_end_5
def i_recv_end_7 : IC2 RW := .seq (.fin (.reg g_recv_end_1002) [10, 11] []) i_recv_end_6
def i_recv_end_8 : IC2 RW := .blk 1 i_recv_end_7
def i_recv_end_9 : IC2 RW := .fin (.reg g_recv_end_1004) [17] []
def i_recv_end_10 : IC2 RW := .seq i_recv_end_8 i_recv_end_9
def i_recv_end_11 : IC2 RW := .seq (.reg g_recv_end_1001) (.seq (.fin (.cond (.s 9) (.skip) (.clr [0, 6, 7, 8, 9] [] (.exit 0))) [9] []) i_recv_end_10)
def i_recv_end_12 : IC2 RW := .loop i_recv_end_11
def i_recv_end_13 : IC2 RW := .blk 0 i_recv_end_12
def i_recv_end_14 : IC2 RW := .fin (.rfn (.s 10) 70 2 18 [11] i_recv_end_3 i_recv_end_0 i_recv_end_1 [32, 48, 53] [32, 48, 53, 69]) [10] [(53, 15)]
def i_recv_end_15 : IC2 RW := .blk 0 i_recv_end_14
def g_recv_end_2 : List (IStep2 RW) := [o1 9 (.load 32 0 15 true false 2),
  o1 10 (.call 55 [(false, .s 9)] [] [(4, 15, 53)])]
def i_recv_end_16 : IC2 RW := .seq (.fin (.reg g_recv_end_2) [9] []) i_recv_end_15
def g_recv_end_5 : List (IStep2 RW) := [o1 14 (.fld 9 (.s 2)),
  o1 15 (.load 32 9 1 false false 14),
  o1 16 (.bin .lss (.s 15) (.k (.sc (.int .i64 0)))),
  o2 17 (.mv false (.s 16)),
  o3 18 17 true (.mv false (.s 1)),
  o3 19 17 true (.load 48 0 1 false false 5),
  o3 20 17 true (.bin .geq (.s 18) (.s 19)),
  o1 21 (.pick (.s 17) (.s 20) (.k (.sc (.bool false)))),
  o2 22 (.mv false (.s 21)),
  o3 23 22 true (.mv false (.s 1)),
  o3 24 22 true (.load 32 0 15 true false 2),
  o3 25 22 true (.call 53 [(false, .s 24)] [] []),
  o3 26 22 true (.bin .leq (.s 23) (.s 25)),
  o1 27 (.pick (.s 22) (.s 26) (.k (.sc (.bool false))))]
def g_recv_end_6 : List (IStep2 RW) := [o1 28 (.mv false (.s 1)),
  o1 4 (.mv false (.s 28))]
def g_recv_end_7 : List (IStep2 RW) := [o1 29 (.fld 9 (.s 2)),
  o1 30 (.load 32 9 1 false false 29),
  o1 4 (.mv false (.s 30))]
def i_recv_end_17 : IC2 RW := .seq (.seq (.fin (.reg g_recv_end_5) [5, 14, 15, 16, 17, 18, 19, 20, 21, 22, 23, 24, 25, 26] [(48, 1)]) (.fin (.cond (.s 27) (.seq (.fin (.reg g_recv_end_6) [1, 2, 27, 28] [(32, 15)]) (.ret)) (.skip)) [1, 27] [])) (.seq (.fin (.reg g_recv_end_7) [2, 29, 30] [(32, 15)]) (.ret))
def i_recv_end_18 : IC2 RW := .seq i_recv_end_16 i_recv_end_17
def g_recv_end_0 : List (IStep2 RW) := [o1 2 (.box 32 15 false (.s 0)),
  o1 4 (.mv false (.k (.sc (.int .i64 0))))]
def g_recv_end_1 : List (IStep2 RW) := [o1 7 (.fld 0 (.s 2)),
  o1 8 (.load 32 0 1 false false 7),
  o1 5 (.alloc 48 [.sc (.int .i64 0)]),
  o0 (.store 48 0 1 false 5 (.s 8))]
def i_recv_end_19 : IC2 RW := .seq (.fin (.reg g_recv_end_0) [0, 4] []) (.seq (.fin (.reg g_recv_end_1) [7, 8] []) i_recv_end_18)
def fn_recv_end : IFn2 RW := ⟨33, 2, 31, 80, [(32, 15), (48, 1), (50, 2), (53, 15), (69, 2)], [], [], [.slot 4], i_recv_end_19⟩
def g_span_may_0 : List (IStep2 RW) := [o1 1 (.box 18 2 false (.s 0)),
  o1 2 (.mv false (.k (.sc (.bool false))))]
def g_span_may_1 : List (IStep2 RW) := [o1 3 (.fld 0 (.s 1)),
  o1 4 (.load 18 0 1 false false 3),
  o1 5 (.bin .geq (.s 4) (.k (.sc (.int .i64 0)))),
  o2 6 (.mv false (.s 5)),
  o3 7 6 true (.fld 0 (.s 1)),
  o3 8 6 true (.load 18 0 1 false false 7),
  o3 9 6 true (.fld 1 (.s 1)),
  o3 10 6 true (.load 18 1 1 false false 9),
  o3 11 6 true (.bin .leq (.s 8) (.s 10)),
  o1 12 (.pick (.s 6) (.s 11) (.k (.sc (.bool false)))),
  o2 13 (.mv false (.s 12)),
  o3 14 13 true (.fld 1 (.s 1)),
  o3 15 13 true (.load 18 1 1 false false 14),
  o3 16 13 true (.bin .leq (.s 15) (.k (.sc (.int .i64 1125899906842624)))),
  o1 17 (.pick (.s 13) (.s 16) (.k (.sc (.bool false)))),
  o1 2 (.mv false (.s 17))]
def i_span_may_0 : IC2 RW := .seq (.fin (.reg g_span_may_0) [0, 2] []) (.seq (.fin (.reg g_span_may_1) [1, 3, 4, 5, 6, 7, 8, 9, 10, 11, 12, 13, 14, 15, 16, 17] [(18, 2)]) (.ret))
def fn_span_may : IFn2 RW := ⟨82, 1, 18, 32, [(18, 2)], [], [], [.slot 2], i_span_may_0⟩
def g_span_Check_2 : List (IStep2 RW) := [o1 8 (.bin .lss (.s 7) (.s 6))]
def g_span_Check_3 : List (IStep2 RW) := [o1 9 (.mv false (.s 7)),
  o1 10 (.idx 2 (.s 5) (.s 7)),
  o1 11 (.loade 2 true 10),
  o1 4 (.alloc 38 [.sc (.int .i64 0), .sc (.int .i64 0)]),
  o1 3 (.mv false (.s 9)),
  o0 (.store 38 0 2 false 4 (.s 11))]
def g_span_Check_4 : List (IStep2 RW) := [o1 12 (.load 38 0 2 true false 4),
  o1 13 (.call 82 [(false, .s 12)] [] []),
  o1 14 (.un .not (.s 13)),
  o2 15 (.mv false (.s 14)),
  o3 16 15 false (.fld 0 (.s 4)),
  o3 17 15 false (.load 38 0 1 false false 16),
  o3 18 15 false (.fld 1 (.s 4)),
  o3 19 15 false (.load 38 1 1 false false 18),
  o3 20 15 false (.bin .eql (.s 17) (.s 19)),
  o1 21 (.pick (.s 15) (.k (.sc (.bool true))) (.s 20)),
  o2 22 (.mv false (.s 21)),
  o3 23 22 false (.mv false (.s 3)),
  o3 24 22 false (.bin .gtr (.s 23) (.k (.sc (.int .i64 0)))),
  ⟨some 25, .mv false (.s 24), (some (22, false)), true⟩,
  o3 26 25 true (.mv false (.s 0)),
  o3 27 25 true (.mv false (.s 3)),
  o3 28 25 true (.bin .sub (.s 27) (.k (.sc (.int .i64 1)))),
  o3 29 25 true (.idx 2 (.s 26) (.s 28)),
  o3 30 25 true (.fld 1 (.s 29)),
  o3 31 25 true (.loade 1 false 30),
  o3 32 25 true (.fld 0 (.s 4)),
  o3 33 25 true (.load 38 0 1 false false 32),
  o3 34 25 true (.bin .geq (.s 31) (.s 33)),
  o3 35 22 false (.pick (.s 25) (.s 34) (.k (.sc (.bool false)))),
  o1 36 (.pick (.s 22) (.k (.sc (.bool true))) (.s 35))]
def g_span_Check_5 : List (IStep2 RW) := [o1 2 (.mv false (.k (.sc (.int .i64 60))))]
def g_span_Check_6 : List (IStep2 RW) := [o1 37 (.bin .add (.s 7) (.k (.sc (.int .i64 1)))),
  o1 7 (.mv false (.s 37))]
def i_span_Check_0 : IC2 RW := .seq (.reg g_span_Check_2) (.seq (.fin (.cond (.s 8) (.skip) (.clr [0, 5, 6, 7, 8] [] (.exit 0))) [8] []) (.seq (.blk 1 (.seq (.fin (.reg g_span_Check_3) [9, 10, 11] []) (.seq (.fin (.reg g_span_Check_4) [3, 4, 12, 13, 14, 15, 16, 17, 18, 19, 20, 21, 22, 23, 24, 25, 26, 27, 28, 29, 30, 31, 32, 33, 34, 35] [(38, 2)]) (.fin (.cond (.s 36) (.seq (.fin (.reg g_span_Check_5) [0, 5, 6, 7, 36] []) (.ret)) (.skip)) [36] [])))) (.fin (.reg g_span_Check_6) [37] [])))
def i_span_Check_1 : IC2 RW := .loop i_span_Check_0
def i_span_Check_2 : IC2 RW := .blk 0 i_span_Check_1
def g_span_Check_1 : List (IStep2 RW) := [o1 5 (.mv false (.s 0)),
  o1 6 (.len false (.s 5)),
  o1 7 (.mv false (.k (.sc (.int .i64 0))))]
def i_span_Check_3 : IC2 RW := .seq (.reg g_span_Check_1) i_span_Check_2
def g_span_Check_7 : List (IStep2 RW) := [o1 2 (.mv false (.k (.sc (.int .i64 0))))]
def i_span_Check_4 : IC2 RW := .seq (.reg g_span_Check_7) (.ret)
def i_span_Check_5 : IC2 RW := .seq i_span_Check_3 i_span_Check_4
def g_span_Check_0 : List (IStep2 RW) := [o1 2 (.mv false (.k (.sc (.int .i64 0))))]
def i_span_Check_6 : IC2 RW := .seq (.fin (.reg g_span_Check_0) [2] []) i_span_Check_5
def fn_span_Check : IFn2 RW := ⟨78, 1, 38, 48, [(38, 2)], [], [], [.slot 2], i_span_Check_6⟩
def g_span_within_0 : List (IStep2 RW) := [o1 2 (.box 6 1 false (.s 0)),
  o1 3 (.box 8 2 false (.s 1)),
  o1 4 (.mv false (.k (.sc .nilFunc)))]
def g_span_within_1 : List (IStep2 RW) := [o1 5 (.mkclo 83 [.s 2, .s 3]),
  o1 4 (.mv false (.s 5))]
def i_span_within_0 : IC2 RW := .seq (.fin (.reg g_span_within_0) [0, 1, 4] []) (.seq (.fin (.reg g_span_within_1) [2, 3, 5] []) (.ret))
def fn_span_within : IFn2 RW := ⟨79, 2, 6, 16, [(6, 1), (8, 2)], [], [(6, 1), (8, 2)], [.slot 4], i_span_within_0⟩
def g_span_Gaps_6 : List (IStep2 RW) := [o1 7 (.alloc 71 [.sc (.int .i64 0), .sc (.int .i64 0)]),
  o0 (.store 71 0 2 false 7 (.s 23))]
def i_span_Gaps_0 : IC2 RW := .fin (.reg g_span_Gaps_6) [23] []
def g_span_Gaps_7 : List (IStep2 RW) := [o1 24 (.load 69 0 1 false false 6),
  o1 25 (.fld 0 (.s 7)),
  o1 26 (.load 71 0 1 false false 25),
  o1 27 (.bin .lss (.s 24) (.s 26))]
def g_span_Gaps_8 : List (IStep2 RW) := [o1 28 (.load 67 0 1 false true 5),
  o1 29 (.load 69 0 1 false false 6),
  o1 30 (.fld 0 (.s 7)),
  o1 31 (.load 71 0 1 false false 30),
  o1 32 (.build [.sc (.int .i64 0), .sc (.int .i64 0)] [(0, 1, .s 29), (1, 1, .s 31)]),
  o1 33 (.bslice 78 1 [(0, 2, .s 32)]),
  o1 34 (.app 2 16 true (.s 28) (.s 33)),
  o0 (.store 67 0 1 true 5 (.s 34))]
def g_span_Gaps_9 : List (IStep2 RW) := [o1 35 (.fld 1 (.s 7)),
  o1 36 (.load 71 1 1 false false 35),
  o0 (.store 69 0 1 false 6 (.s 36))]
def i_span_Gaps_1 : IC2 RW := .blk 1 (.seq (.seq (.fin (.reg g_span_Gaps_7) [24, 25, 26] []) (.fin (.cond (.s 27) (.fin (.reg g_span_Gaps_8) [27, 28, 29, 30, 31, 32, 33, 34] []) (.skip)) [27] [])) (.fin (.reg g_span_Gaps_9) [7, 35, 36] [(71, 2)]))
def i_span_Gaps_2 : IC2 RW := .seq i_span_Gaps_0 i_span_Gaps_1
def g_span_Gaps_1000 : List (IStep2 RW) := [o1 7 (.load 74 0 1 false false 1),
  o1 8 (.len false (.s 7)),
  o1 9 (.mv false (.k (.sc (.int .i64 0))))]
def g_span_Gaps_1001 : List (IStep2 RW) := [o1 10 (.bin .lss (.s 9) (.s 8))]
def g_span_Gaps_1002 : List (IStep2 RW) := [o1 11 (.idx 2 (.s 7) (.s 9)),
  o1 12 (.loade 2 true 11),
  o1 5 (.alloc 79 [.sc (.int .i64 0), .sc (.int .i64 0)]),
  o0 (.store 79 0 2 false 5 (.s 12))]
def g_span_Gaps_1003 : List (IStep2 RW) := [o1 13 (.fld 0 (.s 5)),
  o1 14 (.load 79 0 1 false false 13),
  o1 15 (.fld 0 (.s 2)),
  o1 16 (.load 76 0 1 false false 15),
  o1 17 (.mnmx true [.s 14, .s 16]),
  o1 18 (.fld 1 (.s 5)),
  o1 19 (.load 79 1 1 false false 18),
  o1 20 (.fld 1 (.s 2)),
  o1 21 (.load 76 1 1 false false 20),
  o1 22 (.mnmx false [.s 19, .s 21]),
  o1 23 (.build [.sc (.int .i64 0), .sc (.int .i64 0)] [(0, 1, .s 17), (1, 1, .s 22)]),
  o1 6 (.alloc 82 [.sc (.int .i64 0), .sc (.int .i64 0)]),
  o0 (.store 82 0 2 false 6 (.s 23))]
def g_span_Gaps_10041 : List (IStep2 RW) := [o1 24 (.fld 0 (.s 6)),
  o1 25 (.load 82 0 1 false false 24),
  o1 26 (.fld 1 (.s 6)),
  o1 27 (.load 82 1 1 false false 26),
  o1 28 (.bin .lss (.s 25) (.s 27)),
  o2 29 (.mv false (.s 28)),
  o3 30 29 true (.mv false (.s 0)),
  o3 31 29 true (.load 82 0 2 true false 6)]
def g_span_Gaps_10042 : List (IStep2 RW) := [o3 33 29 true (.un .not (.s 32)),
  o1 34 (.pick (.s 29) (.s 33) (.k (.sc (.bool false))))]
def g_span_Gaps_1005 : List (IStep2 RW) := [o1 35 (.bin .add (.s 9) (.k (.sc (.int .i64 1)))),
  o1 9 (.mv false (.s 35))]
def i_span_Gaps_3 : IC2 RW := .seq (.fin (.reg g_span_Gaps_1000) [1] []) (.blk 0 (.loop (.seq (.reg g_span_Gaps_1001) (.seq (.fin (.cond (.s 10) (.skip) (.clr [0, 2, 7, 8, 9, 10] [] (.exit 0))) [10] []) (.seq (.blk 1 (.seq (.fin (.reg g_span_Gaps_1002) [11, 12] []) (.seq (.fin (.reg g_span_Gaps_1003) [5, 13, 14, 15, 16, 17, 18, 19, 20, 21, 22, 23] [(79, 2)]) (.seq (.fin (.yreg g_span_Gaps_10041 (.s 30) [.s 31] (some (29, true)) 32 g_span_Gaps_10042) [6, 24, 25, 26, 27, 28, 29, 30, 31, 32, 33] [(82, 2)]) (.fin (.cond (.s 34) (.clr [0, 2, 7, 8, 9, 34] [] (.ret)) (.skip)) [34] []))))) (.fin (.reg g_span_Gaps_1005) [35] []))))))
def i_span_Gaps_4 : IC2 RW := .fin (.yreg g_span_Gaps_10041 (.s 30) [.s 31] (some (29, true)) 32 g_span_Gaps_10042) [6, 24, 25, 26, 27, 28, 29, 30, 31, 32, 33] [(82, 2)]
def i_span_Gaps_5 : IC2 RW := .fin (.cond (.s 34) (.clr [0, 2, 7, 8, 9, 34] [] (.ret)) (.skip)) [34] []
def i_span_Gaps_6 : IC2 RW := .seq i_span_Gaps_4 i_span_Gaps_5
def i_span_Gaps_7 : IC2 RW := .seq (.fin (.reg g_span_Gaps_1002) [11, 12] []) (.seq (.fin (.reg g_span_Gaps_1003) [5, 13, 14, 15, 16, 17, 18, 19, 20, 21, 22, 23] [(79, 2)]) i_span_Gaps_6)
def i_span_Gaps_8 : IC2 RW := .blk 1 i_span_Gaps_7
def i_span_Gaps_9 : IC2 RW := .fin (.reg g_span_Gaps_1005) [35] []
def i_span_Gaps_10 : IC2 RW := .seq i_span_Gaps_8 i_span_Gaps_9
def i_span_Gaps_11 : IC2 RW := .seq (.reg g_span_Gaps_1001) (.seq (.fin (.cond (.s 10) (.skip) (.clr [0, 2, 7, 8, 9, 10] [] (.exit 0))) [10] []) i_span_Gaps_10)
def i_span_Gaps_12 : IC2 RW := .loop i_span_Gaps_11
def i_span_Gaps_13 : IC2 RW := .blk 0 i_span_Gaps_12
def i_span_Gaps_14 : IC2 RW := .fin (.rfn (.s 22) 83 4 36 [23] i_span_Gaps_3 i_span_Gaps_0 i_span_Gaps_1 [64, 67, 69, 74, 76] [64, 67, 69, 74, 76, 79, 82]) [22] [(74, 1), (76, 2)]
def i_span_Gaps_15 : IC2 RW := .blk 0 i_span_Gaps_14
def g_span_Gaps_5 : List (IStep2 RW) := [o1 20 (.mv false (.s 0)),
  o1 21 (.load 64 0 2 true false 3),
  o1 22 (.call 79 [(false, .s 20), (false, .s 21)] [] [(6, 1, 74), (8, 2, 76)])]
def i_span_Gaps_16 : IC2 RW := .seq (.fin (.reg g_span_Gaps_5) [0, 20, 21] []) i_span_Gaps_15
def g_span_Gaps_10 : List (IStep2 RW) := [o1 37 (.load 69 0 1 false false 6),
  o1 38 (.fld 1 (.s 3)),
  o1 39 (.load 64 1 1 false false 38),
  o1 40 (.bin .lss (.s 37) (.s 39))]
def g_span_Gaps_11 : List (IStep2 RW) := [o1 41 (.load 67 0 1 false true 5),
  o1 42 (.load 69 0 1 false false 6),
  o1 43 (.fld 1 (.s 3)),
  o1 44 (.load 64 1 1 false false 43),
  o1 45 (.build [.sc (.int .i64 0), .sc (.int .i64 0)] [(0, 1, .s 42), (1, 1, .s 44)]),
  o1 46 (.bslice 78 1 [(0, 2, .s 45)]),
  o1 47 (.app 2 16 true (.s 41) (.s 46)),
  o0 (.store 67 0 1 true 5 (.s 47))]
def g_span_Gaps_12 : List (IStep2 RW) := [o1 48 (.load 67 0 1 false false 5),
  o1 4 (.mv false (.s 48))]
def i_span_Gaps_17 : IC2 RW := .seq (.seq (.fin (.reg g_span_Gaps_10) [37, 38, 39] []) (.fin (.cond (.s 40) (.fin (.reg g_span_Gaps_11) [3, 6, 40, 41, 42, 43, 44, 45, 46, 47] [(64, 2), (69, 1)]) (.skip)) [3, 6, 40] [(64, 2), (69, 1)])) (.seq (.fin (.reg g_span_Gaps_12) [5, 48] [(67, 1)]) (.ret))
def i_span_Gaps_18 : IC2 RW := .seq i_span_Gaps_16 i_span_Gaps_17
def g_span_Gaps_0 : List (IStep2 RW) := [o1 3 (.box 64 2 false (.s 1)),
  o1 4 (.mv false (.k (.row false (.rSpan []))))]
def g_span_Gaps_1 : List (IStep2 RW) := [o1 8 (.mv false (.s 0)),
  o1 9 (.call 78 [(false, .s 8)] [] []),
  o1 10 (.bin .neq (.s 9) (.k (.sc (.int .i64 0)))),
  o2 11 (.mv false (.s 10)),
  o3 12 11 false (.fld 0 (.s 3)),
  o3 13 11 false (.load 64 0 1 false false 12),
  o3 14 11 false (.fld 1 (.s 3)),
  o3 15 11 false (.load 64 1 1 false false 14),
  o3 16 11 false (.bin .geq (.s 13) (.s 15)),
  o1 17 (.pick (.s 11) (.k (.sc (.bool true))) (.s 16))]
def g_span_Gaps_2 : List (IStep2 RW) := [o1 4 (.mv false (.k (.row false (.rSpan []))))]
def g_span_Gaps_3 : List (IStep2 RW) := [o1 5 (.alloc 67 [.row true (.rSpan [])])]
def g_span_Gaps_4 : List (IStep2 RW) := [o1 18 (.fld 0 (.s 3)),
  o1 19 (.load 64 0 1 false false 18),
  o1 6 (.alloc 69 [.sc (.int .i64 0)]),
  o0 (.store 69 0 1 false 6 (.s 19))]
def i_span_Gaps_19 : IC2 RW := .seq (.fin (.reg g_span_Gaps_0) [1, 4] []) (.seq (.seq (.fin (.reg g_span_Gaps_1) [8, 9, 10, 11, 12, 13, 14, 15, 16] []) (.fin (.cond (.s 17) (.seq (.fin (.reg g_span_Gaps_2) [0, 3, 17] [(64, 2)]) (.ret)) (.skip)) [17] [])) (.seq (.reg g_span_Gaps_3) (.seq (.fin (.reg g_span_Gaps_4) [18, 19] []) i_span_Gaps_18)))
def fn_span_Gaps : IFn2 RW := ⟨61, 2, 49, 96, [(64, 2), (67, 1), (69, 1), (71, 2), (74, 1), (76, 2), (79, 2), (82, 2)], [], [], [.slot 4], i_span_Gaps_19⟩
def g_recv_put_1_0 : List (IStep2 RW) := [o1 2 (.box 9 2 false (.s 0)),
  o1 4 (.mv false (.k (.sc (.int .i64 0))))]
def g_recv_put_1_1 : List (IStep2 RW) := [o1 5 (.fld 0 (.s 2)),
  o1 6 (.load 9 0 1 false false 5),
  o1 7 (.mv false (.s 1)),
  o1 8 (.bin .sub (.s 6) (.s 7)),
  o1 4 (.mv false (.s 8))]
def i_recv_put_1_0 : IC2 RW := .seq (.fin (.reg g_recv_put_1_0) [0, 4] []) (.seq (.fin (.reg g_recv_put_1_1) [1, 2, 5, 6, 7, 8] [(9, 2)]) (.ret))
def fn_recv_put_1 : IFn2 RW := ⟨74, 2, 9, 16, [(9, 2)], [], [], [.slot 4], i_recv_put_1_0⟩
def g_slices_BinarySearchFunc_Piece_3 : List (IStep2 RW) := [o1 15 (.mv false (.s 9)),
  o1 16 (.mv false (.s 10)),
  o1 17 (.bin .lss (.s 15) (.s 16))]
def g_slices_BinarySearchFunc_Piece_4 : List (IStep2 RW) := [o1 18 (.mv false (.s 9)),
  o1 19 (.mv false (.s 10)),
  o1 20 (.bin .add (.s 18) (.s 19)),
  o1 21 (.conv .u64 (.s 20)),
  o1 22 (.bin .shr (.s 21) (.k (.sc (.int .u64 1)))),
  o1 23 (.conv .i64 (.s 22)),
  o1 11 (.mv false (.s 23))]
def g_slices_BinarySearchFunc_Piece_5 : List (IStep2 RW) := [o1 24 (.mv false (.s 2)),
  o1 25 (.mv false (.s 0)),
  o1 26 (.mv false (.s 11)),
  o1 27 (.idx 2 (.s 25) (.s 26)),
  o1 28 (.loade 2 true 27),
  o1 29 (.mv false (.s 1)),
  o1 30 (.callv (.s 24) 74 74 [(false, .s 28), (false, .s 29)] [] []),
  o1 31 (.bin .lss (.s 30) (.k (.sc (.int .i64 0))))]
def g_slices_BinarySearchFunc_Piece_6 : List (IStep2 RW) := [o1 32 (.mv false (.s 11)),
  o1 33 (.bin .add (.s 32) (.k (.sc (.int .i64 1)))),
  o1 9 (.mv false (.s 33))]
def g_slices_BinarySearchFunc_Piece_7 : List (IStep2 RW) := [o1 34 (.mv false (.s 11)),
  o1 10 (.mv false (.s 34))]
def i_slices_BinarySearchFunc_Piece_0 : IC2 RW := .seq (.seq (.fin (.reg g_slices_BinarySearchFunc_Piece_3) [15, 16] []) (.fin (.cond (.s 17) (.skip) (.clr [10, 17] [] (.exit 0))) [17] [])) (.blk 1 (.seq (.fin (.reg g_slices_BinarySearchFunc_Piece_4) [18, 19, 20, 21, 22, 23] []) (.seq (.fin (.reg g_slices_BinarySearchFunc_Piece_5) [24, 25, 26, 27, 28, 29, 30] []) (.cond (.s 31) (.fin (.reg g_slices_BinarySearchFunc_Piece_6) [11, 31, 32, 33] []) (.fin (.reg g_slices_BinarySearchFunc_Piece_7) [11, 31, 34] [])))))
def i_slices_BinarySearchFunc_Piece_1 : IC2 RW := .loop i_slices_BinarySearchFunc_Piece_0
def i_slices_BinarySearchFunc_Piece_2 : IC2 RW := .blk 0 i_slices_BinarySearchFunc_Piece_1
def g_slices_BinarySearchFunc_Piece_8 : List (IStep2 RW) := [o1 35 (.mv false (.s 9)),
  o1 36 (.mv false (.s 9)),
  o1 37 (.mv false (.s 8)),
  o1 38 (.bin .lss (.s 36) (.s 37)),
  o2 39 (.mv false (.s 38)),
  o3 40 39 true (.mv false (.s 2)),
  o3 41 39 true (.mv false (.s 0)),
  o3 42 39 true (.mv false (.s 9)),
  o3 43 39 true (.idx 2 (.s 41) (.s 42)),
  o3 44 39 true (.loade 2 true 43),
  o3 45 39 true (.mv false (.s 1)),
  o3 46 39 true (.callv (.s 40) 74 74 [(false, .s 44), (false, .s 45)] [] []),
  o3 47 39 true (.bin .eql (.s 46) (.k (.sc (.int .i64 0)))),
  o1 48 (.pick (.s 39) (.s 47) (.k (.sc (.bool false)))),
  o1 6 (.mv false (.s 35)),
  o1 7 (.mv false (.s 48))]
def i_slices_BinarySearchFunc_Piece_3 : IC2 RW := .seq (.fin (.reg g_slices_BinarySearchFunc_Piece_8) [0, 1, 2, 8, 9, 35, 36, 37, 38, 39, 40, 41, 42, 43, 44, 45, 46, 47, 48] []) (.ret)
def i_slices_BinarySearchFunc_Piece_4 : IC2 RW := .seq i_slices_BinarySearchFunc_Piece_2 i_slices_BinarySearchFunc_Piece_3
def g_slices_BinarySearchFunc_Piece_0 : List (IStep2 RW) := [o1 6 (.mv false (.k (.sc (.int .i64 0)))),
  o1 7 (.mv false (.k (.sc (.bool false))))]
def g_slices_BinarySearchFunc_Piece_1 : List (IStep2 RW) := [o1 12 (.mv false (.s 0)),
  o1 13 (.len false (.s 12)),
  o1 8 (.mv false (.s 13))]
def g_slices_BinarySearchFunc_Piece_2 : List (IStep2 RW) := [o1 14 (.mv false (.s 8)),
  o1 9 (.mv false (.k (.sc (.int .i64 0)))),
  o1 10 (.mv false (.s 14))]
def i_slices_BinarySearchFunc_Piece_5 : IC2 RW := .seq (.fin (.reg g_slices_BinarySearchFunc_Piece_0) [6, 7] []) (.seq (.fin (.reg g_slices_BinarySearchFunc_Piece_1) [12, 13] []) (.seq (.fin (.reg g_slices_BinarySearchFunc_Piece_2) [14] []) i_slices_BinarySearchFunc_Piece_4))
def fn_slices_BinarySearchFunc_Piece : IFn2 RW := ⟨73, 3, 49, 64, [], [], [], [.slot 6, .slot 7], i_slices_BinarySearchFunc_Piece_5⟩
/-! slices.Clone[[]tideway/api.Piece,tideway/api.Piece] -/
def g_slices_Clone_Piece_0 : List IStep := [⟨(some 2), .unew (.un none 2 0 (fun _ => [.sc (.int .i64 0), .row false 1 0 (fun _ => [.sc (.int .u8 0)])])), none, false⟩]
def g_slices_Clone_Piece_1 : List IStep := [⟨(some 3), .mv false (.s 0), none, false⟩,
  ⟨(some 4), .nilq false (.s 3), none, false⟩]
def g_slices_Clone_Piece_2 : List IStep := [⟨(some 2), .unew (.un none 2 0 (fun _ => [.sc (.int .i64 0), .row false 1 0 (fun _ => [.sc (.int .u8 0)])])), none, false⟩]
def g_slices_Clone_Piece_3 : List IStep := [⟨(some 5), .bslice 2 0 [.sc (.int .i64 0), .row false 1 0 (fun _ => [.sc (.int .u8 0)])] [], none, false⟩,
  ⟨(some 6), .mv false (.s 0), none, false⟩,
  ⟨(some 7), .uapp 2 32 (.s 5) (.s 6), none, false⟩,
  ⟨(some 2), .mv true (.s 7), none, false⟩]
def fn_slices_Clone_Piece : IFn := ⟨76, 1, 8, 8, [], [], [], [.slot 2],
  .seq (.fin (.reg g_slices_Clone_Piece_0) [2] []) (.seq (.seq (.fin (.reg g_slices_Clone_Piece_1) [3] []) (.fin (.cond (.s 4) (.seq (.fin (.reg g_slices_Clone_Piece_2) [0, 4] []) (.ret)) (.skip)) [4] [])) (.seq (.fin (.reg g_slices_Clone_Piece_3) [0, 5, 6, 7] []) (.ret)))⟩

def fn_slices_Insert_Piece : IFn := ⟨75, 3, 95, 3, [], [], [], [], .plug 2 32⟩
def g_slices_Clip_byte_0 : List (IStep2 RW) := [o1 2 (.mv true (.k (.row true (.ruint8 []))))]
def g_slices_Clip_byte_1 : List (IStep2 RW) := [o1 3 (.mv false (.s 0)),
  o1 4 (.mv false (.s 0)),
  o1 5 (.len false (.s 4)),
  o1 6 (.mv false (.s 0)),
  o1 7 (.len false (.s 6)),
  o1 8 (.slice 1 (.s 3) none (some (.s 5)) (some (.s 7))),
  o1 2 (.mv true (.s 8))]
def i_slices_Clip_byte_0 : IC2 RW := .seq (.fin (.reg g_slices_Clip_byte_0) [2] []) (.seq (.fin (.reg g_slices_Clip_byte_1) [0, 3, 4, 5, 6, 7, 8] []) (.ret))
def fn_slices_Clip_byte : IFn2 RW := ⟨77, 1, 9, 16, [], [], [], [.slot 2], i_slices_Clip_byte_0⟩
def g_recv_put_5 : List (IStep2 RW) := [o1 32 (.bin .lss (.s 31) (.s 30))]
def g_recv_put_6 : List (IStep2 RW) := [o1 33 (.idx 2 (.s 29) (.s 31)),
  o1 34 (.loade 2 true 33),
  o1 9 (.alloc 75 [.sc (.int .i64 0), .row false (.ruint8 [])]),
  o0 (.store 75 0 2 false 9 (.s 34))]
def g_recv_put_7 : List (IStep2 RW) := [o1 35 (.ualias (.s 7)),
  o1 36 (.len false (.s 35)),
  o1 10 (.mv false (.s 36))]
def g_recv_put_8 : List (IStep2 RW) := [o1 37 (.mv false (.s 10)),
  o1 38 (.bin .gtr (.s 37) (.k (.sc (.int .i64 0)))),
  o2 39 (.mv false (.s 38)),
  o3 40 39 true (.ualias (.s 7)),
  o3 41 39 true (.mv false (.s 10)),
  o3 42 39 true (.bin .sub (.s 41) (.k (.sc (.int .i64 1)))),
  o3 43 39 true (.uidx 2 (.s 40) (.s 42)),
  o3 44 39 true (.uload 7 2 true 43),
  o3 45 39 true (.call 71 [(false, .s 44)] [] []),
  o3 46 39 true (.fieldv 1 1 false (.s 45)),
  o3 47 39 true (.fld 0 (.s 9)),
  o3 48 39 true (.load 75 0 1 false false 47),
  o3 49 39 true (.bin .eql (.s 46) (.s 48)),
  o1 50 (.pick (.s 39) (.s 49) (.k (.sc (.bool false))))]
def g_recv_put_9 : List (IStep2 RW) := [o1 51 (.ualias (.s 7)),
  o1 52 (.mv false (.s 10)),
  o1 53 (.bin .sub (.s 52) (.k (.sc (.int .i64 1)))),
  o1 54 (.ualias (.s 7)),
  o1 55 (.mv false (.s 10)),
  o1 56 (.bin .sub (.s 55) (.k (.sc (.int .i64 1)))),
  o1 57 (.uidx 2 (.s 54) (.s 56)),
  o1 58 (.fld 1 (.s 57)),
  o1 59 (.uload 7 1 false 58),
  o1 60 (.call 77 [(false, .s 59)] [] []),
  o1 61 (.fld 1 (.s 9)),
  o1 62 (.load 75 1 1 false false 61),
  o1 63 (.app 1 1 true (.s 60) (.s 62)),
  o1 64 (.uidx 2 (.s 51) (.s 53)),
  o1 65 (.fld 1 (.s 64)),
  o0 (.ustore 7 1 65 (.s 63))]
def g_recv_put_10 : List (IStep2 RW) := [o1 66 (.mv true (.s 7)),
  o1 67 (.load 75 0 2 true false 9),
  o1 68 (.bslice 74 1 [(0, 2, .s 67)]),
  o1 69 (.uapp 2 32 (.s 66) (.s 68)),
  o1 7 (.mv true (.s 69))]
def g_recv_put_11 : List (IStep2 RW) := [o1 70 (.bin .add (.s 31) (.k (.sc (.int .i64 1)))),
  o1 31 (.mv false (.s 70))]
def i_recv_put_0 : IC2 RW := .seq (.reg g_recv_put_5) (.seq (.fin (.cond (.s 32) (.skip) (.clr [29, 30, 31, 32] [] (.exit 0))) [32] []) (.seq (.blk 1 (.seq (.fin (.reg g_recv_put_6) [33, 34] []) (.seq (.seq (.brw 7 (.fin (.reg g_recv_put_7) [35, 36] [])) (.seq (.brw 7 (.fin (.reg g_recv_put_8) [37, 38, 39, 40, 41, 42, 43, 44, 45, 46, 47, 48, 49] [])) (.fin (.cond (.s 50) (.seq (.brw 7 (.fin (.reg g_recv_put_9) [9, 10, 50, 51, 52, 53, 54, 55, 56, 57, 58, 59, 60, 61, 62, 63, 64, 65] [(75, 2)])) (.exit 1)) (.skip)) [10, 50] []))) (.fin (.reg g_recv_put_10) [9, 66, 67, 68, 69] [(75, 2)])))) (.fin (.reg g_recv_put_11) [70] [])))
def i_recv_put_1 : IC2 RW := .loop i_recv_put_0
def i_recv_put_2 : IC2 RW := .blk 0 i_recv_put_1
def g_recv_put_4 : List (IStep2 RW) := [o1 29 (.mv false (.s 0)),
  o1 30 (.len false (.s 29)),
  o1 31 (.mv false (.k (.sc (.int .i64 0))))]
def i_recv_put_3 : IC2 RW := .seq (.fin (.reg g_recv_put_4) [0] []) i_recv_put_2
def g_recv_put_12 : List (IStep2 RW) := [o1 71 (.mv true (.s 7)),
  o1 4 (.ufrz (.s 71))]
def i_recv_put_4 : IC2 RW := .seq (.fin (.reg g_recv_put_12) [7, 71] []) (.ret)
def i_recv_put_5 : IC2 RW := .seq i_recv_put_3 i_recv_put_4
def g_recv_put_0 : List (IStep2 RW) := [o1 3 (.box 72 2 false (.s 1)),
  o1 4 (.mv true (.k (.row true (.rPiece []))))]
def g_recv_put_1 : List (IStep2 RW) := [o1 12 (.mv false (.s 0)),
  o1 13 (.fld 0 (.s 3)),
  o1 14 (.load 72 0 1 false false 13),
  o1 15 (.call 1031 [(false, .s 12), (false, .s 14), (false, .k (.clo 74 []))] [] []),
  o1 11 (.mv false (.s 15)),
  o1 16 (.ext false 0 (.s 11)),
  o1 17 (.ext false 1 (.s 11)),
  o1 5 (.mv false (.s 16)),
  o1 6 (.mv false (.s 17))]
def g_recv_put_2 : List (IStep2 RW) := [o1 18 (.mv false (.s 0)),
  o1 19 (.call 1033 [(false, .s 18)] [] []),
  o1 20 (.mv false (.s 5)),
  o1 21 (.fld 0 (.s 3)),
  o1 22 (.load 72 0 1 false false 21),
  o1 23 (.fld 1 (.s 3)),
  o1 24 (.load 72 1 1 false false 23),
  o1 25 (.call 52 [(false, .s 24)] [] []),
  o1 26 (.build [.sc (.int .i64 0), .row false (.ruint8 [])] [(0, 1, .s 22), (1, 1, .s 25)]),
  o1 27 (.bslice 74 1 [(0, 2, .s 26)]),
  o1 28 (.call 75 [(true, .s 19), (false, .s 20), (false, .s 27)] [] []),
  o1 0 (.ufrz (.s 28))]
def g_recv_put_3 : List (IStep2 RW) := [o1 7 (.unew (.un none (.rPiece [])))]
def i_recv_put_6 : IC2 RW := .seq (.fin (.reg g_recv_put_0) [1, 4] []) (.seq (.fin (.reg g_recv_put_1) [6, 11, 12, 13, 14, 15, 16, 17] []) (.seq (.fin (.reg g_recv_put_2) [3, 5, 18, 19, 20, 21, 22, 23, 24, 25, 26, 27, 28] [(72, 2)]) (.seq (.reg g_recv_put_3) (.seq (.skip) i_recv_put_5))))
def fn_recv_put : IFn2 RW := ⟨60, 2, 72, 80, [(72, 2), (75, 2)], [], [], [.slot 4], i_recv_put_6⟩
def g_recv_take_1_0 : List (IStep2 RW) := [o1 5 (.box 45 2 false (.s 0))]
def g_recv_take_1_1 : List (IStep2 RW) := [o0 (.store 43 0 1 false 1 (.k (.sc (.bool true))))]
def g_recv_take_1_2 : List (IStep2 RW) := [o1 6 (.fld 2 (.s 2)),
  o1 7 (.load 23 2 1 false false 6),
  o1 8 (.fld 0 (.s 5)),
  o1 9 (.load 45 0 1 false false 8),
  o1 10 (.load 41 0 1 false false 3),
  o1 11 (.fld 0 (.s 5)),
  o1 12 (.load 45 0 1 false false 11),
  o1 13 (.load 39 0 1 false false 4),
  o1 14 (.bin .sub (.s 12) (.s 13)),
  o1 15 (.fld 1 (.s 5)),
  o1 16 (.load 45 1 1 false false 15),
  o1 17 (.load 39 0 1 false false 4),
  o1 18 (.bin .sub (.s 16) (.s 17)),
  o1 19 (.slice 1 (.s 10) (some (.s 14)) (some (.s 18)) none),
  o1 20 (.build [.sc (.int .i64 0), .row false (.ruint8 [])] [(0, 1, .s 9), (1, 1, .s 19)]),
  o1 21 (.call 60 [(false, .s 7), (false, .s 20)] [] []),
  o1 22 (.fld 2 (.s 2)),
  o0 (.store 23 2 1 true 22 (.s 21))]
def i_recv_take_1_0 : IC2 RW := .seq (.fin (.reg g_recv_take_1_0) [0] []) (.seq (.fin (.reg g_recv_take_1_1) [1] []) (.fin (.reg g_recv_take_1_2) [2, 3, 4, 5, 6, 7, 8, 9, 10, 11, 12, 13, 14, 15, 16, 17, 18, 19, 20, 21, 22] [(45, 2)]))
def fn_recv_take_1 : IFn2 RW := ⟨59, 5, 23, 48, [(23, 15), (39, 1), (41, 1), (43, 1), (45, 2)], [(23, 15), (39, 1), (41, 1), (43, 1)], [], [], i_recv_take_1_0⟩
def g_recv_take_6 : List (IStep2 RW) := [o1 10 (.alloc 150 [.sc (.int .i64 0), .sc (.int .i64 0)]),
  o0 (.store 150 0 2 false 10 (.s 32))]
def i_recv_take_0 : IC2 RW := .fin (.reg g_recv_take_6) [32] []
def g_recv_take_7 : List (IStep2 RW) := [o1 33 (.load 148 0 1 false true 9),
  o1 34 (.load 150 0 2 true false 10),
  o1 35 (.bslice 78 1 [(0, 2, .s 34)]),
  o1 36 (.app 2 16 true (.s 33) (.s 35)),
  o0 (.store 148 0 1 true 9 (.s 36))]
def i_recv_take_1 : IC2 RW := .blk 1 (.fin (.reg g_recv_take_7) [10, 33, 34, 35, 36] [(150, 2)])
def i_recv_take_2 : IC2 RW := .seq (.fin (.reg g_recv_take_6) [32] []) (.blk 1 (.fin (.reg g_recv_take_7) [10, 33, 34, 35, 36] [(150, 2)]))
def g_recv_take_1000 : List (IStep2 RW) := [o1 5 (.fld 2 (.s 1)),
  o1 6 (.load 158 2 1 false false 5),
  o1 7 (.len false (.s 6)),
  o1 8 (.mv false (.k (.sc (.int .i64 0))))]
def g_recv_take_1001 : List (IStep2 RW) := [o1 9 (.bin .lss (.s 8) (.s 7))]
def g_recv_take_1002 : List (IStep2 RW) := [o1 10 (.idx 2 (.s 6) (.s 8)),
  o1 11 (.loade 2 true 10),
  o1 4 (.alloc 174 [.sc (.int .i64 0), .row false (.ruint8 [])]),
  o0 (.store 174 0 2 false 4 (.s 11))]
def g_recv_take_10031 : List (IStep2 RW) := [o1 12 (.mv false (.s 0)),
  o1 13 (.load 174 0 2 true false 4),
  o1 14 (.call 71 [(false, .s 13)] [] [])]
def g_recv_take_10032 : List (IStep2 RW) := [o1 16 (.un .not (.s 15))]
def g_recv_take_1004 : List (IStep2 RW) := [o1 17 (.bin .add (.s 8) (.k (.sc (.int .i64 1)))),
  o1 8 (.mv false (.s 17))]
def i_recv_take_3 : IC2 RW := .seq (.fin (.reg g_recv_take_1000) [1, 5] []) (.blk 0 (.loop (.seq (.reg g_recv_take_1001) (.seq (.fin (.cond (.s 9) (.skip) (.clr [0, 6, 7, 8, 9] [] (.exit 0))) [9] []) (.seq (.blk 1 (.seq (.fin (.reg g_recv_take_1002) [10, 11] []) (.seq (.fin (.yreg g_recv_take_10031 (.s 12) [.s 14] none 15 g_recv_take_10032) [4, 12, 13, 14, 15] [(174, 2)]) (.fin (.cond (.s 16) (.clr [0, 6, 7, 8, 16] [] (.ret)) (.skip)) [16] [])))) (.fin (.reg g_recv_take_1004) [17] []))))))
def i_recv_take_4 : IC2 RW := .fin (.yreg g_recv_take_10031 (.s 12) [.s 14] none 15 g_recv_take_10032) [4, 12, 13, 14, 15] [(174, 2)]
def i_recv_take_5 : IC2 RW := .fin (.cond (.s 16) (.clr [0, 6, 7, 8, 16] [] (.ret)) (.skip)) [16] []
def i_recv_take_6 : IC2 RW := .seq i_recv_take_4 i_recv_take_5
def i_recv_take_7 : IC2 RW := .seq (.fin (.reg g_recv_take_1002) [10, 11] []) i_recv_take_6
def i_recv_take_8 : IC2 RW := .blk 1 i_recv_take_7
def i_recv_take_9 : IC2 RW := .fin (.reg g_recv_take_1004) [17] []
def i_recv_take_10 : IC2 RW := .seq i_recv_take_8 i_recv_take_9
def i_recv_take_11 : IC2 RW := .seq (.reg g_recv_take_1001) (.seq (.fin (.cond (.s 9) (.skip) (.clr [0, 6, 7, 8, 9] [] (.exit 0))) [9] []) i_recv_take_10)
def i_recv_take_12 : IC2 RW := .loop i_recv_take_11
def i_recv_take_13 : IC2 RW := .blk 0 i_recv_take_12
def i_recv_take_14 : IC2 RW := .fin (.rfn (.s 31) 70 7 18 [32] i_recv_take_3 i_recv_take_0 i_recv_take_1 [112, 128, 130, 132, 148, 158] [112, 128, 130, 132, 148, 158, 174]) [31] [(158, 15)]
def i_recv_take_15 : IC2 RW := .blk 0 i_recv_take_14
def g_recv_take_5 : List (IStep2 RW) := [o1 30 (.load 112 0 15 true false 3),
  o1 31 (.call 55 [(false, .s 30)] [] [(4, 15, 158)])]
def i_recv_take_16 : IC2 RW := .seq (.fin (.reg g_recv_take_5) [30] []) i_recv_take_15
def g_recv_take_13 : List (IStep2 RW) := [o1 52 (.bin .lss (.s 51) (.s 50))]
def g_recv_take_14 : List (IStep2 RW) := [o1 53 (.idx 2 (.s 49) (.s 51)),
  o1 54 (.loade 2 true 53),
  o1 15 (.alloc 155 [.sc (.int .i64 0), .sc (.int .i64 0)]),
  o0 (.store 155 0 2 false 15 (.s 54))]
def g_recv_take_15 : List (IStep2 RW) := [o1 55 (.mv false (.s 12)),
  o1 56 (.load 155 0 2 true false 15),
  o1 57 (.callv (.s 55) 59 1029 [(false, .s 56)] [(112, 15, 23), (128, 1, 39), (130, 1, 41), (153, 1, 43)] [])]
def g_recv_take_16 : List (IStep2 RW) := [o1 58 (.bin .add (.s 51) (.k (.sc (.int .i64 1)))),
  o1 51 (.mv false (.s 58))]
def i_recv_take_17 : IC2 RW := .seq (.reg g_recv_take_13) (.seq (.fin (.cond (.s 52) (.skip) (.clr [12, 49, 50, 51, 52] [(128, 1), (130, 1)] (.exit 2))) [52] []) (.seq (.blk 3 (.seq (.fin (.reg g_recv_take_14) [53, 54] []) (.fin (.reg g_recv_take_15) [15, 55, 56, 57] [(155, 2)]))) (.fin (.reg g_recv_take_16) [58] [])))
def i_recv_take_18 : IC2 RW := .loop i_recv_take_17
def i_recv_take_19 : IC2 RW := .blk 2 i_recv_take_18
def g_recv_take_12 : List (IStep2 RW) := [o1 45 (.load 148 0 1 false false 9),
  o1 46 (.mv false (.s 13)),
  o1 47 (.mv false (.s 8)),
  o1 48 (.build [.sc (.int .i64 0), .sc (.int .i64 0)] [(0, 1, .s 46), (1, 1, .s 47)]),
  o1 49 (.call 61 [(false, .s 45), (false, .s 48)] [] []),
  o1 50 (.len false (.s 49)),
  o1 51 (.mv false (.k (.sc (.int .i64 0))))]
def i_recv_take_20 : IC2 RW := .seq (.fin (.reg g_recv_take_12) [8, 9, 13, 44, 45, 46, 47, 48] [(148, 1)]) i_recv_take_19
def i_recv_take_21 : IC2 RW := .skip
def i_recv_take_22 : IC2 RW := .fin (.cond (.s 44) i_recv_take_20 i_recv_take_21) [8, 9, 12, 13, 44] [(128, 1), (130, 1), (148, 1)]
def g_recv_take_10 : List (IStep2 RW) := [o1 38 (.load 128 0 1 false false 4),
  o1 39 (.fld 0 (.s 3)),
  o1 40 (.load 112 0 1 false false 39),
  o1 41 (.mnmx true [.s 38, .s 40]),
  o1 13 (.mv false (.s 41))]
def g_recv_take_11 : List (IStep2 RW) := [o1 42 (.mv false (.s 13)),
  o1 43 (.mv false (.s 8)),
  o1 44 (.bin .lss (.s 42) (.s 43))]
def i_recv_take_23 : IC2 RW := .seq (.fin (.reg g_recv_take_10) [4, 38, 39, 40, 41] []) (.seq (.fin (.reg g_recv_take_11) [42, 43] []) i_recv_take_22)
def g_recv_take_17 : List (IStep2 RW) := [o1 59 (.fld 2 (.s 3)),
  o1 60 (.load 112 2 1 false false 59),
  o1 61 (.len false (.s 60)),
  o1 62 (.bin .gtr (.s 61) (.k (.sc (.int .i64 0)))),
  o2 63 (.mv false (.s 62)),
  o3 64 63 true (.fld 2 (.s 3)),
  o3 65 63 true (.load 112 2 1 false false 64),
  o3 66 63 true (.idx 2 (.s 65) (.k (.sc (.int .i64 0)))),
  o3 67 63 true (.fld 0 (.s 66)),
  o3 68 63 true (.loade 1 false 67),
  o3 69 63 true (.fld 0 (.s 3)),
  o3 70 63 true (.load 112 0 1 false false 69),
  o3 71 63 true (.bin .eql (.s 68) (.s 70)),
  o1 72 (.pick (.s 63) (.s 71) (.k (.sc (.bool false))))]
def g_recv_take_18 : List (IStep2 RW) := [o1 73 (.fld 1 (.s 3)),
  o1 74 (.load 112 1 1 false true 73),
  o1 75 (.fld 2 (.s 3)),
  o1 76 (.load 112 2 1 false false 75),
  o1 77 (.idx 2 (.s 76) (.k (.sc (.int .i64 0)))),
  o1 78 (.fld 1 (.s 77)),
  o1 79 (.loade 1 false 78),
  o1 80 (.app 1 1 true (.s 74) (.s 79)),
  o1 81 (.fld 1 (.s 3)),
  o0 (.store 112 1 1 true 81 (.s 80))]
def g_recv_take_19 : List (IStep2 RW) := [o1 82 (.fld 0 (.s 3)),
  o1 83 (.load 112 0 1 false false 82),
  o1 84 (.fld 2 (.s 3)),
  o1 85 (.load 112 2 1 false false 84),
  o1 86 (.idx 2 (.s 85) (.k (.sc (.int .i64 0)))),
  o1 87 (.fld 1 (.s 86)),
  o1 88 (.loade 1 false 87),
  o1 89 (.len false (.s 88)),
  o1 90 (.bin .add (.s 83) (.s 89)),
  o1 91 (.fld 0 (.s 3)),
  o0 (.store 112 0 1 false 91 (.s 90))]
def g_recv_take_20 : List (IStep2 RW) := [o1 92 (.fld 2 (.s 3)),
  o1 93 (.load 112 2 1 false false 92),
  o1 94 (.slice 2 (.s 93) (some (.k (.sc (.int .i64 1)))) none none),
  o1 95 (.fld 2 (.s 3)),
  o0 (.store 112 2 1 true 95 (.s 94))]
def i_recv_take_24 : IC2 RW := .seq (.seq (.fin (.reg g_recv_take_17) [59, 60, 61, 62, 63, 64, 65, 66, 67, 68, 69, 70, 71] []) (.fin (.cond (.s 72) i_recv_take_21 (.clr [72] [] (.exit 4))) [72] [])) (.blk 5 (.seq (.fin (.reg g_recv_take_18) [73, 74, 75, 76, 77, 78, 79, 80, 81] []) (.seq (.fin (.reg g_recv_take_19) [82, 83, 84, 85, 86, 87, 88, 89, 90, 91] []) (.fin (.reg g_recv_take_20) [92, 93, 94, 95] []))))
def i_recv_take_25 : IC2 RW := .loop i_recv_take_24
def i_recv_take_26 : IC2 RW := .wk [115] i_recv_take_25
def i_recv_take_27 : IC2 RW := .blk 4 i_recv_take_26
def g_recv_take_21 : List (IStep2 RW) := [o1 96 (.load 112 0 15 true true 3),
  o1 97 (.load 153 0 1 false false 11),
  o0 (.store 132 0 15 true 6 (.s 96)),
  o1 7 (.mv false (.s 97))]
def i_recv_take_28 : IC2 RW := .seq (.fin (.reg g_recv_take_21) [3, 11, 96, 97] [(112, 15), (153, 1)]) (.ret)
def i_recv_take_29 : IC2 RW := .seq i_recv_take_27 i_recv_take_28
def i_recv_take_30 : IC2 RW := .seq i_recv_take_23 i_recv_take_29
def g_recv_take_8 : List (IStep2 RW) := [o1 11 (.alloc 153 [.sc (.bool false)]),
  o0 (.store 153 0 1 false 11 (.k (.sc (.bool false))))]
def g_recv_take_9 : List (IStep2 RW) := [o1 37 (.mkclo 59 [.s 11, .s 3, .s 5, .s 4]),
  o1 12 (.mv false (.s 37))]
def i_recv_take_31 : IC2 RW := .seq (.reg g_recv_take_8) (.seq (.fin (.reg g_recv_take_9) [5, 37] []) i_recv_take_30)
def i_recv_take_32 : IC2 RW := .seq i_recv_take_16 i_recv_take_31
def g_recv_take_0 : List (IStep2 RW) := [o1 3 (.box 112 15 true (.s 0)),
  o1 4 (.box 128 1 false (.s 1)),
  o1 5 (.box 130 1 false (.s 2)),
  o1 6 (.alloc 132 [.sc (.int .i64 0), .row true (.ruint8 []), .row true (.rPiece []), .sc (.int .i64 0), .sc (.int .i64 0), .sc (.int .i64 0), .sc (.int .u32 0), .sc (.bool false), .sc (.bool false), .sc (.int .i64 0), .sc (.bool false), .row true (.rSpan []), .sc (.int .u32 0), .sc (.int .u32 0), .sc (.bool false)]),
  o1 7 (.mv false (.k (.sc (.bool false))))]
def g_recv_take_1 : List (IStep2 RW) := [o1 16 (.load 128 0 1 false false 4),
  o1 17 (.load 130 0 1 false false 5),
  o1 18 (.len false (.s 17)),
  o1 19 (.bin .add (.s 16) (.s 18)),
  o1 20 (.load 112 0 15 true false 3),
  o1 21 (.call 53 [(false, .s 20)] [] []),
  o1 22 (.mnmx false [.s 19, .s 21]),
  o1 8 (.mv false (.s 22))]
def g_recv_take_2 : List (IStep2 RW) := [o1 23 (.fld 9 (.s 3)),
  o1 24 (.load 112 9 1 false false 23),
  o1 25 (.bin .geq (.s 24) (.k (.sc (.int .i64 0))))]
def g_recv_take_3 : List (IStep2 RW) := [o1 26 (.mv false (.s 8)),
  o1 27 (.fld 9 (.s 3)),
  o1 28 (.load 112 9 1 false false 27),
  o1 29 (.mnmx false [.s 26, .s 28]),
  o1 8 (.mv false (.s 29))]
def g_recv_take_4 : List (IStep2 RW) := [o1 9 (.alloc 148 [.row true (.rSpan [])])]
def i_recv_take_33 : IC2 RW := .seq (.fin (.reg g_recv_take_0) [0, 1, 2, 7] []) (.seq (.fin (.reg g_recv_take_1) [16, 17, 18, 19, 20, 21, 22] []) (.seq (.seq (.fin (.reg g_recv_take_2) [23, 24] []) (.fin (.cond (.s 25) (.fin (.reg g_recv_take_3) [25, 26, 27, 28, 29] []) i_recv_take_21) [25] [])) (.seq (.reg g_recv_take_4) i_recv_take_32)))
def fn_recv_take : IFn2 RW := ⟨34, 3, 98, 192, [(112, 15), (128, 1), (130, 1), (132, 15), (148, 1), (150, 2), (153, 1), (155, 2), (158, 15), (174, 2)], [], [], [.cell 6 132 15 true, .slot 7], i_recv_take_33⟩
def g_recv_firsts_1_0 : List (IStep2 RW) := [o1 2 (.box 19 2 false (.s 0)),
  o1 3 (.mv false (.k (.sc (.bool false))))]
def g_recv_firsts_1_1 : List (IStep2 RW) := [o1 4 (.fld 0 (.s 2)),
  o1 5 (.load 19 0 1 false false 4),
  o1 6 (.fld 0 (.s 1)),
  o1 7 (.load 16 0 1 false false 6),
  o1 8 (.bin .leq (.s 5) (.s 7)),
  o2 9 (.mv false (.s 8)),
  o3 10 9 true (.fld 1 (.s 1)),
  o3 11 9 true (.load 16 1 1 false false 10),
  o3 12 9 true (.fld 1 (.s 2)),
  o3 13 9 true (.load 19 1 1 false false 12),
  o3 14 9 true (.bin .leq (.s 11) (.s 13)),
  o1 15 (.pick (.s 9) (.s 14) (.k (.sc (.bool false)))),
  o1 3 (.mv false (.s 15))]
def i_recv_firsts_1_0 : IC2 RW := .seq (.fin (.reg g_recv_firsts_1_0) [0, 3] []) (.seq (.fin (.reg g_recv_firsts_1_1) [1, 2, 4, 5, 6, 7, 8, 9, 10, 11, 12, 13, 14, 15] [(19, 2)]) (.ret))
def fn_recv_firsts_1 : IFn2 RW := ⟨63, 2, 16, 32, [(16, 2), (19, 2)], [(16, 2)], [], [.slot 3], i_recv_firsts_1_0⟩
def g_slices_IndexFunc_Span_2 : List (IStep2 RW) := [o1 9 (.bin .lss (.s 8) (.s 7))]
def g_slices_IndexFunc_Span_3 : List (IStep2 RW) := [o1 10 (.mv false (.s 8)),
  o1 5 (.mv false (.s 10))]
def g_slices_IndexFunc_Span_4 : List (IStep2 RW) := [o1 11 (.mv false (.s 1)),
  o1 12 (.mv false (.s 0)),
  o1 13 (.mv false (.s 5)),
  o1 14 (.idx 2 (.s 12) (.s 13)),
  o1 15 (.loade 2 true 14),
  o1 16 (.callv (.s 11) 63 1038 [(false, .s 15)] [(19, 2, 16)] [])]
def g_slices_IndexFunc_Span_5 : List (IStep2 RW) := [o1 17 (.mv false (.s 5)),
  o1 4 (.mv false (.s 17))]
def g_slices_IndexFunc_Span_6 : List (IStep2 RW) := [o1 18 (.bin .add (.s 8) (.k (.sc (.int .i64 1)))),
  o1 8 (.mv false (.s 18))]
def i_slices_IndexFunc_Span_0 : IC2 RW := .seq (.reg g_slices_IndexFunc_Span_2) (.seq (.fin (.cond (.s 9) (.skip) (.clr [0, 1, 7, 8, 9] [] (.exit 0))) [9] []) (.seq (.blk 1 (.seq (.fin (.reg g_slices_IndexFunc_Span_3) [10] []) (.seq (.fin (.reg g_slices_IndexFunc_Span_4) [11, 12, 13, 14, 15] []) (.fin (.cond (.s 16) (.seq (.fin (.reg g_slices_IndexFunc_Span_5) [0, 1, 5, 7, 8, 16, 17] []) (.ret)) (.skip)) [5, 16] [])))) (.fin (.reg g_slices_IndexFunc_Span_6) [18] [])))
def i_slices_IndexFunc_Span_1 : IC2 RW := .loop i_slices_IndexFunc_Span_0
def i_slices_IndexFunc_Span_2 : IC2 RW := .blk 0 i_slices_IndexFunc_Span_1
def g_slices_IndexFunc_Span_1 : List (IStep2 RW) := [o1 6 (.mv false (.s 0)),
  o1 7 (.len false (.s 6)),
  o1 8 (.mv false (.k (.sc (.int .i64 0))))]
def i_slices_IndexFunc_Span_3 : IC2 RW := .seq (.fin (.reg g_slices_IndexFunc_Span_1) [6] []) i_slices_IndexFunc_Span_2
def g_slices_IndexFunc_Span_7 : List (IStep2 RW) := [o1 4 (.mv false (.k (.sc (.int .i64 (-1)))))]
def i_slices_IndexFunc_Span_4 : IC2 RW := .seq (.reg g_slices_IndexFunc_Span_7) (.ret)
def i_slices_IndexFunc_Span_5 : IC2 RW := .seq i_slices_IndexFunc_Span_3 i_slices_IndexFunc_Span_4
def g_slices_IndexFunc_Span_0 : List (IStep2 RW) := [o1 4 (.mv false (.k (.sc (.int .i64 0))))]
def i_slices_IndexFunc_Span_6 : IC2 RW := .seq (.fin (.reg g_slices_IndexFunc_Span_0) [4] []) i_slices_IndexFunc_Span_5
def fn_slices_IndexFunc_Span : IFn2 RW := ⟨62, 2, 19, 32, [(19, 2)], [(19, 2)], [], [.slot 4], i_slices_IndexFunc_Span_6⟩
def g_recv_firsts_4 : List (IStep2 RW) := [o1 22 (.mv false (.s 9)),
  o1 23 (.bin .geq (.s 22) (.k (.sc (.int .i64 0))))]
def g_recv_firsts_6 : List (IStep2 RW) := [o1 26 (.mv false (.s 7)),
  o1 27 (.mv false (.s 9)),
  o1 28 (.idx 2 (.s 26) (.s 27)),
  o1 29 (.fld 0 (.s 28)),
  o1 30 (.loade 1 false 29),
  o1 31 (.mv false (.s 1)),
  o1 32 (.mv false (.s 2)),
  o1 33 (.len false (.s 32)),
  o1 34 (.bin .add (.s 31) (.s 33)),
  o1 35 (.bin .lss (.s 30) (.s 34)),
  o2 36 (.mv false (.s 35)),
  o3 37 36 true (.mv false (.s 7)),
  o3 38 36 true (.mv false (.s 9)),
  o3 39 36 true (.idx 2 (.s 37) (.s 38)),
  o3 40 36 true (.fld 1 (.s 39)),
  o3 41 36 true (.loade 1 false 40),
  o3 42 36 true (.mv false (.s 1)),
  o3 43 36 true (.bin .gtr (.s 41) (.s 42)),
  o1 44 (.pick (.s 36) (.s 43) (.k (.sc (.bool false)))),
  o2 45 (.mv false (.s 44)),
  o3 46 45 true (.mv false (.s 2)),
  o3 47 45 true (.len false (.s 46)),
  o3 48 45 true (.bin .gtr (.s 47) (.k (.sc (.int .i64 0)))),
  o1 49 (.pick (.s 45) (.s 48) (.k (.sc (.bool false))))]
def g_recv_firsts_7 : List (IStep2 RW) := [o1 50 (.mv false (.s 7)),
  o1 51 (.mv false (.s 9)),
  o1 52 (.idx 2 (.s 50) (.s 51)),
  o1 53 (.loade 2 true 52),
  o1 54 (.bslice 78 1 [(0, 2, .s 53)]),
  o1 55 (.mv false (.s 8)),
  o1 56 (.app 2 16 true (.s 54) (.s 55)),
  o1 8 (.mv false (.s 56))]
def g_recv_firsts_5 : List (IStep2 RW) := [o1 24 (.mv false (.s 9)),
  o1 25 (.bin .sub (.s 24) (.k (.sc (.int .i64 1)))),
  o1 9 (.mv false (.s 25))]
def i_recv_firsts_0 : IC2 RW := .seq (.seq (.fin (.reg g_recv_firsts_4) [22] []) (.fin (.cond (.s 23) (.skip) (.clr [1, 2, 9, 23] [] (.exit 0))) [23] [])) (.seq (.blk 1 (.seq (.fin (.reg g_recv_firsts_6) [26, 27, 28, 29, 30, 31, 32, 33, 34, 35, 36, 37, 38, 39, 40, 41, 42, 43, 44, 45, 46, 47, 48] []) (.fin (.cond (.s 49) (.seq (.fin (.reg g_recv_firsts_7) [1, 2, 9, 49, 50, 51, 52, 53, 54, 55, 56] []) (.exit 0)) (.skip)) [49] []))) (.fin (.reg g_recv_firsts_5) [24, 25] []))
def i_recv_firsts_1 : IC2 RW := .loop i_recv_firsts_0
def i_recv_firsts_2 : IC2 RW := .blk 0 i_recv_firsts_1
def g_recv_firsts_3 : List (IStep2 RW) := [o1 19 (.mv false (.s 7)),
  o1 20 (.len false (.s 19)),
  o1 21 (.bin .sub (.s 20) (.k (.sc (.int .i64 1)))),
  o1 9 (.mv false (.s 21))]
def i_recv_firsts_3 : IC2 RW := .seq (.fin (.reg g_recv_firsts_3) [19, 20, 21] []) i_recv_firsts_2
def g_recv_firsts_10 : List (IStep2 RW) := [o1 60 (.bin .lss (.s 59) (.s 58))]
def g_recv_firsts_11 : List (IStep2 RW) := [o1 61 (.idx 2 (.s 57) (.s 59)),
  o1 62 (.loade 2 true 61),
  o1 12 (.alloc 102 [.sc (.int .i64 0), .sc (.int .i64 0)]),
  o0 (.store 102 0 2 false 12 (.s 62))]
def g_recv_firsts_12 : List (IStep2 RW) := [o1 63 (.mv false (.s 7)),
  o1 64 (.mkclo 63 [.s 12]),
  o1 65 (.call 1037 [(false, .s 63), (false, .s 64)] [(102, 2, 19)] []),
  o1 13 (.mv false (.s 65))]
def g_recv_firsts_13 : List (IStep2 RW) := [o1 66 (.mv false (.s 13)),
  o1 67 (.bin .geq (.s 66) (.k (.sc (.int .i64 0)))),
  o2 68 (.mv false (.s 67)),
  o3 69 68 true (.mv false (.s 10)),
  o3 70 68 true (.mv false (.s 7)),
  o3 71 68 true (.mv false (.s 13)),
  o3 72 68 true (.idx 2 (.s 70) (.s 71)),
  o3 73 68 true (.loade 2 true 72),
  o3 74 68 true (.call 56 [(false, .s 69), (false, .s 73)] [] []),
  o3 75 68 true (.un .not (.s 74)),
  o1 76 (.pick (.s 68) (.s 75) (.k (.sc (.bool false))))]
def g_recv_firsts_14 : List (IStep2 RW) := [o1 77 (.mv true (.s 10)),
  o1 78 (.mv false (.s 7)),
  o1 79 (.mv false (.s 13)),
  o1 80 (.idx 2 (.s 78) (.s 79)),
  o1 81 (.loade 2 true 80),
  o1 82 (.bslice 78 1 [(0, 2, .s 81)]),
  o1 83 (.app 2 16 true (.s 77) (.s 82)),
  o1 10 (.mv true (.s 83))]
def g_recv_firsts_15 : List (IStep2 RW) := [o1 84 (.bin .add (.s 59) (.k (.sc (.int .i64 1)))),
  o1 59 (.mv false (.s 84))]
def i_recv_firsts_4 : IC2 RW := .seq (.reg g_recv_firsts_10) (.seq (.fin (.cond (.s 60) (.skip) (.clr [7, 57, 58, 59, 60] [] (.exit 2))) [60] []) (.seq (.blk 3 (.seq (.fin (.reg g_recv_firsts_11) [61, 62] []) (.seq (.fin (.reg g_recv_firsts_12) [12, 63, 64, 65] [(102, 2)]) (.seq (.fin (.reg g_recv_firsts_13) [66, 67, 68, 69, 70, 71, 72, 73, 74, 75] []) (.fin (.cond (.s 76) (.fin (.reg g_recv_firsts_14) [13, 76, 77, 78, 79, 80, 81, 82, 83] []) (.skip)) [13, 76] []))))) (.fin (.reg g_recv_firsts_15) [84] [])))
def i_recv_firsts_5 : IC2 RW := .loop i_recv_firsts_4
def i_recv_firsts_6 : IC2 RW := .blk 2 i_recv_firsts_5
def g_recv_firsts_9 : List (IStep2 RW) := [o1 57 (.mv false (.s 8)),
  o1 58 (.len false (.s 57)),
  o1 59 (.mv false (.k (.sc (.int .i64 0))))]
def i_recv_firsts_7 : IC2 RW := .seq (.fin (.reg g_recv_firsts_9) [8] []) i_recv_firsts_6
def g_recv_firsts_16 : List (IStep2 RW) := [o1 85 (.mv true (.s 10)),
  o1 6 (.mv true (.s 85))]
def i_recv_firsts_8 : IC2 RW := .seq (.fin (.reg g_recv_firsts_16) [10, 85] []) (.ret)
def i_recv_firsts_9 : IC2 RW := .seq i_recv_firsts_7 i_recv_firsts_8
def g_recv_firsts_8 : List (IStep2 RW) := [o1 10 (.mv true (.k (.row true (.rSpan []))))]
def i_recv_firsts_10 : IC2 RW := .seq (.reg g_recv_firsts_8) i_recv_firsts_9
def i_recv_firsts_11 : IC2 RW := .seq i_recv_firsts_3 i_recv_firsts_10
def g_recv_firsts_0 : List (IStep2 RW) := [o1 3 (.box 86 15 false (.s 0)),
  o1 6 (.mv true (.k (.row true (.rSpan []))))]
def g_recv_firsts_1 : List (IStep2 RW) := [o1 14 (.load 86 0 15 true false 3),
  o1 15 (.call 55 [(false, .s 14)] [] [(4, 15, 105)]),
  o1 16 (.call 1006 [(false, .s 15)] [(105, 15, 5)] []),
  o1 7 (.mv false (.s 16))]
def g_recv_firsts_2 : List (IStep2 RW) := [o1 17 (.fld 11 (.s 3)),
  o1 18 (.load 86 11 1 false false 17),
  o1 8 (.mv false (.s 18))]
def i_recv_firsts_12 : IC2 RW := .seq (.fin (.reg g_recv_firsts_0) [0, 6] []) (.seq (.fin (.reg g_recv_firsts_1) [14, 15, 16] [(105, 15)]) (.seq (.fin (.reg g_recv_firsts_2) [3, 17, 18] [(86, 15)]) i_recv_firsts_11))
def fn_recv_firsts : IFn2 RW := ⟨35, 3, 86, 128, [(86, 15), (102, 2), (105, 15)], [], [], [.slot 6], i_recv_firsts_12⟩
def g_recv_Input_21 : List (IStep2 RW) := [o1 133 (.load 140 0 15 true false 2),
  o1 134 (.mv true (.s 13)),
  o1 135 (.call 32 [(false, .s 133), (true, .s 134)] [] []),
  o1 132 (.mv true (.s 135)),
  o1 136 (.ext true 0 (.s 132)),
  o1 137 (.ext false 1 (.s 132)),
  o1 14 (.alloc 236 [.sc (.int .i64 0), .sc (.int .i64 0), .sc (.int .u32 0), .sc (.int .u32 0), .sc (.int .i64 0), .sc (.int .i64 0), .sc (.int .i64 0), .sc (.int .i64 0), .sc (.int .i64 0), .sc (.bool false), .sc (.bool false), .sc (.int .u32 0), .sc (.int .u32 0), .row false (.rBlock []), .row false (.ruint8 [])]),
  o0 (.store 140 0 15 true 2 (.s 136)),
  o0 (.store 236 0 15 false 14 (.s 137))]
def g_recv_Input_22 : List (IStep2 RW) := [o1 138 (.load 140 0 15 true false 2),
  o1 139 (.load 236 0 15 true false 14),
  o0 (.store 172 0 15 false 4 (.s 138)),
  o0 (.store 188 0 15 false 5 (.s 139)),
  o1 6 (.mv false (.k (.sc (.bool true)))),
  o1 7 (.mv false (.k (.sc (.int .i64 0))))]
def i_recv_Input_0 : IC2 RW := .seq (.fin (.reg g_recv_Input_21) [13, 132, 133, 134, 135, 136, 137] []) (.seq (.fin (.reg g_recv_Input_22) [2, 14, 138, 139] [(140, 15), (236, 15)]) (.wk [6, 7] (.ret)))
def g_recv_Input_19 : List (IStep2 RW) := [o1 106 (.fld 8 (.s 2)),
  o1 107 (.load 140 8 1 false false 106),
  o2 108 (.mv false (.s 107)),
  o3 109 108 true (.fld 14 (.s 3)),
  o3 110 108 true (.load 156 14 1 false false 109),
  o3 111 108 true (.len false (.s 110)),
  o3 112 108 true (.bin .gtr (.s 111) (.k (.sc (.int .i64 0)))),
  o1 113 (.pick (.s 108) (.s 112) (.k (.sc (.bool false)))),
  o2 114 (.mv false (.s 113)),
  o3 115 114 true (.mv false (.s 9)),
  o3 116 114 true (.bin .geq (.s 115) (.k (.sc (.int .i64 0)))),
  o1 117 (.pick (.s 114) (.s 116) (.k (.sc (.bool false)))),
  o2 118 (.mv false (.s 117)),
  o3 119 118 true (.mv false (.s 12)),
  o3 120 118 true (.un .not (.s 119)),
  o1 121 (.pick (.s 118) (.s 120) (.k (.sc (.bool false))))]
def g_recv_Input_20 : List (IStep2 RW) := [o1 122 (.fld 2 (.s 3)),
  o1 123 (.load 156 2 1 false false 122),
  o1 124 (.fld 2 (.s 3)),
  o1 125 (.load 156 2 1 false false 124),
  o1 126 (.fld 14 (.s 3)),
  o1 127 (.load 156 14 1 false false 126),
  o1 128 (.len false (.s 127)),
  o1 129 (.call 36 [(false, .s 125), (false, .s 128)] [] []),
  o1 130 (.build [.sc (.int .u32 0), .sc (.int .u32 0)] [(0, 1, .s 123), (1, 1, .s 129)]),
  o1 131 (.bslice 62 1 [(0, 2, .s 130)]),
  o1 13 (.mv true (.s 131))]
def i_recv_Input_1 : IC2 RW := .seq (.seq (.fin (.reg g_recv_Input_19) [9, 12, 106, 107, 108, 109, 110, 111, 112, 113, 114, 115, 116, 117, 118, 119, 120] []) (.fin (.cond (.s 121) (.fin (.reg g_recv_Input_20) [3, 121, 122, 123, 124, 125, 126, 127, 128, 129, 130, 131] [(156, 15)]) (.skip)) [3, 121] [(156, 15)])) i_recv_Input_0
def g_recv_Input_17 : List (IStep2 RW) := [o1 100 (.load 140 0 15 true false 2),
  o1 101 (.mv false (.s 9)),
  o1 102 (.fld 14 (.s 3)),
  o1 103 (.load 156 14 1 false false 102),
  o1 104 (.call 35 [(false, .s 100), (false, .s 101), (false, .s 103)] [] []),
  o1 105 (.fld 11 (.s 2)),
  o0 (.store 140 11 1 true 105 (.s 104))]
def g_recv_Input_18 : List (IStep2 RW) := [o1 13 (.mv true (.k (.row true (.rBlock []))))]
def i_recv_Input_2 : IC2 RW := .seq (.fin (.reg g_recv_Input_17) [100, 101, 102, 103, 104, 105] []) (.seq (.reg g_recv_Input_18) i_recv_Input_1)
def g_recv_Input_13 : List (IStep2 RW) := [o1 74 (.fld 4 (.s 3)),
  o1 75 (.load 156 4 1 false false 74),
  o1 76 (.bin .and (.s 75) (.k (.sc (.int .i64 1)))),
  o1 77 (.bin .gtr (.s 76) (.k (.sc (.int .i64 0))))]
def g_recv_Input_14 : List (IStep2 RW) := [o1 78 (.load 140 0 15 true false 2),
  o1 79 (.mv false (.s 9)),
  o1 80 (.fld 14 (.s 3)),
  o1 81 (.load 156 14 1 false false 80),
  o1 82 (.len false (.s 81)),
  o1 83 (.bin .add (.s 79) (.s 82)),
  o1 84 (.call 33 [(false, .s 78), (false, .s 83)] [] []),
  o1 85 (.fld 9 (.s 2)),
  o0 (.store 140 9 1 false 85 (.s 84))]
def g_recv_Input_15 : List (IStep2 RW) := [o1 87 (.load 140 0 15 true true 2),
  o1 88 (.mv false (.s 9)),
  o1 89 (.fld 14 (.s 3)),
  o1 90 (.load 156 14 1 false false 89),
  o1 91 (.call 34 [(true, .s 87), (false, .s 88), (false, .s 90)] [] []),
  o1 86 (.mv true (.s 91)),
  o1 92 (.ext true 0 (.s 86)),
  o1 93 (.ext false 1 (.s 86)),
  o0 (.store 140 0 15 true 2 (.s 92)),
  o1 12 (.mv false (.s 93))]
def g_recv_Input_16 : List (IStep2 RW) := [o1 94 (.fld 9 (.s 2)),
  o1 95 (.load 140 9 1 false false 94),
  o1 96 (.fld 0 (.s 2)),
  o1 97 (.load 140 0 1 false false 96),
  o1 98 (.bin .eql (.s 95) (.s 97)),
  o1 99 (.fld 10 (.s 2)),
  o0 (.store 140 10 1 false 99 (.s 98))]
def i_recv_Input_3 : IC2 RW := .seq (.seq (.fin (.reg g_recv_Input_13) [74, 75, 76] []) (.fin (.cond (.s 77) (.fin (.reg g_recv_Input_14) [77, 78, 79, 80, 81, 82, 83, 84, 85] []) (.skip)) [77] [])) (.seq (.fin (.reg g_recv_Input_15) [86, 87, 88, 89, 90, 91, 92, 93] []) (.seq (.fin (.reg g_recv_Input_16) [94, 95, 96, 97, 98, 99] []) i_recv_Input_2))
def g_recv_Input_11 : List (IStep2 RW) := [o1 62 (.fld 7 (.s 2)),
  o1 63 (.load 140 7 1 false false 62),
  o2 64 (.mv false (.s 63)),
  o3 65 64 true (.mv false (.s 9)),
  o3 66 64 true (.fld 0 (.s 2)),
  o3 67 64 true (.load 140 0 1 false false 66),
  o3 68 64 true (.bin .leq (.s 65) (.s 67)),
  o1 69 (.pick (.s 64) (.s 68) (.k (.sc (.bool false))))]
def g_recv_Input_12 : List (IStep2 RW) := [o1 70 (.fld 11 (.s 3)),
  o1 71 (.load 156 11 1 false false 70),
  o1 72 (.fld 6 (.s 2)),
  o0 (.store 140 6 1 false 72 (.s 71)),
  o1 73 (.fld 14 (.s 2)),
  o0 (.store 140 14 1 false 73 (.k (.sc (.bool true))))]
def i_recv_Input_4 : IC2 RW := .seq (.seq (.fin (.reg g_recv_Input_11) [62, 63, 64, 65, 66, 67, 68] []) (.fin (.cond (.s 69) (.fin (.reg g_recv_Input_12) [69, 70, 71, 72, 73] []) (.skip)) [69] [])) i_recv_Input_3
def g_recv_Input_8 : List (IStep2 RW) := [o1 41 (.fld 7 (.s 2)),
  o1 42 (.load 140 7 1 false false 41),
  o2 43 (.mv false (.s 42)),
  o3 44 43 true (.fld 14 (.s 2)),
  o3 45 43 true (.load 140 14 1 false false 44),
  o1 46 (.pick (.s 43) (.s 45) (.k (.sc (.bool false)))),
  o2 47 (.mv false (.s 46)),
  o3 48 47 true (.fld 6 (.s 2)),
  o3 49 47 true (.load 140 6 1 false false 48),
  o3 50 47 true (.fld 11 (.s 3)),
  o3 51 47 true (.load 156 11 1 false false 50),
  o3 52 47 true (.call 31 [(false, .s 49), (false, .s 51)] [] []),
  o3 53 47 true (.bin .lss (.s 52) (.k (.sc (.int .i64 0)))),
  o1 54 (.pick (.s 47) (.s 53) (.k (.sc (.bool false))))]
def g_recv_Input_9 : List (IStep2 RW) := [o1 56 (.load 140 0 15 true false 2),
  o1 57 (.call 32 [(false, .s 56), (true, .k (.row true (.rBlock [])))] [] []),
  o1 55 (.mv false (.s 57)),
  o1 58 (.ext false 0 (.s 55)),
  o1 59 (.ext false 1 (.s 55)),
  o1 10 (.alloc 204 [.sc (.int .i64 0), .row false (.ruint8 []), .row false (.rPiece []), .sc (.int .i64 0), .sc (.int .i64 0), .sc (.int .i64 0), .sc (.int .u32 0), .sc (.bool false), .sc (.bool false), .sc (.int .i64 0), .sc (.bool false), .row false (.rSpan []), .sc (.int .u32 0), .sc (.int .u32 0), .sc (.bool false)]),
  o1 11 (.alloc 220 [.sc (.int .i64 0), .sc (.int .i64 0), .sc (.int .u32 0), .sc (.int .u32 0), .sc (.int .i64 0), .sc (.int .i64 0), .sc (.int .i64 0), .sc (.int .i64 0), .sc (.int .i64 0), .sc (.bool false), .sc (.bool false), .sc (.int .u32 0), .sc (.int .u32 0), .row false (.rBlock []), .row false (.ruint8 [])]),
  o0 (.store 204 0 15 false 10 (.s 58)),
  o0 (.store 220 0 15 false 11 (.s 59))]
def g_recv_Input_10 : List (IStep2 RW) := [o1 60 (.load 204 0 15 true false 10),
  o1 61 (.load 220 0 15 true false 11),
  o0 (.store 172 0 15 false 4 (.s 60)),
  o0 (.store 188 0 15 false 5 (.s 61)),
  o1 6 (.mv false (.k (.sc (.bool true)))),
  o1 7 (.mv false (.k (.sc (.int .i64 0))))]
def i_recv_Input_5 : IC2 RW := .seq (.seq (.fin (.reg g_recv_Input_8) [41, 42, 43, 44, 45, 46, 47, 48, 49, 50, 51, 52, 53] []) (.fin (.cond (.s 54) (.seq (.fin (.reg g_recv_Input_9) [2, 3, 9, 54, 55, 56, 57, 58, 59] [(140, 15), (156, 15)]) (.seq (.fin (.reg g_recv_Input_10) [10, 11, 60, 61] [(204, 15), (220, 15)]) (.wk [6, 7] (.ret)))) (.skip)) [54] [])) i_recv_Input_4
def g_recv_Input_0 : List (IStep2 RW) := [o1 2 (.box 140 15 true (.s 0)),
  o1 3 (.box 156 15 false (.s 1)),
  o1 4 (.alloc 172 [.sc (.int .i64 0), .row false (.ruint8 []), .row false (.rPiece []), .sc (.int .i64 0), .sc (.int .i64 0), .sc (.int .i64 0), .sc (.int .u32 0), .sc (.bool false), .sc (.bool false), .sc (.int .i64 0), .sc (.bool false), .row false (.rSpan []), .sc (.int .u32 0), .sc (.int .u32 0), .sc (.bool false)]),
  o1 5 (.alloc 188 [.sc (.int .i64 0), .sc (.int .i64 0), .sc (.int .u32 0), .sc (.int .u32 0), .sc (.int .i64 0), .sc (.int .i64 0), .sc (.int .i64 0), .sc (.int .i64 0), .sc (.int .i64 0), .sc (.bool false), .sc (.bool false), .sc (.int .u32 0), .sc (.int .u32 0), .row false (.rBlock []), .row false (.ruint8 [])]),
  o1 6 (.mv false (.k (.sc (.bool false)))),
  o1 7 (.mv false (.k (.sc (.int .i64 0))))]
def g_recv_Input_1 : List (IStep2 RW) := [o1 15 (.load 140 0 15 true false 2),
  o1 16 (.call 10 [(false, .s 15)] [] []),
  o1 8 (.mv false (.s 16))]
def g_recv_Input_2 : List (IStep2 RW) := [o1 17 (.mv false (.s 8)),
  o1 18 (.bin .neq (.s 17) (.k (.sc (.int .i64 0))))]
def g_recv_Input_3 : List (IStep2 RW) := [o1 19 (.build [.sc (.int .i64 0), .row false (.ruint8 []), .row false (.rPiece []), .sc (.int .i64 0), .sc (.int .i64 0), .sc (.int .i64 0), .sc (.int .u32 0), .sc (.bool false), .sc (.bool false), .sc (.int .i64 0), .sc (.bool false), .row false (.rSpan []), .sc (.int .u32 0), .sc (.int .u32 0), .sc (.bool false)] []),
  o1 20 (.build [.sc (.int .i64 0), .sc (.int .i64 0), .sc (.int .u32 0), .sc (.int .u32 0), .sc (.int .i64 0), .sc (.int .i64 0), .sc (.int .i64 0), .sc (.int .i64 0), .sc (.int .i64 0), .sc (.bool false), .sc (.bool false), .sc (.int .u32 0), .sc (.int .u32 0), .row false (.rBlock []), .row false (.ruint8 [])] []),
  o1 21 (.mv false (.s 8)),
  o0 (.store 172 0 15 false 4 (.s 19)),
  o0 (.store 188 0 15 false 5 (.s 20)),
  o1 6 (.mv false (.k (.sc (.bool false)))),
  o1 7 (.mv false (.s 21))]
def g_recv_Input_4 : List (IStep2 RW) := [o1 22 (.load 140 0 15 true false 2),
  o1 23 (.call 29 [(false, .s 22)] [] []),
  o0 (.store 140 0 15 true 2 (.s 23))]
def g_recv_Input_5 : List (IStep2 RW) := [o1 24 (.fld 7 (.s 2)),
  o1 25 (.load 140 7 1 false false 24),
  o2 26 (.mv false (.s 25)),
  o3 27 26 true (.fld 10 (.s 3)),
  o3 28 26 true (.load 156 10 1 false false 27),
  o3 29 26 true (.un .not (.s 28)),
  o1 30 (.pick (.s 26) (.s 29) (.k (.sc (.bool false))))]
def g_recv_Input_6 : List (IStep2 RW) := [o1 31 (.load 140 0 15 true false 2),
  o1 32 (.build [.sc (.int .i64 0), .sc (.int .i64 0), .sc (.int .u32 0), .sc (.int .u32 0), .sc (.int .i64 0), .sc (.int .i64 0), .sc (.int .i64 0), .sc (.int .i64 0), .sc (.int .i64 0), .sc (.bool false), .sc (.bool false), .sc (.int .u32 0), .sc (.int .u32 0), .row false (.rBlock []), .row false (.ruint8 [])] []),
  o0 (.store 172 0 15 false 4 (.s 31)),
  o0 (.store 188 0 15 false 5 (.s 32)),
  o1 6 (.mv false (.k (.sc (.bool false)))),
  o1 7 (.mv false (.k (.sc (.int .i64 0))))]
def g_recv_Input_7 : List (IStep2 RW) := [o1 33 (.fld 0 (.s 2)),
  o1 34 (.load 140 0 1 false false 33),
  o1 35 (.fld 2 (.s 3)),
  o1 36 (.load 156 2 1 false false 35),
  o1 37 (.fld 12 (.s 2)),
  o1 38 (.load 140 12 1 false false 37),
  o1 39 (.bin .sub (.s 36) (.s 38)),
  o1 40 (.call 30 [(false, .s 34), (false, .s 39)] [] []),
  o1 9 (.mv false (.s 40))]
def i_recv_Input_6 : IC2 RW := .seq (.fin (.reg g_recv_Input_0) [0, 1, 6, 7] []) (.seq (.seq (.fin (.reg g_recv_Input_1) [15, 16] []) (.seq (.fin (.reg g_recv_Input_2) [17] []) (.fin (.cond (.s 18) (.seq (.fin (.reg g_recv_Input_3) [2, 3, 8, 18, 19, 20, 21] [(140, 15), (156, 15)]) (.wk [6, 7] (.ret))) (.skip)) [8, 18] []))) (.seq (.fin (.reg g_recv_Input_4) [22, 23] []) (.seq (.seq (.fin (.reg g_recv_Input_5) [24, 25, 26, 27, 28, 29] []) (.fin (.cond (.s 30) (.seq (.fin (.reg g_recv_Input_6) [2, 3, 30, 31, 32] [(140, 15), (156, 15)]) (.wk [6, 7] (.ret))) (.skip)) [30] [])) (.seq (.fin (.reg g_recv_Input_7) [33, 34, 35, 36, 37, 38, 39, 40] []) i_recv_Input_5))))
def fn_recv_Input : IFn2 RW := ⟨12, 2, 140, 256, [(140, 15), (156, 15), (172, 15), (188, 15), (204, 15), (220, 15), (236, 15)], [], [], [.cell 4 172 15 true, .cell 5 188 15 true, .slot 6, .slot 7], i_recv_Input_6⟩
def g_seq_Clamp_0 : List (IStep2 RW) := [o1 6 (.mv false (.k (.sc (.int .i64 0))))]
def g_seq_Clamp_1 : List (IStep2 RW) := [o1 7 (.mv false (.s 1)),
  o1 8 (.mv false (.s 0)),
  o1 9 (.mv false (.s 2)),
  o1 10 (.mnmx false [.s 8, .s 9]),
  o1 11 (.mnmx true [.s 7, .s 10]),
  o1 6 (.mv false (.s 11))]
def i_seq_Clamp_0 : IC2 RW := .seq (.fin (.reg g_seq_Clamp_0) [6] []) (.seq (.fin (.reg g_seq_Clamp_1) [0, 1, 2, 7, 8, 9, 10, 11] []) (.ret))
def fn_seq_Clamp : IFn2 RW := ⟨51, 3, 12, 16, [], [], [], [.slot 6], i_seq_Clamp_0⟩
def g_recv_Read_8 : List (IStep2 RW) := [o1 36 (.fld 0 (.s 2)),
  o1 37 (.load 60 0 1 false false 36),
  o1 38 (.load 60 0 15 true false 2),
  o1 39 (.call 49 [(false, .s 38)] [] []),
  o1 40 (.bin .add (.s 37) (.s 39)),
  o1 41 (.fld 5 (.s 2)),
  o1 42 (.load 60 5 1 false false 41),
  o1 43 (.bin .sub (.s 40) (.s 42)),
  o1 44 (.fld 3 (.s 2)),
  o1 45 (.load 60 3 1 false false 44),
  o1 46 (.bin .quo (.s 45) (.k (.sc (.int .i64 2)))),
  o1 47 (.mnmx true [.s 46, .k (.sc (.int .i64 1))]),
  o1 48 (.bin .lss (.s 43) (.s 47))]
def g_recv_Read_9 : List (IStep2 RW) := [o1 49 (.load 60 0 15 true false 2),
  o1 50 (.mv false (.s 10)),
  o1 51 (.build [.sc (.int .i64 0), .sc (.int .i64 0), .sc (.int .u32 0), .sc (.int .u32 0), .sc (.int .i64 0), .sc (.int .i64 0), .sc (.int .i64 0), .sc (.int .i64 0), .sc (.int .i64 0), .sc (.bool false), .sc (.bool false), .sc (.int .u32 0), .sc (.int .u32 0), .row false (.rBlock []), .row false (.ruint8 [])] []),
  o0 (.store 76 0 15 false 4 (.s 49)),
  o1 5 (.mv false (.s 50)),
  o0 (.store 92 0 15 false 6 (.s 51)),
  o1 7 (.mv false (.k (.sc (.bool false)))),
  o1 8 (.mv false (.k (.sc (.int .i64 0))))]
def g_recv_Read_10 : List (IStep2 RW) := [o1 53 (.load 60 0 15 true false 2),
  o1 54 (.call 32 [(false, .s 53), (true, .k (.row true (.rBlock [])))] [] []),
  o1 52 (.mv false (.s 54)),
  o1 55 (.ext false 0 (.s 52)),
  o1 56 (.ext false 1 (.s 52)),
  o1 11 (.alloc 108 [.sc (.int .i64 0), .sc (.int .i64 0), .sc (.int .u32 0), .sc (.int .u32 0), .sc (.int .i64 0), .sc (.int .i64 0), .sc (.int .i64 0), .sc (.int .i64 0), .sc (.int .i64 0), .sc (.bool false), .sc (.bool false), .sc (.int .u32 0), .sc (.int .u32 0), .row false (.rBlock []), .row false (.ruint8 [])]),
  o0 (.store 60 0 15 false 2 (.s 55)),
  o0 (.store 108 0 15 false 11 (.s 56))]
def g_recv_Read_11 : List (IStep2 RW) := [o1 57 (.load 60 0 15 true false 2),
  o1 58 (.mv false (.s 10)),
  o1 59 (.load 108 0 15 true false 11),
  o0 (.store 76 0 15 false 4 (.s 57)),
  o1 5 (.mv false (.s 58)),
  o0 (.store 92 0 15 false 6 (.s 59)),
  o1 7 (.mv false (.k (.sc (.bool true)))),
  o1 8 (.mv false (.k (.sc (.int .i64 0))))]
def i_recv_Read_0 : IC2 RW := .seq (.seq (.fin (.reg g_recv_Read_8) [36, 37, 38, 39, 40, 41, 42, 43, 44, 45, 46, 47] []) (.fin (.cond (.s 48) (.seq (.fin (.reg g_recv_Read_9) [2, 10, 48, 49, 50, 51] [(60, 15)]) (.wk [5, 7, 8] (.ret))) (.skip)) [48] [])) (.seq (.fin (.reg g_recv_Read_10) [52, 53, 54, 55, 56] []) (.seq (.fin (.reg g_recv_Read_11) [2, 10, 11, 57, 58, 59] [(60, 15), (108, 15)]) (.wk [5, 7, 8] (.ret))))
def g_recv_Read_0 : List (IStep2 RW) := [o1 2 (.box 60 15 false (.s 0)),
  o1 4 (.alloc 76 [.sc (.int .i64 0), .row false (.ruint8 []), .row false (.rPiece []), .sc (.int .i64 0), .sc (.int .i64 0), .sc (.int .i64 0), .sc (.int .u32 0), .sc (.bool false), .sc (.bool false), .sc (.int .i64 0), .sc (.bool false), .row false (.rSpan []), .sc (.int .u32 0), .sc (.int .u32 0), .sc (.bool false)]),
  o1 5 (.mv false (.k (.row false (.ruint8 [])))),
  o1 6 (.alloc 92 [.sc (.int .i64 0), .sc (.int .i64 0), .sc (.int .u32 0), .sc (.int .u32 0), .sc (.int .i64 0), .sc (.int .i64 0), .sc (.int .i64 0), .sc (.int .i64 0), .sc (.int .i64 0), .sc (.bool false), .sc (.bool false), .sc (.int .u32 0), .sc (.int .u32 0), .row false (.rBlock []), .row false (.ruint8 [])]),
  o1 7 (.mv false (.k (.sc (.bool false)))),
  o1 8 (.mv false (.k (.sc (.int .i64 0))))]
def g_recv_Read_1 : List (IStep2 RW) := [o1 12 (.load 60 0 15 true false 2),
  o1 13 (.call 10 [(false, .s 12)] [] []),
  o1 9 (.mv false (.s 13))]
def g_recv_Read_2 : List (IStep2 RW) := [o1 14 (.mv false (.s 9)),
  o1 15 (.bin .neq (.s 14) (.k (.sc (.int .i64 0))))]
def g_recv_Read_3 : List (IStep2 RW) := [o1 16 (.build [.sc (.int .i64 0), .row false (.ruint8 []), .row false (.rPiece []), .sc (.int .i64 0), .sc (.int .i64 0), .sc (.int .i64 0), .sc (.int .u32 0), .sc (.bool false), .sc (.bool false), .sc (.int .i64 0), .sc (.bool false), .row false (.rSpan []), .sc (.int .u32 0), .sc (.int .u32 0), .sc (.bool false)] []),
  o1 17 (.build [.sc (.int .i64 0), .sc (.int .i64 0), .sc (.int .u32 0), .sc (.int .u32 0), .sc (.int .i64 0), .sc (.int .i64 0), .sc (.int .i64 0), .sc (.int .i64 0), .sc (.int .i64 0), .sc (.bool false), .sc (.bool false), .sc (.int .u32 0), .sc (.int .u32 0), .row false (.rBlock []), .row false (.ruint8 [])] []),
  o1 18 (.mv false (.s 9)),
  o0 (.store 76 0 15 false 4 (.s 16)),
  o1 5 (.mv false (.k (.row false (.ruint8 [])))),
  o0 (.store 92 0 15 false 6 (.s 17)),
  o1 7 (.mv false (.k (.sc (.bool false)))),
  o1 8 (.mv false (.s 18))]
def g_recv_Read_4 : List (IStep2 RW) := [o1 19 (.load 60 0 15 true false 2),
  o1 20 (.call 29 [(false, .s 19)] [] []),
  o0 (.store 60 0 15 false 2 (.s 20))]
def g_recv_Read_5 : List (IStep2 RW) := [o1 21 (.mv false (.s 1)),
  o1 22 (.fld 1 (.s 2)),
  o1 23 (.load 60 1 1 false false 22),
  o1 24 (.len false (.s 23)),
  o1 25 (.call 51 [(false, .s 21), (false, .k (.sc (.int .i64 0))), (false, .s 24)] [] []),
  o1 1 (.mv false (.s 25))]
def g_recv_Read_6 : List (IStep2 RW) := [o1 26 (.fld 1 (.s 2)),
  o1 27 (.load 60 1 1 false false 26),
  o1 28 (.mv false (.s 1)),
  o1 29 (.slice 1 (.s 27) none (some (.s 28)) none),
  o1 30 (.call 52 [(false, .s 29)] [] []),
  o1 10 (.mv false (.s 30))]
def g_recv_Read_7 : List (IStep2 RW) := [o1 31 (.fld 1 (.s 2)),
  o1 32 (.load 60 1 1 false false 31),
  o1 33 (.mv false (.s 1)),
  o1 34 (.slice 1 (.s 32) (some (.s 33)) none none),
  o1 35 (.fld 1 (.s 2)),
  o0 (.store 60 1 1 false 35 (.s 34))]
def i_recv_Read_1 : IC2 RW := .seq (.fin (.reg g_recv_Read_0) [0, 5, 7, 8] []) (.seq (.seq (.fin (.reg g_recv_Read_1) [12, 13] []) (.seq (.fin (.reg g_recv_Read_2) [14] []) (.fin (.cond (.s 15) (.seq (.fin (.reg g_recv_Read_3) [1, 2, 9, 15, 16, 17, 18] [(60, 15)]) (.wk [5, 7, 8] (.ret))) (.skip)) [9, 15] []))) (.seq (.fin (.reg g_recv_Read_4) [19, 20] []) (.seq (.fin (.reg g_recv_Read_5) [21, 22, 23, 24, 25] []) (.seq (.fin (.reg g_recv_Read_6) [26, 27, 28, 29, 30] []) (.seq (.fin (.reg g_recv_Read_7) [1, 31, 32, 33, 34, 35] []) i_recv_Read_0)))))
def fn_recv_Read : IFn2 RW := ⟨20, 2, 60, 128, [(60, 15), (76, 15), (92, 15), (108, 15)], [], [], [.cell 4 76 15 true, .slot 5, .cell 6 92 15 true, .slot 7, .slot 8], i_recv_Read_1⟩
def g_recv_Window_0 : List (IStep2 RW) := [o1 1 (.box 8 15 false (.s 0)),
  o1 2 (.mv false (.k (.sc (.int .i64 0))))]
def g_recv_Window_1 : List (IStep2 RW) := [o1 3 (.load 8 0 15 true false 1),
  o1 4 (.call 10 [(false, .s 3)] [] []),
  o1 5 (.bin .neq (.s 4) (.k (.sc (.int .i64 0))))]
def g_recv_Window_2 : List (IStep2 RW) := [o1 2 (.mv false (.k (.sc (.int .i64 0))))]
def g_recv_Window_3 : List (IStep2 RW) := [o1 6 (.load 8 0 15 true false 1),
  o1 7 (.call 49 [(false, .s 6)] [] []),
  o1 2 (.mv false (.s 7))]
def i_recv_Window_0 : IC2 RW := .seq (.fin (.reg g_recv_Window_0) [0, 2] []) (.seq (.seq (.fin (.reg g_recv_Window_1) [3, 4] []) (.fin (.cond (.s 5) (.seq (.fin (.reg g_recv_Window_2) [1, 5] [(8, 15)]) (.ret)) (.skip)) [5] [])) (.seq (.fin (.reg g_recv_Window_3) [1, 6, 7] [(8, 15)]) (.ret)))
def fn_recv_Window : IFn2 RW := ⟨22, 1, 8, 32, [(8, 15)], [], [], [.slot 2], i_recv_Window_0⟩
def g_law08_heads_5 : List (IStep2 RW) := [o1 51 (.call 17 [(false, .k (.sc (.int .i64 0))), (false, .k (.sc (.int .i64 0))), (false, .k (.sc (.int .u32 0))), (false, .k (.sc (.int .u32 0))), (false, .k (.sc (.bool false))), (false, .k (.sc (.bool false)))] [] []),
  o1 50 (.mv false (.s 51)),
  o1 52 (.ext false 0 (.s 50)),
  o1 53 (.ext false 1 (.s 50)),
  o1 16 (.alloc 236 [.sc (.int .i64 0), .row false (.ruint8 []), .row false (.rPiece []), .sc (.int .i64 0), .sc (.int .i64 0), .sc (.int .i64 0), .sc (.int .u32 0), .sc (.bool false), .sc (.bool false), .sc (.int .i64 0), .sc (.bool false), .row false (.rSpan []), .sc (.int .u32 0), .sc (.int .u32 0), .sc (.bool false)]),
  o0 (.store 236 0 15 false 16 (.s 52)),
  o1 17 (.mv false (.s 53))]
def g_law08_heads_6 : List (IStep2 RW) := [o1 54 (.mv false (.s 2)),
  o1 55 (.bin .neq (.s 54) (.k (.sc (.int .i64 0)))),
  o2 56 (.mv false (.s 55)),
  o3 57 56 false (.mv false (.s 6)),
  o3 58 56 false (.bin .neq (.s 57) (.k (.sc (.int .i64 0)))),
  o1 59 (.pick (.s 56) (.k (.sc (.bool true))) (.s 58)),
  o2 60 (.mv false (.s 59)),
  o3 61 60 false (.mv false (.s 10)),
  o3 62 60 false (.bin .neq (.s 61) (.k (.sc (.int .i64 0)))),
  o1 63 (.pick (.s 60) (.k (.sc (.bool true))) (.s 62)),
  o2 64 (.mv false (.s 63)),
  o3 65 64 false (.mv false (.s 15)),
  o3 66 64 false (.bin .neq (.s 65) (.k (.sc (.int .i64 0)))),
  o1 67 (.pick (.s 64) (.k (.sc (.bool true))) (.s 66)),
  o2 68 (.mv false (.s 67)),
  o3 69 68 false (.mv false (.s 5)),
  o3 70 68 false (.un .not (.s 69)),
  o1 71 (.pick (.s 68) (.k (.sc (.bool true))) (.s 70)),
  o2 72 (.mv false (.s 71)),
  o3 73 72 false (.mv false (.s 9)),
  o3 74 72 false (.un .not (.s 73)),
  o1 75 (.pick (.s 72) (.k (.sc (.bool true))) (.s 74)),
  o2 76 (.mv false (.s 75)),
  o3 77 76 false (.mv false (.s 17)),
  o3 78 76 false (.bin .neq (.s 77) (.k (.sc (.int .i64 2)))),
  o1 79 (.pick (.s 76) (.k (.sc (.bool true))) (.s 78))]
def g_law08_heads_7 : List (IStep2 RW) := [o1 0 (.mv false (.k (.sc (.bool false))))]
def g_law08_heads_8 : List (IStep2 RW) := [o1 80 (.fld 3 (.s 4)),
  o1 81 (.load 156 3 1 false false 80),
  o1 82 (.bin .eql (.s 81) (.k (.sc (.int .u32 100)))),
  o2 83 (.mv false (.s 82)),
  o3 84 83 true (.fld 13 (.s 4)),
  o3 85 83 true (.load 156 13 1 false false 84),
  o3 86 83 true (.len false (.s 85)),
  o3 87 83 true (.bin .eql (.s 86) (.k (.sc (.int .i64 1)))),
  o1 88 (.pick (.s 83) (.s 87) (.k (.sc (.bool false)))),
  o2 89 (.mv false (.s 88)),
  o3 90 89 true (.fld 13 (.s 4)),
  o3 91 89 true (.load 156 13 1 false false 90),
  o3 92 89 true (.idx 2 (.s 91) (.k (.sc (.int .i64 0)))),
  o3 93 89 true (.loade 2 true 92),
  o3 94 89 true (.build [.sc (.int .u32 0), .sc (.int .u32 0)] [(0, 1, .k (.sc (.int .u32 102))), (1, 1, .k (.sc (.int .u32 104)))]),
  o3 95 89 true (.eqs [true, true] false (.s 93) (.s 94)),
  o1 96 (.pick (.s 89) (.s 95) (.k (.sc (.bool false)))),
  o2 97 (.mv false (.s 96)),
  o3 98 97 true (.fld 3 (.s 8)),
  o3 99 97 true (.load 188 3 1 false false 98),
  o3 100 97 true (.bin .eql (.s 99) (.k (.sc (.int .u32 104)))),
  o1 101 (.pick (.s 97) (.s 100) (.k (.sc (.bool false)))),
  o2 102 (.mv false (.s 101)),
  o3 103 102 true (.fld 1 (.s 7)),
  o3 104 102 true (.load 172 1 1 false false 103),
  o3 105 102 true (.cstr (.s 104)),
  o3 106 102 true (.eqt false (.s 105) (.k (.sc (.string str_abcd)))),
  o1 107 (.pick (.s 102) (.s 106) (.k (.sc (.bool false)))),
  o2 108 (.mv false (.s 107)),
  o3 109 108 true (.mv false (.s 12)),
  o3 110 108 true (.cstr (.s 109)),
  o3 111 108 true (.eqt false (.s 110) (.k (.sc (.string str_abc)))),
  o1 112 (.pick (.s 108) (.s 111) (.k (.sc (.bool false)))),
  o2 113 (.mv false (.s 112)),
  o3 114 113 true (.fld 1 (.s 11)),
  o3 115 113 true (.load 204 1 1 false false 114),
  o3 116 113 true (.cstr (.s 115)),
  o3 117 113 true (.eqt false (.s 116) (.k (.sc (.string str_d)))),
  o1 118 (.pick (.s 113) (.s 117) (.k (.sc (.bool false)))),
  o2 119 (.mv false (.s 118)),
  o3 120 119 true (.load 124 0 15 true false 1),
  o3 121 119 true (.call 22 [(false, .s 120)] [] []),
  o3 122 119 true (.bin .eql (.s 121) (.k (.sc (.int .i64 10)))),
  o1 123 (.pick (.s 119) (.s 122) (.k (.sc (.bool false)))),
  o1 0 (.mv false (.s 123))]
def i_law08_heads_0 : IC2 RW := .seq (.fin (.reg g_law08_heads_5) [16, 50, 51, 52, 53] [(236, 15)]) (.seq (.seq (.fin (.reg g_law08_heads_6) [2, 5, 6, 9, 10, 15, 17, 54, 55, 56, 57, 58, 59, 60, 61, 62, 63, 64, 65, 66, 67, 68, 69, 70, 71, 72, 73, 74, 75, 76, 77, 78] []) (.fin (.cond (.s 79) (.seq (.fin (.reg g_law08_heads_7) [1, 4, 7, 8, 11, 12, 79] [(124, 15), (156, 15), (172, 15), (188, 15), (204, 15)]) (.ret)) (.skip)) [79] [])) (.seq (.fin (.reg g_law08_heads_8) [1, 4, 7, 8, 11, 12, 80, 81, 82, 83, 84, 85, 86, 87, 88, 89, 90, 91, 92, 93, 94, 95, 96, 97, 98, 99, 100, 101, 102, 103, 104, 105, 106, 107, 108, 109, 110, 111, 112, 113, 114, 115, 116, 117, 118, 119, 120, 121, 122, 123] [(124, 15), (156, 15), (172, 15), (188, 15), (204, 15)]) (.ret)))
def g_law08_heads_0 : List (IStep2 RW) := [o1 0 (.mv false (.k (.sc (.bool false))))]
def g_law08_heads_1 : List (IStep2 RW) := [o1 19 (.call 17 [(false, .k (.sc (.int .i64 10))), (false, .k (.sc (.int .i64 0))), (false, .k (.sc (.int .u32 100))), (false, .k (.sc (.int .u32 7))), (false, .k (.sc (.bool false))), (false, .k (.sc (.bool true)))] [] []),
  o1 18 (.mv false (.s 19)),
  o1 20 (.ext false 0 (.s 18)),
  o1 21 (.ext false 1 (.s 18)),
  o1 1 (.alloc 124 [.sc (.int .i64 0), .row false (.ruint8 []), .row false (.rPiece []), .sc (.int .i64 0), .sc (.int .i64 0), .sc (.int .i64 0), .sc (.int .u32 0), .sc (.bool false), .sc (.bool false), .sc (.int .i64 0), .sc (.bool false), .row false (.rSpan []), .sc (.int .u32 0), .sc (.int .u32 0), .sc (.bool false)]),
  o0 (.store 124 0 15 false 1 (.s 20)),
  o1 2 (.mv false (.s 21))]
def g_law08_heads_2 : List (IStep2 RW) := [o1 23 (.load 124 0 15 true false 1),
  o1 24 (.ubs 5 2 [(0, 1, .k (.sc (.int .u8 99))), (1, 1, .k (.sc (.int .u8 100)))]),
  o1 25 (.uconv (.s 24)),
  o1 26 (.build [.sc (.int .i64 0), .sc (.int .i64 0), .sc (.int .u32 0), .sc (.int .u32 0), .sc (.int .i64 0), .sc (.int .i64 0), .sc (.int .i64 0), .sc (.int .i64 0), .sc (.int .i64 0), .sc (.bool false), .sc (.bool false), .sc (.int .u32 0), .sc (.int .u32 0), .row false (.rBlock []), .row false (.ruint8 [])] [(2, 1, .k (.sc (.int .u32 102))), (14, 1, .s 25)]),
  o1 27 (.call 12 [(false, .s 23), (false, .s 26)] [] []),
  o1 22 (.mv false (.s 27)),
  o1 28 (.ext false 0 (.s 22)),
  o1 29 (.ext false 1 (.s 22)),
  o1 30 (.ext false 2 (.s 22)),
  o1 31 (.ext false 3 (.s 22)),
  o1 3 (.alloc 140 [.sc (.int .i64 0), .row false (.ruint8 []), .row false (.rPiece []), .sc (.int .i64 0), .sc (.int .i64 0), .sc (.int .i64 0), .sc (.int .u32 0), .sc (.bool false), .sc (.bool false), .sc (.int .i64 0), .sc (.bool false), .row false (.rSpan []), .sc (.int .u32 0), .sc (.int .u32 0), .sc (.bool false)]),
  o1 4 (.alloc 156 [.sc (.int .i64 0), .sc (.int .i64 0), .sc (.int .u32 0), .sc (.int .u32 0), .sc (.int .i64 0), .sc (.int .i64 0), .sc (.int .i64 0), .sc (.int .i64 0), .sc (.int .i64 0), .sc (.bool false), .sc (.bool false), .sc (.int .u32 0), .sc (.int .u32 0), .row false (.rBlock []), .row false (.ruint8 [])]),
  o0 (.store 140 0 15 false 3 (.s 28)),
  o0 (.store 156 0 15 false 4 (.s 29)),
  o1 5 (.mv false (.s 30)),
  o1 6 (.mv false (.s 31))]
def g_law08_heads_3 : List (IStep2 RW) := [o1 33 (.load 140 0 15 true false 3),
  o1 34 (.ubs 5 2 [(0, 1, .k (.sc (.int .u8 97))), (1, 1, .k (.sc (.int .u8 98)))]),
  o1 35 (.uconv (.s 34)),
  o1 36 (.build [.sc (.int .i64 0), .sc (.int .i64 0), .sc (.int .u32 0), .sc (.int .u32 0), .sc (.int .i64 0), .sc (.int .i64 0), .sc (.int .i64 0), .sc (.int .i64 0), .sc (.int .i64 0), .sc (.bool false), .sc (.bool false), .sc (.int .u32 0), .sc (.int .u32 0), .row false (.rBlock []), .row false (.ruint8 [])] [(2, 1, .k (.sc (.int .u32 100))), (14, 1, .s 35)]),
  o1 37 (.call 12 [(false, .s 33), (false, .s 36)] [] []),
  o1 32 (.mv false (.s 37)),
  o1 38 (.ext false 0 (.s 32)),
  o1 39 (.ext false 1 (.s 32)),
  o1 40 (.ext false 2 (.s 32)),
  o1 41 (.ext false 3 (.s 32)),
  o1 7 (.alloc 172 [.sc (.int .i64 0), .row false (.ruint8 []), .row false (.rPiece []), .sc (.int .i64 0), .sc (.int .i64 0), .sc (.int .i64 0), .sc (.int .u32 0), .sc (.bool false), .sc (.bool false), .sc (.int .i64 0), .sc (.bool false), .row false (.rSpan []), .sc (.int .u32 0), .sc (.int .u32 0), .sc (.bool false)]),
  o1 8 (.alloc 188 [.sc (.int .i64 0), .sc (.int .i64 0), .sc (.int .u32 0), .sc (.int .u32 0), .sc (.int .i64 0), .sc (.int .i64 0), .sc (.int .i64 0), .sc (.int .i64 0), .sc (.int .i64 0), .sc (.bool false), .sc (.bool false), .sc (.int .u32 0), .sc (.int .u32 0), .row false (.rBlock []), .row false (.ruint8 [])]),
  o0 (.store 172 0 15 false 7 (.s 38)),
  o0 (.store 188 0 15 false 8 (.s 39)),
  o1 9 (.mv false (.s 40)),
  o1 10 (.mv false (.s 41))]
def g_law08_heads_4 : List (IStep2 RW) := [o1 43 (.load 172 0 15 true false 7),
  o1 44 (.call 20 [(false, .s 43), (false, .k (.sc (.int .i64 3)))] [] []),
  o1 42 (.mv false (.s 44)),
  o1 45 (.ext false 0 (.s 42)),
  o1 46 (.ext false 1 (.s 42)),
  o1 47 (.ext false 2 (.s 42)),
  o1 48 (.ext false 3 (.s 42)),
  o1 49 (.ext false 4 (.s 42)),
  o1 11 (.alloc 204 [.sc (.int .i64 0), .row false (.ruint8 []), .row false (.rPiece []), .sc (.int .i64 0), .sc (.int .i64 0), .sc (.int .i64 0), .sc (.int .u32 0), .sc (.bool false), .sc (.bool false), .sc (.int .i64 0), .sc (.bool false), .row false (.rSpan []), .sc (.int .u32 0), .sc (.int .u32 0), .sc (.bool false)]),
  o1 13 (.alloc 220 [.sc (.int .i64 0), .sc (.int .i64 0), .sc (.int .u32 0), .sc (.int .u32 0), .sc (.int .i64 0), .sc (.int .i64 0), .sc (.int .i64 0), .sc (.int .i64 0), .sc (.int .i64 0), .sc (.bool false), .sc (.bool false), .sc (.int .u32 0), .sc (.int .u32 0), .row false (.rBlock []), .row false (.ruint8 [])]),
  o0 (.store 204 0 15 false 11 (.s 45)),
  o1 12 (.mv false (.s 46)),
  o0 (.store 220 0 15 false 13 (.s 47)),
  o1 14 (.mv false (.s 48)),
  o1 15 (.mv false (.s 49))]
def i_law08_heads_1 : IC2 RW := .seq (.fin (.reg g_law08_heads_0) [0] []) (.seq (.fin (.reg g_law08_heads_1) [18, 19, 20, 21] []) (.seq (.fin (.reg g_law08_heads_2) [22, 23, 24, 25, 26, 27, 28, 29, 30, 31] []) (.seq (.fin (.reg g_law08_heads_3) [3, 32, 33, 34, 35, 36, 37, 38, 39, 40, 41] [(140, 15)]) (.seq (.fin (.reg g_law08_heads_4) [13, 14, 42, 43, 44, 45, 46, 47, 48, 49] [(220, 15)]) i_law08_heads_0))))
def fn_law08_heads : IFn2 RW := ⟨11, 0, 124, 256, [(124, 15), (140, 15), (156, 15), (172, 15), (188, 15), (204, 15), (220, 15), (236, 15)], [], [], [.slot 0], i_law08_heads_1⟩
def g_law08_RecvOld_2 : List (IStep2 RW) := [o1 39 (.call 11 [] [] []),
  o1 6 (.mv false (.s 39))]
def i_law08_RecvOld_0 : IC2 RW := .fin (.cond (.s 38) (.seq (.fin (.reg g_law08_RecvOld_2) [2, 3, 4, 38, 39] [(94, 15), (110, 15)]) (.ret)) (.skip)) [38] []
def g_law08_RecvOld_1 : List (IStep2 RW) := [o1 12 (.load 94 0 15 true false 3),
  o1 13 (.call 10 [(false, .s 12)] [] []),
  o1 14 (.bin .neq (.s 13) (.k (.sc (.int .i64 0)))),
  o2 15 (.mv false (.s 14)),
  o3 16 15 false (.fld 7 (.s 3)),
  o3 17 15 false (.load 94 7 1 false false 16),
  o3 18 15 false (.un .not (.s 17)),
  o1 19 (.pick (.s 15) (.k (.sc (.bool true))) (.s 18)),
  o2 20 (.mv false (.s 19)),
  o3 21 20 false (.fld 14 (.s 3)),
  o3 22 20 false (.load 94 14 1 false false 21),
  o3 23 20 false (.un .not (.s 22)),
  o1 24 (.pick (.s 20) (.k (.sc (.bool true))) (.s 23)),
  o2 25 (.mv false (.s 24)),
  o3 26 25 false (.mv false (.s 2)),
  o3 27 25 false (.bin .lss (.s 26) (.k (.sc (.int .i64 1)))),
  o1 28 (.pick (.s 25) (.k (.sc (.bool true))) (.s 27)),
  o2 29 (.mv false (.s 28)),
  o3 30 29 false (.mv false (.s 2)),
  o3 31 29 false (.bin .gtr (.s 30) (.k (.sc (.int .i64 2147483647)))),
  o1 32 (.pick (.s 29) (.k (.sc (.bool true))) (.s 31)),
  o2 33 (.mv false (.s 32)),
  o3 34 33 false (.fld 14 (.s 4)),
  o3 35 33 false (.load 110 14 1 false false 34),
  o3 36 33 false (.len false (.s 35)),
  o3 37 33 false (.bin .gtr (.s 36) (.k (.sc (.int .i64 500)))),
  o1 38 (.pick (.s 33) (.k (.sc (.bool true))) (.s 37))]
def i_law08_RecvOld_1 : IC2 RW := .seq (.fin (.reg g_law08_RecvOld_1) [12, 13, 14, 15, 16, 17, 18, 19, 20, 21, 22, 23, 24, 25, 26, 27, 28, 29, 30, 31, 32, 33, 34, 35, 36, 37] []) i_law08_RecvOld_0
def g_law08_RecvOld_3 : List (IStep2 RW) := [o1 40 (.load 110 0 15 true false 4),
  o1 7 (.alloc 126 [.sc (.int .i64 0), .sc (.int .i64 0), .sc (.int .u32 0), .sc (.int .u32 0), .sc (.int .i64 0), .sc (.int .i64 0), .sc (.int .i64 0), .sc (.int .i64 0), .sc (.int .i64 0), .sc (.bool false), .sc (.bool false), .sc (.int .u32 0), .sc (.int .u32 0), .row false (.rBlock []), .row false (.ruint8 [])]),
  o0 (.store 126 0 15 false 7 (.s 40))]
def g_law08_RecvOld_4 : List (IStep2 RW) := [o1 41 (.fld 10 (.s 7)),
  o0 (.store 126 10 1 false 41 (.k (.sc (.bool true))))]
def g_law08_RecvOld_5 : List (IStep2 RW) := [o1 42 (.fld 6 (.s 3)),
  o1 43 (.load 94 6 1 false false 42),
  o1 44 (.mv false (.s 2)),
  o1 45 (.conv .u32 (.s 44)),
  o1 46 (.bin .sub (.s 43) (.s 45)),
  o1 47 (.fld 11 (.s 7)),
  o0 (.store 126 11 1 false 47 (.s 46))]
def g_law08_RecvOld_6 : List (IStep2 RW) := [o1 49 (.load 94 0 15 true false 3),
  o1 50 (.load 126 0 15 true false 7),
  o1 51 (.call 12 [(false, .s 49), (false, .s 50)] [] []),
  o1 48 (.mv false (.s 51)),
  o1 52 (.ext false 0 (.s 48)),
  o1 53 (.ext false 1 (.s 48)),
  o1 54 (.ext false 2 (.s 48)),
  o1 55 (.ext false 3 (.s 48)),
  o1 8 (.alloc 142 [.sc (.int .i64 0), .row false (.ruint8 []), .row false (.rPiece []), .sc (.int .i64 0), .sc (.int .i64 0), .sc (.int .i64 0), .sc (.int .u32 0), .sc (.bool false), .sc (.bool false), .sc (.int .i64 0), .sc (.bool false), .row false (.rSpan []), .sc (.int .u32 0), .sc (.int .u32 0), .sc (.bool false)]),
  o1 9 (.alloc 158 [.sc (.int .i64 0), .sc (.int .i64 0), .sc (.int .u32 0), .sc (.int .u32 0), .sc (.int .i64 0), .sc (.int .i64 0), .sc (.int .i64 0), .sc (.int .i64 0), .sc (.int .i64 0), .sc (.bool false), .sc (.bool false), .sc (.int .u32 0), .sc (.int .u32 0), .row false (.rBlock []), .row false (.ruint8 [])]),
  o0 (.store 142 0 15 false 8 (.s 52)),
  o0 (.store 158 0 15 false 9 (.s 53)),
  o1 10 (.mv false (.s 54)),
  o1 11 (.mv false (.s 55))]
def g_law08_RecvOld_7 : List (IStep2 RW) := [o1 56 (.mv false (.s 11)),
  o1 57 (.bin .eql (.s 56) (.k (.sc (.int .i64 0)))),
  o2 58 (.mv false (.s 57)),
  o3 59 58 true (.mv false (.s 10)),
  o1 60 (.pick (.s 58) (.s 59) (.k (.sc (.bool false)))),
  o2 61 (.mv false (.s 60)),
  o3 62 61 true (.fld 0 (.s 8)),
  o3 63 61 true (.load 142 0 1 false false 62),
  o3 64 61 true (.fld 0 (.s 3)),
  o3 65 61 true (.load 94 0 1 false false 64),
  o3 66 61 true (.bin .eql (.s 63) (.s 65)),
  o1 67 (.pick (.s 61) (.s 66) (.k (.sc (.bool false)))),
  o2 68 (.mv false (.s 67)),
  o3 69 68 true (.fld 2 (.s 8)),
  o3 70 68 true (.load 142 2 1 false false 69),
  o3 71 68 true (.len false (.s 70)),
  o3 72 68 true (.fld 2 (.s 3)),
  o3 73 68 true (.load 94 2 1 false false 72),
  o3 74 68 true (.len false (.s 73)),
  o3 75 68 true (.bin .eql (.s 71) (.s 74)),
  o1 76 (.pick (.s 68) (.s 75) (.k (.sc (.bool false)))),
  o2 77 (.mv false (.s 76)),
  o3 78 77 true (.fld 6 (.s 8)),
  o3 79 77 true (.load 142 6 1 false false 78),
  o3 80 77 true (.fld 6 (.s 3)),
  o3 81 77 true (.load 94 6 1 false false 80),
  o3 82 77 true (.bin .eql (.s 79) (.s 81)),
  o1 83 (.pick (.s 77) (.s 82) (.k (.sc (.bool false)))),
  o2 84 (.mv false (.s 83)),
  o3 85 84 true (.fld 9 (.s 8)),
  o3 86 84 true (.load 142 9 1 false false 85),
  o3 87 84 true (.fld 9 (.s 3)),
  o3 88 84 true (.load 94 9 1 false false 87),
  o3 89 84 true (.bin .eql (.s 86) (.s 88)),
  o1 90 (.pick (.s 84) (.s 89) (.k (.sc (.bool false)))),
  o2 91 (.mv false (.s 90)),
  o3 92 91 true (.call 11 [] [] []),
  o1 93 (.pick (.s 91) (.s 92) (.k (.sc (.bool false)))),
  o1 6 (.mv false (.s 93))]
def i_law08_RecvOld_2 : IC2 RW := .seq (.fin (.reg g_law08_RecvOld_3) [4, 40] [(110, 15)]) (.seq (.fin (.reg g_law08_RecvOld_4) [41] []) (.seq (.fin (.reg g_law08_RecvOld_5) [2, 42, 43, 44, 45, 46, 47] []) (.seq (.fin (.reg g_law08_RecvOld_6) [7, 9, 48, 49, 50, 51, 52, 53, 54, 55] [(126, 15), (158, 15)]) (.seq (.fin (.reg g_law08_RecvOld_7) [3, 8, 10, 11, 56, 57, 58, 59, 60, 61, 62, 63, 64, 65, 66, 67, 68, 69, 70, 71, 72, 73, 74, 75, 76, 77, 78, 79, 80, 81, 82, 83, 84, 85, 86, 87, 88, 89, 90, 91, 92, 93] [(94, 15), (142, 15)]) (.ret)))))
def i_law08_RecvOld_3 : IC2 RW := .seq i_law08_RecvOld_1 i_law08_RecvOld_2
def g_law08_RecvOld_0 : List (IStep2 RW) := [o1 3 (.box 94 15 false (.s 0)),
  o1 4 (.box 110 15 false (.s 1)),
  o1 6 (.mv false (.k (.sc (.bool false))))]
def i_law08_RecvOld_4 : IC2 RW := .seq (.fin (.reg g_law08_RecvOld_0) [0, 1, 6] []) i_law08_RecvOld_3
def fn_law08_RecvOld : IFn2 RW := ⟨3, 3, 94, 176, [(94, 15), (110, 15), (126, 15), (142, 15), (158, 15)], [], [], [.slot 6], i_law08_RecvOld_4⟩
/-! tideway/recv.reach -/
theorem run_recv_reach {R : Type} (cp : Nat → Nat → Bool) (n : Nat) (p0 : SRecv) (k : Ret2 RW → Option R) : G_recv_reach cp (n + 1) p0 (fun r0 => k ⟨(tL r0), [], []⟩) = run2 U cp (callP cp n) n fn_recv_reach [.agg (eRecv p0)] [] k := by kernel_rfl
/-! tideway/recv.limit -/
theorem run_recv_limit {R : Type} (cp : Nat → Nat → Bool) (n : Nat) (p0 : SRecv) (k : Ret2 RW → Option R) : G_recv_limit cp (n + 1) p0 (fun r0 => k ⟨(tL r0), [], []⟩) = run2 U cp (callP cp n) n fn_recv_limit [.agg (eRecv p0)] [] k := by kernel_rfl
/-! tideway/recv.late -/
theorem run_recv_late {R : Type} (cp : Nat → Nat → Bool) (n : Nat) (p0 : SRecv) (k : Ret2 RW → Option R) : G_recv_late cp (n + 1) p0 (fun r0 => k ⟨.clo 70 [(4, 0)], [], [(eRecv r0)]⟩) = run2 U cp (callP cp n) n fn_recv_late [.agg (eRecv p0)] [] k := by kernel_rfl
/-! tideway/recv.of -/
theorem run_recv_of {R : Type} (cp : Nat → Nat → Bool) (n : Nat) (p0 : SPiece) (k : Ret2 RW → Option R) : G_recv_of cp (n + 1) p0 (fun r0 => k ⟨.agg (eSpan r0), [], []⟩) = run2 U cp (callP cp n) n fn_recv_of [.agg (ePiece p0)] [] k := by kernel_rfl
/-! slices.AppendSeq[[]tideway/api.Span,tideway/api.Span] -/
def fr_slices_AppendSeq_Span_2 (p0 : (List SSpan)) (q0 : SRecv) : FF := [dT 1 ((.clo 70 [(32, 0)]) :: (.ptr 48 0) :: (dT 13 [])), dc, (.hdr 15) :: (eRecv q0), (.hdr 1) :: (.row true (.rSpan p0)) :: (dT 14 [])]
def fr_slices_AppendSeq_Span_4 (p0 : (List SSpan)) (q0 : SRecv) : FF := [dT 2 ((.ptr 48 0) :: (dT 3 ((.clo 70 [(32, 0)]) :: (dT 9 [])))), dc, (.hdr 15) :: (eRecv q0), (.hdr 1) :: (.row true (.rSpan p0)) :: (dT 14 [])]
def fr_slices_AppendSeq_Span_6 : FF := [dT 2 ((.ptr 48 0) :: (dT 3 ((.clo 70 [(32, 0)]) :: (dT 9 [])))), dc, dc, dc]
def y_slices_AppendSeq_Span_5 {R : Type} (cp : Nat → Nat → Bool) (n : Nat) : List (TV RW) → FF → (FF → Option R) → Option R := rndT 2 [7] [32, 48, 53] fr_slices_AppendSeq_Span_6 (X cp n i_slices_AppendSeq_Span_2)
def fr_slices_AppendSeq_Span_8 (p0 : (List SSpan)) (q0 : SRecv) (v9 : Int) : FF := [.yld :: (dT 5 ((.row false (.rPiece q0.xLate)) :: (tL v9) :: (tL 0) :: (dT 7 []))), dc, (.hdr 15) :: (eRecv q0), (.hdr 1) :: (.row true (.rSpan p0)) :: (dT 14 [])]
def fr_slices_AppendSeq_Span_10 (q0 : SRecv) (v9 v10 : Int) (v11 : (List SSpan)) : FF := [.yld :: (dT 5 ((.row false (.rPiece q0.xLate)) :: (tL v9) :: (tL v10) :: (dT 7 []))), dc, (.hdr 15) :: (eRecv q0), (.hdr 1) :: (.row true (.rSpan v11)) :: (dT 14 [])]
def fr_slices_AppendSeq_Span_11 (q0 : SRecv) (v11 : (List SSpan)) : FF := [dc, dc, (.hdr 15) :: (eRecv q0), (.hdr 1) :: (.row true (.rSpan v11)) :: (dT 14 [])]
def fr_slices_AppendSeq_Span_13 (q0 : SRecv) (v9 v10 : Int) (v11 : (List SSpan)) (v12 : Int) (v13 : (List Int)) : FF := [.yld :: (dT 3 ((.ptr 53 0) :: (dT 1 ((.row false (.rPiece q0.xLate)) :: (tL v9) :: (tL v10) :: (dT 7 []))))), dc, (.hdr 15) :: (eRecv q0), (.hdr 1) :: (.row true (.rSpan v11)) :: (dT 3 ((.hdr 2) :: (tL v12) :: (.row false (.ruint8 v13)) :: (dT 8 [])))]
def fr_slices_AppendSeq_Span_15 (q0 : SRecv) (v9 v10 : Int) (v11 : (List SSpan)) (v12 : Int) (v13 : (List Int)) (v15 v16 : Int) : FF := [.yld :: (dT 3 ((.ptr 53 0) :: (dT 1 ((.row false (.rPiece q0.xLate)) :: (tL v9) :: (tL v10) :: (dT 3 (.yld :: (.agg [(tL v12), .row false (.ruint8 v13)]) :: (.agg [(tL v15), (tL v16)]) :: (dT 1 []))))))), dc, (.hdr 15) :: (eRecv q0), (.hdr 1) :: (.row true (.rSpan v11)) :: (dT 3 ((.hdr 2) :: (tL v12) :: (.row false (.ruint8 v13)) :: (dT 8 [])))]
theorem s_slices_AppendSeq_Span_14_t {R : Type} (cp : Nat → Nat → Bool) (n : Nat) (q0 : SRecv) (v9 v10 : Int) (v11 : (List SSpan)) (v12 : Int) (v13 : (List Int)) (A B : FF → Option R) : (gF (fr_slices_AppendSeq_Span_13 q0 v9 v10 v11 v12 v13) fun l => steps2 U cp (callP cp n) g_slices_AppendSeq_Span_10031 l fun l1 => yGuard2 none l1 (A l1) (B l1)) = s_slices_AppendSeq_Span_14 cp n q0 v9 v10 v11 v12 v13 (fun v15 v16 => A (fr_slices_AppendSeq_Span_15 q0 v9 v10 v11 v12 v13 v15 v16)) := by kernel_rfl
def fr_slices_AppendSeq_Span_17 (q0 : SRecv) (v12 : Int) (v13 : (List Int)) (v17 : (List SSpan)) : FF := [dT 2 ((.ptr 48 0) :: (dT 3 ((.clo 70 [(32, 0)]) :: (dT 9 [])))), dc, (.hdr 15) :: (eRecv q0), (.hdr 1) :: (.row true (.rSpan v17)) :: (dT 3 ((.hdr 2) :: (tL v12) :: (.row false (.ruint8 v13)) :: (dT 8 [])))]
def fr_slices_AppendSeq_Span_18 (q0 : SRecv) (v11 : (List SSpan)) (v12 : Int) (v13 : (List Int)) (v15 v16 : Int) : FF := [dT 2 ((.ptr 48 0) :: (dT 3 ((.clo 70 [(32, 0)]) :: (.agg [(tL v15), (tL v16)]) :: (dT 8 [])))), dc, (.hdr 15) :: (eRecv q0), (.hdr 1) :: (.row true (.rSpan v11)) :: (dT 3 ((.hdr 2) :: (tL v12) :: (.row false (.ruint8 v13)) :: (dT 8 [])))]
theorem s_slices_AppendSeq_Span_16_t {R : Type} (cp : Nat → Nat → Bool) (n : Nat) (q0 : SRecv) (v11 : (List SSpan)) (v12 : Int) (v13 : (List Int)) (v15 v16 : Int) (k : Ex → FF → Option R) : X cp n i_slices_AppendSeq_Span_2 (fr_slices_AppendSeq_Span_18 q0 v11 v12 v13 v15 v16) k = s_slices_AppendSeq_Span_16 cp n q0 v11 v12 v13 v15 v16 (fun v17 => k .norm (fr_slices_AppendSeq_Span_17 q0 v12 v13 v17)) := by kernel_rfl
def fr_slices_AppendSeq_Span_20 (q0 : SRecv) (v9 v10 v12 : Int) (v13 : (List Int)) (v15 v16 : Int) (v17 : (List SSpan)) : FF := [.yld :: (dT 3 ((.ptr 53 0) :: (dT 1 ((.row false (.rPiece q0.xLate)) :: (tL v9) :: (tL v10) :: (dT 3 ([.yld, .agg [(tL v12), .row false (.ruint8 v13)], .agg [(tL v15), (tL v16)], (tB true)])))))), dc, (.hdr 15) :: (eRecv q0), (.hdr 1) :: (.row true (.rSpan v17)) :: (dT 3 ((.hdr 2) :: (tL v12) :: (.row false (.ruint8 v13)) :: (dT 8 [])))]
theorem q_slices_AppendSeq_Span_19_t {R : Type} (cp : Nat → Nat → Bool) (n : Nat) (q0 : SRecv) (v9 v10 : Int) (v11 : (List SSpan)) (v12 : Int) (v13 : (List Int)) (v15 v16 : Int) (K : FF → Option R) : yRun2 (y_slices_AppendSeq_Span_5 cp n) (.s 12) [.s 14] 15 (fr_slices_AppendSeq_Span_15 q0 v9 v10 v11 v12 v13 v15 v16) K = s_slices_AppendSeq_Span_16 cp n q0 v11 v12 v13 v15 v16 (fun v17 => K (fr_slices_AppendSeq_Span_20 q0 v9 v10 v12 v13 v15 v16 v17)) := ((fun x => (show yRun2 (rndT 2 [7] [32, 48, 53] fr_slices_AppendSeq_Span_6 x) (.s 12) [.s 14] 15 (fr_slices_AppendSeq_Span_15 q0 v9 v10 v11 v12 v13 v15 v16) K = x (fr_slices_AppendSeq_Span_18 q0 v11 v12 v13 v15 v16) (roundT 2 (fr_slices_AppendSeq_Span_15 q0 v9 v10 v11 v12 v13 v15 v16) (fun l2 => putO l2 (some 15) (.sc (.bool true)) K)) from by kernel_rfl)) (X cp n i_slices_AppendSeq_Span_2)).trans ((s_slices_AppendSeq_Span_16_t cp n q0 v11 v12 v13 v15 v16 (roundT 2 (fr_slices_AppendSeq_Span_15 q0 v9 v10 v11 v12 v13 v15 v16) (fun l2 => putO l2 (some 15) (.sc (.bool true)) K))).trans (by kernel_rfl))
def fr_slices_AppendSeq_Span_21 (q0 : SRecv) (v9 v10 : Int) (v18 : (List SSpan)) : FF := [.yld :: (dT 5 ((.row false (.rPiece q0.xLate)) :: (tL v9) :: (tL v10) :: (dT 7 []))), (tB false) :: (dT 15 []), (.hdr 15) :: (eRecv q0), (.hdr 1) :: (.row true (.rSpan v18)) :: (dT 14 [])]
theorem s_slices_AppendSeq_Span_22_t {R : Type} (cp : Nat → Nat → Bool) (n : Nat) (q0 : SRecv) (v9 v10 : Int) (v11 : (List SSpan)) (v12 : Int) (v13 : (List Int)) (k : Ex → FF → Option R) : XI cp n (y_slices_AppendSeq_Span_5 cp n) i_slices_AppendSeq_Span_4 (fr_slices_AppendSeq_Span_13 q0 v9 v10 v11 v12 v13) k = s_slices_AppendSeq_Span_22 cp n q0 v9 v10 v11 v12 v13 (fun v18 => k .norm (fr_slices_AppendSeq_Span_21 q0 v9 v10 v18)) := (show XI cp n (y_slices_AppendSeq_Span_5 cp n) i_slices_AppendSeq_Span_4 (fr_slices_AppendSeq_Span_13 q0 v9 v10 v11 v12 v13) k = gF (fr_slices_AppendSeq_Span_13 q0 v9 v10 v11 v12 v13) fun l => steps2 U cp (callP cp n) g_slices_AppendSeq_Span_10031 l fun l1 => yGuard2 none l1 ((fun l1 => yRun2 (y_slices_AppendSeq_Span_5 cp n) (.s 12) [.s 14] 15 l1 (fun l2 => steps2 U cp (callP cp n) g_slices_AppendSeq_Span_10032 l2 ((clrT [4, 12, 13, 14, 15] [(53, 2)] k) .norm))) l1) ((fun l1 => putO l1 (some 15) (.tup []) fun l2 => steps2 U cp (callP cp n) g_slices_AppendSeq_Span_10032 l2 ((clrT [4, 12, 13, 14, 15] [(53, 2)] k) .norm)) l1) from by kernel_rfl).trans ((s_slices_AppendSeq_Span_14_t cp n q0 v9 v10 v11 v12 v13 (fun l1 => yRun2 (y_slices_AppendSeq_Span_5 cp n) (.s 12) [.s 14] 15 l1 (fun l2 => steps2 U cp (callP cp n) g_slices_AppendSeq_Span_10032 l2 ((clrT [4, 12, 13, 14, 15] [(53, 2)] k) .norm))) (fun l1 => putO l1 (some 15) (.tup []) fun l2 => steps2 U cp (callP cp n) g_slices_AppendSeq_Span_10032 l2 ((clrT [4, 12, 13, 14, 15] [(53, 2)] k) .norm))).trans (congrArg (s_slices_AppendSeq_Span_14 cp n q0 v9 v10 v11 v12 v13) (funext fun v15 => funext fun v16 => (q_slices_AppendSeq_Span_19_t cp n q0 v9 v10 v11 v12 v13 v15 v16 (fun l2 => steps2 U cp (callP cp n) g_slices_AppendSeq_Span_10032 l2 ((clrT [4, 12, 13, 14, 15] [(53, 2)] k) .norm))).trans (show s_slices_AppendSeq_Span_16 cp n q0 v11 v12 v13 v15 v16 (fun v17 => (fun l2 => steps2 U cp (callP cp n) g_slices_AppendSeq_Span_10032 l2 ((clrT [4, 12, 13, 14, 15] [(53, 2)] k) .norm)) (fr_slices_AppendSeq_Span_20 q0 v9 v10 v12 v13 v15 v16 v17)) = s_slices_AppendSeq_Span_16 cp n q0 v11 v12 v13 v15 v16 (fun v17 => k .norm (fr_slices_AppendSeq_Span_21 q0 v9 v10 v17)) from by kernel_rfl))))
def fr_slices_AppendSeq_Span_24 (q0 : SRecv) (v9 v10 : Int) (v18 : (List SSpan)) : FF := [.yld :: (dT 5 ((.row false (.rPiece q0.xLate)) :: (tL v9) :: (tL v10) :: (dT 7 []))), dc, (.hdr 15) :: (eRecv q0), (.hdr 1) :: (.row true (.rSpan v18)) :: (dT 14 [])]
theorem s_slices_AppendSeq_Span_23_t {R : Type} (cp : Nat → Nat → Bool) (n : Nat) (q0 : SRecv) (v9 v10 : Int) (v18 : (List SSpan)) (k : Ex → FF → Option R) : XI cp n (y_slices_AppendSeq_Span_5 cp n) i_slices_AppendSeq_Span_5 (fr_slices_AppendSeq_Span_21 q0 v9 v10 v18) k = s_slices_AppendSeq_Span_23 cp n q0 v9 v10 v18 (k .norm (fr_slices_AppendSeq_Span_24 q0 v9 v10 v18)) := by kernel_rfl
def fr_slices_AppendSeq_Span_25 (q0 : SRecv) (v9 v10 : Int) (v19 : (List SSpan)) : FF := [.yld :: (dT 5 ((.row false (.rPiece q0.xLate)) :: (tL v9) :: (tL v10) :: (dT 7 []))), dc, (.hdr 15) :: (eRecv q0), (.hdr 1) :: (.row true (.rSpan v19)) :: (dT 14 [])]
theorem s_slices_AppendSeq_Span_26_t {R : Type} (cp : Nat → Nat → Bool) (n : Nat) (q0 : SRecv) (v9 v10 : Int) (v11 : (List SSpan)) (v12 : Int) (v13 : (List Int)) (k : Ex → FF → Option R) : XI cp n (y_slices_AppendSeq_Span_5 cp n) i_slices_AppendSeq_Span_6 (fr_slices_AppendSeq_Span_13 q0 v9 v10 v11 v12 v13) k = s_slices_AppendSeq_Span_26 cp n q0 v9 v10 v11 v12 v13 (fun v19 => k .norm (fr_slices_AppendSeq_Span_25 q0 v9 v10 v19)) := (show XI cp n (y_slices_AppendSeq_Span_5 cp n) i_slices_AppendSeq_Span_6 (fr_slices_AppendSeq_Span_13 q0 v9 v10 v11 v12 v13) k = XI cp n (y_slices_AppendSeq_Span_5 cp n) i_slices_AppendSeq_Span_4 (fr_slices_AppendSeq_Span_13 q0 v9 v10 v11 v12 v13) (seqT (XI cp n (y_slices_AppendSeq_Span_5 cp n)) i_slices_AppendSeq_Span_5 k) from by kernel_rfl).trans ((show XI cp n (y_slices_AppendSeq_Span_5 cp n) i_slices_AppendSeq_Span_4 (fr_slices_AppendSeq_Span_13 q0 v9 v10 v11 v12 v13) (seqT (XI cp n (y_slices_AppendSeq_Span_5 cp n)) i_slices_AppendSeq_Span_5 k) = s_slices_AppendSeq_Span_22 cp n q0 v9 v10 v11 v12 v13 (fun v18 => XI cp n (y_slices_AppendSeq_Span_5 cp n) i_slices_AppendSeq_Span_5 (fr_slices_AppendSeq_Span_21 q0 v9 v10 v18) k) from (s_slices_AppendSeq_Span_22_t cp n q0 v9 v10 v11 v12 v13 (seqT (XI cp n (y_slices_AppendSeq_Span_5 cp n)) i_slices_AppendSeq_Span_5 k)).trans (by kernel_rfl)).trans (congrArg (fun q => s_slices_AppendSeq_Span_22 cp n q0 v9 v10 v11 v12 v13 q) (funext fun v18 => (s_slices_AppendSeq_Span_23_t cp n q0 v9 v10 v18 k).trans (show s_slices_AppendSeq_Span_23 cp n q0 v9 v10 v18 (k .norm (fr_slices_AppendSeq_Span_24 q0 v9 v10 v18)) = s_slices_AppendSeq_Span_23 cp n q0 v9 v10 v18 (k .norm (fr_slices_AppendSeq_Span_25 q0 v9 v10 v18)) from by kernel_rfl))))
def fr_slices_AppendSeq_Span_27 (q0 : SRecv) (v9 v10 : Int) (v20 : (List SSpan)) : FF := [.yld :: (dT 5 ((.row false (.rPiece q0.xLate)) :: (tL v9) :: (tL v10) :: (dT 7 []))), dc, (.hdr 15) :: (eRecv q0), (.hdr 1) :: (.row true (.rSpan v20)) :: (dT 14 [])]
theorem s_slices_AppendSeq_Span_28_t {R : Type} (cp : Nat → Nat → Bool) (n : Nat) (q0 : SRecv) (v9 v10 : Int) (v11 : (List SSpan)) (k : Ex → FF → Option R) : XI cp n (y_slices_AppendSeq_Span_5 cp n) i_slices_AppendSeq_Span_7 (fr_slices_AppendSeq_Span_10 q0 v9 v10 v11) k = s_slices_AppendSeq_Span_28 cp n q0 v9 v10 v11 (fun v20 => k .norm (fr_slices_AppendSeq_Span_27 q0 v9 v10 v20)) := ((fun c => (show XI cp n (y_slices_AppendSeq_Span_5 cp n) (.seq (.fin (.reg g_slices_AppendSeq_Span_1002) [10, 11] []) c) (fr_slices_AppendSeq_Span_10 q0 v9 v10 v11) k = s_slices_AppendSeq_Span_12 cp n q0 v9 v10 v11 (fun v12 v13 => XI cp n (y_slices_AppendSeq_Span_5 cp n) c (fr_slices_AppendSeq_Span_13 q0 v9 v10 v11 v12 v13) k) from by kernel_rfl)) i_slices_AppendSeq_Span_6).trans (congrArg (fun q => s_slices_AppendSeq_Span_12 cp n q0 v9 v10 v11 q) (funext fun v12 => funext fun v13 => (s_slices_AppendSeq_Span_26_t cp n q0 v9 v10 v11 v12 v13 k).trans (show s_slices_AppendSeq_Span_26 cp n q0 v9 v10 v11 v12 v13 (fun v19 => k .norm (fr_slices_AppendSeq_Span_25 q0 v9 v10 v19)) = s_slices_AppendSeq_Span_26 cp n q0 v9 v10 v11 v12 v13 (fun v19 => k .norm (fr_slices_AppendSeq_Span_27 q0 v9 v10 v19)) from by kernel_rfl)))
def fr_slices_AppendSeq_Span_29 (q0 : SRecv) (v9 v10 : Int) (v21 : (List SSpan)) : FF := [.yld :: (dT 5 ((.row false (.rPiece q0.xLate)) :: (tL v9) :: (tL v10) :: (dT 7 []))), dc, (.hdr 15) :: (eRecv q0), (.hdr 1) :: (.row true (.rSpan v21)) :: (dT 14 [])]
theorem s_slices_AppendSeq_Span_30_t {R : Type} (cp : Nat → Nat → Bool) (n : Nat) (q0 : SRecv) (v9 v10 : Int) (v11 : (List SSpan)) (k : Ex → FF → Option R) : XI cp n (y_slices_AppendSeq_Span_5 cp n) i_slices_AppendSeq_Span_8 (fr_slices_AppendSeq_Span_10 q0 v9 v10 v11) k = s_slices_AppendSeq_Span_30 cp n q0 v9 v10 v11 (fun v21 => k .norm (fr_slices_AppendSeq_Span_29 q0 v9 v10 v21)) := (show XI cp n (y_slices_AppendSeq_Span_5 cp n) i_slices_AppendSeq_Span_8 (fr_slices_AppendSeq_Span_10 q0 v9 v10 v11) k = XI cp n (y_slices_AppendSeq_Span_5 cp n) i_slices_AppendSeq_Span_7 (fr_slices_AppendSeq_Span_10 q0 v9 v10 v11) (blkT 1 k) from by kernel_rfl).trans ((s_slices_AppendSeq_Span_28_t cp n q0 v9 v10 v11 (blkT 1 k)).trans (by kernel_rfl))
def fr_slices_AppendSeq_Span_32 (q0 : SRecv) (v9 : Int) (v21 : (List SSpan)) (v22 : Int) : FF := [.yld :: (dT 5 ((.row false (.rPiece q0.xLate)) :: (tL v9) :: (tL v22) :: (dT 7 []))), dc, (.hdr 15) :: (eRecv q0), (.hdr 1) :: (.row true (.rSpan v21)) :: (dT 14 [])]
theorem s_slices_AppendSeq_Span_31_t {R : Type} (cp : Nat → Nat → Bool) (n : Nat) (q0 : SRecv) (v9 v10 : Int) (v21 : (List SSpan)) (k : Ex → FF → Option R) : XI cp n (y_slices_AppendSeq_Span_5 cp n) i_slices_AppendSeq_Span_9 (fr_slices_AppendSeq_Span_29 q0 v9 v10 v21) k = s_slices_AppendSeq_Span_31 cp n q0 v9 v10 v21 (fun v22 => k .norm (fr_slices_AppendSeq_Span_32 q0 v9 v21 v22)) := by kernel_rfl
def fr_slices_AppendSeq_Span_33 (q0 : SRecv) (v9 v23 : Int) (v24 : (List SSpan)) : FF := [.yld :: (dT 5 ((.row false (.rPiece q0.xLate)) :: (tL v9) :: (tL v23) :: (dT 7 []))), dc, (.hdr 15) :: (eRecv q0), (.hdr 1) :: (.row true (.rSpan v24)) :: (dT 14 [])]
theorem s_slices_AppendSeq_Span_34_t {R : Type} (cp : Nat → Nat → Bool) (n : Nat) (q0 : SRecv) (v9 v10 : Int) (v11 : (List SSpan)) (k : Ex → FF → Option R) : XI cp n (y_slices_AppendSeq_Span_5 cp n) i_slices_AppendSeq_Span_10 (fr_slices_AppendSeq_Span_10 q0 v9 v10 v11) k = s_slices_AppendSeq_Span_34 cp n q0 v9 v10 v11 (fun v23 v24 => k .norm (fr_slices_AppendSeq_Span_33 q0 v9 v23 v24)) := (show XI cp n (y_slices_AppendSeq_Span_5 cp n) i_slices_AppendSeq_Span_10 (fr_slices_AppendSeq_Span_10 q0 v9 v10 v11) k = XI cp n (y_slices_AppendSeq_Span_5 cp n) i_slices_AppendSeq_Span_8 (fr_slices_AppendSeq_Span_10 q0 v9 v10 v11) (seqT (XI cp n (y_slices_AppendSeq_Span_5 cp n)) i_slices_AppendSeq_Span_9 k) from by kernel_rfl).trans ((show XI cp n (y_slices_AppendSeq_Span_5 cp n) i_slices_AppendSeq_Span_8 (fr_slices_AppendSeq_Span_10 q0 v9 v10 v11) (seqT (XI cp n (y_slices_AppendSeq_Span_5 cp n)) i_slices_AppendSeq_Span_9 k) = s_slices_AppendSeq_Span_30 cp n q0 v9 v10 v11 (fun v21 => XI cp n (y_slices_AppendSeq_Span_5 cp n) i_slices_AppendSeq_Span_9 (fr_slices_AppendSeq_Span_29 q0 v9 v10 v21) k) from (s_slices_AppendSeq_Span_30_t cp n q0 v9 v10 v11 (seqT (XI cp n (y_slices_AppendSeq_Span_5 cp n)) i_slices_AppendSeq_Span_9 k)).trans (by kernel_rfl)).trans (congrArg (fun q => s_slices_AppendSeq_Span_30 cp n q0 v9 v10 v11 q) (funext fun v21 => (s_slices_AppendSeq_Span_31_t cp n q0 v9 v10 v21 k).trans (show s_slices_AppendSeq_Span_31 cp n q0 v9 v10 v21 (fun v22 => k .norm (fr_slices_AppendSeq_Span_32 q0 v9 v21 v22)) = s_slices_AppendSeq_Span_31 cp n q0 v9 v10 v21 (fun v22 => k .norm (fr_slices_AppendSeq_Span_33 q0 v9 v22 v21)) from by kernel_rfl))))
def fr_slices_AppendSeq_Span_35 (q0 : SRecv) (v9 v25 : Int) (v26 : (List SSpan)) : FF := [.yld :: (dT 5 ((.row false (.rPiece q0.xLate)) :: (tL v9) :: (tL v25) :: (dT 7 []))), dc, (.hdr 15) :: (eRecv q0), (.hdr 1) :: (.row true (.rSpan v26)) :: (dT 14 [])]
theorem s_slices_AppendSeq_Span_36_t {R : Type} (cp : Nat → Nat → Bool) (n : Nat) (q0 : SRecv) (v9 v10 : Int) (v11 : (List SSpan)) (k : Ex → FF → Option R) : XI cp n (y_slices_AppendSeq_Span_5 cp n) i_slices_AppendSeq_Span_11 (fr_slices_AppendSeq_Span_10 q0 v9 v10 v11) k = s_slices_AppendSeq_Span_36 cp n q0 v9 v10 v11 (fun v25 v26 => k .norm (fr_slices_AppendSeq_Span_35 q0 v9 v25 v26)) (k (.exit 0) (fr_slices_AppendSeq_Span_11 q0 v11)) := ((fun c => (show XI cp n (y_slices_AppendSeq_Span_5 cp n) (.seq (.reg g_slices_AppendSeq_Span_1001) (.seq (.fin (.cond (.s 9) (.skip) (.clr [0, 6, 7, 8, 9] [] (.exit 0))) [9] []) c)) (fr_slices_AppendSeq_Span_10 q0 v9 v10 v11) k = s_slices_AppendSeq_Span_9 cp n q0 v9 v10 v11 (XI cp n (y_slices_AppendSeq_Span_5 cp n) c (fr_slices_AppendSeq_Span_10 q0 v9 v10 v11) k) (k (.exit 0) (fr_slices_AppendSeq_Span_11 q0 v11)) from by kernel_rfl)) i_slices_AppendSeq_Span_10).trans (congrArg (fun q => s_slices_AppendSeq_Span_9 cp n q0 v9 v10 v11 q (k (.exit 0) (fr_slices_AppendSeq_Span_11 q0 v11))) ((s_slices_AppendSeq_Span_34_t cp n q0 v9 v10 v11 k).trans (show s_slices_AppendSeq_Span_34 cp n q0 v9 v10 v11 (fun v23 v24 => k .norm (fr_slices_AppendSeq_Span_33 q0 v9 v23 v24)) = s_slices_AppendSeq_Span_34 cp n q0 v9 v10 v11 (fun v23 v24 => k .norm (fr_slices_AppendSeq_Span_35 q0 v9 v23 v24)) from by kernel_rfl)))
def fr_slices_AppendSeq_Span_37 (q0 : SRecv) (v27 : (List SSpan)) : FF := [dc, dc, (.hdr 15) :: (eRecv q0), (.hdr 1) :: (.row true (.rSpan v27)) :: (dT 14 [])]
theorem l_slices_AppendSeq_Span_38_t {R : Type} (cp : Nat → Nat → Bool) (n : Nat) : ∀ (m : Nat) (q0 : SRecv) (v9 v10 : Int) (v11 : (List SSpan)) (k : Ex → FF → Option R), loopN2 (XI cp n (y_slices_AppendSeq_Span_5 cp n) i_slices_AppendSeq_Span_11) m (fr_slices_AppendSeq_Span_10 q0 v9 v10 v11) k = l_slices_AppendSeq_Span_38 cp n m q0 v9 v10 v11 (fun v27 => k (.exit 0) (fr_slices_AppendSeq_Span_37 q0 v27))
  | 0, _, _, _, _, _ => rfl
  | m + 1, q0, v9, v10, v11, k => (loopN2_succ (XI cp n (y_slices_AppendSeq_Span_5 cp n) i_slices_AppendSeq_Span_11) m (fr_slices_AppendSeq_Span_10 q0 v9 v10 v11) k).trans ((s_slices_AppendSeq_Span_36_t cp n q0 v9 v10 v11 (loopT (XI cp n (y_slices_AppendSeq_Span_5 cp n) i_slices_AppendSeq_Span_11) m k)).trans ((show s_slices_AppendSeq_Span_36 cp n q0 v9 v10 v11 (fun v25 v26 => loopT (XI cp n (y_slices_AppendSeq_Span_5 cp n) i_slices_AppendSeq_Span_11) m k .norm (fr_slices_AppendSeq_Span_35 q0 v9 v25 v26)) (loopT (XI cp n (y_slices_AppendSeq_Span_5 cp n) i_slices_AppendSeq_Span_11) m k (.exit 0) (fr_slices_AppendSeq_Span_11 q0 v11)) = s_slices_AppendSeq_Span_36 cp n q0 v9 v10 v11 (fun v25 v26 => loopN2 (XI cp n (y_slices_AppendSeq_Span_5 cp n) i_slices_AppendSeq_Span_11) m (fr_slices_AppendSeq_Span_10 q0 v9 v25 v26) k) (k (.exit 0) (fr_slices_AppendSeq_Span_37 q0 v11)) from by kernel_rfl).trans (congrArg (fun q => s_slices_AppendSeq_Span_36 cp n q0 v9 v10 v11 q (k (.exit 0) (fr_slices_AppendSeq_Span_37 q0 v11))) (funext fun v25 => funext fun v26 => l_slices_AppendSeq_Span_38_t cp n m q0 v9 v25 v26 k))))
theorem s_slices_AppendSeq_Span_39_t {R : Type} (cp : Nat → Nat → Bool) (n : Nat) (p0 : (List SSpan)) (q0 : SRecv) (v9 : Int) (k : Ex → FF → Option R) : XI cp n (y_slices_AppendSeq_Span_5 cp n) i_slices_AppendSeq_Span_12 (fr_slices_AppendSeq_Span_8 p0 q0 v9) k = s_slices_AppendSeq_Span_39 cp n p0 q0 v9 (fun v27 => k (.exit 0) (fr_slices_AppendSeq_Span_37 q0 v27)) := (show XI cp n (y_slices_AppendSeq_Span_5 cp n) i_slices_AppendSeq_Span_12 (fr_slices_AppendSeq_Span_8 p0 q0 v9) k = loopN2 (XI cp n (y_slices_AppendSeq_Span_5 cp n) i_slices_AppendSeq_Span_11) n (fr_slices_AppendSeq_Span_10 q0 v9 0 p0) k from by kernel_rfl).trans (l_slices_AppendSeq_Span_38_t cp n n q0 v9 0 p0 k)
def fr_slices_AppendSeq_Span_40 (q0 : SRecv) (v28 : (List SSpan)) : FF := [dc, dc, (.hdr 15) :: (eRecv q0), (.hdr 1) :: (.row true (.rSpan v28)) :: (dT 14 [])]
theorem s_slices_AppendSeq_Span_41_t {R : Type} (cp : Nat → Nat → Bool) (n : Nat) (p0 : (List SSpan)) (q0 : SRecv) (v9 : Int) (k : Ex → FF → Option R) : XI cp n (y_slices_AppendSeq_Span_5 cp n) i_slices_AppendSeq_Span_13 (fr_slices_AppendSeq_Span_8 p0 q0 v9) k = s_slices_AppendSeq_Span_41 cp n p0 q0 v9 (fun v28 => k .norm (fr_slices_AppendSeq_Span_40 q0 v28)) := (show XI cp n (y_slices_AppendSeq_Span_5 cp n) i_slices_AppendSeq_Span_13 (fr_slices_AppendSeq_Span_8 p0 q0 v9) k = XI cp n (y_slices_AppendSeq_Span_5 cp n) i_slices_AppendSeq_Span_12 (fr_slices_AppendSeq_Span_8 p0 q0 v9) (blkT 0 k) from by kernel_rfl).trans ((s_slices_AppendSeq_Span_39_t cp n p0 q0 v9 (blkT 0 k)).trans (by kernel_rfl))
def fr_slices_AppendSeq_Span_42 (q0 : SRecv) (v29 : (List SSpan)) : FF := [dc, dc, (.hdr 15) :: (eRecv q0), (.hdr 1) :: (.row true (.rSpan v29)) :: (dT 14 [])]
def fr_slices_AppendSeq_Span_44 (p0 : (List SSpan)) (q0 : SRecv) : FF := [.yld :: (.ptr 32 0) :: (dT 14 []), dc, (.hdr 15) :: (eRecv q0), (.hdr 1) :: (.row true (.rSpan p0)) :: (dT 14 [])]
theorem s_slices_AppendSeq_Span_43_t {R : Type} (cp : Nat → Nat → Bool) (n : Nat) (p0 : (List SSpan)) (q0 : SRecv) (k : Ex → FF → Option R) : XI cp n (y_slices_AppendSeq_Span_5 cp n) i_slices_AppendSeq_Span_3 (fr_slices_AppendSeq_Span_44 p0 q0) k = s_slices_AppendSeq_Span_43 cp n p0 q0 (fun v29 => k .norm (fr_slices_AppendSeq_Span_42 q0 v29)) := ((fun c => (show XI cp n (y_slices_AppendSeq_Span_5 cp n) (.seq (.fin (.reg g_slices_AppendSeq_Span_1000) [1, 5] []) c) (fr_slices_AppendSeq_Span_44 p0 q0) k = s_slices_AppendSeq_Span_7 cp n p0 q0 (fun v9 => XI cp n (y_slices_AppendSeq_Span_5 cp n) c (fr_slices_AppendSeq_Span_8 p0 q0 v9) k) from by kernel_rfl)) i_slices_AppendSeq_Span_13).trans (congrArg (fun q => s_slices_AppendSeq_Span_7 cp n p0 q0 q) (funext fun v9 => (s_slices_AppendSeq_Span_41_t cp n p0 q0 v9 k).trans (show s_slices_AppendSeq_Span_41 cp n p0 q0 v9 (fun v28 => k .norm (fr_slices_AppendSeq_Span_40 q0 v28)) = s_slices_AppendSeq_Span_41 cp n p0 q0 v9 (fun v28 => k .norm (fr_slices_AppendSeq_Span_42 q0 v28)) from by kernel_rfl)))
def fr_slices_AppendSeq_Span_45 (q0 : SRecv) (v30 : (List SSpan)) : FF := [dT 2 ((.ptr 48 0) :: (dT 13 [])), dc, (.hdr 15) :: (eRecv q0), (.hdr 1) :: (.row true (.rSpan v30)) :: (dT 14 [])]
theorem s_slices_AppendSeq_Span_46_t {R : Type} (cp : Nat → Nat → Bool) (n : Nat) (p0 : (List SSpan)) (q0 : SRecv) (k : Ex → FF → Option R) : X cp n i_slices_AppendSeq_Span_14 (fr_slices_AppendSeq_Span_4 p0 q0) k = s_slices_AppendSeq_Span_46 cp n p0 q0 (fun v30 => k .norm (fr_slices_AppendSeq_Span_45 q0 v30)) := (show X cp n i_slices_AppendSeq_Span_14 (fr_slices_AppendSeq_Span_4 p0 q0) k = XI cp n (roundK2 2 [7] [32, 48, 53] (fr_slices_AppendSeq_Span_4 p0 q0) (X cp n i_slices_AppendSeq_Span_0) (X cp n i_slices_AppendSeq_Span_1)) i_slices_AppendSeq_Span_3 (fr_slices_AppendSeq_Span_44 p0 q0) (rfnT 2 (fr_slices_AppendSeq_Span_4 p0 q0) (clrT [6] [] k)) from rfn_eq (v := .clo 70 [(32, 0)]) (by kernel_rfl) (by kernel_rfl) (by kernel_rfl) _ _ _).trans ((congrArg (fun Y => XI cp n Y i_slices_AppendSeq_Span_3 (fr_slices_AppendSeq_Span_44 p0 q0) (rfnT 2 (fr_slices_AppendSeq_Span_4 p0 q0) (clrT [6] [] k))) ((rnd_eq 2 [7] [32, 48, 53] (fr_slices_AppendSeq_Span_4 p0 q0) i_slices_AppendSeq_Span_0 i_slices_AppendSeq_Span_1).trans (show rndT 2 [7] [32, 48, 53] (fr_slices_AppendSeq_Span_4 p0 q0) (X cp n i_slices_AppendSeq_Span_2) = (y_slices_AppendSeq_Span_5 cp n) from by kernel_rfl))).trans ((s_slices_AppendSeq_Span_43_t cp n p0 q0 (rfnT 2 (fr_slices_AppendSeq_Span_4 p0 q0) (clrT [6] [] k))).trans (by kernel_rfl)))
def fr_slices_AppendSeq_Span_47 (q0 : SRecv) (v31 : (List SSpan)) : FF := [dT 2 ((.ptr 48 0) :: (dT 13 [])), dc, (.hdr 15) :: (eRecv q0), (.hdr 1) :: (.row true (.rSpan v31)) :: (dT 14 [])]
theorem s_slices_AppendSeq_Span_48_t {R : Type} (cp : Nat → Nat → Bool) (n : Nat) (p0 : (List SSpan)) (q0 : SRecv) (k : Ex → FF → Option R) : X cp n i_slices_AppendSeq_Span_15 (fr_slices_AppendSeq_Span_4 p0 q0) k = s_slices_AppendSeq_Span_48 cp n p0 q0 (fun v31 => k .norm (fr_slices_AppendSeq_Span_47 q0 v31)) := (show X cp n i_slices_AppendSeq_Span_15 (fr_slices_AppendSeq_Span_4 p0 q0) k = X cp n i_slices_AppendSeq_Span_14 (fr_slices_AppendSeq_Span_4 p0 q0) (blkT 0 k) from by kernel_rfl).trans ((s_slices_AppendSeq_Span_46_t cp n p0 q0 (blkT 0 k)).trans (by kernel_rfl))
def fr_slices_AppendSeq_Span_49 (q0 : SRecv) (v32 : (List SSpan)) : FF := [dT 2 ((.ptr 48 0) :: (dT 13 [])), dc, (.hdr 15) :: (eRecv q0), (.hdr 1) :: (.row true (.rSpan v32)) :: (dT 14 [])]
theorem s_slices_AppendSeq_Span_50_t {R : Type} (cp : Nat → Nat → Bool) (n : Nat) (p0 : (List SSpan)) (q0 : SRecv) (k : Ex → FF → Option R) : X cp n i_slices_AppendSeq_Span_16 (fr_slices_AppendSeq_Span_2 p0 q0) k = s_slices_AppendSeq_Span_50 cp n p0 q0 (fun v32 => k .norm (fr_slices_AppendSeq_Span_49 q0 v32)) := ((fun c => (show X cp n (.seq (.fin (.reg g_slices_AppendSeq_Span_1) [1] []) c) (fr_slices_AppendSeq_Span_2 p0 q0) k = s_slices_AppendSeq_Span_3 cp n p0 q0 (X cp n c (fr_slices_AppendSeq_Span_4 p0 q0) k) from by kernel_rfl)) i_slices_AppendSeq_Span_15).trans (congrArg (fun q => s_slices_AppendSeq_Span_3 cp n p0 q0 q) ((s_slices_AppendSeq_Span_48_t cp n p0 q0 k).trans (show s_slices_AppendSeq_Span_48 cp n p0 q0 (fun v31 => k .norm (fr_slices_AppendSeq_Span_47 q0 v31)) = s_slices_AppendSeq_Span_48 cp n p0 q0 (fun v31 => k .norm (fr_slices_AppendSeq_Span_49 q0 v31)) from by kernel_rfl)))
def fr_slices_AppendSeq_Span_52 (q0 : SRecv) (v32 : (List SSpan)) : FF := [dT 4 ((.row false (.rSpan v32)) :: (dT 11 [])), dc, (.hdr 15) :: (eRecv q0), dc]
theorem s_slices_AppendSeq_Span_51_t {R : Type} (cp : Nat → Nat → Bool) (n : Nat) (q0 : SRecv) (v32 : (List SSpan)) (k : Ex → FF → Option R) : X cp n i_slices_AppendSeq_Span_17 (fr_slices_AppendSeq_Span_49 q0 v32) k = s_slices_AppendSeq_Span_51 cp n q0 v32 (k .ret (fr_slices_AppendSeq_Span_52 q0 v32)) := by kernel_rfl
def fr_slices_AppendSeq_Span_53 (q0 : SRecv) (v33 : (List SSpan)) : FF := [dT 4 ((.row false (.rSpan v33)) :: (dT 11 [])), dc, (.hdr 15) :: (eRecv q0), dc]
theorem s_slices_AppendSeq_Span_54_t {R : Type} (cp : Nat → Nat → Bool) (n : Nat) (p0 : (List SSpan)) (q0 : SRecv) (k : Ex → FF → Option R) : X cp n i_slices_AppendSeq_Span_18 (fr_slices_AppendSeq_Span_2 p0 q0) k = s_slices_AppendSeq_Span_54 cp n p0 q0 (fun v33 => k .ret (fr_slices_AppendSeq_Span_53 q0 v33)) := (show X cp n i_slices_AppendSeq_Span_18 (fr_slices_AppendSeq_Span_2 p0 q0) k = X cp n i_slices_AppendSeq_Span_16 (fr_slices_AppendSeq_Span_2 p0 q0) (seqT (X cp n) i_slices_AppendSeq_Span_17 k) from by kernel_rfl).trans ((show X cp n i_slices_AppendSeq_Span_16 (fr_slices_AppendSeq_Span_2 p0 q0) (seqT (X cp n) i_slices_AppendSeq_Span_17 k) = s_slices_AppendSeq_Span_50 cp n p0 q0 (fun v32 => X cp n i_slices_AppendSeq_Span_17 (fr_slices_AppendSeq_Span_49 q0 v32) k) from (s_slices_AppendSeq_Span_50_t cp n p0 q0 (seqT (X cp n) i_slices_AppendSeq_Span_17 k)).trans (by kernel_rfl)).trans (congrArg (fun q => s_slices_AppendSeq_Span_50 cp n p0 q0 q) (funext fun v32 => (s_slices_AppendSeq_Span_51_t cp n q0 v32 k).trans (show s_slices_AppendSeq_Span_51 cp n q0 v32 (k .ret (fr_slices_AppendSeq_Span_52 q0 v32)) = s_slices_AppendSeq_Span_51 cp n q0 v32 (k .ret (fr_slices_AppendSeq_Span_53 q0 v32)) from by kernel_rfl))))
def fr_slices_AppendSeq_Span_55 (q0 : SRecv) (v34 : (List SSpan)) : FF := [dT 4 ((.row false (.rSpan v34)) :: (dT 11 [])), dc, (.hdr 15) :: (eRecv q0), dc]
def fr_slices_AppendSeq_Span_57 (p0 : (List SSpan)) (q0 : SRecv) : FF := [(.row true (.rSpan p0)) :: (.clo 70 [(32, 0)]) :: (dT 14 []), dc, (.hdr 15) :: (eRecv q0), dc]
theorem s_slices_AppendSeq_Span_56_t {R : Type} (cp : Nat → Nat → Bool) (n : Nat) (p0 : (List SSpan)) (q0 : SRecv) (k : Ex → FF → Option R) : X cp n i_slices_AppendSeq_Span_19 (fr_slices_AppendSeq_Span_57 p0 q0) k = s_slices_AppendSeq_Span_56 cp n p0 q0 (fun v34 => k .ret (fr_slices_AppendSeq_Span_55 q0 v34)) := ((fun c => (show X cp n (.seq (.fin (.reg g_slices_AppendSeq_Span_0) [0, 4] []) c) (fr_slices_AppendSeq_Span_57 p0 q0) k = s_slices_AppendSeq_Span_1 cp n p0 q0 (X cp n c (fr_slices_AppendSeq_Span_2 p0 q0) k) from by kernel_rfl)) i_slices_AppendSeq_Span_18).trans (congrArg (fun q => s_slices_AppendSeq_Span_1 cp n p0 q0 q) ((s_slices_AppendSeq_Span_54_t cp n p0 q0 k).trans (show s_slices_AppendSeq_Span_54 cp n p0 q0 (fun v33 => k .ret (fr_slices_AppendSeq_Span_53 q0 v33)) = s_slices_AppendSeq_Span_54 cp n p0 q0 (fun v33 => k .ret (fr_slices_AppendSeq_Span_55 q0 v33)) from by kernel_rfl)))
theorem run_slices_AppendSeq_Span {R : Type} (cp : Nat → Nat → Bool) (n : Nat) (p0 : (List SSpan)) (q0 : SRecv) (k : Ret2 RW → Option R) : G_slices_AppendSeq_Span cp (n + 1) p0 q0 (fun r0 r1 => k ⟨.row false (.rSpan r0), [(eRecv r1)], []⟩) = run2 U cp (callP cp n) n fn_slices_AppendSeq_Span [.row true (.rSpan p0), .clo 70 [(32, 0)]] [(eRecv q0)] k := ((X_run (f := fn_slices_AppendSeq_Span) (av := [.row true (.rSpan p0), .clo 70 [(32, 0)]]) (cells := [(eRecv q0)]) (code := i_slices_AppendSeq_Span_19) (fr := (fr_slices_AppendSeq_Span_57 p0 q0)) (k := k) (by kernel_rfl) (fun K => by kernel_rfl)).trans ((s_slices_AppendSeq_Span_56_t cp n p0 q0 (finK2 fn_slices_AppendSeq_Span k)).trans (by kernel_rfl))).symm
/-! slices.Collect[tideway/api.Span] -/
theorem run_slices_Collect {R : Type} (cp : Nat → Nat → Bool) (n : Nat) (q0 : SRecv) (k : Ret2 RW → Option R) : G_slices_Collect cp (n + 1) q0 (fun r0 r1 => k ⟨.row false (.rSpan r0), [(eRecv r1)], []⟩) = run2 U cp (callP cp n) n fn_slices_Collect [.clo 70 [(5, 0)]] [(eRecv q0)] k := by kernel_rfl
/-! slices.Index[[]tideway/api.Span,tideway/api.Span] -/
def fr_slices_Index_Span_2 (p0 : (List SSpan)) (p1 : SSpan) : FF := [(.row false (.rSpan p0)) :: (dT 2 ((.ptr 19 0) :: (dT 12 []))), dT 3 ((.hdr 2) :: ((eSpan p1) ++ (dT 10 [])))]
def fr_slices_Index_Span_4 (p0 : (List SSpan)) (p1 : SSpan) (v41 : Int) : FF := [(.row false (.rSpan p0)) :: (dT 2 ((.ptr 19 0) :: (dT 3 ((tL v41) :: (tL 0) :: (dT 7 []))))), dT 3 ((.hdr 2) :: ((eSpan p1) ++ (dT 10 [])))]
def fr_slices_Index_Span_6 (p0 : (List SSpan)) (p1 : SSpan) (v41 v43 : Int) : FF := [(.row false (.rSpan p0)) :: (dT 2 ((.ptr 19 0) :: (dT 3 ((tL v41) :: (tL v43) :: (dT 7 []))))), dT 3 ((.hdr 2) :: ((eSpan p1) ++ (dT 10 [])))]
def fr_slices_Index_Span_7 (v42 : Int) : FF := [dT 4 ((tL v42) :: (dT 11 [])), dc]
def fr_slices_Index_Span_8 : FF := [dc, dc]
def fr_slices_Index_Span_9 (p0 : (List SSpan)) (p1 : SSpan) (v41 v42 : Int) : FF := [(.row false (.rSpan p0)) :: (dT 2 ((.ptr 19 0) :: (dT 3 ((tL v41) :: (tL v42) :: (dT 7 []))))), dT 3 ((.hdr 2) :: ((eSpan p1) ++ (dT 10 [])))]
theorem s_slices_Index_Span_5_t {R : Type} (cp : Nat → Nat → Bool) (n : Nat) (p0 : (List SSpan)) (p1 : SSpan) (v41 v42 : Int) (k : Ex → FF → Option R) : X cp n i_slices_Index_Span_0 (fr_slices_Index_Span_9 p0 p1 v41 v42) k = s_slices_Index_Span_5 cp n p0 p1 v41 v42 (fun v43 => k .norm (fr_slices_Index_Span_6 p0 p1 v41 v43)) (k .ret (fr_slices_Index_Span_7 v42)) (k (.exit 0) fr_slices_Index_Span_8) := by kernel_rfl
def fr_slices_Index_Span_10 (v44 : Int) : FF := [dT 4 ((tL v44) :: (dT 11 [])), dc]
theorem l_slices_Index_Span_11_t {R : Type} (cp : Nat → Nat → Bool) (n : Nat) : ∀ (m : Nat) (p0 : (List SSpan)) (p1 : SSpan) (v41 v42 : Int) (k : Ex → FF → Option R), loopN2 (X cp n i_slices_Index_Span_0) m (fr_slices_Index_Span_9 p0 p1 v41 v42) k = l_slices_Index_Span_11 cp n m p0 p1 v41 v42 (fun v44 => k .ret (fr_slices_Index_Span_10 v44)) (k (.exit 0) fr_slices_Index_Span_8)
  | 0, _, _, _, _, _ => rfl
  | m + 1, p0, p1, v41, v42, k => (loopN2_succ (X cp n i_slices_Index_Span_0) m (fr_slices_Index_Span_9 p0 p1 v41 v42) k).trans ((s_slices_Index_Span_5_t cp n p0 p1 v41 v42 (loopT (X cp n i_slices_Index_Span_0) m k)).trans ((show s_slices_Index_Span_5 cp n p0 p1 v41 v42 (fun v43 => loopT (X cp n i_slices_Index_Span_0) m k .norm (fr_slices_Index_Span_6 p0 p1 v41 v43)) (loopT (X cp n i_slices_Index_Span_0) m k .ret (fr_slices_Index_Span_7 v42)) (loopT (X cp n i_slices_Index_Span_0) m k (.exit 0) fr_slices_Index_Span_8) = s_slices_Index_Span_5 cp n p0 p1 v41 v42 (fun v43 => loopN2 (X cp n i_slices_Index_Span_0) m (fr_slices_Index_Span_9 p0 p1 v41 v43) k) (k .ret (fr_slices_Index_Span_10 v42)) (k (.exit 0) fr_slices_Index_Span_8) from by kernel_rfl).trans (congrArg (fun q => s_slices_Index_Span_5 cp n p0 p1 v41 v42 q (k .ret (fr_slices_Index_Span_10 v42)) (k (.exit 0) fr_slices_Index_Span_8)) (funext fun v43 => l_slices_Index_Span_11_t cp n m p0 p1 v41 v43 k))))
theorem s_slices_Index_Span_12_t {R : Type} (cp : Nat → Nat → Bool) (n : Nat) (p0 : (List SSpan)) (p1 : SSpan) (v41 : Int) (k : Ex → FF → Option R) : X cp n i_slices_Index_Span_1 (fr_slices_Index_Span_4 p0 p1 v41) k = s_slices_Index_Span_12 cp n p0 p1 v41 (fun v44 => k .ret (fr_slices_Index_Span_10 v44)) (k (.exit 0) fr_slices_Index_Span_8) := (show X cp n i_slices_Index_Span_1 (fr_slices_Index_Span_4 p0 p1 v41) k = loopN2 (X cp n i_slices_Index_Span_0) n (fr_slices_Index_Span_9 p0 p1 v41 0) k from by kernel_rfl).trans (l_slices_Index_Span_11_t cp n n p0 p1 v41 0 k)
def fr_slices_Index_Span_13 (v45 : Int) : FF := [dT 4 ((tL v45) :: (dT 11 [])), dc]
theorem s_slices_Index_Span_14_t {R : Type} (cp : Nat → Nat → Bool) (n : Nat) (p0 : (List SSpan)) (p1 : SSpan) (v41 : Int) (k : Ex → FF → Option R) : X cp n i_slices_Index_Span_2 (fr_slices_Index_Span_4 p0 p1 v41) k = s_slices_Index_Span_14 cp n p0 p1 v41 (k .norm fr_slices_Index_Span_8) (fun v45 => k .ret (fr_slices_Index_Span_13 v45)) := (show X cp n i_slices_Index_Span_2 (fr_slices_Index_Span_4 p0 p1 v41) k = X cp n i_slices_Index_Span_1 (fr_slices_Index_Span_4 p0 p1 v41) (blkT 0 k) from by kernel_rfl).trans ((s_slices_Index_Span_12_t cp n p0 p1 v41 (blkT 0 k)).trans (by kernel_rfl))
def fr_slices_Index_Span_15 (v46 : Int) : FF := [dT 4 ((tL v46) :: (dT 11 [])), dc]
theorem s_slices_Index_Span_16_t {R : Type} (cp : Nat → Nat → Bool) (n : Nat) (p0 : (List SSpan)) (p1 : SSpan) (k : Ex → FF → Option R) : X cp n i_slices_Index_Span_3 (fr_slices_Index_Span_2 p0 p1) k = s_slices_Index_Span_16 cp n p0 p1 (k .norm fr_slices_Index_Span_8) (fun v46 => k .ret (fr_slices_Index_Span_15 v46)) := ((fun c => (show X cp n (.seq (.fin (.reg g_slices_Index_Span_1) [6] []) c) (fr_slices_Index_Span_2 p0 p1) k = s_slices_Index_Span_3 cp n p0 p1 (fun v41 => X cp n c (fr_slices_Index_Span_4 p0 p1 v41) k) from by kernel_rfl)) i_slices_Index_Span_2).trans (congrArg (fun q => s_slices_Index_Span_3 cp n p0 p1 q) (funext fun v41 => (s_slices_Index_Span_14_t cp n p0 p1 v41 k).trans (show s_slices_Index_Span_14 cp n p0 p1 v41 (k .norm fr_slices_Index_Span_8) (fun v45 => k .ret (fr_slices_Index_Span_13 v45)) = s_slices_Index_Span_14 cp n p0 p1 v41 (k .norm fr_slices_Index_Span_8) (fun v45 => k .ret (fr_slices_Index_Span_15 v45)) from by kernel_rfl)))
def fr_slices_Index_Span_18 : FF := [dT 4 ((tL (-1)) :: (dT 11 [])), dc]
theorem s_slices_Index_Span_17_t {R : Type} (cp : Nat → Nat → Bool) (n : Nat) (k : Ex → FF → Option R) : X cp n i_slices_Index_Span_4 fr_slices_Index_Span_8 k = s_slices_Index_Span_17 cp n (k .ret fr_slices_Index_Span_18) := by kernel_rfl
def fr_slices_Index_Span_19 (v47 : Int) : FF := [dT 4 ((tL v47) :: (dT 11 [])), dc]
theorem s_slices_Index_Span_20_t {R : Type} (cp : Nat → Nat → Bool) (n : Nat) (p0 : (List SSpan)) (p1 : SSpan) (k : Ex → FF → Option R) : X cp n i_slices_Index_Span_5 (fr_slices_Index_Span_2 p0 p1) k = s_slices_Index_Span_20 cp n p0 p1 (fun v47 => k .ret (fr_slices_Index_Span_19 v47)) := (show X cp n i_slices_Index_Span_5 (fr_slices_Index_Span_2 p0 p1) k = X cp n i_slices_Index_Span_3 (fr_slices_Index_Span_2 p0 p1) (seqT (X cp n) i_slices_Index_Span_4 k) from by kernel_rfl).trans ((show X cp n i_slices_Index_Span_3 (fr_slices_Index_Span_2 p0 p1) (seqT (X cp n) i_slices_Index_Span_4 k) = s_slices_Index_Span_16 cp n p0 p1 (X cp n i_slices_Index_Span_4 fr_slices_Index_Span_8 k) (fun v46 => k .ret (fr_slices_Index_Span_19 v46)) from (s_slices_Index_Span_16_t cp n p0 p1 (seqT (X cp n) i_slices_Index_Span_4 k)).trans (by kernel_rfl)).trans (congrArg (fun q => s_slices_Index_Span_16 cp n p0 p1 q (fun v46 => k .ret (fr_slices_Index_Span_19 v46))) ((s_slices_Index_Span_17_t cp n  k).trans (show s_slices_Index_Span_17 cp n (k .ret fr_slices_Index_Span_18) = s_slices_Index_Span_17 cp n (k .ret (fr_slices_Index_Span_19 (-1))) from by kernel_rfl))))
def fr_slices_Index_Span_21 (v48 : Int) : FF := [dT 4 ((tL v48) :: (dT 11 [])), dc]
def fr_slices_Index_Span_23 (p0 : (List SSpan)) (p1 : SSpan) : FF := [(.row false (.rSpan p0)) :: (.agg (eSpan p1)) :: (dT 14 []), dc]
theorem s_slices_Index_Span_22_t {R : Type} (cp : Nat → Nat → Bool) (n : Nat) (p0 : (List SSpan)) (p1 : SSpan) (k : Ex → FF → Option R) : X cp n i_slices_Index_Span_6 (fr_slices_Index_Span_23 p0 p1) k = s_slices_Index_Span_22 cp n p0 p1 (fun v48 => k .ret (fr_slices_Index_Span_21 v48)) := ((fun c => (show X cp n (.seq (.fin (.reg g_slices_Index_Span_0) [1, 4] []) c) (fr_slices_Index_Span_23 p0 p1) k = s_slices_Index_Span_1 cp n p0 p1 (X cp n c (fr_slices_Index_Span_2 p0 p1) k) from by kernel_rfl)) i_slices_Index_Span_5).trans (congrArg (fun q => s_slices_Index_Span_1 cp n p0 p1 q) ((s_slices_Index_Span_20_t cp n p0 p1 k).trans (show s_slices_Index_Span_20 cp n p0 p1 (fun v47 => k .ret (fr_slices_Index_Span_19 v47)) = s_slices_Index_Span_20 cp n p0 p1 (fun v47 => k .ret (fr_slices_Index_Span_21 v47)) from by kernel_rfl)))
theorem run_slices_Index_Span {R : Type} (cp : Nat → Nat → Bool) (n : Nat) (p0 : (List SSpan)) (p1 : SSpan) (k : Ret2 RW → Option R) : G_slices_Index_Span cp (n + 1) p0 p1 (fun r0 => k ⟨(tL r0), [], []⟩) = run2 U cp (callP cp n) n fn_slices_Index_Span [.row false (.rSpan p0), .agg (eSpan p1)] [] k := ((X_run (f := fn_slices_Index_Span) (av := [.row false (.rSpan p0), .agg (eSpan p1)]) (cells := []) (code := i_slices_Index_Span_6) (fr := (fr_slices_Index_Span_23 p0 p1)) (k := k) (by kernel_rfl) (fun K => by kernel_rfl)).trans ((s_slices_Index_Span_22_t cp n p0 p1 (finK2 fn_slices_Index_Span k)).trans (by kernel_rfl))).symm
/-! slices.Contains[[]tideway/api.Span,tideway/api.Span] -/
theorem run_slices_Contains_Span {R : Type} (cp : Nat → Nat → Bool) (n : Nat) (p0 : (List SSpan)) (p1 : SSpan) (k : Ret2 RW → Option R) : G_slices_Contains_Span cp (n + 1) p0 p1 (fun r0 => k ⟨(tB r0), [], []⟩) = run2 U cp (callP cp n) n fn_slices_Contains_Span [.row false (.rSpan p0), .agg (eSpan p1)] [] k := by kernel_rfl
/-! tideway/recv.pieces -/
def fr_recv_pieces_2 (p0 : SRecv) : FF := [dT 1 ((.ptr 82 0) :: (dT 1 ((tL p0.xNext) :: (dT 12 [])))), dc, dc, dc, dc, dT 2 ((.hdr 15) :: (sl 0 13 (eRecv p0))), sl 13 2 (eRecv p0) ++ (dT 14 []), dc]
def fr_recv_pieces_4 (p0 : SRecv) (v2 : Int) : FF := [dT 1 ((.ptr 82 0) :: (dT 1 ((tL p0.xNext) :: (dT 9 ([.row false (.rPiece p0.xLate), (tL v2), (tL 0)]))))), dc, dc, dc, dc, dT 2 ((.hdr 15) :: (sl 0 13 (eRecv p0))), sl 13 2 (eRecv p0) ++ (dT 14 []), dc]
def fr_recv_pieces_6 (p0 : SRecv) (v2 v6 v7 : Int) : FF := [dT 1 ((.ptr 82 0) :: (dT 1 ((tL v6) :: (dT 9 ([.row false (.rPiece p0.xLate), (tL v2), (tL v7)]))))), dc, dc, dc, dc, dT 2 ((.hdr 15) :: (sl 0 13 (eRecv p0))), sl 13 2 (eRecv p0) ++ (dT 14 []), dc]
def fr_recv_pieces_7 : FF := [dT 2 ((tB false) :: (dT 13 [])), dc, dc, dc, dc, dc, dc, dc]
def fr_recv_pieces_8 (p0 : SRecv) : FF := [dT 1 ((.ptr 82 0) :: (dT 14 [])), dc, dc, dc, dc, dT 2 ((.hdr 15) :: (sl 0 13 (eRecv p0))), sl 13 2 (eRecv p0) ++ (dT 14 []), dc]
def fr_recv_pieces_9 (p0 : SRecv) (v2 v3 v4 : Int) : FF := [dT 1 ((.ptr 82 0) :: (dT 1 ((tL v3) :: (dT 9 ([.row false (.rPiece p0.xLate), (tL v2), (tL v4)]))))), dc, dc, dc, dc, dT 2 ((.hdr 15) :: (sl 0 13 (eRecv p0))), sl 13 2 (eRecv p0) ++ (dT 14 []), dc]
theorem s_recv_pieces_5_t {R : Type} (cp : Nat → Nat → Bool) (n : Nat) (p0 : SRecv) (v2 v3 v4 : Int) (k : Ex → FF → Option R) : X cp n i_recv_pieces_0 (fr_recv_pieces_9 p0 v2 v3 v4) k = s_recv_pieces_5 cp n p0 v2 v3 v4 (fun v6 v7 => k .norm (fr_recv_pieces_6 p0 v2 v6 v7)) (k .ret fr_recv_pieces_7) (k (.exit 0) (fr_recv_pieces_8 p0)) := by kernel_rfl
theorem l_recv_pieces_10_t {R : Type} (cp : Nat → Nat → Bool) (n : Nat) : ∀ (m : Nat) (p0 : SRecv) (v2 v3 v4 : Int) (k : Ex → FF → Option R), loopN2 (X cp n i_recv_pieces_0) m (fr_recv_pieces_9 p0 v2 v3 v4) k = l_recv_pieces_10 cp n m p0 v2 v3 v4 (k .ret fr_recv_pieces_7) (k (.exit 0) (fr_recv_pieces_8 p0))
  | 0, _, _, _, _, _ => rfl
  | m + 1, p0, v2, v3, v4, k => (loopN2_succ (X cp n i_recv_pieces_0) m (fr_recv_pieces_9 p0 v2 v3 v4) k).trans ((s_recv_pieces_5_t cp n p0 v2 v3 v4 (loopT (X cp n i_recv_pieces_0) m k)).trans ((show s_recv_pieces_5 cp n p0 v2 v3 v4 (fun v6 v7 => loopT (X cp n i_recv_pieces_0) m k .norm (fr_recv_pieces_6 p0 v2 v6 v7)) (loopT (X cp n i_recv_pieces_0) m k .ret fr_recv_pieces_7) (loopT (X cp n i_recv_pieces_0) m k (.exit 0) (fr_recv_pieces_8 p0)) = s_recv_pieces_5 cp n p0 v2 v3 v4 (fun v6 v7 => loopN2 (X cp n i_recv_pieces_0) m (fr_recv_pieces_9 p0 v2 v6 v7) k) (k .ret fr_recv_pieces_7) (k (.exit 0) (fr_recv_pieces_8 p0)) from by kernel_rfl).trans (congrArg (fun q => s_recv_pieces_5 cp n p0 v2 v3 v4 q (k .ret fr_recv_pieces_7) (k (.exit 0) (fr_recv_pieces_8 p0))) (funext fun v6 => funext fun v7 => l_recv_pieces_10_t cp n m p0 v2 v6 v7 k))))
theorem s_recv_pieces_11_t {R : Type} (cp : Nat → Nat → Bool) (n : Nat) (p0 : SRecv) (v2 : Int) (k : Ex → FF → Option R) : X cp n i_recv_pieces_1 (fr_recv_pieces_4 p0 v2) k = s_recv_pieces_11 cp n p0 v2 (k .ret fr_recv_pieces_7) (k (.exit 0) (fr_recv_pieces_8 p0)) := (show X cp n i_recv_pieces_1 (fr_recv_pieces_4 p0 v2) k = loopN2 (X cp n i_recv_pieces_0) n (fr_recv_pieces_9 p0 v2 p0.xNext 0) k from by kernel_rfl).trans (l_recv_pieces_10_t cp n n p0 v2 p0.xNext 0 k)
theorem s_recv_pieces_12_t {R : Type} (cp : Nat → Nat → Bool) (n : Nat) (p0 : SRecv) (v2 : Int) (k : Ex → FF → Option R) : X cp n i_recv_pieces_2 (fr_recv_pieces_4 p0 v2) k = s_recv_pieces_12 cp n p0 v2 (k .norm (fr_recv_pieces_8 p0)) (k .ret fr_recv_pieces_7) := (show X cp n i_recv_pieces_2 (fr_recv_pieces_4 p0 v2) k = X cp n i_recv_pieces_1 (fr_recv_pieces_4 p0 v2) (blkT 0 k) from by kernel_rfl).trans ((s_recv_pieces_11_t cp n p0 v2 (blkT 0 k)).trans (by kernel_rfl))
theorem s_recv_pieces_13_t {R : Type} (cp : Nat → Nat → Bool) (n : Nat) (p0 : SRecv) (k : Ex → FF → Option R) : X cp n i_recv_pieces_3 (fr_recv_pieces_2 p0) k = s_recv_pieces_13 cp n p0 (k .norm (fr_recv_pieces_8 p0)) (k .ret fr_recv_pieces_7) := ((fun c => (show X cp n (.seq (.fin (.reg g_recv_pieces_2) [12] []) c) (fr_recv_pieces_2 p0) k = s_recv_pieces_3 cp n p0 (fun v2 => X cp n c (fr_recv_pieces_4 p0 v2) k) from by kernel_rfl)) i_recv_pieces_2).trans (congrArg (fun q => s_recv_pieces_3 cp n p0 q) (funext fun v2 => s_recv_pieces_12_t cp n p0 v2 k))
def fr_recv_pieces_15 (p0 : SRecv) (v39 : (List SSpan)) : FF := [dT 1 ((.ptr 82 0) :: (dT 5 ((.row false (.rSpan v39)) :: (dT 8 [])))), dc, dc, dc, dc, dT 2 ((.hdr 15) :: (sl 0 13 (eRecv p0))), sl 13 2 (eRecv p0) ++ (dT 14 []), dc]
def fr_recv_pieces_17 (p0 : SRecv) (v39 : (List SSpan)) (v40 : Int) : FF := [dT 1 ((.ptr 82 0) :: (dT 5 ((.row false (.rSpan v39)) :: (dT 8 [])))), dc, dc, dT 14 ([.row false (.rSpan p0.xFirst), (tL v40)]), (tL 0) :: (dT 15 []), dT 2 ((.hdr 15) :: (sl 0 13 (eRecv p0))), sl 13 2 (eRecv p0) ++ (dT 14 []), dc]
def fr_recv_pieces_19 (p0 : SRecv) (v39 : (List SSpan)) (v40 v44 : Int) : FF := [dT 1 ((.ptr 82 0) :: (dT 5 ((.row false (.rSpan v39)) :: (dT 8 [])))), dc, dc, dT 14 ([.row false (.rSpan p0.xFirst), (tL v40)]), (tL v44) :: (dT 15 []), dT 2 ((.hdr 15) :: (sl 0 13 (eRecv p0))), sl 13 2 (eRecv p0) ++ (dT 14 []), dc]
def fr_recv_pieces_20 : FF := [dc, dc, dc, dc, dc, dc, dc, dc]
def fr_recv_pieces_21 (p0 : SRecv) (v39 : (List SSpan)) (v40 v41 : Int) : FF := [dT 1 ((.ptr 82 0) :: (dT 5 ((.row false (.rSpan v39)) :: (dT 8 [])))), dc, dc, dT 14 ([.row false (.rSpan p0.xFirst), (tL v40)]), (tL v41) :: (dT 15 []), dT 2 ((.hdr 15) :: (sl 0 13 (eRecv p0))), sl 13 2 (eRecv p0) ++ (dT 14 []), dc]
theorem s_recv_pieces_18_t {R : Type} (cp : Nat → Nat → Bool) (n : Nat) (p0 : SRecv) (v39 : (List SSpan)) (v40 v41 : Int) (k : Ex → FF → Option R) : X cp n i_recv_pieces_4 (fr_recv_pieces_21 p0 v39 v40 v41) k = s_recv_pieces_18 cp n p0 v39 v40 v41 (fun v44 => k .norm (fr_recv_pieces_19 p0 v39 v40 v44)) (k .ret fr_recv_pieces_7) (k (.exit 2) fr_recv_pieces_20) := by kernel_rfl
theorem l_recv_pieces_22_t {R : Type} (cp : Nat → Nat → Bool) (n : Nat) : ∀ (m : Nat) (p0 : SRecv) (v39 : (List SSpan)) (v40 v41 : Int) (k : Ex → FF → Option R), loopN2 (X cp n i_recv_pieces_4) m (fr_recv_pieces_21 p0 v39 v40 v41) k = l_recv_pieces_22 cp n m p0 v39 v40 v41 (k .ret fr_recv_pieces_7) (k (.exit 2) fr_recv_pieces_20)
  | 0, _, _, _, _, _ => rfl
  | m + 1, p0, v39, v40, v41, k => (loopN2_succ (X cp n i_recv_pieces_4) m (fr_recv_pieces_21 p0 v39 v40 v41) k).trans ((s_recv_pieces_18_t cp n p0 v39 v40 v41 (loopT (X cp n i_recv_pieces_4) m k)).trans ((show s_recv_pieces_18 cp n p0 v39 v40 v41 (fun v44 => loopT (X cp n i_recv_pieces_4) m k .norm (fr_recv_pieces_19 p0 v39 v40 v44)) (loopT (X cp n i_recv_pieces_4) m k .ret fr_recv_pieces_7) (loopT (X cp n i_recv_pieces_4) m k (.exit 2) fr_recv_pieces_20) = s_recv_pieces_18 cp n p0 v39 v40 v41 (fun v44 => loopN2 (X cp n i_recv_pieces_4) m (fr_recv_pieces_21 p0 v39 v40 v44) k) (k .ret fr_recv_pieces_7) (k (.exit 2) fr_recv_pieces_20) from by kernel_rfl).trans (congrArg (fun q => s_recv_pieces_18 cp n p0 v39 v40 v41 q (k .ret fr_recv_pieces_7) (k (.exit 2) fr_recv_pieces_20)) (funext fun v44 => l_recv_pieces_22_t cp n m p0 v39 v40 v44 k))))
theorem s_recv_pieces_23_t {R : Type} (cp : Nat → Nat → Bool) (n : Nat) (p0 : SRecv) (v39 : (List SSpan)) (v40 : Int) (k : Ex → FF → Option R) : X cp n i_recv_pieces_5 (fr_recv_pieces_17 p0 v39 v40) k = s_recv_pieces_23 cp n p0 v39 v40 (k .ret fr_recv_pieces_7) (k (.exit 2) fr_recv_pieces_20) := (show X cp n i_recv_pieces_5 (fr_recv_pieces_17 p0 v39 v40) k = loopN2 (X cp n i_recv_pieces_4) n (fr_recv_pieces_21 p0 v39 v40 0) k from by kernel_rfl).trans (l_recv_pieces_22_t cp n n p0 v39 v40 0 k)
theorem s_recv_pieces_24_t {R : Type} (cp : Nat → Nat → Bool) (n : Nat) (p0 : SRecv) (v39 : (List SSpan)) (v40 : Int) (k : Ex → FF → Option R) : X cp n i_recv_pieces_6 (fr_recv_pieces_17 p0 v39 v40) k = s_recv_pieces_24 cp n p0 v39 v40 (k .norm fr_recv_pieces_20) (k .ret fr_recv_pieces_7) := (show X cp n i_recv_pieces_6 (fr_recv_pieces_17 p0 v39 v40) k = X cp n i_recv_pieces_5 (fr_recv_pieces_17 p0 v39 v40) (blkT 2 k) from by kernel_rfl).trans ((s_recv_pieces_23_t cp n p0 v39 v40 (blkT 2 k)).trans (by kernel_rfl))
theorem s_recv_pieces_25_t {R : Type} (cp : Nat → Nat → Bool) (n : Nat) (p0 : SRecv) (v39 : (List SSpan)) (k : Ex → FF → Option R) : X cp n i_recv_pieces_7 (fr_recv_pieces_15 p0 v39) k = s_recv_pieces_25 cp n p0 v39 (k .norm fr_recv_pieces_20) (k .ret fr_recv_pieces_7) := ((fun c => (show X cp n (.seq (.fin (.reg g_recv_pieces_11) [61] []) c) (fr_recv_pieces_15 p0 v39) k = s_recv_pieces_16 cp n p0 v39 (fun v40 => X cp n c (fr_recv_pieces_17 p0 v39 v40) k) from by kernel_rfl)) i_recv_pieces_6).trans (congrArg (fun q => s_recv_pieces_16 cp n p0 v39 q) (funext fun v40 => s_recv_pieces_24_t cp n p0 v39 v40 k))
def fr_recv_pieces_27 : FF := [dT 2 ((tB true) :: (dT 13 [])), dc, dc, dc, dc, dc, dc, dc]
theorem s_recv_pieces_26_t {R : Type} (cp : Nat → Nat → Bool) (n : Nat) (k : Ex → FF → Option R) : X cp n i_recv_pieces_8 fr_recv_pieces_20 k = s_recv_pieces_26 cp n (k .ret fr_recv_pieces_27) := by kernel_rfl
def fr_recv_pieces_28 (v45 : Bool) : FF := [dT 2 ((tB v45) :: (dT 13 [])), dc, dc, dc, dc, dc, dc, dc]
theorem s_recv_pieces_29_t {R : Type} (cp : Nat → Nat → Bool) (n : Nat) (p0 : SRecv) (v39 : (List SSpan)) (k : Ex → FF → Option R) : X cp n i_recv_pieces_9 (fr_recv_pieces_15 p0 v39) k = s_recv_pieces_29 cp n p0 v39 (fun v45 => k .ret (fr_recv_pieces_28 v45)) := (show X cp n i_recv_pieces_9 (fr_recv_pieces_15 p0 v39) k = X cp n i_recv_pieces_7 (fr_recv_pieces_15 p0 v39) (seqT (X cp n) i_recv_pieces_8 k) from by kernel_rfl).trans ((show X cp n i_recv_pieces_7 (fr_recv_pieces_15 p0 v39) (seqT (X cp n) i_recv_pieces_8 k) = s_recv_pieces_25 cp n p0 v39 (X cp n i_recv_pieces_8 fr_recv_pieces_20 k) (k .ret (fr_recv_pieces_28 false)) from (s_recv_pieces_25_t cp n p0 v39 (seqT (X cp n) i_recv_pieces_8 k)).trans (by kernel_rfl)).trans (congrArg (fun q => s_recv_pieces_25 cp n p0 v39 q (k .ret (fr_recv_pieces_28 false))) ((s_recv_pieces_26_t cp n  k).trans (show s_recv_pieces_26 cp n (k .ret fr_recv_pieces_27) = s_recv_pieces_26 cp n (k .ret (fr_recv_pieces_28 true)) from by kernel_rfl))))
def fr_recv_pieces_30 (v46 : Bool) : FF := [dT 2 ((tB v46) :: (dT 13 [])), dc, dc, dc, dc, dc, dc, dc]
theorem s_recv_pieces_31_t {R : Type} (cp : Nat → Nat → Bool) (n : Nat) (p0 : SRecv) (k : Ex → FF → Option R) : X cp n i_recv_pieces_10 (fr_recv_pieces_8 p0) k = s_recv_pieces_31 cp n p0 (fun v46 => k .ret (fr_recv_pieces_30 v46)) := ((fun c => (show X cp n (.seq (.fin (.reg g_recv_pieces_10) [58, 59, 60] [(104, 15)]) c) (fr_recv_pieces_8 p0) k = s_recv_pieces_14 cp n p0 (fun v39 => X cp n c (fr_recv_pieces_15 p0 v39) k) from by kernel_rfl)) i_recv_pieces_9).trans (congrArg (fun q => s_recv_pieces_14 cp n p0 q) (funext fun v39 => (s_recv_pieces_29_t cp n p0 v39 k).trans (show s_recv_pieces_29 cp n p0 v39 (fun v45 => k .ret (fr_recv_pieces_28 v45)) = s_recv_pieces_29 cp n p0 v39 (fun v45 => k .ret (fr_recv_pieces_30 v45)) from by kernel_rfl)))
def fr_recv_pieces_32 (v47 : Bool) : FF := [dT 2 ((tB v47) :: (dT 13 [])), dc, dc, dc, dc, dc, dc, dc]
theorem s_recv_pieces_33_t {R : Type} (cp : Nat → Nat → Bool) (n : Nat) (p0 : SRecv) (k : Ex → FF → Option R) : X cp n i_recv_pieces_11 (fr_recv_pieces_2 p0) k = s_recv_pieces_33 cp n p0 (fun v47 => k .ret (fr_recv_pieces_32 v47)) := (show X cp n i_recv_pieces_11 (fr_recv_pieces_2 p0) k = X cp n i_recv_pieces_3 (fr_recv_pieces_2 p0) (seqT (X cp n) i_recv_pieces_10 k) from by kernel_rfl).trans ((show X cp n i_recv_pieces_3 (fr_recv_pieces_2 p0) (seqT (X cp n) i_recv_pieces_10 k) = s_recv_pieces_13 cp n p0 (X cp n i_recv_pieces_10 (fr_recv_pieces_8 p0) k) (k .ret (fr_recv_pieces_32 false)) from (s_recv_pieces_13_t cp n p0 (seqT (X cp n) i_recv_pieces_10 k)).trans (by kernel_rfl)).trans (congrArg (fun q => s_recv_pieces_13 cp n p0 q (k .ret (fr_recv_pieces_32 false))) ((s_recv_pieces_31_t cp n p0 k).trans (show s_recv_pieces_31 cp n p0 (fun v46 => k .ret (fr_recv_pieces_30 v46)) = s_recv_pieces_31 cp n p0 (fun v46 => k .ret (fr_recv_pieces_32 v46)) from by kernel_rfl))))
def fr_recv_pieces_34 (v48 : Bool) : FF := [dT 2 ((tB v48) :: (dT 13 [])), dc, dc, dc, dc, dc, dc, dc]
def fr_recv_pieces_36 (p0 : SRecv) : FF := [(.agg (eRecv p0)) :: (dT 15 []), dc, dc, dc, dc, dc, dc, dc]
theorem s_recv_pieces_35_t {R : Type} (cp : Nat → Nat → Bool) (n : Nat) (p0 : SRecv) (k : Ex → FF → Option R) : X cp n i_recv_pieces_12 (fr_recv_pieces_36 p0) k = s_recv_pieces_35 cp n p0 (fun v48 => k .ret (fr_recv_pieces_34 v48)) := ((fun c => (show X cp n (.seq (.fin (.reg g_recv_pieces_0) [0, 2] []) (.seq (.fin (.reg g_recv_pieces_1) [10, 11] []) c)) (fr_recv_pieces_36 p0) k = s_recv_pieces_1 cp n p0 (X cp n c (fr_recv_pieces_2 p0) k) from by kernel_rfl)) i_recv_pieces_11).trans (congrArg (fun q => s_recv_pieces_1 cp n p0 q) ((s_recv_pieces_33_t cp n p0 k).trans (show s_recv_pieces_33 cp n p0 (fun v47 => k .ret (fr_recv_pieces_32 v47)) = s_recv_pieces_33 cp n p0 (fun v47 => k .ret (fr_recv_pieces_34 v47)) from by kernel_rfl)))
theorem run_recv_pieces {R : Type} (cp : Nat → Nat → Bool) (n : Nat) (p0 : SRecv) (k : Ret2 RW → Option R) : G_recv_pieces cp (n + 1) p0 (fun r0 => k ⟨(tB r0), [], []⟩) = run2 U cp (callP cp n) n fn_recv_pieces [.agg (eRecv p0)] [] k := ((X_run (f := fn_recv_pieces) (av := [.agg (eRecv p0)]) (cells := []) (code := i_recv_pieces_12) (fr := (fr_recv_pieces_36 p0)) (k := k) (by kernel_rfl) (fun K => by kernel_rfl)).trans ((s_recv_pieces_35_t cp n p0 (finK2 fn_recv_pieces k)).trans (by kernel_rfl))).symm
/-! tideway/recv.Check -/
def fr_recv_Check_2 (p0 : SRecv) : FF := [dT 1 ((.ptr 102 0) :: (dT 14 [])), dc, dc, dc, dc, dc, dT 6 ((.hdr 15) :: (sl 0 9 (eRecv p0))), sl 9 6 (eRecv p0) ++ (dT 10 [])]
def fr_recv_Check_4 : FF := [dT 2 ((tL 230) :: (dT 13 [])), dc, dc, dc, dc, dc, dc, dc]
def fr_recv_Check_6 (v3 : Int) : FF := [dT 2 ((tL v3) :: (dT 13 [])), dc, dc, dc, dc, dc, dc, dc]
theorem s_recv_Check_5_t {R : Type} (cp : Nat → Nat → Bool) (n : Nat) (p0 : SRecv) (k : Ex → FF → Option R) : X cp n i_recv_Check_0 (fr_recv_Check_2 p0) k = s_recv_Check_5 cp n p0 (fun v3 => k .ret (fr_recv_Check_6 v3)) := by kernel_rfl
def fr_recv_Check_7 (v4 : Int) : FF := [dT 2 ((tL v4) :: (dT 13 [])), dc, dc, dc, dc, dc, dc, dc]
theorem s_recv_Check_8_t {R : Type} (cp : Nat → Nat → Bool) (n : Nat) (p0 : SRecv) (k : Ex → FF → Option R) : X cp n i_recv_Check_1 (fr_recv_Check_2 p0) k = s_recv_Check_8 cp n p0 (fun v4 => k .ret (fr_recv_Check_7 v4)) := ((fun c => (show X cp n (.seq (.fin (.reg g_recv_Check_1) [4, 5, 6, 7, 8, 9, 10, 11, 12, 13, 14, 15, 16, 17, 18, 19, 20, 21, 22, 23, 24, 25, 26, 27, 28, 29, 30, 31, 32, 33, 34, 35, 36, 37, 38, 39, 40, 41, 42] []) (.seq (.seq (.fin (.reg g_recv_Check_2) [3, 43, 44, 45, 46, 47, 48, 49, 50, 51, 52, 53, 54, 55, 56, 57, 58, 59, 60, 61, 62, 63, 64, 65, 66, 67, 68, 69, 70, 71, 72, 73, 74, 75, 76, 77] []) (.fin (.cond (.s 78) (.seq (.fin (.reg g_recv_Check_3) [1, 78] [(102, 15)]) (.ret)) (.skip)) [78] [])) c)) (fr_recv_Check_2 p0) k = s_recv_Check_3 cp n p0 (X cp n c (fr_recv_Check_2 p0) k) (k .ret (fr_recv_Check_7 230)) from by kernel_rfl)) i_recv_Check_0).trans (congrArg (fun q => s_recv_Check_3 cp n p0 q (k .ret (fr_recv_Check_7 230))) ((s_recv_Check_5_t cp n p0 k).trans (show s_recv_Check_5 cp n p0 (fun v3 => k .ret (fr_recv_Check_6 v3)) = s_recv_Check_5 cp n p0 (fun v3 => k .ret (fr_recv_Check_7 v3)) from by kernel_rfl)))
def fr_recv_Check_9 (v5 : Int) : FF := [dT 2 ((tL v5) :: (dT 13 [])), dc, dc, dc, dc, dc, dc, dc]
def fr_recv_Check_11 (p0 : SRecv) : FF := [(.agg (eRecv p0)) :: (dT 15 []), dc, dc, dc, dc, dc, dc, dc]
theorem s_recv_Check_10_t {R : Type} (cp : Nat → Nat → Bool) (n : Nat) (p0 : SRecv) (k : Ex → FF → Option R) : X cp n i_recv_Check_2 (fr_recv_Check_11 p0) k = s_recv_Check_10 cp n p0 (fun v5 => k .ret (fr_recv_Check_9 v5)) := ((fun c => (show X cp n (.seq (.fin (.reg g_recv_Check_0) [0, 2] []) c) (fr_recv_Check_11 p0) k = s_recv_Check_1 cp n p0 (X cp n c (fr_recv_Check_2 p0) k) from by kernel_rfl)) i_recv_Check_1).trans (congrArg (fun q => s_recv_Check_1 cp n p0 q) ((s_recv_Check_8_t cp n p0 k).trans (show s_recv_Check_8 cp n p0 (fun v4 => k .ret (fr_recv_Check_7 v4)) = s_recv_Check_8 cp n p0 (fun v4 => k .ret (fr_recv_Check_9 v4)) from by kernel_rfl)))
theorem run_recv_Check {R : Type} (cp : Nat → Nat → Bool) (n : Nat) (p0 : SRecv) (k : Ret2 RW → Option R) : G_recv_Check cp (n + 1) p0 (fun r0 => k ⟨(tL r0), [], []⟩) = run2 U cp (callP cp n) n fn_recv_Check [.agg (eRecv p0)] [] k := ((X_run (f := fn_recv_Check) (av := [.agg (eRecv p0)]) (cells := []) (code := i_recv_Check_2) (fr := (fr_recv_Check_11 p0)) (k := k) (by kernel_rfl) (fun K => by kernel_rfl)).trans ((s_recv_Check_10_t cp n p0 (finK2 fn_recv_Check k)).trans (by kernel_rfl))).symm
/-! tideway/recv.window -/
theorem run_recv_window {R : Type} (cp : Nat → Nat → Bool) (n : Nat) (p0 : SRecv) (k : Ret2 RW → Option R) : G_recv_window cp (n + 1) p0 (fun r0 => k ⟨(tL r0), [], []⟩) = run2 U cp (callP cp n) n fn_recv_window [.agg (eRecv p0)] [] k := by kernel_rfl
/-! tideway/recv.New -/
theorem run_recv_New {R : Type} (cp : Nat → Nat → Bool) (n : Nat) (p0 p1 p2 p3 : Int) (p4 p5 : Bool) (k : Ret2 RW → Option R) : G_recv_New cp (n + 1) p0 p1 p2 p3 p4 p5 (fun r0 r1 => k ⟨.tup [.agg (eRecv r0), (tL r1)], [], []⟩) = run2 U cp (callP cp n) n fn_recv_New [(tL p0), (tL p1), (tI .u32 p2), (tI .u32 p3), (tB p4), (tB p5)] [] k := by kernel_rfl
/-! tideway/recv.copied -/
def fr_recv_copied_2 (p0 : SRecv) (v14 : (List Int)) (v15 : (List SSpan)) : FF := [dT 1 ((.ptr 37 0) :: (.ptr 53 0) :: (.row false (.rPiece p0.xLate)) :: (dT 12 [])), dc, dT 5 ([.hdr 15, (tL p0.xNext), .row true (.ruint8 v14), .row true (.rPiece []), (tL p0.xCap), (tL p0.xShift), (tL p0.xEdge), (tI .u32 p0.xRecent), (tB p0.xStamps), (tB p0.xSacks), (tL p0.xFin)]), [(tB p0.xDone), .row true (.rSpan v15), (tI .u32 p0.xIrs), (tI .u32 p0.xOwn), (tB p0.xStamp), .hdr 15, (tL 0), .row true (.ruint8 []), .row true (.rPiece []), (tL 0), (tL 0), (tL 0), (tI .u32 0), (tB false), (tB false), (tL 0)], (tB false) :: (.row true (.rSpan [])) :: (tI .u32 0) :: (tI .u32 0) :: (tB false) :: (dT 11 [])]
def fr_recv_copied_4 (p0 : SRecv) (v14 : (List Int)) (v15 : (List SSpan)) (v16 : Int) : FF := [dT 1 ((.ptr 37 0) :: (.ptr 53 0) :: (dT 13 [])), dT 2 ((.row false (.rPiece p0.xLate)) :: (tL v16) :: (tL 0) :: (dT 11 [])), dT 5 ([.hdr 15, (tL p0.xNext), .row true (.ruint8 v14), .row true (.rPiece []), (tL p0.xCap), (tL p0.xShift), (tL p0.xEdge), (tI .u32 p0.xRecent), (tB p0.xStamps), (tB p0.xSacks), (tL p0.xFin)]), [(tB p0.xDone), .row true (.rSpan v15), (tI .u32 p0.xIrs), (tI .u32 p0.xOwn), (tB p0.xStamp), .hdr 15, (tL 0), .row true (.ruint8 []), .row true (.rPiece []), (tL 0), (tL 0), (tL 0), (tI .u32 0), (tB false), (tB false), (tL 0)], (tB false) :: (.row true (.rSpan [])) :: (tI .u32 0) :: (tI .u32 0) :: (tB false) :: (dT 11 [])]
def fr_recv_copied_6 (p0 : SRecv) (v14 : (List Int)) (v15 : (List SSpan)) (v16 v20 : Int) (v21 : (List SPiece)) : FF := [dT 1 ((.ptr 37 0) :: (.ptr 53 0) :: (dT 13 [])), dT 2 ((.row false (.rPiece p0.xLate)) :: (tL v16) :: (tL v20) :: (dT 11 [])), dT 5 ([.hdr 15, (tL p0.xNext), .row true (.ruint8 v14), .row true (.rPiece v21), (tL p0.xCap), (tL p0.xShift), (tL p0.xEdge), (tI .u32 p0.xRecent), (tB p0.xStamps), (tB p0.xSacks), (tL p0.xFin)]), [(tB p0.xDone), .row true (.rSpan v15), (tI .u32 p0.xIrs), (tI .u32 p0.xOwn), (tB p0.xStamp), .hdr 15, (tL 0), .row true (.ruint8 []), .row true (.rPiece []), (tL 0), (tL 0), (tL 0), (tI .u32 0), (tB false), (tB false), (tL 0)], (tB false) :: (.row true (.rSpan [])) :: (tI .u32 0) :: (tI .u32 0) :: (tB false) :: (dT 11 [])]
def fr_recv_copied_7 (p0 : SRecv) (v14 : (List Int)) (v15 : (List SSpan)) (v18 : (List SPiece)) : FF := [dT 1 ((.ptr 37 0) :: (.ptr 53 0) :: (dT 13 [])), dc, dT 5 ([.hdr 15, (tL p0.xNext), .row true (.ruint8 v14), .row true (.rPiece v18), (tL p0.xCap), (tL p0.xShift), (tL p0.xEdge), (tI .u32 p0.xRecent), (tB p0.xStamps), (tB p0.xSacks), (tL p0.xFin)]), [(tB p0.xDone), .row true (.rSpan v15), (tI .u32 p0.xIrs), (tI .u32 p0.xOwn), (tB p0.xStamp), .hdr 15, (tL 0), .row true (.ruint8 []), .row true (.rPiece []), (tL 0), (tL 0), (tL 0), (tI .u32 0), (tB false), (tB false), (tL 0)], (tB false) :: (.row true (.rSpan [])) :: (tI .u32 0) :: (tI .u32 0) :: (tB false) :: (dT 11 [])]
def fr_recv_copied_8 (p0 : SRecv) (v14 : (List Int)) (v15 : (List SSpan)) (v16 v17 : Int) (v18 : (List SPiece)) : FF := [dT 1 ((.ptr 37 0) :: (.ptr 53 0) :: (dT 13 [])), dT 2 ((.row false (.rPiece p0.xLate)) :: (tL v16) :: (tL v17) :: (dT 11 [])), dT 5 ([.hdr 15, (tL p0.xNext), .row true (.ruint8 v14), .row true (.rPiece v18), (tL p0.xCap), (tL p0.xShift), (tL p0.xEdge), (tI .u32 p0.xRecent), (tB p0.xStamps), (tB p0.xSacks), (tL p0.xFin)]), [(tB p0.xDone), .row true (.rSpan v15), (tI .u32 p0.xIrs), (tI .u32 p0.xOwn), (tB p0.xStamp), .hdr 15, (tL 0), .row true (.ruint8 []), .row true (.rPiece []), (tL 0), (tL 0), (tL 0), (tI .u32 0), (tB false), (tB false), (tL 0)], (tB false) :: (.row true (.rSpan [])) :: (tI .u32 0) :: (tI .u32 0) :: (tB false) :: (dT 11 [])]
theorem s_recv_copied_5_t {R : Type} (cp : Nat → Nat → Bool) (n : Nat) (p0 : SRecv) (v14 : (List Int)) (v15 : (List SSpan)) (v16 v17 : Int) (v18 : (List SPiece)) (k : Ex → FF → Option R) : X cp n i_recv_copied_0 (fr_recv_copied_8 p0 v14 v15 v16 v17 v18) k = s_recv_copied_5 cp n p0 v14 v15 v16 v17 v18 (fun v20 v21 => k .norm (fr_recv_copied_6 p0 v14 v15 v16 v20 v21)) (k (.exit 0) (fr_recv_copied_7 p0 v14 v15 v18)) := by kernel_rfl
def fr_recv_copied_9 (p0 : SRecv) (v14 : (List Int)) (v15 : (List SSpan)) (v22 : (List SPiece)) : FF := [dT 1 ((.ptr 37 0) :: (.ptr 53 0) :: (dT 13 [])), dc, dT 5 ([.hdr 15, (tL p0.xNext), .row true (.ruint8 v14), .row true (.rPiece v22), (tL p0.xCap), (tL p0.xShift), (tL p0.xEdge), (tI .u32 p0.xRecent), (tB p0.xStamps), (tB p0.xSacks), (tL p0.xFin)]), [(tB p0.xDone), .row true (.rSpan v15), (tI .u32 p0.xIrs), (tI .u32 p0.xOwn), (tB p0.xStamp), .hdr 15, (tL 0), .row true (.ruint8 []), .row true (.rPiece []), (tL 0), (tL 0), (tL 0), (tI .u32 0), (tB false), (tB false), (tL 0)], (tB false) :: (.row true (.rSpan [])) :: (tI .u32 0) :: (tI .u32 0) :: (tB false) :: (dT 11 [])]
theorem l_recv_copied_10_t {R : Type} (cp : Nat → Nat → Bool) (n : Nat) : ∀ (m : Nat) (p0 : SRecv) (v14 : (List Int)) (v15 : (List SSpan)) (v16 v17 : Int) (v18 : (List SPiece)) (k : Ex → FF → Option R), loopN2 (X cp n i_recv_copied_0) m (fr_recv_copied_8 p0 v14 v15 v16 v17 v18) k = l_recv_copied_10 cp n m p0 v14 v15 v16 v17 v18 (fun v22 => k (.exit 0) (fr_recv_copied_9 p0 v14 v15 v22))
  | 0, _, _, _, _, _, _, _ => rfl
  | m + 1, p0, v14, v15, v16, v17, v18, k => (loopN2_succ (X cp n i_recv_copied_0) m (fr_recv_copied_8 p0 v14 v15 v16 v17 v18) k).trans ((s_recv_copied_5_t cp n p0 v14 v15 v16 v17 v18 (loopT (X cp n i_recv_copied_0) m k)).trans ((show s_recv_copied_5 cp n p0 v14 v15 v16 v17 v18 (fun v20 v21 => loopT (X cp n i_recv_copied_0) m k .norm (fr_recv_copied_6 p0 v14 v15 v16 v20 v21)) (loopT (X cp n i_recv_copied_0) m k (.exit 0) (fr_recv_copied_7 p0 v14 v15 v18)) = s_recv_copied_5 cp n p0 v14 v15 v16 v17 v18 (fun v20 v21 => loopN2 (X cp n i_recv_copied_0) m (fr_recv_copied_8 p0 v14 v15 v16 v20 v21) k) (k (.exit 0) (fr_recv_copied_9 p0 v14 v15 v18)) from by kernel_rfl).trans (congrArg (fun q => s_recv_copied_5 cp n p0 v14 v15 v16 v17 v18 q (k (.exit 0) (fr_recv_copied_9 p0 v14 v15 v18))) (funext fun v20 => funext fun v21 => l_recv_copied_10_t cp n m p0 v14 v15 v16 v20 v21 k))))
theorem s_recv_copied_11_t {R : Type} (cp : Nat → Nat → Bool) (n : Nat) (p0 : SRecv) (v14 : (List Int)) (v15 : (List SSpan)) (v16 : Int) (k : Ex → FF → Option R) : X cp n i_recv_copied_1 (fr_recv_copied_4 p0 v14 v15 v16) k = s_recv_copied_11 cp n p0 v14 v15 v16 (fun v22 => k (.exit 0) (fr_recv_copied_9 p0 v14 v15 v22)) := (show X cp n i_recv_copied_1 (fr_recv_copied_4 p0 v14 v15 v16) k = loopN2 (X cp n i_recv_copied_0) n (fr_recv_copied_8 p0 v14 v15 v16 0 []) k from by kernel_rfl).trans (l_recv_copied_10_t cp n n p0 v14 v15 v16 0 [] k)
def fr_recv_copied_12 (p0 : SRecv) (v14 : (List Int)) (v15 : (List SSpan)) (v23 : (List SPiece)) : FF := [dT 1 ((.ptr 37 0) :: (.ptr 53 0) :: (dT 13 [])), dc, dT 5 ([.hdr 15, (tL p0.xNext), .row true (.ruint8 v14), .row true (.rPiece v23), (tL p0.xCap), (tL p0.xShift), (tL p0.xEdge), (tI .u32 p0.xRecent), (tB p0.xStamps), (tB p0.xSacks), (tL p0.xFin)]), [(tB p0.xDone), .row true (.rSpan v15), (tI .u32 p0.xIrs), (tI .u32 p0.xOwn), (tB p0.xStamp), .hdr 15, (tL 0), .row true (.ruint8 []), .row true (.rPiece []), (tL 0), (tL 0), (tL 0), (tI .u32 0), (tB false), (tB false), (tL 0)], (tB false) :: (.row true (.rSpan [])) :: (tI .u32 0) :: (tI .u32 0) :: (tB false) :: (dT 11 [])]
theorem s_recv_copied_13_t {R : Type} (cp : Nat → Nat → Bool) (n : Nat) (p0 : SRecv) (v14 : (List Int)) (v15 : (List SSpan)) (v16 : Int) (k : Ex → FF → Option R) : X cp n i_recv_copied_2 (fr_recv_copied_4 p0 v14 v15 v16) k = s_recv_copied_13 cp n p0 v14 v15 v16 (fun v23 => k .norm (fr_recv_copied_12 p0 v14 v15 v23)) := (show X cp n i_recv_copied_2 (fr_recv_copied_4 p0 v14 v15 v16) k = X cp n i_recv_copied_1 (fr_recv_copied_4 p0 v14 v15 v16) (blkT 0 k) from by kernel_rfl).trans ((s_recv_copied_11_t cp n p0 v14 v15 v16 (blkT 0 k)).trans (by kernel_rfl))
def fr_recv_copied_14 (p0 : SRecv) (v14 : (List Int)) (v15 : (List SSpan)) (v24 : (List SPiece)) : FF := [dT 1 ((.ptr 37 0) :: (.ptr 53 0) :: (dT 13 [])), dc, dT 5 ([.hdr 15, (tL p0.xNext), .row true (.ruint8 v14), .row true (.rPiece v24), (tL p0.xCap), (tL p0.xShift), (tL p0.xEdge), (tI .u32 p0.xRecent), (tB p0.xStamps), (tB p0.xSacks), (tL p0.xFin)]), [(tB p0.xDone), .row true (.rSpan v15), (tI .u32 p0.xIrs), (tI .u32 p0.xOwn), (tB p0.xStamp), .hdr 15, (tL 0), .row true (.ruint8 []), .row true (.rPiece []), (tL 0), (tL 0), (tL 0), (tI .u32 0), (tB false), (tB false), (tL 0)], (tB false) :: (.row true (.rSpan [])) :: (tI .u32 0) :: (tI .u32 0) :: (tB false) :: (dT 11 [])]
theorem s_recv_copied_15_t {R : Type} (cp : Nat → Nat → Bool) (n : Nat) (p0 : SRecv) (v14 : (List Int)) (v15 : (List SSpan)) (k : Ex → FF → Option R) : X cp n i_recv_copied_3 (fr_recv_copied_2 p0 v14 v15) k = s_recv_copied_15 cp n p0 v14 v15 (fun v24 => k .norm (fr_recv_copied_14 p0 v14 v15 v24)) := ((fun c => (show X cp n (.seq (.fin (.reg g_recv_copied_5) [3] []) c) (fr_recv_copied_2 p0 v14 v15) k = s_recv_copied_3 cp n p0 v14 v15 (fun v16 => X cp n c (fr_recv_copied_4 p0 v14 v15 v16) k) from by kernel_rfl)) i_recv_copied_2).trans (congrArg (fun q => s_recv_copied_3 cp n p0 v14 v15 q) (funext fun v16 => (s_recv_copied_13_t cp n p0 v14 v15 v16 k).trans (show s_recv_copied_13 cp n p0 v14 v15 v16 (fun v23 => k .norm (fr_recv_copied_12 p0 v14 v15 v23)) = s_recv_copied_13 cp n p0 v14 v15 v16 (fun v23 => k .norm (fr_recv_copied_14 p0 v14 v15 v23)) from by kernel_rfl)))
def fr_recv_copied_17 (p0 : SRecv) (v14 : (List Int)) (v15 : (List SSpan)) (v24 : (List SPiece)) : FF := [dT 2 ((.ptr 53 0) :: (dT 13 [])), dc, dc, dT 5 ([.hdr 15, (tL p0.xNext), .row true (.ruint8 v14), .row true (.rPiece v24), (tL p0.xCap), (tL p0.xShift), (tL p0.xEdge), (tI .u32 p0.xRecent), (tB p0.xStamps), (tB p0.xSacks), (tL p0.xFin)]), (tB p0.xDone) :: (.row true (.rSpan v15)) :: (tI .u32 p0.xIrs) :: (tI .u32 p0.xOwn) :: (tB p0.xStamp) :: (dT 11 [])]
theorem s_recv_copied_16_t {R : Type} (cp : Nat → Nat → Bool) (n : Nat) (p0 : SRecv) (v14 : (List Int)) (v15 : (List SSpan)) (v24 : (List SPiece)) (k : Ex → FF → Option R) : X cp n i_recv_copied_4 (fr_recv_copied_14 p0 v14 v15 v24) k = s_recv_copied_16 cp n p0 v14 v15 v24 (k .ret (fr_recv_copied_17 p0 v14 v15 v24)) := by kernel_rfl
def fr_recv_copied_18 (p0 : SRecv) (v14 : (List Int)) (v15 : (List SSpan)) (v25 : (List SPiece)) : FF := [dT 2 ((.ptr 53 0) :: (dT 13 [])), dc, dc, dT 5 ([.hdr 15, (tL p0.xNext), .row true (.ruint8 v14), .row true (.rPiece v25), (tL p0.xCap), (tL p0.xShift), (tL p0.xEdge), (tI .u32 p0.xRecent), (tB p0.xStamps), (tB p0.xSacks), (tL p0.xFin)]), (tB p0.xDone) :: (.row true (.rSpan v15)) :: (tI .u32 p0.xIrs) :: (tI .u32 p0.xOwn) :: (tB p0.xStamp) :: (dT 11 [])]
theorem s_recv_copied_19_t {R : Type} (cp : Nat → Nat → Bool) (n : Nat) (p0 : SRecv) (v14 : (List Int)) (v15 : (List SSpan)) (k : Ex → FF → Option R) : X cp n i_recv_copied_5 (fr_recv_copied_2 p0 v14 v15) k = s_recv_copied_19 cp n p0 v14 v15 (fun v25 => k .ret (fr_recv_copied_18 p0 v14 v15 v25)) := (show X cp n i_recv_copied_5 (fr_recv_copied_2 p0 v14 v15) k = X cp n i_recv_copied_3 (fr_recv_copied_2 p0 v14 v15) (seqT (X cp n) i_recv_copied_4 k) from by kernel_rfl).trans ((show X cp n i_recv_copied_3 (fr_recv_copied_2 p0 v14 v15) (seqT (X cp n) i_recv_copied_4 k) = s_recv_copied_15 cp n p0 v14 v15 (fun v24 => X cp n i_recv_copied_4 (fr_recv_copied_14 p0 v14 v15 v24) k) from (s_recv_copied_15_t cp n p0 v14 v15 (seqT (X cp n) i_recv_copied_4 k)).trans (by kernel_rfl)).trans (congrArg (fun q => s_recv_copied_15 cp n p0 v14 v15 q) (funext fun v24 => (s_recv_copied_16_t cp n p0 v14 v15 v24 k).trans (show s_recv_copied_16 cp n p0 v14 v15 v24 (k .ret (fr_recv_copied_17 p0 v14 v15 v24)) = s_recv_copied_16 cp n p0 v14 v15 v24 (k .ret (fr_recv_copied_18 p0 v14 v15 v24)) from by kernel_rfl))))
def fr_recv_copied_20 (v26 : SRecv) : FF := [dT 2 ((.ptr 53 0) :: (dT 13 [])), dc, dc, dT 5 ((.hdr 15) :: (sl 0 10 (eRecvt v26))), sl 10 5 (eRecvt v26) ++ (dT 11 [])]
def fr_recv_copied_22 (p0 : SRecv) : FF := [(.agg (eRecv p0)) :: (dT 15 []), dc, dc, dc, dc]
theorem s_recv_copied_21_t {R : Type} (cp : Nat → Nat → Bool) (n : Nat) (p0 : SRecv) (k : Ex → FF → Option R) : X cp n i_recv_copied_6 (fr_recv_copied_22 p0) k = s_recv_copied_21 cp n p0 (fun v26 => k .ret (fr_recv_copied_20 v26)) := ((fun c => (show X cp n (.seq (.fin (.reg g_recv_copied_0) [0] []) (.seq (.fin (.reg g_recv_copied_1) [6, 7, 8, 9, 10] []) (.seq (.fin (.reg g_recv_copied_2) [11, 12, 13, 14] []) (.seq (.fin (.reg g_recv_copied_3) [15, 16] []) (.seq (.fin (.reg g_recv_copied_4) [17] []) c))))) (fr_recv_copied_22 p0) k = s_recv_copied_1 cp n p0 (fun v14 v15 => X cp n c (fr_recv_copied_2 p0 v14 v15) k) from by kernel_rfl)) i_recv_copied_5).trans (congrArg (fun q => s_recv_copied_1 cp n p0 q) (funext fun v14 => funext fun v15 => (s_recv_copied_19_t cp n p0 v14 v15 k).trans (show s_recv_copied_19 cp n p0 v14 v15 (fun v25 => k .ret (fr_recv_copied_18 p0 v14 v15 v25)) = s_recv_copied_19 cp n p0 v14 v15 (fun v25 => k .ret (fr_recv_copied_20 (SRecv.mk p0.xNext v14 v25 p0.xCap p0.xShift p0.xEdge p0.xRecent p0.xStamps p0.xSacks p0.xFin p0.xDone v15 p0.xIrs p0.xOwn p0.xStamp))) from by kernel_rfl)))
theorem run_recv_copied {R : Type} (cp : Nat → Nat → Bool) (n : Nat) (p0 : SRecv) (k : Ret2 RW → Option R) : G_recv_copied cp (n + 1) p0 (fun r0 => k ⟨.agg (eRecvt r0), [], []⟩) = run2 U cp (callP cp n) n fn_recv_copied [.agg (eRecv p0)] [] k := ((X_run (f := fn_recv_copied) (av := [.agg (eRecv p0)]) (cells := []) (code := i_recv_copied_6) (fr := (fr_recv_copied_22 p0)) (k := k) (by kernel_rfl) (fun K => by kernel_rfl)).trans ((s_recv_copied_21_t cp n p0 (finK2 fn_recv_copied k)).trans (by kernel_rfl))).symm
/-! tideway/seq.Diff -/
theorem run_seq_Diff {R : Type} (cp : Nat → Nat → Bool) (n : Nat) (p0 p1 : Int) (k : Ret2 RW → Option R) : G_seq_Diff cp (n + 1) p0 p1 (fun r0 => k ⟨(tL r0), [], []⟩) = run2 U cp (callP cp n) n fn_seq_Diff [(tI .u32 p0), (tI .u32 p1)] [] k := by kernel_rfl
/-! tideway/seq.Sum -/
theorem run_seq_Sum {R : Type} (cp : Nat → Nat → Bool) (n : Nat) (p0 p1 : Int) (k : Ret2 RW → Option R) : G_seq_Sum cp (n + 1) p0 p1 (fun r0 => k ⟨(tL r0), [], []⟩) = run2 U cp (callP cp n) n fn_seq_Sum [(tL p0), (tL p1)] [] k := by kernel_rfl
/-! tideway/seq.Unwrap -/
theorem run_seq_Unwrap {R : Type} (cp : Nat → Nat → Bool) (n : Nat) (p0 p1 : Int) (k : Ret2 RW → Option R) : G_seq_Unwrap cp (n + 1) p0 p1 (fun r0 => k ⟨(tL r0), [], []⟩) = run2 U cp (callP cp n) n fn_seq_Unwrap [(tL p0), (tI .u32 p1)] [] k := by kernel_rfl
/-! tideway/seq.Add -/
theorem run_seq_Add {R : Type} (cp : Nat → Nat → Bool) (n : Nat) (p0 p1 : Int) (k : Ret2 RW → Option R) : G_seq_Add cp (n + 1) p0 p1 (fun r0 => k ⟨(tI .u32 r0), [], []⟩) = run2 U cp (callP cp n) n fn_seq_Add [(tI .u32 p0), (tL p1)] [] k := by kernel_rfl
/-! tideway/recv.tell -/
def fr_recv_tell_2 (p0 : SRecv) (v44 : Int) (v45 : SSegment) : FF := [dT 2 ((.ptr 82 0) :: (dT 1 ((.ptr 98 0) :: (.ptr 114 0) :: (dT 1 ((.ptr 130 0) :: (tL v44) :: (dT 7 [])))))), dc, dc, dc, dc, dT 2 ((.hdr 15) :: (sl 0 13 (eRecv p0))), sl 13 2 (eRecv p0) ++ [.hdr 15, (tL 0), .row true (.ruint8 []), .row true (.rPiece []), (tL 0), (tL 0), (tL 0), (tI .u32 0), (tB false), (tB false), (tL 0), (tB false), .row true (.rSpan []), (tI .u32 0)], [(tI .u32 0), (tB false), .hdr 15, (tL 0), (tL 0), (tI .u32 0), (tI .u32 0), (tL 0), (tL 0), (tL 0), (tL 0), (tL 0), (tB false), (tB false), (tI .u32 0), (tI .u32 0)], [.row true (.rBlock []), .row true (.ruint8 []), .hdr 15, (tL v45.xSrcPort), (tL v45.xDstPort), (tI .u32 v45.xSeq), (tI .u32 v45.xAck), (tL v45.xFlags), (tL v45.xWin), (tL v45.xUrg), (tL v45.xMss), (tL v45.xScale), (tB v45.xSackOk), (tB v45.xStamped), (tI .u32 v45.xVal), (tI .u32 v45.xEcr)], (.row true (.rBlock v45.xSacks)) :: (.row false (.ruint8 v45.xData)) :: (dT 14 [])]
def fr_recv_tell_4 (p0 : SRecv) (v44 : Int) (v45 : SSegment) (v46 : Int) : FF := [dT 2 ((.ptr 82 0) :: (dT 1 ((.ptr 98 0) :: (.ptr 114 0) :: (dT 1 ((.ptr 130 0) :: (tL v44) :: (dT 7 [])))))), dc, dT 7 ((.row false (.rSpan p0.xFirst)) :: (tL v46) :: (tL 0) :: (dT 6 [])), dc, dc, dT 2 ((.hdr 15) :: (sl 0 13 (eRecv p0))), sl 13 2 (eRecv p0) ++ [.hdr 15, (tL 0), .row true (.ruint8 []), .row true (.rPiece []), (tL 0), (tL 0), (tL 0), (tI .u32 0), (tB false), (tB false), (tL 0), (tB false), .row true (.rSpan []), (tI .u32 0)], [(tI .u32 0), (tB false), .hdr 15, (tL 0), (tL 0), (tI .u32 0), (tI .u32 0), (tL 0), (tL 0), (tL 0), (tL 0), (tL 0), (tB false), (tB false), (tI .u32 0), (tI .u32 0)], [.row true (.rBlock []), .row true (.ruint8 []), .hdr 15, (tL v45.xSrcPort), (tL v45.xDstPort), (tI .u32 v45.xSeq), (tI .u32 v45.xAck), (tL v45.xFlags), (tL v45.xWin), (tL v45.xUrg), (tL v45.xMss), (tL v45.xScale), (tB v45.xSackOk), (tB v45.xStamped), (tI .u32 v45.xVal), (tI .u32 v45.xEcr)], (.row true (.rBlock v45.xSacks)) :: (.row false (.ruint8 v45.xData)) :: (dT 14 [])]
def fr_recv_tell_6 (p0 : SRecv) (v44 : Int) (v45 : SSegment) (v46 v51 : Int) (v52 : (List SBlock)) : FF := [dT 2 ((.ptr 82 0) :: (dT 1 ((.ptr 98 0) :: (.ptr 114 0) :: (dT 1 ((.ptr 130 0) :: (tL v44) :: (dT 7 [])))))), dc, dT 7 ((.row false (.rSpan p0.xFirst)) :: (tL v46) :: (tL v51) :: (dT 6 [])), dc, dc, dT 2 ((.hdr 15) :: (sl 0 13 (eRecv p0))), sl 13 2 (eRecv p0) ++ [.hdr 15, (tL 0), .row true (.ruint8 []), .row true (.rPiece []), (tL 0), (tL 0), (tL 0), (tI .u32 0), (tB false), (tB false), (tL 0), (tB false), .row true (.rSpan []), (tI .u32 0)], [(tI .u32 0), (tB false), .hdr 15, (tL 0), (tL 0), (tI .u32 0), (tI .u32 0), (tL 0), (tL 0), (tL 0), (tL 0), (tL 0), (tB false), (tB false), (tI .u32 0), (tI .u32 0)], [.row true (.rBlock []), .row true (.ruint8 []), .hdr 15, (tL v45.xSrcPort), (tL v45.xDstPort), (tI .u32 v45.xSeq), (tI .u32 v45.xAck), (tL v45.xFlags), (tL v45.xWin), (tL v45.xUrg), (tL v45.xMss), (tL v45.xScale), (tB v45.xSackOk), (tB v45.xStamped), (tI .u32 v45.xVal), (tI .u32 v45.xEcr)], (.row true (.rBlock v52)) :: (.row false (.ruint8 v45.xData)) :: (dT 14 [])]
def fr_recv_tell_7 (p0 : SRecv) (v45 : SSegment) (v48 : (List SBlock)) : FF := [dT 2 ((.ptr 82 0) :: (dT 1 ((.ptr 98 0) :: (.ptr 114 0) :: (dT 1 ((.ptr 130 0) :: (dT 8 [])))))), dc, dc, dc, dc, dT 2 ((.hdr 15) :: (sl 0 13 (eRecv p0))), sl 13 2 (eRecv p0) ++ [.hdr 15, (tL 0), .row true (.ruint8 []), .row true (.rPiece []), (tL 0), (tL 0), (tL 0), (tI .u32 0), (tB false), (tB false), (tL 0), (tB false), .row true (.rSpan []), (tI .u32 0)], [(tI .u32 0), (tB false), .hdr 15, (tL 0), (tL 0), (tI .u32 0), (tI .u32 0), (tL 0), (tL 0), (tL 0), (tL 0), (tL 0), (tB false), (tB false), (tI .u32 0), (tI .u32 0)], [.row true (.rBlock []), .row true (.ruint8 []), .hdr 15, (tL v45.xSrcPort), (tL v45.xDstPort), (tI .u32 v45.xSeq), (tI .u32 v45.xAck), (tL v45.xFlags), (tL v45.xWin), (tL v45.xUrg), (tL v45.xMss), (tL v45.xScale), (tB v45.xSackOk), (tB v45.xStamped), (tI .u32 v45.xVal), (tI .u32 v45.xEcr)], (.row true (.rBlock v48)) :: (.row false (.ruint8 v45.xData)) :: (dT 14 [])]
def fr_recv_tell_8 (p0 : SRecv) (v44 : Int) (v45 : SSegment) (v46 v47 : Int) (v48 : (List SBlock)) : FF := [dT 2 ((.ptr 82 0) :: (dT 1 ((.ptr 98 0) :: (.ptr 114 0) :: (dT 1 ((.ptr 130 0) :: (tL v44) :: (dT 7 [])))))), dc, dT 7 ((.row false (.rSpan p0.xFirst)) :: (tL v46) :: (tL v47) :: (dT 6 [])), dc, dc, dT 2 ((.hdr 15) :: (sl 0 13 (eRecv p0))), sl 13 2 (eRecv p0) ++ [.hdr 15, (tL 0), .row true (.ruint8 []), .row true (.rPiece []), (tL 0), (tL 0), (tL 0), (tI .u32 0), (tB false), (tB false), (tL 0), (tB false), .row true (.rSpan []), (tI .u32 0)], [(tI .u32 0), (tB false), .hdr 15, (tL 0), (tL 0), (tI .u32 0), (tI .u32 0), (tL 0), (tL 0), (tL 0), (tL 0), (tL 0), (tB false), (tB false), (tI .u32 0), (tI .u32 0)], [.row true (.rBlock []), .row true (.ruint8 []), .hdr 15, (tL v45.xSrcPort), (tL v45.xDstPort), (tI .u32 v45.xSeq), (tI .u32 v45.xAck), (tL v45.xFlags), (tL v45.xWin), (tL v45.xUrg), (tL v45.xMss), (tL v45.xScale), (tB v45.xSackOk), (tB v45.xStamped), (tI .u32 v45.xVal), (tI .u32 v45.xEcr)], (.row true (.rBlock v48)) :: (.row false (.ruint8 v45.xData)) :: (dT 14 [])]
theorem s_recv_tell_5_t {R : Type} (cp : Nat → Nat → Bool) (n : Nat) (p0 : SRecv) (v44 : Int) (v45 : SSegment) (v46 v47 : Int) (v48 : (List SBlock)) (k : Ex → FF → Option R) : X cp n i_recv_tell_0 (fr_recv_tell_8 p0 v44 v45 v46 v47 v48) k = s_recv_tell_5 cp n p0 v44 v45 v46 v47 v48 (fun v51 v52 => k .norm (fr_recv_tell_6 p0 v44 v45 v46 v51 v52)) (k (.exit 0) (fr_recv_tell_7 p0 v45 v48)) := by kernel_rfl
def fr_recv_tell_9 (p0 : SRecv) (v45 : SSegment) (v53 : (List SBlock)) : FF := [dT 2 ((.ptr 82 0) :: (dT 1 ((.ptr 98 0) :: (.ptr 114 0) :: (dT 1 ((.ptr 130 0) :: (dT 8 [])))))), dc, dc, dc, dc, dT 2 ((.hdr 15) :: (sl 0 13 (eRecv p0))), sl 13 2 (eRecv p0) ++ [.hdr 15, (tL 0), .row true (.ruint8 []), .row true (.rPiece []), (tL 0), (tL 0), (tL 0), (tI .u32 0), (tB false), (tB false), (tL 0), (tB false), .row true (.rSpan []), (tI .u32 0)], [(tI .u32 0), (tB false), .hdr 15, (tL 0), (tL 0), (tI .u32 0), (tI .u32 0), (tL 0), (tL 0), (tL 0), (tL 0), (tL 0), (tB false), (tB false), (tI .u32 0), (tI .u32 0)], [.row true (.rBlock []), .row true (.ruint8 []), .hdr 15, (tL v45.xSrcPort), (tL v45.xDstPort), (tI .u32 v45.xSeq), (tI .u32 v45.xAck), (tL v45.xFlags), (tL v45.xWin), (tL v45.xUrg), (tL v45.xMss), (tL v45.xScale), (tB v45.xSackOk), (tB v45.xStamped), (tI .u32 v45.xVal), (tI .u32 v45.xEcr)], (.row true (.rBlock v53)) :: (.row false (.ruint8 v45.xData)) :: (dT 14 [])]
theorem l_recv_tell_10_t {R : Type} (cp : Nat → Nat → Bool) (n : Nat) : ∀ (m : Nat) (p0 : SRecv) (v44 : Int) (v45 : SSegment) (v46 v47 : Int) (v48 : (List SBlock)) (k : Ex → FF → Option R), loopN2 (X cp n i_recv_tell_0) m (fr_recv_tell_8 p0 v44 v45 v46 v47 v48) k = l_recv_tell_10 cp n m p0 v44 v45 v46 v47 v48 (fun v53 => k (.exit 0) (fr_recv_tell_9 p0 v45 v53))
  | 0, _, _, _, _, _, _, _ => rfl
  | m + 1, p0, v44, v45, v46, v47, v48, k => (loopN2_succ (X cp n i_recv_tell_0) m (fr_recv_tell_8 p0 v44 v45 v46 v47 v48) k).trans ((s_recv_tell_5_t cp n p0 v44 v45 v46 v47 v48 (loopT (X cp n i_recv_tell_0) m k)).trans ((show s_recv_tell_5 cp n p0 v44 v45 v46 v47 v48 (fun v51 v52 => loopT (X cp n i_recv_tell_0) m k .norm (fr_recv_tell_6 p0 v44 v45 v46 v51 v52)) (loopT (X cp n i_recv_tell_0) m k (.exit 0) (fr_recv_tell_7 p0 v45 v48)) = s_recv_tell_5 cp n p0 v44 v45 v46 v47 v48 (fun v51 v52 => loopN2 (X cp n i_recv_tell_0) m (fr_recv_tell_8 p0 v44 v45 v46 v51 v52) k) (k (.exit 0) (fr_recv_tell_9 p0 v45 v48)) from by kernel_rfl).trans (congrArg (fun q => s_recv_tell_5 cp n p0 v44 v45 v46 v47 v48 q (k (.exit 0) (fr_recv_tell_9 p0 v45 v48))) (funext fun v51 => funext fun v52 => l_recv_tell_10_t cp n m p0 v44 v45 v46 v51 v52 k))))
theorem s_recv_tell_11_t {R : Type} (cp : Nat → Nat → Bool) (n : Nat) (p0 : SRecv) (v44 : Int) (v45 : SSegment) (v46 : Int) (k : Ex → FF → Option R) : X cp n i_recv_tell_1 (fr_recv_tell_4 p0 v44 v45 v46) k = s_recv_tell_11 cp n p0 v44 v45 v46 (fun v53 => k (.exit 0) (fr_recv_tell_9 p0 v45 v53)) := (show X cp n i_recv_tell_1 (fr_recv_tell_4 p0 v44 v45 v46) k = loopN2 (X cp n i_recv_tell_0) n (fr_recv_tell_8 p0 v44 v45 v46 0 v45.xSacks) k from by kernel_rfl).trans (l_recv_tell_10_t cp n n p0 v44 v45 v46 0 v45.xSacks k)
def fr_recv_tell_12 (p0 : SRecv) (v45 : SSegment) (v54 : (List SBlock)) : FF := [dT 2 ((.ptr 82 0) :: (dT 1 ((.ptr 98 0) :: (.ptr 114 0) :: (dT 1 ((.ptr 130 0) :: (dT 8 [])))))), dc, dc, dc, dc, dT 2 ((.hdr 15) :: (sl 0 13 (eRecv p0))), sl 13 2 (eRecv p0) ++ [.hdr 15, (tL 0), .row true (.ruint8 []), .row true (.rPiece []), (tL 0), (tL 0), (tL 0), (tI .u32 0), (tB false), (tB false), (tL 0), (tB false), .row true (.rSpan []), (tI .u32 0)], [(tI .u32 0), (tB false), .hdr 15, (tL 0), (tL 0), (tI .u32 0), (tI .u32 0), (tL 0), (tL 0), (tL 0), (tL 0), (tL 0), (tB false), (tB false), (tI .u32 0), (tI .u32 0)], [.row true (.rBlock []), .row true (.ruint8 []), .hdr 15, (tL v45.xSrcPort), (tL v45.xDstPort), (tI .u32 v45.xSeq), (tI .u32 v45.xAck), (tL v45.xFlags), (tL v45.xWin), (tL v45.xUrg), (tL v45.xMss), (tL v45.xScale), (tB v45.xSackOk), (tB v45.xStamped), (tI .u32 v45.xVal), (tI .u32 v45.xEcr)], (.row true (.rBlock v54)) :: (.row false (.ruint8 v45.xData)) :: (dT 14 [])]
theorem s_recv_tell_13_t {R : Type} (cp : Nat → Nat → Bool) (n : Nat) (p0 : SRecv) (v44 : Int) (v45 : SSegment) (v46 : Int) (k : Ex → FF → Option R) : X cp n i_recv_tell_2 (fr_recv_tell_4 p0 v44 v45 v46) k = s_recv_tell_13 cp n p0 v44 v45 v46 (fun v54 => k .norm (fr_recv_tell_12 p0 v45 v54)) := (show X cp n i_recv_tell_2 (fr_recv_tell_4 p0 v44 v45 v46) k = X cp n i_recv_tell_1 (fr_recv_tell_4 p0 v44 v45 v46) (blkT 0 k) from by kernel_rfl).trans ((s_recv_tell_11_t cp n p0 v44 v45 v46 (blkT 0 k)).trans (by kernel_rfl))
def fr_recv_tell_14 (p0 : SRecv) (v45 : SSegment) (v55 : (List SBlock)) : FF := [dT 2 ((.ptr 82 0) :: (dT 1 ((.ptr 98 0) :: (.ptr 114 0) :: (dT 1 ((.ptr 130 0) :: (dT 8 [])))))), dc, dc, dc, dc, dT 2 ((.hdr 15) :: (sl 0 13 (eRecv p0))), sl 13 2 (eRecv p0) ++ [.hdr 15, (tL 0), .row true (.ruint8 []), .row true (.rPiece []), (tL 0), (tL 0), (tL 0), (tI .u32 0), (tB false), (tB false), (tL 0), (tB false), .row true (.rSpan []), (tI .u32 0)], [(tI .u32 0), (tB false), .hdr 15, (tL 0), (tL 0), (tI .u32 0), (tI .u32 0), (tL 0), (tL 0), (tL 0), (tL 0), (tL 0), (tB false), (tB false), (tI .u32 0), (tI .u32 0)], [.row true (.rBlock []), .row true (.ruint8 []), .hdr 15, (tL v45.xSrcPort), (tL v45.xDstPort), (tI .u32 v45.xSeq), (tI .u32 v45.xAck), (tL v45.xFlags), (tL v45.xWin), (tL v45.xUrg), (tL v45.xMss), (tL v45.xScale), (tB v45.xSackOk), (tB v45.xStamped), (tI .u32 v45.xVal), (tI .u32 v45.xEcr)], (.row true (.rBlock v55)) :: (.row false (.ruint8 v45.xData)) :: (dT 14 [])]
theorem s_recv_tell_15_t {R : Type} (cp : Nat → Nat → Bool) (n : Nat) (p0 : SRecv) (v44 : Int) (v45 : SSegment) (k : Ex → FF → Option R) : X cp n i_recv_tell_3 (fr_recv_tell_2 p0 v44 v45) k = s_recv_tell_15 cp n p0 v44 v45 (fun v55 => k .norm (fr_recv_tell_14 p0 v45 v55)) := ((fun c => (show X cp n (.seq (.fin (.reg g_recv_tell_9) [38] []) c) (fr_recv_tell_2 p0 v44 v45) k = s_recv_tell_3 cp n p0 v44 v45 (fun v46 => X cp n c (fr_recv_tell_4 p0 v44 v45 v46) k) from by kernel_rfl)) i_recv_tell_2).trans (congrArg (fun q => s_recv_tell_3 cp n p0 v44 v45 q) (funext fun v46 => (s_recv_tell_13_t cp n p0 v44 v45 v46 k).trans (show s_recv_tell_13 cp n p0 v44 v45 v46 (fun v54 => k .norm (fr_recv_tell_12 p0 v45 v54)) = s_recv_tell_13 cp n p0 v44 v45 v46 (fun v54 => k .norm (fr_recv_tell_14 p0 v45 v54)) from by kernel_rfl)))
def fr_recv_tell_17 (p0 : SRecv) (v45 : SSegment) (v55 : (List SBlock)) (v57 : Int) : FF := [dT 4 ((.ptr 98 0) :: (.ptr 114 0) :: (dT 10 [])), dc, dc, dc, dc, dc, dT 2 ([.hdr 15, (tL p0.xNext), .row false (.ruint8 p0.xUnread), .row false (.rPiece p0.xLate), (tL p0.xCap), (tL p0.xShift), (tL v57), (tI .u32 p0.xRecent), (tB p0.xStamps), (tB p0.xSacks), (tL p0.xFin), (tB p0.xDone), .row false (.rSpan p0.xFirst), (tI .u32 p0.xIrs)]), [(tI .u32 p0.xOwn), (tB p0.xStamp), .hdr 15, (tL v45.xSrcPort), (tL v45.xDstPort), (tI .u32 v45.xSeq), (tI .u32 v45.xAck), (tL v45.xFlags), (tL v45.xWin), (tL v45.xUrg), (tL v45.xMss), (tL v45.xScale), (tB v45.xSackOk), (tB v45.xStamped), (tI .u32 v45.xVal), (tI .u32 v45.xEcr)], (.row true (.rBlock v55)) :: (.row false (.ruint8 v45.xData)) :: (dT 14 []), dc]
theorem s_recv_tell_16_t {R : Type} (cp : Nat → Nat → Bool) (n : Nat) (p0 : SRecv) (v45 : SSegment) (v55 : (List SBlock)) (k : Ex → FF → Option R) : X cp n i_recv_tell_4 (fr_recv_tell_14 p0 v45 v55) k = s_recv_tell_16 cp n p0 v45 v55 (fun v57 => k .ret (fr_recv_tell_17 p0 v45 v55 v57)) := by kernel_rfl
def fr_recv_tell_18 (p0 : SRecv) (v45 : SSegment) (v58 : Int) (v59 : (List SBlock)) : FF := [dT 4 ((.ptr 98 0) :: (.ptr 114 0) :: (dT 10 [])), dc, dc, dc, dc, dc, dT 2 ([.hdr 15, (tL p0.xNext), .row false (.ruint8 p0.xUnread), .row false (.rPiece p0.xLate), (tL p0.xCap), (tL p0.xShift), (tL v58), (tI .u32 p0.xRecent), (tB p0.xStamps), (tB p0.xSacks), (tL p0.xFin), (tB p0.xDone), .row false (.rSpan p0.xFirst), (tI .u32 p0.xIrs)]), [(tI .u32 p0.xOwn), (tB p0.xStamp), .hdr 15, (tL v45.xSrcPort), (tL v45.xDstPort), (tI .u32 v45.xSeq), (tI .u32 v45.xAck), (tL v45.xFlags), (tL v45.xWin), (tL v45.xUrg), (tL v45.xMss), (tL v45.xScale), (tB v45.xSackOk), (tB v45.xStamped), (tI .u32 v45.xVal), (tI .u32 v45.xEcr)], (.row true (.rBlock v59)) :: (.row false (.ruint8 v45.xData)) :: (dT 14 []), dc]
theorem s_recv_tell_19_t {R : Type} (cp : Nat → Nat → Bool) (n : Nat) (p0 : SRecv) (v44 : Int) (v45 : SSegment) (k : Ex → FF → Option R) : X cp n i_recv_tell_5 (fr_recv_tell_2 p0 v44 v45) k = s_recv_tell_19 cp n p0 v44 v45 (fun v58 v59 => k .ret (fr_recv_tell_18 p0 v45 v58 v59)) := (show X cp n i_recv_tell_5 (fr_recv_tell_2 p0 v44 v45) k = X cp n i_recv_tell_3 (fr_recv_tell_2 p0 v44 v45) (seqT (X cp n) i_recv_tell_4 k) from by kernel_rfl).trans ((show X cp n i_recv_tell_3 (fr_recv_tell_2 p0 v44 v45) (seqT (X cp n) i_recv_tell_4 k) = s_recv_tell_15 cp n p0 v44 v45 (fun v55 => X cp n i_recv_tell_4 (fr_recv_tell_14 p0 v45 v55) k) from (s_recv_tell_15_t cp n p0 v44 v45 (seqT (X cp n) i_recv_tell_4 k)).trans (by kernel_rfl)).trans (congrArg (fun q => s_recv_tell_15 cp n p0 v44 v45 q) (funext fun v55 => (s_recv_tell_16_t cp n p0 v45 v55 k).trans (show s_recv_tell_16 cp n p0 v45 v55 (fun v57 => k .ret (fr_recv_tell_17 p0 v45 v55 v57)) = s_recv_tell_16 cp n p0 v45 v55 (fun v57 => k .ret (fr_recv_tell_18 p0 v45 v57 v55)) from by kernel_rfl))))
def fr_recv_tell_20 (p0 : SRecv) (v60 : Int) (v61 : SSegment) : FF := [dT 4 ((.ptr 98 0) :: (.ptr 114 0) :: (dT 10 [])), dc, dc, dc, dc, dc, dT 2 ([.hdr 15, (tL p0.xNext), .row false (.ruint8 p0.xUnread), .row false (.rPiece p0.xLate), (tL p0.xCap), (tL p0.xShift), (tL v60), (tI .u32 p0.xRecent), (tB p0.xStamps), (tB p0.xSacks), (tL p0.xFin), (tB p0.xDone), .row false (.rSpan p0.xFirst), (tI .u32 p0.xIrs)]), [(tI .u32 p0.xOwn), (tB p0.xStamp), .hdr 15, (tL v61.xSrcPort), (tL v61.xDstPort), (tI .u32 v61.xSeq), (tI .u32 v61.xAck), (tL v61.xFlags), (tL v61.xWin), (tL v61.xUrg), (tL v61.xMss), (tL v61.xScale), (tB v61.xSackOk), (tB v61.xStamped), (tI .u32 v61.xVal), (tI .u32 v61.xEcr)], (.row true (.rBlock v61.xSacks)) :: (.row false (.ruint8 v61.xData)) :: (dT 14 []), dc]
def fr_recv_tell_22 (p0 : SRecv) (p1 : (List SBlock)) : FF := [(.agg (eRecv p0)) :: (.row true (.rBlock p1)) :: (dT 14 []), dc, dc, dc, dc, dc, dc, dc, dc, dc]
theorem s_recv_tell_21_t {R : Type} (cp : Nat → Nat → Bool) (n : Nat) (p0 : SRecv) (p1 : (List SBlock)) (k : Ex → FF → Option R) : X cp n i_recv_tell_6 (fr_recv_tell_22 p0 p1) k = s_recv_tell_21 cp n p0 p1 (fun v60 v61 => k .ret (fr_recv_tell_20 p0 v60 v61)) := ((fun c => (show X cp n (.seq (.fin (.reg g_recv_tell_0) [0] []) (.seq (.fin (.reg g_recv_tell_1) [11, 12] []) (.seq (.seq (.fin (.reg g_recv_tell_2) [13] []) (.fin (.cond (.s 14) (.fin (.reg g_recv_tell_3) [14, 15, 16] []) (.skip)) [14] [])) (.seq (.fin (.reg g_recv_tell_4) [1, 6, 17, 18, 19, 20, 21, 22, 23, 24, 25, 26, 27, 28, 29] []) (.seq (.reg g_recv_tell_5) (.seq (.seq (.fin (.reg g_recv_tell_6) [30] []) (.fin (.cond (.s 31) (.seq (.fin (.reg g_recv_tell_7) [31, 32, 33, 34, 35] []) (.fin (.reg g_recv_tell_8) [36, 37] [])) (.skip)) [31] [])) c)))))) (fr_recv_tell_22 p0 p1) k = s_recv_tell_1 cp n p0 p1 (fun v44 v45 => X cp n c (fr_recv_tell_2 p0 v44 v45) k) from by kernel_rfl)) i_recv_tell_5).trans (congrArg (fun q => s_recv_tell_1 cp n p0 p1 q) (funext fun v44 => funext fun v45 => (s_recv_tell_19_t cp n p0 v44 v45 k).trans (show s_recv_tell_19 cp n p0 v44 v45 (fun v58 v59 => k .ret (fr_recv_tell_18 p0 v45 v58 v59)) = s_recv_tell_19 cp n p0 v44 v45 (fun v58 v59 => k .ret (fr_recv_tell_20 p0 v58 (SSegment.mk v45.xSrcPort v45.xDstPort v45.xSeq v45.xAck v45.xFlags v45.xWin v45.xUrg v45.xMss v45.xScale v45.xSackOk v45.xStamped v45.xVal v45.xEcr v59 v45.xData))) from by kernel_rfl)))
theorem run_recv_tell {R : Type} (cp : Nat → Nat → Bool) (n : Nat) (p0 : SRecv) (p1 : (List SBlock)) (k : Ret2 RW → Option R) : G_recv_tell cp (n + 1) p0 p1 (fun r0 r1 => k ⟨.tup [.agg (eRecv r0), .agg [(tL r1.xSrcPort), (tL r1.xDstPort), (tI .u32 r1.xSeq), (tI .u32 r1.xAck), (tL r1.xFlags), (tL r1.xWin), (tL r1.xUrg), (tL r1.xMss), (tL r1.xScale), (tB r1.xSackOk), (tB r1.xStamped), (tI .u32 r1.xVal), (tI .u32 r1.xEcr), .row true (.rBlock r1.xSacks), .row false (.ruint8 r1.xData)]], [], []⟩) = run2 U cp (callP cp n) n fn_recv_tell [.agg (eRecv p0), .row true (.rBlock p1)] [] k := ((X_run (f := fn_recv_tell) (av := [.agg (eRecv p0), .row true (.rBlock p1)]) (cells := []) (code := i_recv_tell_6) (fr := (fr_recv_tell_22 p0 p1)) (k := k) (by kernel_rfl) (fun K => by kernel_rfl)).trans ((s_recv_tell_21_t cp n p0 p1 (finK2 fn_recv_tell k)).trans (by kernel_rfl))).symm
/-! tideway/recv.end -/
def fr_recv_end_2 (p0 : SRecv) (p1 : Int) : FF := [dT 1 ((tL p1) :: (.ptr 32 0) :: (dT 2 ((.ptr 48 0) :: (dT 10 [])))), dc, (.hdr 15) :: (eRecv p0), (.hdr 1) :: (tL p0.xNext) :: (dT 14 []), dc]
def fr_recv_end_4 (p0 : SRecv) (p1 : Int) (v27 : SRecv) : FF := [dT 1 ((tL p1) :: (.ptr 32 0) :: (dT 2 ((.ptr 48 0) :: (dT 4 ((.clo 70 [(53, 0)]) :: (dT 5 [])))))), dc, (.hdr 15) :: (eRecv p0), (.hdr 1) :: (tL p0.xNext) :: (dT 3 ((.hdr 15) :: (sl 0 10 (eRecv v27)))), sl 10 5 (eRecv v27) ++ (dT 11 [])]
def fr_recv_end_6 (p1 : Int) : FF := [dT 1 ((tL p1) :: (.ptr 32 0) :: (dT 2 ((.ptr 48 0) :: (dT 4 ((.clo 70 [(53, 0)]) :: (dT 5 [])))))), dc, dc, dc, dc]
def y_recv_end_5 {R : Type} (cp : Nat → Nat → Bool) (n : Nat) (p1 : Int) : List (TV RW) → FF → (FF → Option R) → Option R := rndT 2 [11] [32, 48, 53, 69] (fr_recv_end_6 p1) (X cp n i_recv_end_2)
def fr_recv_end_8 (p0 : SRecv) (p1 : Int) (v27 : SRecv) (v28 : Int) : FF := [.yld :: (dT 5 ((.row false (.rPiece v27.xLate)) :: (tL v28) :: (tL 0) :: (dT 7 []))), dc, (.hdr 15) :: (eRecv p0), (.hdr 1) :: (tL p0.xNext) :: (dT 3 ((.hdr 15) :: (sl 0 10 (eRecv v27)))), sl 10 5 (eRecv v27) ++ (dT 11 [])]
def fr_recv_end_10 (p0 : SRecv) (p1 : Int) (v27 : SRecv) (v28 v29 v30 : Int) : FF := [.yld :: (dT 5 ((.row false (.rPiece v27.xLate)) :: (tL v28) :: (tL v29) :: (dT 7 []))), dc, (.hdr 15) :: (eRecv p0), (.hdr 1) :: (tL v30) :: (dT 3 ((.hdr 15) :: (sl 0 10 (eRecv v27)))), sl 10 5 (eRecv v27) ++ (dT 11 [])]
def fr_recv_end_11 (p0 : SRecv) (p1 : Int) (v27 : SRecv) (v30 : Int) : FF := [dc, dc, (.hdr 15) :: (eRecv p0), (.hdr 1) :: (tL v30) :: (dT 3 ((.hdr 15) :: (sl 0 10 (eRecv v27)))), sl 10 5 (eRecv v27) ++ (dT 11 [])]
def fr_recv_end_13 (p0 : SRecv) (p1 : Int) (v27 : SRecv) (v28 v29 v30 v31 : Int) (v32 : (List Int)) : FF := [.yld :: (dT 3 ((.ptr 69 0) :: (dT 1 ((.row false (.rPiece v27.xLate)) :: (tL v28) :: (tL v29) :: (dT 7 []))))), dc, (.hdr 15) :: (eRecv p0), (.hdr 1) :: (tL v30) :: (dT 3 ((.hdr 15) :: (sl 0 10 (eRecv v27)))), sl 10 5 (eRecv v27) ++ ((.hdr 2) :: (tL v31) :: (.row false (.ruint8 v32)) :: (dT 8 []))]
def fr_recv_end_15 (p0 : SRecv) (p1 : Int) (v27 : SRecv) (v28 v29 v30 v31 : Int) (v32 : (List Int)) (v34 v35 : Int) : FF := [.yld :: (dT 3 ((.ptr 69 0) :: (dT 1 ((.row false (.rPiece v27.xLate)) :: (tL v28) :: (tL v29) :: (dT 3 (.yld :: (.agg [(tL v31), .row false (.ruint8 v32)]) :: (.agg [(tL v34), (tL v35)]) :: (dT 1 []))))))), dc, (.hdr 15) :: (eRecv p0), (.hdr 1) :: (tL v30) :: (dT 3 ((.hdr 15) :: (sl 0 10 (eRecv v27)))), sl 10 5 (eRecv v27) ++ ((.hdr 2) :: (tL v31) :: (.row false (.ruint8 v32)) :: (dT 8 []))]
theorem s_recv_end_14_t {R : Type} (cp : Nat → Nat → Bool) (n : Nat) (p0 : SRecv) (p1 : Int) (v27 : SRecv) (v28 v29 v30 v31 : Int) (v32 : (List Int)) (A B : FF → Option R) : (gF (fr_recv_end_13 p0 p1 v27 v28 v29 v30 v31 v32) fun l => steps2 U cp (callP cp n) g_recv_end_10031 l fun l1 => yGuard2 none l1 (A l1) (B l1)) = s_recv_end_14 cp n p0 p1 v27 v28 v29 v30 v31 v32 (fun v34 v35 => A (fr_recv_end_15 p0 p1 v27 v28 v29 v30 v31 v32 v34 v35)) := by kernel_rfl
def fr_recv_end_17 (p0 : SRecv) (p1 : Int) (v27 : SRecv) (v31 : Int) (v32 : (List Int)) (v35 : Int) : FF := [dT 1 ((tL p1) :: (.ptr 32 0) :: (dT 2 ((.ptr 48 0) :: (dT 4 ((.clo 70 [(53, 0)]) :: (dT 5 [])))))), dc, (.hdr 15) :: (eRecv p0), (.hdr 1) :: (tL v35) :: (dT 3 ((.hdr 15) :: (sl 0 10 (eRecv v27)))), sl 10 5 (eRecv v27) ++ ((.hdr 2) :: (tL v31) :: (.row false (.ruint8 v32)) :: (dT 8 []))]
def fr_recv_end_18 (p0 : SRecv) (p1 : Int) (v27 : SRecv) (v30 v31 : Int) (v32 : (List Int)) (v34 v35 : Int) : FF := [dT 1 ((tL p1) :: (.ptr 32 0) :: (dT 2 ((.ptr 48 0) :: (dT 4 ((.clo 70 [(53, 0)]) :: (.agg [(tL v34), (tL v35)]) :: (dT 4 [])))))), dc, (.hdr 15) :: (eRecv p0), (.hdr 1) :: (tL v30) :: (dT 3 ((.hdr 15) :: (sl 0 10 (eRecv v27)))), sl 10 5 (eRecv v27) ++ ((.hdr 2) :: (tL v31) :: (.row false (.ruint8 v32)) :: (dT 8 []))]
theorem s_recv_end_16_t {R : Type} (cp : Nat → Nat → Bool) (n : Nat) (p0 : SRecv) (p1 : Int) (v27 : SRecv) (v30 v31 : Int) (v32 : (List Int)) (v34 v35 : Int) (k : Ex → FF → Option R) : X cp n i_recv_end_2 (fr_recv_end_18 p0 p1 v27 v30 v31 v32 v34 v35) k = s_recv_end_16 cp n p0 p1 v27 v30 v31 v32 v34 v35 (k .norm (fr_recv_end_17 p0 p1 v27 v31 v32 v35)) := by kernel_rfl
def fr_recv_end_20 (p0 : SRecv) (p1 : Int) (v27 : SRecv) (v28 v29 v31 : Int) (v32 : (List Int)) (v34 v35 : Int) : FF := [.yld :: (dT 3 ((.ptr 69 0) :: (dT 1 ((.row false (.rPiece v27.xLate)) :: (tL v28) :: (tL v29) :: (dT 3 ([.yld, .agg [(tL v31), .row false (.ruint8 v32)], .agg [(tL v34), (tL v35)], (tB true)])))))), dc, (.hdr 15) :: (eRecv p0), (.hdr 1) :: (tL v35) :: (dT 3 ((.hdr 15) :: (sl 0 10 (eRecv v27)))), sl 10 5 (eRecv v27) ++ ((.hdr 2) :: (tL v31) :: (.row false (.ruint8 v32)) :: (dT 8 []))]
theorem q_recv_end_19_t {R : Type} (cp : Nat → Nat → Bool) (n : Nat) (p0 : SRecv) (p1 : Int) (v27 : SRecv) (v28 v29 v30 v31 : Int) (v32 : (List Int)) (v34 v35 : Int) (K : FF → Option R) : yRun2 (y_recv_end_5 cp n p1) (.s 12) [.s 14] 15 (fr_recv_end_15 p0 p1 v27 v28 v29 v30 v31 v32 v34 v35) K = s_recv_end_16 cp n p0 p1 v27 v30 v31 v32 v34 v35 (K (fr_recv_end_20 p0 p1 v27 v28 v29 v31 v32 v34 v35)) := ((fun x => (show yRun2 (rndT 2 [11] [32, 48, 53, 69] (fr_recv_end_6 p1) x) (.s 12) [.s 14] 15 (fr_recv_end_15 p0 p1 v27 v28 v29 v30 v31 v32 v34 v35) K = x (fr_recv_end_18 p0 p1 v27 v30 v31 v32 v34 v35) (roundT 2 (fr_recv_end_15 p0 p1 v27 v28 v29 v30 v31 v32 v34 v35) (fun l2 => putO l2 (some 15) (.sc (.bool true)) K)) from by kernel_rfl)) (X cp n i_recv_end_2)).trans ((s_recv_end_16_t cp n p0 p1 v27 v30 v31 v32 v34 v35 (roundT 2 (fr_recv_end_15 p0 p1 v27 v28 v29 v30 v31 v32 v34 v35) (fun l2 => putO l2 (some 15) (.sc (.bool true)) K))).trans (by kernel_rfl))
def fr_recv_end_21 (p0 : SRecv) (p1 : Int) (v27 : SRecv) (v28 v29 v36 : Int) : FF := [.yld :: (dT 5 ((.row false (.rPiece v27.xLate)) :: (tL v28) :: (tL v29) :: (dT 7 []))), (tB false) :: (dT 15 []), (.hdr 15) :: (eRecv p0), (.hdr 1) :: (tL v36) :: (dT 3 ((.hdr 15) :: (sl 0 10 (eRecv v27)))), sl 10 5 (eRecv v27) ++ (dT 11 [])]
theorem s_recv_end_22_t {R : Type} (cp : Nat → Nat → Bool) (n : Nat) (p0 : SRecv) (p1 : Int) (v27 : SRecv) (v28 v29 v30 v31 : Int) (v32 : (List Int)) (k : Ex → FF → Option R) : XI cp n (y_recv_end_5 cp n p1) i_recv_end_4 (fr_recv_end_13 p0 p1 v27 v28 v29 v30 v31 v32) k = s_recv_end_22 cp n p0 p1 v27 v28 v29 v30 v31 v32 (fun v36 => k .norm (fr_recv_end_21 p0 p1 v27 v28 v29 v36)) := (show XI cp n (y_recv_end_5 cp n p1) i_recv_end_4 (fr_recv_end_13 p0 p1 v27 v28 v29 v30 v31 v32) k = gF (fr_recv_end_13 p0 p1 v27 v28 v29 v30 v31 v32) fun l => steps2 U cp (callP cp n) g_recv_end_10031 l fun l1 => yGuard2 none l1 ((fun l1 => yRun2 (y_recv_end_5 cp n p1) (.s 12) [.s 14] 15 l1 (fun l2 => steps2 U cp (callP cp n) g_recv_end_10032 l2 ((clrT [4, 12, 13, 14, 15] [(69, 2)] k) .norm))) l1) ((fun l1 => putO l1 (some 15) (.tup []) fun l2 => steps2 U cp (callP cp n) g_recv_end_10032 l2 ((clrT [4, 12, 13, 14, 15] [(69, 2)] k) .norm)) l1) from by kernel_rfl).trans ((s_recv_end_14_t cp n p0 p1 v27 v28 v29 v30 v31 v32 (fun l1 => yRun2 (y_recv_end_5 cp n p1) (.s 12) [.s 14] 15 l1 (fun l2 => steps2 U cp (callP cp n) g_recv_end_10032 l2 ((clrT [4, 12, 13, 14, 15] [(69, 2)] k) .norm))) (fun l1 => putO l1 (some 15) (.tup []) fun l2 => steps2 U cp (callP cp n) g_recv_end_10032 l2 ((clrT [4, 12, 13, 14, 15] [(69, 2)] k) .norm))).trans (congrArg (s_recv_end_14 cp n p0 p1 v27 v28 v29 v30 v31 v32) (funext fun v34 => funext fun v35 => (q_recv_end_19_t cp n p0 p1 v27 v28 v29 v30 v31 v32 v34 v35 (fun l2 => steps2 U cp (callP cp n) g_recv_end_10032 l2 ((clrT [4, 12, 13, 14, 15] [(69, 2)] k) .norm))).trans (show s_recv_end_16 cp n p0 p1 v27 v30 v31 v32 v34 v35 ((fun l2 => steps2 U cp (callP cp n) g_recv_end_10032 l2 ((clrT [4, 12, 13, 14, 15] [(69, 2)] k) .norm)) (fr_recv_end_20 p0 p1 v27 v28 v29 v31 v32 v34 v35)) = s_recv_end_16 cp n p0 p1 v27 v30 v31 v32 v34 v35 (k .norm (fr_recv_end_21 p0 p1 v27 v28 v29 v35)) from by kernel_rfl))))
def fr_recv_end_24 (p0 : SRecv) (p1 : Int) (v27 : SRecv) (v28 v29 v36 : Int) : FF := [.yld :: (dT 5 ((.row false (.rPiece v27.xLate)) :: (tL v28) :: (tL v29) :: (dT 7 []))), dc, (.hdr 15) :: (eRecv p0), (.hdr 1) :: (tL v36) :: (dT 3 ((.hdr 15) :: (sl 0 10 (eRecv v27)))), sl 10 5 (eRecv v27) ++ (dT 11 [])]
theorem s_recv_end_23_t {R : Type} (cp : Nat → Nat → Bool) (n : Nat) (p0 : SRecv) (p1 : Int) (v27 : SRecv) (v28 v29 v36 : Int) (k : Ex → FF → Option R) : XI cp n (y_recv_end_5 cp n p1) i_recv_end_5 (fr_recv_end_21 p0 p1 v27 v28 v29 v36) k = s_recv_end_23 cp n p0 p1 v27 v28 v29 v36 (k .norm (fr_recv_end_24 p0 p1 v27 v28 v29 v36)) := by kernel_rfl
def fr_recv_end_25 (p0 : SRecv) (p1 : Int) (v27 : SRecv) (v28 v29 v37 : Int) : FF := [.yld :: (dT 5 ((.row false (.rPiece v27.xLate)) :: (tL v28) :: (tL v29) :: (dT 7 []))), dc, (.hdr 15) :: (eRecv p0), (.hdr 1) :: (tL v37) :: (dT 3 ((.hdr 15) :: (sl 0 10 (eRecv v27)))), sl 10 5 (eRecv v27) ++ (dT 11 [])]
theorem s_recv_end_26_t {R : Type} (cp : Nat → Nat → Bool) (n : Nat) (p0 : SRecv) (p1 : Int) (v27 : SRecv) (v28 v29 v30 v31 : Int) (v32 : (List Int)) (k : Ex → FF → Option R) : XI cp n (y_recv_end_5 cp n p1) i_recv_end_6 (fr_recv_end_13 p0 p1 v27 v28 v29 v30 v31 v32) k = s_recv_end_26 cp n p0 p1 v27 v28 v29 v30 v31 v32 (fun v37 => k .norm (fr_recv_end_25 p0 p1 v27 v28 v29 v37)) := (show XI cp n (y_recv_end_5 cp n p1) i_recv_end_6 (fr_recv_end_13 p0 p1 v27 v28 v29 v30 v31 v32) k = XI cp n (y_recv_end_5 cp n p1) i_recv_end_4 (fr_recv_end_13 p0 p1 v27 v28 v29 v30 v31 v32) (seqT (XI cp n (y_recv_end_5 cp n p1)) i_recv_end_5 k) from by kernel_rfl).trans ((show XI cp n (y_recv_end_5 cp n p1) i_recv_end_4 (fr_recv_end_13 p0 p1 v27 v28 v29 v30 v31 v32) (seqT (XI cp n (y_recv_end_5 cp n p1)) i_recv_end_5 k) = s_recv_end_22 cp n p0 p1 v27 v28 v29 v30 v31 v32 (fun v36 => XI cp n (y_recv_end_5 cp n p1) i_recv_end_5 (fr_recv_end_21 p0 p1 v27 v28 v29 v36) k) from (s_recv_end_22_t cp n p0 p1 v27 v28 v29 v30 v31 v32 (seqT (XI cp n (y_recv_end_5 cp n p1)) i_recv_end_5 k)).trans (by kernel_rfl)).trans (congrArg (fun q => s_recv_end_22 cp n p0 p1 v27 v28 v29 v30 v31 v32 q) (funext fun v36 => (s_recv_end_23_t cp n p0 p1 v27 v28 v29 v36 k).trans (show s_recv_end_23 cp n p0 p1 v27 v28 v29 v36 (k .norm (fr_recv_end_24 p0 p1 v27 v28 v29 v36)) = s_recv_end_23 cp n p0 p1 v27 v28 v29 v36 (k .norm (fr_recv_end_25 p0 p1 v27 v28 v29 v36)) from by kernel_rfl))))
def fr_recv_end_27 (p0 : SRecv) (p1 : Int) (v27 : SRecv) (v28 v29 v38 : Int) : FF := [.yld :: (dT 5 ((.row false (.rPiece v27.xLate)) :: (tL v28) :: (tL v29) :: (dT 7 []))), dc, (.hdr 15) :: (eRecv p0), (.hdr 1) :: (tL v38) :: (dT 3 ((.hdr 15) :: (sl 0 10 (eRecv v27)))), sl 10 5 (eRecv v27) ++ (dT 11 [])]
theorem s_recv_end_28_t {R : Type} (cp : Nat → Nat → Bool) (n : Nat) (p0 : SRecv) (p1 : Int) (v27 : SRecv) (v28 v29 v30 : Int) (k : Ex → FF → Option R) : XI cp n (y_recv_end_5 cp n p1) i_recv_end_7 (fr_recv_end_10 p0 p1 v27 v28 v29 v30) k = s_recv_end_28 cp n p0 p1 v27 v28 v29 v30 (fun v38 => k .norm (fr_recv_end_27 p0 p1 v27 v28 v29 v38)) := ((fun c => (show XI cp n (y_recv_end_5 cp n p1) (.seq (.fin (.reg g_recv_end_1002) [10, 11] []) c) (fr_recv_end_10 p0 p1 v27 v28 v29 v30) k = s_recv_end_12 cp n p0 p1 v27 v28 v29 v30 (fun v31 v32 => XI cp n (y_recv_end_5 cp n p1) c (fr_recv_end_13 p0 p1 v27 v28 v29 v30 v31 v32) k) from by kernel_rfl)) i_recv_end_6).trans (congrArg (fun q => s_recv_end_12 cp n p0 p1 v27 v28 v29 v30 q) (funext fun v31 => funext fun v32 => (s_recv_end_26_t cp n p0 p1 v27 v28 v29 v30 v31 v32 k).trans (show s_recv_end_26 cp n p0 p1 v27 v28 v29 v30 v31 v32 (fun v37 => k .norm (fr_recv_end_25 p0 p1 v27 v28 v29 v37)) = s_recv_end_26 cp n p0 p1 v27 v28 v29 v30 v31 v32 (fun v37 => k .norm (fr_recv_end_27 p0 p1 v27 v28 v29 v37)) from by kernel_rfl)))
def fr_recv_end_29 (p0 : SRecv) (p1 : Int) (v27 : SRecv) (v28 v29 v39 : Int) : FF := [.yld :: (dT 5 ((.row false (.rPiece v27.xLate)) :: (tL v28) :: (tL v29) :: (dT 7 []))), dc, (.hdr 15) :: (eRecv p0), (.hdr 1) :: (tL v39) :: (dT 3 ((.hdr 15) :: (sl 0 10 (eRecv v27)))), sl 10 5 (eRecv v27) ++ (dT 11 [])]
theorem s_recv_end_30_t {R : Type} (cp : Nat → Nat → Bool) (n : Nat) (p0 : SRecv) (p1 : Int) (v27 : SRecv) (v28 v29 v30 : Int) (k : Ex → FF → Option R) : XI cp n (y_recv_end_5 cp n p1) i_recv_end_8 (fr_recv_end_10 p0 p1 v27 v28 v29 v30) k = s_recv_end_30 cp n p0 p1 v27 v28 v29 v30 (fun v39 => k .norm (fr_recv_end_29 p0 p1 v27 v28 v29 v39)) := (show XI cp n (y_recv_end_5 cp n p1) i_recv_end_8 (fr_recv_end_10 p0 p1 v27 v28 v29 v30) k = XI cp n (y_recv_end_5 cp n p1) i_recv_end_7 (fr_recv_end_10 p0 p1 v27 v28 v29 v30) (blkT 1 k) from by kernel_rfl).trans ((s_recv_end_28_t cp n p0 p1 v27 v28 v29 v30 (blkT 1 k)).trans (by kernel_rfl))
def fr_recv_end_32 (p0 : SRecv) (p1 : Int) (v27 : SRecv) (v28 v39 v40 : Int) : FF := [.yld :: (dT 5 ((.row false (.rPiece v27.xLate)) :: (tL v28) :: (tL v40) :: (dT 7 []))), dc, (.hdr 15) :: (eRecv p0), (.hdr 1) :: (tL v39) :: (dT 3 ((.hdr 15) :: (sl 0 10 (eRecv v27)))), sl 10 5 (eRecv v27) ++ (dT 11 [])]
theorem s_recv_end_31_t {R : Type} (cp : Nat → Nat → Bool) (n : Nat) (p0 : SRecv) (p1 : Int) (v27 : SRecv) (v28 v29 v39 : Int) (k : Ex → FF → Option R) : XI cp n (y_recv_end_5 cp n p1) i_recv_end_9 (fr_recv_end_29 p0 p1 v27 v28 v29 v39) k = s_recv_end_31 cp n p0 p1 v27 v28 v29 v39 (fun v40 => k .norm (fr_recv_end_32 p0 p1 v27 v28 v39 v40)) := by kernel_rfl
def fr_recv_end_33 (p0 : SRecv) (p1 : Int) (v27 : SRecv) (v28 v41 v42 : Int) : FF := [.yld :: (dT 5 ((.row false (.rPiece v27.xLate)) :: (tL v28) :: (tL v41) :: (dT 7 []))), dc, (.hdr 15) :: (eRecv p0), (.hdr 1) :: (tL v42) :: (dT 3 ((.hdr 15) :: (sl 0 10 (eRecv v27)))), sl 10 5 (eRecv v27) ++ (dT 11 [])]
theorem s_recv_end_34_t {R : Type} (cp : Nat → Nat → Bool) (n : Nat) (p0 : SRecv) (p1 : Int) (v27 : SRecv) (v28 v29 v30 : Int) (k : Ex → FF → Option R) : XI cp n (y_recv_end_5 cp n p1) i_recv_end_10 (fr_recv_end_10 p0 p1 v27 v28 v29 v30) k = s_recv_end_34 cp n p0 p1 v27 v28 v29 v30 (fun v41 v42 => k .norm (fr_recv_end_33 p0 p1 v27 v28 v41 v42)) := (show XI cp n (y_recv_end_5 cp n p1) i_recv_end_10 (fr_recv_end_10 p0 p1 v27 v28 v29 v30) k = XI cp n (y_recv_end_5 cp n p1) i_recv_end_8 (fr_recv_end_10 p0 p1 v27 v28 v29 v30) (seqT (XI cp n (y_recv_end_5 cp n p1)) i_recv_end_9 k) from by kernel_rfl).trans ((show XI cp n (y_recv_end_5 cp n p1) i_recv_end_8 (fr_recv_end_10 p0 p1 v27 v28 v29 v30) (seqT (XI cp n (y_recv_end_5 cp n p1)) i_recv_end_9 k) = s_recv_end_30 cp n p0 p1 v27 v28 v29 v30 (fun v39 => XI cp n (y_recv_end_5 cp n p1) i_recv_end_9 (fr_recv_end_29 p0 p1 v27 v28 v29 v39) k) from (s_recv_end_30_t cp n p0 p1 v27 v28 v29 v30 (seqT (XI cp n (y_recv_end_5 cp n p1)) i_recv_end_9 k)).trans (by kernel_rfl)).trans (congrArg (fun q => s_recv_end_30 cp n p0 p1 v27 v28 v29 v30 q) (funext fun v39 => (s_recv_end_31_t cp n p0 p1 v27 v28 v29 v39 k).trans (show s_recv_end_31 cp n p0 p1 v27 v28 v29 v39 (fun v40 => k .norm (fr_recv_end_32 p0 p1 v27 v28 v39 v40)) = s_recv_end_31 cp n p0 p1 v27 v28 v29 v39 (fun v40 => k .norm (fr_recv_end_33 p0 p1 v27 v28 v40 v39)) from by kernel_rfl))))
def fr_recv_end_35 (p0 : SRecv) (p1 : Int) (v27 : SRecv) (v28 v43 v44 : Int) : FF := [.yld :: (dT 5 ((.row false (.rPiece v27.xLate)) :: (tL v28) :: (tL v43) :: (dT 7 []))), dc, (.hdr 15) :: (eRecv p0), (.hdr 1) :: (tL v44) :: (dT 3 ((.hdr 15) :: (sl 0 10 (eRecv v27)))), sl 10 5 (eRecv v27) ++ (dT 11 [])]
theorem s_recv_end_36_t {R : Type} (cp : Nat → Nat → Bool) (n : Nat) (p0 : SRecv) (p1 : Int) (v27 : SRecv) (v28 v29 v30 : Int) (k : Ex → FF → Option R) : XI cp n (y_recv_end_5 cp n p1) i_recv_end_11 (fr_recv_end_10 p0 p1 v27 v28 v29 v30) k = s_recv_end_36 cp n p0 p1 v27 v28 v29 v30 (fun v43 v44 => k .norm (fr_recv_end_35 p0 p1 v27 v28 v43 v44)) (k (.exit 0) (fr_recv_end_11 p0 p1 v27 v30)) := ((fun c => (show XI cp n (y_recv_end_5 cp n p1) (.seq (.reg g_recv_end_1001) (.seq (.fin (.cond (.s 9) (.skip) (.clr [0, 6, 7, 8, 9] [] (.exit 0))) [9] []) c)) (fr_recv_end_10 p0 p1 v27 v28 v29 v30) k = s_recv_end_9 cp n p0 p1 v27 v28 v29 v30 (XI cp n (y_recv_end_5 cp n p1) c (fr_recv_end_10 p0 p1 v27 v28 v29 v30) k) (k (.exit 0) (fr_recv_end_11 p0 p1 v27 v30)) from by kernel_rfl)) i_recv_end_10).trans (congrArg (fun q => s_recv_end_9 cp n p0 p1 v27 v28 v29 v30 q (k (.exit 0) (fr_recv_end_11 p0 p1 v27 v30))) ((s_recv_end_34_t cp n p0 p1 v27 v28 v29 v30 k).trans (show s_recv_end_34 cp n p0 p1 v27 v28 v29 v30 (fun v41 v42 => k .norm (fr_recv_end_33 p0 p1 v27 v28 v41 v42)) = s_recv_end_34 cp n p0 p1 v27 v28 v29 v30 (fun v41 v42 => k .norm (fr_recv_end_35 p0 p1 v27 v28 v41 v42)) from by kernel_rfl)))
def fr_recv_end_37 (p0 : SRecv) (p1 : Int) (v27 : SRecv) (v45 : Int) : FF := [dc, dc, (.hdr 15) :: (eRecv p0), (.hdr 1) :: (tL v45) :: (dT 3 ((.hdr 15) :: (sl 0 10 (eRecv v27)))), sl 10 5 (eRecv v27) ++ (dT 11 [])]
theorem l_recv_end_38_t {R : Type} (cp : Nat → Nat → Bool) (n : Nat) : ∀ (m : Nat) (p0 : SRecv) (p1 : Int) (v27 : SRecv) (v28 v29 v30 : Int) (k : Ex → FF → Option R), loopN2 (XI cp n (y_recv_end_5 cp n p1) i_recv_end_11) m (fr_recv_end_10 p0 p1 v27 v28 v29 v30) k = l_recv_end_38 cp n m p0 p1 v27 v28 v29 v30 (fun v45 => k (.exit 0) (fr_recv_end_37 p0 p1 v27 v45))
  | 0, _, _, _, _, _, _, _ => rfl
  | m + 1, p0, p1, v27, v28, v29, v30, k => (loopN2_succ (XI cp n (y_recv_end_5 cp n p1) i_recv_end_11) m (fr_recv_end_10 p0 p1 v27 v28 v29 v30) k).trans ((s_recv_end_36_t cp n p0 p1 v27 v28 v29 v30 (loopT (XI cp n (y_recv_end_5 cp n p1) i_recv_end_11) m k)).trans ((show s_recv_end_36 cp n p0 p1 v27 v28 v29 v30 (fun v43 v44 => loopT (XI cp n (y_recv_end_5 cp n p1) i_recv_end_11) m k .norm (fr_recv_end_35 p0 p1 v27 v28 v43 v44)) (loopT (XI cp n (y_recv_end_5 cp n p1) i_recv_end_11) m k (.exit 0) (fr_recv_end_11 p0 p1 v27 v30)) = s_recv_end_36 cp n p0 p1 v27 v28 v29 v30 (fun v43 v44 => loopN2 (XI cp n (y_recv_end_5 cp n p1) i_recv_end_11) m (fr_recv_end_10 p0 p1 v27 v28 v43 v44) k) (k (.exit 0) (fr_recv_end_37 p0 p1 v27 v30)) from by kernel_rfl).trans (congrArg (fun q => s_recv_end_36 cp n p0 p1 v27 v28 v29 v30 q (k (.exit 0) (fr_recv_end_37 p0 p1 v27 v30))) (funext fun v43 => funext fun v44 => l_recv_end_38_t cp n m p0 p1 v27 v28 v43 v44 k))))
theorem s_recv_end_39_t {R : Type} (cp : Nat → Nat → Bool) (n : Nat) (p0 : SRecv) (p1 : Int) (v27 : SRecv) (v28 : Int) (k : Ex → FF → Option R) : XI cp n (y_recv_end_5 cp n p1) i_recv_end_12 (fr_recv_end_8 p0 p1 v27 v28) k = s_recv_end_39 cp n p0 p1 v27 v28 (fun v45 => k (.exit 0) (fr_recv_end_37 p0 p1 v27 v45)) := (show XI cp n (y_recv_end_5 cp n p1) i_recv_end_12 (fr_recv_end_8 p0 p1 v27 v28) k = loopN2 (XI cp n (y_recv_end_5 cp n p1) i_recv_end_11) n (fr_recv_end_10 p0 p1 v27 v28 0 p0.xNext) k from by kernel_rfl).trans (l_recv_end_38_t cp n n p0 p1 v27 v28 0 p0.xNext k)
def fr_recv_end_40 (p0 : SRecv) (p1 : Int) (v27 : SRecv) (v46 : Int) : FF := [dc, dc, (.hdr 15) :: (eRecv p0), (.hdr 1) :: (tL v46) :: (dT 3 ((.hdr 15) :: (sl 0 10 (eRecv v27)))), sl 10 5 (eRecv v27) ++ (dT 11 [])]
theorem s_recv_end_41_t {R : Type} (cp : Nat → Nat → Bool) (n : Nat) (p0 : SRecv) (p1 : Int) (v27 : SRecv) (v28 : Int) (k : Ex → FF → Option R) : XI cp n (y_recv_end_5 cp n p1) i_recv_end_13 (fr_recv_end_8 p0 p1 v27 v28) k = s_recv_end_41 cp n p0 p1 v27 v28 (fun v46 => k .norm (fr_recv_end_40 p0 p1 v27 v46)) := (show XI cp n (y_recv_end_5 cp n p1) i_recv_end_13 (fr_recv_end_8 p0 p1 v27 v28) k = XI cp n (y_recv_end_5 cp n p1) i_recv_end_12 (fr_recv_end_8 p0 p1 v27 v28) (blkT 0 k) from by kernel_rfl).trans ((s_recv_end_39_t cp n p0 p1 v27 v28 (blkT 0 k)).trans (by kernel_rfl))
def fr_recv_end_42 (p0 : SRecv) (p1 : Int) (v27 : SRecv) (v47 : Int) : FF := [dc, dc, (.hdr 15) :: (eRecv p0), (.hdr 1) :: (tL v47) :: (dT 3 ((.hdr 15) :: (sl 0 10 (eRecv v27)))), sl 10 5 (eRecv v27) ++ (dT 11 [])]
def fr_recv_end_44 (p0 : SRecv) (p1 : Int) (v27 : SRecv) : FF := [.yld :: (.ptr 53 0) :: (dT 14 []), dc, (.hdr 15) :: (eRecv p0), (.hdr 1) :: (tL p0.xNext) :: (dT 3 ((.hdr 15) :: (sl 0 10 (eRecv v27)))), sl 10 5 (eRecv v27) ++ (dT 11 [])]
theorem s_recv_end_43_t {R : Type} (cp : Nat → Nat → Bool) (n : Nat) (p0 : SRecv) (p1 : Int) (v27 : SRecv) (k : Ex → FF → Option R) : XI cp n (y_recv_end_5 cp n p1) i_recv_end_3 (fr_recv_end_44 p0 p1 v27) k = s_recv_end_43 cp n p0 p1 v27 (fun v47 => k .norm (fr_recv_end_42 p0 p1 v27 v47)) := ((fun c => (show XI cp n (y_recv_end_5 cp n p1) (.seq (.fin (.reg g_recv_end_1000) [1, 5] []) c) (fr_recv_end_44 p0 p1 v27) k = s_recv_end_7 cp n p0 p1 v27 (fun v28 => XI cp n (y_recv_end_5 cp n p1) c (fr_recv_end_8 p0 p1 v27 v28) k) from by kernel_rfl)) i_recv_end_13).trans (congrArg (fun q => s_recv_end_7 cp n p0 p1 v27 q) (funext fun v28 => (s_recv_end_41_t cp n p0 p1 v27 v28 k).trans (show s_recv_end_41 cp n p0 p1 v27 v28 (fun v46 => k .norm (fr_recv_end_40 p0 p1 v27 v46)) = s_recv_end_41 cp n p0 p1 v27 v28 (fun v46 => k .norm (fr_recv_end_42 p0 p1 v27 v46)) from by kernel_rfl)))
def fr_recv_end_45 (p0 : SRecv) (p1 v48 : Int) : FF := [dT 1 ((tL p1) :: (.ptr 32 0) :: (dT 2 ((.ptr 48 0) :: (dT 10 [])))), dc, (.hdr 15) :: (eRecv p0), (.hdr 1) :: (tL v48) :: (dT 14 []), dc]
theorem s_recv_end_46_t {R : Type} (cp : Nat → Nat → Bool) (n : Nat) (p0 : SRecv) (p1 : Int) (v27 : SRecv) (k : Ex → FF → Option R) : X cp n i_recv_end_14 (fr_recv_end_4 p0 p1 v27) k = s_recv_end_46 cp n p0 p1 v27 (fun v48 => k .norm (fr_recv_end_45 p0 p1 v48)) := (show X cp n i_recv_end_14 (fr_recv_end_4 p0 p1 v27) k = XI cp n (roundK2 2 [11] [32, 48, 53, 69] (fr_recv_end_4 p0 p1 v27) (X cp n i_recv_end_0) (X cp n i_recv_end_1)) i_recv_end_3 (fr_recv_end_44 p0 p1 v27) (rfnT 2 (fr_recv_end_4 p0 p1 v27) (clrT [10] [(53, 15)] k)) from rfn_eq (v := .clo 70 [(53, 0)]) (by kernel_rfl) (by kernel_rfl) (by kernel_rfl) _ _ _).trans ((congrArg (fun Y => XI cp n Y i_recv_end_3 (fr_recv_end_44 p0 p1 v27) (rfnT 2 (fr_recv_end_4 p0 p1 v27) (clrT [10] [(53, 15)] k))) ((rnd_eq 2 [11] [32, 48, 53, 69] (fr_recv_end_4 p0 p1 v27) i_recv_end_0 i_recv_end_1).trans (show rndT 2 [11] [32, 48, 53, 69] (fr_recv_end_4 p0 p1 v27) (X cp n i_recv_end_2) = (y_recv_end_5 cp n p1) from by kernel_rfl))).trans ((s_recv_end_43_t cp n p0 p1 v27 (rfnT 2 (fr_recv_end_4 p0 p1 v27) (clrT [10] [(53, 15)] k))).trans (by kernel_rfl)))
def fr_recv_end_47 (p0 : SRecv) (p1 v49 : Int) : FF := [dT 1 ((tL p1) :: (.ptr 32 0) :: (dT 2 ((.ptr 48 0) :: (dT 10 [])))), dc, (.hdr 15) :: (eRecv p0), (.hdr 1) :: (tL v49) :: (dT 14 []), dc]
theorem s_recv_end_48_t {R : Type} (cp : Nat → Nat → Bool) (n : Nat) (p0 : SRecv) (p1 : Int) (v27 : SRecv) (k : Ex → FF → Option R) : X cp n i_recv_end_15 (fr_recv_end_4 p0 p1 v27) k = s_recv_end_48 cp n p0 p1 v27 (fun v49 => k .norm (fr_recv_end_47 p0 p1 v49)) := (show X cp n i_recv_end_15 (fr_recv_end_4 p0 p1 v27) k = X cp n i_recv_end_14 (fr_recv_end_4 p0 p1 v27) (blkT 0 k) from by kernel_rfl).trans ((s_recv_end_46_t cp n p0 p1 v27 (blkT 0 k)).trans (by kernel_rfl))
def fr_recv_end_49 (p0 : SRecv) (p1 v50 : Int) : FF := [dT 1 ((tL p1) :: (.ptr 32 0) :: (dT 2 ((.ptr 48 0) :: (dT 10 [])))), dc, (.hdr 15) :: (eRecv p0), (.hdr 1) :: (tL v50) :: (dT 14 []), dc]
theorem s_recv_end_50_t {R : Type} (cp : Nat → Nat → Bool) (n : Nat) (p0 : SRecv) (p1 : Int) (k : Ex → FF → Option R) : X cp n i_recv_end_16 (fr_recv_end_2 p0 p1) k = s_recv_end_50 cp n p0 p1 (fun v50 => k .norm (fr_recv_end_49 p0 p1 v50)) := ((fun c => (show X cp n (.seq (.fin (.reg g_recv_end_2) [9] []) c) (fr_recv_end_2 p0 p1) k = s_recv_end_3 cp n p0 p1 (fun v27 => X cp n c (fr_recv_end_4 p0 p1 v27) k) from by kernel_rfl)) i_recv_end_15).trans (congrArg (fun q => s_recv_end_3 cp n p0 p1 q) (funext fun v27 => (s_recv_end_48_t cp n p0 p1 v27 k).trans (show s_recv_end_48 cp n p0 p1 v27 (fun v49 => k .norm (fr_recv_end_47 p0 p1 v49)) = s_recv_end_48 cp n p0 p1 v27 (fun v49 => k .norm (fr_recv_end_49 p0 p1 v49)) from by kernel_rfl)))
def fr_recv_end_52 (v52 : Int) : FF := [dT 4 ((tL v52) :: (dT 11 [])), dc, dc, dc, dc]
theorem s_recv_end_51_t {R : Type} (cp : Nat → Nat → Bool) (n : Nat) (p0 : SRecv) (p1 v50 : Int) (k : Ex → FF → Option R) : X cp n i_recv_end_17 (fr_recv_end_49 p0 p1 v50) k = s_recv_end_51 cp n p0 p1 v50 (fun v52 => k .ret (fr_recv_end_52 v52)) := by kernel_rfl
def fr_recv_end_53 (v53 : Int) : FF := [dT 4 ((tL v53) :: (dT 11 [])), dc, dc, dc, dc]
theorem s_recv_end_54_t {R : Type} (cp : Nat → Nat → Bool) (n : Nat) (p0 : SRecv) (p1 : Int) (k : Ex → FF → Option R) : X cp n i_recv_end_18 (fr_recv_end_2 p0 p1) k = s_recv_end_54 cp n p0 p1 (fun v53 => k .ret (fr_recv_end_53 v53)) := (show X cp n i_recv_end_18 (fr_recv_end_2 p0 p1) k = X cp n i_recv_end_16 (fr_recv_end_2 p0 p1) (seqT (X cp n) i_recv_end_17 k) from by kernel_rfl).trans ((show X cp n i_recv_end_16 (fr_recv_end_2 p0 p1) (seqT (X cp n) i_recv_end_17 k) = s_recv_end_50 cp n p0 p1 (fun v50 => X cp n i_recv_end_17 (fr_recv_end_49 p0 p1 v50) k) from (s_recv_end_50_t cp n p0 p1 (seqT (X cp n) i_recv_end_17 k)).trans (by kernel_rfl)).trans (congrArg (fun q => s_recv_end_50 cp n p0 p1 q) (funext fun v50 => (s_recv_end_51_t cp n p0 p1 v50 k).trans (show s_recv_end_51 cp n p0 p1 v50 (fun v52 => k .ret (fr_recv_end_52 v52)) = s_recv_end_51 cp n p0 p1 v50 (fun v52 => k .ret (fr_recv_end_53 v52)) from by kernel_rfl))))
def fr_recv_end_55 (v54 : Int) : FF := [dT 4 ((tL v54) :: (dT 11 [])), dc, dc, dc, dc]
def fr_recv_end_57 (p0 : SRecv) (p1 : Int) : FF := [(.agg (eRecv p0)) :: (tL p1) :: (dT 14 []), dc, dc, dc, dc]
theorem s_recv_end_56_t {R : Type} (cp : Nat → Nat → Bool) (n : Nat) (p0 : SRecv) (p1 : Int) (k : Ex → FF → Option R) : X cp n i_recv_end_19 (fr_recv_end_57 p0 p1) k = s_recv_end_56 cp n p0 p1 (fun v54 => k .ret (fr_recv_end_55 v54)) := ((fun c => (show X cp n (.seq (.fin (.reg g_recv_end_0) [0, 4] []) (.seq (.fin (.reg g_recv_end_1) [7, 8] []) c)) (fr_recv_end_57 p0 p1) k = s_recv_end_1 cp n p0 p1 (X cp n c (fr_recv_end_2 p0 p1) k) from by kernel_rfl)) i_recv_end_18).trans (congrArg (fun q => s_recv_end_1 cp n p0 p1 q) ((s_recv_end_54_t cp n p0 p1 k).trans (show s_recv_end_54 cp n p0 p1 (fun v53 => k .ret (fr_recv_end_53 v53)) = s_recv_end_54 cp n p0 p1 (fun v53 => k .ret (fr_recv_end_55 v53)) from by kernel_rfl)))
theorem run_recv_end {R : Type} (cp : Nat → Nat → Bool) (n : Nat) (p0 : SRecv) (p1 : Int) (k : Ret2 RW → Option R) : G_recv_end cp (n + 1) p0 p1 (fun r0 => k ⟨(tL r0), [], []⟩) = run2 U cp (callP cp n) n fn_recv_end [.agg (eRecv p0), (tL p1)] [] k := ((X_run (f := fn_recv_end) (av := [.agg (eRecv p0), (tL p1)]) (cells := []) (code := i_recv_end_19) (fr := (fr_recv_end_57 p0 p1)) (k := k) (by kernel_rfl) (fun K => by kernel_rfl)).trans ((s_recv_end_56_t cp n p0 p1 (finK2 fn_recv_end k)).trans (by kernel_rfl))).symm
/-! tideway/span.may -/
theorem run_span_may {R : Type} (cp : Nat → Nat → Bool) (n : Nat) (p0 : SSpan) (k : Ret2 RW → Option R) : G_span_may cp (n + 1) p0 (fun r0 => k ⟨(tB r0), [], []⟩) = run2 U cp (callP cp n) n fn_span_may [.agg (eSpan p0)] [] k := by kernel_rfl
/-! tideway/span.Check -/
def fr_span_Check_2 (p0 : (List SSpan)) : FF := [(.row false (.rSpan p0)) :: (dT 15 []), dc, dc]
def fr_span_Check_4 (p0 : (List SSpan)) (v88 : Int) : FF := [(.row false (.rSpan p0)) :: (dT 4 ((.row false (.rSpan p0)) :: (tL v88) :: (tL 0) :: (dT 8 []))), dc, dc]
def fr_span_Check_6 (p0 : (List SSpan)) (v88 v91 : Int) : FF := [(.row false (.rSpan p0)) :: (dT 4 ((.row false (.rSpan p0)) :: (tL v88) :: (tL v91) :: (dT 8 []))), dc, dc]
def fr_span_Check_7 : FF := [dT 2 ((tL 60) :: (dT 13 [])), dc, dc]
def fr_span_Check_8 : FF := [dc, dc, dc]
def fr_span_Check_9 (p0 : (List SSpan)) (v88 v89 : Int) : FF := [(.row false (.rSpan p0)) :: (dT 4 ((.row false (.rSpan p0)) :: (tL v88) :: (tL v89) :: (dT 8 []))), dc, dc]
theorem s_span_Check_5_t {R : Type} (cp : Nat → Nat → Bool) (n : Nat) (p0 : (List SSpan)) (v88 v89 : Int) (k : Ex → FF → Option R) : X cp n i_span_Check_0 (fr_span_Check_9 p0 v88 v89) k = s_span_Check_5 cp n p0 v88 v89 (fun v91 => k .norm (fr_span_Check_6 p0 v88 v91)) (k .ret fr_span_Check_7) (k (.exit 0) fr_span_Check_8) := by kernel_rfl
theorem l_span_Check_10_t {R : Type} (cp : Nat → Nat → Bool) (n : Nat) : ∀ (m : Nat) (p0 : (List SSpan)) (v88 v89 : Int) (k : Ex → FF → Option R), loopN2 (X cp n i_span_Check_0) m (fr_span_Check_9 p0 v88 v89) k = l_span_Check_10 cp n m p0 v88 v89 (k .ret fr_span_Check_7) (k (.exit 0) fr_span_Check_8)
  | 0, _, _, _, _ => rfl
  | m + 1, p0, v88, v89, k => (loopN2_succ (X cp n i_span_Check_0) m (fr_span_Check_9 p0 v88 v89) k).trans ((s_span_Check_5_t cp n p0 v88 v89 (loopT (X cp n i_span_Check_0) m k)).trans ((show s_span_Check_5 cp n p0 v88 v89 (fun v91 => loopT (X cp n i_span_Check_0) m k .norm (fr_span_Check_6 p0 v88 v91)) (loopT (X cp n i_span_Check_0) m k .ret fr_span_Check_7) (loopT (X cp n i_span_Check_0) m k (.exit 0) fr_span_Check_8) = s_span_Check_5 cp n p0 v88 v89 (fun v91 => loopN2 (X cp n i_span_Check_0) m (fr_span_Check_9 p0 v88 v91) k) (k .ret fr_span_Check_7) (k (.exit 0) fr_span_Check_8) from by kernel_rfl).trans (congrArg (fun q => s_span_Check_5 cp n p0 v88 v89 q (k .ret fr_span_Check_7) (k (.exit 0) fr_span_Check_8)) (funext fun v91 => l_span_Check_10_t cp n m p0 v88 v91 k))))
theorem s_span_Check_11_t {R : Type} (cp : Nat → Nat → Bool) (n : Nat) (p0 : (List SSpan)) (v88 : Int) (k : Ex → FF → Option R) : X cp n i_span_Check_1 (fr_span_Check_4 p0 v88) k = s_span_Check_11 cp n p0 v88 (k .ret fr_span_Check_7) (k (.exit 0) fr_span_Check_8) := (show X cp n i_span_Check_1 (fr_span_Check_4 p0 v88) k = loopN2 (X cp n i_span_Check_0) n (fr_span_Check_9 p0 v88 0) k from by kernel_rfl).trans (l_span_Check_10_t cp n n p0 v88 0 k)
theorem s_span_Check_12_t {R : Type} (cp : Nat → Nat → Bool) (n : Nat) (p0 : (List SSpan)) (v88 : Int) (k : Ex → FF → Option R) : X cp n i_span_Check_2 (fr_span_Check_4 p0 v88) k = s_span_Check_12 cp n p0 v88 (k .norm fr_span_Check_8) (k .ret fr_span_Check_7) := (show X cp n i_span_Check_2 (fr_span_Check_4 p0 v88) k = X cp n i_span_Check_1 (fr_span_Check_4 p0 v88) (blkT 0 k) from by kernel_rfl).trans ((s_span_Check_11_t cp n p0 v88 (blkT 0 k)).trans (by kernel_rfl))
theorem s_span_Check_13_t {R : Type} (cp : Nat → Nat → Bool) (n : Nat) (p0 : (List SSpan)) (k : Ex → FF → Option R) : X cp n i_span_Check_3 (fr_span_Check_2 p0) k = s_span_Check_13 cp n p0 (k .norm fr_span_Check_8) (k .ret fr_span_Check_7) := ((fun c => (show X cp n (.seq (.reg g_span_Check_1) c) (fr_span_Check_2 p0) k = s_span_Check_3 cp n p0 (fun v88 => X cp n c (fr_span_Check_4 p0 v88) k) from by kernel_rfl)) i_span_Check_2).trans (congrArg (fun q => s_span_Check_3 cp n p0 q) (funext fun v88 => s_span_Check_12_t cp n p0 v88 k))
def fr_span_Check_15 : FF := [dT 2 ((tL 0) :: (dT 13 [])), dc, dc]
theorem s_span_Check_14_t {R : Type} (cp : Nat → Nat → Bool) (n : Nat) (k : Ex → FF → Option R) : X cp n i_span_Check_4 fr_span_Check_8 k = s_span_Check_14 cp n (k .ret fr_span_Check_15) := by kernel_rfl
def fr_span_Check_16 (v92 : Int) : FF := [dT 2 ((tL v92) :: (dT 13 [])), dc, dc]
theorem s_span_Check_17_t {R : Type} (cp : Nat → Nat → Bool) (n : Nat) (p0 : (List SSpan)) (k : Ex → FF → Option R) : X cp n i_span_Check_5 (fr_span_Check_2 p0) k = s_span_Check_17 cp n p0 (fun v92 => k .ret (fr_span_Check_16 v92)) := (show X cp n i_span_Check_5 (fr_span_Check_2 p0) k = X cp n i_span_Check_3 (fr_span_Check_2 p0) (seqT (X cp n) i_span_Check_4 k) from by kernel_rfl).trans ((show X cp n i_span_Check_3 (fr_span_Check_2 p0) (seqT (X cp n) i_span_Check_4 k) = s_span_Check_13 cp n p0 (X cp n i_span_Check_4 fr_span_Check_8 k) (k .ret (fr_span_Check_16 60)) from (s_span_Check_13_t cp n p0 (seqT (X cp n) i_span_Check_4 k)).trans (by kernel_rfl)).trans (congrArg (fun q => s_span_Check_13 cp n p0 q (k .ret (fr_span_Check_16 60))) ((s_span_Check_14_t cp n  k).trans (show s_span_Check_14 cp n (k .ret fr_span_Check_15) = s_span_Check_14 cp n (k .ret (fr_span_Check_16 0)) from by kernel_rfl))))
def fr_span_Check_18 (v93 : Int) : FF := [dT 2 ((tL v93) :: (dT 13 [])), dc, dc]
theorem s_span_Check_19_t {R : Type} (cp : Nat → Nat → Bool) (n : Nat) (p0 : (List SSpan)) (k : Ex → FF → Option R) : X cp n i_span_Check_6 (fr_span_Check_2 p0) k = s_span_Check_19 cp n p0 (fun v93 => k .ret (fr_span_Check_18 v93)) := ((fun c => (show X cp n (.seq (.fin (.reg g_span_Check_0) [2] []) c) (fr_span_Check_2 p0) k = s_span_Check_1 cp n p0 (X cp n c (fr_span_Check_2 p0) k) from by kernel_rfl)) i_span_Check_5).trans (congrArg (fun q => s_span_Check_1 cp n p0 q) ((s_span_Check_17_t cp n p0 k).trans (show s_span_Check_17 cp n p0 (fun v92 => k .ret (fr_span_Check_16 v92)) = s_span_Check_17 cp n p0 (fun v92 => k .ret (fr_span_Check_18 v92)) from by kernel_rfl)))
theorem run_span_Check {R : Type} (cp : Nat → Nat → Bool) (n : Nat) (p0 : (List SSpan)) (k : Ret2 RW → Option R) : G_span_Check cp (n + 1) p0 (fun r0 => k ⟨(tL r0), [], []⟩) = run2 U cp (callP cp n) n fn_span_Check [.row false (.rSpan p0)] [] k := ((X_run (f := fn_span_Check) (av := [.row false (.rSpan p0)]) (cells := []) (code := i_span_Check_6) (fr := (fr_span_Check_2 p0)) (k := k) (by kernel_rfl) (fun K => by kernel_rfl)).trans ((s_span_Check_19_t cp n p0 (finK2 fn_span_Check k)).trans (by kernel_rfl))).symm
/-! tideway/span.within -/
theorem run_span_within {R : Type} (cp : Nat → Nat → Bool) (n : Nat) (p0 : (List SSpan)) (p1 : SSpan) (k : Ret2 RW → Option R) : G_span_within cp (n + 1) p0 p1 (fun r0 r1 => k ⟨.clo 83 [(6, 0), (8, 0)], [], [[.row false (.rSpan r0)], (eSpan r1)]⟩) = run2 U cp (callP cp n) n fn_span_within [.row false (.rSpan p0), .agg (eSpan p1)] [] k := by kernel_rfl
/-! tideway/span.Gaps -/
def fr_span_Gaps_2 (p0 : (List SSpan)) (p1 : SSpan) : FF := [(.row false (.rSpan p0)) :: (dT 2 ((.ptr 64 0) :: (dT 1 ((.ptr 67 0) :: (.ptr 69 0) :: (dT 9 []))))), dc, dc, dc, (.hdr 2) :: ((eSpan p1) ++ ((.hdr 1) :: (.row true (.rSpan [])) :: (.hdr 1) :: (tL p1.xFrom) :: (dT 9 []))), dc]
def fr_span_Gaps_3 : FF := [dT 4 ((.row false (.rSpan [])) :: (dT 11 [])), dc, dc, dc, dc, dc]
def fr_span_Gaps_5 (p1 : SSpan) (v99 : (List SSpan)) (v100 v101 : Int) : FF := [dT 3 ((.ptr 64 0) :: (dT 1 ((.ptr 67 0) :: (.ptr 69 0) :: (dT 9 [])))), dT 6 ((.clo 83 [(74, 0), (76, 0)]) :: (dT 9 [])), dc, dc, (.hdr 2) :: ((eSpan p1) ++ ((.hdr 1) :: (.row true (.rSpan [])) :: (.hdr 1) :: (tL p1.xFrom) :: (dT 3 ((.hdr 1) :: (.row false (.rSpan v99)) :: (.hdr 2) :: (tL v100) :: (tL v101) :: (dT 1 []))))), dc]
def fr_span_Gaps_7 : FF := [dT 3 ((.ptr 64 0) :: (dT 1 ((.ptr 67 0) :: (.ptr 69 0) :: (dT 9 [])))), dT 6 ((.clo 83 [(74, 0), (76, 0)]) :: (dT 9 [])), dc, dc, dc, dc]
def y_span_Gaps_6 {R : Type} (cp : Nat → Nat → Bool) (n : Nat) : List (TV RW) → FF → (FF → Option R) → Option R := rndT 4 [23] [64, 67, 69, 74, 76, 79, 82] fr_span_Gaps_7 (X cp n i_span_Gaps_2)
def fr_span_Gaps_9 (p1 : SSpan) (v99 : (List SSpan)) (v100 v101 v102 : Int) : FF := [.yld :: (dT 1 ((.ptr 76 0) :: (dT 4 ((.row false (.rSpan v99)) :: (tL v102) :: (tL 0) :: (dT 6 []))))), dc, dc, dc, (.hdr 2) :: ((eSpan p1) ++ ((.hdr 1) :: (.row true (.rSpan [])) :: (.hdr 1) :: (tL p1.xFrom) :: (dT 3 ((.hdr 1) :: (.row false (.rSpan v99)) :: (.hdr 2) :: (tL v100) :: (tL v101) :: (dT 1 []))))), dc]
def fr_span_Gaps_11 (p1 : SSpan) (v99 : (List SSpan)) (v100 v101 v102 v103 : Int) (v104 : (List SSpan)) (v105 : Int) : FF := [.yld :: (dT 1 ((.ptr 76 0) :: (dT 4 ((.row false (.rSpan v99)) :: (tL v102) :: (tL v103) :: (dT 6 []))))), dc, dc, dc, (.hdr 2) :: ((eSpan p1) ++ ((.hdr 1) :: (.row true (.rSpan v104)) :: (.hdr 1) :: (tL v105) :: (dT 3 ((.hdr 1) :: (.row false (.rSpan v99)) :: (.hdr 2) :: (tL v100) :: (tL v101) :: (dT 1 []))))), dc]
def fr_span_Gaps_12 (p1 : SSpan) (v99 : (List SSpan)) (v100 v101 : Int) (v104 : (List SSpan)) (v105 : Int) : FF := [dc, dc, dc, dc, (.hdr 2) :: ((eSpan p1) ++ ((.hdr 1) :: (.row true (.rSpan v104)) :: (.hdr 1) :: (tL v105) :: (dT 3 ((.hdr 1) :: (.row false (.rSpan v99)) :: (.hdr 2) :: (tL v100) :: (tL v101) :: (dT 1 []))))), dc]
def fr_span_Gaps_14 (p1 : SSpan) (v99 : (List SSpan)) (v100 v101 v102 v103 : Int) (v104 : (List SSpan)) (v105 v106 v107 : Int) : FF := [.yld :: (dT 1 ((.ptr 76 0) :: (dT 3 ((.ptr 82 0) :: (.row false (.rSpan v99)) :: (tL v102) :: (tL v103) :: (dT 6 []))))), dc, dc, dc, (.hdr 2) :: ((eSpan p1) ++ ((.hdr 1) :: (.row true (.rSpan v104)) :: (.hdr 1) :: (tL v105) :: (dT 3 ((.hdr 1) :: (.row false (.rSpan v99)) :: (.hdr 2) :: (tL v100) :: (tL v101) :: (dT 1 []))))), dT 2 ((.hdr 2) :: (tL v106) :: (tL v107) :: (dT 11 []))]
def fr_span_Gaps_16 (p1 : SSpan) (v99 : (List SSpan)) (v100 v101 v102 v103 : Int) (v104 : (List SSpan)) (v105 v106 v107 : Int) (v108 : Bool) : FF := [.yld :: (dT 1 ((.ptr 76 0) :: (dT 3 ((.ptr 82 0) :: (.row false (.rSpan v99)) :: (tL v102) :: (tL v103) :: (dT 6 []))))), dT 8 ([.ptr 82 0, (tL v106), .ptr 82 1, (tL v107), (tB v108), (tB true), .yld, .agg [(tL v106), (tL v107)]]), dc, dc, (.hdr 2) :: ((eSpan p1) ++ ((.hdr 1) :: (.row true (.rSpan v104)) :: (.hdr 1) :: (tL v105) :: (dT 3 ((.hdr 1) :: (.row false (.rSpan v99)) :: (.hdr 2) :: (tL v100) :: (tL v101) :: (dT 1 []))))), dT 2 ((.hdr 2) :: (tL v106) :: (tL v107) :: (dT 11 []))]
def fr_span_Gaps_17 (p1 : SSpan) (v99 : (List SSpan)) (v100 v101 v102 v103 : Int) (v104 : (List SSpan)) (v105 v106 v107 : Int) (v109 : Bool) : FF := [.yld :: (dT 1 ((.ptr 76 0) :: (dT 3 ((.ptr 82 0) :: (.row false (.rSpan v99)) :: (tL v102) :: (tL v103) :: (dT 6 []))))), dT 8 ([.ptr 82 0, (tL v106), .ptr 82 1, (tL v107), (tB v109), (tB false), .tup [], .tup []]), dc, dc, (.hdr 2) :: ((eSpan p1) ++ ((.hdr 1) :: (.row true (.rSpan v104)) :: (.hdr 1) :: (tL v105) :: (dT 3 ((.hdr 1) :: (.row false (.rSpan v99)) :: (.hdr 2) :: (tL v100) :: (tL v101) :: (dT 1 []))))), dT 2 ((.hdr 2) :: (tL v106) :: (tL v107) :: (dT 11 []))]
theorem s_span_Gaps_15_t {R : Type} (cp : Nat → Nat → Bool) (n : Nat) (p1 : SSpan) (v99 : (List SSpan)) (v100 v101 v102 v103 : Int) (v104 : (List SSpan)) (v105 v106 v107 : Int) (A B : FF → Option R) : (gF (fr_span_Gaps_14 p1 v99 v100 v101 v102 v103 v104 v105 v106 v107) fun l => steps2 U cp (callP cp n) g_span_Gaps_10041 l fun l1 => yGuard2 (some (29, true)) l1 (A l1) (B l1)) = s_span_Gaps_15 cp n p1 v99 v100 v101 v102 v103 v104 v105 v106 v107 (fun v108 => A (fr_span_Gaps_16 p1 v99 v100 v101 v102 v103 v104 v105 v106 v107 v108)) (fun v109 => B (fr_span_Gaps_17 p1 v99 v100 v101 v102 v103 v104 v105 v106 v107 v109)) := by kernel_rfl
def fr_span_Gaps_19 (p1 : SSpan) (v99 : (List SSpan)) (v100 v101 v106 v107 : Int) (v110 : (List SSpan)) : FF := [dT 3 ((.ptr 64 0) :: (dT 1 ((.ptr 67 0) :: (.ptr 69 0) :: (dT 9 [])))), dT 6 ((.clo 83 [(74, 0), (76, 0)]) :: (dT 9 [])), dc, dc, (.hdr 2) :: ((eSpan p1) ++ ((.hdr 1) :: (.row true (.rSpan v110)) :: (.hdr 1) :: (tL v107) :: (dT 3 ((.hdr 1) :: (.row false (.rSpan v99)) :: (.hdr 2) :: (tL v100) :: (tL v101) :: (dT 1 []))))), dT 2 ((.hdr 2) :: (tL v106) :: (tL v107) :: (dT 11 []))]
def fr_span_Gaps_20 (p1 : SSpan) (v99 : (List SSpan)) (v100 v101 : Int) (v104 : (List SSpan)) (v105 v106 v107 : Int) : FF := [dT 3 ((.ptr 64 0) :: (dT 1 ((.ptr 67 0) :: (.ptr 69 0) :: (dT 9 [])))), dT 6 ((.clo 83 [(74, 0), (76, 0)]) :: (.agg [(tL v106), (tL v107)]) :: (dT 8 [])), dc, dc, (.hdr 2) :: ((eSpan p1) ++ ((.hdr 1) :: (.row true (.rSpan v104)) :: (.hdr 1) :: (tL v105) :: (dT 3 ((.hdr 1) :: (.row false (.rSpan v99)) :: (.hdr 2) :: (tL v100) :: (tL v101) :: (dT 1 []))))), dT 2 ((.hdr 2) :: (tL v106) :: (tL v107) :: (dT 11 []))]
theorem s_span_Gaps_18_t {R : Type} (cp : Nat → Nat → Bool) (n : Nat) (p1 : SSpan) (v99 : (List SSpan)) (v100 v101 : Int) (v104 : (List SSpan)) (v105 v106 v107 : Int) (k : Ex → FF → Option R) : X cp n i_span_Gaps_2 (fr_span_Gaps_20 p1 v99 v100 v101 v104 v105 v106 v107) k = s_span_Gaps_18 cp n p1 v99 v100 v101 v104 v105 v106 v107 (fun v110 => k .norm (fr_span_Gaps_19 p1 v99 v100 v101 v106 v107 v110)) := by kernel_rfl
def fr_span_Gaps_22 (p1 : SSpan) (v99 : (List SSpan)) (v100 v101 v102 v103 v106 v107 : Int) (v108 : Bool) (v110 : (List SSpan)) : FF := [.yld :: (dT 1 ((.ptr 76 0) :: (dT 3 ((.ptr 82 0) :: (.row false (.rSpan v99)) :: (tL v102) :: (tL v103) :: (dT 6 []))))), dT 8 ([.ptr 82 0, (tL v106), .ptr 82 1, (tL v107), (tB v108), (tB true), .yld, .agg [(tL v106), (tL v107)]]), (tB true) :: (dT 15 []), dc, (.hdr 2) :: ((eSpan p1) ++ ((.hdr 1) :: (.row true (.rSpan v110)) :: (.hdr 1) :: (tL v107) :: (dT 3 ((.hdr 1) :: (.row false (.rSpan v99)) :: (.hdr 2) :: (tL v100) :: (tL v101) :: (dT 1 []))))), dT 2 ((.hdr 2) :: (tL v106) :: (tL v107) :: (dT 11 []))]
theorem q_span_Gaps_21_t {R : Type} (cp : Nat → Nat → Bool) (n : Nat) (p1 : SSpan) (v99 : (List SSpan)) (v100 v101 v102 v103 : Int) (v104 : (List SSpan)) (v105 v106 v107 : Int) (v108 : Bool) (K : FF → Option R) : yRun2 (y_span_Gaps_6 cp n) (.s 30) [.s 31] 32 (fr_span_Gaps_16 p1 v99 v100 v101 v102 v103 v104 v105 v106 v107 v108) K = s_span_Gaps_18 cp n p1 v99 v100 v101 v104 v105 v106 v107 (fun v110 => K (fr_span_Gaps_22 p1 v99 v100 v101 v102 v103 v106 v107 v108 v110)) := ((fun x => (show yRun2 (rndT 4 [23] [64, 67, 69, 74, 76, 79, 82] fr_span_Gaps_7 x) (.s 30) [.s 31] 32 (fr_span_Gaps_16 p1 v99 v100 v101 v102 v103 v104 v105 v106 v107 v108) K = x (fr_span_Gaps_20 p1 v99 v100 v101 v104 v105 v106 v107) (roundT 4 (fr_span_Gaps_16 p1 v99 v100 v101 v102 v103 v104 v105 v106 v107 v108) (fun l2 => putO l2 (some 32) (.sc (.bool true)) K)) from by kernel_rfl)) (X cp n i_span_Gaps_2)).trans ((s_span_Gaps_18_t cp n p1 v99 v100 v101 v104 v105 v106 v107 (roundT 4 (fr_span_Gaps_16 p1 v99 v100 v101 v102 v103 v104 v105 v106 v107 v108) (fun l2 => putO l2 (some 32) (.sc (.bool true)) K))).trans (by kernel_rfl))
def fr_span_Gaps_23 (p1 : SSpan) (v99 : (List SSpan)) (v100 v101 v102 v103 : Int) (v111 : (List SSpan)) (v112 : Int) : FF := [.yld :: (dT 1 ((.ptr 76 0) :: (dT 4 ((.row false (.rSpan v99)) :: (tL v102) :: (tL v103) :: (dT 6 []))))), dc, dT 2 ((tB false) :: (dT 13 [])), dc, (.hdr 2) :: ((eSpan p1) ++ ((.hdr 1) :: (.row true (.rSpan v111)) :: (.hdr 1) :: (tL v112) :: (dT 3 ((.hdr 1) :: (.row false (.rSpan v99)) :: (.hdr 2) :: (tL v100) :: (tL v101) :: (dT 1 []))))), dc]
theorem s_span_Gaps_24_t {R : Type} (cp : Nat → Nat → Bool) (n : Nat) (p1 : SSpan) (v99 : (List SSpan)) (v100 v101 v102 v103 : Int) (v104 : (List SSpan)) (v105 v106 v107 : Int) (k : Ex → FF → Option R) : XI cp n (y_span_Gaps_6 cp n) i_span_Gaps_4 (fr_span_Gaps_14 p1 v99 v100 v101 v102 v103 v104 v105 v106 v107) k = s_span_Gaps_24 cp n p1 v99 v100 v101 v102 v103 v104 v105 v106 v107 (fun v111 v112 => k .norm (fr_span_Gaps_23 p1 v99 v100 v101 v102 v103 v111 v112)) := (show XI cp n (y_span_Gaps_6 cp n) i_span_Gaps_4 (fr_span_Gaps_14 p1 v99 v100 v101 v102 v103 v104 v105 v106 v107) k = gF (fr_span_Gaps_14 p1 v99 v100 v101 v102 v103 v104 v105 v106 v107) fun l => steps2 U cp (callP cp n) g_span_Gaps_10041 l fun l1 => yGuard2 (some (29, true)) l1 ((fun l1 => yRun2 (y_span_Gaps_6 cp n) (.s 30) [.s 31] 32 l1 (fun l2 => steps2 U cp (callP cp n) g_span_Gaps_10042 l2 ((clrT [6, 24, 25, 26, 27, 28, 29, 30, 31, 32, 33] [(82, 2)] k) .norm))) l1) ((fun l1 => putO l1 (some 32) (.tup []) fun l2 => steps2 U cp (callP cp n) g_span_Gaps_10042 l2 ((clrT [6, 24, 25, 26, 27, 28, 29, 30, 31, 32, 33] [(82, 2)] k) .norm)) l1) from by kernel_rfl).trans ((s_span_Gaps_15_t cp n p1 v99 v100 v101 v102 v103 v104 v105 v106 v107 (fun l1 => yRun2 (y_span_Gaps_6 cp n) (.s 30) [.s 31] 32 l1 (fun l2 => steps2 U cp (callP cp n) g_span_Gaps_10042 l2 ((clrT [6, 24, 25, 26, 27, 28, 29, 30, 31, 32, 33] [(82, 2)] k) .norm))) (fun l1 => putO l1 (some 32) (.tup []) fun l2 => steps2 U cp (callP cp n) g_span_Gaps_10042 l2 ((clrT [6, 24, 25, 26, 27, 28, 29, 30, 31, 32, 33] [(82, 2)] k) .norm))).trans (cg2 (f := s_span_Gaps_15 cp n p1 v99 v100 v101 v102 v103 v104 v105 v106 v107) (funext fun v108 => (q_span_Gaps_21_t cp n p1 v99 v100 v101 v102 v103 v104 v105 v106 v107 v108 (fun l2 => steps2 U cp (callP cp n) g_span_Gaps_10042 l2 ((clrT [6, 24, 25, 26, 27, 28, 29, 30, 31, 32, 33] [(82, 2)] k) .norm))).trans (show s_span_Gaps_18 cp n p1 v99 v100 v101 v104 v105 v106 v107 (fun v110 => (fun l2 => steps2 U cp (callP cp n) g_span_Gaps_10042 l2 ((clrT [6, 24, 25, 26, 27, 28, 29, 30, 31, 32, 33] [(82, 2)] k) .norm)) (fr_span_Gaps_22 p1 v99 v100 v101 v102 v103 v106 v107 v108 v110)) = s_span_Gaps_18 cp n p1 v99 v100 v101 v104 v105 v106 v107 (fun v110 => k .norm (fr_span_Gaps_23 p1 v99 v100 v101 v102 v103 v110 v107)) from by kernel_rfl)) (funext fun v109 => (show (fun l1 => putO l1 (some 32) (.tup []) fun l2 => steps2 U cp (callP cp n) g_span_Gaps_10042 l2 ((clrT [6, 24, 25, 26, 27, 28, 29, 30, 31, 32, 33] [(82, 2)] k) .norm)) (fr_span_Gaps_17 p1 v99 v100 v101 v102 v103 v104 v105 v106 v107 v109) = k .norm (fr_span_Gaps_23 p1 v99 v100 v101 v102 v103 v104 v105) from by kernel_rfl))))
def fr_span_Gaps_26 (p1 : SSpan) (v99 : (List SSpan)) (v100 v101 v102 v103 : Int) (v111 : (List SSpan)) (v112 : Int) : FF := [.yld :: (dT 1 ((.ptr 76 0) :: (dT 4 ((.row false (.rSpan v99)) :: (tL v102) :: (tL v103) :: (dT 6 []))))), dc, dc, dc, (.hdr 2) :: ((eSpan p1) ++ ((.hdr 1) :: (.row true (.rSpan v111)) :: (.hdr 1) :: (tL v112) :: (dT 3 ((.hdr 1) :: (.row false (.rSpan v99)) :: (.hdr 2) :: (tL v100) :: (tL v101) :: (dT 1 []))))), dc]
theorem s_span_Gaps_25_t {R : Type} (cp : Nat → Nat → Bool) (n : Nat) (p1 : SSpan) (v99 : (List SSpan)) (v100 v101 v102 v103 : Int) (v111 : (List SSpan)) (v112 : Int) (k : Ex → FF → Option R) : XI cp n (y_span_Gaps_6 cp n) i_span_Gaps_5 (fr_span_Gaps_23 p1 v99 v100 v101 v102 v103 v111 v112) k = s_span_Gaps_25 cp n p1 v99 v100 v101 v102 v103 v111 v112 (k .norm (fr_span_Gaps_26 p1 v99 v100 v101 v102 v103 v111 v112)) := by kernel_rfl
def fr_span_Gaps_27 (p1 : SSpan) (v99 : (List SSpan)) (v100 v101 v102 v103 : Int) (v113 : (List SSpan)) (v114 : Int) : FF := [.yld :: (dT 1 ((.ptr 76 0) :: (dT 4 ((.row false (.rSpan v99)) :: (tL v102) :: (tL v103) :: (dT 6 []))))), dc, dc, dc, (.hdr 2) :: ((eSpan p1) ++ ((.hdr 1) :: (.row true (.rSpan v113)) :: (.hdr 1) :: (tL v114) :: (dT 3 ((.hdr 1) :: (.row false (.rSpan v99)) :: (.hdr 2) :: (tL v100) :: (tL v101) :: (dT 1 []))))), dc]
theorem s_span_Gaps_28_t {R : Type} (cp : Nat → Nat → Bool) (n : Nat) (p1 : SSpan) (v99 : (List SSpan)) (v100 v101 v102 v103 : Int) (v104 : (List SSpan)) (v105 v106 v107 : Int) (k : Ex → FF → Option R) : XI cp n (y_span_Gaps_6 cp n) i_span_Gaps_6 (fr_span_Gaps_14 p1 v99 v100 v101 v102 v103 v104 v105 v106 v107) k = s_span_Gaps_28 cp n p1 v99 v100 v101 v102 v103 v104 v105 v106 v107 (fun v113 v114 => k .norm (fr_span_Gaps_27 p1 v99 v100 v101 v102 v103 v113 v114)) := (show XI cp n (y_span_Gaps_6 cp n) i_span_Gaps_6 (fr_span_Gaps_14 p1 v99 v100 v101 v102 v103 v104 v105 v106 v107) k = XI cp n (y_span_Gaps_6 cp n) i_span_Gaps_4 (fr_span_Gaps_14 p1 v99 v100 v101 v102 v103 v104 v105 v106 v107) (seqT (XI cp n (y_span_Gaps_6 cp n)) i_span_Gaps_5 k) from by kernel_rfl).trans ((show XI cp n (y_span_Gaps_6 cp n) i_span_Gaps_4 (fr_span_Gaps_14 p1 v99 v100 v101 v102 v103 v104 v105 v106 v107) (seqT (XI cp n (y_span_Gaps_6 cp n)) i_span_Gaps_5 k) = s_span_Gaps_24 cp n p1 v99 v100 v101 v102 v103 v104 v105 v106 v107 (fun v111 v112 => XI cp n (y_span_Gaps_6 cp n) i_span_Gaps_5 (fr_span_Gaps_23 p1 v99 v100 v101 v102 v103 v111 v112) k) from (s_span_Gaps_24_t cp n p1 v99 v100 v101 v102 v103 v104 v105 v106 v107 (seqT (XI cp n (y_span_Gaps_6 cp n)) i_span_Gaps_5 k)).trans (by kernel_rfl)).trans (congrArg (fun q => s_span_Gaps_24 cp n p1 v99 v100 v101 v102 v103 v104 v105 v106 v107 q) (funext fun v111 => funext fun v112 => (s_span_Gaps_25_t cp n p1 v99 v100 v101 v102 v103 v111 v112 k).trans (show s_span_Gaps_25 cp n p1 v99 v100 v101 v102 v103 v111 v112 (k .norm (fr_span_Gaps_26 p1 v99 v100 v101 v102 v103 v111 v112)) = s_span_Gaps_25 cp n p1 v99 v100 v101 v102 v103 v111 v112 (k .norm (fr_span_Gaps_27 p1 v99 v100 v101 v102 v103 v111 v112)) from by kernel_rfl))))
def fr_span_Gaps_29 (p1 : SSpan) (v99 : (List SSpan)) (v100 v101 v102 v103 : Int) (v115 : (List SSpan)) (v116 : Int) : FF := [.yld :: (dT 1 ((.ptr 76 0) :: (dT 4 ((.row false (.rSpan v99)) :: (tL v102) :: (tL v103) :: (dT 6 []))))), dc, dc, dc, (.hdr 2) :: ((eSpan p1) ++ ((.hdr 1) :: (.row true (.rSpan v115)) :: (.hdr 1) :: (tL v116) :: (dT 3 ((.hdr 1) :: (.row false (.rSpan v99)) :: (.hdr 2) :: (tL v100) :: (tL v101) :: (dT 1 []))))), dc]
theorem s_span_Gaps_30_t {R : Type} (cp : Nat → Nat → Bool) (n : Nat) (p1 : SSpan) (v99 : (List SSpan)) (v100 v101 v102 v103 : Int) (v104 : (List SSpan)) (v105 : Int) (k : Ex → FF → Option R) : XI cp n (y_span_Gaps_6 cp n) i_span_Gaps_7 (fr_span_Gaps_11 p1 v99 v100 v101 v102 v103 v104 v105) k = s_span_Gaps_30 cp n p1 v99 v100 v101 v102 v103 v104 v105 (fun v115 v116 => k .norm (fr_span_Gaps_29 p1 v99 v100 v101 v102 v103 v115 v116)) := ((fun c => (show XI cp n (y_span_Gaps_6 cp n) (.seq (.fin (.reg g_span_Gaps_1002) [11, 12] []) (.seq (.fin (.reg g_span_Gaps_1003) [5, 13, 14, 15, 16, 17, 18, 19, 20, 21, 22, 23] [(79, 2)]) c)) (fr_span_Gaps_11 p1 v99 v100 v101 v102 v103 v104 v105) k = s_span_Gaps_13 cp n p1 v99 v100 v101 v102 v103 v104 v105 (fun v106 v107 => XI cp n (y_span_Gaps_6 cp n) c (fr_span_Gaps_14 p1 v99 v100 v101 v102 v103 v104 v105 v106 v107) k) from by kernel_rfl)) i_span_Gaps_6).trans (congrArg (fun q => s_span_Gaps_13 cp n p1 v99 v100 v101 v102 v103 v104 v105 q) (funext fun v106 => funext fun v107 => (s_span_Gaps_28_t cp n p1 v99 v100 v101 v102 v103 v104 v105 v106 v107 k).trans (show s_span_Gaps_28 cp n p1 v99 v100 v101 v102 v103 v104 v105 v106 v107 (fun v113 v114 => k .norm (fr_span_Gaps_27 p1 v99 v100 v101 v102 v103 v113 v114)) = s_span_Gaps_28 cp n p1 v99 v100 v101 v102 v103 v104 v105 v106 v107 (fun v113 v114 => k .norm (fr_span_Gaps_29 p1 v99 v100 v101 v102 v103 v113 v114)) from by kernel_rfl)))
def fr_span_Gaps_31 (p1 : SSpan) (v99 : (List SSpan)) (v100 v101 v102 v103 : Int) (v117 : (List SSpan)) (v118 : Int) : FF := [.yld :: (dT 1 ((.ptr 76 0) :: (dT 4 ((.row false (.rSpan v99)) :: (tL v102) :: (tL v103) :: (dT 6 []))))), dc, dc, dc, (.hdr 2) :: ((eSpan p1) ++ ((.hdr 1) :: (.row true (.rSpan v117)) :: (.hdr 1) :: (tL v118) :: (dT 3 ((.hdr 1) :: (.row false (.rSpan v99)) :: (.hdr 2) :: (tL v100) :: (tL v101) :: (dT 1 []))))), dc]
theorem s_span_Gaps_32_t {R : Type} (cp : Nat → Nat → Bool) (n : Nat) (p1 : SSpan) (v99 : (List SSpan)) (v100 v101 v102 v103 : Int) (v104 : (List SSpan)) (v105 : Int) (k : Ex → FF → Option R) : XI cp n (y_span_Gaps_6 cp n) i_span_Gaps_8 (fr_span_Gaps_11 p1 v99 v100 v101 v102 v103 v104 v105) k = s_span_Gaps_32 cp n p1 v99 v100 v101 v102 v103 v104 v105 (fun v117 v118 => k .norm (fr_span_Gaps_31 p1 v99 v100 v101 v102 v103 v117 v118)) := (show XI cp n (y_span_Gaps_6 cp n) i_span_Gaps_8 (fr_span_Gaps_11 p1 v99 v100 v101 v102 v103 v104 v105) k = XI cp n (y_span_Gaps_6 cp n) i_span_Gaps_7 (fr_span_Gaps_11 p1 v99 v100 v101 v102 v103 v104 v105) (blkT 1 k) from by kernel_rfl).trans ((s_span_Gaps_30_t cp n p1 v99 v100 v101 v102 v103 v104 v105 (blkT 1 k)).trans (by kernel_rfl))
def fr_span_Gaps_34 (p1 : SSpan) (v99 : (List SSpan)) (v100 v101 v102 : Int) (v117 : (List SSpan)) (v118 v119 : Int) : FF := [.yld :: (dT 1 ((.ptr 76 0) :: (dT 4 ((.row false (.rSpan v99)) :: (tL v102) :: (tL v119) :: (dT 6 []))))), dc, dc, dc, (.hdr 2) :: ((eSpan p1) ++ ((.hdr 1) :: (.row true (.rSpan v117)) :: (.hdr 1) :: (tL v118) :: (dT 3 ((.hdr 1) :: (.row false (.rSpan v99)) :: (.hdr 2) :: (tL v100) :: (tL v101) :: (dT 1 []))))), dc]
theorem s_span_Gaps_33_t {R : Type} (cp : Nat → Nat → Bool) (n : Nat) (p1 : SSpan) (v99 : (List SSpan)) (v100 v101 v102 v103 : Int) (v117 : (List SSpan)) (v118 : Int) (k : Ex → FF → Option R) : XI cp n (y_span_Gaps_6 cp n) i_span_Gaps_9 (fr_span_Gaps_31 p1 v99 v100 v101 v102 v103 v117 v118) k = s_span_Gaps_33 cp n p1 v99 v100 v101 v102 v103 v117 v118 (fun v119 => k .norm (fr_span_Gaps_34 p1 v99 v100 v101 v102 v117 v118 v119)) := by kernel_rfl
def fr_span_Gaps_35 (p1 : SSpan) (v99 : (List SSpan)) (v100 v101 v102 v120 : Int) (v121 : (List SSpan)) (v122 : Int) : FF := [.yld :: (dT 1 ((.ptr 76 0) :: (dT 4 ((.row false (.rSpan v99)) :: (tL v102) :: (tL v120) :: (dT 6 []))))), dc, dc, dc, (.hdr 2) :: ((eSpan p1) ++ ((.hdr 1) :: (.row true (.rSpan v121)) :: (.hdr 1) :: (tL v122) :: (dT 3 ((.hdr 1) :: (.row false (.rSpan v99)) :: (.hdr 2) :: (tL v100) :: (tL v101) :: (dT 1 []))))), dc]
theorem s_span_Gaps_36_t {R : Type} (cp : Nat → Nat → Bool) (n : Nat) (p1 : SSpan) (v99 : (List SSpan)) (v100 v101 v102 v103 : Int) (v104 : (List SSpan)) (v105 : Int) (k : Ex → FF → Option R) : XI cp n (y_span_Gaps_6 cp n) i_span_Gaps_10 (fr_span_Gaps_11 p1 v99 v100 v101 v102 v103 v104 v105) k = s_span_Gaps_36 cp n p1 v99 v100 v101 v102 v103 v104 v105 (fun v120 v121 v122 => k .norm (fr_span_Gaps_35 p1 v99 v100 v101 v102 v120 v121 v122)) := (show XI cp n (y_span_Gaps_6 cp n) i_span_Gaps_10 (fr_span_Gaps_11 p1 v99 v100 v101 v102 v103 v104 v105) k = XI cp n (y_span_Gaps_6 cp n) i_span_Gaps_8 (fr_span_Gaps_11 p1 v99 v100 v101 v102 v103 v104 v105) (seqT (XI cp n (y_span_Gaps_6 cp n)) i_span_Gaps_9 k) from by kernel_rfl).trans ((show XI cp n (y_span_Gaps_6 cp n) i_span_Gaps_8 (fr_span_Gaps_11 p1 v99 v100 v101 v102 v103 v104 v105) (seqT (XI cp n (y_span_Gaps_6 cp n)) i_span_Gaps_9 k) = s_span_Gaps_32 cp n p1 v99 v100 v101 v102 v103 v104 v105 (fun v117 v118 => XI cp n (y_span_Gaps_6 cp n) i_span_Gaps_9 (fr_span_Gaps_31 p1 v99 v100 v101 v102 v103 v117 v118) k) from (s_span_Gaps_32_t cp n p1 v99 v100 v101 v102 v103 v104 v105 (seqT (XI cp n (y_span_Gaps_6 cp n)) i_span_Gaps_9 k)).trans (by kernel_rfl)).trans (congrArg (fun q => s_span_Gaps_32 cp n p1 v99 v100 v101 v102 v103 v104 v105 q) (funext fun v117 => funext fun v118 => (s_span_Gaps_33_t cp n p1 v99 v100 v101 v102 v103 v117 v118 k).trans (show s_span_Gaps_33 cp n p1 v99 v100 v101 v102 v103 v117 v118 (fun v119 => k .norm (fr_span_Gaps_34 p1 v99 v100 v101 v102 v117 v118 v119)) = s_span_Gaps_33 cp n p1 v99 v100 v101 v102 v103 v117 v118 (fun v119 => k .norm (fr_span_Gaps_35 p1 v99 v100 v101 v102 v119 v117 v118)) from by kernel_rfl))))
def fr_span_Gaps_37 (p1 : SSpan) (v99 : (List SSpan)) (v100 v101 v102 v123 : Int) (v124 : (List SSpan)) (v125 : Int) : FF := [.yld :: (dT 1 ((.ptr 76 0) :: (dT 4 ((.row false (.rSpan v99)) :: (tL v102) :: (tL v123) :: (dT 6 []))))), dc, dc, dc, (.hdr 2) :: ((eSpan p1) ++ ((.hdr 1) :: (.row true (.rSpan v124)) :: (.hdr 1) :: (tL v125) :: (dT 3 ((.hdr 1) :: (.row false (.rSpan v99)) :: (.hdr 2) :: (tL v100) :: (tL v101) :: (dT 1 []))))), dc]
theorem s_span_Gaps_38_t {R : Type} (cp : Nat → Nat → Bool) (n : Nat) (p1 : SSpan) (v99 : (List SSpan)) (v100 v101 v102 v103 : Int) (v104 : (List SSpan)) (v105 : Int) (k : Ex → FF → Option R) : XI cp n (y_span_Gaps_6 cp n) i_span_Gaps_11 (fr_span_Gaps_11 p1 v99 v100 v101 v102 v103 v104 v105) k = s_span_Gaps_38 cp n p1 v99 v100 v101 v102 v103 v104 v105 (fun v123 v124 v125 => k .norm (fr_span_Gaps_37 p1 v99 v100 v101 v102 v123 v124 v125)) (k (.exit 0) (fr_span_Gaps_12 p1 v99 v100 v101 v104 v105)) := ((fun c => (show XI cp n (y_span_Gaps_6 cp n) (.seq (.reg g_span_Gaps_1001) (.seq (.fin (.cond (.s 10) (.skip) (.clr [0, 2, 7, 8, 9, 10] [] (.exit 0))) [10] []) c)) (fr_span_Gaps_11 p1 v99 v100 v101 v102 v103 v104 v105) k = s_span_Gaps_10 cp n p1 v99 v100 v101 v102 v103 v104 v105 (XI cp n (y_span_Gaps_6 cp n) c (fr_span_Gaps_11 p1 v99 v100 v101 v102 v103 v104 v105) k) (k (.exit 0) (fr_span_Gaps_12 p1 v99 v100 v101 v104 v105)) from by kernel_rfl)) i_span_Gaps_10).trans (congrArg (fun q => s_span_Gaps_10 cp n p1 v99 v100 v101 v102 v103 v104 v105 q (k (.exit 0) (fr_span_Gaps_12 p1 v99 v100 v101 v104 v105))) ((s_span_Gaps_36_t cp n p1 v99 v100 v101 v102 v103 v104 v105 k).trans (show s_span_Gaps_36 cp n p1 v99 v100 v101 v102 v103 v104 v105 (fun v120 v121 v122 => k .norm (fr_span_Gaps_35 p1 v99 v100 v101 v102 v120 v121 v122)) = s_span_Gaps_36 cp n p1 v99 v100 v101 v102 v103 v104 v105 (fun v120 v121 v122 => k .norm (fr_span_Gaps_37 p1 v99 v100 v101 v102 v120 v121 v122)) from by kernel_rfl)))
def fr_span_Gaps_39 (p1 : SSpan) (v99 : (List SSpan)) (v100 v101 : Int) (v126 : (List SSpan)) (v127 : Int) : FF := [dc, dc, dc, dc, (.hdr 2) :: ((eSpan p1) ++ ((.hdr 1) :: (.row true (.rSpan v126)) :: (.hdr 1) :: (tL v127) :: (dT 3 ((.hdr 1) :: (.row false (.rSpan v99)) :: (.hdr 2) :: (tL v100) :: (tL v101) :: (dT 1 []))))), dc]
theorem l_span_Gaps_40_t {R : Type} (cp : Nat → Nat → Bool) (n : Nat) : ∀ (m : Nat) (p1 : SSpan) (v99 : (List SSpan)) (v100 v101 v102 v103 : Int) (v104 : (List SSpan)) (v105 : Int) (k : Ex → FF → Option R), loopN2 (XI cp n (y_span_Gaps_6 cp n) i_span_Gaps_11) m (fr_span_Gaps_11 p1 v99 v100 v101 v102 v103 v104 v105) k = l_span_Gaps_40 cp n m p1 v99 v100 v101 v102 v103 v104 v105 (fun v126 v127 => k (.exit 0) (fr_span_Gaps_39 p1 v99 v100 v101 v126 v127))
  | 0, _, _, _, _, _, _, _, _, _ => rfl
  | m + 1, p1, v99, v100, v101, v102, v103, v104, v105, k => (loopN2_succ (XI cp n (y_span_Gaps_6 cp n) i_span_Gaps_11) m (fr_span_Gaps_11 p1 v99 v100 v101 v102 v103 v104 v105) k).trans ((s_span_Gaps_38_t cp n p1 v99 v100 v101 v102 v103 v104 v105 (loopT (XI cp n (y_span_Gaps_6 cp n) i_span_Gaps_11) m k)).trans ((show s_span_Gaps_38 cp n p1 v99 v100 v101 v102 v103 v104 v105 (fun v123 v124 v125 => loopT (XI cp n (y_span_Gaps_6 cp n) i_span_Gaps_11) m k .norm (fr_span_Gaps_37 p1 v99 v100 v101 v102 v123 v124 v125)) (loopT (XI cp n (y_span_Gaps_6 cp n) i_span_Gaps_11) m k (.exit 0) (fr_span_Gaps_12 p1 v99 v100 v101 v104 v105)) = s_span_Gaps_38 cp n p1 v99 v100 v101 v102 v103 v104 v105 (fun v123 v124 v125 => loopN2 (XI cp n (y_span_Gaps_6 cp n) i_span_Gaps_11) m (fr_span_Gaps_11 p1 v99 v100 v101 v102 v123 v124 v125) k) (k (.exit 0) (fr_span_Gaps_39 p1 v99 v100 v101 v104 v105)) from by kernel_rfl).trans (congrArg (fun q => s_span_Gaps_38 cp n p1 v99 v100 v101 v102 v103 v104 v105 q (k (.exit 0) (fr_span_Gaps_39 p1 v99 v100 v101 v104 v105))) (funext fun v123 => funext fun v124 => funext fun v125 => l_span_Gaps_40_t cp n m p1 v99 v100 v101 v102 v123 v124 v125 k))))
theorem s_span_Gaps_41_t {R : Type} (cp : Nat → Nat → Bool) (n : Nat) (p1 : SSpan) (v99 : (List SSpan)) (v100 v101 v102 : Int) (k : Ex → FF → Option R) : XI cp n (y_span_Gaps_6 cp n) i_span_Gaps_12 (fr_span_Gaps_9 p1 v99 v100 v101 v102) k = s_span_Gaps_41 cp n p1 v99 v100 v101 v102 (fun v126 v127 => k (.exit 0) (fr_span_Gaps_39 p1 v99 v100 v101 v126 v127)) := (show XI cp n (y_span_Gaps_6 cp n) i_span_Gaps_12 (fr_span_Gaps_9 p1 v99 v100 v101 v102) k = loopN2 (XI cp n (y_span_Gaps_6 cp n) i_span_Gaps_11) n (fr_span_Gaps_11 p1 v99 v100 v101 v102 0 [] p1.xFrom) k from by kernel_rfl).trans (l_span_Gaps_40_t cp n n p1 v99 v100 v101 v102 0 [] p1.xFrom k)
def fr_span_Gaps_42 (p1 : SSpan) (v99 : (List SSpan)) (v100 v101 : Int) (v128 : (List SSpan)) (v129 : Int) : FF := [dc, dc, dc, dc, (.hdr 2) :: ((eSpan p1) ++ ((.hdr 1) :: (.row true (.rSpan v128)) :: (.hdr 1) :: (tL v129) :: (dT 3 ((.hdr 1) :: (.row false (.rSpan v99)) :: (.hdr 2) :: (tL v100) :: (tL v101) :: (dT 1 []))))), dc]
theorem s_span_Gaps_43_t {R : Type} (cp : Nat → Nat → Bool) (n : Nat) (p1 : SSpan) (v99 : (List SSpan)) (v100 v101 v102 : Int) (k : Ex → FF → Option R) : XI cp n (y_span_Gaps_6 cp n) i_span_Gaps_13 (fr_span_Gaps_9 p1 v99 v100 v101 v102) k = s_span_Gaps_43 cp n p1 v99 v100 v101 v102 (fun v128 v129 => k .norm (fr_span_Gaps_42 p1 v99 v100 v101 v128 v129)) := (show XI cp n (y_span_Gaps_6 cp n) i_span_Gaps_13 (fr_span_Gaps_9 p1 v99 v100 v101 v102) k = XI cp n (y_span_Gaps_6 cp n) i_span_Gaps_12 (fr_span_Gaps_9 p1 v99 v100 v101 v102) (blkT 0 k) from by kernel_rfl).trans ((s_span_Gaps_41_t cp n p1 v99 v100 v101 v102 (blkT 0 k)).trans (by kernel_rfl))
end
end Go.Proofs.Ytilmdmjhdidoiaa.M
