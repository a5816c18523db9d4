/- The machine's code of the functions, and that it computes them. -/
import Derived.Test.YtfdopmobhphdbaaG0
import Derived.Test.YtfdopmobhphdbaaProg
import Derived.KernelRfl
set_option maxRecDepth 100000
set_option linter.unusedVariables false
set_option linter.unusedSimpArgs false
namespace Go.Proofs.Ytfdopmobhphdbaa.M
open Go
noncomputable section
def X {R : Type} (cp : Nat → Nat → Bool) (n : Nat) (c : IC2 RW) (l : Fr) (k : Ex → Fr → Option R) : Option R := exec2 U cp (callP cp n) n c l k
def o0 (op : IOp2 RW) : IStep2 RW := ⟨none, op, none, false⟩
def o1 (d : Nat) (op : IOp2 RW) : IStep2 RW := ⟨some d, op, none, false⟩
def o2 (d : Nat) (op : IOp2 RW) : IStep2 RW := ⟨some d, op, none, true⟩
def o3 (d g : Nat) (b : Bool) (op : IOp2 RW) : IStep2 RW := ⟨some d, op, some (g, b), false⟩
def g_seq_Diff_0 : List (IStep2 RW) := [o1 4 (.mv false (.k (.sc (.int .i64 0))))]
def g_seq_Diff_1 : List (IStep2 RW) := [o1 5 (.mv false (.s 1)),
  o1 6 (.mv false (.s 0)),
  o1 7 (.bin .sub (.s 5) (.s 6)),
  o1 8 (.conv .i32 (.s 7)),
  o1 9 (.conv .i64 (.s 8)),
  o1 4 (.mv false (.s 9))]
def i_seq_Diff_0 : IC2 RW := .seq (.fin (.reg g_seq_Diff_0) [4] []) (.seq (.fin (.reg g_seq_Diff_1) [0, 1, 5, 6, 7, 8, 9] []) (.ret))
def fn_seq_Diff : IFn2 RW := ⟨11, 2, 10, 10, [], [], [.slot 4], i_seq_Diff_0⟩
def g_seq_Sum_0 : List (IStep2 RW) := [o1 4 (.mv false (.k (.sc (.int .i64 0))))]
def g_seq_Sum_1 : List (IStep2 RW) := [o1 6 (.mv false (.s 0)),
  o1 7 (.mv false (.s 1)),
  o1 8 (.bin .add (.s 6) (.s 7)),
  o1 5 (.mv false (.s 8))]
def g_seq_Sum_2 : List (IStep2 RW) := [o1 10 (.mv false (.s 0)),
  o1 11 (.bin .gtr (.s 10) (.k (.sc (.int .i64 0)))),
  o2 12 (.mv false (.s 11)),
  o3 13 12 true (.mv false (.s 1)),
  o3 14 12 true (.bin .gtr (.s 13) (.k (.sc (.int .i64 0)))),
  o1 15 (.pick (.s 12) (.s 14) (.k (.sc (.bool false)))),
  o2 16 (.mv false (.s 15)),
  o3 17 16 true (.mv false (.s 5)),
  o3 18 16 true (.bin .lss (.s 17) (.k (.sc (.int .i64 0)))),
  o1 19 (.pick (.s 16) (.s 18) (.k (.sc (.bool false)))),
  o1 9 (.mv false (.s 19))]
def g_seq_Sum_3 : List (IStep2 RW) := [o1 4 (.mv false (.k (.sc (.int .i64 9223372036854775807))))]
def g_seq_Sum_4 : List (IStep2 RW) := [o1 21 (.mv false (.s 0)),
  o1 22 (.bin .lss (.s 21) (.k (.sc (.int .i64 0)))),
  o2 23 (.mv false (.s 22)),
  o3 24 23 true (.mv false (.s 1)),
  o3 25 23 true (.bin .lss (.s 24) (.k (.sc (.int .i64 0)))),
  o1 26 (.pick (.s 23) (.s 25) (.k (.sc (.bool false)))),
  o2 27 (.mv false (.s 26)),
  o3 28 27 true (.mv false (.s 5)),
  o3 29 27 true (.bin .geq (.s 28) (.k (.sc (.int .i64 0)))),
  o1 30 (.pick (.s 27) (.s 29) (.k (.sc (.bool false)))),
  o1 20 (.mv false (.s 30))]
def g_seq_Sum_5 : List (IStep2 RW) := [o1 4 (.mv false (.k (.sc (.int .i64 (-9223372036854775808)))))]
def g_seq_Sum_6 : List (IStep2 RW) := [o1 31 (.mv false (.s 5)),
  o1 4 (.mv false (.s 31))]
def i_seq_Sum_0 : IC2 RW := .seq (.fin (.reg g_seq_Sum_0) [4] []) (.seq (.fin (.reg g_seq_Sum_1) [6, 7, 8] []) (.seq (.blk 0 (.seq (.fin (.reg g_seq_Sum_2) [10, 11, 12, 13, 14, 15, 16, 17, 18, 19] []) (.cond (.s 9) (.seq (.fin (.reg g_seq_Sum_3) [0, 1, 5, 9] []) (.ret)) (.seq (.fin (.reg g_seq_Sum_4) [0, 1, 9, 21, 22, 23, 24, 25, 26, 27, 28, 29, 30] []) (.fin (.cond (.s 20) (.seq (.fin (.reg g_seq_Sum_5) [5, 20] []) (.ret)) (.skip)) [20] []))))) (.seq (.fin (.reg g_seq_Sum_6) [5, 31] []) (.ret))))
def fn_seq_Sum : IFn2 RW := ⟨19, 2, 32, 32, [], [], [.slot 4], i_seq_Sum_0⟩
def g_seq_Unwrap_0 : List (IStep2 RW) := [o1 4 (.mv false (.k (.sc (.int .i64 0))))]
def g_seq_Unwrap_1 : List (IStep2 RW) := [o1 5 (.mv false (.s 0)),
  o1 6 (.mv false (.s 0)),
  o1 7 (.conv .u32 (.s 6)),
  o1 8 (.mv false (.s 1)),
  o1 9 (.call 11 [(false, .s 7), (false, .s 8)] []),
  o1 10 (.call 19 [(false, .s 5), (false, .s 9)] []),
  o1 4 (.mv false (.s 10))]
def i_seq_Unwrap_0 : IC2 RW := .seq (.fin (.reg g_seq_Unwrap_0) [4] []) (.seq (.fin (.reg g_seq_Unwrap_1) [0, 1, 5, 6, 7, 8, 9, 10] []) (.ret))
def fn_seq_Unwrap : IFn2 RW := ⟨14, 2, 11, 11, [], [], [.slot 4], i_seq_Unwrap_0⟩
def g_ack_counts_0 : List (IStep2 RW) := [o1 2 (.box 73 9 false (.s 0)),
  o1 3 (.box 83 15 false (.s 1)),
  o1 4 (.mv false (.k (.sc (.int .i64 0)))),
  o1 5 (.mv false (.k (.sc (.bool false))))]
def g_ack_counts_1 : List (IStep2 RW) := [o1 7 (.fld 0 (.s 2)),
  o1 8 (.load 73 0 1 false false 7),
  o1 9 (.bin .lss (.s 8) (.k (.sc (.int .i64 0)))),
  o2 10 (.mv false (.s 9)),
  o3 11 10 false (.fld 0 (.s 2)),
  o3 12 10 false (.load 73 0 1 false false 11),
  o3 13 10 false (.fld 1 (.s 2)),
  o3 14 10 false (.load 73 1 1 false false 13),
  o3 15 10 false (.bin .gtr (.s 12) (.s 14)),
  o1 16 (.pick (.s 10) (.k (.sc (.bool true))) (.s 15)),
  o2 17 (.mv false (.s 16)),
  o3 18 17 false (.fld 1 (.s 2)),
  o3 19 17 false (.load 73 1 1 false false 18),
  o3 20 17 false (.bin .gtr (.s 19) (.k (.sc (.int .i64 1125899906842625)))),
  o1 21 (.pick (.s 17) (.k (.sc (.bool true))) (.s 20)),
  o2 22 (.mv false (.s 21)),
  o3 23 22 false (.fld 4 (.s 3)),
  o3 24 22 false (.load 83 4 1 false false 23),
  o3 25 22 false (.bin .and (.s 24) (.k (.sc (.int .i64 22)))),
  o3 26 22 false (.bin .neq (.s 25) (.k (.sc (.int .i64 16)))),
  o1 27 (.pick (.s 22) (.k (.sc (.bool true))) (.s 26))]
def g_ack_counts_2 : List (IStep2 RW) := [o1 4 (.mv false (.k (.sc (.int .i64 0)))),
  o1 5 (.mv false (.k (.sc (.bool false))))]
def g_ack_counts_3 : List (IStep2 RW) := [o1 28 (.fld 5 (.s 2)),
  o1 29 (.load 73 5 1 false false 28),
  o2 30 (.mv false (.s 29)),
  o3 31 30 true (.fld 10 (.s 3)),
  o3 32 30 true (.load 83 10 1 false false 31),
  o3 33 30 true (.un .not (.s 32)),
  ⟨some 34, .mv false (.s 33), (some (30, true)), true⟩,
  o3 35 34 false (.fld 6 (.s 2)),
  o3 36 34 false (.load 73 6 1 false false 35),
  o3 37 34 false (.fld 11 (.s 3)),
  o3 38 34 false (.load 83 11 1 false false 37),
  o3 39 34 false (.call 11 [(false, .s 36), (false, .s 38)] []),
  o3 40 34 false (.bin .lss (.s 39) (.k (.sc (.int .i64 0)))),
  o3 41 30 true (.pick (.s 34) (.k (.sc (.bool true))) (.s 40)),
  o1 42 (.pick (.s 30) (.s 41) (.k (.sc (.bool false))))]
def g_ack_counts_4 : List (IStep2 RW) := [o1 4 (.mv false (.k (.sc (.int .i64 0)))),
  o1 5 (.mv false (.k (.sc (.bool false))))]
def g_ack_counts_5 : List (IStep2 RW) := [o1 43 (.fld 0 (.s 2)),
  o1 44 (.load 73 0 1 false false 43),
  o1 45 (.fld 3 (.s 3)),
  o1 46 (.load 83 3 1 false false 45),
  o1 47 (.fld 2 (.s 2)),
  o1 48 (.load 73 2 1 false false 47),
  o1 49 (.bin .sub (.s 46) (.s 48)),
  o1 50 (.call 14 [(false, .s 44), (false, .s 49)] []),
  o1 6 (.mv false (.s 50))]
def g_ack_counts_6 : List (IStep2 RW) := [o1 51 (.mv false (.s 6)),
  o1 52 (.fld 3 (.s 2)),
  o1 53 (.load 73 3 1 false false 52),
  o1 54 (.fld 2 (.s 3)),
  o1 55 (.load 83 2 1 false false 54),
  o1 56 (.fld 4 (.s 2)),
  o1 57 (.load 73 4 1 false false 56),
  o1 58 (.bin .sub (.s 55) (.s 57)),
  o1 59 (.call 14 [(false, .s 53), (false, .s 58)] []),
  o1 60 (.fld 3 (.s 2)),
  o1 61 (.load 73 3 1 false false 60),
  o1 62 (.bin .eql (.s 59) (.s 61)),
  o2 63 (.mv false (.s 62)),
  o3 64 63 true (.mv false (.s 6)),
  o3 65 63 true (.bin .geq (.s 64) (.k (.sc (.int .i64 0)))),
  o1 66 (.pick (.s 63) (.s 65) (.k (.sc (.bool false)))),
  o2 67 (.mv false (.s 66)),
  o3 68 67 true (.mv false (.s 6)),
  o3 69 67 true (.fld 1 (.s 2)),
  o3 70 67 true (.load 73 1 1 false false 69),
  o3 71 67 true (.bin .leq (.s 68) (.s 70)),
  o1 72 (.pick (.s 67) (.s 71) (.k (.sc (.bool false)))),
  o1 4 (.mv false (.s 51)),
  o1 5 (.mv false (.s 72))]
def i_ack_counts_0 : IC2 RW := .seq (.fin (.reg g_ack_counts_0) [0, 1, 4, 5] []) (.seq (.seq (.fin (.reg g_ack_counts_1) [7, 8, 9, 10, 11, 12, 13, 14, 15, 16, 17, 18, 19, 20, 21, 22, 23, 24, 25, 26] []) (.fin (.cond (.s 27) (.seq (.fin (.reg g_ack_counts_2) [2, 3, 27] [(73, 9), (83, 15)]) (.ret)) (.skip)) [27] [])) (.seq (.seq (.fin (.reg g_ack_counts_3) [28, 29, 30, 31, 32, 33, 34, 35, 36, 37, 38, 39, 40, 41] []) (.fin (.cond (.s 42) (.seq (.fin (.reg g_ack_counts_4) [2, 3, 42] [(73, 9), (83, 15)]) (.ret)) (.skip)) [42] [])) (.seq (.fin (.reg g_ack_counts_5) [43, 44, 45, 46, 47, 48, 49, 50] []) (.seq (.fin (.reg g_ack_counts_6) [2, 3, 6, 51, 52, 53, 54, 55, 56, 57, 58, 59, 60, 61, 62, 63, 64, 65, 66, 67, 68, 69, 70, 71, 72] [(73, 9), (83, 15)]) (.ret)))))
def fn_ack_counts : IFn2 RW := ⟨10, 2, 73, 99, [(73, 9), (83, 15)], [], [.slot 4, .slot 5], i_ack_counts_0⟩
def g_ack_Weigh_1_0 : List (IStep2 RW) := [o1 3 (.mv false (.k (.sc (.int .i64 0))))]
def g_ack_Weigh_1_1 : List (IStep2 RW) := [o1 4 (.fld 0 (.s 1)),
  o1 5 (.load 11 0 1 false false 4),
  o1 6 (.mv false (.s 0)),
  o1 7 (.fld 2 (.s 1)),
  o1 8 (.load 11 2 1 false false 7),
  o1 9 (.bin .sub (.s 6) (.s 8)),
  o1 10 (.call 14 [(false, .s 5), (false, .s 9)] []),
  o1 3 (.mv false (.s 10))]
def i_ack_Weigh_1_0 : IC2 RW := .seq (.fin (.reg g_ack_Weigh_1_0) [3] []) (.seq (.fin (.reg g_ack_Weigh_1_1) [0, 1, 4, 5, 6, 7, 8, 9, 10] []) (.ret))
def fn_ack_Weigh_1 : IFn2 RW := ⟨13, 2, 11, 21, [(11, 9)], [(11, 9)], [.slot 3], i_ack_Weigh_1_0⟩
def g_ack_offsets_0 : List (IStep2 RW) := [o1 4 (.mv true (.k (.row true (.rSpan []))))]
def i_ack_offsets_0 : IC2 RW := .fin (.reg g_ack_offsets_0) [4] []
def g_ack_offsets_1 : List (IStep2 RW) := [o1 5 (.mv true (.k (.row true (.rSpan []))))]
def i_ack_offsets_1 : IC2 RW := .reg g_ack_offsets_1
def g_ack_offsets_2 : List (IStep2 RW) := [o1 9 (.mv false (.s 0)),
  o1 10 (.len false (.s 9)),
  o1 11 (.mv false (.k (.sc (.int .i64 0))))]
def i_ack_offsets_2 : IC2 RW := .fin (.reg g_ack_offsets_2) [0] []
def g_ack_offsets_3 : List (IStep2 RW) := [o1 12 (.bin .lss (.s 11) (.s 10))]
def g_ack_offsets_4 : List (IStep2 RW) := [o1 13 (.idx 2 (.s 9) (.s 11)),
  o1 14 (.loade 2 true 13),
  o1 7 (.alloc 44 [.sc (.int .u32 0), .sc (.int .u32 0)]),
  o0 (.store 44 0 2 false 7 (.s 14))]
def g_ack_offsets_5 : List (IStep2 RW) := [o1 15 (.mv false (.s 1)),
  o1 16 (.fld 0 (.s 7)),
  o1 17 (.load 44 0 1 false false 16),
  o1 18 (.callv (.s 15) 13 1007 [(false, .s 17)] [(34, 9, 11)]),
  o1 19 (.mv false (.s 1)),
  o1 20 (.fld 1 (.s 7)),
  o1 21 (.load 44 1 1 false false 20),
  o1 22 (.callv (.s 19) 13 1007 [(false, .s 21)] [(34, 9, 11)]),
  o1 23 (.build [.sc (.int .i64 0), .sc (.int .i64 0)] [(0, 1, .s 18), (1, 1, .s 22)]),
  o1 8 (.alloc 47 [.sc (.int .i64 0), .sc (.int .i64 0)]),
  o0 (.store 47 0 2 false 8 (.s 23))]
def g_ack_offsets_6 : List (IStep2 RW) := [o1 24 (.mv true (.s 5)),
  o1 25 (.fld 0 (.s 8)),
  o1 26 (.load 47 0 1 false false 25),
  o1 27 (.fld 1 (.s 8)),
  o1 28 (.load 47 1 1 false false 27),
  o1 29 (.build [.sc (.int .i64 0), .sc (.int .i64 0)] [(0, 1, .s 26), (1, 1, .s 28)]),
  o1 30 (.bslice 39 1 [(0, 2, .s 29)]),
  o1 31 (.app 2 16 true (.s 24) (.s 30)),
  o1 5 (.mv true (.s 31))]
def g_ack_offsets_7 : List (IStep2 RW) := [o1 32 (.bin .add (.s 11) (.k (.sc (.int .i64 1)))),
  o1 11 (.mv false (.s 32))]
def i_ack_offsets_3 : IC2 RW := .seq (.reg g_ack_offsets_3) (.seq (.fin (.cond (.s 12) (.skip) (.clr [1, 9, 10, 11, 12] [] (.exit 0))) [12] []) (.seq (.blk 1 (.seq (.fin (.reg g_ack_offsets_4) [13, 14] []) (.seq (.fin (.reg g_ack_offsets_5) [7, 15, 16, 17, 18, 19, 20, 21, 22, 23] [(44, 2)]) (.fin (.reg g_ack_offsets_6) [8, 24, 25, 26, 27, 28, 29, 30, 31] [(47, 2)])))) (.fin (.reg g_ack_offsets_7) [32] [])))
def i_ack_offsets_4 : IC2 RW := .loop i_ack_offsets_3
def i_ack_offsets_5 : IC2 RW := .blk 0 i_ack_offsets_4
def i_ack_offsets_6 : IC2 RW := .seq i_ack_offsets_2 i_ack_offsets_5
def g_ack_offsets_8 : List (IStep2 RW) := [o1 33 (.mv true (.s 5)),
  o1 4 (.mv true (.s 33))]
def i_ack_offsets_7 : IC2 RW := .seq (.fin (.reg g_ack_offsets_8) [5, 33] []) (.ret)
def i_ack_offsets_8 : IC2 RW := .seq i_ack_offsets_6 i_ack_offsets_7
def i_ack_offsets_9 : IC2 RW := .seq i_ack_offsets_1 i_ack_offsets_8
def i_ack_offsets_10 : IC2 RW := .seq i_ack_offsets_0 i_ack_offsets_9
def fn_ack_offsets : IFn2 RW := ⟨12, 2, 34, 50, [(34, 9), (44, 2), (47, 2)], [(34, 9)], [.slot 4], i_ack_offsets_10⟩
def g_ack_twice_0 : List (IStep2 RW) := [o1 4 (.mv false (.k (.sc (.bool false))))]
def g_ack_twice_1 : List (IStep2 RW) := [o1 5 (.mv false (.s 0)),
  o1 6 (.len false (.s 5)),
  o1 7 (.bin .eql (.s 6) (.k (.sc (.int .i64 0)))),
  o2 8 (.mv false (.s 7)),
  o3 9 8 false (.mv false (.s 0)),
  o3 10 8 false (.idx 2 (.s 9) (.k (.sc (.int .i64 0)))),
  o3 11 8 false (.fld 0 (.s 10)),
  o3 12 8 false (.loade 1 false 11),
  o3 13 8 false (.mv false (.s 0)),
  o3 14 8 false (.idx 2 (.s 13) (.k (.sc (.int .i64 0)))),
  o3 15 8 false (.fld 1 (.s 14)),
  o3 16 8 false (.loade 1 false 15),
  o3 17 8 false (.bin .geq (.s 12) (.s 16)),
  o1 18 (.pick (.s 8) (.k (.sc (.bool true))) (.s 17))]
def g_ack_twice_2 : List (IStep2 RW) := [o1 4 (.mv false (.k (.sc (.bool false))))]
def g_ack_twice_3 : List (IStep2 RW) := [o1 19 (.mv false (.s 0)),
  o1 20 (.idx 2 (.s 19) (.k (.sc (.int .i64 0)))),
  o1 21 (.fld 1 (.s 20)),
  o1 22 (.loade 1 false 21),
  o1 23 (.mv false (.s 1)),
  o1 24 (.bin .leq (.s 22) (.s 23)),
  o2 25 (.mv false (.s 24)),
  o3 26 25 false (.mv false (.s 0)),
  o3 27 25 false (.len false (.s 26)),
  o3 28 25 false (.bin .gtr (.s 27) (.k (.sc (.int .i64 1)))),
  ⟨some 29, .mv false (.s 28), (some (25, false)), true⟩,
  o3 30 29 true (.mv false (.s 0)),
  o3 31 29 true (.idx 2 (.s 30) (.k (.sc (.int .i64 1)))),
  o3 32 29 true (.fld 0 (.s 31)),
  o3 33 29 true (.loade 1 false 32),
  o3 34 29 true (.mv false (.s 0)),
  o3 35 29 true (.idx 2 (.s 34) (.k (.sc (.int .i64 0)))),
  o3 36 29 true (.fld 0 (.s 35)),
  o3 37 29 true (.loade 1 false 36),
  o3 38 29 true (.bin .leq (.s 33) (.s 37)),
  o3 39 25 false (.pick (.s 29) (.s 38) (.k (.sc (.bool false)))),
  ⟨some 40, .mv false (.s 39), (some (25, false)), true⟩,
  o3 41 40 true (.mv false (.s 0)),
  o3 42 40 true (.idx 2 (.s 41) (.k (.sc (.int .i64 0)))),
  o3 43 40 true (.fld 1 (.s 42)),
  o3 44 40 true (.loade 1 false 43),
  o3 45 40 true (.mv false (.s 0)),
  o3 46 40 true (.idx 2 (.s 45) (.k (.sc (.int .i64 1)))),
  o3 47 40 true (.fld 1 (.s 46)),
  o3 48 40 true (.loade 1 false 47),
  o3 49 40 true (.bin .leq (.s 44) (.s 48)),
  o3 50 25 false (.pick (.s 40) (.s 49) (.k (.sc (.bool false)))),
  o1 51 (.pick (.s 25) (.k (.sc (.bool true))) (.s 50)),
  o1 4 (.mv false (.s 51))]
def i_ack_twice_0 : IC2 RW := .seq (.fin (.reg g_ack_twice_0) [4] []) (.seq (.seq (.fin (.reg g_ack_twice_1) [5, 6, 7, 8, 9, 10, 11, 12, 13, 14, 15, 16, 17] []) (.fin (.cond (.s 18) (.seq (.fin (.reg g_ack_twice_2) [0, 1, 18] []) (.ret)) (.skip)) [18] [])) (.seq (.fin (.reg g_ack_twice_3) [0, 1, 19, 20, 21, 22, 23, 24, 25, 26, 27, 28, 29, 30, 31, 32, 33, 34, 35, 36, 37, 38, 39, 40, 41, 42, 43, 44, 45, 46, 47, 48, 49, 50, 51] []) (.ret)))
def fn_ack_twice : IFn2 RW := ⟨15, 2, 52, 52, [], [], [.slot 4], i_ack_twice_0⟩
def g_span_may_0 : List (IStep2 RW) := [o1 1 (.box 18 2 false (.s 0)),
  o1 2 (.mv false (.k (.sc (.bool false))))]
def g_span_may_1 : List (IStep2 RW) := [o1 3 (.fld 0 (.s 1)),
  o1 4 (.load 18 0 1 false false 3),
  o1 5 (.bin .geq (.s 4) (.k (.sc (.int .i64 0)))),
  o2 6 (.mv false (.s 5)),
  o3 7 6 true (.fld 0 (.s 1)),
  o3 8 6 true (.load 18 0 1 false false 7),
  o3 9 6 true (.fld 1 (.s 1)),
  o3 10 6 true (.load 18 1 1 false false 9),
  o3 11 6 true (.bin .leq (.s 8) (.s 10)),
  o1 12 (.pick (.s 6) (.s 11) (.k (.sc (.bool false)))),
  o2 13 (.mv false (.s 12)),
  o3 14 13 true (.fld 1 (.s 1)),
  o3 15 13 true (.load 18 1 1 false false 14),
  o3 16 13 true (.bin .leq (.s 15) (.k (.sc (.int .i64 1125899906842624)))),
  o1 17 (.pick (.s 13) (.s 16) (.k (.sc (.bool false)))),
  o1 2 (.mv false (.s 17))]
def i_span_may_0 : IC2 RW := .seq (.fin (.reg g_span_may_0) [0, 2] []) (.seq (.fin (.reg g_span_may_1) [1, 3, 4, 5, 6, 7, 8, 9, 10, 11, 12, 13, 14, 15, 16, 17] [(18, 2)]) (.ret))
def fn_span_may : IFn2 RW := ⟨18, 1, 18, 21, [(18, 2)], [], [.slot 2], i_span_may_0⟩
def g_span_Check_0 : List (IStep2 RW) := [o1 2 (.mv false (.k (.sc (.int .i64 0))))]
def i_span_Check_0 : IC2 RW := .fin (.reg g_span_Check_0) [2] []
def g_span_Check_1 : List (IStep2 RW) := [o1 5 (.mv false (.s 0)),
  o1 6 (.len false (.s 5)),
  o1 7 (.mv false (.k (.sc (.int .i64 0))))]
def i_span_Check_1 : IC2 RW := .reg g_span_Check_1
def g_span_Check_2 : List (IStep2 RW) := [o1 8 (.bin .lss (.s 7) (.s 6))]
def g_span_Check_3 : List (IStep2 RW) := [o1 9 (.mv false (.s 7)),
  o1 10 (.idx 2 (.s 5) (.s 7)),
  o1 11 (.loade 2 true 10),
  o1 4 (.alloc 38 [.sc (.int .i64 0), .sc (.int .i64 0)]),
  o1 3 (.mv false (.s 9)),
  o0 (.store 38 0 2 false 4 (.s 11))]
def g_span_Check_4 : List (IStep2 RW) := [o1 12 (.load 38 0 2 true false 4),
  o1 13 (.call 18 [(false, .s 12)] []),
  o1 14 (.un .not (.s 13)),
  o2 15 (.mv false (.s 14)),
  o3 16 15 false (.fld 0 (.s 4)),
  o3 17 15 false (.load 38 0 1 false false 16),
  o3 18 15 false (.fld 1 (.s 4)),
  o3 19 15 false (.load 38 1 1 false false 18),
  o3 20 15 false (.bin .eql (.s 17) (.s 19)),
  o1 21 (.pick (.s 15) (.k (.sc (.bool true))) (.s 20)),
  o2 22 (.mv false (.s 21)),
  o3 23 22 false (.mv false (.s 3)),
  o3 24 22 false (.bin .gtr (.s 23) (.k (.sc (.int .i64 0)))),
  ⟨some 25, .mv false (.s 24), (some (22, false)), true⟩,
  o3 26 25 true (.mv false (.s 0)),
  o3 27 25 true (.mv false (.s 3)),
  o3 28 25 true (.bin .sub (.s 27) (.k (.sc (.int .i64 1)))),
  o3 29 25 true (.idx 2 (.s 26) (.s 28)),
  o3 30 25 true (.fld 1 (.s 29)),
  o3 31 25 true (.loade 1 false 30),
  o3 32 25 true (.fld 0 (.s 4)),
  o3 33 25 true (.load 38 0 1 false false 32),
  o3 34 25 true (.bin .geq (.s 31) (.s 33)),
  o3 35 22 false (.pick (.s 25) (.s 34) (.k (.sc (.bool false)))),
  o1 36 (.pick (.s 22) (.k (.sc (.bool true))) (.s 35))]
def g_span_Check_5 : List (IStep2 RW) := [o1 2 (.mv false (.k (.sc (.int .i64 60))))]
def g_span_Check_6 : List (IStep2 RW) := [o1 37 (.bin .add (.s 7) (.k (.sc (.int .i64 1)))),
  o1 7 (.mv false (.s 37))]
def i_span_Check_2 : IC2 RW := .seq (.reg g_span_Check_2) (.seq (.fin (.cond (.s 8) (.skip) (.clr [0, 5, 6, 7, 8] [] (.exit 0))) [8] []) (.seq (.blk 1 (.seq (.fin (.reg g_span_Check_3) [9, 10, 11] []) (.seq (.fin (.reg g_span_Check_4) [3, 4, 12, 13, 14, 15, 16, 17, 18, 19, 20, 21, 22, 23, 24, 25, 26, 27, 28, 29, 30, 31, 32, 33, 34, 35] [(38, 2)]) (.fin (.cond (.s 36) (.seq (.fin (.reg g_span_Check_5) [0, 5, 6, 7, 36] []) (.ret)) (.skip)) [36] [])))) (.fin (.reg g_span_Check_6) [37] [])))
def i_span_Check_3 : IC2 RW := .loop i_span_Check_2
def i_span_Check_4 : IC2 RW := .blk 0 i_span_Check_3
def i_span_Check_5 : IC2 RW := .seq i_span_Check_1 i_span_Check_4
def g_span_Check_7 : List (IStep2 RW) := [o1 2 (.mv false (.k (.sc (.int .i64 0))))]
def i_span_Check_6 : IC2 RW := .seq (.reg g_span_Check_7) (.ret)
def i_span_Check_7 : IC2 RW := .seq i_span_Check_5 i_span_Check_6
def i_span_Check_8 : IC2 RW := .seq i_span_Check_0 i_span_Check_7
def fn_span_Check : IFn2 RW := ⟨9, 1, 38, 41, [(38, 2)], [], [.slot 2], i_span_Check_8⟩
def g_span_right_0 : List (IStep2 RW) := [o1 3 (.box 14 2 false (.s 1)),
  o1 4 (.mv false (.k (.sc (.int .i64 0))))]
def g_span_right_1 : List (IStep2 RW) := [o1 6 (.mv false (.s 0)),
  o1 7 (.call 9 [(false, .s 6)] []),
  o1 5 (.mv false (.s 7))]
def g_span_right_2 : List (IStep2 RW) := [o1 8 (.mv false (.s 5)),
  o1 9 (.bin .neq (.s 8) (.k (.sc (.int .i64 0))))]
def g_span_right_3 : List (IStep2 RW) := [o1 10 (.mv false (.s 5)),
  o1 4 (.mv false (.s 10))]
def g_span_right_4 : List (IStep2 RW) := [o1 11 (.load 14 0 2 true false 3),
  o1 12 (.call 18 [(false, .s 11)] []),
  o1 13 (.un .not (.s 12))]
def g_span_right_5 : List (IStep2 RW) := [o1 4 (.mv false (.k (.sc (.int .i64 2))))]
def g_span_right_6 : List (IStep2 RW) := [o1 4 (.mv false (.k (.sc (.int .i64 0))))]
def i_span_right_0 : IC2 RW := .seq (.fin (.reg g_span_right_0) [1, 4] []) (.seq (.seq (.fin (.reg g_span_right_1) [0, 6, 7] []) (.seq (.fin (.reg g_span_right_2) [8] []) (.fin (.cond (.s 9) (.seq (.fin (.reg g_span_right_3) [3, 5, 9, 10] [(14, 2)]) (.ret)) (.skip)) [5, 9] []))) (.seq (.seq (.fin (.reg g_span_right_4) [3, 11, 12] [(14, 2)]) (.fin (.cond (.s 13) (.seq (.fin (.reg g_span_right_5) [13] []) (.ret)) (.skip)) [13] [])) (.seq (.reg g_span_right_6) (.ret))))
def fn_span_right : IFn2 RW := ⟨20, 2, 14, 17, [(14, 2)], [], [.slot 4], i_span_right_0⟩
/-! slices.Clone[[]tideway/api.Span,tideway/api.Span] -/
def g_slices_Clone_Span_0 : List IStep := [⟨(some 2), .mv true (.k (.row true 2 0 (fun _ => [.sc (.int .i64 0), .sc (.int .i64 0)]))), none, false⟩]
def g_slices_Clone_Span_1 : List IStep := [⟨(some 3), .mv false (.s 0), none, false⟩,
  ⟨(some 4), .nilq false (.s 3), none, false⟩]
def g_slices_Clone_Span_2 : List IStep := [⟨(some 2), .mv true (.k (.row true 2 0 (fun _ => [.sc (.int .i64 0), .sc (.int .i64 0)]))), none, false⟩]
def g_slices_Clone_Span_3 : List IStep := [⟨(some 5), .bslice 2 0 [.sc (.int .i64 0), .sc (.int .i64 0)] [], none, false⟩,
  ⟨(some 6), .mv false (.s 0), none, false⟩,
  ⟨(some 7), .app 2 16 true (.s 5) (.s 6), none, false⟩,
  ⟨(some 2), .mv true (.s 7), none, false⟩]
def fn_slices_Clone_Span : IFn := ⟨21, 1, 8, 8, [], [], [], [.slot 2],
  .seq (.fin (.reg g_slices_Clone_Span_0) [2] []) (.seq (.seq (.fin (.reg g_slices_Clone_Span_1) [3] []) (.fin (.cond (.s 4) (.seq (.fin (.reg g_slices_Clone_Span_2) [0, 4] []) (.ret)) (.skip)) [4] [])) (.seq (.fin (.reg g_slices_Clone_Span_3) [0, 5, 6, 7] []) (.ret)))⟩

def g_span_Add_0 : List (IStep2 RW) := [o1 3 (.box 87 2 false (.s 1)),
  o1 4 (.mv true (.k (.row true (.rSpan [])))),
  o1 5 (.mv false (.k (.sc (.int .i64 0))))]
def i_span_Add_0 : IC2 RW := .fin (.reg g_span_Add_0) [1, 4, 5] []
def g_span_Add_1 : List (IStep2 RW) := [o1 9 (.mv false (.s 0)),
  o1 10 (.load 87 0 2 true false 3),
  o1 11 (.call 20 [(false, .s 9), (false, .s 10)] []),
  o1 6 (.mv false (.s 11))]
def g_span_Add_2 : List (IStep2 RW) := [o1 12 (.mv false (.s 6)),
  o1 13 (.bin .neq (.s 12) (.k (.sc (.int .i64 0))))]
def g_span_Add_3 : List (IStep2 RW) := [o1 14 (.mv false (.s 6)),
  o1 4 (.mv true (.k (.row true (.rSpan [])))),
  o1 5 (.mv false (.s 14))]
def i_span_Add_1 : IC2 RW := .seq (.fin (.reg g_span_Add_1) [9, 10, 11] []) (.seq (.fin (.reg g_span_Add_2) [12] []) (.fin (.cond (.s 13) (.seq (.fin (.reg g_span_Add_3) [0, 3, 6, 13, 14] [(87, 2)]) (.ret)) (.skip)) [6, 13] []))
def g_span_Add_4 : List (IStep2 RW) := [o1 15 (.fld 0 (.s 3)),
  o1 16 (.load 87 0 1 false false 15),
  o1 17 (.fld 1 (.s 3)),
  o1 18 (.load 87 1 1 false false 17),
  o1 19 (.bin .eql (.s 16) (.s 18))]
def g_span_Add_5 : List (IStep2 RW) := [o1 20 (.mv false (.s 0)),
  o1 21 (.call 21 [(false, .s 20)] []),
  o1 4 (.mv true (.s 21)),
  o1 5 (.mv false (.k (.sc (.int .i64 0))))]
def i_span_Add_2 : IC2 RW := .seq (.fin (.reg g_span_Add_4) [15, 16, 17, 18] []) (.fin (.cond (.s 19) (.seq (.fin (.reg g_span_Add_5) [0, 3, 19, 20, 21] [(87, 2)]) (.ret)) (.skip)) [19] [])
def g_span_Add_6 : List (IStep2 RW) := [o1 7 (.mv true (.k (.row true (.rSpan []))))]
def i_span_Add_3 : IC2 RW := .reg g_span_Add_6
def g_span_Add_7 : List (IStep2 RW) := [o1 8 (.mv false (.k (.sc (.int .i64 0))))]
def i_span_Add_4 : IC2 RW := .reg g_span_Add_7
def g_span_Add_8 : List (IStep2 RW) := [o1 22 (.mv false (.s 8)),
  o1 23 (.mv false (.s 0)),
  o1 24 (.len false (.s 23)),
  o1 25 (.bin .lss (.s 22) (.s 24)),
  o2 26 (.mv false (.s 25)),
  o3 27 26 true (.mv false (.s 0)),
  o3 28 26 true (.mv false (.s 8)),
  o3 29 26 true (.idx 2 (.s 27) (.s 28)),
  o3 30 26 true (.fld 1 (.s 29)),
  o3 31 26 true (.loade 1 false 30),
  o3 32 26 true (.fld 0 (.s 3)),
  o3 33 26 true (.load 87 0 1 false false 32),
  o3 34 26 true (.bin .lss (.s 31) (.s 33)),
  o1 35 (.pick (.s 26) (.s 34) (.k (.sc (.bool false))))]
def g_span_Add_10 : List (IStep2 RW) := [o1 38 (.mv true (.s 7)),
  o1 39 (.mv false (.s 0)),
  o1 40 (.mv false (.s 8)),
  o1 41 (.idx 2 (.s 39) (.s 40)),
  o1 42 (.loade 2 true 41),
  o1 43 (.bslice 39 1 [(0, 2, .s 42)]),
  o1 44 (.app 2 16 true (.s 38) (.s 43)),
  o1 7 (.mv true (.s 44))]
def g_span_Add_9 : List (IStep2 RW) := [o1 36 (.mv false (.s 8)),
  o1 37 (.bin .add (.s 36) (.k (.sc (.int .i64 1)))),
  o1 8 (.mv false (.s 37))]
def i_span_Add_5 : IC2 RW := .seq (.seq (.fin (.reg g_span_Add_8) [22, 23, 24, 25, 26, 27, 28, 29, 30, 31, 32, 33, 34] []) (.fin (.cond (.s 35) (.skip) (.clr [35] [] (.exit 0))) [35] [])) (.seq (.blk 1 (.fin (.reg g_span_Add_10) [38, 39, 40, 41, 42, 43, 44] [])) (.fin (.reg g_span_Add_9) [36, 37] []))
def i_span_Add_6 : IC2 RW := .loop i_span_Add_5
def i_span_Add_7 : IC2 RW := .blk 0 i_span_Add_6
def g_span_Add_11 : List (IStep2 RW) := [o1 45 (.mv false (.s 8)),
  o1 46 (.mv false (.s 0)),
  o1 47 (.len false (.s 46)),
  o1 48 (.bin .lss (.s 45) (.s 47)),
  o2 49 (.mv false (.s 48)),
  o3 50 49 true (.mv false (.s 0)),
  o3 51 49 true (.mv false (.s 8)),
  o3 52 49 true (.idx 2 (.s 50) (.s 51)),
  o3 53 49 true (.fld 0 (.s 52)),
  o3 54 49 true (.loade 1 false 53),
  o3 55 49 true (.fld 1 (.s 3)),
  o3 56 49 true (.load 87 1 1 false false 55),
  o3 57 49 true (.bin .leq (.s 54) (.s 56)),
  o1 58 (.pick (.s 49) (.s 57) (.k (.sc (.bool false))))]
def g_span_Add_13 : List (IStep2 RW) := [o1 61 (.fld 0 (.s 3)),
  o1 62 (.load 87 0 1 false false 61),
  o1 63 (.mv false (.s 0)),
  o1 64 (.mv false (.s 8)),
  o1 65 (.idx 2 (.s 63) (.s 64)),
  o1 66 (.fld 0 (.s 65)),
  o1 67 (.loade 1 false 66),
  o1 68 (.mnmx false [.s 62, .s 67]),
  o1 69 (.fld 1 (.s 3)),
  o1 70 (.load 87 1 1 false false 69),
  o1 71 (.mv false (.s 0)),
  o1 72 (.mv false (.s 8)),
  o1 73 (.idx 2 (.s 71) (.s 72)),
  o1 74 (.fld 1 (.s 73)),
  o1 75 (.loade 1 false 74),
  o1 76 (.mnmx true [.s 70, .s 75]),
  o1 77 (.fld 0 (.s 3)),
  o0 (.store 87 0 1 false 77 (.s 68)),
  o1 78 (.fld 1 (.s 3)),
  o0 (.store 87 1 1 false 78 (.s 76))]
def g_span_Add_12 : List (IStep2 RW) := [o1 59 (.mv false (.s 8)),
  o1 60 (.bin .add (.s 59) (.k (.sc (.int .i64 1)))),
  o1 8 (.mv false (.s 60))]
def i_span_Add_8 : IC2 RW := .seq (.seq (.fin (.reg g_span_Add_11) [45, 46, 47, 48, 49, 50, 51, 52, 53, 54, 55, 56, 57] []) (.fin (.cond (.s 58) (.skip) (.clr [58] [] (.exit 2))) [58] [])) (.seq (.blk 3 (.fin (.reg g_span_Add_13) [61, 62, 63, 64, 65, 66, 67, 68, 69, 70, 71, 72, 73, 74, 75, 76, 77, 78] [])) (.fin (.reg g_span_Add_12) [59, 60] []))
def i_span_Add_9 : IC2 RW := .loop i_span_Add_8
def i_span_Add_10 : IC2 RW := .blk 2 i_span_Add_9
def g_span_Add_14 : List (IStep2 RW) := [o1 79 (.mv true (.s 7)),
  o1 80 (.load 87 0 2 true false 3),
  o1 81 (.bslice 39 1 [(0, 2, .s 80)]),
  o1 82 (.app 2 16 true (.s 79) (.s 81)),
  o1 83 (.mv false (.s 0)),
  o1 84 (.mv false (.s 8)),
  o1 85 (.slice 2 (.s 83) (some (.s 84)) none none),
  o1 86 (.app 2 16 true (.s 82) (.s 85)),
  o1 4 (.mv true (.s 86)),
  o1 5 (.mv false (.k (.sc (.int .i64 0))))]
def i_span_Add_11 : IC2 RW := .seq (.fin (.reg g_span_Add_14) [0, 3, 7, 8, 79, 80, 81, 82, 83, 84, 85, 86] [(87, 2)]) (.ret)
def i_span_Add_12 : IC2 RW := .seq i_span_Add_10 i_span_Add_11
def i_span_Add_13 : IC2 RW := .seq i_span_Add_7 i_span_Add_12
def i_span_Add_14 : IC2 RW := .seq i_span_Add_4 i_span_Add_13
def i_span_Add_15 : IC2 RW := .seq i_span_Add_3 i_span_Add_14
def i_span_Add_16 : IC2 RW := .seq i_span_Add_2 i_span_Add_15
def i_span_Add_17 : IC2 RW := .seq i_span_Add_1 i_span_Add_16
def i_span_Add_18 : IC2 RW := .seq i_span_Add_0 i_span_Add_17
def fn_span_Add : IFn2 RW := ⟨16, 2, 87, 90, [(87, 2)], [], [.slot 4, .slot 5], i_span_Add_18⟩
def g_ack_Weigh_0 : List (IStep2 RW) := [o1 2 (.box 110 9 false (.s 0)),
  o1 3 (.box 120 15 false (.s 1)),
  o1 4 (.alloc 136 [.sc (.bool false), .sc (.int .i64 0), .sc (.bool false), .sc (.int .i64 0), .sc (.int .i64 0), .sc (.int .u32 0), .sc (.int .i64 0), .sc (.bool false), .row true (.rSpan [])])]
def i_ack_Weigh_0 : IC2 RW := .fin (.reg g_ack_Weigh_0) [0, 1] []
def g_ack_Weigh_1 : List (IStep2 RW) := [o1 12 (.load 110 0 9 true false 2),
  o1 13 (.load 120 0 15 true false 3),
  o1 14 (.call 10 [(false, .s 12), (false, .s 13)] []),
  o1 11 (.mv false (.s 14)),
  o1 15 (.ext false 0 (.s 11)),
  o1 16 (.ext false 1 (.s 11)),
  o1 5 (.mv false (.s 15)),
  o1 6 (.mv false (.s 16))]
def i_ack_Weigh_1 : IC2 RW := .fin (.reg g_ack_Weigh_1) [11, 12, 13, 14, 15, 16] []
def g_ack_Weigh_2 : List (IStep2 RW) := [o1 17 (.mv false (.s 6)),
  o1 18 (.un .not (.s 17))]
def g_ack_Weigh_3 : List (IStep2 RW) := [o1 19 (.build [.sc (.bool false), .sc (.int .i64 0), .sc (.bool false), .sc (.int .i64 0), .sc (.int .i64 0), .sc (.int .u32 0), .sc (.int .i64 0), .sc (.bool false), .row true (.rSpan [])] []),
  o0 (.store 136 0 9 true 4 (.s 19))]
def i_ack_Weigh_2 : IC2 RW := .seq (.fin (.reg g_ack_Weigh_2) [6, 17] []) (.fin (.cond (.s 18) (.seq (.fin (.reg g_ack_Weigh_3) [2, 3, 5, 18, 19] [(110, 9), (120, 15)]) (.ret)) (.skip)) [18] [])
def g_ack_Weigh_4 : List (IStep2 RW) := [o1 20 (.mv false (.s 5)),
  o1 21 (.fld 0 (.s 2)),
  o1 22 (.load 110 0 1 false false 21),
  o1 23 (.mnmx true [.s 20, .s 22]),
  o1 24 (.mv false (.s 5)),
  o1 25 (.fld 0 (.s 2)),
  o1 26 (.load 110 0 1 false false 25),
  o1 27 (.bin .lss (.s 24) (.s 26)),
  o1 28 (.fld 3 (.s 2)),
  o1 29 (.load 110 3 1 false false 28),
  o1 30 (.fld 5 (.s 3)),
  o1 31 (.load 120 5 1 false false 30),
  o1 32 (.build [.sc (.bool false), .sc (.int .i64 0), .sc (.bool false), .sc (.int .i64 0), .sc (.int .i64 0), .sc (.int .u32 0), .sc (.int .i64 0), .sc (.bool false), .row true (.rSpan [])] [(0, 1, .k (.sc (.bool true))), (1, 1, .s 23), (2, 1, .s 27), (3, 1, .s 29), (4, 1, .s 31)]),
  o1 7 (.alloc 146 [.sc (.bool false), .sc (.int .i64 0), .sc (.bool false), .sc (.int .i64 0), .sc (.int .i64 0), .sc (.int .u32 0), .sc (.int .i64 0), .sc (.bool false), .row true (.rSpan [])]),
  o0 (.store 146 0 9 true 7 (.s 32))]
def i_ack_Weigh_3 : IC2 RW := .fin (.reg g_ack_Weigh_4) [20, 21, 22, 23, 24, 25, 26, 27, 28, 29, 30, 31, 32] []
def g_ack_Weigh_5 : List (IStep2 RW) := [o1 33 (.fld 5 (.s 2)),
  o1 34 (.load 110 5 1 false false 33)]
def g_ack_Weigh_6 : List (IStep2 RW) := [o1 35 (.fld 11 (.s 3)),
  o1 36 (.load 120 11 1 false false 35),
  o1 37 (.fld 5 (.s 7)),
  o0 (.store 146 5 1 false 37 (.s 36))]
def i_ack_Weigh_4 : IC2 RW := .seq (.fin (.reg g_ack_Weigh_5) [33] []) (.fin (.cond (.s 34) (.fin (.reg g_ack_Weigh_6) [34, 35, 36, 37] []) (.skip)) [34] [])
def g_ack_Weigh_7 : List (IStep2 RW) := [o1 38 (.fld 5 (.s 2)),
  o1 39 (.load 110 5 1 false false 38),
  o2 40 (.mv false (.s 39)),
  o3 41 40 true (.mv false (.s 5)),
  o3 42 40 true (.fld 0 (.s 2)),
  o3 43 40 true (.load 110 0 1 false false 42),
  o3 44 40 true (.bin .gtr (.s 41) (.s 43)),
  o1 45 (.pick (.s 40) (.s 44) (.k (.sc (.bool false))))]
def g_ack_Weigh_8 : List (IStep2 RW) := [o1 46 (.fld 12 (.s 3)),
  o1 47 (.load 120 12 1 false false 46),
  o1 48 (.fld 7 (.s 2)),
  o1 49 (.load 110 7 1 false false 48),
  o1 50 (.call 11 [(false, .s 47), (false, .s 49)] []),
  o1 51 (.mnmx true [.k (.sc (.int .i64 0)), .s 50]),
  o1 52 (.fld 6 (.s 7)),
  o0 (.store 146 6 1 false 52 (.s 51))]
def i_ack_Weigh_5 : IC2 RW := .seq (.fin (.reg g_ack_Weigh_7) [38, 39, 40, 41, 42, 43, 44] []) (.fin (.cond (.s 45) (.fin (.reg g_ack_Weigh_8) [45, 46, 47, 48, 49, 50, 51, 52] []) (.skip)) [45] [])
def g_ack_Weigh_9 : List (IStep2 RW) := [o1 53 (.fld 8 (.s 2)),
  o1 54 (.load 110 8 1 false false 53),
  o1 55 (.un .not (.s 54))]
def g_ack_Weigh_10 : List (IStep2 RW) := [o1 56 (.load 146 0 9 true true 7),
  o0 (.store 136 0 9 true 4 (.s 56))]
def i_ack_Weigh_6 : IC2 RW := .seq (.fin (.reg g_ack_Weigh_9) [53, 54] []) (.fin (.cond (.s 55) (.seq (.fin (.reg g_ack_Weigh_10) [2, 3, 5, 7, 55, 56] [(110, 9), (120, 15), (146, 9)]) (.ret)) (.skip)) [55] [])
def g_ack_Weigh_11 : List (IStep2 RW) := [o1 57 (.fld 13 (.s 3)),
  o1 58 (.load 120 13 1 false false 57),
  o1 59 (.mkclo 13 [.s 2]),
  o1 60 (.call 1006 [(false, .s 58), (false, .s 59)] [(110, 9, 34)]),
  o1 8 (.mv false (.s 60))]
def i_ack_Weigh_7 : IC2 RW := .fin (.reg g_ack_Weigh_11) [3, 57, 58, 59, 60] [(120, 15)]
def g_ack_Weigh_12 : List (IStep2 RW) := [o1 61 (.mv false (.s 8)),
  o1 62 (.mv false (.s 5)),
  o1 63 (.call 15 [(false, .s 61), (false, .s 62)] []),
  o1 64 (.fld 7 (.s 7)),
  o0 (.store 146 7 1 false 64 (.s 63))]
def i_ack_Weigh_8 : IC2 RW := .fin (.reg g_ack_Weigh_12) [5, 61, 62, 63, 64] []
def i_ack_Weigh_9 : IC2 RW := .skip
def g_ack_Weigh_13 : List (IStep2 RW) := [o1 65 (.mv false (.s 8)),
  o1 66 (.len false (.s 65)),
  o1 67 (.mv false (.k (.sc (.int .i64 0))))]
def i_ack_Weigh_10 : IC2 RW := .fin (.reg g_ack_Weigh_13) [8] []
def g_ack_Weigh_14 : List (IStep2 RW) := [o1 68 (.bin .lss (.s 67) (.s 66))]
def g_ack_Weigh_15 : List (IStep2 RW) := [o1 69 (.mv false (.s 67)),
  o1 70 (.idx 2 (.s 65) (.s 67)),
  o1 71 (.loade 2 true 70),
  o1 10 (.alloc 156 [.sc (.int .i64 0), .sc (.int .i64 0)]),
  o1 9 (.mv false (.s 69)),
  o0 (.store 156 0 2 false 10 (.s 71))]
def g_ack_Weigh_16 : List (IStep2 RW) := [o1 72 (.mv false (.s 9)),
  o1 73 (.bin .eql (.s 72) (.k (.sc (.int .i64 0)))),
  o2 74 (.mv false (.s 73)),
  o3 75 74 true (.fld 7 (.s 7)),
  o3 76 74 true (.load 146 7 1 false false 75),
  o1 77 (.pick (.s 74) (.s 76) (.k (.sc (.bool false)))),
  o2 78 (.mv false (.s 77)),
  o3 79 78 false (.fld 0 (.s 10)),
  o3 80 78 false (.load 156 0 1 false false 79),
  o3 81 78 false (.fld 1 (.s 7)),
  o3 82 78 false (.load 146 1 1 false false 81),
  o3 83 78 false (.bin .lss (.s 80) (.s 82)),
  o1 84 (.pick (.s 78) (.k (.sc (.bool true))) (.s 83)),
  o2 85 (.mv false (.s 84)),
  o3 86 85 false (.fld 0 (.s 10)),
  o3 87 85 false (.load 156 0 1 false false 86),
  o3 88 85 false (.fld 1 (.s 10)),
  o3 89 85 false (.load 156 1 1 false false 88),
  o3 90 85 false (.bin .geq (.s 87) (.s 89)),
  o1 91 (.pick (.s 85) (.k (.sc (.bool true))) (.s 90)),
  o2 92 (.mv false (.s 91)),
  o3 93 92 false (.fld 1 (.s 10)),
  o3 94 92 false (.load 156 1 1 false false 93),
  o3 95 92 false (.fld 1 (.s 2)),
  o3 96 92 false (.load 110 1 1 false false 95),
  o3 97 92 false (.mnmx false [.s 96, .k (.sc (.int .i64 1125899906842624))]),
  o3 98 92 false (.bin .gtr (.s 94) (.s 97)),
  o1 99 (.pick (.s 92) (.k (.sc (.bool true))) (.s 98))]
def g_ack_Weigh_17 : List (IStep2 RW) := [o1 101 (.fld 8 (.s 7)),
  o1 102 (.load 146 8 1 false false 101),
  o1 103 (.load 156 0 2 true false 10),
  o1 104 (.call 16 [(false, .s 102), (false, .s 103)] []),
  o1 100 (.mv true (.s 104)),
  o1 105 (.ext true 0 (.s 100)),
  o1 106 (.ext false 1 (.s 100)),
  o1 107 (.fld 8 (.s 7)),
  o0 (.store 146 8 1 true 107 (.s 105))]
def g_ack_Weigh_18 : List (IStep2 RW) := [o1 108 (.bin .add (.s 67) (.k (.sc (.int .i64 1)))),
  o1 67 (.mv false (.s 108))]
def i_ack_Weigh_11 : IC2 RW := .seq (.reg g_ack_Weigh_14) (.seq (.fin (.cond (.s 68) i_ack_Weigh_9 (.clr [2, 65, 66, 67, 68] [(110, 9)] (.exit 0))) [68] []) (.seq (.blk 1 (.seq (.fin (.reg g_ack_Weigh_15) [69, 70, 71] []) (.seq (.seq (.fin (.reg g_ack_Weigh_16) [9, 72, 73, 74, 75, 76, 77, 78, 79, 80, 81, 82, 83, 84, 85, 86, 87, 88, 89, 90, 91, 92, 93, 94, 95, 96, 97, 98] []) (.fin (.cond (.s 99) (.clr [10, 99] [(156, 2)] (.exit 1)) i_ack_Weigh_9) [99] [])) (.fin (.reg g_ack_Weigh_17) [10, 100, 101, 102, 103, 104, 105, 106, 107] [(156, 2)])))) (.fin (.reg g_ack_Weigh_18) [108] [])))
def i_ack_Weigh_12 : IC2 RW := .loop i_ack_Weigh_11
def i_ack_Weigh_13 : IC2 RW := .blk 0 i_ack_Weigh_12
def i_ack_Weigh_14 : IC2 RW := .seq i_ack_Weigh_10 i_ack_Weigh_13
def g_ack_Weigh_19 : List (IStep2 RW) := [o1 109 (.load 146 0 9 true true 7),
  o0 (.store 136 0 9 true 4 (.s 109))]
def i_ack_Weigh_15 : IC2 RW := .seq (.fin (.reg g_ack_Weigh_19) [7, 109] [(146, 9)]) (.ret)
def i_ack_Weigh_16 : IC2 RW := .seq i_ack_Weigh_14 i_ack_Weigh_15
def i_ack_Weigh_17 : IC2 RW := .seq i_ack_Weigh_9 i_ack_Weigh_16
def i_ack_Weigh_18 : IC2 RW := .seq i_ack_Weigh_8 i_ack_Weigh_17
def i_ack_Weigh_19 : IC2 RW := .seq i_ack_Weigh_7 i_ack_Weigh_18
def i_ack_Weigh_20 : IC2 RW := .seq i_ack_Weigh_6 i_ack_Weigh_19
def i_ack_Weigh_21 : IC2 RW := .seq i_ack_Weigh_5 i_ack_Weigh_20
def i_ack_Weigh_22 : IC2 RW := .seq i_ack_Weigh_4 i_ack_Weigh_21
def i_ack_Weigh_23 : IC2 RW := .seq i_ack_Weigh_3 i_ack_Weigh_22
def i_ack_Weigh_24 : IC2 RW := .seq i_ack_Weigh_2 i_ack_Weigh_23
def i_ack_Weigh_25 : IC2 RW := .seq i_ack_Weigh_1 i_ack_Weigh_24
def i_ack_Weigh_26 : IC2 RW := .seq i_ack_Weigh_0 i_ack_Weigh_25
def fn_ack_Weigh : IFn2 RW := ⟨6, 2, 110, 159, [(110, 9), (120, 15), (136, 9), (146, 9), (156, 2)], [], [.cell 4 136 9 true], i_ack_Weigh_26⟩
def g_law22_heads_0 : List (IStep2 RW) := [o1 0 (.mv false (.k (.sc (.bool false))))]
def g_law22_heads_1 : List (IStep2 RW) := [o1 5 (.build [.sc (.int .i64 0), .sc (.int .i64 0), .sc (.int .u32 0), .sc (.int .i64 0), .sc (.int .u32 0), .sc (.bool false), .sc (.int .u32 0), .sc (.int .u32 0), .sc (.bool false)] [(0, 1, .k (.sc (.int .i64 5))), (1, 1, .k (.sc (.int .i64 10))), (2, 1, .k (.sc (.int .u32 100))), (8, 1, .k (.sc (.bool true)))]),
  o1 1 (.alloc 48 [.sc (.int .i64 0), .sc (.int .i64 0), .sc (.int .u32 0), .sc (.int .i64 0), .sc (.int .u32 0), .sc (.bool false), .sc (.int .u32 0), .sc (.int .u32 0), .sc (.bool false)]),
  o0 (.store 48 0 9 false 1 (.s 5))]
def g_law22_heads_2 : List (IStep2 RW) := [o1 6 (.load 48 0 9 true false 1),
  o1 7 (.build [.sc (.int .u32 0), .sc (.int .u32 0)] [(0, 1, .k (.sc (.int .u32 108))), (1, 1, .k (.sc (.int .u32 110)))]),
  o1 8 (.bslice 41 1 [(0, 2, .s 7)]),
  o1 9 (.build [.sc (.int .i64 0), .sc (.int .i64 0), .sc (.int .u32 0), .sc (.int .u32 0), .sc (.int .i64 0), .sc (.int .i64 0), .sc (.int .i64 0), .sc (.int .i64 0), .sc (.int .i64 0), .sc (.bool false), .sc (.bool false), .sc (.int .u32 0), .sc (.int .u32 0), .row true (.rBlock []), .row true (.ruint8 [])] [(4, 1, .k (.sc (.int .i64 16))), (3, 1, .k (.sc (.int .u32 107))), (13, 1, .s 8)]),
  o1 10 (.call 6 [(false, .s 6), (false, .s 9)] []),
  o1 2 (.alloc 58 [.sc (.bool false), .sc (.int .i64 0), .sc (.bool false), .sc (.int .i64 0), .sc (.int .i64 0), .sc (.int .u32 0), .sc (.int .i64 0), .sc (.bool false), .row true (.rSpan [])]),
  o0 (.store 58 0 9 false 2 (.s 10))]
def g_law22_heads_3 : List (IStep2 RW) := [o1 11 (.load 48 0 9 true false 1),
  o1 12 (.build [.sc (.int .i64 0), .sc (.int .i64 0), .sc (.int .u32 0), .sc (.int .u32 0), .sc (.int .i64 0), .sc (.int .i64 0), .sc (.int .i64 0), .sc (.int .i64 0), .sc (.int .i64 0), .sc (.bool false), .sc (.bool false), .sc (.int .u32 0), .sc (.int .u32 0), .row true (.rBlock []), .row true (.ruint8 [])] [(4, 1, .k (.sc (.int .i64 16))), (3, 1, .k (.sc (.int .u32 111)))]),
  o1 13 (.call 6 [(false, .s 11), (false, .s 12)] []),
  o1 3 (.alloc 68 [.sc (.bool false), .sc (.int .i64 0), .sc (.bool false), .sc (.int .i64 0), .sc (.int .i64 0), .sc (.int .u32 0), .sc (.int .i64 0), .sc (.bool false), .row true (.rSpan [])]),
  o0 (.store 68 0 9 false 3 (.s 13))]
def g_law22_heads_4 : List (IStep2 RW) := [o1 14 (.load 48 0 9 true false 1),
  o1 15 (.build [.sc (.int .i64 0), .sc (.int .i64 0), .sc (.int .u32 0), .sc (.int .u32 0), .sc (.int .i64 0), .sc (.int .i64 0), .sc (.int .i64 0), .sc (.int .i64 0), .sc (.int .i64 0), .sc (.bool false), .sc (.bool false), .sc (.int .u32 0), .sc (.int .u32 0), .row true (.rBlock []), .row true (.ruint8 [])] [(3, 1, .k (.sc (.int .u32 107)))]),
  o1 16 (.call 6 [(false, .s 14), (false, .s 15)] []),
  o1 4 (.alloc 78 [.sc (.bool false), .sc (.int .i64 0), .sc (.bool false), .sc (.int .i64 0), .sc (.int .i64 0), .sc (.int .u32 0), .sc (.int .i64 0), .sc (.bool false), .row true (.rSpan [])]),
  o0 (.store 78 0 9 false 4 (.s 16))]
def g_law22_heads_5 : List (IStep2 RW) := [o1 17 (.fld 0 (.s 2)),
  o1 18 (.load 58 0 1 false false 17),
  o2 19 (.mv false (.s 18)),
  o3 20 19 true (.fld 1 (.s 2)),
  o3 21 19 true (.load 58 1 1 false false 20),
  o3 22 19 true (.bin .eql (.s 21) (.k (.sc (.int .i64 7)))),
  o1 23 (.pick (.s 19) (.s 22) (.k (.sc (.bool false)))),
  o2 24 (.mv false (.s 23)),
  o3 25 24 true (.fld 8 (.s 2)),
  o3 26 24 true (.load 58 8 1 false false 25),
  o3 27 24 true (.len false (.s 26)),
  o3 28 24 true (.bin .eql (.s 27) (.k (.sc (.int .i64 1)))),
  o1 29 (.pick (.s 24) (.s 28) (.k (.sc (.bool false)))),
  o2 30 (.mv false (.s 29)),
  o3 31 30 true (.fld 8 (.s 2)),
  o3 32 30 true (.load 58 8 1 false false 31),
  o3 33 30 true (.idx 2 (.s 32) (.k (.sc (.int .i64 0)))),
  o3 34 30 true (.loade 2 true 33),
  o3 35 30 true (.build [.sc (.int .i64 0), .sc (.int .i64 0)] [(0, 1, .k (.sc (.int .i64 8))), (1, 1, .k (.sc (.int .i64 10)))]),
  o3 36 30 true (.eqs [true, true] false (.s 34) (.s 35)),
  o1 37 (.pick (.s 30) (.s 36) (.k (.sc (.bool false)))),
  o2 38 (.mv false (.s 37)),
  o3 39 38 true (.fld 0 (.s 3)),
  o3 40 38 true (.load 68 0 1 false false 39),
  o3 41 38 true (.un .not (.s 40)),
  o1 42 (.pick (.s 38) (.s 41) (.k (.sc (.bool false)))),
  o2 43 (.mv false (.s 42)),
  o3 44 43 true (.fld 0 (.s 4)),
  o3 45 43 true (.load 78 0 1 false false 44),
  o3 46 43 true (.un .not (.s 45)),
  o1 47 (.pick (.s 43) (.s 46) (.k (.sc (.bool false)))),
  o1 0 (.mv false (.s 47))]
def i_law22_heads_0 : IC2 RW := .seq (.fin (.reg g_law22_heads_0) [0] []) (.seq (.fin (.reg g_law22_heads_1) [5] []) (.seq (.fin (.reg g_law22_heads_2) [6, 7, 8, 9, 10] []) (.seq (.fin (.reg g_law22_heads_3) [11, 12, 13] []) (.seq (.fin (.reg g_law22_heads_4) [1, 14, 15, 16] [(48, 9)]) (.seq (.fin (.reg g_law22_heads_5) [2, 3, 4, 17, 18, 19, 20, 21, 22, 23, 24, 25, 26, 27, 28, 29, 30, 31, 32, 33, 34, 35, 36, 37, 38, 39, 40, 41, 42, 43, 44, 45, 46, 47] [(58, 9), (68, 9), (78, 9)]) (.ret))))))
def fn_law22_heads : IFn2 RW := ⟨8, 0, 48, 88, [(48, 9), (58, 9), (68, 9), (78, 9)], [], [.slot 0], i_law22_heads_0⟩
def g_law22_AckWithin_0 : List (IStep2 RW) := [o1 2 (.box 102 9 false (.s 0)),
  o1 3 (.box 112 15 false (.s 1)),
  o1 4 (.mv false (.k (.sc (.bool false))))]
def i_law22_AckWithin_0 : IC2 RW := .fin (.reg g_law22_AckWithin_0) [0, 1, 4] []
def g_law22_AckWithin_1 : List (IStep2 RW) := [o1 7 (.load 102 0 9 true false 2),
  o1 8 (.load 112 0 15 true false 3),
  o1 9 (.call 6 [(false, .s 7), (false, .s 8)] []),
  o1 5 (.alloc 128 [.sc (.bool false), .sc (.int .i64 0), .sc (.bool false), .sc (.int .i64 0), .sc (.int .i64 0), .sc (.int .u32 0), .sc (.int .i64 0), .sc (.bool false), .row true (.rSpan [])]),
  o0 (.store 128 0 9 false 5 (.s 9))]
def i_law22_AckWithin_1 : IC2 RW := .fin (.reg g_law22_AckWithin_1) [3, 7, 8, 9] [(112, 15)]
def g_law22_AckWithin_2 : List (IStep2 RW) := [o1 10 (.fld 0 (.s 5)),
  o1 11 (.load 128 0 1 false false 10),
  o1 12 (.un .not (.s 11))]
def g_law22_AckWithin_3 : List (IStep2 RW) := [o1 13 (.fld 2 (.s 5)),
  o1 14 (.load 128 2 1 false false 13),
  o1 15 (.un .not (.s 14)),
  o2 16 (.mv false (.s 15)),
  o3 17 16 true (.fld 7 (.s 5)),
  o3 18 16 true (.load 128 7 1 false false 17),
  o3 19 16 true (.un .not (.s 18)),
  o1 20 (.pick (.s 16) (.s 19) (.k (.sc (.bool false)))),
  o2 21 (.mv false (.s 20)),
  o3 22 21 true (.fld 1 (.s 5)),
  o3 23 21 true (.load 128 1 1 false false 22),
  o3 24 21 true (.bin .eql (.s 23) (.k (.sc (.int .i64 0)))),
  o1 25 (.pick (.s 21) (.s 24) (.k (.sc (.bool false)))),
  o2 26 (.mv false (.s 25)),
  o3 27 26 true (.fld 3 (.s 5)),
  o3 28 26 true (.load 128 3 1 false false 27),
  o3 29 26 true (.bin .eql (.s 28) (.k (.sc (.int .i64 0)))),
  o1 30 (.pick (.s 26) (.s 29) (.k (.sc (.bool false)))),
  o2 31 (.mv false (.s 30)),
  o3 32 31 true (.fld 8 (.s 5)),
  o3 33 31 true (.load 128 8 1 false false 32),
  o3 34 31 true (.len false (.s 33)),
  o3 35 31 true (.bin .eql (.s 34) (.k (.sc (.int .i64 0)))),
  o1 36 (.pick (.s 31) (.s 35) (.k (.sc (.bool false)))),
  o2 37 (.mv false (.s 36)),
  o3 38 37 true (.call 8 [] []),
  o1 39 (.pick (.s 37) (.s 38) (.k (.sc (.bool false)))),
  o1 4 (.mv false (.s 39))]
def i_law22_AckWithin_2 : IC2 RW := .seq (.fin (.reg g_law22_AckWithin_2) [10, 11] []) (.fin (.cond (.s 12) (.seq (.fin (.reg g_law22_AckWithin_3) [2, 5, 12, 13, 14, 15, 16, 17, 18, 19, 20, 21, 22, 23, 24, 25, 26, 27, 28, 29, 30, 31, 32, 33, 34, 35, 36, 37, 38, 39] [(102, 9), (128, 9)]) (.ret)) (.skip)) [12] [])
def g_law22_AckWithin_4 : List (IStep2 RW) := [o1 40 (.fld 1 (.s 5)),
  o1 41 (.load 128 1 1 false false 40),
  o1 42 (.fld 0 (.s 2)),
  o1 43 (.load 102 0 1 false false 42),
  o1 44 (.bin .lss (.s 41) (.s 43)),
  o2 45 (.mv false (.s 44)),
  o3 46 45 false (.fld 1 (.s 5)),
  o3 47 45 false (.load 128 1 1 false false 46),
  o3 48 45 false (.fld 1 (.s 2)),
  o3 49 45 false (.load 102 1 1 false false 48),
  o3 50 45 false (.bin .gtr (.s 47) (.s 49)),
  o1 51 (.pick (.s 45) (.k (.sc (.bool true))) (.s 50)),
  o2 52 (.mv false (.s 51)),
  o3 53 52 false (.fld 6 (.s 5)),
  o3 54 52 false (.load 128 6 1 false false 53),
  o3 55 52 false (.bin .lss (.s 54) (.k (.sc (.int .i64 0)))),
  o1 56 (.pick (.s 52) (.k (.sc (.bool true))) (.s 55)),
  o2 57 (.mv false (.s 56)),
  o3 58 57 false (.fld 8 (.s 5)),
  o3 59 57 false (.load 128 8 1 false false 58),
  o3 60 57 false (.call 9 [(false, .s 59)] []),
  o3 61 57 false (.bin .neq (.s 60) (.k (.sc (.int .i64 0)))),
  o1 62 (.pick (.s 57) (.k (.sc (.bool true))) (.s 61)),
  o2 63 (.mv false (.s 62)),
  o3 64 63 false (.fld 2 (.s 5)),
  o3 65 63 false (.load 128 2 1 false false 64),
  ⟨some 66, .mv false (.s 65), (some (63, false)), true⟩,
  o3 67 66 true (.fld 1 (.s 5)),
  o3 68 66 true (.load 128 1 1 false false 67),
  o3 69 66 true (.fld 0 (.s 2)),
  o3 70 66 true (.load 102 0 1 false false 69),
  o3 71 66 true (.bin .neq (.s 68) (.s 70)),
  o3 72 63 false (.pick (.s 66) (.s 71) (.k (.sc (.bool false)))),
  o1 73 (.pick (.s 63) (.k (.sc (.bool true))) (.s 72))]
def g_law22_AckWithin_5 : List (IStep2 RW) := [o1 4 (.mv false (.k (.sc (.bool false))))]
def i_law22_AckWithin_3 : IC2 RW := .seq (.fin (.reg g_law22_AckWithin_4) [40, 41, 42, 43, 44, 45, 46, 47, 48, 49, 50, 51, 52, 53, 54, 55, 56, 57, 58, 59, 60, 61, 62, 63, 64, 65, 66, 67, 68, 69, 70, 71, 72] []) (.fin (.cond (.s 73) (.seq (.fin (.reg g_law22_AckWithin_5) [2, 5, 73] [(102, 9), (128, 9)]) (.ret)) (.skip)) [73] [])
def g_law22_AckWithin_6 : List (IStep2 RW) := [o1 6 (.mv false (.k (.sc (.int .i64 0))))]
def i_law22_AckWithin_4 : IC2 RW := .reg g_law22_AckWithin_6
def g_law22_AckWithin_7 : List (IStep2 RW) := [o1 74 (.mv false (.s 6)),
  o1 75 (.fld 8 (.s 5)),
  o1 76 (.load 128 8 1 false false 75),
  o1 77 (.len false (.s 76)),
  o1 78 (.bin .lss (.s 74) (.s 77))]
def g_law22_AckWithin_9 : List (IStep2 RW) := [o1 81 (.fld 8 (.s 5)),
  o1 82 (.load 128 8 1 false false 81),
  o1 83 (.mv false (.s 6)),
  o1 84 (.idx 2 (.s 82) (.s 83)),
  o1 85 (.fld 0 (.s 84)),
  o1 86 (.loade 1 false 85),
  o1 87 (.fld 1 (.s 5)),
  o1 88 (.load 128 1 1 false false 87),
  o1 89 (.bin .lss (.s 86) (.s 88)),
  o2 90 (.mv false (.s 89)),
  o3 91 90 false (.fld 8 (.s 5)),
  o3 92 90 false (.load 128 8 1 false false 91),
  o3 93 90 false (.mv false (.s 6)),
  o3 94 90 false (.idx 2 (.s 92) (.s 93)),
  o3 95 90 false (.fld 1 (.s 94)),
  o3 96 90 false (.loade 1 false 95),
  o3 97 90 false (.fld 1 (.s 2)),
  o3 98 90 false (.load 102 1 1 false false 97),
  o3 99 90 false (.bin .gtr (.s 96) (.s 98)),
  o1 100 (.pick (.s 90) (.k (.sc (.bool true))) (.s 99))]
def g_law22_AckWithin_10 : List (IStep2 RW) := [o1 4 (.mv false (.k (.sc (.bool false))))]
def g_law22_AckWithin_8 : List (IStep2 RW) := [o1 79 (.mv false (.s 6)),
  o1 80 (.bin .add (.s 79) (.k (.sc (.int .i64 1)))),
  o1 6 (.mv false (.s 80))]
def i_law22_AckWithin_5 : IC2 RW := .seq (.seq (.fin (.reg g_law22_AckWithin_7) [74, 75, 76, 77] []) (.fin (.cond (.s 78) (.skip) (.clr [2, 5, 6, 78] [(102, 9), (128, 9)] (.exit 0))) [78] [])) (.seq (.blk 1 (.seq (.fin (.reg g_law22_AckWithin_9) [81, 82, 83, 84, 85, 86, 87, 88, 89, 90, 91, 92, 93, 94, 95, 96, 97, 98, 99] []) (.fin (.cond (.s 100) (.seq (.fin (.reg g_law22_AckWithin_10) [2, 5, 6, 100] [(102, 9), (128, 9)]) (.ret)) (.skip)) [100] []))) (.fin (.reg g_law22_AckWithin_8) [79, 80] []))
def i_law22_AckWithin_6 : IC2 RW := .loop i_law22_AckWithin_5
def i_law22_AckWithin_7 : IC2 RW := .blk 0 i_law22_AckWithin_6
def i_law22_AckWithin_8 : IC2 RW := .seq i_law22_AckWithin_4 i_law22_AckWithin_7
def g_law22_AckWithin_11 : List (IStep2 RW) := [o1 101 (.call 8 [] []),
  o1 4 (.mv false (.s 101))]
def i_law22_AckWithin_9 : IC2 RW := .seq (.fin (.reg g_law22_AckWithin_11) [101] []) (.ret)
def i_law22_AckWithin_10 : IC2 RW := .seq i_law22_AckWithin_8 i_law22_AckWithin_9
def i_law22_AckWithin_11 : IC2 RW := .seq i_law22_AckWithin_3 i_law22_AckWithin_10
def i_law22_AckWithin_12 : IC2 RW := .seq i_law22_AckWithin_2 i_law22_AckWithin_11
def i_law22_AckWithin_13 : IC2 RW := .seq i_law22_AckWithin_1 i_law22_AckWithin_12
def i_law22_AckWithin_14 : IC2 RW := .seq i_law22_AckWithin_0 i_law22_AckWithin_13
def fn_law22_AckWithin : IFn2 RW := ⟨4, 2, 102, 138, [(102, 9), (112, 15), (128, 9)], [], [.slot 4], i_law22_AckWithin_14⟩
def g_ref06_Same_0 : List (IStep2 RW) := [o1 4 (.mv false (.k (.sc (.bool false))))]
def i_ref06_Same_0 : IC2 RW := .fin (.reg g_ref06_Same_0) [4] []
def g_ref06_Same_1 : List (IStep2 RW) := [o1 6 (.mv false (.s 0)),
  o1 7 (.len false (.s 6)),
  o1 8 (.mv false (.s 1)),
  o1 9 (.len false (.s 8)),
  o1 10 (.bin .neq (.s 7) (.s 9))]
def g_ref06_Same_2 : List (IStep2 RW) := [o1 4 (.mv false (.k (.sc (.bool false))))]
def i_ref06_Same_1 : IC2 RW := .seq (.fin (.reg g_ref06_Same_1) [6, 7, 8, 9] []) (.fin (.cond (.s 10) (.seq (.fin (.reg g_ref06_Same_2) [0, 1, 10] []) (.ret)) (.skip)) [10] [])
def g_ref06_Same_3 : List (IStep2 RW) := [o1 5 (.mv false (.k (.sc (.int .i64 0))))]
def i_ref06_Same_2 : IC2 RW := .reg g_ref06_Same_3
def g_ref06_Same_4 : List (IStep2 RW) := [o1 11 (.mv false (.s 5)),
  o1 12 (.mv false (.s 0)),
  o1 13 (.len false (.s 12)),
  o1 14 (.bin .lss (.s 11) (.s 13))]
def g_ref06_Same_6 : List (IStep2 RW) := [o1 17 (.mv false (.s 0)),
  o1 18 (.mv false (.s 5)),
  o1 19 (.idx 2 (.s 17) (.s 18)),
  o1 20 (.loade 2 true 19),
  o1 21 (.mv false (.s 1)),
  o1 22 (.mv false (.s 5)),
  o1 23 (.idx 2 (.s 21) (.s 22)),
  o1 24 (.loade 2 true 23),
  o1 25 (.eqs [true, true] true (.s 20) (.s 24))]
def g_ref06_Same_7 : List (IStep2 RW) := [o1 4 (.mv false (.k (.sc (.bool false))))]
def g_ref06_Same_5 : List (IStep2 RW) := [o1 15 (.mv false (.s 5)),
  o1 16 (.bin .add (.s 15) (.k (.sc (.int .i64 1)))),
  o1 5 (.mv false (.s 16))]
def i_ref06_Same_3 : IC2 RW := .seq (.seq (.fin (.reg g_ref06_Same_4) [11, 12, 13] []) (.fin (.cond (.s 14) (.skip) (.clr [0, 1, 5, 14] [] (.exit 0))) [14] [])) (.seq (.blk 1 (.seq (.fin (.reg g_ref06_Same_6) [17, 18, 19, 20, 21, 22, 23, 24] []) (.fin (.cond (.s 25) (.seq (.fin (.reg g_ref06_Same_7) [0, 1, 5, 25] []) (.ret)) (.skip)) [25] []))) (.fin (.reg g_ref06_Same_5) [15, 16] []))
def i_ref06_Same_4 : IC2 RW := .loop i_ref06_Same_3
def i_ref06_Same_5 : IC2 RW := .blk 0 i_ref06_Same_4
def i_ref06_Same_6 : IC2 RW := .seq i_ref06_Same_2 i_ref06_Same_5
def g_ref06_Same_8 : List (IStep2 RW) := [o1 4 (.mv false (.k (.sc (.bool true))))]
def i_ref06_Same_7 : IC2 RW := .seq (.reg g_ref06_Same_8) (.ret)
def i_ref06_Same_8 : IC2 RW := .seq i_ref06_Same_6 i_ref06_Same_7
def i_ref06_Same_9 : IC2 RW := .seq i_ref06_Same_1 i_ref06_Same_8
def i_ref06_Same_10 : IC2 RW := .seq i_ref06_Same_0 i_ref06_Same_9
def fn_ref06_Same : IFn2 RW := ⟨17, 2, 26, 26, [], [], [.slot 4], i_ref06_Same_10⟩
def g_ref22_Same_0 : List (IStep2 RW) := [o1 2 (.box 66 9 false (.s 0)),
  o1 3 (.box 76 9 false (.s 1)),
  o1 4 (.mv false (.k (.sc (.bool false))))]
def g_ref22_Same_1 : List (IStep2 RW) := [o1 5 (.fld 0 (.s 2)),
  o1 6 (.load 66 0 1 false false 5),
  o1 7 (.fld 0 (.s 3)),
  o1 8 (.load 76 0 1 false false 7),
  o1 9 (.eqb false (.s 6) (.s 8)),
  o2 10 (.mv false (.s 9)),
  o3 11 10 true (.fld 1 (.s 2)),
  o3 12 10 true (.load 66 1 1 false false 11),
  o3 13 10 true (.fld 1 (.s 3)),
  o3 14 10 true (.load 76 1 1 false false 13),
  o3 15 10 true (.bin .eql (.s 12) (.s 14)),
  o1 16 (.pick (.s 10) (.s 15) (.k (.sc (.bool false)))),
  o2 17 (.mv false (.s 16)),
  o3 18 17 true (.fld 2 (.s 2)),
  o3 19 17 true (.load 66 2 1 false false 18),
  o3 20 17 true (.fld 2 (.s 3)),
  o3 21 17 true (.load 76 2 1 false false 20),
  o3 22 17 true (.eqb false (.s 19) (.s 21)),
  o1 23 (.pick (.s 17) (.s 22) (.k (.sc (.bool false)))),
  o2 24 (.mv false (.s 23)),
  o3 25 24 true (.fld 3 (.s 2)),
  o3 26 24 true (.load 66 3 1 false false 25),
  o3 27 24 true (.fld 3 (.s 3)),
  o3 28 24 true (.load 76 3 1 false false 27),
  o3 29 24 true (.bin .eql (.s 26) (.s 28)),
  o1 30 (.pick (.s 24) (.s 29) (.k (.sc (.bool false)))),
  o2 31 (.mv false (.s 30)),
  o3 32 31 true (.fld 4 (.s 2)),
  o3 33 31 true (.load 66 4 1 false false 32),
  o3 34 31 true (.fld 4 (.s 3)),
  o3 35 31 true (.load 76 4 1 false false 34),
  o3 36 31 true (.bin .eql (.s 33) (.s 35)),
  o1 37 (.pick (.s 31) (.s 36) (.k (.sc (.bool false)))),
  o2 38 (.mv false (.s 37)),
  o3 39 38 true (.fld 5 (.s 2)),
  o3 40 38 true (.load 66 5 1 false false 39),
  o3 41 38 true (.fld 5 (.s 3)),
  o3 42 38 true (.load 76 5 1 false false 41),
  o3 43 38 true (.bin .eql (.s 40) (.s 42)),
  o1 44 (.pick (.s 38) (.s 43) (.k (.sc (.bool false)))),
  o2 45 (.mv false (.s 44)),
  o3 46 45 true (.fld 6 (.s 2)),
  o3 47 45 true (.load 66 6 1 false false 46),
  o3 48 45 true (.fld 6 (.s 3)),
  o3 49 45 true (.load 76 6 1 false false 48),
  o3 50 45 true (.bin .eql (.s 47) (.s 49)),
  o1 51 (.pick (.s 45) (.s 50) (.k (.sc (.bool false)))),
  o2 52 (.mv false (.s 51)),
  o3 53 52 true (.fld 7 (.s 2)),
  o3 54 52 true (.load 66 7 1 false false 53),
  o3 55 52 true (.fld 7 (.s 3)),
  o3 56 52 true (.load 76 7 1 false false 55),
  o3 57 52 true (.eqb false (.s 54) (.s 56)),
  o1 58 (.pick (.s 52) (.s 57) (.k (.sc (.bool false)))),
  o2 59 (.mv false (.s 58)),
  o3 60 59 true (.fld 8 (.s 2)),
  o3 61 59 true (.load 66 8 1 false false 60),
  o3 62 59 true (.fld 8 (.s 3)),
  o3 63 59 true (.load 76 8 1 false false 62),
  o3 64 59 true (.call 17 [(false, .s 61), (false, .s 63)] []),
  o1 65 (.pick (.s 59) (.s 64) (.k (.sc (.bool false)))),
  o1 4 (.mv false (.s 65))]
def i_ref22_Same_0 : IC2 RW := .seq (.fin (.reg g_ref22_Same_0) [0, 1, 4] []) (.seq (.fin (.reg g_ref22_Same_1) [2, 3, 5, 6, 7, 8, 9, 10, 11, 12, 13, 14, 15, 16, 17, 18, 19, 20, 21, 22, 23, 24, 25, 26, 27, 28, 29, 30, 31, 32, 33, 34, 35, 36, 37, 38, 39, 40, 41, 42, 43, 44, 45, 46, 47, 48, 49, 50, 51, 52, 53, 54, 55, 56, 57, 58, 59, 60, 61, 62, 63, 64, 65] [(66, 9), (76, 9)]) (.ret))
def fn_ref22_Same : IFn2 RW := ⟨7, 2, 66, 86, [(66, 9), (76, 9)], [], [.slot 4], i_ref22_Same_0⟩
def g_law22_AckPlain_0 : List (IStep2 RW) := [o1 2 (.box 47 9 false (.s 0)),
  o1 3 (.box 57 15 false (.s 1)),
  o1 4 (.mv false (.k (.sc (.bool false))))]
def g_law22_AckPlain_1 : List (IStep2 RW) := [o1 10 (.load 47 0 9 true false 2),
  o1 5 (.alloc 73 [.sc (.int .i64 0), .sc (.int .i64 0), .sc (.int .u32 0), .sc (.int .i64 0), .sc (.int .u32 0), .sc (.bool false), .sc (.int .u32 0), .sc (.int .u32 0), .sc (.bool false)]),
  o0 (.store 73 0 9 false 5 (.s 10))]
def g_law22_AckPlain_2 : List (IStep2 RW) := [o1 11 (.fld 8 (.s 5)),
  o0 (.store 73 8 1 false 11 (.k (.sc (.bool false))))]
def g_law22_AckPlain_3 : List (IStep2 RW) := [o1 12 (.load 57 0 15 true false 3),
  o1 6 (.alloc 83 [.sc (.int .i64 0), .sc (.int .i64 0), .sc (.int .u32 0), .sc (.int .u32 0), .sc (.int .i64 0), .sc (.int .i64 0), .sc (.int .i64 0), .sc (.int .i64 0), .sc (.int .i64 0), .sc (.bool false), .sc (.bool false), .sc (.int .u32 0), .sc (.int .u32 0), .row true (.rBlock []), .row true (.ruint8 [])]),
  o0 (.store 83 0 15 false 6 (.s 12))]
def g_law22_AckPlain_4 : List (IStep2 RW) := [o1 13 (.fld 13 (.s 6)),
  o0 (.store 83 13 1 false 13 (.k (.row true (.rBlock []))))]
def g_law22_AckPlain_5 : List (IStep2 RW) := [o1 14 (.load 73 0 9 true false 5),
  o1 15 (.load 57 0 15 true false 3),
  o1 16 (.call 6 [(false, .s 14), (false, .s 15)] []),
  o1 17 (.load 47 0 9 true false 2),
  o1 18 (.load 83 0 15 true false 6),
  o1 19 (.call 6 [(false, .s 17), (false, .s 18)] []),
  o1 20 (.load 47 0 9 true false 2),
  o1 21 (.load 57 0 15 true false 3),
  o1 22 (.call 6 [(false, .s 20), (false, .s 21)] []),
  o1 7 (.alloc 99 [.sc (.bool false), .sc (.int .i64 0), .sc (.bool false), .sc (.int .i64 0), .sc (.int .i64 0), .sc (.int .u32 0), .sc (.int .i64 0), .sc (.bool false), .row true (.rSpan [])]),
  o1 8 (.alloc 109 [.sc (.bool false), .sc (.int .i64 0), .sc (.bool false), .sc (.int .i64 0), .sc (.int .i64 0), .sc (.int .u32 0), .sc (.int .i64 0), .sc (.bool false), .row true (.rSpan [])]),
  o1 9 (.alloc 119 [.sc (.bool false), .sc (.int .i64 0), .sc (.bool false), .sc (.int .i64 0), .sc (.int .i64 0), .sc (.int .u32 0), .sc (.int .i64 0), .sc (.bool false), .row true (.rSpan [])]),
  o0 (.store 99 0 9 false 7 (.s 16)),
  o0 (.store 109 0 9 false 8 (.s 19)),
  o0 (.store 119 0 9 false 9 (.s 22))]
def g_law22_AckPlain_6 : List (IStep2 RW) := [o1 23 (.fld 8 (.s 9)),
  o0 (.store 119 8 1 false 23 (.k (.row true (.rSpan []))))]
def g_law22_AckPlain_7 : List (IStep2 RW) := [o1 24 (.fld 7 (.s 9)),
  o0 (.store 119 7 1 false 24 (.k (.sc (.bool false))))]
def g_law22_AckPlain_8 : List (IStep2 RW) := [o1 25 (.load 99 0 9 true false 7),
  o1 26 (.load 109 0 9 true false 8),
  o1 27 (.call 7 [(false, .s 25), (false, .s 26)] []),
  o2 28 (.mv false (.s 27)),
  o3 29 28 true (.load 99 0 9 true false 7),
  o3 30 28 true (.load 119 0 9 true false 9),
  o3 31 28 true (.call 7 [(false, .s 29), (false, .s 30)] []),
  o1 32 (.pick (.s 28) (.s 31) (.k (.sc (.bool false)))),
  o2 33 (.mv false (.s 32)),
  o3 34 33 true (.fld 8 (.s 7)),
  o3 35 33 true (.load 99 8 1 false false 34),
  o3 36 33 true (.len false (.s 35)),
  o3 37 33 true (.bin .eql (.s 36) (.k (.sc (.int .i64 0)))),
  o1 38 (.pick (.s 33) (.s 37) (.k (.sc (.bool false)))),
  o2 39 (.mv false (.s 38)),
  o3 40 39 true (.fld 7 (.s 7)),
  o3 41 39 true (.load 99 7 1 false false 40),
  o3 42 39 true (.un .not (.s 41)),
  o1 43 (.pick (.s 39) (.s 42) (.k (.sc (.bool false)))),
  o2 44 (.mv false (.s 43)),
  o3 45 44 true (.call 8 [] []),
  o1 46 (.pick (.s 44) (.s 45) (.k (.sc (.bool false)))),
  o1 4 (.mv false (.s 46))]
def i_law22_AckPlain_0 : IC2 RW := .seq (.fin (.reg g_law22_AckPlain_0) [0, 1, 4] []) (.seq (.fin (.reg g_law22_AckPlain_1) [10] []) (.seq (.fin (.reg g_law22_AckPlain_2) [11] []) (.seq (.fin (.reg g_law22_AckPlain_3) [12] []) (.seq (.fin (.reg g_law22_AckPlain_4) [13] []) (.seq (.fin (.reg g_law22_AckPlain_5) [2, 3, 5, 6, 14, 15, 16, 17, 18, 19, 20, 21, 22] [(47, 9), (57, 15), (73, 9), (83, 15)]) (.seq (.fin (.reg g_law22_AckPlain_6) [23] []) (.seq (.fin (.reg g_law22_AckPlain_7) [24] []) (.seq (.fin (.reg g_law22_AckPlain_8) [7, 8, 9, 25, 26, 27, 28, 29, 30, 31, 32, 33, 34, 35, 36, 37, 38, 39, 40, 41, 42, 43, 44, 45, 46] [(99, 9), (109, 9), (119, 9)]) (.ret)))))))))
def fn_law22_AckPlain : IFn2 RW := ⟨3, 2, 47, 129, [(47, 9), (57, 15), (73, 9), (83, 15), (99, 9), (109, 9), (119, 9)], [], [.slot 4], i_law22_AckPlain_0⟩
def g_law22_AckShifts_0 : List (IStep2 RW) := [o1 4 (.box 79 9 false (.s 0)),
  o1 5 (.box 89 15 true (.s 1)),
  o1 8 (.mv false (.k (.sc (.bool false))))]
def i_law22_AckShifts_0 : IC2 RW := .fin (.reg g_law22_AckShifts_0) [0, 1, 8] []
def g_law22_AckShifts_1 : List (IStep2 RW) := [o1 12 (.fld 13 (.s 5)),
  o1 13 (.load 89 13 1 false false 12),
  o1 14 (.len false (.s 13)),
  o1 15 (.bin .gtr (.s 14) (.k (.sc (.int .i64 100))))]
def g_law22_AckShifts_2 : List (IStep2 RW) := [o1 16 (.call 8 [] []),
  o1 8 (.mv false (.s 16))]
def i_law22_AckShifts_1 : IC2 RW := .seq (.fin (.reg g_law22_AckShifts_1) [12, 13, 14] []) (.fin (.cond (.s 15) (.seq (.fin (.reg g_law22_AckShifts_2) [2, 3, 4, 5, 15, 16] [(79, 9), (89, 15)]) (.ret)) (.skip)) [15] [])
def g_law22_AckShifts_3 : List (IStep2 RW) := [o1 17 (.load 79 0 9 true false 4),
  o1 18 (.load 89 0 15 true true 5),
  o1 9 (.alloc 105 [.sc (.int .i64 0), .sc (.int .i64 0), .sc (.int .u32 0), .sc (.int .i64 0), .sc (.int .u32 0), .sc (.bool false), .sc (.int .u32 0), .sc (.int .u32 0), .sc (.bool false)]),
  o1 10 (.alloc 115 [.sc (.int .i64 0), .sc (.int .i64 0), .sc (.int .u32 0), .sc (.int .u32 0), .sc (.int .i64 0), .sc (.int .i64 0), .sc (.int .i64 0), .sc (.int .i64 0), .sc (.int .i64 0), .sc (.bool false), .sc (.bool false), .sc (.int .u32 0), .sc (.int .u32 0), .row true (.rBlock []), .row true (.ruint8 [])]),
  o0 (.store 105 0 9 false 9 (.s 17)),
  o0 (.store 115 0 15 true 10 (.s 18))]
def i_law22_AckShifts_2 : IC2 RW := .fin (.reg g_law22_AckShifts_3) [17, 18] []
def g_law22_AckShifts_4 : List (IStep2 RW) := [o1 19 (.fld 2 (.s 4)),
  o1 20 (.load 79 2 1 false false 19),
  o1 21 (.mv false (.s 2)),
  o1 22 (.bin .add (.s 20) (.s 21)),
  o1 23 (.fld 4 (.s 4)),
  o1 24 (.load 79 4 1 false false 23),
  o1 25 (.mv false (.s 3)),
  o1 26 (.bin .add (.s 24) (.s 25)),
  o1 27 (.fld 2 (.s 9)),
  o0 (.store 105 2 1 false 27 (.s 22)),
  o1 28 (.fld 4 (.s 9)),
  o0 (.store 105 4 1 false 28 (.s 26))]
def i_law22_AckShifts_3 : IC2 RW := .fin (.reg g_law22_AckShifts_4) [19, 20, 21, 22, 23, 24, 25, 26, 27, 28] []
def g_law22_AckShifts_5 : List (IStep2 RW) := [o1 29 (.fld 3 (.s 5)),
  o1 30 (.load 89 3 1 false false 29),
  o1 31 (.mv false (.s 2)),
  o1 32 (.bin .add (.s 30) (.s 31)),
  o1 33 (.fld 2 (.s 5)),
  o1 34 (.load 89 2 1 false false 33),
  o1 35 (.mv false (.s 3)),
  o1 36 (.bin .add (.s 34) (.s 35)),
  o1 37 (.fld 3 (.s 10)),
  o0 (.store 115 3 1 false 37 (.s 32)),
  o1 38 (.fld 2 (.s 10)),
  o0 (.store 115 2 1 false 38 (.s 36))]
def i_law22_AckShifts_4 : IC2 RW := .fin (.reg g_law22_AckShifts_5) [3, 29, 30, 31, 32, 33, 34, 35, 36, 37, 38] []
def g_law22_AckShifts_6 : List (IStep2 RW) := [o1 39 (.fld 13 (.s 10)),
  o0 (.store 115 13 1 true 39 (.k (.row true (.rBlock []))))]
def i_law22_AckShifts_5 : IC2 RW := .fin (.reg g_law22_AckShifts_6) [39] []
def g_law22_AckShifts_7 : List (IStep2 RW) := [o1 11 (.mv false (.k (.sc (.int .i64 0))))]
def i_law22_AckShifts_6 : IC2 RW := .reg g_law22_AckShifts_7
def g_law22_AckShifts_8 : List (IStep2 RW) := [o1 40 (.mv false (.s 11)),
  o1 41 (.fld 13 (.s 5)),
  o1 42 (.load 89 13 1 false false 41),
  o1 43 (.len false (.s 42)),
  o1 44 (.bin .lss (.s 40) (.s 43))]
def g_law22_AckShifts_10 : List (IStep2 RW) := [o1 47 (.fld 13 (.s 10)),
  o1 48 (.load 115 13 1 false true 47),
  o1 49 (.fld 13 (.s 5)),
  o1 50 (.load 89 13 1 false false 49),
  o1 51 (.mv false (.s 11)),
  o1 52 (.idx 2 (.s 50) (.s 51)),
  o1 53 (.fld 0 (.s 52)),
  o1 54 (.loade 1 false 53),
  o1 55 (.mv false (.s 2)),
  o1 56 (.bin .add (.s 54) (.s 55)),
  o1 57 (.fld 13 (.s 5)),
  o1 58 (.load 89 13 1 false false 57),
  o1 59 (.mv false (.s 11)),
  o1 60 (.idx 2 (.s 58) (.s 59)),
  o1 61 (.fld 1 (.s 60)),
  o1 62 (.loade 1 false 61),
  o1 63 (.mv false (.s 2)),
  o1 64 (.bin .add (.s 62) (.s 63)),
  o1 65 (.build [.sc (.int .u32 0), .sc (.int .u32 0)] [(0, 1, .s 56), (1, 1, .s 64)]),
  o1 66 (.bslice 41 1 [(0, 2, .s 65)]),
  o1 67 (.app 2 8 true (.s 48) (.s 66)),
  o1 68 (.fld 13 (.s 10)),
  o0 (.store 115 13 1 true 68 (.s 67))]
def g_law22_AckShifts_9 : List (IStep2 RW) := [o1 45 (.mv false (.s 11)),
  o1 46 (.bin .add (.s 45) (.k (.sc (.int .i64 1)))),
  o1 11 (.mv false (.s 46))]
def i_law22_AckShifts_7 : IC2 RW := .seq (.seq (.fin (.reg g_law22_AckShifts_8) [40, 41, 42, 43] []) (.fin (.cond (.s 44) (.skip) (.clr [2, 11, 44] [] (.exit 0))) [44] [])) (.seq (.blk 1 (.fin (.reg g_law22_AckShifts_10) [47, 48, 49, 50, 51, 52, 53, 54, 55, 56, 57, 58, 59, 60, 61, 62, 63, 64, 65, 66, 67, 68] [])) (.fin (.reg g_law22_AckShifts_9) [45, 46] []))
def i_law22_AckShifts_8 : IC2 RW := .loop i_law22_AckShifts_7
def i_law22_AckShifts_9 : IC2 RW := .blk 0 i_law22_AckShifts_8
def i_law22_AckShifts_10 : IC2 RW := .seq i_law22_AckShifts_6 i_law22_AckShifts_9
def g_law22_AckShifts_11 : List (IStep2 RW) := [o1 69 (.load 79 0 9 true false 4),
  o1 70 (.load 89 0 15 true false 5),
  o1 71 (.call 6 [(false, .s 69), (false, .s 70)] []),
  o1 72 (.load 105 0 9 true false 9),
  o1 73 (.load 115 0 15 true false 10),
  o1 74 (.call 6 [(false, .s 72), (false, .s 73)] []),
  o1 75 (.call 7 [(false, .s 71), (false, .s 74)] []),
  o2 76 (.mv false (.s 75)),
  o3 77 76 true (.call 8 [] []),
  o1 78 (.pick (.s 76) (.s 77) (.k (.sc (.bool false)))),
  o1 8 (.mv false (.s 78))]
def i_law22_AckShifts_11 : IC2 RW := .seq (.fin (.reg g_law22_AckShifts_11) [4, 5, 9, 10, 69, 70, 71, 72, 73, 74, 75, 76, 77, 78] [(79, 9), (89, 15), (105, 9), (115, 15)]) (.ret)
def i_law22_AckShifts_12 : IC2 RW := .seq i_law22_AckShifts_10 i_law22_AckShifts_11
def i_law22_AckShifts_13 : IC2 RW := .seq i_law22_AckShifts_5 i_law22_AckShifts_12
def i_law22_AckShifts_14 : IC2 RW := .seq i_law22_AckShifts_4 i_law22_AckShifts_13
def i_law22_AckShifts_15 : IC2 RW := .seq i_law22_AckShifts_3 i_law22_AckShifts_14
def i_law22_AckShifts_16 : IC2 RW := .seq i_law22_AckShifts_2 i_law22_AckShifts_15
def i_law22_AckShifts_17 : IC2 RW := .seq i_law22_AckShifts_1 i_law22_AckShifts_16
def i_law22_AckShifts_18 : IC2 RW := .seq i_law22_AckShifts_0 i_law22_AckShifts_17
def fn_law22_AckShifts : IFn2 RW := ⟨5, 4, 79, 131, [(79, 9), (89, 15), (105, 9), (115, 15)], [], [.slot 8], i_law22_AckShifts_18⟩
/-! tideway/seq.Diff -/
theorem run_seq_Diff {R : Type} (cp : Nat → Nat → Bool) (n : Nat) (p0 p1 : Int) (k : Ret2 RW → Option R) : G_seq_Diff cp (n + 1) p0 p1 (fun r0 => k ⟨(tL r0), []⟩) = run2 U cp (callP cp n) n fn_seq_Diff [(tI .u32 p0), (tI .u32 p1)] [] k := by kernel_rfl
/-! tideway/seq.Sum -/
theorem run_seq_Sum {R : Type} (cp : Nat → Nat → Bool) (n : Nat) (p0 p1 : Int) (k : Ret2 RW → Option R) : G_seq_Sum cp (n + 1) p0 p1 (fun r0 => k ⟨(tL r0), []⟩) = run2 U cp (callP cp n) n fn_seq_Sum [(tL p0), (tL p1)] [] k := by kernel_rfl
/-! tideway/seq.Unwrap -/
theorem run_seq_Unwrap {R : Type} (cp : Nat → Nat → Bool) (n : Nat) (p0 p1 : Int) (k : Ret2 RW → Option R) : G_seq_Unwrap cp (n + 1) p0 p1 (fun r0 => k ⟨(tL r0), []⟩) = run2 U cp (callP cp n) n fn_seq_Unwrap [(tL p0), (tI .u32 p1)] [] k := by kernel_rfl
/-! tideway/ack.counts -/
theorem run_ack_counts {R : Type} (cp : Nat → Nat → Bool) (n : Nat) (p0 : SAsked) (p1 : SSegment) (k : Ret2 RW → Option R) : G_ack_counts cp (n + 1) p0 p1 (fun r0 r1 => k ⟨.tup [(tL r0), (tB r1)], []⟩) = run2 U cp (callP cp n) n fn_ack_counts [.agg (eAsked p0), .agg (eSegment p1)] [] k := by kernel_rfl
/-! tideway/ack.Weigh$1 -/
theorem run_ack_Weigh_1 {R : Type} (cp : Nat → Nat → Bool) (n : Nat) (p0 : Int) (q0 : SAsked) (k : Ret2 RW → Option R) : G_ack_Weigh_1 cp (n + 1) p0 q0 (fun r0 r1 => k ⟨(tL r0), [(eAsked r1)]⟩) = run2 U cp (callP cp n) n fn_ack_Weigh_1 [(tI .u32 p0), .ptr 11 0] [(eAsked q0)] k := by kernel_rfl
/-! tideway/ack.offsets -/
def fr_ack_offsets_2 (p0 : (List SBlock)) (q0 : SAsked) : Fr := (.row false (.rBlock p0)) :: (.clo 13 [(34, 0)]) :: dT 32 ((.hdr 9) :: ((eAsked q0) ++ (dT 6 [])))
theorem s_ack_offsets_1_t {R : Type} (cp : Nat → Nat → Bool) (n : Nat) (p0 : (List SBlock)) (q0 : SAsked) (k : Ex → Fr → Option R) : X cp n i_ack_offsets_0 (fr_ack_offsets_2 p0 q0) k = s_ack_offsets_1 cp n p0 q0 (k .norm (fr_ack_offsets_2 p0 q0)) := by kernel_rfl
def fr_ack_offsets_4 (p0 : (List SBlock)) (q0 : SAsked) : Fr := (.row false (.rBlock p0)) :: (.clo 13 [(34, 0)]) :: dT 3 ((.row true (.rSpan [])) :: dT 28 ((.hdr 9) :: ((eAsked q0) ++ (dT 6 []))))
theorem s_ack_offsets_3_t {R : Type} (cp : Nat → Nat → Bool) (n : Nat) (p0 : (List SBlock)) (q0 : SAsked) (k : Ex → Fr → Option R) : X cp n i_ack_offsets_1 (fr_ack_offsets_2 p0 q0) k = s_ack_offsets_3 cp n p0 q0 (k .norm (fr_ack_offsets_4 p0 q0)) := by kernel_rfl
def fr_ack_offsets_6 (p0 : (List SBlock)) (q0 : SAsked) (v17 : Int) : Fr := dT 1 ((.clo 13 [(34, 0)]) :: dT 3 ((.row true (.rSpan [])) :: dT 3 ((.row false (.rBlock p0)) :: (tL v17) :: (tL 0) :: dT 22 ((.hdr 9) :: ((eAsked q0) ++ (dT 6 []))))))
theorem s_ack_offsets_5_t {R : Type} (cp : Nat → Nat → Bool) (n : Nat) (p0 : (List SBlock)) (q0 : SAsked) (k : Ex → Fr → Option R) : X cp n i_ack_offsets_2 (fr_ack_offsets_4 p0 q0) k = s_ack_offsets_5 cp n p0 q0 (fun v17 => k .norm (fr_ack_offsets_6 p0 q0 v17)) := by kernel_rfl
def fr_ack_offsets_8 (p0 : (List SBlock)) (v17 : Int) (v33 : (List SSpan)) (v34 v35 v36 v37 v38 v39 : Int) (v40 : Bool) (v41 v42 : Int) (v43 : Bool) : Fr := dT 1 ((.clo 13 [(34, 0)]) :: dT 3 ((.row true (.rSpan v33)) :: dT 3 ((.row false (.rBlock p0)) :: (tL v17) :: (tL v34) :: dT 22 ((.hdr 9) :: (tL v35) :: (tL v36) :: (tI .u32 v37) :: (tL v38) :: (tI .u32 v39) :: (tB v40) :: (tI .u32 v41) :: (tI .u32 v42) :: (tB v43) :: dT 6 []))))
def fr_ack_offsets_9 (v18 : (List SSpan)) (v20 v21 v22 v23 v24 : Int) (v25 : Bool) (v26 v27 : Int) (v28 : Bool) : Fr := dT 5 ((.row true (.rSpan v18)) :: dT 28 ((.hdr 9) :: (tL v20) :: (tL v21) :: (tI .u32 v22) :: (tL v23) :: (tI .u32 v24) :: (tB v25) :: (tI .u32 v26) :: (tI .u32 v27) :: (tB v28) :: dT 6 []))
def fr_ack_offsets_10 (p0 : (List SBlock)) (v17 : Int) (v18 : (List SSpan)) (v19 v20 v21 v22 v23 v24 : Int) (v25 : Bool) (v26 v27 : Int) (v28 : Bool) : Fr := dT 1 ((.clo 13 [(34, 0)]) :: dT 3 ((.row true (.rSpan v18)) :: dT 3 ((.row false (.rBlock p0)) :: (tL v17) :: (tL v19) :: dT 22 ((.hdr 9) :: (tL v20) :: (tL v21) :: (tI .u32 v22) :: (tL v23) :: (tI .u32 v24) :: (tB v25) :: (tI .u32 v26) :: (tI .u32 v27) :: (tB v28) :: dT 6 []))))
theorem s_ack_offsets_7_t {R : Type} (cp : Nat → Nat → Bool) (n : Nat) (p0 : (List SBlock)) (v17 : Int) (v18 : (List SSpan)) (v19 v20 v21 v22 v23 v24 : Int) (v25 : Bool) (v26 v27 : Int) (v28 : Bool) (k : Ex → Fr → Option R) : X cp n i_ack_offsets_3 (fr_ack_offsets_10 p0 v17 v18 v19 v20 v21 v22 v23 v24 v25 v26 v27 v28) k = s_ack_offsets_7 cp n p0 v17 v18 v19 v20 v21 v22 v23 v24 v25 v26 v27 v28 (fun v33 v34 v35 v36 v37 v38 v39 v40 v41 v42 v43 => k .norm (fr_ack_offsets_8 p0 v17 v33 v34 v35 v36 v37 v38 v39 v40 v41 v42 v43)) (k (.exit 0) (fr_ack_offsets_9 v18 v20 v21 v22 v23 v24 v25 v26 v27 v28)) := by kernel_rfl
def fr_ack_offsets_11 (v44 : (List SSpan)) (v45 v46 v47 v48 v49 : Int) (v50 : Bool) (v51 v52 : Int) (v53 : Bool) : Fr := dT 5 ((.row true (.rSpan v44)) :: dT 28 ((.hdr 9) :: (tL v45) :: (tL v46) :: (tI .u32 v47) :: (tL v48) :: (tI .u32 v49) :: (tB v50) :: (tI .u32 v51) :: (tI .u32 v52) :: (tB v53) :: dT 6 []))
theorem l_ack_offsets_12_t {R : Type} (cp : Nat → Nat → Bool) (n : Nat) : ∀ (m : Nat) (p0 : (List SBlock)) (v17 : Int) (v18 : (List SSpan)) (v19 v20 v21 v22 v23 v24 : Int) (v25 : Bool) (v26 v27 : Int) (v28 : Bool) (k : Ex → Fr → Option R), loopN2 (X cp n i_ack_offsets_3) m (fr_ack_offsets_10 p0 v17 v18 v19 v20 v21 v22 v23 v24 v25 v26 v27 v28) k = l_ack_offsets_12 cp n m p0 v17 v18 v19 v20 v21 v22 v23 v24 v25 v26 v27 v28 (fun v44 v45 v46 v47 v48 v49 v50 v51 v52 v53 => k (.exit 0) (fr_ack_offsets_11 v44 v45 v46 v47 v48 v49 v50 v51 v52 v53))
  | 0, _, _, _, _, _, _, _, _, _, _, _, _, _, _ => rfl
  | m + 1, p0, v17, v18, v19, v20, v21, v22, v23, v24, v25, v26, v27, v28, k => (loopN2_succ (X cp n i_ack_offsets_3) m (fr_ack_offsets_10 p0 v17 v18 v19 v20 v21 v22 v23 v24 v25 v26 v27 v28) k).trans ((s_ack_offsets_7_t cp n p0 v17 v18 v19 v20 v21 v22 v23 v24 v25 v26 v27 v28 (loopT (X cp n i_ack_offsets_3) m k)).trans ((show s_ack_offsets_7 cp n p0 v17 v18 v19 v20 v21 v22 v23 v24 v25 v26 v27 v28 (fun v33 v34 v35 v36 v37 v38 v39 v40 v41 v42 v43 => loopT (X cp n i_ack_offsets_3) m k .norm (fr_ack_offsets_8 p0 v17 v33 v34 v35 v36 v37 v38 v39 v40 v41 v42 v43)) (loopT (X cp n i_ack_offsets_3) m k (.exit 0) (fr_ack_offsets_9 v18 v20 v21 v22 v23 v24 v25 v26 v27 v28)) = s_ack_offsets_7 cp n p0 v17 v18 v19 v20 v21 v22 v23 v24 v25 v26 v27 v28 (fun v33 v34 v35 v36 v37 v38 v39 v40 v41 v42 v43 => loopN2 (X cp n i_ack_offsets_3) m (fr_ack_offsets_10 p0 v17 v33 v34 v35 v36 v37 v38 v39 v40 v41 v42 v43) k) (k (.exit 0) (fr_ack_offsets_11 v18 v20 v21 v22 v23 v24 v25 v26 v27 v28)) from by kernel_rfl).trans (congrArg (fun q => s_ack_offsets_7 cp n p0 v17 v18 v19 v20 v21 v22 v23 v24 v25 v26 v27 v28 q (k (.exit 0) (fr_ack_offsets_11 v18 v20 v21 v22 v23 v24 v25 v26 v27 v28))) (funext fun v33 => funext fun v34 => funext fun v35 => funext fun v36 => funext fun v37 => funext fun v38 => funext fun v39 => funext fun v40 => funext fun v41 => funext fun v42 => funext fun v43 => l_ack_offsets_12_t cp n m p0 v17 v33 v34 v35 v36 v37 v38 v39 v40 v41 v42 v43 k))))
theorem s_ack_offsets_13_t {R : Type} (cp : Nat → Nat → Bool) (n : Nat) (p0 : (List SBlock)) (q0 : SAsked) (v17 : Int) (k : Ex → Fr → Option R) : X cp n i_ack_offsets_4 (fr_ack_offsets_6 p0 q0 v17) k = s_ack_offsets_13 cp n p0 q0 v17 (fun v44 v45 v46 v47 v48 v49 v50 v51 v52 v53 => k (.exit 0) (fr_ack_offsets_11 v44 v45 v46 v47 v48 v49 v50 v51 v52 v53)) := (show X cp n i_ack_offsets_4 (fr_ack_offsets_6 p0 q0 v17) k = loopN2 (X cp n i_ack_offsets_3) n (fr_ack_offsets_10 p0 v17 [] 0 q0.xUna q0.xNext q0.xIss q0.xPeer q0.xIrs q0.xStamps q0.xRecent q0.xNow q0.xSacks) k from by kernel_rfl).trans (l_ack_offsets_12_t cp n n p0 v17 [] 0 q0.xUna q0.xNext q0.xIss q0.xPeer q0.xIrs q0.xStamps q0.xRecent q0.xNow q0.xSacks k)
def fr_ack_offsets_14 (v54 : (List SSpan)) (v55 v56 v57 v58 v59 : Int) (v60 : Bool) (v61 v62 : Int) (v63 : Bool) : Fr := dT 5 ((.row true (.rSpan v54)) :: dT 28 ((.hdr 9) :: (tL v55) :: (tL v56) :: (tI .u32 v57) :: (tL v58) :: (tI .u32 v59) :: (tB v60) :: (tI .u32 v61) :: (tI .u32 v62) :: (tB v63) :: dT 6 []))
theorem s_ack_offsets_15_t {R : Type} (cp : Nat → Nat → Bool) (n : Nat) (p0 : (List SBlock)) (q0 : SAsked) (v17 : Int) (k : Ex → Fr → Option R) : X cp n i_ack_offsets_5 (fr_ack_offsets_6 p0 q0 v17) k = s_ack_offsets_15 cp n p0 q0 v17 (fun v54 v55 v56 v57 v58 v59 v60 v61 v62 v63 => k .norm (fr_ack_offsets_14 v54 v55 v56 v57 v58 v59 v60 v61 v62 v63)) := (show X cp n i_ack_offsets_5 (fr_ack_offsets_6 p0 q0 v17) k = X cp n i_ack_offsets_4 (fr_ack_offsets_6 p0 q0 v17) (blkT 0 k) from by kernel_rfl).trans ((s_ack_offsets_13_t cp n p0 q0 v17 (blkT 0 k)).trans (by kernel_rfl))
def fr_ack_offsets_16 (v64 : (List SSpan)) (v65 v66 v67 v68 v69 : Int) (v70 : Bool) (v71 v72 : Int) (v73 : Bool) : Fr := dT 5 ((.row true (.rSpan v64)) :: dT 28 ((.hdr 9) :: (tL v65) :: (tL v66) :: (tI .u32 v67) :: (tL v68) :: (tI .u32 v69) :: (tB v70) :: (tI .u32 v71) :: (tI .u32 v72) :: (tB v73) :: dT 6 []))
theorem s_ack_offsets_17_t {R : Type} (cp : Nat → Nat → Bool) (n : Nat) (p0 : (List SBlock)) (q0 : SAsked) (k : Ex → Fr → Option R) : X cp n i_ack_offsets_6 (fr_ack_offsets_4 p0 q0) k = s_ack_offsets_17 cp n p0 q0 (fun v64 v65 v66 v67 v68 v69 v70 v71 v72 v73 => k .norm (fr_ack_offsets_16 v64 v65 v66 v67 v68 v69 v70 v71 v72 v73)) := (show X cp n i_ack_offsets_6 (fr_ack_offsets_4 p0 q0) k = X cp n i_ack_offsets_2 (fr_ack_offsets_4 p0 q0) (seqT (X cp n) i_ack_offsets_5 k) from by kernel_rfl).trans ((show X cp n i_ack_offsets_2 (fr_ack_offsets_4 p0 q0) (seqT (X cp n) i_ack_offsets_5 k) = s_ack_offsets_5 cp n p0 q0 (fun v17 => X cp n i_ack_offsets_5 (fr_ack_offsets_6 p0 q0 v17) k) from (s_ack_offsets_5_t cp n p0 q0 (seqT (X cp n) i_ack_offsets_5 k)).trans (by kernel_rfl)).trans (congrArg (fun q => s_ack_offsets_5 cp n p0 q0 q) (funext fun v17 => (s_ack_offsets_15_t cp n p0 q0 v17 k).trans (show s_ack_offsets_15 cp n p0 q0 v17 (fun v54 v55 v56 v57 v58 v59 v60 v61 v62 v63 => k .norm (fr_ack_offsets_14 v54 v55 v56 v57 v58 v59 v60 v61 v62 v63)) = s_ack_offsets_15 cp n p0 q0 v17 (fun v54 v55 v56 v57 v58 v59 v60 v61 v62 v63 => k .norm (fr_ack_offsets_16 v54 v55 v56 v57 v58 v59 v60 v61 v62 v63)) from by kernel_rfl))))
def fr_ack_offsets_19 (v64 : (List SSpan)) (v65 v66 v67 v68 v69 : Int) (v70 : Bool) (v71 v72 : Int) (v73 : Bool) : Fr := dT 4 ((.row true (.rSpan v64)) :: dT 29 ((.hdr 9) :: (tL v65) :: (tL v66) :: (tI .u32 v67) :: (tL v68) :: (tI .u32 v69) :: (tB v70) :: (tI .u32 v71) :: (tI .u32 v72) :: (tB v73) :: dT 6 []))
theorem s_ack_offsets_18_t {R : Type} (cp : Nat → Nat → Bool) (n : Nat) (v64 : (List SSpan)) (v65 v66 v67 v68 v69 : Int) (v70 : Bool) (v71 v72 : Int) (v73 : Bool) (k : Ex → Fr → Option R) : X cp n i_ack_offsets_7 (fr_ack_offsets_16 v64 v65 v66 v67 v68 v69 v70 v71 v72 v73) k = s_ack_offsets_18 cp n v64 v65 v66 v67 v68 v69 v70 v71 v72 v73 (k .ret (fr_ack_offsets_19 v64 v65 v66 v67 v68 v69 v70 v71 v72 v73)) := by kernel_rfl
def fr_ack_offsets_20 (v74 : (List SSpan)) (v75 v76 v77 v78 v79 : Int) (v80 : Bool) (v81 v82 : Int) (v83 : Bool) : Fr := dT 4 ((.row true (.rSpan v74)) :: dT 29 ((.hdr 9) :: (tL v75) :: (tL v76) :: (tI .u32 v77) :: (tL v78) :: (tI .u32 v79) :: (tB v80) :: (tI .u32 v81) :: (tI .u32 v82) :: (tB v83) :: dT 6 []))
theorem s_ack_offsets_21_t {R : Type} (cp : Nat → Nat → Bool) (n : Nat) (p0 : (List SBlock)) (q0 : SAsked) (k : Ex → Fr → Option R) : X cp n i_ack_offsets_8 (fr_ack_offsets_4 p0 q0) k = s_ack_offsets_21 cp n p0 q0 (fun v74 v75 v76 v77 v78 v79 v80 v81 v82 v83 => k .ret (fr_ack_offsets_20 v74 v75 v76 v77 v78 v79 v80 v81 v82 v83)) := (show X cp n i_ack_offsets_8 (fr_ack_offsets_4 p0 q0) k = X cp n i_ack_offsets_6 (fr_ack_offsets_4 p0 q0) (seqT (X cp n) i_ack_offsets_7 k) from by kernel_rfl).trans ((show X cp n i_ack_offsets_6 (fr_ack_offsets_4 p0 q0) (seqT (X cp n) i_ack_offsets_7 k) = s_ack_offsets_17 cp n p0 q0 (fun v64 v65 v66 v67 v68 v69 v70 v71 v72 v73 => X cp n i_ack_offsets_7 (fr_ack_offsets_16 v64 v65 v66 v67 v68 v69 v70 v71 v72 v73) k) from (s_ack_offsets_17_t cp n p0 q0 (seqT (X cp n) i_ack_offsets_7 k)).trans (by kernel_rfl)).trans (congrArg (fun q => s_ack_offsets_17 cp n p0 q0 q) (funext fun v64 => funext fun v65 => funext fun v66 => funext fun v67 => funext fun v68 => funext fun v69 => funext fun v70 => funext fun v71 => funext fun v72 => funext fun v73 => (s_ack_offsets_18_t cp n v64 v65 v66 v67 v68 v69 v70 v71 v72 v73 k).trans (show s_ack_offsets_18 cp n v64 v65 v66 v67 v68 v69 v70 v71 v72 v73 (k .ret (fr_ack_offsets_19 v64 v65 v66 v67 v68 v69 v70 v71 v72 v73)) = s_ack_offsets_18 cp n v64 v65 v66 v67 v68 v69 v70 v71 v72 v73 (k .ret (fr_ack_offsets_20 v64 v65 v66 v67 v68 v69 v70 v71 v72 v73)) from by kernel_rfl))))
def fr_ack_offsets_22 (v84 : (List SSpan)) (v85 v86 v87 v88 v89 : Int) (v90 : Bool) (v91 v92 : Int) (v93 : Bool) : Fr := dT 4 ((.row true (.rSpan v84)) :: dT 29 ((.hdr 9) :: (tL v85) :: (tL v86) :: (tI .u32 v87) :: (tL v88) :: (tI .u32 v89) :: (tB v90) :: (tI .u32 v91) :: (tI .u32 v92) :: (tB v93) :: dT 6 []))
theorem s_ack_offsets_23_t {R : Type} (cp : Nat → Nat → Bool) (n : Nat) (p0 : (List SBlock)) (q0 : SAsked) (k : Ex → Fr → Option R) : X cp n i_ack_offsets_9 (fr_ack_offsets_2 p0 q0) k = s_ack_offsets_23 cp n p0 q0 (fun v84 v85 v86 v87 v88 v89 v90 v91 v92 v93 => k .ret (fr_ack_offsets_22 v84 v85 v86 v87 v88 v89 v90 v91 v92 v93)) := (show X cp n i_ack_offsets_9 (fr_ack_offsets_2 p0 q0) k = X cp n i_ack_offsets_1 (fr_ack_offsets_2 p0 q0) (seqT (X cp n) i_ack_offsets_8 k) from by kernel_rfl).trans ((show X cp n i_ack_offsets_1 (fr_ack_offsets_2 p0 q0) (seqT (X cp n) i_ack_offsets_8 k) = s_ack_offsets_3 cp n p0 q0 (X cp n i_ack_offsets_8 (fr_ack_offsets_4 p0 q0) k) from (s_ack_offsets_3_t cp n p0 q0 (seqT (X cp n) i_ack_offsets_8 k)).trans (by kernel_rfl)).trans (congrArg (fun q => s_ack_offsets_3 cp n p0 q0 q) ((s_ack_offsets_21_t cp n p0 q0 k).trans (show s_ack_offsets_21 cp n p0 q0 (fun v74 v75 v76 v77 v78 v79 v80 v81 v82 v83 => k .ret (fr_ack_offsets_20 v74 v75 v76 v77 v78 v79 v80 v81 v82 v83)) = s_ack_offsets_21 cp n p0 q0 (fun v74 v75 v76 v77 v78 v79 v80 v81 v82 v83 => k .ret (fr_ack_offsets_22 v74 v75 v76 v77 v78 v79 v80 v81 v82 v83)) from by kernel_rfl))))
def fr_ack_offsets_24 (v94 : (List SSpan)) (v95 v96 v97 v98 v99 : Int) (v100 : Bool) (v101 v102 : Int) (v103 : Bool) : Fr := dT 4 ((.row true (.rSpan v94)) :: dT 29 ((.hdr 9) :: (tL v95) :: (tL v96) :: (tI .u32 v97) :: (tL v98) :: (tI .u32 v99) :: (tB v100) :: (tI .u32 v101) :: (tI .u32 v102) :: (tB v103) :: dT 6 []))
theorem s_ack_offsets_25_t {R : Type} (cp : Nat → Nat → Bool) (n : Nat) (p0 : (List SBlock)) (q0 : SAsked) (k : Ex → Fr → Option R) : X cp n i_ack_offsets_10 (fr_ack_offsets_2 p0 q0) k = s_ack_offsets_25 cp n p0 q0 (fun v94 v95 v96 v97 v98 v99 v100 v101 v102 v103 => k .ret (fr_ack_offsets_24 v94 v95 v96 v97 v98 v99 v100 v101 v102 v103)) := (show X cp n i_ack_offsets_10 (fr_ack_offsets_2 p0 q0) k = X cp n i_ack_offsets_0 (fr_ack_offsets_2 p0 q0) (seqT (X cp n) i_ack_offsets_9 k) from by kernel_rfl).trans ((show X cp n i_ack_offsets_0 (fr_ack_offsets_2 p0 q0) (seqT (X cp n) i_ack_offsets_9 k) = s_ack_offsets_1 cp n p0 q0 (X cp n i_ack_offsets_9 (fr_ack_offsets_2 p0 q0) k) from (s_ack_offsets_1_t cp n p0 q0 (seqT (X cp n) i_ack_offsets_9 k)).trans (by kernel_rfl)).trans (congrArg (fun q => s_ack_offsets_1 cp n p0 q0 q) ((s_ack_offsets_23_t cp n p0 q0 k).trans (show s_ack_offsets_23 cp n p0 q0 (fun v84 v85 v86 v87 v88 v89 v90 v91 v92 v93 => k .ret (fr_ack_offsets_22 v84 v85 v86 v87 v88 v89 v90 v91 v92 v93)) = s_ack_offsets_23 cp n p0 q0 (fun v84 v85 v86 v87 v88 v89 v90 v91 v92 v93 => k .ret (fr_ack_offsets_24 v84 v85 v86 v87 v88 v89 v90 v91 v92 v93)) from by kernel_rfl))))
theorem run_ack_offsets {R : Type} (cp : Nat → Nat → Bool) (n : Nat) (p0 : (List SBlock)) (q0 : SAsked) (k : Ret2 RW → Option R) : G_ack_offsets cp (n + 1) p0 q0 (fun r0 r1 => k ⟨.row true (.rSpan r0), [(eAsked r1)]⟩) = run2 U cp (callP cp n) n fn_ack_offsets [.row false (.rBlock p0), .clo 13 [(34, 0)]] [(eAsked q0)] k := ((show run2 U cp (callP cp n) n fn_ack_offsets [.row false (.rBlock p0), .clo 13 [(34, 0)]] [(eAsked q0)] k = X cp n i_ack_offsets_10 (fr_ack_offsets_2 p0 q0) (finK2 fn_ack_offsets k) from by kernel_rfl).trans ((s_ack_offsets_25_t cp n p0 q0 (finK2 fn_ack_offsets k)).trans (by kernel_rfl))).symm
/-! tideway/ack.twice -/
theorem run_ack_twice {R : Type} (cp : Nat → Nat → Bool) (n : Nat) (p0 : (List SSpan)) (p1 : Int) (k : Ret2 RW → Option R) : G_ack_twice cp (n + 1) p0 p1 (fun r0 => k ⟨(tB r0), []⟩) = run2 U cp (callP cp n) n fn_ack_twice [.row false (.rSpan p0), (tL p1)] [] k := by kernel_rfl
/-! tideway/span.may -/
theorem run_span_may {R : Type} (cp : Nat → Nat → Bool) (n : Nat) (p0 : SSpan) (k : Ret2 RW → Option R) : G_span_may cp (n + 1) p0 (fun r0 => k ⟨(tB r0), []⟩) = run2 U cp (callP cp n) n fn_span_may [.agg (eSpan p0)] [] k := by kernel_rfl
/-! tideway/span.Check -/
def fr_span_Check_2 (p0 : (List SSpan)) : Fr := (.row false (.rSpan p0)) :: dT 40 []
theorem s_span_Check_1_t {R : Type} (cp : Nat → Nat → Bool) (n : Nat) (p0 : (List SSpan)) (k : Ex → Fr → Option R) : X cp n i_span_Check_0 (fr_span_Check_2 p0) k = s_span_Check_1 cp n p0 (k .norm (fr_span_Check_2 p0)) := by kernel_rfl
def fr_span_Check_4 (p0 : (List SSpan)) (v119 : Int) : Fr := (.row false (.rSpan p0)) :: dT 4 ((.row false (.rSpan p0)) :: (tL v119) :: (tL 0) :: dT 33 [])
theorem s_span_Check_3_t {R : Type} (cp : Nat → Nat → Bool) (n : Nat) (p0 : (List SSpan)) (k : Ex → Fr → Option R) : X cp n i_span_Check_1 (fr_span_Check_2 p0) k = s_span_Check_3 cp n p0 (fun v119 => k .norm (fr_span_Check_4 p0 v119)) := by kernel_rfl
def fr_span_Check_6 (p0 : (List SSpan)) (v119 v122 : Int) : Fr := (.row false (.rSpan p0)) :: dT 4 ((.row false (.rSpan p0)) :: (tL v119) :: (tL v122) :: dT 33 [])
def fr_span_Check_7 : Fr := dT 2 ((tL 60) :: dT 38 [])
def fr_span_Check_8 : Fr := dT 41 []
def fr_span_Check_9 (p0 : (List SSpan)) (v119 v120 : Int) : Fr := (.row false (.rSpan p0)) :: dT 4 ((.row false (.rSpan p0)) :: (tL v119) :: (tL v120) :: dT 33 [])
theorem s_span_Check_5_t {R : Type} (cp : Nat → Nat → Bool) (n : Nat) (p0 : (List SSpan)) (v119 v120 : Int) (k : Ex → Fr → Option R) : X cp n i_span_Check_2 (fr_span_Check_9 p0 v119 v120) k = s_span_Check_5 cp n p0 v119 v120 (fun v122 => k .norm (fr_span_Check_6 p0 v119 v122)) (k .ret fr_span_Check_7) (k (.exit 0) fr_span_Check_8) := by kernel_rfl
theorem l_span_Check_10_t {R : Type} (cp : Nat → Nat → Bool) (n : Nat) : ∀ (m : Nat) (p0 : (List SSpan)) (v119 v120 : Int) (k : Ex → Fr → Option R), loopN2 (X cp n i_span_Check_2) m (fr_span_Check_9 p0 v119 v120) k = l_span_Check_10 cp n m p0 v119 v120 (k .ret fr_span_Check_7) (k (.exit 0) fr_span_Check_8)
  | 0, _, _, _, _ => rfl
  | m + 1, p0, v119, v120, k => (loopN2_succ (X cp n i_span_Check_2) m (fr_span_Check_9 p0 v119 v120) k).trans ((s_span_Check_5_t cp n p0 v119 v120 (loopT (X cp n i_span_Check_2) m k)).trans ((show s_span_Check_5 cp n p0 v119 v120 (fun v122 => loopT (X cp n i_span_Check_2) m k .norm (fr_span_Check_6 p0 v119 v122)) (loopT (X cp n i_span_Check_2) m k .ret fr_span_Check_7) (loopT (X cp n i_span_Check_2) m k (.exit 0) fr_span_Check_8) = s_span_Check_5 cp n p0 v119 v120 (fun v122 => loopN2 (X cp n i_span_Check_2) m (fr_span_Check_9 p0 v119 v122) k) (k .ret fr_span_Check_7) (k (.exit 0) fr_span_Check_8) from by kernel_rfl).trans (congrArg (fun q => s_span_Check_5 cp n p0 v119 v120 q (k .ret fr_span_Check_7) (k (.exit 0) fr_span_Check_8)) (funext fun v122 => l_span_Check_10_t cp n m p0 v119 v122 k))))
theorem s_span_Check_11_t {R : Type} (cp : Nat → Nat → Bool) (n : Nat) (p0 : (List SSpan)) (v119 : Int) (k : Ex → Fr → Option R) : X cp n i_span_Check_3 (fr_span_Check_4 p0 v119) k = s_span_Check_11 cp n p0 v119 (k .ret fr_span_Check_7) (k (.exit 0) fr_span_Check_8) := (show X cp n i_span_Check_3 (fr_span_Check_4 p0 v119) k = loopN2 (X cp n i_span_Check_2) n (fr_span_Check_9 p0 v119 0) k from by kernel_rfl).trans (l_span_Check_10_t cp n n p0 v119 0 k)
theorem s_span_Check_12_t {R : Type} (cp : Nat → Nat → Bool) (n : Nat) (p0 : (List SSpan)) (v119 : Int) (k : Ex → Fr → Option R) : X cp n i_span_Check_4 (fr_span_Check_4 p0 v119) k = s_span_Check_12 cp n p0 v119 (k .norm fr_span_Check_8) (k .ret fr_span_Check_7) := (show X cp n i_span_Check_4 (fr_span_Check_4 p0 v119) k = X cp n i_span_Check_3 (fr_span_Check_4 p0 v119) (blkT 0 k) from by kernel_rfl).trans ((s_span_Check_11_t cp n p0 v119 (blkT 0 k)).trans (by kernel_rfl))
theorem s_span_Check_13_t {R : Type} (cp : Nat → Nat → Bool) (n : Nat) (p0 : (List SSpan)) (k : Ex → Fr → Option R) : X cp n i_span_Check_5 (fr_span_Check_2 p0) k = s_span_Check_13 cp n p0 (k .norm fr_span_Check_8) (k .ret fr_span_Check_7) := (show X cp n i_span_Check_5 (fr_span_Check_2 p0) k = X cp n i_span_Check_1 (fr_span_Check_2 p0) (seqT (X cp n) i_span_Check_4 k) from by kernel_rfl).trans ((show X cp n i_span_Check_1 (fr_span_Check_2 p0) (seqT (X cp n) i_span_Check_4 k) = s_span_Check_3 cp n p0 (fun v119 => X cp n i_span_Check_4 (fr_span_Check_4 p0 v119) k) from (s_span_Check_3_t cp n p0 (seqT (X cp n) i_span_Check_4 k)).trans (by kernel_rfl)).trans (congrArg (fun q => s_span_Check_3 cp n p0 q) (funext fun v119 => s_span_Check_12_t cp n p0 v119 k)))
def fr_span_Check_15 : Fr := dT 2 ((tL 0) :: dT 38 [])
theorem s_span_Check_14_t {R : Type} (cp : Nat → Nat → Bool) (n : Nat) (k : Ex → Fr → Option R) : X cp n i_span_Check_6 fr_span_Check_8 k = s_span_Check_14 cp n (k .ret fr_span_Check_15) := by kernel_rfl
def fr_span_Check_16 (v123 : Int) : Fr := dT 2 ((tL v123) :: dT 38 [])
theorem s_span_Check_17_t {R : Type} (cp : Nat → Nat → Bool) (n : Nat) (p0 : (List SSpan)) (k : Ex → Fr → Option R) : X cp n i_span_Check_7 (fr_span_Check_2 p0) k = s_span_Check_17 cp n p0 (fun v123 => k .ret (fr_span_Check_16 v123)) := (show X cp n i_span_Check_7 (fr_span_Check_2 p0) k = X cp n i_span_Check_5 (fr_span_Check_2 p0) (seqT (X cp n) i_span_Check_6 k) from by kernel_rfl).trans ((show X cp n i_span_Check_5 (fr_span_Check_2 p0) (seqT (X cp n) i_span_Check_6 k) = s_span_Check_13 cp n p0 (X cp n i_span_Check_6 fr_span_Check_8 k) (k .ret (fr_span_Check_16 60)) from (s_span_Check_13_t cp n p0 (seqT (X cp n) i_span_Check_6 k)).trans (by kernel_rfl)).trans (congrArg (fun q => s_span_Check_13 cp n p0 q (k .ret (fr_span_Check_16 60))) ((s_span_Check_14_t cp n  k).trans (show s_span_Check_14 cp n (k .ret fr_span_Check_15) = s_span_Check_14 cp n (k .ret (fr_span_Check_16 0)) from by kernel_rfl))))
def fr_span_Check_18 (v124 : Int) : Fr := dT 2 ((tL v124) :: dT 38 [])
theorem s_span_Check_19_t {R : Type} (cp : Nat → Nat → Bool) (n : Nat) (p0 : (List SSpan)) (k : Ex → Fr → Option R) : X cp n i_span_Check_8 (fr_span_Check_2 p0) k = s_span_Check_19 cp n p0 (fun v124 => k .ret (fr_span_Check_18 v124)) := (show X cp n i_span_Check_8 (fr_span_Check_2 p0) k = X cp n i_span_Check_0 (fr_span_Check_2 p0) (seqT (X cp n) i_span_Check_7 k) from by kernel_rfl).trans ((show X cp n i_span_Check_0 (fr_span_Check_2 p0) (seqT (X cp n) i_span_Check_7 k) = s_span_Check_1 cp n p0 (X cp n i_span_Check_7 (fr_span_Check_2 p0) k) from (s_span_Check_1_t cp n p0 (seqT (X cp n) i_span_Check_7 k)).trans (by kernel_rfl)).trans (congrArg (fun q => s_span_Check_1 cp n p0 q) ((s_span_Check_17_t cp n p0 k).trans (show s_span_Check_17 cp n p0 (fun v123 => k .ret (fr_span_Check_16 v123)) = s_span_Check_17 cp n p0 (fun v123 => k .ret (fr_span_Check_18 v123)) from by kernel_rfl))))
theorem run_span_Check {R : Type} (cp : Nat → Nat → Bool) (n : Nat) (p0 : (List SSpan)) (k : Ret2 RW → Option R) : G_span_Check cp (n + 1) p0 (fun r0 => k ⟨(tL r0), []⟩) = run2 U cp (callP cp n) n fn_span_Check [.row false (.rSpan p0)] [] k := ((show run2 U cp (callP cp n) n fn_span_Check [.row false (.rSpan p0)] [] k = X cp n i_span_Check_8 (fr_span_Check_2 p0) (finK2 fn_span_Check k) from by kernel_rfl).trans ((s_span_Check_19_t cp n p0 (finK2 fn_span_Check k)).trans (by kernel_rfl))).symm
/-! tideway/span.right -/
theorem run_span_right {R : Type} (cp : Nat → Nat → Bool) (n : Nat) (p0 : (List SSpan)) (p1 : SSpan) (k : Ret2 RW → Option R) : G_span_right cp (n + 1) p0 p1 (fun r0 => k ⟨(tL r0), []⟩) = run2 U cp (callP cp n) n fn_span_right [.row false (.rSpan p0), .agg (eSpan p1)] [] k := by kernel_rfl
/-! tideway/span.Add -/
def fr_span_Add_2 (p0 : (List SSpan)) (p1 : SSpan) : Fr := (.row false (.rSpan p0)) :: dT 2 ((.ptr 87 0) :: dT 83 ((.hdr 2) :: ((eSpan p1))))
def fr_span_Add_3 (p0 : (List SSpan)) (p1 : SSpan) : Fr := (.row false (.rSpan p0)) :: (.agg (eSpan p1)) :: dT 88 []
theorem s_span_Add_1_t {R : Type} (cp : Nat → Nat → Bool) (n : Nat) (p0 : (List SSpan)) (p1 : SSpan) (k : Ex → Fr → Option R) : X cp n i_span_Add_0 (fr_span_Add_3 p0 p1) k = s_span_Add_1 cp n p0 p1 (k .norm (fr_span_Add_2 p0 p1)) := by kernel_rfl
def fr_span_Add_5 (v128 : Int) : Fr := dT 4 ((.row true (.rSpan [])) :: (tL v128) :: dT 84 [])
theorem s_span_Add_4_t {R : Type} (cp : Nat → Nat → Bool) (n : Nat) (p0 : (List SSpan)) (p1 : SSpan) (k : Ex → Fr → Option R) : X cp n i_span_Add_1 (fr_span_Add_2 p0 p1) k = s_span_Add_4 cp n p0 p1 (k .norm (fr_span_Add_2 p0 p1)) (fun v128 => k .ret (fr_span_Add_5 v128)) := by kernel_rfl
def fr_span_Add_7 (v130 : (List SSpan)) : Fr := dT 4 ((.row true (.rSpan v130)) :: (tL 0) :: dT 84 [])
theorem s_span_Add_6_t {R : Type} (cp : Nat → Nat → Bool) (n : Nat) (p0 : (List SSpan)) (p1 : SSpan) (k : Ex → Fr → Option R) : X cp n i_span_Add_2 (fr_span_Add_2 p0 p1) k = s_span_Add_6 cp n p0 p1 (k .norm (fr_span_Add_2 p0 p1)) (fun v130 => k .ret (fr_span_Add_7 v130)) := by kernel_rfl
def fr_span_Add_9 (p0 : (List SSpan)) (p1 : SSpan) : Fr := (.row false (.rSpan p0)) :: dT 2 ((.ptr 87 0) :: dT 3 ((.row true (.rSpan [])) :: dT 79 ((.hdr 2) :: ((eSpan p1)))))
theorem s_span_Add_8_t {R : Type} (cp : Nat → Nat → Bool) (n : Nat) (p0 : (List SSpan)) (p1 : SSpan) (k : Ex → Fr → Option R) : X cp n i_span_Add_3 (fr_span_Add_2 p0 p1) k = s_span_Add_8 cp n p0 p1 (k .norm (fr_span_Add_9 p0 p1)) := by kernel_rfl
def fr_span_Add_11 (p0 : (List SSpan)) (p1 : SSpan) : Fr := (.row false (.rSpan p0)) :: dT 2 ((.ptr 87 0) :: dT 3 ((.row true (.rSpan [])) :: (tL 0) :: dT 78 ((.hdr 2) :: ((eSpan p1)))))
theorem s_span_Add_10_t {R : Type} (cp : Nat → Nat → Bool) (n : Nat) (p0 : (List SSpan)) (p1 : SSpan) (k : Ex → Fr → Option R) : X cp n i_span_Add_4 (fr_span_Add_9 p0 p1) k = s_span_Add_10 cp n p0 p1 (k .norm (fr_span_Add_11 p0 p1)) := by kernel_rfl
def fr_span_Add_13 (p0 : (List SSpan)) (p1 : SSpan) (v133 : (List SSpan)) (v134 : Int) : Fr := (.row false (.rSpan p0)) :: dT 2 ((.ptr 87 0) :: dT 3 ((.row true (.rSpan v133)) :: (tL v134) :: dT 78 ((.hdr 2) :: ((eSpan p1)))))
def fr_span_Add_14 (p0 : (List SSpan)) (p1 : SSpan) (v131 : (List SSpan)) (v132 : Int) : Fr := (.row false (.rSpan p0)) :: dT 2 ((.ptr 87 0) :: dT 3 ((.row true (.rSpan v131)) :: (tL v132) :: dT 78 ((.hdr 2) :: ((eSpan p1)))))
theorem s_span_Add_12_t {R : Type} (cp : Nat → Nat → Bool) (n : Nat) (p0 : (List SSpan)) (p1 : SSpan) (v131 : (List SSpan)) (v132 : Int) (k : Ex → Fr → Option R) : X cp n i_span_Add_5 (fr_span_Add_14 p0 p1 v131 v132) k = s_span_Add_12 cp n p0 p1 v131 v132 (fun v133 v134 => k .norm (fr_span_Add_13 p0 p1 v133 v134)) (k (.exit 0) (fr_span_Add_14 p0 p1 v131 v132)) := by kernel_rfl
def fr_span_Add_15 (p0 : (List SSpan)) (p1 : SSpan) (v135 : (List SSpan)) (v136 : Int) : Fr := (.row false (.rSpan p0)) :: dT 2 ((.ptr 87 0) :: dT 3 ((.row true (.rSpan v135)) :: (tL v136) :: dT 78 ((.hdr 2) :: ((eSpan p1)))))
theorem l_span_Add_16_t {R : Type} (cp : Nat → Nat → Bool) (n : Nat) : ∀ (m : Nat) (p0 : (List SSpan)) (p1 : SSpan) (v131 : (List SSpan)) (v132 : Int) (k : Ex → Fr → Option R), loopN2 (X cp n i_span_Add_5) m (fr_span_Add_14 p0 p1 v131 v132) k = l_span_Add_16 cp n m p0 p1 v131 v132 (fun v135 v136 => k (.exit 0) (fr_span_Add_15 p0 p1 v135 v136))
  | 0, _, _, _, _, _ => rfl
  | m + 1, p0, p1, v131, v132, k => (loopN2_succ (X cp n i_span_Add_5) m (fr_span_Add_14 p0 p1 v131 v132) k).trans ((s_span_Add_12_t cp n p0 p1 v131 v132 (loopT (X cp n i_span_Add_5) m k)).trans ((show s_span_Add_12 cp n p0 p1 v131 v132 (fun v133 v134 => loopT (X cp n i_span_Add_5) m k .norm (fr_span_Add_13 p0 p1 v133 v134)) (loopT (X cp n i_span_Add_5) m k (.exit 0) (fr_span_Add_14 p0 p1 v131 v132)) = s_span_Add_12 cp n p0 p1 v131 v132 (fun v133 v134 => loopN2 (X cp n i_span_Add_5) m (fr_span_Add_14 p0 p1 v133 v134) k) (k (.exit 0) (fr_span_Add_15 p0 p1 v131 v132)) from by kernel_rfl).trans (congrArg (fun q => s_span_Add_12 cp n p0 p1 v131 v132 q (k (.exit 0) (fr_span_Add_15 p0 p1 v131 v132))) (funext fun v133 => funext fun v134 => l_span_Add_16_t cp n m p0 p1 v133 v134 k))))
theorem s_span_Add_17_t {R : Type} (cp : Nat → Nat → Bool) (n : Nat) (p0 : (List SSpan)) (p1 : SSpan) (k : Ex → Fr → Option R) : X cp n i_span_Add_6 (fr_span_Add_11 p0 p1) k = s_span_Add_17 cp n p0 p1 (fun v135 v136 => k (.exit 0) (fr_span_Add_15 p0 p1 v135 v136)) := (show X cp n i_span_Add_6 (fr_span_Add_11 p0 p1) k = loopN2 (X cp n i_span_Add_5) n (fr_span_Add_14 p0 p1 [] 0) k from by kernel_rfl).trans (l_span_Add_16_t cp n n p0 p1 [] 0 k)
def fr_span_Add_18 (p0 : (List SSpan)) (p1 : SSpan) (v137 : (List SSpan)) (v138 : Int) : Fr := (.row false (.rSpan p0)) :: dT 2 ((.ptr 87 0) :: dT 3 ((.row true (.rSpan v137)) :: (tL v138) :: dT 78 ((.hdr 2) :: ((eSpan p1)))))
theorem s_span_Add_19_t {R : Type} (cp : Nat → Nat → Bool) (n : Nat) (p0 : (List SSpan)) (p1 : SSpan) (k : Ex → Fr → Option R) : X cp n i_span_Add_7 (fr_span_Add_11 p0 p1) k = s_span_Add_19 cp n p0 p1 (fun v137 v138 => k .norm (fr_span_Add_18 p0 p1 v137 v138)) := (show X cp n i_span_Add_7 (fr_span_Add_11 p0 p1) k = X cp n i_span_Add_6 (fr_span_Add_11 p0 p1) (blkT 0 k) from by kernel_rfl).trans ((s_span_Add_17_t cp n p0 p1 (blkT 0 k)).trans (by kernel_rfl))
def fr_span_Add_21 (p0 v137 : (List SSpan)) (v142 v143 v144 : Int) : Fr := (.row false (.rSpan p0)) :: dT 2 ((.ptr 87 0) :: dT 3 ((.row true (.rSpan v137)) :: (tL v142) :: dT 78 ([.hdr 2, (tL v143), (tL v144)])))
def fr_span_Add_22 (p0 v137 : (List SSpan)) (v139 v140 v141 : Int) : Fr := (.row false (.rSpan p0)) :: dT 2 ((.ptr 87 0) :: dT 3 ((.row true (.rSpan v137)) :: (tL v139) :: dT 78 ([.hdr 2, (tL v140), (tL v141)])))
theorem s_span_Add_20_t {R : Type} (cp : Nat → Nat → Bool) (n : Nat) (p0 v137 : (List SSpan)) (v139 v140 v141 : Int) (k : Ex → Fr → Option R) : X cp n i_span_Add_8 (fr_span_Add_22 p0 v137 v139 v140 v141) k = s_span_Add_20 cp n p0 v137 v139 v140 v141 (fun v142 v143 v144 => k .norm (fr_span_Add_21 p0 v137 v142 v143 v144)) (k (.exit 2) (fr_span_Add_22 p0 v137 v139 v140 v141)) := by kernel_rfl
def fr_span_Add_23 (p0 v137 : (List SSpan)) (v145 v146 v147 : Int) : Fr := (.row false (.rSpan p0)) :: dT 2 ((.ptr 87 0) :: dT 3 ((.row true (.rSpan v137)) :: (tL v145) :: dT 78 ([.hdr 2, (tL v146), (tL v147)])))
theorem l_span_Add_24_t {R : Type} (cp : Nat → Nat → Bool) (n : Nat) : ∀ (m : Nat) (p0 v137 : (List SSpan)) (v139 v140 v141 : Int) (k : Ex → Fr → Option R), loopN2 (X cp n i_span_Add_8) m (fr_span_Add_22 p0 v137 v139 v140 v141) k = l_span_Add_24 cp n m p0 v137 v139 v140 v141 (fun v145 v146 v147 => k (.exit 2) (fr_span_Add_23 p0 v137 v145 v146 v147))
  | 0, _, _, _, _, _, _ => rfl
  | m + 1, p0, v137, v139, v140, v141, k => (loopN2_succ (X cp n i_span_Add_8) m (fr_span_Add_22 p0 v137 v139 v140 v141) k).trans ((s_span_Add_20_t cp n p0 v137 v139 v140 v141 (loopT (X cp n i_span_Add_8) m k)).trans ((show s_span_Add_20 cp n p0 v137 v139 v140 v141 (fun v142 v143 v144 => loopT (X cp n i_span_Add_8) m k .norm (fr_span_Add_21 p0 v137 v142 v143 v144)) (loopT (X cp n i_span_Add_8) m k (.exit 2) (fr_span_Add_22 p0 v137 v139 v140 v141)) = s_span_Add_20 cp n p0 v137 v139 v140 v141 (fun v142 v143 v144 => loopN2 (X cp n i_span_Add_8) m (fr_span_Add_22 p0 v137 v142 v143 v144) k) (k (.exit 2) (fr_span_Add_23 p0 v137 v139 v140 v141)) from by kernel_rfl).trans (congrArg (fun q => s_span_Add_20 cp n p0 v137 v139 v140 v141 q (k (.exit 2) (fr_span_Add_23 p0 v137 v139 v140 v141))) (funext fun v142 => funext fun v143 => funext fun v144 => l_span_Add_24_t cp n m p0 v137 v142 v143 v144 k))))
theorem s_span_Add_25_t {R : Type} (cp : Nat → Nat → Bool) (n : Nat) (p0 : (List SSpan)) (p1 : SSpan) (v137 : (List SSpan)) (v138 : Int) (k : Ex → Fr → Option R) : X cp n i_span_Add_9 (fr_span_Add_18 p0 p1 v137 v138) k = s_span_Add_25 cp n p0 p1 v137 v138 (fun v145 v146 v147 => k (.exit 2) (fr_span_Add_23 p0 v137 v145 v146 v147)) := (show X cp n i_span_Add_9 (fr_span_Add_18 p0 p1 v137 v138) k = loopN2 (X cp n i_span_Add_8) n (fr_span_Add_22 p0 v137 v138 p1.xFrom p1.xTo) k from by kernel_rfl).trans (l_span_Add_24_t cp n n p0 v137 v138 p1.xFrom p1.xTo k)
def fr_span_Add_26 (p0 v137 : (List SSpan)) (v148 v149 v150 : Int) : Fr := (.row false (.rSpan p0)) :: dT 2 ((.ptr 87 0) :: dT 3 ((.row true (.rSpan v137)) :: (tL v148) :: dT 78 ([.hdr 2, (tL v149), (tL v150)])))
theorem s_span_Add_27_t {R : Type} (cp : Nat → Nat → Bool) (n : Nat) (p0 : (List SSpan)) (p1 : SSpan) (v137 : (List SSpan)) (v138 : Int) (k : Ex → Fr → Option R) : X cp n i_span_Add_10 (fr_span_Add_18 p0 p1 v137 v138) k = s_span_Add_27 cp n p0 p1 v137 v138 (fun v148 v149 v150 => k .norm (fr_span_Add_26 p0 v137 v148 v149 v150)) := (show X cp n i_span_Add_10 (fr_span_Add_18 p0 p1 v137 v138) k = X cp n i_span_Add_9 (fr_span_Add_18 p0 p1 v137 v138) (blkT 2 k) from by kernel_rfl).trans ((s_span_Add_25_t cp n p0 p1 v137 v138 (blkT 2 k)).trans (by kernel_rfl))
def fr_span_Add_29 (v151 : (List SSpan)) : Fr := dT 4 ((.row true (.rSpan v151)) :: (tL 0) :: dT 84 [])
theorem s_span_Add_28_t {R : Type} (cp : Nat → Nat → Bool) (n : Nat) (p0 v137 : (List SSpan)) (v148 v149 v150 : Int) (k : Ex → Fr → Option R) : X cp n i_span_Add_11 (fr_span_Add_26 p0 v137 v148 v149 v150) k = s_span_Add_28 cp n p0 v137 v148 v149 v150 (fun v151 => k .ret (fr_span_Add_29 v151)) := by kernel_rfl
def fr_span_Add_30 (v152 : (List SSpan)) : Fr := dT 4 ((.row true (.rSpan v152)) :: (tL 0) :: dT 84 [])
theorem s_span_Add_31_t {R : Type} (cp : Nat → Nat → Bool) (n : Nat) (p0 : (List SSpan)) (p1 : SSpan) (v137 : (List SSpan)) (v138 : Int) (k : Ex → Fr → Option R) : X cp n i_span_Add_12 (fr_span_Add_18 p0 p1 v137 v138) k = s_span_Add_31 cp n p0 p1 v137 v138 (fun v152 => k .ret (fr_span_Add_30 v152)) := (show X cp n i_span_Add_12 (fr_span_Add_18 p0 p1 v137 v138) k = X cp n i_span_Add_10 (fr_span_Add_18 p0 p1 v137 v138) (seqT (X cp n) i_span_Add_11 k) from by kernel_rfl).trans ((show X cp n i_span_Add_10 (fr_span_Add_18 p0 p1 v137 v138) (seqT (X cp n) i_span_Add_11 k) = s_span_Add_27 cp n p0 p1 v137 v138 (fun v148 v149 v150 => X cp n i_span_Add_11 (fr_span_Add_26 p0 v137 v148 v149 v150) k) from (s_span_Add_27_t cp n p0 p1 v137 v138 (seqT (X cp n) i_span_Add_11 k)).trans (by kernel_rfl)).trans (congrArg (fun q => s_span_Add_27 cp n p0 p1 v137 v138 q) (funext fun v148 => funext fun v149 => funext fun v150 => (s_span_Add_28_t cp n p0 v137 v148 v149 v150 k).trans (show s_span_Add_28 cp n p0 v137 v148 v149 v150 (fun v151 => k .ret (fr_span_Add_29 v151)) = s_span_Add_28 cp n p0 v137 v148 v149 v150 (fun v151 => k .ret (fr_span_Add_30 v151)) from by kernel_rfl))))
def fr_span_Add_32 (v153 : (List SSpan)) : Fr := dT 4 ((.row true (.rSpan v153)) :: (tL 0) :: dT 84 [])
theorem s_span_Add_33_t {R : Type} (cp : Nat → Nat → Bool) (n : Nat) (p0 : (List SSpan)) (p1 : SSpan) (k : Ex → Fr → Option R) : X cp n i_span_Add_13 (fr_span_Add_11 p0 p1) k = s_span_Add_33 cp n p0 p1 (fun v153 => k .ret (fr_span_Add_32 v153)) := (show X cp n i_span_Add_13 (fr_span_Add_11 p0 p1) k = X cp n i_span_Add_7 (fr_span_Add_11 p0 p1) (seqT (X cp n) i_span_Add_12 k) from by kernel_rfl).trans ((show X cp n i_span_Add_7 (fr_span_Add_11 p0 p1) (seqT (X cp n) i_span_Add_12 k) = s_span_Add_19 cp n p0 p1 (fun v137 v138 => X cp n i_span_Add_12 (fr_span_Add_18 p0 p1 v137 v138) k) from (s_span_Add_19_t cp n p0 p1 (seqT (X cp n) i_span_Add_12 k)).trans (by kernel_rfl)).trans (congrArg (fun q => s_span_Add_19 cp n p0 p1 q) (funext fun v137 => funext fun v138 => (s_span_Add_31_t cp n p0 p1 v137 v138 k).trans (show s_span_Add_31 cp n p0 p1 v137 v138 (fun v152 => k .ret (fr_span_Add_30 v152)) = s_span_Add_31 cp n p0 p1 v137 v138 (fun v152 => k .ret (fr_span_Add_32 v152)) from by kernel_rfl))))
def fr_span_Add_34 (v154 : (List SSpan)) : Fr := dT 4 ((.row true (.rSpan v154)) :: (tL 0) :: dT 84 [])
theorem s_span_Add_35_t {R : Type} (cp : Nat → Nat → Bool) (n : Nat) (p0 : (List SSpan)) (p1 : SSpan) (k : Ex → Fr → Option R) : X cp n i_span_Add_14 (fr_span_Add_9 p0 p1) k = s_span_Add_35 cp n p0 p1 (fun v154 => k .ret (fr_span_Add_34 v154)) := (show X cp n i_span_Add_14 (fr_span_Add_9 p0 p1) k = X cp n i_span_Add_4 (fr_span_Add_9 p0 p1) (seqT (X cp n) i_span_Add_13 k) from by kernel_rfl).trans ((show X cp n i_span_Add_4 (fr_span_Add_9 p0 p1) (seqT (X cp n) i_span_Add_13 k) = s_span_Add_10 cp n p0 p1 (X cp n i_span_Add_13 (fr_span_Add_11 p0 p1) k) from (s_span_Add_10_t cp n p0 p1 (seqT (X cp n) i_span_Add_13 k)).trans (by kernel_rfl)).trans (congrArg (fun q => s_span_Add_10 cp n p0 p1 q) ((s_span_Add_33_t cp n p0 p1 k).trans (show s_span_Add_33 cp n p0 p1 (fun v153 => k .ret (fr_span_Add_32 v153)) = s_span_Add_33 cp n p0 p1 (fun v153 => k .ret (fr_span_Add_34 v153)) from by kernel_rfl))))
def fr_span_Add_36 (v155 : (List SSpan)) : Fr := dT 4 ((.row true (.rSpan v155)) :: (tL 0) :: dT 84 [])
theorem s_span_Add_37_t {R : Type} (cp : Nat → Nat → Bool) (n : Nat) (p0 : (List SSpan)) (p1 : SSpan) (k : Ex → Fr → Option R) : X cp n i_span_Add_15 (fr_span_Add_2 p0 p1) k = s_span_Add_37 cp n p0 p1 (fun v155 => k .ret (fr_span_Add_36 v155)) := (show X cp n i_span_Add_15 (fr_span_Add_2 p0 p1) k = X cp n i_span_Add_3 (fr_span_Add_2 p0 p1) (seqT (X cp n) i_span_Add_14 k) from by kernel_rfl).trans ((show X cp n i_span_Add_3 (fr_span_Add_2 p0 p1) (seqT (X cp n) i_span_Add_14 k) = s_span_Add_8 cp n p0 p1 (X cp n i_span_Add_14 (fr_span_Add_9 p0 p1) k) from (s_span_Add_8_t cp n p0 p1 (seqT (X cp n) i_span_Add_14 k)).trans (by kernel_rfl)).trans (congrArg (fun q => s_span_Add_8 cp n p0 p1 q) ((s_span_Add_35_t cp n p0 p1 k).trans (show s_span_Add_35 cp n p0 p1 (fun v154 => k .ret (fr_span_Add_34 v154)) = s_span_Add_35 cp n p0 p1 (fun v154 => k .ret (fr_span_Add_36 v154)) from by kernel_rfl))))
def fr_span_Add_38 (v156 : (List SSpan)) : Fr := dT 4 ((.row true (.rSpan v156)) :: (tL 0) :: dT 84 [])
theorem s_span_Add_39_t {R : Type} (cp : Nat → Nat → Bool) (n : Nat) (p0 : (List SSpan)) (p1 : SSpan) (k : Ex → Fr → Option R) : X cp n i_span_Add_16 (fr_span_Add_2 p0 p1) k = s_span_Add_39 cp n p0 p1 (fun v156 => k .ret (fr_span_Add_38 v156)) := (show X cp n i_span_Add_16 (fr_span_Add_2 p0 p1) k = X cp n i_span_Add_2 (fr_span_Add_2 p0 p1) (seqT (X cp n) i_span_Add_15 k) from by kernel_rfl).trans ((show X cp n i_span_Add_2 (fr_span_Add_2 p0 p1) (seqT (X cp n) i_span_Add_15 k) = s_span_Add_6 cp n p0 p1 (X cp n i_span_Add_15 (fr_span_Add_2 p0 p1) k) (fun v130 => k .ret (fr_span_Add_38 v130)) from (s_span_Add_6_t cp n p0 p1 (seqT (X cp n) i_span_Add_15 k)).trans (by kernel_rfl)).trans (congrArg (fun q => s_span_Add_6 cp n p0 p1 q (fun v130 => k .ret (fr_span_Add_38 v130))) ((s_span_Add_37_t cp n p0 p1 k).trans (show s_span_Add_37 cp n p0 p1 (fun v155 => k .ret (fr_span_Add_36 v155)) = s_span_Add_37 cp n p0 p1 (fun v155 => k .ret (fr_span_Add_38 v155)) from by kernel_rfl))))
def fr_span_Add_40 (v157 : (List SSpan)) (v158 : Int) : Fr := dT 4 ((.row true (.rSpan v157)) :: (tL v158) :: dT 84 [])
theorem s_span_Add_41_t {R : Type} (cp : Nat → Nat → Bool) (n : Nat) (p0 : (List SSpan)) (p1 : SSpan) (k : Ex → Fr → Option R) : X cp n i_span_Add_17 (fr_span_Add_2 p0 p1) k = s_span_Add_41 cp n p0 p1 (fun v157 v158 => k .ret (fr_span_Add_40 v157 v158)) := (show X cp n i_span_Add_17 (fr_span_Add_2 p0 p1) k = X cp n i_span_Add_1 (fr_span_Add_2 p0 p1) (seqT (X cp n) i_span_Add_16 k) from by kernel_rfl).trans ((show X cp n i_span_Add_1 (fr_span_Add_2 p0 p1) (seqT (X cp n) i_span_Add_16 k) = s_span_Add_4 cp n p0 p1 (X cp n i_span_Add_16 (fr_span_Add_2 p0 p1) k) (fun v128 => k .ret (fr_span_Add_40 [] v128)) from (s_span_Add_4_t cp n p0 p1 (seqT (X cp n) i_span_Add_16 k)).trans (by kernel_rfl)).trans (congrArg (fun q => s_span_Add_4 cp n p0 p1 q (fun v128 => k .ret (fr_span_Add_40 [] v128))) ((s_span_Add_39_t cp n p0 p1 k).trans (show s_span_Add_39 cp n p0 p1 (fun v156 => k .ret (fr_span_Add_38 v156)) = s_span_Add_39 cp n p0 p1 (fun v156 => k .ret (fr_span_Add_40 v156 0)) from by kernel_rfl))))
def fr_span_Add_42 (v159 : (List SSpan)) (v160 : Int) : Fr := dT 4 ((.row true (.rSpan v159)) :: (tL v160) :: dT 84 [])
theorem s_span_Add_43_t {R : Type} (cp : Nat → Nat → Bool) (n : Nat) (p0 : (List SSpan)) (p1 : SSpan) (k : Ex → Fr → Option R) : X cp n i_span_Add_18 (fr_span_Add_3 p0 p1) k = s_span_Add_43 cp n p0 p1 (fun v159 v160 => k .ret (fr_span_Add_42 v159 v160)) := (show X cp n i_span_Add_18 (fr_span_Add_3 p0 p1) k = X cp n i_span_Add_0 (fr_span_Add_3 p0 p1) (seqT (X cp n) i_span_Add_17 k) from by kernel_rfl).trans ((show X cp n i_span_Add_0 (fr_span_Add_3 p0 p1) (seqT (X cp n) i_span_Add_17 k) = s_span_Add_1 cp n p0 p1 (X cp n i_span_Add_17 (fr_span_Add_2 p0 p1) k) from (s_span_Add_1_t cp n p0 p1 (seqT (X cp n) i_span_Add_17 k)).trans (by kernel_rfl)).trans (congrArg (fun q => s_span_Add_1 cp n p0 p1 q) ((s_span_Add_41_t cp n p0 p1 k).trans (show s_span_Add_41 cp n p0 p1 (fun v157 v158 => k .ret (fr_span_Add_40 v157 v158)) = s_span_Add_41 cp n p0 p1 (fun v157 v158 => k .ret (fr_span_Add_42 v157 v158)) from by kernel_rfl))))
theorem run_span_Add {R : Type} (cp : Nat → Nat → Bool) (n : Nat) (p0 : (List SSpan)) (p1 : SSpan) (k : Ret2 RW → Option R) : G_span_Add cp (n + 1) p0 p1 (fun r0 r1 => k ⟨.tup [.row true (.rSpan r0), (tL r1)], []⟩) = run2 U cp (callP cp n) n fn_span_Add [.row false (.rSpan p0), .agg (eSpan p1)] [] k := ((show run2 U cp (callP cp n) n fn_span_Add [.row false (.rSpan p0), .agg (eSpan p1)] [] k = X cp n i_span_Add_18 (fr_span_Add_3 p0 p1) (finK2 fn_span_Add k) from by kernel_rfl).trans ((s_span_Add_43_t cp n p0 p1 (finK2 fn_span_Add k)).trans (by kernel_rfl))).symm
/-! tideway/ack.Weigh -/
def fr_ack_Weigh_2 (p0 : SAsked) (p1 : SSegment) : Fr := dT 2 ((.ptr 110 0) :: (.ptr 120 0) :: (.ptr 136 0) :: dT 105 ((.hdr 9) :: ((eAsked p0) ++ ((.hdr 15) :: ((eSegment p1) ++ ((.hdr 9) :: (tB false) :: (tL 0) :: (tB false) :: (tL 0) :: (tL 0) :: (tI .u32 0) :: (tL 0) :: (tB false) :: (.row true (.rSpan [])) :: dT 13 []))))))
def fr_ack_Weigh_3 (p0 : SAsked) (p1 : SSegment) : Fr := (.agg (eAsked p0)) :: (.agg (eSegment p1)) :: dT 157 []
theorem s_ack_Weigh_1_t {R : Type} (cp : Nat → Nat → Bool) (n : Nat) (p0 : SAsked) (p1 : SSegment) (k : Ex → Fr → Option R) : X cp n i_ack_Weigh_0 (fr_ack_Weigh_3 p0 p1) k = s_ack_Weigh_1 cp n p0 p1 (k .norm (fr_ack_Weigh_2 p0 p1)) := by kernel_rfl
def fr_ack_Weigh_5 (p0 : SAsked) (p1 : SSegment) (v10 : Int) (v11 : Bool) : Fr := dT 2 ((.ptr 110 0) :: (.ptr 120 0) :: (.ptr 136 0) :: (tL v10) :: (tB v11) :: dT 103 ((.hdr 9) :: ((eAsked p0) ++ ((.hdr 15) :: ((eSegment p1) ++ ((.hdr 9) :: (tB false) :: (tL 0) :: (tB false) :: (tL 0) :: (tL 0) :: (tI .u32 0) :: (tL 0) :: (tB false) :: (.row true (.rSpan [])) :: dT 13 []))))))
theorem s_ack_Weigh_4_t {R : Type} (cp : Nat → Nat → Bool) (n : Nat) (p0 : SAsked) (p1 : SSegment) (k : Ex → Fr → Option R) : X cp n i_ack_Weigh_1 (fr_ack_Weigh_2 p0 p1) k = s_ack_Weigh_4 cp n p0 p1 (fun v10 v11 => k .norm (fr_ack_Weigh_5 p0 p1 v10 v11)) := by kernel_rfl
def fr_ack_Weigh_7 (p0 : SAsked) (p1 : SSegment) (v10 : Int) : Fr := dT 2 ((.ptr 110 0) :: (.ptr 120 0) :: (.ptr 136 0) :: (tL v10) :: dT 104 ((.hdr 9) :: ((eAsked p0) ++ ((.hdr 15) :: ((eSegment p1) ++ ((.hdr 9) :: (tB false) :: (tL 0) :: (tB false) :: (tL 0) :: (tL 0) :: (tI .u32 0) :: (tL 0) :: (tB false) :: (.row true (.rSpan [])) :: dT 13 []))))))
def fr_ack_Weigh_8 : Fr := dT 4 ((.ptr 136 0) :: dT 131 ((.hdr 9) :: (tB false) :: (tL 0) :: (tB false) :: (tL 0) :: (tL 0) :: (tI .u32 0) :: (tL 0) :: (tB false) :: (.row true (.rSpan [])) :: dT 13 []))
theorem s_ack_Weigh_6_t {R : Type} (cp : Nat → Nat → Bool) (n : Nat) (p0 : SAsked) (p1 : SSegment) (v10 : Int) (v11 : Bool) (k : Ex → Fr → Option R) : X cp n i_ack_Weigh_2 (fr_ack_Weigh_5 p0 p1 v10 v11) k = s_ack_Weigh_6 cp n p0 p1 v10 v11 (k .norm (fr_ack_Weigh_7 p0 p1 v10)) (k .ret fr_ack_Weigh_8) := by kernel_rfl
def fr_ack_Weigh_10 (p0 : SAsked) (p1 : SSegment) (v10 v12 : Int) (v13 : Bool) : Fr := dT 2 ((.ptr 110 0) :: (.ptr 120 0) :: (.ptr 136 0) :: (tL v10) :: dT 1 ((.ptr 146 0) :: dT 102 ((.hdr 9) :: ((eAsked p0) ++ ((.hdr 15) :: ((eSegment p1) ++ ((.hdr 9) :: (tB false) :: (tL 0) :: (tB false) :: (tL 0) :: (tL 0) :: (tI .u32 0) :: (tL 0) :: (tB false) :: (.row true (.rSpan [])) :: (.hdr 9) :: (tB true) :: (tL v12) :: (tB v13) :: (tL p0.xPeer) :: (tL p1.xWin) :: (tI .u32 0) :: (tL 0) :: (tB false) :: (.row true (.rSpan [])) :: dT 3 [])))))))
theorem s_ack_Weigh_9_t {R : Type} (cp : Nat → Nat → Bool) (n : Nat) (p0 : SAsked) (p1 : SSegment) (v10 : Int) (k : Ex → Fr → Option R) : X cp n i_ack_Weigh_3 (fr_ack_Weigh_7 p0 p1 v10) k = s_ack_Weigh_9 cp n p0 p1 v10 (fun v12 v13 => k .norm (fr_ack_Weigh_10 p0 p1 v10 v12 v13)) := by kernel_rfl
def fr_ack_Weigh_12 (p0 : SAsked) (p1 : SSegment) (v10 v12 : Int) (v13 : Bool) (v14 : Int) : Fr := dT 2 ((.ptr 110 0) :: (.ptr 120 0) :: (.ptr 136 0) :: (tL v10) :: dT 1 ((.ptr 146 0) :: dT 102 ((.hdr 9) :: ((eAsked p0) ++ ((.hdr 15) :: ((eSegment p1) ++ ((.hdr 9) :: (tB false) :: (tL 0) :: (tB false) :: (tL 0) :: (tL 0) :: (tI .u32 0) :: (tL 0) :: (tB false) :: (.row true (.rSpan [])) :: (.hdr 9) :: (tB true) :: (tL v12) :: (tB v13) :: (tL p0.xPeer) :: (tL p1.xWin) :: (tI .u32 v14) :: (tL 0) :: (tB false) :: (.row true (.rSpan [])) :: dT 3 [])))))))
theorem s_ack_Weigh_11_t {R : Type} (cp : Nat → Nat → Bool) (n : Nat) (p0 : SAsked) (p1 : SSegment) (v10 v12 : Int) (v13 : Bool) (k : Ex → Fr → Option R) : X cp n i_ack_Weigh_4 (fr_ack_Weigh_10 p0 p1 v10 v12 v13) k = s_ack_Weigh_11 cp n p0 p1 v10 v12 v13 (fun v14 => k .norm (fr_ack_Weigh_12 p0 p1 v10 v12 v13 v14)) := by kernel_rfl
def fr_ack_Weigh_14 (p0 : SAsked) (p1 : SSegment) (v10 v12 : Int) (v13 : Bool) (v14 v16 : Int) : Fr := dT 2 ((.ptr 110 0) :: (.ptr 120 0) :: (.ptr 136 0) :: (tL v10) :: dT 1 ((.ptr 146 0) :: dT 102 ((.hdr 9) :: ((eAsked p0) ++ ((.hdr 15) :: ((eSegment p1) ++ ((.hdr 9) :: (tB false) :: (tL 0) :: (tB false) :: (tL 0) :: (tL 0) :: (tI .u32 0) :: (tL 0) :: (tB false) :: (.row true (.rSpan [])) :: (.hdr 9) :: (tB true) :: (tL v12) :: (tB v13) :: (tL p0.xPeer) :: (tL p1.xWin) :: (tI .u32 v14) :: (tL v16) :: (tB false) :: (.row true (.rSpan [])) :: dT 3 [])))))))
theorem s_ack_Weigh_13_t {R : Type} (cp : Nat → Nat → Bool) (n : Nat) (p0 : SAsked) (p1 : SSegment) (v10 v12 : Int) (v13 : Bool) (v14 : Int) (k : Ex → Fr → Option R) : X cp n i_ack_Weigh_5 (fr_ack_Weigh_12 p0 p1 v10 v12 v13 v14) k = s_ack_Weigh_13 cp n p0 p1 v10 v12 v13 v14 (fun v16 => k .norm (fr_ack_Weigh_14 p0 p1 v10 v12 v13 v14 v16)) := by kernel_rfl
def fr_ack_Weigh_16 (p0 : SAsked) (p1 : SSegment) (v12 : Int) (v13 : Bool) (v14 v16 : Int) : Fr := dT 4 ((.ptr 136 0) :: dT 131 ((.hdr 9) :: (tB true) :: (tL v12) :: (tB v13) :: (tL p0.xPeer) :: (tL p1.xWin) :: (tI .u32 v14) :: (tL v16) :: (tB false) :: (.row true (.rSpan [])) :: dT 13 []))
theorem s_ack_Weigh_15_t {R : Type} (cp : Nat → Nat → Bool) (n : Nat) (p0 : SAsked) (p1 : SSegment) (v10 v12 : Int) (v13 : Bool) (v14 v16 : Int) (k : Ex → Fr → Option R) : X cp n i_ack_Weigh_6 (fr_ack_Weigh_14 p0 p1 v10 v12 v13 v14 v16) k = s_ack_Weigh_15 cp n p0 p1 v10 v12 v13 v14 v16 (k .norm (fr_ack_Weigh_14 p0 p1 v10 v12 v13 v14 v16)) (k .ret (fr_ack_Weigh_16 p0 p1 v12 v13 v14 v16)) := by kernel_rfl
def fr_ack_Weigh_18 (p0 : SAsked) (p1 : SSegment) (v10 v12 : Int) (v13 : Bool) (v14 v16 : Int) (v106 : (List SSpan)) (v107 v108 v109 v110 v111 : Int) (v112 : Bool) (v113 v114 : Int) (v115 : Bool) : Fr := dT 2 ((.ptr 110 0) :: dT 1 ((.ptr 136 0) :: (tL v10) :: dT 1 ((.ptr 146 0) :: (.row false (.rSpan v106)) :: dT 101 ((.hdr 9) :: (tL v107) :: (tL v108) :: (tI .u32 v109) :: (tL v110) :: (tI .u32 v111) :: (tB v112) :: (tI .u32 v113) :: (tI .u32 v114) :: (tB v115) :: dT 16 ((.hdr 9) :: (tB false) :: (tL 0) :: (tB false) :: (tL 0) :: (tL 0) :: (tI .u32 0) :: (tL 0) :: (tB false) :: (.row true (.rSpan [])) :: (.hdr 9) :: (tB true) :: (tL v12) :: (tB v13) :: (tL p0.xPeer) :: (tL p1.xWin) :: (tI .u32 v14) :: (tL v16) :: (tB false) :: (.row true (.rSpan [])) :: dT 3 [])))))
theorem s_ack_Weigh_17_t {R : Type} (cp : Nat → Nat → Bool) (n : Nat) (p0 : SAsked) (p1 : SSegment) (v10 v12 : Int) (v13 : Bool) (v14 v16 : Int) (k : Ex → Fr → Option R) : X cp n i_ack_Weigh_7 (fr_ack_Weigh_14 p0 p1 v10 v12 v13 v14 v16) k = s_ack_Weigh_17 cp n p0 p1 v10 v12 v13 v14 v16 (fun v106 v107 v108 v109 v110 v111 v112 v113 v114 v115 => k .norm (fr_ack_Weigh_18 p0 p1 v10 v12 v13 v14 v16 v106 v107 v108 v109 v110 v111 v112 v113 v114 v115)) := by kernel_rfl
def fr_ack_Weigh_20 (p0 : SAsked) (p1 : SSegment) (v12 : Int) (v13 : Bool) (v14 v16 : Int) (v106 : (List SSpan)) (v107 v108 v109 v110 v111 : Int) (v112 : Bool) (v113 v114 : Int) (v115 v117 : Bool) : Fr := dT 2 ((.ptr 110 0) :: dT 1 ((.ptr 136 0) :: dT 2 ((.ptr 146 0) :: (.row false (.rSpan v106)) :: dT 101 ((.hdr 9) :: (tL v107) :: (tL v108) :: (tI .u32 v109) :: (tL v110) :: (tI .u32 v111) :: (tB v112) :: (tI .u32 v113) :: (tI .u32 v114) :: (tB v115) :: dT 16 ((.hdr 9) :: (tB false) :: (tL 0) :: (tB false) :: (tL 0) :: (tL 0) :: (tI .u32 0) :: (tL 0) :: (tB false) :: (.row true (.rSpan [])) :: (.hdr 9) :: (tB true) :: (tL v12) :: (tB v13) :: (tL p0.xPeer) :: (tL p1.xWin) :: (tI .u32 v14) :: (tL v16) :: (tB v117) :: (.row true (.rSpan [])) :: dT 3 [])))))
theorem s_ack_Weigh_19_t {R : Type} (cp : Nat → Nat → Bool) (n : Nat) (p0 : SAsked) (p1 : SSegment) (v10 v12 : Int) (v13 : Bool) (v14 v16 : Int) (v106 : (List SSpan)) (v107 v108 v109 v110 v111 : Int) (v112 : Bool) (v113 v114 : Int) (v115 : Bool) (k : Ex → Fr → Option R) : X cp n i_ack_Weigh_8 (fr_ack_Weigh_18 p0 p1 v10 v12 v13 v14 v16 v106 v107 v108 v109 v110 v111 v112 v113 v114 v115) k = s_ack_Weigh_19 cp n p0 p1 v10 v12 v13 v14 v16 v106 v107 v108 v109 v110 v111 v112 v113 v114 v115 (fun v117 => k .norm (fr_ack_Weigh_20 p0 p1 v12 v13 v14 v16 v106 v107 v108 v109 v110 v111 v112 v113 v114 v115 v117)) := by kernel_rfl
theorem s_ack_Weigh_21_t {R : Type} (cp : Nat → Nat → Bool) (n : Nat) (p0 : SAsked) (p1 : SSegment) (v12 : Int) (v13 : Bool) (v14 v16 : Int) (v106 : (List SSpan)) (v107 v108 v109 v110 v111 : Int) (v112 : Bool) (v113 v114 : Int) (v115 v117 : Bool) (k : Ex → Fr → Option R) : X cp n i_ack_Weigh_9 (fr_ack_Weigh_20 p0 p1 v12 v13 v14 v16 v106 v107 v108 v109 v110 v111 v112 v113 v114 v115 v117) k = s_ack_Weigh_21 cp n p0 p1 v12 v13 v14 v16 v106 v107 v108 v109 v110 v111 v112 v113 v114 v115 v117 (k .norm (fr_ack_Weigh_20 p0 p1 v12 v13 v14 v16 v106 v107 v108 v109 v110 v111 v112 v113 v114 v115 v117)) := by kernel_rfl
def fr_ack_Weigh_23 (p0 : SAsked) (p1 : SSegment) (v12 : Int) (v13 : Bool) (v14 v16 : Int) (v106 : (List SSpan)) (v107 v108 v109 v110 v111 : Int) (v112 : Bool) (v113 v114 : Int) (v115 v117 : Bool) (v118 : Int) : Fr := dT 2 ((.ptr 110 0) :: dT 1 ((.ptr 136 0) :: dT 2 ((.ptr 146 0) :: dT 57 ((.row false (.rSpan v106)) :: (tL v118) :: (tL 0) :: dT 42 ((.hdr 9) :: (tL v107) :: (tL v108) :: (tI .u32 v109) :: (tL v110) :: (tI .u32 v111) :: (tB v112) :: (tI .u32 v113) :: (tI .u32 v114) :: (tB v115) :: dT 16 ((.hdr 9) :: (tB false) :: (tL 0) :: (tB false) :: (tL 0) :: (tL 0) :: (tI .u32 0) :: (tL 0) :: (tB false) :: (.row true (.rSpan [])) :: (.hdr 9) :: (tB true) :: (tL v12) :: (tB v13) :: (tL p0.xPeer) :: (tL p1.xWin) :: (tI .u32 v14) :: (tL v16) :: (tB v117) :: (.row true (.rSpan [])) :: dT 3 []))))))
theorem s_ack_Weigh_22_t {R : Type} (cp : Nat → Nat → Bool) (n : Nat) (p0 : SAsked) (p1 : SSegment) (v12 : Int) (v13 : Bool) (v14 v16 : Int) (v106 : (List SSpan)) (v107 v108 v109 v110 v111 : Int) (v112 : Bool) (v113 v114 : Int) (v115 v117 : Bool) (k : Ex → Fr → Option R) : X cp n i_ack_Weigh_10 (fr_ack_Weigh_20 p0 p1 v12 v13 v14 v16 v106 v107 v108 v109 v110 v111 v112 v113 v114 v115 v117) k = s_ack_Weigh_22 cp n p0 p1 v12 v13 v14 v16 v106 v107 v108 v109 v110 v111 v112 v113 v114 v115 v117 (fun v118 => k .norm (fr_ack_Weigh_23 p0 p1 v12 v13 v14 v16 v106 v107 v108 v109 v110 v111 v112 v113 v114 v115 v117 v118)) := by kernel_rfl
def fr_ack_Weigh_25 (p0 : SAsked) (p1 : SSegment) (v12 : Int) (v13 : Bool) (v14 v16 : Int) (v106 : (List SSpan)) (v107 v108 v109 v110 v111 : Int) (v112 : Bool) (v113 v114 : Int) (v115 v117 : Bool) (v118 v125 : Int) (v126 : (List SSpan)) : Fr := dT 2 ((.ptr 110 0) :: dT 1 ((.ptr 136 0) :: dT 2 ((.ptr 146 0) :: dT 57 ((.row false (.rSpan v106)) :: (tL v118) :: (tL v125) :: dT 42 ((.hdr 9) :: (tL v107) :: (tL v108) :: (tI .u32 v109) :: (tL v110) :: (tI .u32 v111) :: (tB v112) :: (tI .u32 v113) :: (tI .u32 v114) :: (tB v115) :: dT 16 ((.hdr 9) :: (tB false) :: (tL 0) :: (tB false) :: (tL 0) :: (tL 0) :: (tI .u32 0) :: (tL 0) :: (tB false) :: (.row true (.rSpan [])) :: (.hdr 9) :: (tB true) :: (tL v12) :: (tB v13) :: (tL p0.xPeer) :: (tL p1.xWin) :: (tI .u32 v14) :: (tL v16) :: (tB v117) :: (.row true (.rSpan v126)) :: dT 3 []))))))
def fr_ack_Weigh_26 (p0 : SAsked) (p1 : SSegment) (v12 : Int) (v13 : Bool) (v14 v16 : Int) (v117 : Bool) (v120 : (List SSpan)) : Fr := dT 4 ((.ptr 136 0) :: dT 2 ((.ptr 146 0) :: dT 128 ((.hdr 9) :: (tB false) :: (tL 0) :: (tB false) :: (tL 0) :: (tL 0) :: (tI .u32 0) :: (tL 0) :: (tB false) :: (.row true (.rSpan [])) :: (.hdr 9) :: (tB true) :: (tL v12) :: (tB v13) :: (tL p0.xPeer) :: (tL p1.xWin) :: (tI .u32 v14) :: (tL v16) :: (tB v117) :: (.row true (.rSpan v120)) :: dT 3 [])))
def fr_ack_Weigh_27 (p0 : SAsked) (p1 : SSegment) (v12 : Int) (v13 : Bool) (v14 v16 : Int) (v106 : (List SSpan)) (v107 v108 v109 v110 v111 : Int) (v112 : Bool) (v113 v114 : Int) (v115 v117 : Bool) (v118 v119 : Int) (v120 : (List SSpan)) : Fr := dT 2 ((.ptr 110 0) :: dT 1 ((.ptr 136 0) :: dT 2 ((.ptr 146 0) :: dT 57 ((.row false (.rSpan v106)) :: (tL v118) :: (tL v119) :: dT 42 ((.hdr 9) :: (tL v107) :: (tL v108) :: (tI .u32 v109) :: (tL v110) :: (tI .u32 v111) :: (tB v112) :: (tI .u32 v113) :: (tI .u32 v114) :: (tB v115) :: dT 16 ((.hdr 9) :: (tB false) :: (tL 0) :: (tB false) :: (tL 0) :: (tL 0) :: (tI .u32 0) :: (tL 0) :: (tB false) :: (.row true (.rSpan [])) :: (.hdr 9) :: (tB true) :: (tL v12) :: (tB v13) :: (tL p0.xPeer) :: (tL p1.xWin) :: (tI .u32 v14) :: (tL v16) :: (tB v117) :: (.row true (.rSpan v120)) :: dT 3 []))))))
theorem s_ack_Weigh_24_t {R : Type} (cp : Nat → Nat → Bool) (n : Nat) (p0 : SAsked) (p1 : SSegment) (v12 : Int) (v13 : Bool) (v14 v16 : Int) (v106 : (List SSpan)) (v107 v108 v109 v110 v111 : Int) (v112 : Bool) (v113 v114 : Int) (v115 v117 : Bool) (v118 v119 : Int) (v120 : (List SSpan)) (k : Ex → Fr → Option R) : X cp n i_ack_Weigh_11 (fr_ack_Weigh_27 p0 p1 v12 v13 v14 v16 v106 v107 v108 v109 v110 v111 v112 v113 v114 v115 v117 v118 v119 v120) k = s_ack_Weigh_24 cp n p0 p1 v12 v13 v14 v16 v106 v107 v108 v109 v110 v111 v112 v113 v114 v115 v117 v118 v119 v120 (fun v125 v126 => k .norm (fr_ack_Weigh_25 p0 p1 v12 v13 v14 v16 v106 v107 v108 v109 v110 v111 v112 v113 v114 v115 v117 v118 v125 v126)) (k (.exit 0) (fr_ack_Weigh_26 p0 p1 v12 v13 v14 v16 v117 v120)) := by kernel_rfl
def fr_ack_Weigh_28 (p0 : SAsked) (p1 : SSegment) (v12 : Int) (v13 : Bool) (v14 v16 : Int) (v117 : Bool) (v127 : (List SSpan)) : Fr := dT 4 ((.ptr 136 0) :: dT 2 ((.ptr 146 0) :: dT 128 ((.hdr 9) :: (tB false) :: (tL 0) :: (tB false) :: (tL 0) :: (tL 0) :: (tI .u32 0) :: (tL 0) :: (tB false) :: (.row true (.rSpan [])) :: (.hdr 9) :: (tB true) :: (tL v12) :: (tB v13) :: (tL p0.xPeer) :: (tL p1.xWin) :: (tI .u32 v14) :: (tL v16) :: (tB v117) :: (.row true (.rSpan v127)) :: dT 3 [])))
theorem l_ack_Weigh_29_t {R : Type} (cp : Nat → Nat → Bool) (n : Nat) : ∀ (m : Nat) (p0 : SAsked) (p1 : SSegment) (v12 : Int) (v13 : Bool) (v14 v16 : Int) (v106 : (List SSpan)) (v107 v108 v109 v110 v111 : Int) (v112 : Bool) (v113 v114 : Int) (v115 v117 : Bool) (v118 v119 : Int) (v120 : (List SSpan)) (k : Ex → Fr → Option R), loopN2 (X cp n i_ack_Weigh_11) m (fr_ack_Weigh_27 p0 p1 v12 v13 v14 v16 v106 v107 v108 v109 v110 v111 v112 v113 v114 v115 v117 v118 v119 v120) k = l_ack_Weigh_29 cp n m p0 p1 v12 v13 v14 v16 v106 v107 v108 v109 v110 v111 v112 v113 v114 v115 v117 v118 v119 v120 (fun v127 => k (.exit 0) (fr_ack_Weigh_28 p0 p1 v12 v13 v14 v16 v117 v127))
  | 0, _, _, _, _, _, _, _, _, _, _, _, _, _, _, _, _, _, _, _, _, _ => rfl
  | m + 1, p0, p1, v12, v13, v14, v16, v106, v107, v108, v109, v110, v111, v112, v113, v114, v115, v117, v118, v119, v120, k => (loopN2_succ (X cp n i_ack_Weigh_11) m (fr_ack_Weigh_27 p0 p1 v12 v13 v14 v16 v106 v107 v108 v109 v110 v111 v112 v113 v114 v115 v117 v118 v119 v120) k).trans ((s_ack_Weigh_24_t cp n p0 p1 v12 v13 v14 v16 v106 v107 v108 v109 v110 v111 v112 v113 v114 v115 v117 v118 v119 v120 (loopT (X cp n i_ack_Weigh_11) m k)).trans ((show s_ack_Weigh_24 cp n p0 p1 v12 v13 v14 v16 v106 v107 v108 v109 v110 v111 v112 v113 v114 v115 v117 v118 v119 v120 (fun v125 v126 => loopT (X cp n i_ack_Weigh_11) m k .norm (fr_ack_Weigh_25 p0 p1 v12 v13 v14 v16 v106 v107 v108 v109 v110 v111 v112 v113 v114 v115 v117 v118 v125 v126)) (loopT (X cp n i_ack_Weigh_11) m k (.exit 0) (fr_ack_Weigh_26 p0 p1 v12 v13 v14 v16 v117 v120)) = s_ack_Weigh_24 cp n p0 p1 v12 v13 v14 v16 v106 v107 v108 v109 v110 v111 v112 v113 v114 v115 v117 v118 v119 v120 (fun v125 v126 => loopN2 (X cp n i_ack_Weigh_11) m (fr_ack_Weigh_27 p0 p1 v12 v13 v14 v16 v106 v107 v108 v109 v110 v111 v112 v113 v114 v115 v117 v118 v125 v126) k) (k (.exit 0) (fr_ack_Weigh_28 p0 p1 v12 v13 v14 v16 v117 v120)) from by kernel_rfl).trans (congrArg (fun q => s_ack_Weigh_24 cp n p0 p1 v12 v13 v14 v16 v106 v107 v108 v109 v110 v111 v112 v113 v114 v115 v117 v118 v119 v120 q (k (.exit 0) (fr_ack_Weigh_28 p0 p1 v12 v13 v14 v16 v117 v120))) (funext fun v125 => funext fun v126 => l_ack_Weigh_29_t cp n m p0 p1 v12 v13 v14 v16 v106 v107 v108 v109 v110 v111 v112 v113 v114 v115 v117 v118 v125 v126 k))))
theorem s_ack_Weigh_30_t {R : Type} (cp : Nat → Nat → Bool) (n : Nat) (p0 : SAsked) (p1 : SSegment) (v12 : Int) (v13 : Bool) (v14 v16 : Int) (v106 : (List SSpan)) (v107 v108 v109 v110 v111 : Int) (v112 : Bool) (v113 v114 : Int) (v115 v117 : Bool) (v118 : Int) (k : Ex → Fr → Option R) : X cp n i_ack_Weigh_12 (fr_ack_Weigh_23 p0 p1 v12 v13 v14 v16 v106 v107 v108 v109 v110 v111 v112 v113 v114 v115 v117 v118) k = s_ack_Weigh_30 cp n p0 p1 v12 v13 v14 v16 v106 v107 v108 v109 v110 v111 v112 v113 v114 v115 v117 v118 (fun v127 => k (.exit 0) (fr_ack_Weigh_28 p0 p1 v12 v13 v14 v16 v117 v127)) := (show X cp n i_ack_Weigh_12 (fr_ack_Weigh_23 p0 p1 v12 v13 v14 v16 v106 v107 v108 v109 v110 v111 v112 v113 v114 v115 v117 v118) k = loopN2 (X cp n i_ack_Weigh_11) n (fr_ack_Weigh_27 p0 p1 v12 v13 v14 v16 v106 v107 v108 v109 v110 v111 v112 v113 v114 v115 v117 v118 0 []) k from by kernel_rfl).trans (l_ack_Weigh_29_t cp n n p0 p1 v12 v13 v14 v16 v106 v107 v108 v109 v110 v111 v112 v113 v114 v115 v117 v118 0 [] k)
def fr_ack_Weigh_31 (p0 : SAsked) (p1 : SSegment) (v12 : Int) (v13 : Bool) (v14 v16 : Int) (v117 : Bool) (v128 : (List SSpan)) : Fr := dT 4 ((.ptr 136 0) :: dT 2 ((.ptr 146 0) :: dT 128 ((.hdr 9) :: (tB false) :: (tL 0) :: (tB false) :: (tL 0) :: (tL 0) :: (tI .u32 0) :: (tL 0) :: (tB false) :: (.row true (.rSpan [])) :: (.hdr 9) :: (tB true) :: (tL v12) :: (tB v13) :: (tL p0.xPeer) :: (tL p1.xWin) :: (tI .u32 v14) :: (tL v16) :: (tB v117) :: (.row true (.rSpan v128)) :: dT 3 [])))
theorem s_ack_Weigh_32_t {R : Type} (cp : Nat → Nat → Bool) (n : Nat) (p0 : SAsked) (p1 : SSegment) (v12 : Int) (v13 : Bool) (v14 v16 : Int) (v106 : (List SSpan)) (v107 v108 v109 v110 v111 : Int) (v112 : Bool) (v113 v114 : Int) (v115 v117 : Bool) (v118 : Int) (k : Ex → Fr → Option R) : X cp n i_ack_Weigh_13 (fr_ack_Weigh_23 p0 p1 v12 v13 v14 v16 v106 v107 v108 v109 v110 v111 v112 v113 v114 v115 v117 v118) k = s_ack_Weigh_32 cp n p0 p1 v12 v13 v14 v16 v106 v107 v108 v109 v110 v111 v112 v113 v114 v115 v117 v118 (fun v128 => k .norm (fr_ack_Weigh_31 p0 p1 v12 v13 v14 v16 v117 v128)) := (show X cp n i_ack_Weigh_13 (fr_ack_Weigh_23 p0 p1 v12 v13 v14 v16 v106 v107 v108 v109 v110 v111 v112 v113 v114 v115 v117 v118) k = X cp n i_ack_Weigh_12 (fr_ack_Weigh_23 p0 p1 v12 v13 v14 v16 v106 v107 v108 v109 v110 v111 v112 v113 v114 v115 v117 v118) (blkT 0 k) from by kernel_rfl).trans ((s_ack_Weigh_30_t cp n p0 p1 v12 v13 v14 v16 v106 v107 v108 v109 v110 v111 v112 v113 v114 v115 v117 v118 (blkT 0 k)).trans (by kernel_rfl))
def fr_ack_Weigh_33 (p0 : SAsked) (p1 : SSegment) (v12 : Int) (v13 : Bool) (v14 v16 : Int) (v117 : Bool) (v129 : (List SSpan)) : Fr := dT 4 ((.ptr 136 0) :: dT 2 ((.ptr 146 0) :: dT 128 ((.hdr 9) :: (tB false) :: (tL 0) :: (tB false) :: (tL 0) :: (tL 0) :: (tI .u32 0) :: (tL 0) :: (tB false) :: (.row true (.rSpan [])) :: (.hdr 9) :: (tB true) :: (tL v12) :: (tB v13) :: (tL p0.xPeer) :: (tL p1.xWin) :: (tI .u32 v14) :: (tL v16) :: (tB v117) :: (.row true (.rSpan v129)) :: dT 3 [])))
theorem s_ack_Weigh_34_t {R : Type} (cp : Nat → Nat → Bool) (n : Nat) (p0 : SAsked) (p1 : SSegment) (v12 : Int) (v13 : Bool) (v14 v16 : Int) (v106 : (List SSpan)) (v107 v108 v109 v110 v111 : Int) (v112 : Bool) (v113 v114 : Int) (v115 v117 : Bool) (k : Ex → Fr → Option R) : X cp n i_ack_Weigh_14 (fr_ack_Weigh_20 p0 p1 v12 v13 v14 v16 v106 v107 v108 v109 v110 v111 v112 v113 v114 v115 v117) k = s_ack_Weigh_34 cp n p0 p1 v12 v13 v14 v16 v106 v107 v108 v109 v110 v111 v112 v113 v114 v115 v117 (fun v129 => k .norm (fr_ack_Weigh_33 p0 p1 v12 v13 v14 v16 v117 v129)) := (show X cp n i_ack_Weigh_14 (fr_ack_Weigh_20 p0 p1 v12 v13 v14 v16 v106 v107 v108 v109 v110 v111 v112 v113 v114 v115 v117) k = X cp n i_ack_Weigh_10 (fr_ack_Weigh_20 p0 p1 v12 v13 v14 v16 v106 v107 v108 v109 v110 v111 v112 v113 v114 v115 v117) (seqT (X cp n) i_ack_Weigh_13 k) from by kernel_rfl).trans ((show X cp n i_ack_Weigh_10 (fr_ack_Weigh_20 p0 p1 v12 v13 v14 v16 v106 v107 v108 v109 v110 v111 v112 v113 v114 v115 v117) (seqT (X cp n) i_ack_Weigh_13 k) = s_ack_Weigh_22 cp n p0 p1 v12 v13 v14 v16 v106 v107 v108 v109 v110 v111 v112 v113 v114 v115 v117 (fun v118 => X cp n i_ack_Weigh_13 (fr_ack_Weigh_23 p0 p1 v12 v13 v14 v16 v106 v107 v108 v109 v110 v111 v112 v113 v114 v115 v117 v118) k) from (s_ack_Weigh_22_t cp n p0 p1 v12 v13 v14 v16 v106 v107 v108 v109 v110 v111 v112 v113 v114 v115 v117 (seqT (X cp n) i_ack_Weigh_13 k)).trans (by kernel_rfl)).trans (congrArg (fun q => s_ack_Weigh_22 cp n p0 p1 v12 v13 v14 v16 v106 v107 v108 v109 v110 v111 v112 v113 v114 v115 v117 q) (funext fun v118 => (s_ack_Weigh_32_t cp n p0 p1 v12 v13 v14 v16 v106 v107 v108 v109 v110 v111 v112 v113 v114 v115 v117 v118 k).trans (show s_ack_Weigh_32 cp n p0 p1 v12 v13 v14 v16 v106 v107 v108 v109 v110 v111 v112 v113 v114 v115 v117 v118 (fun v128 => k .norm (fr_ack_Weigh_31 p0 p1 v12 v13 v14 v16 v117 v128)) = s_ack_Weigh_32 cp n p0 p1 v12 v13 v14 v16 v106 v107 v108 v109 v110 v111 v112 v113 v114 v115 v117 v118 (fun v128 => k .norm (fr_ack_Weigh_33 p0 p1 v12 v13 v14 v16 v117 v128)) from by kernel_rfl))))
def fr_ack_Weigh_36 (p0 : SAsked) (p1 : SSegment) (v12 : Int) (v13 : Bool) (v14 v16 : Int) (v117 : Bool) (v129 : (List SSpan)) : Fr := dT 4 ((.ptr 136 0) :: dT 131 ((.hdr 9) :: (tB true) :: (tL v12) :: (tB v13) :: (tL p0.xPeer) :: (tL p1.xWin) :: (tI .u32 v14) :: (tL v16) :: (tB v117) :: (.row true (.rSpan v129)) :: dT 13 []))
theorem s_ack_Weigh_35_t {R : Type} (cp : Nat → Nat → Bool) (n : Nat) (p0 : SAsked) (p1 : SSegment) (v12 : Int) (v13 : Bool) (v14 v16 : Int) (v117 : Bool) (v129 : (List SSpan)) (k : Ex → Fr → Option R) : X cp n i_ack_Weigh_15 (fr_ack_Weigh_33 p0 p1 v12 v13 v14 v16 v117 v129) k = s_ack_Weigh_35 cp n p0 p1 v12 v13 v14 v16 v117 v129 (k .ret (fr_ack_Weigh_36 p0 p1 v12 v13 v14 v16 v117 v129)) := by kernel_rfl
def fr_ack_Weigh_37 (p0 : SAsked) (p1 : SSegment) (v12 : Int) (v13 : Bool) (v14 v16 : Int) (v117 : Bool) (v130 : (List SSpan)) : Fr := dT 4 ((.ptr 136 0) :: dT 131 ((.hdr 9) :: (tB true) :: (tL v12) :: (tB v13) :: (tL p0.xPeer) :: (tL p1.xWin) :: (tI .u32 v14) :: (tL v16) :: (tB v117) :: (.row true (.rSpan v130)) :: dT 13 []))
theorem s_ack_Weigh_38_t {R : Type} (cp : Nat → Nat → Bool) (n : Nat) (p0 : SAsked) (p1 : SSegment) (v12 : Int) (v13 : Bool) (v14 v16 : Int) (v106 : (List SSpan)) (v107 v108 v109 v110 v111 : Int) (v112 : Bool) (v113 v114 : Int) (v115 v117 : Bool) (k : Ex → Fr → Option R) : X cp n i_ack_Weigh_16 (fr_ack_Weigh_20 p0 p1 v12 v13 v14 v16 v106 v107 v108 v109 v110 v111 v112 v113 v114 v115 v117) k = s_ack_Weigh_38 cp n p0 p1 v12 v13 v14 v16 v106 v107 v108 v109 v110 v111 v112 v113 v114 v115 v117 (fun v130 => k .ret (fr_ack_Weigh_37 p0 p1 v12 v13 v14 v16 v117 v130)) := (show X cp n i_ack_Weigh_16 (fr_ack_Weigh_20 p0 p1 v12 v13 v14 v16 v106 v107 v108 v109 v110 v111 v112 v113 v114 v115 v117) k = X cp n i_ack_Weigh_14 (fr_ack_Weigh_20 p0 p1 v12 v13 v14 v16 v106 v107 v108 v109 v110 v111 v112 v113 v114 v115 v117) (seqT (X cp n) i_ack_Weigh_15 k) from by kernel_rfl).trans ((show X cp n i_ack_Weigh_14 (fr_ack_Weigh_20 p0 p1 v12 v13 v14 v16 v106 v107 v108 v109 v110 v111 v112 v113 v114 v115 v117) (seqT (X cp n) i_ack_Weigh_15 k) = s_ack_Weigh_34 cp n p0 p1 v12 v13 v14 v16 v106 v107 v108 v109 v110 v111 v112 v113 v114 v115 v117 (fun v129 => X cp n i_ack_Weigh_15 (fr_ack_Weigh_33 p0 p1 v12 v13 v14 v16 v117 v129) k) from (s_ack_Weigh_34_t cp n p0 p1 v12 v13 v14 v16 v106 v107 v108 v109 v110 v111 v112 v113 v114 v115 v117 (seqT (X cp n) i_ack_Weigh_15 k)).trans (by kernel_rfl)).trans (congrArg (fun q => s_ack_Weigh_34 cp n p0 p1 v12 v13 v14 v16 v106 v107 v108 v109 v110 v111 v112 v113 v114 v115 v117 q) (funext fun v129 => (s_ack_Weigh_35_t cp n p0 p1 v12 v13 v14 v16 v117 v129 k).trans (show s_ack_Weigh_35 cp n p0 p1 v12 v13 v14 v16 v117 v129 (k .ret (fr_ack_Weigh_36 p0 p1 v12 v13 v14 v16 v117 v129)) = s_ack_Weigh_35 cp n p0 p1 v12 v13 v14 v16 v117 v129 (k .ret (fr_ack_Weigh_37 p0 p1 v12 v13 v14 v16 v117 v129)) from by kernel_rfl))))
def fr_ack_Weigh_39 (p0 : SAsked) (p1 : SSegment) (v12 : Int) (v13 : Bool) (v14 v16 : Int) (v117 : Bool) (v131 : (List SSpan)) : Fr := dT 4 ((.ptr 136 0) :: dT 131 ((.hdr 9) :: (tB true) :: (tL v12) :: (tB v13) :: (tL p0.xPeer) :: (tL p1.xWin) :: (tI .u32 v14) :: (tL v16) :: (tB v117) :: (.row true (.rSpan v131)) :: dT 13 []))
theorem s_ack_Weigh_40_t {R : Type} (cp : Nat → Nat → Bool) (n : Nat) (p0 : SAsked) (p1 : SSegment) (v12 : Int) (v13 : Bool) (v14 v16 : Int) (v106 : (List SSpan)) (v107 v108 v109 v110 v111 : Int) (v112 : Bool) (v113 v114 : Int) (v115 v117 : Bool) (k : Ex → Fr → Option R) : X cp n i_ack_Weigh_17 (fr_ack_Weigh_20 p0 p1 v12 v13 v14 v16 v106 v107 v108 v109 v110 v111 v112 v113 v114 v115 v117) k = s_ack_Weigh_40 cp n p0 p1 v12 v13 v14 v16 v106 v107 v108 v109 v110 v111 v112 v113 v114 v115 v117 (fun v131 => k .ret (fr_ack_Weigh_39 p0 p1 v12 v13 v14 v16 v117 v131)) := (show X cp n i_ack_Weigh_17 (fr_ack_Weigh_20 p0 p1 v12 v13 v14 v16 v106 v107 v108 v109 v110 v111 v112 v113 v114 v115 v117) k = X cp n i_ack_Weigh_9 (fr_ack_Weigh_20 p0 p1 v12 v13 v14 v16 v106 v107 v108 v109 v110 v111 v112 v113 v114 v115 v117) (seqT (X cp n) i_ack_Weigh_16 k) from by kernel_rfl).trans ((show X cp n i_ack_Weigh_9 (fr_ack_Weigh_20 p0 p1 v12 v13 v14 v16 v106 v107 v108 v109 v110 v111 v112 v113 v114 v115 v117) (seqT (X cp n) i_ack_Weigh_16 k) = s_ack_Weigh_21 cp n p0 p1 v12 v13 v14 v16 v106 v107 v108 v109 v110 v111 v112 v113 v114 v115 v117 (X cp n i_ack_Weigh_16 (fr_ack_Weigh_20 p0 p1 v12 v13 v14 v16 v106 v107 v108 v109 v110 v111 v112 v113 v114 v115 v117) k) from (s_ack_Weigh_21_t cp n p0 p1 v12 v13 v14 v16 v106 v107 v108 v109 v110 v111 v112 v113 v114 v115 v117 (seqT (X cp n) i_ack_Weigh_16 k)).trans (by kernel_rfl)).trans (congrArg (fun q => s_ack_Weigh_21 cp n p0 p1 v12 v13 v14 v16 v106 v107 v108 v109 v110 v111 v112 v113 v114 v115 v117 q) ((s_ack_Weigh_38_t cp n p0 p1 v12 v13 v14 v16 v106 v107 v108 v109 v110 v111 v112 v113 v114 v115 v117 k).trans (show s_ack_Weigh_38 cp n p0 p1 v12 v13 v14 v16 v106 v107 v108 v109 v110 v111 v112 v113 v114 v115 v117 (fun v130 => k .ret (fr_ack_Weigh_37 p0 p1 v12 v13 v14 v16 v117 v130)) = s_ack_Weigh_38 cp n p0 p1 v12 v13 v14 v16 v106 v107 v108 v109 v110 v111 v112 v113 v114 v115 v117 (fun v130 => k .ret (fr_ack_Weigh_39 p0 p1 v12 v13 v14 v16 v117 v130)) from by kernel_rfl))))
def fr_ack_Weigh_41 (p0 : SAsked) (p1 : SSegment) (v12 : Int) (v13 : Bool) (v14 v16 : Int) (v132 : Bool) (v133 : (List SSpan)) : Fr := dT 4 ((.ptr 136 0) :: dT 131 ((.hdr 9) :: (tB true) :: (tL v12) :: (tB v13) :: (tL p0.xPeer) :: (tL p1.xWin) :: (tI .u32 v14) :: (tL v16) :: (tB v132) :: (.row true (.rSpan v133)) :: dT 13 []))
theorem s_ack_Weigh_42_t {R : Type} (cp : Nat → Nat → Bool) (n : Nat) (p0 : SAsked) (p1 : SSegment) (v10 v12 : Int) (v13 : Bool) (v14 v16 : Int) (v106 : (List SSpan)) (v107 v108 v109 v110 v111 : Int) (v112 : Bool) (v113 v114 : Int) (v115 : Bool) (k : Ex → Fr → Option R) : X cp n i_ack_Weigh_18 (fr_ack_Weigh_18 p0 p1 v10 v12 v13 v14 v16 v106 v107 v108 v109 v110 v111 v112 v113 v114 v115) k = s_ack_Weigh_42 cp n p0 p1 v10 v12 v13 v14 v16 v106 v107 v108 v109 v110 v111 v112 v113 v114 v115 (fun v132 v133 => k .ret (fr_ack_Weigh_41 p0 p1 v12 v13 v14 v16 v132 v133)) := (show X cp n i_ack_Weigh_18 (fr_ack_Weigh_18 p0 p1 v10 v12 v13 v14 v16 v106 v107 v108 v109 v110 v111 v112 v113 v114 v115) k = X cp n i_ack_Weigh_8 (fr_ack_Weigh_18 p0 p1 v10 v12 v13 v14 v16 v106 v107 v108 v109 v110 v111 v112 v113 v114 v115) (seqT (X cp n) i_ack_Weigh_17 k) from by kernel_rfl).trans ((show X cp n i_ack_Weigh_8 (fr_ack_Weigh_18 p0 p1 v10 v12 v13 v14 v16 v106 v107 v108 v109 v110 v111 v112 v113 v114 v115) (seqT (X cp n) i_ack_Weigh_17 k) = s_ack_Weigh_19 cp n p0 p1 v10 v12 v13 v14 v16 v106 v107 v108 v109 v110 v111 v112 v113 v114 v115 (fun v117 => X cp n i_ack_Weigh_17 (fr_ack_Weigh_20 p0 p1 v12 v13 v14 v16 v106 v107 v108 v109 v110 v111 v112 v113 v114 v115 v117) k) from (s_ack_Weigh_19_t cp n p0 p1 v10 v12 v13 v14 v16 v106 v107 v108 v109 v110 v111 v112 v113 v114 v115 (seqT (X cp n) i_ack_Weigh_17 k)).trans (by kernel_rfl)).trans (congrArg (fun q => s_ack_Weigh_19 cp n p0 p1 v10 v12 v13 v14 v16 v106 v107 v108 v109 v110 v111 v112 v113 v114 v115 q) (funext fun v117 => (s_ack_Weigh_40_t cp n p0 p1 v12 v13 v14 v16 v106 v107 v108 v109 v110 v111 v112 v113 v114 v115 v117 k).trans (show s_ack_Weigh_40 cp n p0 p1 v12 v13 v14 v16 v106 v107 v108 v109 v110 v111 v112 v113 v114 v115 v117 (fun v131 => k .ret (fr_ack_Weigh_39 p0 p1 v12 v13 v14 v16 v117 v131)) = s_ack_Weigh_40 cp n p0 p1 v12 v13 v14 v16 v106 v107 v108 v109 v110 v111 v112 v113 v114 v115 v117 (fun v131 => k .ret (fr_ack_Weigh_41 p0 p1 v12 v13 v14 v16 v117 v131)) from by kernel_rfl))))
def fr_ack_Weigh_43 (p0 : SAsked) (p1 : SSegment) (v12 : Int) (v13 : Bool) (v14 v16 : Int) (v134 : Bool) (v135 : (List SSpan)) : Fr := dT 4 ((.ptr 136 0) :: dT 131 ((.hdr 9) :: (tB true) :: (tL v12) :: (tB v13) :: (tL p0.xPeer) :: (tL p1.xWin) :: (tI .u32 v14) :: (tL v16) :: (tB v134) :: (.row true (.rSpan v135)) :: dT 13 []))
theorem s_ack_Weigh_44_t {R : Type} (cp : Nat → Nat → Bool) (n : Nat) (p0 : SAsked) (p1 : SSegment) (v10 v12 : Int) (v13 : Bool) (v14 v16 : Int) (k : Ex → Fr → Option R) : X cp n i_ack_Weigh_19 (fr_ack_Weigh_14 p0 p1 v10 v12 v13 v14 v16) k = s_ack_Weigh_44 cp n p0 p1 v10 v12 v13 v14 v16 (fun v134 v135 => k .ret (fr_ack_Weigh_43 p0 p1 v12 v13 v14 v16 v134 v135)) := (show X cp n i_ack_Weigh_19 (fr_ack_Weigh_14 p0 p1 v10 v12 v13 v14 v16) k = X cp n i_ack_Weigh_7 (fr_ack_Weigh_14 p0 p1 v10 v12 v13 v14 v16) (seqT (X cp n) i_ack_Weigh_18 k) from by kernel_rfl).trans ((show X cp n i_ack_Weigh_7 (fr_ack_Weigh_14 p0 p1 v10 v12 v13 v14 v16) (seqT (X cp n) i_ack_Weigh_18 k) = s_ack_Weigh_17 cp n p0 p1 v10 v12 v13 v14 v16 (fun v106 v107 v108 v109 v110 v111 v112 v113 v114 v115 => X cp n i_ack_Weigh_18 (fr_ack_Weigh_18 p0 p1 v10 v12 v13 v14 v16 v106 v107 v108 v109 v110 v111 v112 v113 v114 v115) k) from (s_ack_Weigh_17_t cp n p0 p1 v10 v12 v13 v14 v16 (seqT (X cp n) i_ack_Weigh_18 k)).trans (by kernel_rfl)).trans (congrArg (fun q => s_ack_Weigh_17 cp n p0 p1 v10 v12 v13 v14 v16 q) (funext fun v106 => funext fun v107 => funext fun v108 => funext fun v109 => funext fun v110 => funext fun v111 => funext fun v112 => funext fun v113 => funext fun v114 => funext fun v115 => (s_ack_Weigh_42_t cp n p0 p1 v10 v12 v13 v14 v16 v106 v107 v108 v109 v110 v111 v112 v113 v114 v115 k).trans (show s_ack_Weigh_42 cp n p0 p1 v10 v12 v13 v14 v16 v106 v107 v108 v109 v110 v111 v112 v113 v114 v115 (fun v132 v133 => k .ret (fr_ack_Weigh_41 p0 p1 v12 v13 v14 v16 v132 v133)) = s_ack_Weigh_42 cp n p0 p1 v10 v12 v13 v14 v16 v106 v107 v108 v109 v110 v111 v112 v113 v114 v115 (fun v132 v133 => k .ret (fr_ack_Weigh_43 p0 p1 v12 v13 v14 v16 v132 v133)) from by kernel_rfl))))
def fr_ack_Weigh_45 (p0 : SAsked) (p1 : SSegment) (v12 : Int) (v13 : Bool) (v14 v16 : Int) (v136 : Bool) (v137 : (List SSpan)) : Fr := dT 4 ((.ptr 136 0) :: dT 131 ((.hdr 9) :: (tB true) :: (tL v12) :: (tB v13) :: (tL p0.xPeer) :: (tL p1.xWin) :: (tI .u32 v14) :: (tL v16) :: (tB v136) :: (.row true (.rSpan v137)) :: dT 13 []))
theorem s_ack_Weigh_46_t {R : Type} (cp : Nat → Nat → Bool) (n : Nat) (p0 : SAsked) (p1 : SSegment) (v10 v12 : Int) (v13 : Bool) (v14 v16 : Int) (k : Ex → Fr → Option R) : X cp n i_ack_Weigh_20 (fr_ack_Weigh_14 p0 p1 v10 v12 v13 v14 v16) k = s_ack_Weigh_46 cp n p0 p1 v10 v12 v13 v14 v16 (fun v136 v137 => k .ret (fr_ack_Weigh_45 p0 p1 v12 v13 v14 v16 v136 v137)) := (show X cp n i_ack_Weigh_20 (fr_ack_Weigh_14 p0 p1 v10 v12 v13 v14 v16) k = X cp n i_ack_Weigh_6 (fr_ack_Weigh_14 p0 p1 v10 v12 v13 v14 v16) (seqT (X cp n) i_ack_Weigh_19 k) from by kernel_rfl).trans ((show X cp n i_ack_Weigh_6 (fr_ack_Weigh_14 p0 p1 v10 v12 v13 v14 v16) (seqT (X cp n) i_ack_Weigh_19 k) = s_ack_Weigh_15 cp n p0 p1 v10 v12 v13 v14 v16 (X cp n i_ack_Weigh_19 (fr_ack_Weigh_14 p0 p1 v10 v12 v13 v14 v16) k) (k .ret (fr_ack_Weigh_45 p0 p1 v12 v13 v14 v16 false [])) from (s_ack_Weigh_15_t cp n p0 p1 v10 v12 v13 v14 v16 (seqT (X cp n) i_ack_Weigh_19 k)).trans (by kernel_rfl)).trans (congrArg (fun q => s_ack_Weigh_15 cp n p0 p1 v10 v12 v13 v14 v16 q (k .ret (fr_ack_Weigh_45 p0 p1 v12 v13 v14 v16 false []))) ((s_ack_Weigh_44_t cp n p0 p1 v10 v12 v13 v14 v16 k).trans (show s_ack_Weigh_44 cp n p0 p1 v10 v12 v13 v14 v16 (fun v134 v135 => k .ret (fr_ack_Weigh_43 p0 p1 v12 v13 v14 v16 v134 v135)) = s_ack_Weigh_44 cp n p0 p1 v10 v12 v13 v14 v16 (fun v134 v135 => k .ret (fr_ack_Weigh_45 p0 p1 v12 v13 v14 v16 v134 v135)) from by kernel_rfl))))
def fr_ack_Weigh_47 (p0 : SAsked) (p1 : SSegment) (v12 : Int) (v13 : Bool) (v14 v138 : Int) (v139 : Bool) (v140 : (List SSpan)) : Fr := dT 4 ((.ptr 136 0) :: dT 131 ((.hdr 9) :: (tB true) :: (tL v12) :: (tB v13) :: (tL p0.xPeer) :: (tL p1.xWin) :: (tI .u32 v14) :: (tL v138) :: (tB v139) :: (.row true (.rSpan v140)) :: dT 13 []))
theorem s_ack_Weigh_48_t {R : Type} (cp : Nat → Nat → Bool) (n : Nat) (p0 : SAsked) (p1 : SSegment) (v10 v12 : Int) (v13 : Bool) (v14 : Int) (k : Ex → Fr → Option R) : X cp n i_ack_Weigh_21 (fr_ack_Weigh_12 p0 p1 v10 v12 v13 v14) k = s_ack_Weigh_48 cp n p0 p1 v10 v12 v13 v14 (fun v138 v139 v140 => k .ret (fr_ack_Weigh_47 p0 p1 v12 v13 v14 v138 v139 v140)) := (show X cp n i_ack_Weigh_21 (fr_ack_Weigh_12 p0 p1 v10 v12 v13 v14) k = X cp n i_ack_Weigh_5 (fr_ack_Weigh_12 p0 p1 v10 v12 v13 v14) (seqT (X cp n) i_ack_Weigh_20 k) from by kernel_rfl).trans ((show X cp n i_ack_Weigh_5 (fr_ack_Weigh_12 p0 p1 v10 v12 v13 v14) (seqT (X cp n) i_ack_Weigh_20 k) = s_ack_Weigh_13 cp n p0 p1 v10 v12 v13 v14 (fun v16 => X cp n i_ack_Weigh_20 (fr_ack_Weigh_14 p0 p1 v10 v12 v13 v14 v16) k) from (s_ack_Weigh_13_t cp n p0 p1 v10 v12 v13 v14 (seqT (X cp n) i_ack_Weigh_20 k)).trans (by kernel_rfl)).trans (congrArg (fun q => s_ack_Weigh_13 cp n p0 p1 v10 v12 v13 v14 q) (funext fun v16 => (s_ack_Weigh_46_t cp n p0 p1 v10 v12 v13 v14 v16 k).trans (show s_ack_Weigh_46 cp n p0 p1 v10 v12 v13 v14 v16 (fun v136 v137 => k .ret (fr_ack_Weigh_45 p0 p1 v12 v13 v14 v16 v136 v137)) = s_ack_Weigh_46 cp n p0 p1 v10 v12 v13 v14 v16 (fun v136 v137 => k .ret (fr_ack_Weigh_47 p0 p1 v12 v13 v14 v16 v136 v137)) from by kernel_rfl))))
def fr_ack_Weigh_49 (p0 : SAsked) (p1 : SSegment) (v12 : Int) (v13 : Bool) (v141 v142 : Int) (v143 : Bool) (v144 : (List SSpan)) : Fr := dT 4 ((.ptr 136 0) :: dT 131 ((.hdr 9) :: (tB true) :: (tL v12) :: (tB v13) :: (tL p0.xPeer) :: (tL p1.xWin) :: (tI .u32 v141) :: (tL v142) :: (tB v143) :: (.row true (.rSpan v144)) :: dT 13 []))
theorem s_ack_Weigh_50_t {R : Type} (cp : Nat → Nat → Bool) (n : Nat) (p0 : SAsked) (p1 : SSegment) (v10 v12 : Int) (v13 : Bool) (k : Ex → Fr → Option R) : X cp n i_ack_Weigh_22 (fr_ack_Weigh_10 p0 p1 v10 v12 v13) k = s_ack_Weigh_50 cp n p0 p1 v10 v12 v13 (fun v141 v142 v143 v144 => k .ret (fr_ack_Weigh_49 p0 p1 v12 v13 v141 v142 v143 v144)) := (show X cp n i_ack_Weigh_22 (fr_ack_Weigh_10 p0 p1 v10 v12 v13) k = X cp n i_ack_Weigh_4 (fr_ack_Weigh_10 p0 p1 v10 v12 v13) (seqT (X cp n) i_ack_Weigh_21 k) from by kernel_rfl).trans ((show X cp n i_ack_Weigh_4 (fr_ack_Weigh_10 p0 p1 v10 v12 v13) (seqT (X cp n) i_ack_Weigh_21 k) = s_ack_Weigh_11 cp n p0 p1 v10 v12 v13 (fun v14 => X cp n i_ack_Weigh_21 (fr_ack_Weigh_12 p0 p1 v10 v12 v13 v14) k) from (s_ack_Weigh_11_t cp n p0 p1 v10 v12 v13 (seqT (X cp n) i_ack_Weigh_21 k)).trans (by kernel_rfl)).trans (congrArg (fun q => s_ack_Weigh_11 cp n p0 p1 v10 v12 v13 q) (funext fun v14 => (s_ack_Weigh_48_t cp n p0 p1 v10 v12 v13 v14 k).trans (show s_ack_Weigh_48 cp n p0 p1 v10 v12 v13 v14 (fun v138 v139 v140 => k .ret (fr_ack_Weigh_47 p0 p1 v12 v13 v14 v138 v139 v140)) = s_ack_Weigh_48 cp n p0 p1 v10 v12 v13 v14 (fun v138 v139 v140 => k .ret (fr_ack_Weigh_49 p0 p1 v12 v13 v14 v138 v139 v140)) from by kernel_rfl))))
def fr_ack_Weigh_51 (p0 : SAsked) (p1 : SSegment) (v145 : Int) (v146 : Bool) (v147 v148 : Int) (v149 : Bool) (v150 : (List SSpan)) : Fr := dT 4 ((.ptr 136 0) :: dT 131 ((.hdr 9) :: (tB true) :: (tL v145) :: (tB v146) :: (tL p0.xPeer) :: (tL p1.xWin) :: (tI .u32 v147) :: (tL v148) :: (tB v149) :: (.row true (.rSpan v150)) :: dT 13 []))
theorem s_ack_Weigh_52_t {R : Type} (cp : Nat → Nat → Bool) (n : Nat) (p0 : SAsked) (p1 : SSegment) (v10 : Int) (k : Ex → Fr → Option R) : X cp n i_ack_Weigh_23 (fr_ack_Weigh_7 p0 p1 v10) k = s_ack_Weigh_52 cp n p0 p1 v10 (fun v145 v146 v147 v148 v149 v150 => k .ret (fr_ack_Weigh_51 p0 p1 v145 v146 v147 v148 v149 v150)) := (show X cp n i_ack_Weigh_23 (fr_ack_Weigh_7 p0 p1 v10) k = X cp n i_ack_Weigh_3 (fr_ack_Weigh_7 p0 p1 v10) (seqT (X cp n) i_ack_Weigh_22 k) from by kernel_rfl).trans ((show X cp n i_ack_Weigh_3 (fr_ack_Weigh_7 p0 p1 v10) (seqT (X cp n) i_ack_Weigh_22 k) = s_ack_Weigh_9 cp n p0 p1 v10 (fun v12 v13 => X cp n i_ack_Weigh_22 (fr_ack_Weigh_10 p0 p1 v10 v12 v13) k) from (s_ack_Weigh_9_t cp n p0 p1 v10 (seqT (X cp n) i_ack_Weigh_22 k)).trans (by kernel_rfl)).trans (congrArg (fun q => s_ack_Weigh_9 cp n p0 p1 v10 q) (funext fun v12 => funext fun v13 => (s_ack_Weigh_50_t cp n p0 p1 v10 v12 v13 k).trans (show s_ack_Weigh_50 cp n p0 p1 v10 v12 v13 (fun v141 v142 v143 v144 => k .ret (fr_ack_Weigh_49 p0 p1 v12 v13 v141 v142 v143 v144)) = s_ack_Weigh_50 cp n p0 p1 v10 v12 v13 (fun v141 v142 v143 v144 => k .ret (fr_ack_Weigh_51 p0 p1 v12 v13 v141 v142 v143 v144)) from by kernel_rfl))))
def fr_ack_Weigh_53 (v151 : Bool) (v152 : Int) (v153 : Bool) (v154 v155 v156 v157 : Int) (v158 : Bool) (v159 : (List SSpan)) : Fr := dT 4 ((.ptr 136 0) :: dT 131 ((.hdr 9) :: (tB v151) :: (tL v152) :: (tB v153) :: (tL v154) :: (tL v155) :: (tI .u32 v156) :: (tL v157) :: (tB v158) :: (.row true (.rSpan v159)) :: dT 13 []))
theorem s_ack_Weigh_54_t {R : Type} (cp : Nat → Nat → Bool) (n : Nat) (p0 : SAsked) (p1 : SSegment) (v10 : Int) (v11 : Bool) (k : Ex → Fr → Option R) : X cp n i_ack_Weigh_24 (fr_ack_Weigh_5 p0 p1 v10 v11) k = s_ack_Weigh_54 cp n p0 p1 v10 v11 (fun v151 v152 v153 v154 v155 v156 v157 v158 v159 => k .ret (fr_ack_Weigh_53 v151 v152 v153 v154 v155 v156 v157 v158 v159)) := (show X cp n i_ack_Weigh_24 (fr_ack_Weigh_5 p0 p1 v10 v11) k = X cp n i_ack_Weigh_2 (fr_ack_Weigh_5 p0 p1 v10 v11) (seqT (X cp n) i_ack_Weigh_23 k) from by kernel_rfl).trans ((show X cp n i_ack_Weigh_2 (fr_ack_Weigh_5 p0 p1 v10 v11) (seqT (X cp n) i_ack_Weigh_23 k) = s_ack_Weigh_6 cp n p0 p1 v10 v11 (X cp n i_ack_Weigh_23 (fr_ack_Weigh_7 p0 p1 v10) k) (k .ret (fr_ack_Weigh_53 false 0 false 0 0 0 0 false [])) from (s_ack_Weigh_6_t cp n p0 p1 v10 v11 (seqT (X cp n) i_ack_Weigh_23 k)).trans (by kernel_rfl)).trans (congrArg (fun q => s_ack_Weigh_6 cp n p0 p1 v10 v11 q (k .ret (fr_ack_Weigh_53 false 0 false 0 0 0 0 false []))) ((s_ack_Weigh_52_t cp n p0 p1 v10 k).trans (show s_ack_Weigh_52 cp n p0 p1 v10 (fun v145 v146 v147 v148 v149 v150 => k .ret (fr_ack_Weigh_51 p0 p1 v145 v146 v147 v148 v149 v150)) = s_ack_Weigh_52 cp n p0 p1 v10 (fun v145 v146 v147 v148 v149 v150 => k .ret (fr_ack_Weigh_53 true v145 v146 p0.xPeer p1.xWin v147 v148 v149 v150)) from by kernel_rfl))))
def fr_ack_Weigh_55 (v160 : Bool) (v161 : Int) (v162 : Bool) (v163 v164 v165 v166 : Int) (v167 : Bool) (v168 : (List SSpan)) : Fr := dT 4 ((.ptr 136 0) :: dT 131 ((.hdr 9) :: (tB v160) :: (tL v161) :: (tB v162) :: (tL v163) :: (tL v164) :: (tI .u32 v165) :: (tL v166) :: (tB v167) :: (.row true (.rSpan v168)) :: dT 13 []))
theorem s_ack_Weigh_56_t {R : Type} (cp : Nat → Nat → Bool) (n : Nat) (p0 : SAsked) (p1 : SSegment) (k : Ex → Fr → Option R) : X cp n i_ack_Weigh_25 (fr_ack_Weigh_2 p0 p1) k = s_ack_Weigh_56 cp n p0 p1 (fun v160 v161 v162 v163 v164 v165 v166 v167 v168 => k .ret (fr_ack_Weigh_55 v160 v161 v162 v163 v164 v165 v166 v167 v168)) := (show X cp n i_ack_Weigh_25 (fr_ack_Weigh_2 p0 p1) k = X cp n i_ack_Weigh_1 (fr_ack_Weigh_2 p0 p1) (seqT (X cp n) i_ack_Weigh_24 k) from by kernel_rfl).trans ((show X cp n i_ack_Weigh_1 (fr_ack_Weigh_2 p0 p1) (seqT (X cp n) i_ack_Weigh_24 k) = s_ack_Weigh_4 cp n p0 p1 (fun v10 v11 => X cp n i_ack_Weigh_24 (fr_ack_Weigh_5 p0 p1 v10 v11) k) from (s_ack_Weigh_4_t cp n p0 p1 (seqT (X cp n) i_ack_Weigh_24 k)).trans (by kernel_rfl)).trans (congrArg (fun q => s_ack_Weigh_4 cp n p0 p1 q) (funext fun v10 => funext fun v11 => (s_ack_Weigh_54_t cp n p0 p1 v10 v11 k).trans (show s_ack_Weigh_54 cp n p0 p1 v10 v11 (fun v151 v152 v153 v154 v155 v156 v157 v158 v159 => k .ret (fr_ack_Weigh_53 v151 v152 v153 v154 v155 v156 v157 v158 v159)) = s_ack_Weigh_54 cp n p0 p1 v10 v11 (fun v151 v152 v153 v154 v155 v156 v157 v158 v159 => k .ret (fr_ack_Weigh_55 v151 v152 v153 v154 v155 v156 v157 v158 v159)) from by kernel_rfl))))
def fr_ack_Weigh_57 (v169 : Bool) (v170 : Int) (v171 : Bool) (v172 v173 v174 v175 : Int) (v176 : Bool) (v177 : (List SSpan)) : Fr := dT 4 ((.ptr 136 0) :: dT 131 ((.hdr 9) :: (tB v169) :: (tL v170) :: (tB v171) :: (tL v172) :: (tL v173) :: (tI .u32 v174) :: (tL v175) :: (tB v176) :: (.row true (.rSpan v177)) :: dT 13 []))
theorem s_ack_Weigh_58_t {R : Type} (cp : Nat → Nat → Bool) (n : Nat) (p0 : SAsked) (p1 : SSegment) (k : Ex → Fr → Option R) : X cp n i_ack_Weigh_26 (fr_ack_Weigh_3 p0 p1) k = s_ack_Weigh_58 cp n p0 p1 (fun v169 v170 v171 v172 v173 v174 v175 v176 v177 => k .ret (fr_ack_Weigh_57 v169 v170 v171 v172 v173 v174 v175 v176 v177)) := (show X cp n i_ack_Weigh_26 (fr_ack_Weigh_3 p0 p1) k = X cp n i_ack_Weigh_0 (fr_ack_Weigh_3 p0 p1) (seqT (X cp n) i_ack_Weigh_25 k) from by kernel_rfl).trans ((show X cp n i_ack_Weigh_0 (fr_ack_Weigh_3 p0 p1) (seqT (X cp n) i_ack_Weigh_25 k) = s_ack_Weigh_1 cp n p0 p1 (X cp n i_ack_Weigh_25 (fr_ack_Weigh_2 p0 p1) k) from (s_ack_Weigh_1_t cp n p0 p1 (seqT (X cp n) i_ack_Weigh_25 k)).trans (by kernel_rfl)).trans (congrArg (fun q => s_ack_Weigh_1 cp n p0 p1 q) ((s_ack_Weigh_56_t cp n p0 p1 k).trans (show s_ack_Weigh_56 cp n p0 p1 (fun v160 v161 v162 v163 v164 v165 v166 v167 v168 => k .ret (fr_ack_Weigh_55 v160 v161 v162 v163 v164 v165 v166 v167 v168)) = s_ack_Weigh_56 cp n p0 p1 (fun v160 v161 v162 v163 v164 v165 v166 v167 v168 => k .ret (fr_ack_Weigh_57 v160 v161 v162 v163 v164 v165 v166 v167 v168)) from by kernel_rfl))))
theorem run_ack_Weigh {R : Type} (cp : Nat → Nat → Bool) (n : Nat) (p0 : SAsked) (p1 : SSegment) (k : Ret2 RW → Option R) : G_ack_Weigh cp (n + 1) p0 p1 (fun r0 => k ⟨.agg (eHeardt r0), []⟩) = run2 U cp (callP cp n) n fn_ack_Weigh [.agg (eAsked p0), .agg (eSegment p1)] [] k := ((show run2 U cp (callP cp n) n fn_ack_Weigh [.agg (eAsked p0), .agg (eSegment p1)] [] k = X cp n i_ack_Weigh_26 (fr_ack_Weigh_3 p0 p1) (finK2 fn_ack_Weigh k) from by kernel_rfl).trans ((s_ack_Weigh_58_t cp n p0 p1 (finK2 fn_ack_Weigh k)).trans (by kernel_rfl))).symm
/-! tideway/tidewaylaw22.heads -/
theorem run_law22_heads {R : Type} (cp : Nat → Nat → Bool) (n : Nat) (k : Ret2 RW → Option R) : G_law22_heads cp (n + 1) (fun r0 => k ⟨(tB r0), []⟩) = run2 U cp (callP cp n) n fn_law22_heads [] [] k := by kernel_rfl
/-! tideway/tidewaylaw22.AckWithin -/
def fr_law22_AckWithin_2 (p0 : SAsked) (p1 : SSegment) : Fr := dT 2 ((.ptr 102 0) :: (.ptr 112 0) :: dT 98 ((.hdr 9) :: ((eAsked p0) ++ ((.hdr 15) :: ((eSegment p1) ++ (dT 10 []))))))
def fr_law22_AckWithin_3 (p0 : SAsked) (p1 : SSegment) : Fr := (.agg (eAsked p0)) :: (.agg (eSegment p1)) :: dT 136 []
theorem s_law22_AckWithin_1_t {R : Type} (cp : Nat → Nat → Bool) (n : Nat) (p0 : SAsked) (p1 : SSegment) (k : Ex → Fr → Option R) : X cp n i_law22_AckWithin_0 (fr_law22_AckWithin_3 p0 p1) k = s_law22_AckWithin_1 cp n p0 p1 (k .norm (fr_law22_AckWithin_2 p0 p1)) := by kernel_rfl
def fr_law22_AckWithin_5 (p0 : SAsked) (v179 : Bool) (v180 : Int) (v181 : Bool) (v182 v183 v184 v185 : Int) (v186 : Bool) (v187 : (List SSpan)) : Fr := dT 2 ((.ptr 102 0) :: dT 2 ((.ptr 128 0) :: dT 96 ((.hdr 9) :: ((eAsked p0) ++ (dT 16 ([.hdr 9, (tB v179), (tL v180), (tB v181), (tL v182), (tL v183), (tI .u32 v184), (tL v185), (tB v186), .row false (.rSpan v187)]))))))
theorem s_law22_AckWithin_4_t {R : Type} (cp : Nat → Nat → Bool) (n : Nat) (p0 : SAsked) (p1 : SSegment) (k : Ex → Fr → Option R) : X cp n i_law22_AckWithin_1 (fr_law22_AckWithin_2 p0 p1) k = s_law22_AckWithin_4 cp n p0 p1 (fun v179 v180 v181 v182 v183 v184 v185 v186 v187 => k .norm (fr_law22_AckWithin_5 p0 v179 v180 v181 v182 v183 v184 v185 v186 v187)) := by kernel_rfl
def fr_law22_AckWithin_7 (v192 : Bool) : Fr := dT 4 ((tB v192) :: dT 133 [])
theorem s_law22_AckWithin_6_t {R : Type} (cp : Nat → Nat → Bool) (n : Nat) (p0 : SAsked) (v179 : Bool) (v180 : Int) (v181 : Bool) (v182 v183 v184 v185 : Int) (v186 : Bool) (v187 : (List SSpan)) (k : Ex → Fr → Option R) : X cp n i_law22_AckWithin_2 (fr_law22_AckWithin_5 p0 v179 v180 v181 v182 v183 v184 v185 v186 v187) k = s_law22_AckWithin_6 cp n p0 v179 v180 v181 v182 v183 v184 v185 v186 v187 (k .norm (fr_law22_AckWithin_5 p0 v179 v180 v181 v182 v183 v184 v185 v186 v187)) (fun v192 => k .ret (fr_law22_AckWithin_7 v192)) := by kernel_rfl
def fr_law22_AckWithin_9 : Fr := dT 4 ((tB false) :: dT 133 [])
theorem s_law22_AckWithin_8_t {R : Type} (cp : Nat → Nat → Bool) (n : Nat) (p0 : SAsked) (v179 : Bool) (v180 : Int) (v181 : Bool) (v182 v183 v184 v185 : Int) (v186 : Bool) (v187 : (List SSpan)) (k : Ex → Fr → Option R) : X cp n i_law22_AckWithin_3 (fr_law22_AckWithin_5 p0 v179 v180 v181 v182 v183 v184 v185 v186 v187) k = s_law22_AckWithin_8 cp n p0 v179 v180 v181 v182 v183 v184 v185 v186 v187 (k .norm (fr_law22_AckWithin_5 p0 v179 v180 v181 v182 v183 v184 v185 v186 v187)) (k .ret fr_law22_AckWithin_9) := by kernel_rfl
def fr_law22_AckWithin_11 (p0 : SAsked) (v179 : Bool) (v180 : Int) (v181 : Bool) (v182 v183 v184 v185 : Int) (v186 : Bool) (v187 : (List SSpan)) : Fr := dT 2 ((.ptr 102 0) :: dT 2 ((.ptr 128 0) :: (tL 0) :: dT 95 ((.hdr 9) :: ((eAsked p0) ++ (dT 16 ([.hdr 9, (tB v179), (tL v180), (tB v181), (tL v182), (tL v183), (tI .u32 v184), (tL v185), (tB v186), .row false (.rSpan v187)]))))))
theorem s_law22_AckWithin_10_t {R : Type} (cp : Nat → Nat → Bool) (n : Nat) (p0 : SAsked) (v179 : Bool) (v180 : Int) (v181 : Bool) (v182 v183 v184 v185 : Int) (v186 : Bool) (v187 : (List SSpan)) (k : Ex → Fr → Option R) : X cp n i_law22_AckWithin_4 (fr_law22_AckWithin_5 p0 v179 v180 v181 v182 v183 v184 v185 v186 v187) k = s_law22_AckWithin_10 cp n p0 v179 v180 v181 v182 v183 v184 v185 v186 v187 (k .norm (fr_law22_AckWithin_11 p0 v179 v180 v181 v182 v183 v184 v185 v186 v187)) := by kernel_rfl
def fr_law22_AckWithin_13 (p0 : SAsked) (v179 : Bool) (v180 : Int) (v181 : Bool) (v182 v183 v184 v185 : Int) (v186 : Bool) (v187 : (List SSpan)) (v195 : Int) : Fr := dT 2 ((.ptr 102 0) :: dT 2 ((.ptr 128 0) :: (tL v195) :: dT 95 ((.hdr 9) :: ((eAsked p0) ++ (dT 16 ([.hdr 9, (tB v179), (tL v180), (tB v181), (tL v182), (tL v183), (tI .u32 v184), (tL v185), (tB v186), .row false (.rSpan v187)]))))))
def fr_law22_AckWithin_14 : Fr := dT 138 []
def fr_law22_AckWithin_15 (p0 : SAsked) (v179 : Bool) (v180 : Int) (v181 : Bool) (v182 v183 v184 v185 : Int) (v186 : Bool) (v187 : (List SSpan)) (v194 : Int) : Fr := dT 2 ((.ptr 102 0) :: dT 2 ((.ptr 128 0) :: (tL v194) :: dT 95 ((.hdr 9) :: ((eAsked p0) ++ (dT 16 ([.hdr 9, (tB v179), (tL v180), (tB v181), (tL v182), (tL v183), (tI .u32 v184), (tL v185), (tB v186), .row false (.rSpan v187)]))))))
theorem s_law22_AckWithin_12_t {R : Type} (cp : Nat → Nat → Bool) (n : Nat) (p0 : SAsked) (v179 : Bool) (v180 : Int) (v181 : Bool) (v182 v183 v184 v185 : Int) (v186 : Bool) (v187 : (List SSpan)) (v194 : Int) (k : Ex → Fr → Option R) : X cp n i_law22_AckWithin_5 (fr_law22_AckWithin_15 p0 v179 v180 v181 v182 v183 v184 v185 v186 v187 v194) k = s_law22_AckWithin_12 cp n p0 v179 v180 v181 v182 v183 v184 v185 v186 v187 v194 (fun v195 => k .norm (fr_law22_AckWithin_13 p0 v179 v180 v181 v182 v183 v184 v185 v186 v187 v195)) (k .ret fr_law22_AckWithin_9) (k (.exit 0) fr_law22_AckWithin_14) := by kernel_rfl
theorem l_law22_AckWithin_16_t {R : Type} (cp : Nat → Nat → Bool) (n : Nat) : ∀ (m : Nat) (p0 : SAsked) (v179 : Bool) (v180 : Int) (v181 : Bool) (v182 v183 v184 v185 : Int) (v186 : Bool) (v187 : (List SSpan)) (v194 : Int) (k : Ex → Fr → Option R), loopN2 (X cp n i_law22_AckWithin_5) m (fr_law22_AckWithin_15 p0 v179 v180 v181 v182 v183 v184 v185 v186 v187 v194) k = l_law22_AckWithin_16 cp n m p0 v179 v180 v181 v182 v183 v184 v185 v186 v187 v194 (k .ret fr_law22_AckWithin_9) (k (.exit 0) fr_law22_AckWithin_14)
  | 0, _, _, _, _, _, _, _, _, _, _, _, _ => rfl
  | m + 1, p0, v179, v180, v181, v182, v183, v184, v185, v186, v187, v194, k => (loopN2_succ (X cp n i_law22_AckWithin_5) m (fr_law22_AckWithin_15 p0 v179 v180 v181 v182 v183 v184 v185 v186 v187 v194) k).trans ((s_law22_AckWithin_12_t cp n p0 v179 v180 v181 v182 v183 v184 v185 v186 v187 v194 (loopT (X cp n i_law22_AckWithin_5) m k)).trans ((show s_law22_AckWithin_12 cp n p0 v179 v180 v181 v182 v183 v184 v185 v186 v187 v194 (fun v195 => loopT (X cp n i_law22_AckWithin_5) m k .norm (fr_law22_AckWithin_13 p0 v179 v180 v181 v182 v183 v184 v185 v186 v187 v195)) (loopT (X cp n i_law22_AckWithin_5) m k .ret fr_law22_AckWithin_9) (loopT (X cp n i_law22_AckWithin_5) m k (.exit 0) fr_law22_AckWithin_14) = s_law22_AckWithin_12 cp n p0 v179 v180 v181 v182 v183 v184 v185 v186 v187 v194 (fun v195 => loopN2 (X cp n i_law22_AckWithin_5) m (fr_law22_AckWithin_15 p0 v179 v180 v181 v182 v183 v184 v185 v186 v187 v195) k) (k .ret fr_law22_AckWithin_9) (k (.exit 0) fr_law22_AckWithin_14) from by kernel_rfl).trans (congrArg (fun q => s_law22_AckWithin_12 cp n p0 v179 v180 v181 v182 v183 v184 v185 v186 v187 v194 q (k .ret fr_law22_AckWithin_9) (k (.exit 0) fr_law22_AckWithin_14)) (funext fun v195 => l_law22_AckWithin_16_t cp n m p0 v179 v180 v181 v182 v183 v184 v185 v186 v187 v195 k))))
theorem s_law22_AckWithin_17_t {R : Type} (cp : Nat → Nat → Bool) (n : Nat) (p0 : SAsked) (v179 : Bool) (v180 : Int) (v181 : Bool) (v182 v183 v184 v185 : Int) (v186 : Bool) (v187 : (List SSpan)) (k : Ex → Fr → Option R) : X cp n i_law22_AckWithin_6 (fr_law22_AckWithin_11 p0 v179 v180 v181 v182 v183 v184 v185 v186 v187) k = s_law22_AckWithin_17 cp n p0 v179 v180 v181 v182 v183 v184 v185 v186 v187 (k .ret fr_law22_AckWithin_9) (k (.exit 0) fr_law22_AckWithin_14) := (show X cp n i_law22_AckWithin_6 (fr_law22_AckWithin_11 p0 v179 v180 v181 v182 v183 v184 v185 v186 v187) k = loopN2 (X cp n i_law22_AckWithin_5) n (fr_law22_AckWithin_15 p0 v179 v180 v181 v182 v183 v184 v185 v186 v187 0) k from by kernel_rfl).trans (l_law22_AckWithin_16_t cp n n p0 v179 v180 v181 v182 v183 v184 v185 v186 v187 0 k)
theorem s_law22_AckWithin_18_t {R : Type} (cp : Nat → Nat → Bool) (n : Nat) (p0 : SAsked) (v179 : Bool) (v180 : Int) (v181 : Bool) (v182 v183 v184 v185 : Int) (v186 : Bool) (v187 : (List SSpan)) (k : Ex → Fr → Option R) : X cp n i_law22_AckWithin_7 (fr_law22_AckWithin_11 p0 v179 v180 v181 v182 v183 v184 v185 v186 v187) k = s_law22_AckWithin_18 cp n p0 v179 v180 v181 v182 v183 v184 v185 v186 v187 (k .norm fr_law22_AckWithin_14) (k .ret fr_law22_AckWithin_9) := (show X cp n i_law22_AckWithin_7 (fr_law22_AckWithin_11 p0 v179 v180 v181 v182 v183 v184 v185 v186 v187) k = X cp n i_law22_AckWithin_6 (fr_law22_AckWithin_11 p0 v179 v180 v181 v182 v183 v184 v185 v186 v187) (blkT 0 k) from by kernel_rfl).trans ((s_law22_AckWithin_17_t cp n p0 v179 v180 v181 v182 v183 v184 v185 v186 v187 (blkT 0 k)).trans (by kernel_rfl))
theorem s_law22_AckWithin_19_t {R : Type} (cp : Nat → Nat → Bool) (n : Nat) (p0 : SAsked) (v179 : Bool) (v180 : Int) (v181 : Bool) (v182 v183 v184 v185 : Int) (v186 : Bool) (v187 : (List SSpan)) (k : Ex → Fr → Option R) : X cp n i_law22_AckWithin_8 (fr_law22_AckWithin_5 p0 v179 v180 v181 v182 v183 v184 v185 v186 v187) k = s_law22_AckWithin_19 cp n p0 v179 v180 v181 v182 v183 v184 v185 v186 v187 (k .norm fr_law22_AckWithin_14) (k .ret fr_law22_AckWithin_9) := (show X cp n i_law22_AckWithin_8 (fr_law22_AckWithin_5 p0 v179 v180 v181 v182 v183 v184 v185 v186 v187) k = X cp n i_law22_AckWithin_4 (fr_law22_AckWithin_5 p0 v179 v180 v181 v182 v183 v184 v185 v186 v187) (seqT (X cp n) i_law22_AckWithin_7 k) from by kernel_rfl).trans ((show X cp n i_law22_AckWithin_4 (fr_law22_AckWithin_5 p0 v179 v180 v181 v182 v183 v184 v185 v186 v187) (seqT (X cp n) i_law22_AckWithin_7 k) = s_law22_AckWithin_10 cp n p0 v179 v180 v181 v182 v183 v184 v185 v186 v187 (X cp n i_law22_AckWithin_7 (fr_law22_AckWithin_11 p0 v179 v180 v181 v182 v183 v184 v185 v186 v187) k) from (s_law22_AckWithin_10_t cp n p0 v179 v180 v181 v182 v183 v184 v185 v186 v187 (seqT (X cp n) i_law22_AckWithin_7 k)).trans (by kernel_rfl)).trans (congrArg (fun q => s_law22_AckWithin_10 cp n p0 v179 v180 v181 v182 v183 v184 v185 v186 v187 q) (s_law22_AckWithin_18_t cp n p0 v179 v180 v181 v182 v183 v184 v185 v186 v187 k)))
def fr_law22_AckWithin_21 (v197 : Bool) : Fr := dT 4 ((tB v197) :: dT 133 [])
theorem s_law22_AckWithin_20_t {R : Type} (cp : Nat → Nat → Bool) (n : Nat) (k : Ex → Fr → Option R) : X cp n i_law22_AckWithin_9 fr_law22_AckWithin_14 k = s_law22_AckWithin_20 cp n (fun v197 => k .ret (fr_law22_AckWithin_21 v197)) := by kernel_rfl
def fr_law22_AckWithin_22 (v198 : Bool) : Fr := dT 4 ((tB v198) :: dT 133 [])
theorem s_law22_AckWithin_23_t {R : Type} (cp : Nat → Nat → Bool) (n : Nat) (p0 : SAsked) (v179 : Bool) (v180 : Int) (v181 : Bool) (v182 v183 v184 v185 : Int) (v186 : Bool) (v187 : (List SSpan)) (k : Ex → Fr → Option R) : X cp n i_law22_AckWithin_10 (fr_law22_AckWithin_5 p0 v179 v180 v181 v182 v183 v184 v185 v186 v187) k = s_law22_AckWithin_23 cp n p0 v179 v180 v181 v182 v183 v184 v185 v186 v187 (fun v198 => k .ret (fr_law22_AckWithin_22 v198)) := (show X cp n i_law22_AckWithin_10 (fr_law22_AckWithin_5 p0 v179 v180 v181 v182 v183 v184 v185 v186 v187) k = X cp n i_law22_AckWithin_8 (fr_law22_AckWithin_5 p0 v179 v180 v181 v182 v183 v184 v185 v186 v187) (seqT (X cp n) i_law22_AckWithin_9 k) from by kernel_rfl).trans ((show X cp n i_law22_AckWithin_8 (fr_law22_AckWithin_5 p0 v179 v180 v181 v182 v183 v184 v185 v186 v187) (seqT (X cp n) i_law22_AckWithin_9 k) = s_law22_AckWithin_19 cp n p0 v179 v180 v181 v182 v183 v184 v185 v186 v187 (X cp n i_law22_AckWithin_9 fr_law22_AckWithin_14 k) (k .ret (fr_law22_AckWithin_22 false)) from (s_law22_AckWithin_19_t cp n p0 v179 v180 v181 v182 v183 v184 v185 v186 v187 (seqT (X cp n) i_law22_AckWithin_9 k)).trans (by kernel_rfl)).trans (congrArg (fun q => s_law22_AckWithin_19 cp n p0 v179 v180 v181 v182 v183 v184 v185 v186 v187 q (k .ret (fr_law22_AckWithin_22 false))) ((s_law22_AckWithin_20_t cp n  k).trans (show s_law22_AckWithin_20 cp n (fun v197 => k .ret (fr_law22_AckWithin_21 v197)) = s_law22_AckWithin_20 cp n (fun v197 => k .ret (fr_law22_AckWithin_22 v197)) from by kernel_rfl))))
def fr_law22_AckWithin_24 (v199 : Bool) : Fr := dT 4 ((tB v199) :: dT 133 [])
theorem s_law22_AckWithin_25_t {R : Type} (cp : Nat → Nat → Bool) (n : Nat) (p0 : SAsked) (v179 : Bool) (v180 : Int) (v181 : Bool) (v182 v183 v184 v185 : Int) (v186 : Bool) (v187 : (List SSpan)) (k : Ex → Fr → Option R) : X cp n i_law22_AckWithin_11 (fr_law22_AckWithin_5 p0 v179 v180 v181 v182 v183 v184 v185 v186 v187) k = s_law22_AckWithin_25 cp n p0 v179 v180 v181 v182 v183 v184 v185 v186 v187 (fun v199 => k .ret (fr_law22_AckWithin_24 v199)) := (show X cp n i_law22_AckWithin_11 (fr_law22_AckWithin_5 p0 v179 v180 v181 v182 v183 v184 v185 v186 v187) k = X cp n i_law22_AckWithin_3 (fr_law22_AckWithin_5 p0 v179 v180 v181 v182 v183 v184 v185 v186 v187) (seqT (X cp n) i_law22_AckWithin_10 k) from by kernel_rfl).trans ((show X cp n i_law22_AckWithin_3 (fr_law22_AckWithin_5 p0 v179 v180 v181 v182 v183 v184 v185 v186 v187) (seqT (X cp n) i_law22_AckWithin_10 k) = s_law22_AckWithin_8 cp n p0 v179 v180 v181 v182 v183 v184 v185 v186 v187 (X cp n i_law22_AckWithin_10 (fr_law22_AckWithin_5 p0 v179 v180 v181 v182 v183 v184 v185 v186 v187) k) (k .ret (fr_law22_AckWithin_24 false)) from (s_law22_AckWithin_8_t cp n p0 v179 v180 v181 v182 v183 v184 v185 v186 v187 (seqT (X cp n) i_law22_AckWithin_10 k)).trans (by kernel_rfl)).trans (congrArg (fun q => s_law22_AckWithin_8 cp n p0 v179 v180 v181 v182 v183 v184 v185 v186 v187 q (k .ret (fr_law22_AckWithin_24 false))) ((s_law22_AckWithin_23_t cp n p0 v179 v180 v181 v182 v183 v184 v185 v186 v187 k).trans (show s_law22_AckWithin_23 cp n p0 v179 v180 v181 v182 v183 v184 v185 v186 v187 (fun v198 => k .ret (fr_law22_AckWithin_22 v198)) = s_law22_AckWithin_23 cp n p0 v179 v180 v181 v182 v183 v184 v185 v186 v187 (fun v198 => k .ret (fr_law22_AckWithin_24 v198)) from by kernel_rfl))))
def fr_law22_AckWithin_26 (v200 : Bool) : Fr := dT 4 ((tB v200) :: dT 133 [])
theorem s_law22_AckWithin_27_t {R : Type} (cp : Nat → Nat → Bool) (n : Nat) (p0 : SAsked) (v179 : Bool) (v180 : Int) (v181 : Bool) (v182 v183 v184 v185 : Int) (v186 : Bool) (v187 : (List SSpan)) (k : Ex → Fr → Option R) : X cp n i_law22_AckWithin_12 (fr_law22_AckWithin_5 p0 v179 v180 v181 v182 v183 v184 v185 v186 v187) k = s_law22_AckWithin_27 cp n p0 v179 v180 v181 v182 v183 v184 v185 v186 v187 (fun v200 => k .ret (fr_law22_AckWithin_26 v200)) := (show X cp n i_law22_AckWithin_12 (fr_law22_AckWithin_5 p0 v179 v180 v181 v182 v183 v184 v185 v186 v187) k = X cp n i_law22_AckWithin_2 (fr_law22_AckWithin_5 p0 v179 v180 v181 v182 v183 v184 v185 v186 v187) (seqT (X cp n) i_law22_AckWithin_11 k) from by kernel_rfl).trans ((show X cp n i_law22_AckWithin_2 (fr_law22_AckWithin_5 p0 v179 v180 v181 v182 v183 v184 v185 v186 v187) (seqT (X cp n) i_law22_AckWithin_11 k) = s_law22_AckWithin_6 cp n p0 v179 v180 v181 v182 v183 v184 v185 v186 v187 (X cp n i_law22_AckWithin_11 (fr_law22_AckWithin_5 p0 v179 v180 v181 v182 v183 v184 v185 v186 v187) k) (fun v192 => k .ret (fr_law22_AckWithin_26 v192)) from (s_law22_AckWithin_6_t cp n p0 v179 v180 v181 v182 v183 v184 v185 v186 v187 (seqT (X cp n) i_law22_AckWithin_11 k)).trans (by kernel_rfl)).trans (congrArg (fun q => s_law22_AckWithin_6 cp n p0 v179 v180 v181 v182 v183 v184 v185 v186 v187 q (fun v192 => k .ret (fr_law22_AckWithin_26 v192))) ((s_law22_AckWithin_25_t cp n p0 v179 v180 v181 v182 v183 v184 v185 v186 v187 k).trans (show s_law22_AckWithin_25 cp n p0 v179 v180 v181 v182 v183 v184 v185 v186 v187 (fun v199 => k .ret (fr_law22_AckWithin_24 v199)) = s_law22_AckWithin_25 cp n p0 v179 v180 v181 v182 v183 v184 v185 v186 v187 (fun v199 => k .ret (fr_law22_AckWithin_26 v199)) from by kernel_rfl))))
def fr_law22_AckWithin_28 (v201 : Bool) : Fr := dT 4 ((tB v201) :: dT 133 [])
theorem s_law22_AckWithin_29_t {R : Type} (cp : Nat → Nat → Bool) (n : Nat) (p0 : SAsked) (p1 : SSegment) (k : Ex → Fr → Option R) : X cp n i_law22_AckWithin_13 (fr_law22_AckWithin_2 p0 p1) k = s_law22_AckWithin_29 cp n p0 p1 (fun v201 => k .ret (fr_law22_AckWithin_28 v201)) := (show X cp n i_law22_AckWithin_13 (fr_law22_AckWithin_2 p0 p1) k = X cp n i_law22_AckWithin_1 (fr_law22_AckWithin_2 p0 p1) (seqT (X cp n) i_law22_AckWithin_12 k) from by kernel_rfl).trans ((show X cp n i_law22_AckWithin_1 (fr_law22_AckWithin_2 p0 p1) (seqT (X cp n) i_law22_AckWithin_12 k) = s_law22_AckWithin_4 cp n p0 p1 (fun v179 v180 v181 v182 v183 v184 v185 v186 v187 => X cp n i_law22_AckWithin_12 (fr_law22_AckWithin_5 p0 v179 v180 v181 v182 v183 v184 v185 v186 v187) k) from (s_law22_AckWithin_4_t cp n p0 p1 (seqT (X cp n) i_law22_AckWithin_12 k)).trans (by kernel_rfl)).trans (congrArg (fun q => s_law22_AckWithin_4 cp n p0 p1 q) (funext fun v179 => funext fun v180 => funext fun v181 => funext fun v182 => funext fun v183 => funext fun v184 => funext fun v185 => funext fun v186 => funext fun v187 => (s_law22_AckWithin_27_t cp n p0 v179 v180 v181 v182 v183 v184 v185 v186 v187 k).trans (show s_law22_AckWithin_27 cp n p0 v179 v180 v181 v182 v183 v184 v185 v186 v187 (fun v200 => k .ret (fr_law22_AckWithin_26 v200)) = s_law22_AckWithin_27 cp n p0 v179 v180 v181 v182 v183 v184 v185 v186 v187 (fun v200 => k .ret (fr_law22_AckWithin_28 v200)) from by kernel_rfl))))
def fr_law22_AckWithin_30 (v202 : Bool) : Fr := dT 4 ((tB v202) :: dT 133 [])
theorem s_law22_AckWithin_31_t {R : Type} (cp : Nat → Nat → Bool) (n : Nat) (p0 : SAsked) (p1 : SSegment) (k : Ex → Fr → Option R) : X cp n i_law22_AckWithin_14 (fr_law22_AckWithin_3 p0 p1) k = s_law22_AckWithin_31 cp n p0 p1 (fun v202 => k .ret (fr_law22_AckWithin_30 v202)) := (show X cp n i_law22_AckWithin_14 (fr_law22_AckWithin_3 p0 p1) k = X cp n i_law22_AckWithin_0 (fr_law22_AckWithin_3 p0 p1) (seqT (X cp n) i_law22_AckWithin_13 k) from by kernel_rfl).trans ((show X cp n i_law22_AckWithin_0 (fr_law22_AckWithin_3 p0 p1) (seqT (X cp n) i_law22_AckWithin_13 k) = s_law22_AckWithin_1 cp n p0 p1 (X cp n i_law22_AckWithin_13 (fr_law22_AckWithin_2 p0 p1) k) from (s_law22_AckWithin_1_t cp n p0 p1 (seqT (X cp n) i_law22_AckWithin_13 k)).trans (by kernel_rfl)).trans (congrArg (fun q => s_law22_AckWithin_1 cp n p0 p1 q) ((s_law22_AckWithin_29_t cp n p0 p1 k).trans (show s_law22_AckWithin_29 cp n p0 p1 (fun v201 => k .ret (fr_law22_AckWithin_28 v201)) = s_law22_AckWithin_29 cp n p0 p1 (fun v201 => k .ret (fr_law22_AckWithin_30 v201)) from by kernel_rfl))))
theorem run_law22_AckWithin {R : Type} (cp : Nat → Nat → Bool) (n : Nat) (p0 : SAsked) (p1 : SSegment) (k : Ret2 RW → Option R) : G_law22_AckWithin cp (n + 1) p0 p1 (fun r0 => k ⟨(tB r0), []⟩) = run2 U cp (callP cp n) n fn_law22_AckWithin [.agg (eAsked p0), .agg (eSegment p1)] [] k := ((show run2 U cp (callP cp n) n fn_law22_AckWithin [.agg (eAsked p0), .agg (eSegment p1)] [] k = X cp n i_law22_AckWithin_14 (fr_law22_AckWithin_3 p0 p1) (finK2 fn_law22_AckWithin k) from by kernel_rfl).trans ((s_law22_AckWithin_31_t cp n p0 p1 (finK2 fn_law22_AckWithin k)).trans (by kernel_rfl))).symm
/-! tideway/tidewayref06.Same -/
def fr_ref06_Same_2 (p0 p1 : (List SSpan)) : Fr := (.row false (.rSpan p0)) :: (.row false (.rSpan p1)) :: dT 24 []
theorem s_ref06_Same_1_t {R : Type} (cp : Nat → Nat → Bool) (n : Nat) (p0 p1 : (List SSpan)) (k : Ex → Fr → Option R) : X cp n i_ref06_Same_0 (fr_ref06_Same_2 p0 p1) k = s_ref06_Same_1 cp n p0 p1 (k .norm (fr_ref06_Same_2 p0 p1)) := by kernel_rfl
def fr_ref06_Same_4 : Fr := dT 4 ((tB false) :: dT 21 [])
theorem s_ref06_Same_3_t {R : Type} (cp : Nat → Nat → Bool) (n : Nat) (p0 p1 : (List SSpan)) (k : Ex → Fr → Option R) : X cp n i_ref06_Same_1 (fr_ref06_Same_2 p0 p1) k = s_ref06_Same_3 cp n p0 p1 (k .norm (fr_ref06_Same_2 p0 p1)) (k .ret fr_ref06_Same_4) := by kernel_rfl
def fr_ref06_Same_6 (p0 p1 : (List SSpan)) : Fr := (.row false (.rSpan p0)) :: (.row false (.rSpan p1)) :: dT 3 ((tL 0) :: dT 20 [])
theorem s_ref06_Same_5_t {R : Type} (cp : Nat → Nat → Bool) (n : Nat) (p0 p1 : (List SSpan)) (k : Ex → Fr → Option R) : X cp n i_ref06_Same_2 (fr_ref06_Same_2 p0 p1) k = s_ref06_Same_5 cp n p0 p1 (k .norm (fr_ref06_Same_6 p0 p1)) := by kernel_rfl
def fr_ref06_Same_8 (p0 p1 : (List SSpan)) (v207 : Int) : Fr := (.row false (.rSpan p0)) :: (.row false (.rSpan p1)) :: dT 3 ((tL v207) :: dT 20 [])
def fr_ref06_Same_9 : Fr := dT 26 []
def fr_ref06_Same_10 (p0 p1 : (List SSpan)) (v206 : Int) : Fr := (.row false (.rSpan p0)) :: (.row false (.rSpan p1)) :: dT 3 ((tL v206) :: dT 20 [])
theorem s_ref06_Same_7_t {R : Type} (cp : Nat → Nat → Bool) (n : Nat) (p0 p1 : (List SSpan)) (v206 : Int) (k : Ex → Fr → Option R) : X cp n i_ref06_Same_3 (fr_ref06_Same_10 p0 p1 v206) k = s_ref06_Same_7 cp n p0 p1 v206 (fun v207 => k .norm (fr_ref06_Same_8 p0 p1 v207)) (k .ret fr_ref06_Same_4) (k (.exit 0) fr_ref06_Same_9) := by kernel_rfl
theorem l_ref06_Same_11_t {R : Type} (cp : Nat → Nat → Bool) (n : Nat) : ∀ (m : Nat) (p0 p1 : (List SSpan)) (v206 : Int) (k : Ex → Fr → Option R), loopN2 (X cp n i_ref06_Same_3) m (fr_ref06_Same_10 p0 p1 v206) k = l_ref06_Same_11 cp n m p0 p1 v206 (k .ret fr_ref06_Same_4) (k (.exit 0) fr_ref06_Same_9)
  | 0, _, _, _, _ => rfl
  | m + 1, p0, p1, v206, k => (loopN2_succ (X cp n i_ref06_Same_3) m (fr_ref06_Same_10 p0 p1 v206) k).trans ((s_ref06_Same_7_t cp n p0 p1 v206 (loopT (X cp n i_ref06_Same_3) m k)).trans ((show s_ref06_Same_7 cp n p0 p1 v206 (fun v207 => loopT (X cp n i_ref06_Same_3) m k .norm (fr_ref06_Same_8 p0 p1 v207)) (loopT (X cp n i_ref06_Same_3) m k .ret fr_ref06_Same_4) (loopT (X cp n i_ref06_Same_3) m k (.exit 0) fr_ref06_Same_9) = s_ref06_Same_7 cp n p0 p1 v206 (fun v207 => loopN2 (X cp n i_ref06_Same_3) m (fr_ref06_Same_10 p0 p1 v207) k) (k .ret fr_ref06_Same_4) (k (.exit 0) fr_ref06_Same_9) from by kernel_rfl).trans (congrArg (fun q => s_ref06_Same_7 cp n p0 p1 v206 q (k .ret fr_ref06_Same_4) (k (.exit 0) fr_ref06_Same_9)) (funext fun v207 => l_ref06_Same_11_t cp n m p0 p1 v207 k))))
theorem s_ref06_Same_12_t {R : Type} (cp : Nat → Nat → Bool) (n : Nat) (p0 p1 : (List SSpan)) (k : Ex → Fr → Option R) : X cp n i_ref06_Same_4 (fr_ref06_Same_6 p0 p1) k = s_ref06_Same_12 cp n p0 p1 (k .ret fr_ref06_Same_4) (k (.exit 0) fr_ref06_Same_9) := (show X cp n i_ref06_Same_4 (fr_ref06_Same_6 p0 p1) k = loopN2 (X cp n i_ref06_Same_3) n (fr_ref06_Same_10 p0 p1 0) k from by kernel_rfl).trans (l_ref06_Same_11_t cp n n p0 p1 0 k)
theorem s_ref06_Same_13_t {R : Type} (cp : Nat → Nat → Bool) (n : Nat) (p0 p1 : (List SSpan)) (k : Ex → Fr → Option R) : X cp n i_ref06_Same_5 (fr_ref06_Same_6 p0 p1) k = s_ref06_Same_13 cp n p0 p1 (k .norm fr_ref06_Same_9) (k .ret fr_ref06_Same_4) := (show X cp n i_ref06_Same_5 (fr_ref06_Same_6 p0 p1) k = X cp n i_ref06_Same_4 (fr_ref06_Same_6 p0 p1) (blkT 0 k) from by kernel_rfl).trans ((s_ref06_Same_12_t cp n p0 p1 (blkT 0 k)).trans (by kernel_rfl))
theorem s_ref06_Same_14_t {R : Type} (cp : Nat → Nat → Bool) (n : Nat) (p0 p1 : (List SSpan)) (k : Ex → Fr → Option R) : X cp n i_ref06_Same_6 (fr_ref06_Same_2 p0 p1) k = s_ref06_Same_14 cp n p0 p1 (k .norm fr_ref06_Same_9) (k .ret fr_ref06_Same_4) := (show X cp n i_ref06_Same_6 (fr_ref06_Same_2 p0 p1) k = X cp n i_ref06_Same_2 (fr_ref06_Same_2 p0 p1) (seqT (X cp n) i_ref06_Same_5 k) from by kernel_rfl).trans ((show X cp n i_ref06_Same_2 (fr_ref06_Same_2 p0 p1) (seqT (X cp n) i_ref06_Same_5 k) = s_ref06_Same_5 cp n p0 p1 (X cp n i_ref06_Same_5 (fr_ref06_Same_6 p0 p1) k) from (s_ref06_Same_5_t cp n p0 p1 (seqT (X cp n) i_ref06_Same_5 k)).trans (by kernel_rfl)).trans (congrArg (fun q => s_ref06_Same_5 cp n p0 p1 q) (s_ref06_Same_13_t cp n p0 p1 k)))
def fr_ref06_Same_16 : Fr := dT 4 ((tB true) :: dT 21 [])
theorem s_ref06_Same_15_t {R : Type} (cp : Nat → Nat → Bool) (n : Nat) (k : Ex → Fr → Option R) : X cp n i_ref06_Same_7 fr_ref06_Same_9 k = s_ref06_Same_15 cp n (k .ret fr_ref06_Same_16) := by kernel_rfl
def fr_ref06_Same_17 (v208 : Bool) : Fr := dT 4 ((tB v208) :: dT 21 [])
theorem s_ref06_Same_18_t {R : Type} (cp : Nat → Nat → Bool) (n : Nat) (p0 p1 : (List SSpan)) (k : Ex → Fr → Option R) : X cp n i_ref06_Same_8 (fr_ref06_Same_2 p0 p1) k = s_ref06_Same_18 cp n p0 p1 (fun v208 => k .ret (fr_ref06_Same_17 v208)) := (show X cp n i_ref06_Same_8 (fr_ref06_Same_2 p0 p1) k = X cp n i_ref06_Same_6 (fr_ref06_Same_2 p0 p1) (seqT (X cp n) i_ref06_Same_7 k) from by kernel_rfl).trans ((show X cp n i_ref06_Same_6 (fr_ref06_Same_2 p0 p1) (seqT (X cp n) i_ref06_Same_7 k) = s_ref06_Same_14 cp n p0 p1 (X cp n i_ref06_Same_7 fr_ref06_Same_9 k) (k .ret (fr_ref06_Same_17 false)) from (s_ref06_Same_14_t cp n p0 p1 (seqT (X cp n) i_ref06_Same_7 k)).trans (by kernel_rfl)).trans (congrArg (fun q => s_ref06_Same_14 cp n p0 p1 q (k .ret (fr_ref06_Same_17 false))) ((s_ref06_Same_15_t cp n  k).trans (show s_ref06_Same_15 cp n (k .ret fr_ref06_Same_16) = s_ref06_Same_15 cp n (k .ret (fr_ref06_Same_17 true)) from by kernel_rfl))))
def fr_ref06_Same_19 (v209 : Bool) : Fr := dT 4 ((tB v209) :: dT 21 [])
theorem s_ref06_Same_20_t {R : Type} (cp : Nat → Nat → Bool) (n : Nat) (p0 p1 : (List SSpan)) (k : Ex → Fr → Option R) : X cp n i_ref06_Same_9 (fr_ref06_Same_2 p0 p1) k = s_ref06_Same_20 cp n p0 p1 (fun v209 => k .ret (fr_ref06_Same_19 v209)) := (show X cp n i_ref06_Same_9 (fr_ref06_Same_2 p0 p1) k = X cp n i_ref06_Same_1 (fr_ref06_Same_2 p0 p1) (seqT (X cp n) i_ref06_Same_8 k) from by kernel_rfl).trans ((show X cp n i_ref06_Same_1 (fr_ref06_Same_2 p0 p1) (seqT (X cp n) i_ref06_Same_8 k) = s_ref06_Same_3 cp n p0 p1 (X cp n i_ref06_Same_8 (fr_ref06_Same_2 p0 p1) k) (k .ret (fr_ref06_Same_19 false)) from (s_ref06_Same_3_t cp n p0 p1 (seqT (X cp n) i_ref06_Same_8 k)).trans (by kernel_rfl)).trans (congrArg (fun q => s_ref06_Same_3 cp n p0 p1 q (k .ret (fr_ref06_Same_19 false))) ((s_ref06_Same_18_t cp n p0 p1 k).trans (show s_ref06_Same_18 cp n p0 p1 (fun v208 => k .ret (fr_ref06_Same_17 v208)) = s_ref06_Same_18 cp n p0 p1 (fun v208 => k .ret (fr_ref06_Same_19 v208)) from by kernel_rfl))))
def fr_ref06_Same_21 (v210 : Bool) : Fr := dT 4 ((tB v210) :: dT 21 [])
theorem s_ref06_Same_22_t {R : Type} (cp : Nat → Nat → Bool) (n : Nat) (p0 p1 : (List SSpan)) (k : Ex → Fr → Option R) : X cp n i_ref06_Same_10 (fr_ref06_Same_2 p0 p1) k = s_ref06_Same_22 cp n p0 p1 (fun v210 => k .ret (fr_ref06_Same_21 v210)) := (show X cp n i_ref06_Same_10 (fr_ref06_Same_2 p0 p1) k = X cp n i_ref06_Same_0 (fr_ref06_Same_2 p0 p1) (seqT (X cp n) i_ref06_Same_9 k) from by kernel_rfl).trans ((show X cp n i_ref06_Same_0 (fr_ref06_Same_2 p0 p1) (seqT (X cp n) i_ref06_Same_9 k) = s_ref06_Same_1 cp n p0 p1 (X cp n i_ref06_Same_9 (fr_ref06_Same_2 p0 p1) k) from (s_ref06_Same_1_t cp n p0 p1 (seqT (X cp n) i_ref06_Same_9 k)).trans (by kernel_rfl)).trans (congrArg (fun q => s_ref06_Same_1 cp n p0 p1 q) ((s_ref06_Same_20_t cp n p0 p1 k).trans (show s_ref06_Same_20 cp n p0 p1 (fun v209 => k .ret (fr_ref06_Same_19 v209)) = s_ref06_Same_20 cp n p0 p1 (fun v209 => k .ret (fr_ref06_Same_21 v209)) from by kernel_rfl))))
theorem run_ref06_Same {R : Type} (cp : Nat → Nat → Bool) (n : Nat) (p0 p1 : (List SSpan)) (k : Ret2 RW → Option R) : G_ref06_Same cp (n + 1) p0 p1 (fun r0 => k ⟨(tB r0), []⟩) = run2 U cp (callP cp n) n fn_ref06_Same [.row false (.rSpan p0), .row false (.rSpan p1)] [] k := ((show run2 U cp (callP cp n) n fn_ref06_Same [.row false (.rSpan p0), .row false (.rSpan p1)] [] k = X cp n i_ref06_Same_10 (fr_ref06_Same_2 p0 p1) (finK2 fn_ref06_Same k) from by kernel_rfl).trans ((s_ref06_Same_22_t cp n p0 p1 (finK2 fn_ref06_Same k)).trans (by kernel_rfl))).symm
/-! tideway/tidewayref22.Same -/
theorem run_ref22_Same {R : Type} (cp : Nat → Nat → Bool) (n : Nat) (p0 p1 : SHeard) (k : Ret2 RW → Option R) : G_ref22_Same cp (n + 1) p0 p1 (fun r0 => k ⟨(tB r0), []⟩) = run2 U cp (callP cp n) n fn_ref22_Same [.agg (eHeard p0), .agg (eHeard p1)] [] k := by kernel_rfl
/-! tideway/tidewaylaw22.AckPlain -/
theorem run_law22_AckPlain {R : Type} (cp : Nat → Nat → Bool) (n : Nat) (p0 : SAsked) (p1 : SSegment) (k : Ret2 RW → Option R) : G_law22_AckPlain cp (n + 1) p0 p1 (fun r0 => k ⟨(tB r0), []⟩) = run2 U cp (callP cp n) n fn_law22_AckPlain [.agg (eAsked p0), .agg (eSegment p1)] [] k := by kernel_rfl
/-! tideway/tidewaylaw22.AckShifts -/
def fr_law22_AckShifts_2 (p0 : SAsked) (p1 : SSegment) (p2 p3 : Int) : Fr := dT 2 ((tI .u32 p2) :: (tI .u32 p3) :: (.ptr 79 0) :: (.ptr 89 0) :: dT 73 ((.hdr 9) :: ((eAsked p0) ++ ((.hdr 15) :: ((eSegment p1) ++ (dT 26 []))))))
def fr_law22_AckShifts_3 (p0 : SAsked) (p1 : SSegment) (p2 p3 : Int) : Fr := (.agg (eAsked p0)) :: (.agg (eSegment p1)) :: (tI .u32 p2) :: (tI .u32 p3) :: dT 127 []
theorem s_law22_AckShifts_1_t {R : Type} (cp : Nat → Nat → Bool) (n : Nat) (p0 : SAsked) (p1 : SSegment) (p2 p3 : Int) (k : Ex → Fr → Option R) : X cp n i_law22_AckShifts_0 (fr_law22_AckShifts_3 p0 p1 p2 p3) k = s_law22_AckShifts_1 cp n p0 p1 p2 p3 (k .norm (fr_law22_AckShifts_2 p0 p1 p2 p3)) := by kernel_rfl
def fr_law22_AckShifts_5 (v216 : Bool) : Fr := dT 8 ((tB v216) :: dT 122 [])
theorem s_law22_AckShifts_4_t {R : Type} (cp : Nat → Nat → Bool) (n : Nat) (p0 : SAsked) (p1 : SSegment) (p2 p3 : Int) (k : Ex → Fr → Option R) : X cp n i_law22_AckShifts_1 (fr_law22_AckShifts_2 p0 p1 p2 p3) k = s_law22_AckShifts_4 cp n p0 p1 p2 p3 (k .norm (fr_law22_AckShifts_2 p0 p1 p2 p3)) (fun v216 => k .ret (fr_law22_AckShifts_5 v216)) := by kernel_rfl
def fr_law22_AckShifts_7 (p0 : SAsked) (p1 : SSegment) (p2 p3 : Int) : Fr := dT 2 ((tI .u32 p2) :: (tI .u32 p3) :: (.ptr 79 0) :: (.ptr 89 0) :: dT 3 ((.ptr 105 0) :: (.ptr 115 0) :: dT 68 ((.hdr 9) :: ((eAsked p0) ++ ((.hdr 15) :: ((eSegment p1) ++ ((.hdr 9) :: ((eAsked p0) ++ ((.hdr 15) :: ((eSegment p1)))))))))))
theorem s_law22_AckShifts_6_t {R : Type} (cp : Nat → Nat → Bool) (n : Nat) (p0 : SAsked) (p1 : SSegment) (p2 p3 : Int) (k : Ex → Fr → Option R) : X cp n i_law22_AckShifts_2 (fr_law22_AckShifts_2 p0 p1 p2 p3) k = s_law22_AckShifts_6 cp n p0 p1 p2 p3 (k .norm (fr_law22_AckShifts_7 p0 p1 p2 p3)) := by kernel_rfl
def fr_law22_AckShifts_9 (p0 : SAsked) (p1 : SSegment) (p2 p3 v217 v218 : Int) : Fr := dT 2 ((tI .u32 p2) :: (tI .u32 p3) :: (.ptr 79 0) :: (.ptr 89 0) :: dT 3 ((.ptr 105 0) :: (.ptr 115 0) :: dT 68 ((.hdr 9) :: ((eAsked p0) ++ ((.hdr 15) :: ((eSegment p1) ++ ((.hdr 9) :: (tL p0.xUna) :: (tL p0.xNext) :: (tI .u32 v217) :: (tL p0.xPeer) :: (tI .u32 v218) :: (tB p0.xStamps) :: (tI .u32 p0.xRecent) :: (tI .u32 p0.xNow) :: (tB p0.xSacks) :: ((.hdr 15) :: ((eSegment p1))))))))))
theorem s_law22_AckShifts_8_t {R : Type} (cp : Nat → Nat → Bool) (n : Nat) (p0 : SAsked) (p1 : SSegment) (p2 p3 : Int) (k : Ex → Fr → Option R) : X cp n i_law22_AckShifts_3 (fr_law22_AckShifts_7 p0 p1 p2 p3) k = s_law22_AckShifts_8 cp n p0 p1 p2 p3 (fun v217 v218 => k .norm (fr_law22_AckShifts_9 p0 p1 p2 p3 v217 v218)) := by kernel_rfl
def fr_law22_AckShifts_11 (p0 : SAsked) (p1 : SSegment) (p2 v217 v218 v219 v220 : Int) : Fr := dT 2 ((tI .u32 p2) :: dT 1 ((.ptr 79 0) :: (.ptr 89 0) :: dT 3 ((.ptr 105 0) :: (.ptr 115 0) :: dT 68 ((.hdr 9) :: ((eAsked p0) ++ ((.hdr 15) :: ((eSegment p1) ++ [.hdr 9, (tL p0.xUna), (tL p0.xNext), (tI .u32 v217), (tL p0.xPeer), (tI .u32 v218), (tB p0.xStamps), (tI .u32 p0.xRecent), (tI .u32 p0.xNow), (tB p0.xSacks), .hdr 15, (tL p1.xSrcPort), (tL p1.xDstPort), (tI .u32 v219), (tI .u32 v220), (tL p1.xFlags), (tL p1.xWin), (tL p1.xUrg), (tL p1.xMss), (tL p1.xScale), (tB p1.xSackOk), (tB p1.xStamped), (tI .u32 p1.xVal), (tI .u32 p1.xEcr), .row false (.rBlock p1.xSacks), .row false (.ruint8 p1.xData)])))))))
theorem s_law22_AckShifts_10_t {R : Type} (cp : Nat → Nat → Bool) (n : Nat) (p0 : SAsked) (p1 : SSegment) (p2 p3 v217 v218 : Int) (k : Ex → Fr → Option R) : X cp n i_law22_AckShifts_4 (fr_law22_AckShifts_9 p0 p1 p2 p3 v217 v218) k = s_law22_AckShifts_10 cp n p0 p1 p2 p3 v217 v218 (fun v219 v220 => k .norm (fr_law22_AckShifts_11 p0 p1 p2 v217 v218 v219 v220)) := by kernel_rfl
def fr_law22_AckShifts_13 (p0 : SAsked) (p1 : SSegment) (p2 v217 v218 v219 v220 : Int) : Fr := dT 2 ((tI .u32 p2) :: dT 1 ((.ptr 79 0) :: (.ptr 89 0) :: dT 3 ((.ptr 105 0) :: (.ptr 115 0) :: dT 68 ((.hdr 9) :: ((eAsked p0) ++ ((.hdr 15) :: ((eSegment p1) ++ [.hdr 9, (tL p0.xUna), (tL p0.xNext), (tI .u32 v217), (tL p0.xPeer), (tI .u32 v218), (tB p0.xStamps), (tI .u32 p0.xRecent), (tI .u32 p0.xNow), (tB p0.xSacks), .hdr 15, (tL p1.xSrcPort), (tL p1.xDstPort), (tI .u32 v219), (tI .u32 v220), (tL p1.xFlags), (tL p1.xWin), (tL p1.xUrg), (tL p1.xMss), (tL p1.xScale), (tB p1.xSackOk), (tB p1.xStamped), (tI .u32 p1.xVal), (tI .u32 p1.xEcr), .row true (.rBlock []), .row false (.ruint8 p1.xData)])))))))
theorem s_law22_AckShifts_12_t {R : Type} (cp : Nat → Nat → Bool) (n : Nat) (p0 : SAsked) (p1 : SSegment) (p2 v217 v218 v219 v220 : Int) (k : Ex → Fr → Option R) : X cp n i_law22_AckShifts_5 (fr_law22_AckShifts_11 p0 p1 p2 v217 v218 v219 v220) k = s_law22_AckShifts_12 cp n p0 p1 p2 v217 v218 v219 v220 (k .norm (fr_law22_AckShifts_13 p0 p1 p2 v217 v218 v219 v220)) := by kernel_rfl
def fr_law22_AckShifts_15 (p0 : SAsked) (p1 : SSegment) (p2 v217 v218 v219 v220 : Int) : Fr := dT 2 ((tI .u32 p2) :: dT 1 ((.ptr 79 0) :: (.ptr 89 0) :: dT 3 ((.ptr 105 0) :: (.ptr 115 0) :: (tL 0) :: dT 67 ((.hdr 9) :: ((eAsked p0) ++ ((.hdr 15) :: ((eSegment p1) ++ [.hdr 9, (tL p0.xUna), (tL p0.xNext), (tI .u32 v217), (tL p0.xPeer), (tI .u32 v218), (tB p0.xStamps), (tI .u32 p0.xRecent), (tI .u32 p0.xNow), (tB p0.xSacks), .hdr 15, (tL p1.xSrcPort), (tL p1.xDstPort), (tI .u32 v219), (tI .u32 v220), (tL p1.xFlags), (tL p1.xWin), (tL p1.xUrg), (tL p1.xMss), (tL p1.xScale), (tB p1.xSackOk), (tB p1.xStamped), (tI .u32 p1.xVal), (tI .u32 p1.xEcr), .row true (.rBlock []), .row false (.ruint8 p1.xData)])))))))
theorem s_law22_AckShifts_14_t {R : Type} (cp : Nat → Nat → Bool) (n : Nat) (p0 : SAsked) (p1 : SSegment) (p2 v217 v218 v219 v220 : Int) (k : Ex → Fr → Option R) : X cp n i_law22_AckShifts_6 (fr_law22_AckShifts_13 p0 p1 p2 v217 v218 v219 v220) k = s_law22_AckShifts_14 cp n p0 p1 p2 v217 v218 v219 v220 (k .norm (fr_law22_AckShifts_15 p0 p1 p2 v217 v218 v219 v220)) := by kernel_rfl
def fr_law22_AckShifts_17 (p0 : SAsked) (p1 : SSegment) (p2 v217 v218 v219 v220 v223 : Int) (v224 : (List SBlock)) : Fr := dT 2 ((tI .u32 p2) :: dT 1 ((.ptr 79 0) :: (.ptr 89 0) :: dT 3 ((.ptr 105 0) :: (.ptr 115 0) :: (tL v223) :: dT 67 ((.hdr 9) :: ((eAsked p0) ++ ((.hdr 15) :: ((eSegment p1) ++ [.hdr 9, (tL p0.xUna), (tL p0.xNext), (tI .u32 v217), (tL p0.xPeer), (tI .u32 v218), (tB p0.xStamps), (tI .u32 p0.xRecent), (tI .u32 p0.xNow), (tB p0.xSacks), .hdr 15, (tL p1.xSrcPort), (tL p1.xDstPort), (tI .u32 v219), (tI .u32 v220), (tL p1.xFlags), (tL p1.xWin), (tL p1.xUrg), (tL p1.xMss), (tL p1.xScale), (tB p1.xSackOk), (tB p1.xStamped), (tI .u32 p1.xVal), (tI .u32 p1.xEcr), .row true (.rBlock v224), .row false (.ruint8 p1.xData)])))))))
def fr_law22_AckShifts_18 (p0 : SAsked) (p1 : SSegment) (v217 v218 v219 v220 : Int) (v222 : (List SBlock)) : Fr := dT 4 ((.ptr 79 0) :: (.ptr 89 0) :: dT 3 ((.ptr 105 0) :: (.ptr 115 0) :: dT 68 ((.hdr 9) :: ((eAsked p0) ++ ((.hdr 15) :: ((eSegment p1) ++ [.hdr 9, (tL p0.xUna), (tL p0.xNext), (tI .u32 v217), (tL p0.xPeer), (tI .u32 v218), (tB p0.xStamps), (tI .u32 p0.xRecent), (tI .u32 p0.xNow), (tB p0.xSacks), .hdr 15, (tL p1.xSrcPort), (tL p1.xDstPort), (tI .u32 v219), (tI .u32 v220), (tL p1.xFlags), (tL p1.xWin), (tL p1.xUrg), (tL p1.xMss), (tL p1.xScale), (tB p1.xSackOk), (tB p1.xStamped), (tI .u32 p1.xVal), (tI .u32 p1.xEcr), .row true (.rBlock v222), .row false (.ruint8 p1.xData)]))))))
def fr_law22_AckShifts_19 (p0 : SAsked) (p1 : SSegment) (p2 v217 v218 v219 v220 v221 : Int) (v222 : (List SBlock)) : Fr := dT 2 ((tI .u32 p2) :: dT 1 ((.ptr 79 0) :: (.ptr 89 0) :: dT 3 ((.ptr 105 0) :: (.ptr 115 0) :: (tL v221) :: dT 67 ((.hdr 9) :: ((eAsked p0) ++ ((.hdr 15) :: ((eSegment p1) ++ [.hdr 9, (tL p0.xUna), (tL p0.xNext), (tI .u32 v217), (tL p0.xPeer), (tI .u32 v218), (tB p0.xStamps), (tI .u32 p0.xRecent), (tI .u32 p0.xNow), (tB p0.xSacks), .hdr 15, (tL p1.xSrcPort), (tL p1.xDstPort), (tI .u32 v219), (tI .u32 v220), (tL p1.xFlags), (tL p1.xWin), (tL p1.xUrg), (tL p1.xMss), (tL p1.xScale), (tB p1.xSackOk), (tB p1.xStamped), (tI .u32 p1.xVal), (tI .u32 p1.xEcr), .row true (.rBlock v222), .row false (.ruint8 p1.xData)])))))))
theorem s_law22_AckShifts_16_t {R : Type} (cp : Nat → Nat → Bool) (n : Nat) (p0 : SAsked) (p1 : SSegment) (p2 v217 v218 v219 v220 v221 : Int) (v222 : (List SBlock)) (k : Ex → Fr → Option R) : X cp n i_law22_AckShifts_7 (fr_law22_AckShifts_19 p0 p1 p2 v217 v218 v219 v220 v221 v222) k = s_law22_AckShifts_16 cp n p0 p1 p2 v217 v218 v219 v220 v221 v222 (fun v223 v224 => k .norm (fr_law22_AckShifts_17 p0 p1 p2 v217 v218 v219 v220 v223 v224)) (k (.exit 0) (fr_law22_AckShifts_18 p0 p1 v217 v218 v219 v220 v222)) := by kernel_rfl
def fr_law22_AckShifts_20 (p0 : SAsked) (p1 : SSegment) (v217 v218 v219 v220 : Int) (v225 : (List SBlock)) : Fr := dT 4 ((.ptr 79 0) :: (.ptr 89 0) :: dT 3 ((.ptr 105 0) :: (.ptr 115 0) :: dT 68 ((.hdr 9) :: ((eAsked p0) ++ ((.hdr 15) :: ((eSegment p1) ++ [.hdr 9, (tL p0.xUna), (tL p0.xNext), (tI .u32 v217), (tL p0.xPeer), (tI .u32 v218), (tB p0.xStamps), (tI .u32 p0.xRecent), (tI .u32 p0.xNow), (tB p0.xSacks), .hdr 15, (tL p1.xSrcPort), (tL p1.xDstPort), (tI .u32 v219), (tI .u32 v220), (tL p1.xFlags), (tL p1.xWin), (tL p1.xUrg), (tL p1.xMss), (tL p1.xScale), (tB p1.xSackOk), (tB p1.xStamped), (tI .u32 p1.xVal), (tI .u32 p1.xEcr), .row true (.rBlock v225), .row false (.ruint8 p1.xData)]))))))
theorem l_law22_AckShifts_21_t {R : Type} (cp : Nat → Nat → Bool) (n : Nat) : ∀ (m : Nat) (p0 : SAsked) (p1 : SSegment) (p2 v217 v218 v219 v220 v221 : Int) (v222 : (List SBlock)) (k : Ex → Fr → Option R), loopN2 (X cp n i_law22_AckShifts_7) m (fr_law22_AckShifts_19 p0 p1 p2 v217 v218 v219 v220 v221 v222) k = l_law22_AckShifts_21 cp n m p0 p1 p2 v217 v218 v219 v220 v221 v222 (fun v225 => k (.exit 0) (fr_law22_AckShifts_20 p0 p1 v217 v218 v219 v220 v225))
  | 0, _, _, _, _, _, _, _, _, _, _ => rfl
  | m + 1, p0, p1, p2, v217, v218, v219, v220, v221, v222, k => (loopN2_succ (X cp n i_law22_AckShifts_7) m (fr_law22_AckShifts_19 p0 p1 p2 v217 v218 v219 v220 v221 v222) k).trans ((s_law22_AckShifts_16_t cp n p0 p1 p2 v217 v218 v219 v220 v221 v222 (loopT (X cp n i_law22_AckShifts_7) m k)).trans ((show s_law22_AckShifts_16 cp n p0 p1 p2 v217 v218 v219 v220 v221 v222 (fun v223 v224 => loopT (X cp n i_law22_AckShifts_7) m k .norm (fr_law22_AckShifts_17 p0 p1 p2 v217 v218 v219 v220 v223 v224)) (loopT (X cp n i_law22_AckShifts_7) m k (.exit 0) (fr_law22_AckShifts_18 p0 p1 v217 v218 v219 v220 v222)) = s_law22_AckShifts_16 cp n p0 p1 p2 v217 v218 v219 v220 v221 v222 (fun v223 v224 => loopN2 (X cp n i_law22_AckShifts_7) m (fr_law22_AckShifts_19 p0 p1 p2 v217 v218 v219 v220 v223 v224) k) (k (.exit 0) (fr_law22_AckShifts_20 p0 p1 v217 v218 v219 v220 v222)) from by kernel_rfl).trans (congrArg (fun q => s_law22_AckShifts_16 cp n p0 p1 p2 v217 v218 v219 v220 v221 v222 q (k (.exit 0) (fr_law22_AckShifts_20 p0 p1 v217 v218 v219 v220 v222))) (funext fun v223 => funext fun v224 => l_law22_AckShifts_21_t cp n m p0 p1 p2 v217 v218 v219 v220 v223 v224 k))))
theorem s_law22_AckShifts_22_t {R : Type} (cp : Nat → Nat → Bool) (n : Nat) (p0 : SAsked) (p1 : SSegment) (p2 v217 v218 v219 v220 : Int) (k : Ex → Fr → Option R) : X cp n i_law22_AckShifts_8 (fr_law22_AckShifts_15 p0 p1 p2 v217 v218 v219 v220) k = s_law22_AckShifts_22 cp n p0 p1 p2 v217 v218 v219 v220 (fun v225 => k (.exit 0) (fr_law22_AckShifts_20 p0 p1 v217 v218 v219 v220 v225)) := (show X cp n i_law22_AckShifts_8 (fr_law22_AckShifts_15 p0 p1 p2 v217 v218 v219 v220) k = loopN2 (X cp n i_law22_AckShifts_7) n (fr_law22_AckShifts_19 p0 p1 p2 v217 v218 v219 v220 0 []) k from by kernel_rfl).trans (l_law22_AckShifts_21_t cp n n p0 p1 p2 v217 v218 v219 v220 0 [] k)
def fr_law22_AckShifts_23 (p0 : SAsked) (p1 : SSegment) (v217 v218 v219 v220 : Int) (v226 : (List SBlock)) : Fr := dT 4 ((.ptr 79 0) :: (.ptr 89 0) :: dT 3 ((.ptr 105 0) :: (.ptr 115 0) :: dT 68 ((.hdr 9) :: ((eAsked p0) ++ ((.hdr 15) :: ((eSegment p1) ++ [.hdr 9, (tL p0.xUna), (tL p0.xNext), (tI .u32 v217), (tL p0.xPeer), (tI .u32 v218), (tB p0.xStamps), (tI .u32 p0.xRecent), (tI .u32 p0.xNow), (tB p0.xSacks), .hdr 15, (tL p1.xSrcPort), (tL p1.xDstPort), (tI .u32 v219), (tI .u32 v220), (tL p1.xFlags), (tL p1.xWin), (tL p1.xUrg), (tL p1.xMss), (tL p1.xScale), (tB p1.xSackOk), (tB p1.xStamped), (tI .u32 p1.xVal), (tI .u32 p1.xEcr), .row true (.rBlock v226), .row false (.ruint8 p1.xData)]))))))
theorem s_law22_AckShifts_24_t {R : Type} (cp : Nat → Nat → Bool) (n : Nat) (p0 : SAsked) (p1 : SSegment) (p2 v217 v218 v219 v220 : Int) (k : Ex → Fr → Option R) : X cp n i_law22_AckShifts_9 (fr_law22_AckShifts_15 p0 p1 p2 v217 v218 v219 v220) k = s_law22_AckShifts_24 cp n p0 p1 p2 v217 v218 v219 v220 (fun v226 => k .norm (fr_law22_AckShifts_23 p0 p1 v217 v218 v219 v220 v226)) := (show X cp n i_law22_AckShifts_9 (fr_law22_AckShifts_15 p0 p1 p2 v217 v218 v219 v220) k = X cp n i_law22_AckShifts_8 (fr_law22_AckShifts_15 p0 p1 p2 v217 v218 v219 v220) (blkT 0 k) from by kernel_rfl).trans ((s_law22_AckShifts_22_t cp n p0 p1 p2 v217 v218 v219 v220 (blkT 0 k)).trans (by kernel_rfl))
def fr_law22_AckShifts_25 (p0 : SAsked) (p1 : SSegment) (v217 v218 v219 v220 : Int) (v227 : (List SBlock)) : Fr := dT 4 ((.ptr 79 0) :: (.ptr 89 0) :: dT 3 ((.ptr 105 0) :: (.ptr 115 0) :: dT 68 ((.hdr 9) :: ((eAsked p0) ++ ((.hdr 15) :: ((eSegment p1) ++ [.hdr 9, (tL p0.xUna), (tL p0.xNext), (tI .u32 v217), (tL p0.xPeer), (tI .u32 v218), (tB p0.xStamps), (tI .u32 p0.xRecent), (tI .u32 p0.xNow), (tB p0.xSacks), .hdr 15, (tL p1.xSrcPort), (tL p1.xDstPort), (tI .u32 v219), (tI .u32 v220), (tL p1.xFlags), (tL p1.xWin), (tL p1.xUrg), (tL p1.xMss), (tL p1.xScale), (tB p1.xSackOk), (tB p1.xStamped), (tI .u32 p1.xVal), (tI .u32 p1.xEcr), .row true (.rBlock v227), .row false (.ruint8 p1.xData)]))))))
theorem s_law22_AckShifts_26_t {R : Type} (cp : Nat → Nat → Bool) (n : Nat) (p0 : SAsked) (p1 : SSegment) (p2 v217 v218 v219 v220 : Int) (k : Ex → Fr → Option R) : X cp n i_law22_AckShifts_10 (fr_law22_AckShifts_13 p0 p1 p2 v217 v218 v219 v220) k = s_law22_AckShifts_26 cp n p0 p1 p2 v217 v218 v219 v220 (fun v227 => k .norm (fr_law22_AckShifts_25 p0 p1 v217 v218 v219 v220 v227)) := (show X cp n i_law22_AckShifts_10 (fr_law22_AckShifts_13 p0 p1 p2 v217 v218 v219 v220) k = X cp n i_law22_AckShifts_6 (fr_law22_AckShifts_13 p0 p1 p2 v217 v218 v219 v220) (seqT (X cp n) i_law22_AckShifts_9 k) from by kernel_rfl).trans ((show X cp n i_law22_AckShifts_6 (fr_law22_AckShifts_13 p0 p1 p2 v217 v218 v219 v220) (seqT (X cp n) i_law22_AckShifts_9 k) = s_law22_AckShifts_14 cp n p0 p1 p2 v217 v218 v219 v220 (X cp n i_law22_AckShifts_9 (fr_law22_AckShifts_15 p0 p1 p2 v217 v218 v219 v220) k) from (s_law22_AckShifts_14_t cp n p0 p1 p2 v217 v218 v219 v220 (seqT (X cp n) i_law22_AckShifts_9 k)).trans (by kernel_rfl)).trans (congrArg (fun q => s_law22_AckShifts_14 cp n p0 p1 p2 v217 v218 v219 v220 q) ((s_law22_AckShifts_24_t cp n p0 p1 p2 v217 v218 v219 v220 k).trans (show s_law22_AckShifts_24 cp n p0 p1 p2 v217 v218 v219 v220 (fun v226 => k .norm (fr_law22_AckShifts_23 p0 p1 v217 v218 v219 v220 v226)) = s_law22_AckShifts_24 cp n p0 p1 p2 v217 v218 v219 v220 (fun v226 => k .norm (fr_law22_AckShifts_25 p0 p1 v217 v218 v219 v220 v226)) from by kernel_rfl))))
def fr_law22_AckShifts_28 (v232 : Bool) : Fr := dT 8 ((tB v232) :: dT 122 [])
theorem s_law22_AckShifts_27_t {R : Type} (cp : Nat → Nat → Bool) (n : Nat) (p0 : SAsked) (p1 : SSegment) (v217 v218 v219 v220 : Int) (v227 : (List SBlock)) (k : Ex → Fr → Option R) : X cp n i_law22_AckShifts_11 (fr_law22_AckShifts_25 p0 p1 v217 v218 v219 v220 v227) k = s_law22_AckShifts_27 cp n p0 p1 v217 v218 v219 v220 v227 (fun v232 => k .ret (fr_law22_AckShifts_28 v232)) := by kernel_rfl
def fr_law22_AckShifts_29 (v233 : Bool) : Fr := dT 8 ((tB v233) :: dT 122 [])
theorem s_law22_AckShifts_30_t {R : Type} (cp : Nat → Nat → Bool) (n : Nat) (p0 : SAsked) (p1 : SSegment) (p2 v217 v218 v219 v220 : Int) (k : Ex → Fr → Option R) : X cp n i_law22_AckShifts_12 (fr_law22_AckShifts_13 p0 p1 p2 v217 v218 v219 v220) k = s_law22_AckShifts_30 cp n p0 p1 p2 v217 v218 v219 v220 (fun v233 => k .ret (fr_law22_AckShifts_29 v233)) := (show X cp n i_law22_AckShifts_12 (fr_law22_AckShifts_13 p0 p1 p2 v217 v218 v219 v220) k = X cp n i_law22_AckShifts_10 (fr_law22_AckShifts_13 p0 p1 p2 v217 v218 v219 v220) (seqT (X cp n) i_law22_AckShifts_11 k) from by kernel_rfl).trans ((show X cp n i_law22_AckShifts_10 (fr_law22_AckShifts_13 p0 p1 p2 v217 v218 v219 v220) (seqT (X cp n) i_law22_AckShifts_11 k) = s_law22_AckShifts_26 cp n p0 p1 p2 v217 v218 v219 v220 (fun v227 => X cp n i_law22_AckShifts_11 (fr_law22_AckShifts_25 p0 p1 v217 v218 v219 v220 v227) k) from (s_law22_AckShifts_26_t cp n p0 p1 p2 v217 v218 v219 v220 (seqT (X cp n) i_law22_AckShifts_11 k)).trans (by kernel_rfl)).trans (congrArg (fun q => s_law22_AckShifts_26 cp n p0 p1 p2 v217 v218 v219 v220 q) (funext fun v227 => (s_law22_AckShifts_27_t cp n p0 p1 v217 v218 v219 v220 v227 k).trans (show s_law22_AckShifts_27 cp n p0 p1 v217 v218 v219 v220 v227 (fun v232 => k .ret (fr_law22_AckShifts_28 v232)) = s_law22_AckShifts_27 cp n p0 p1 v217 v218 v219 v220 v227 (fun v232 => k .ret (fr_law22_AckShifts_29 v232)) from by kernel_rfl))))
def fr_law22_AckShifts_31 (v234 : Bool) : Fr := dT 8 ((tB v234) :: dT 122 [])
theorem s_law22_AckShifts_32_t {R : Type} (cp : Nat → Nat → Bool) (n : Nat) (p0 : SAsked) (p1 : SSegment) (p2 v217 v218 v219 v220 : Int) (k : Ex → Fr → Option R) : X cp n i_law22_AckShifts_13 (fr_law22_AckShifts_11 p0 p1 p2 v217 v218 v219 v220) k = s_law22_AckShifts_32 cp n p0 p1 p2 v217 v218 v219 v220 (fun v234 => k .ret (fr_law22_AckShifts_31 v234)) := (show X cp n i_law22_AckShifts_13 (fr_law22_AckShifts_11 p0 p1 p2 v217 v218 v219 v220) k = X cp n i_law22_AckShifts_5 (fr_law22_AckShifts_11 p0 p1 p2 v217 v218 v219 v220) (seqT (X cp n) i_law22_AckShifts_12 k) from by kernel_rfl).trans ((show X cp n i_law22_AckShifts_5 (fr_law22_AckShifts_11 p0 p1 p2 v217 v218 v219 v220) (seqT (X cp n) i_law22_AckShifts_12 k) = s_law22_AckShifts_12 cp n p0 p1 p2 v217 v218 v219 v220 (X cp n i_law22_AckShifts_12 (fr_law22_AckShifts_13 p0 p1 p2 v217 v218 v219 v220) k) from (s_law22_AckShifts_12_t cp n p0 p1 p2 v217 v218 v219 v220 (seqT (X cp n) i_law22_AckShifts_12 k)).trans (by kernel_rfl)).trans (congrArg (fun q => s_law22_AckShifts_12 cp n p0 p1 p2 v217 v218 v219 v220 q) ((s_law22_AckShifts_30_t cp n p0 p1 p2 v217 v218 v219 v220 k).trans (show s_law22_AckShifts_30 cp n p0 p1 p2 v217 v218 v219 v220 (fun v233 => k .ret (fr_law22_AckShifts_29 v233)) = s_law22_AckShifts_30 cp n p0 p1 p2 v217 v218 v219 v220 (fun v233 => k .ret (fr_law22_AckShifts_31 v233)) from by kernel_rfl))))
def fr_law22_AckShifts_33 (v235 : Bool) : Fr := dT 8 ((tB v235) :: dT 122 [])
theorem s_law22_AckShifts_34_t {R : Type} (cp : Nat → Nat → Bool) (n : Nat) (p0 : SAsked) (p1 : SSegment) (p2 p3 v217 v218 : Int) (k : Ex → Fr → Option R) : X cp n i_law22_AckShifts_14 (fr_law22_AckShifts_9 p0 p1 p2 p3 v217 v218) k = s_law22_AckShifts_34 cp n p0 p1 p2 p3 v217 v218 (fun v235 => k .ret (fr_law22_AckShifts_33 v235)) := (show X cp n i_law22_AckShifts_14 (fr_law22_AckShifts_9 p0 p1 p2 p3 v217 v218) k = X cp n i_law22_AckShifts_4 (fr_law22_AckShifts_9 p0 p1 p2 p3 v217 v218) (seqT (X cp n) i_law22_AckShifts_13 k) from by kernel_rfl).trans ((show X cp n i_law22_AckShifts_4 (fr_law22_AckShifts_9 p0 p1 p2 p3 v217 v218) (seqT (X cp n) i_law22_AckShifts_13 k) = s_law22_AckShifts_10 cp n p0 p1 p2 p3 v217 v218 (fun v219 v220 => X cp n i_law22_AckShifts_13 (fr_law22_AckShifts_11 p0 p1 p2 v217 v218 v219 v220) k) from (s_law22_AckShifts_10_t cp n p0 p1 p2 p3 v217 v218 (seqT (X cp n) i_law22_AckShifts_13 k)).trans (by kernel_rfl)).trans (congrArg (fun q => s_law22_AckShifts_10 cp n p0 p1 p2 p3 v217 v218 q) (funext fun v219 => funext fun v220 => (s_law22_AckShifts_32_t cp n p0 p1 p2 v217 v218 v219 v220 k).trans (show s_law22_AckShifts_32 cp n p0 p1 p2 v217 v218 v219 v220 (fun v234 => k .ret (fr_law22_AckShifts_31 v234)) = s_law22_AckShifts_32 cp n p0 p1 p2 v217 v218 v219 v220 (fun v234 => k .ret (fr_law22_AckShifts_33 v234)) from by kernel_rfl))))
def fr_law22_AckShifts_35 (v236 : Bool) : Fr := dT 8 ((tB v236) :: dT 122 [])
theorem s_law22_AckShifts_36_t {R : Type} (cp : Nat → Nat → Bool) (n : Nat) (p0 : SAsked) (p1 : SSegment) (p2 p3 : Int) (k : Ex → Fr → Option R) : X cp n i_law22_AckShifts_15 (fr_law22_AckShifts_7 p0 p1 p2 p3) k = s_law22_AckShifts_36 cp n p0 p1 p2 p3 (fun v236 => k .ret (fr_law22_AckShifts_35 v236)) := (show X cp n i_law22_AckShifts_15 (fr_law22_AckShifts_7 p0 p1 p2 p3) k = X cp n i_law22_AckShifts_3 (fr_law22_AckShifts_7 p0 p1 p2 p3) (seqT (X cp n) i_law22_AckShifts_14 k) from by kernel_rfl).trans ((show X cp n i_law22_AckShifts_3 (fr_law22_AckShifts_7 p0 p1 p2 p3) (seqT (X cp n) i_law22_AckShifts_14 k) = s_law22_AckShifts_8 cp n p0 p1 p2 p3 (fun v217 v218 => X cp n i_law22_AckShifts_14 (fr_law22_AckShifts_9 p0 p1 p2 p3 v217 v218) k) from (s_law22_AckShifts_8_t cp n p0 p1 p2 p3 (seqT (X cp n) i_law22_AckShifts_14 k)).trans (by kernel_rfl)).trans (congrArg (fun q => s_law22_AckShifts_8 cp n p0 p1 p2 p3 q) (funext fun v217 => funext fun v218 => (s_law22_AckShifts_34_t cp n p0 p1 p2 p3 v217 v218 k).trans (show s_law22_AckShifts_34 cp n p0 p1 p2 p3 v217 v218 (fun v235 => k .ret (fr_law22_AckShifts_33 v235)) = s_law22_AckShifts_34 cp n p0 p1 p2 p3 v217 v218 (fun v235 => k .ret (fr_law22_AckShifts_35 v235)) from by kernel_rfl))))
def fr_law22_AckShifts_37 (v237 : Bool) : Fr := dT 8 ((tB v237) :: dT 122 [])
theorem s_law22_AckShifts_38_t {R : Type} (cp : Nat → Nat → Bool) (n : Nat) (p0 : SAsked) (p1 : SSegment) (p2 p3 : Int) (k : Ex → Fr → Option R) : X cp n i_law22_AckShifts_16 (fr_law22_AckShifts_2 p0 p1 p2 p3) k = s_law22_AckShifts_38 cp n p0 p1 p2 p3 (fun v237 => k .ret (fr_law22_AckShifts_37 v237)) := (show X cp n i_law22_AckShifts_16 (fr_law22_AckShifts_2 p0 p1 p2 p3) k = X cp n i_law22_AckShifts_2 (fr_law22_AckShifts_2 p0 p1 p2 p3) (seqT (X cp n) i_law22_AckShifts_15 k) from by kernel_rfl).trans ((show X cp n i_law22_AckShifts_2 (fr_law22_AckShifts_2 p0 p1 p2 p3) (seqT (X cp n) i_law22_AckShifts_15 k) = s_law22_AckShifts_6 cp n p0 p1 p2 p3 (X cp n i_law22_AckShifts_15 (fr_law22_AckShifts_7 p0 p1 p2 p3) k) from (s_law22_AckShifts_6_t cp n p0 p1 p2 p3 (seqT (X cp n) i_law22_AckShifts_15 k)).trans (by kernel_rfl)).trans (congrArg (fun q => s_law22_AckShifts_6 cp n p0 p1 p2 p3 q) ((s_law22_AckShifts_36_t cp n p0 p1 p2 p3 k).trans (show s_law22_AckShifts_36 cp n p0 p1 p2 p3 (fun v236 => k .ret (fr_law22_AckShifts_35 v236)) = s_law22_AckShifts_36 cp n p0 p1 p2 p3 (fun v236 => k .ret (fr_law22_AckShifts_37 v236)) from by kernel_rfl))))
def fr_law22_AckShifts_39 (v238 : Bool) : Fr := dT 8 ((tB v238) :: dT 122 [])
theorem s_law22_AckShifts_40_t {R : Type} (cp : Nat → Nat → Bool) (n : Nat) (p0 : SAsked) (p1 : SSegment) (p2 p3 : Int) (k : Ex → Fr → Option R) : X cp n i_law22_AckShifts_17 (fr_law22_AckShifts_2 p0 p1 p2 p3) k = s_law22_AckShifts_40 cp n p0 p1 p2 p3 (fun v238 => k .ret (fr_law22_AckShifts_39 v238)) := (show X cp n i_law22_AckShifts_17 (fr_law22_AckShifts_2 p0 p1 p2 p3) k = X cp n i_law22_AckShifts_1 (fr_law22_AckShifts_2 p0 p1 p2 p3) (seqT (X cp n) i_law22_AckShifts_16 k) from by kernel_rfl).trans ((show X cp n i_law22_AckShifts_1 (fr_law22_AckShifts_2 p0 p1 p2 p3) (seqT (X cp n) i_law22_AckShifts_16 k) = s_law22_AckShifts_4 cp n p0 p1 p2 p3 (X cp n i_law22_AckShifts_16 (fr_law22_AckShifts_2 p0 p1 p2 p3) k) (fun v216 => k .ret (fr_law22_AckShifts_39 v216)) from (s_law22_AckShifts_4_t cp n p0 p1 p2 p3 (seqT (X cp n) i_law22_AckShifts_16 k)).trans (by kernel_rfl)).trans (congrArg (fun q => s_law22_AckShifts_4 cp n p0 p1 p2 p3 q (fun v216 => k .ret (fr_law22_AckShifts_39 v216))) ((s_law22_AckShifts_38_t cp n p0 p1 p2 p3 k).trans (show s_law22_AckShifts_38 cp n p0 p1 p2 p3 (fun v237 => k .ret (fr_law22_AckShifts_37 v237)) = s_law22_AckShifts_38 cp n p0 p1 p2 p3 (fun v237 => k .ret (fr_law22_AckShifts_39 v237)) from by kernel_rfl))))
def fr_law22_AckShifts_41 (v239 : Bool) : Fr := dT 8 ((tB v239) :: dT 122 [])
theorem s_law22_AckShifts_42_t {R : Type} (cp : Nat → Nat → Bool) (n : Nat) (p0 : SAsked) (p1 : SSegment) (p2 p3 : Int) (k : Ex → Fr → Option R) : X cp n i_law22_AckShifts_18 (fr_law22_AckShifts_3 p0 p1 p2 p3) k = s_law22_AckShifts_42 cp n p0 p1 p2 p3 (fun v239 => k .ret (fr_law22_AckShifts_41 v239)) := (show X cp n i_law22_AckShifts_18 (fr_law22_AckShifts_3 p0 p1 p2 p3) k = X cp n i_law22_AckShifts_0 (fr_law22_AckShifts_3 p0 p1 p2 p3) (seqT (X cp n) i_law22_AckShifts_17 k) from by kernel_rfl).trans ((show X cp n i_law22_AckShifts_0 (fr_law22_AckShifts_3 p0 p1 p2 p3) (seqT (X cp n) i_law22_AckShifts_17 k) = s_law22_AckShifts_1 cp n p0 p1 p2 p3 (X cp n i_law22_AckShifts_17 (fr_law22_AckShifts_2 p0 p1 p2 p3) k) from (s_law22_AckShifts_1_t cp n p0 p1 p2 p3 (seqT (X cp n) i_law22_AckShifts_17 k)).trans (by kernel_rfl)).trans (congrArg (fun q => s_law22_AckShifts_1 cp n p0 p1 p2 p3 q) ((s_law22_AckShifts_40_t cp n p0 p1 p2 p3 k).trans (show s_law22_AckShifts_40 cp n p0 p1 p2 p3 (fun v238 => k .ret (fr_law22_AckShifts_39 v238)) = s_law22_AckShifts_40 cp n p0 p1 p2 p3 (fun v238 => k .ret (fr_law22_AckShifts_41 v238)) from by kernel_rfl))))
theorem run_law22_AckShifts {R : Type} (cp : Nat → Nat → Bool) (n : Nat) (p0 : SAsked) (p1 : SSegment) (p2 p3 : Int) (k : Ret2 RW → Option R) : G_law22_AckShifts cp (n + 1) p0 p1 p2 p3 (fun r0 => k ⟨(tB r0), []⟩) = run2 U cp (callP cp n) n fn_law22_AckShifts [.agg (eAsked p0), .agg (eSegment p1), (tI .u32 p2), (tI .u32 p3)] [] k := ((show run2 U cp (callP cp n) n fn_law22_AckShifts [.agg (eAsked p0), .agg (eSegment p1), (tI .u32 p2), (tI .u32 p3)] [] k = X cp n i_law22_AckShifts_18 (fr_law22_AckShifts_3 p0 p1 p2 p3) (finK2 fn_law22_AckShifts k) from by kernel_rfl).trans ((s_law22_AckShifts_42_t cp n p0 p1 p2 p3 (finK2 fn_law22_AckShifts k)).trans (by kernel_rfl))).symm
def tbl : Nat → Option IFn
  | 11 => some (fn_seq_Diff.lo U)
  | 19 => some (fn_seq_Sum.lo U)
  | 14 => some (fn_seq_Unwrap.lo U)
  | 10 => some (fn_ack_counts.lo U)
  | 1007 => some (fn_ack_Weigh_1.lo U)
  | 1006 => some (fn_ack_offsets.lo U)
  | 15 => some (fn_ack_twice.lo U)
  | 18 => some (fn_span_may.lo U)
  | 9 => some (fn_span_Check.lo U)
  | 20 => some (fn_span_right.lo U)
  | 21 => some fn_slices_Clone_Span
  | 16 => some (fn_span_Add.lo U)
  | 6 => some (fn_ack_Weigh.lo U)
  | 8 => some (fn_law22_heads.lo U)
  | 4 => some (fn_law22_AckWithin.lo U)
  | 17 => some (fn_ref06_Same.lo U)
  | 7 => some (fn_ref22_Same.lo U)
  | 3 => some (fn_law22_AckPlain.lo U)
  | 5 => some (fn_law22_AckShifts.lo U)
  | _ => none
theorem chk_seq_Diff : chkFn Try.prog tbl (fn_seq_Diff.lo U) = true := by kernel_rfl
theorem chk_seq_Sum : chkFn Try.prog tbl (fn_seq_Sum.lo U) = true := by kernel_rfl
theorem chk_seq_Unwrap : chkFn Try.prog tbl (fn_seq_Unwrap.lo U) = true := by kernel_rfl
theorem chk_ack_counts : chkFn Try.prog tbl (fn_ack_counts.lo U) = true := by kernel_rfl
theorem chk_ack_Weigh_1 : chkFn Try.prog tbl (fn_ack_Weigh_1.lo U) = true := by kernel_rfl
theorem chk_ack_offsets : chkFn Try.prog tbl (fn_ack_offsets.lo U) = true := by kernel_rfl
theorem chk_ack_twice : chkFn Try.prog tbl (fn_ack_twice.lo U) = true := by kernel_rfl
theorem chk_span_may : chkFn Try.prog tbl (fn_span_may.lo U) = true := by kernel_rfl
theorem chk_span_Check : chkFn Try.prog tbl (fn_span_Check.lo U) = true := by kernel_rfl
theorem chk_span_right : chkFn Try.prog tbl (fn_span_right.lo U) = true := by kernel_rfl
theorem chk_slices_Clone_Span : chkFn Try.prog tbl fn_slices_Clone_Span = true := by kernel_rfl
theorem chk_span_Add : chkFn Try.prog tbl (fn_span_Add.lo U) = true := by kernel_rfl
theorem chk_ack_Weigh : chkFn Try.prog tbl (fn_ack_Weigh.lo U) = true := by kernel_rfl
theorem chk_law22_heads : chkFn Try.prog tbl (fn_law22_heads.lo U) = true := by kernel_rfl
theorem chk_law22_AckWithin : chkFn Try.prog tbl (fn_law22_AckWithin.lo U) = true := by kernel_rfl
theorem chk_ref06_Same : chkFn Try.prog tbl (fn_ref06_Same.lo U) = true := by kernel_rfl
theorem chk_ref22_Same : chkFn Try.prog tbl (fn_ref22_Same.lo U) = true := by kernel_rfl
theorem chk_law22_AckPlain : chkFn Try.prog tbl (fn_law22_AckPlain.lo U) = true := by kernel_rfl
theorem chk_law22_AckShifts : chkFn Try.prog tbl (fn_law22_AckShifts.lo U) = true := by kernel_rfl
theorem chkAll : ∀ (id : Nat) (f : IFn), tbl id = some f → chkFn Try.prog tbl f = true := by
  intro id f h
  unfold tbl at h
  split at h
  · cases h; exact chk_seq_Diff
  · cases h; exact chk_seq_Sum
  · cases h; exact chk_seq_Unwrap
  · cases h; exact chk_ack_counts
  · cases h; exact chk_ack_Weigh_1
  · cases h; exact chk_ack_offsets
  · cases h; exact chk_ack_twice
  · cases h; exact chk_span_may
  · cases h; exact chk_span_Check
  · cases h; exact chk_span_right
  · cases h; exact chk_slices_Clone_Span
  · cases h; exact chk_span_Add
  · cases h; exact chk_ack_Weigh
  · cases h; exact chk_law22_heads
  · cases h; exact chk_law22_AckWithin
  · cases h; exact chk_ref06_Same
  · cases h; exact chk_ref22_Same
  · cases h; exact chk_law22_AckPlain
  · cases h; exact chk_law22_AckShifts
  · cases h
theorem clone_slices_Clone_Span (n : Nat) (xs : (List SSpan)) (hc : capB (0 + xs.length) 16 = true) : runF tbl (n + 1) 21 [.row false 2 xs.length (rg cSpan zSpan xs)] [] = some ⟨.row true 2 xs.length (rg cSpan zSpan xs), [], []⟩ :=
  clone_fin (F := fun m g => runF tbl (n + 1) 21 [.row false 2 m g] []) (fun g => show runF tbl (n + 1) 21 [.row false 2 0 g] [] = both (some ⟨.row true 2 0 (fun _ => [.sc (.int .i64 0), .sc (.int .i64 0)]), [], []⟩) (cond (capB (0 + 0) 16) (some ⟨.row true 2 (0 + 0) (appGet 0 0 (litGet 2 0 [.sc (.int .i64 0), .sc (.int .i64 0)] []) g), [], []⟩) none) from by kernel_rfl) (fun m g => show runF tbl (n + 1) 21 [.row false 2 (m + 1) g] [] = (cond (capB (0 + (m + 1)) 16) (some ⟨.row true 2 (0 + (m + 1)) (appGet 0 (m + 1) (litGet 2 0 [.sc (.int .i64 0), .sc (.int .i64 0)] []) g), [], []⟩) none) from by kernel_rfl) (show cSpan zSpan = [.sc (.int .i64 0), .sc (.int .i64 0)] from by kernel_rfl) xs hc
theorem dI_ok {kd : IntKind} {y : TV RW} {a : Int} (h : dI kd y = some a) : y = .sc (.int kd a) := by
  unfold dI at h
  split at h
  · obtain ⟨h1, h2⟩ := cond_some h
    cases h2
    rw [of_decide_eq_true h1]
  · cases h
theorem dB_ok {y : TV RW} {a : Bool} (h : dB y = some a) : y = .sc (.bool a) := by
  unfold dB at h
  split at h <;> cases h
  rfl
theorem dS_ok {y : TV RW} {a : ByteArray} (h : dS y = some a) : y = .sc (.string a) := by
  unfold dS at h
  split at h <;> cases h
  rfl
theorem dA_ok {y : TV RW} {a : Fr} (h : dA y = some a) : y = .agg a := by
  unfold dA at h
  split at h <;> cases h
  rfl
theorem dOne_ok {y : Fr} {a : TV RW} (h : dOne y = some a) : y = [a] := by
  unfold dOne at h
  split at h <;> cases h
  rfl
theorem dP_ok {a b : Nat} {y : TV RW} {u : Unit} (h : dP a b y = some u) : y = .ptr a b := by
  unfold dP at h
  split at h
  · obtain ⟨h1, h2⟩ := cond_some h
    simp only [Bool.and_eq_true] at h1
    rw [nbeq h1.1, nbeq h1.2]
  · cases h
theorem dC_ok {a : Nat} {b : List (Nat × Nat)} {y : TV RW} {u : Unit} (h : dC a b y = some u) : y = .clo a b := by
  unfold dC at h
  split at h
  · obtain ⟨h1, h2⟩ := cond_some h
    simp only [Bool.and_eq_true] at h1
    rw [nbeq h1.1, of_decide_eq_true h1.2]
  · cases h
theorem dRBlock_ok {fl : Bool} {y : TV RW} {a : List SBlock} (h : dRBlock fl y = some a) : y = .row fl (.rBlock a) := by
  unfold dRBlock at h
  split at h
  · obtain ⟨h1, h2⟩ := cond_some h
    cases h2
    rw [eq_of_beq h1]
  · cases h
theorem dRuint8_ok {fl : Bool} {y : TV RW} {a : List Int} (h : dRuint8 fl y = some a) : y = .row fl (.ruint8 a) := by
  unfold dRuint8 at h
  split at h
  · obtain ⟨h1, h2⟩ := cond_some h
    cases h2
    rw [eq_of_beq h1]
  · cases h
theorem dRSpan_ok {fl : Bool} {y : TV RW} {a : List SSpan} (h : dRSpan fl y = some a) : y = .row fl (.rSpan a) := by
  unfold dRSpan at h
  split at h
  · obtain ⟨h1, h2⟩ := cond_some h
    cases h2
    rw [eq_of_beq h1]
  · cases h
theorem dAsked_ok {L : Fr} {a : SAsked} (h : dAsked L = some a) : L = eAsked a := by
  unfold dAsked at h
  split at h
  · simp only [Option.bind_eq_some_iff] at h
    obtain ⟨a0, h0, a1, h1, a2, h2, a3, h3, a4, h4, a5, h5, a6, h6, a7, h7, a8, h8, h⟩ := h
    cases h
    obtain rfl := dI_ok h0
    obtain rfl := dI_ok h1
    obtain rfl := dI_ok h2
    obtain rfl := dI_ok h3
    obtain rfl := dI_ok h4
    obtain rfl := dB_ok h5
    obtain rfl := dI_ok h6
    obtain rfl := dI_ok h7
    obtain rfl := dB_ok h8
    rfl
  · cases h
theorem dSegment_ok {L : Fr} {a : SSegment} (h : dSegment L = some a) : L = eSegment a := by
  unfold dSegment at h
  split at h
  · simp only [Option.bind_eq_some_iff] at h
    obtain ⟨a0, h0, a1, h1, a2, h2, a3, h3, a4, h4, a5, h5, a6, h6, a7, h7, a8, h8, a9, h9, a10, h10, a11, h11, a12, h12, a13, h13, a14, h14, h⟩ := h
    cases h
    obtain rfl := dI_ok h0
    obtain rfl := dI_ok h1
    obtain rfl := dI_ok h2
    obtain rfl := dI_ok h3
    obtain rfl := dI_ok h4
    obtain rfl := dI_ok h5
    obtain rfl := dI_ok h6
    obtain rfl := dI_ok h7
    obtain rfl := dI_ok h8
    obtain rfl := dB_ok h9
    obtain rfl := dB_ok h10
    obtain rfl := dI_ok h11
    obtain rfl := dI_ok h12
    obtain rfl := dRBlock_ok h13
    obtain rfl := dRuint8_ok h14
    rfl
  · cases h
theorem dSegmentt_ok {L : Fr} {a : SSegment} (h : dSegmentt L = some a) : L = eSegmentt a := by
  unfold dSegmentt at h
  split at h
  · simp only [Option.bind_eq_some_iff] at h
    obtain ⟨a0, h0, a1, h1, a2, h2, a3, h3, a4, h4, a5, h5, a6, h6, a7, h7, a8, h8, a9, h9, a10, h10, a11, h11, a12, h12, a13, h13, a14, h14, h⟩ := h
    cases h
    obtain rfl := dI_ok h0
    obtain rfl := dI_ok h1
    obtain rfl := dI_ok h2
    obtain rfl := dI_ok h3
    obtain rfl := dI_ok h4
    obtain rfl := dI_ok h5
    obtain rfl := dI_ok h6
    obtain rfl := dI_ok h7
    obtain rfl := dI_ok h8
    obtain rfl := dB_ok h9
    obtain rfl := dB_ok h10
    obtain rfl := dI_ok h11
    obtain rfl := dI_ok h12
    obtain rfl := dRBlock_ok h13
    obtain rfl := dRuint8_ok h14
    rfl
  · cases h
theorem dBlock_ok {L : Fr} {a : SBlock} (h : dBlock L = some a) : L = eBlock a := by
  unfold dBlock at h
  split at h
  · simp only [Option.bind_eq_some_iff] at h
    obtain ⟨a0, h0, a1, h1, h⟩ := h
    cases h
    obtain rfl := dI_ok h0
    obtain rfl := dI_ok h1
    rfl
  · cases h
theorem dHeard_ok {L : Fr} {a : SHeard} (h : dHeard L = some a) : L = eHeard a := by
  unfold dHeard at h
  split at h
  · simp only [Option.bind_eq_some_iff] at h
    obtain ⟨a0, h0, a1, h1, a2, h2, a3, h3, a4, h4, a5, h5, a6, h6, a7, h7, a8, h8, h⟩ := h
    cases h
    obtain rfl := dB_ok h0
    obtain rfl := dI_ok h1
    obtain rfl := dB_ok h2
    obtain rfl := dI_ok h3
    obtain rfl := dI_ok h4
    obtain rfl := dI_ok h5
    obtain rfl := dI_ok h6
    obtain rfl := dB_ok h7
    obtain rfl := dRSpan_ok h8
    rfl
  · cases h
theorem dHeardt_ok {L : Fr} {a : SHeard} (h : dHeardt L = some a) : L = eHeardt a := by
  unfold dHeardt at h
  split at h
  · simp only [Option.bind_eq_some_iff] at h
    obtain ⟨a0, h0, a1, h1, a2, h2, a3, h3, a4, h4, a5, h5, a6, h6, a7, h7, a8, h8, h⟩ := h
    cases h
    obtain rfl := dB_ok h0
    obtain rfl := dI_ok h1
    obtain rfl := dB_ok h2
    obtain rfl := dI_ok h3
    obtain rfl := dI_ok h4
    obtain rfl := dI_ok h5
    obtain rfl := dI_ok h6
    obtain rfl := dB_ok h7
    obtain rfl := dRSpan_ok h8
    rfl
  · cases h
theorem dSpan_ok {L : Fr} {a : SSpan} (h : dSpan L = some a) : L = eSpan a := by
  unfold dSpan at h
  split at h
  · simp only [Option.bind_eq_some_iff] at h
    obtain ⟨a0, h0, a1, h1, h⟩ := h
    cases h
    obtain rfl := dI_ok h0
    obtain rfl := dI_ok h1
    rfl
  · cases h
theorem pBlock_ok : ∀ {L : Fr} {xs : List SBlock}, pBlock_ L = some xs → TV.los U L = (xs.map cBlock).flatten
  | [], xs, h => by cases h; rfl
  | [_], xs, h => by cases h
  | y0 :: y1 :: r, xs, h => by
    simp only [pBlock_, Option.bind_eq_some_iff] at h
    obtain ⟨a0, h0, a1, h1, xs', h', h⟩ := h
    cases h
    have ih := pBlock_ok h'
    obtain rfl := dI_ok h0
    obtain rfl := dI_ok h1
    show _ :: _ :: TV.los U r = _
    rw [ih]; rfl
theorem puint8_ok : ∀ {L : Fr} {xs : List Int}, puint8_ L = some xs → TV.los U L = (xs.map cuint8).flatten
  | [], xs, h => by cases h; rfl
  | y0 :: r, xs, h => by
    simp only [puint8_, Option.bind_eq_some_iff] at h
    obtain ⟨a0, h0, xs', h', h⟩ := h
    cases h
    have ih := puint8_ok h'
    obtain rfl := dI_ok h0
    show _ :: TV.los U r = _
    rw [ih]; rfl
theorem pSpan_ok : ∀ {L : Fr} {xs : List SSpan}, pSpan_ L = some xs → TV.los U L = (xs.map cSpan).flatten
  | [], xs, h => by cases h; rfl
  | [_], xs, h => by cases h
  | y0 :: y1 :: r, xs, h => by
    simp only [pSpan_, Option.bind_eq_some_iff] at h
    obtain ⟨a0, h0, a1, h1, xs', h', h⟩ := h
    cases h
    have ih := pSpan_ok h'
    obtain rfl := dI_ok h0
    obtain rfl := dI_ok h1
    show _ :: _ :: TV.los U r = _
    rw [ih]; rfl
theorem UOk : UniOk U where
  get := fun r i => match r with
    | .rBlock xs => by kernel_rfl
    | .ruint8 xs => by kernel_rfl
    | .rSpan xs => by kernel_rfl
  app := fun r q x h => by cases r <;> cases q <;> first | (cases h; done) | (cases h; exact ⟨rfl, rfl, List.length_append, (rg_app (c := cBlock) (z := zBlock)).symm⟩) | (cases h; exact ⟨rfl, rfl, List.length_append, (rg_app (c := cuint8) (z := zuint8)).symm⟩) | (cases h; exact ⟨rfl, rfl, List.length_append, (rg_app (c := cSpan) (z := zSpan)).symm⟩)
  sub := fun lo n r h => by cases r <;> first | exact ⟨rfl, sub_len h, (rg_sub (c := cBlock) (z := zBlock) h).symm⟩ | exact ⟨rfl, sub_len h, (rg_sub (c := cuint8) (z := zuint8) h).symm⟩ | exact ⟨rfl, sub_len h, (rg_sub (c := cSpan) (z := zSpan) h).symm⟩
  lit := fun t n L r h => by
    unfold U at h
    dsimp only at h
    split at h
    · obtain ⟨xs, h1, rfl, rfl⟩ := bind_lit h
      have e := pBlock_ok h1
      exact ⟨rfl, rfl, by rw [e]; exact (rg_lit (c := cBlock) (sz := 2) (z := zBlock) (fun _ => rfl)).symm, by rw [e]; exact all_flat (fun _ => rfl) xs⟩
    · obtain ⟨xs, h1, rfl, rfl⟩ := bind_lit h
      have e := puint8_ok h1
      exact ⟨rfl, rfl, by rw [e]; exact (rg_lit (c := cuint8) (sz := 1) (z := zuint8) (fun _ => rfl)).symm, by rw [e]; exact all_flat (fun _ => rfl) xs⟩
    · obtain ⟨xs, h1, rfl, rfl⟩ := bind_lit h
      have e := pSpan_ok h1
      exact ⟨rfl, rfl, by rw [e]; exact (rg_lit (c := cSpan) (sz := 2) (z := zSpan) (fun _ => rfl)).symm, by rw [e]; exact all_flat (fun _ => rfl) xs⟩
    · cases h
theorem ok_seq_Diff {R : Type} {r : R} : ∀ {n : Nat}, (∀ m, n = m + 1 → CallOk2 (R := R) U (callP capB m) (runF tbl m)) → ∀ {av : Fr} {cs : List Fr} {k : Ret2 RW → Option R}, ca_seq_Diff capB n av cs k = some r → ∃ q : Ret2 RW, runF tbl n 11 (TV.los U av) (cs.map (TV.los U)) = some (q.lo U) ∧ k q = some r := by
  intro n ih av cs k h
  unfold ca_seq_Diff at h
  split at h
  · simp only [Option.bind_eq_some_iff] at h
    obtain ⟨p0, h0, p1, h1, h⟩ := h
    obtain rfl := dI_ok h0
    obtain rfl := dI_ok h1
    cases n with
    | zero => cases h
    | succ n =>
      exact run2_ok UOk (ih n rfl) (f := fn_seq_Diff) rfl ((run_seq_Diff capB n p0 p1 k).symm.trans h)
  · cases h
theorem ok_seq_Sum {R : Type} {r : R} : ∀ {n : Nat}, (∀ m, n = m + 1 → CallOk2 (R := R) U (callP capB m) (runF tbl m)) → ∀ {av : Fr} {cs : List Fr} {k : Ret2 RW → Option R}, ca_seq_Sum capB n av cs k = some r → ∃ q : Ret2 RW, runF tbl n 19 (TV.los U av) (cs.map (TV.los U)) = some (q.lo U) ∧ k q = some r := by
  intro n ih av cs k h
  unfold ca_seq_Sum at h
  split at h
  · simp only [Option.bind_eq_some_iff] at h
    obtain ⟨p0, h0, p1, h1, h⟩ := h
    obtain rfl := dI_ok h0
    obtain rfl := dI_ok h1
    cases n with
    | zero => cases h
    | succ n =>
      exact run2_ok UOk (ih n rfl) (f := fn_seq_Sum) rfl ((run_seq_Sum capB n p0 p1 k).symm.trans h)
  · cases h
theorem ok_seq_Unwrap {R : Type} {r : R} : ∀ {n : Nat}, (∀ m, n = m + 1 → CallOk2 (R := R) U (callP capB m) (runF tbl m)) → ∀ {av : Fr} {cs : List Fr} {k : Ret2 RW → Option R}, ca_seq_Unwrap capB n av cs k = some r → ∃ q : Ret2 RW, runF tbl n 14 (TV.los U av) (cs.map (TV.los U)) = some (q.lo U) ∧ k q = some r := by
  intro n ih av cs k h
  unfold ca_seq_Unwrap at h
  split at h
  · simp only [Option.bind_eq_some_iff] at h
    obtain ⟨p0, h0, p1, h1, h⟩ := h
    obtain rfl := dI_ok h0
    obtain rfl := dI_ok h1
    cases n with
    | zero => cases h
    | succ n =>
      exact run2_ok UOk (ih n rfl) (f := fn_seq_Unwrap) rfl ((run_seq_Unwrap capB n p0 p1 k).symm.trans h)
  · cases h
theorem ok_ack_counts {R : Type} {r : R} : ∀ {n : Nat}, (∀ m, n = m + 1 → CallOk2 (R := R) U (callP capB m) (runF tbl m)) → ∀ {av : Fr} {cs : List Fr} {k : Ret2 RW → Option R}, ca_ack_counts capB n av cs k = some r → ∃ q : Ret2 RW, runF tbl n 10 (TV.los U av) (cs.map (TV.los U)) = some (q.lo U) ∧ k q = some r := by
  intro n ih av cs k h
  unfold ca_ack_counts at h
  split at h
  · simp only [Option.bind_eq_some_iff] at h
    obtain ⟨c0_, h0, p0, g0, c1_, h1, p1, g1, h⟩ := h
    obtain rfl := dA_ok h0
    obtain rfl := dAsked_ok g0
    obtain rfl := dA_ok h1
    obtain rfl := dSegment_ok g1
    cases n with
    | zero => cases h
    | succ n =>
      exact run2_ok UOk (ih n rfl) (f := fn_ack_counts) rfl ((run_ack_counts capB n p0 p1 k).symm.trans h)
  · cases h
theorem ok_ack_Weigh_1 {R : Type} {r : R} : ∀ {n : Nat}, (∀ m, n = m + 1 → CallOk2 (R := R) U (callP capB m) (runF tbl m)) → ∀ {av : Fr} {cs : List Fr} {k : Ret2 RW → Option R}, ca_ack_Weigh_1 capB n av cs k = some r → ∃ q : Ret2 RW, runF tbl n 1007 (TV.los U av) (cs.map (TV.los U)) = some (q.lo U) ∧ k q = some r := by
  intro n ih av cs k h
  unfold ca_ack_Weigh_1 at h
  split at h
  · simp only [Option.bind_eq_some_iff] at h
    obtain ⟨p0, h0, u1, h1, q0, i0, h⟩ := h
    obtain rfl := dI_ok h0
    obtain rfl := dP_ok h1
    obtain rfl := dAsked_ok i0
    cases n with
    | zero => cases h
    | succ n =>
      exact run2_ok UOk (ih n rfl) (f := fn_ack_Weigh_1) rfl ((run_ack_Weigh_1 capB n p0 q0 k).symm.trans h)
  · cases h
theorem ok_ack_offsets {R : Type} {r : R} : ∀ {n : Nat}, (∀ m, n = m + 1 → CallOk2 (R := R) U (callP capB m) (runF tbl m)) → ∀ {av : Fr} {cs : List Fr} {k : Ret2 RW → Option R}, ca_ack_offsets capB n av cs k = some r → ∃ q : Ret2 RW, runF tbl n 1006 (TV.los U av) (cs.map (TV.los U)) = some (q.lo U) ∧ k q = some r := by
  intro n ih av cs k h
  unfold ca_ack_offsets at h
  split at h
  · simp only [Option.bind_eq_some_iff] at h
    obtain ⟨p0, h0, u1, h1, q0, i0, h⟩ := h
    obtain rfl := dRBlock_ok h0
    obtain rfl := dC_ok h1
    obtain rfl := dAsked_ok i0
    cases n with
    | zero => cases h
    | succ n =>
      exact run2_ok UOk (ih n rfl) (f := fn_ack_offsets) rfl ((run_ack_offsets capB n p0 q0 k).symm.trans h)
  · cases h
theorem ok_ack_twice {R : Type} {r : R} : ∀ {n : Nat}, (∀ m, n = m + 1 → CallOk2 (R := R) U (callP capB m) (runF tbl m)) → ∀ {av : Fr} {cs : List Fr} {k : Ret2 RW → Option R}, ca_ack_twice capB n av cs k = some r → ∃ q : Ret2 RW, runF tbl n 15 (TV.los U av) (cs.map (TV.los U)) = some (q.lo U) ∧ k q = some r := by
  intro n ih av cs k h
  unfold ca_ack_twice at h
  split at h
  · simp only [Option.bind_eq_some_iff] at h
    obtain ⟨p0, h0, p1, h1, h⟩ := h
    obtain rfl := dRSpan_ok h0
    obtain rfl := dI_ok h1
    cases n with
    | zero => cases h
    | succ n =>
      exact run2_ok UOk (ih n rfl) (f := fn_ack_twice) rfl ((run_ack_twice capB n p0 p1 k).symm.trans h)
  · cases h
theorem ok_span_may {R : Type} {r : R} : ∀ {n : Nat}, (∀ m, n = m + 1 → CallOk2 (R := R) U (callP capB m) (runF tbl m)) → ∀ {av : Fr} {cs : List Fr} {k : Ret2 RW → Option R}, ca_span_may capB n av cs k = some r → ∃ q : Ret2 RW, runF tbl n 18 (TV.los U av) (cs.map (TV.los U)) = some (q.lo U) ∧ k q = some r := by
  intro n ih av cs k h
  unfold ca_span_may at h
  split at h
  · simp only [Option.bind_eq_some_iff] at h
    obtain ⟨c0_, h0, p0, g0, h⟩ := h
    obtain rfl := dA_ok h0
    obtain rfl := dSpan_ok g0
    cases n with
    | zero => cases h
    | succ n =>
      exact run2_ok UOk (ih n rfl) (f := fn_span_may) rfl ((run_span_may capB n p0 k).symm.trans h)
  · cases h
theorem ok_span_Check {R : Type} {r : R} : ∀ {n : Nat}, (∀ m, n = m + 1 → CallOk2 (R := R) U (callP capB m) (runF tbl m)) → ∀ {av : Fr} {cs : List Fr} {k : Ret2 RW → Option R}, ca_span_Check capB n av cs k = some r → ∃ q : Ret2 RW, runF tbl n 9 (TV.los U av) (cs.map (TV.los U)) = some (q.lo U) ∧ k q = some r := by
  intro n ih av cs k h
  unfold ca_span_Check at h
  split at h
  · simp only [Option.bind_eq_some_iff] at h
    obtain ⟨p0, h0, h⟩ := h
    obtain rfl := dRSpan_ok h0
    cases n with
    | zero => cases h
    | succ n =>
      exact run2_ok UOk (ih n rfl) (f := fn_span_Check) rfl ((run_span_Check capB n p0 k).symm.trans h)
  · cases h
theorem ok_span_right {R : Type} {r : R} : ∀ {n : Nat}, (∀ m, n = m + 1 → CallOk2 (R := R) U (callP capB m) (runF tbl m)) → ∀ {av : Fr} {cs : List Fr} {k : Ret2 RW → Option R}, ca_span_right capB n av cs k = some r → ∃ q : Ret2 RW, runF tbl n 20 (TV.los U av) (cs.map (TV.los U)) = some (q.lo U) ∧ k q = some r := by
  intro n ih av cs k h
  unfold ca_span_right at h
  split at h
  · simp only [Option.bind_eq_some_iff] at h
    obtain ⟨p0, h0, c1_, h1, p1, g1, h⟩ := h
    obtain rfl := dRSpan_ok h0
    obtain rfl := dA_ok h1
    obtain rfl := dSpan_ok g1
    cases n with
    | zero => cases h
    | succ n =>
      exact run2_ok UOk (ih n rfl) (f := fn_span_right) rfl ((run_span_right capB n p0 p1 k).symm.trans h)
  · cases h
theorem ok_slices_Clone_Span {R : Type} {r : R} : ∀ {n : Nat}, (∀ m, n = m + 1 → CallOk2 (R := R) U (callP capB m) (runF tbl m)) → ∀ {av : Fr} {cs : List Fr} {k : Ret2 RW → Option R}, ca_slices_Clone_Span capB n av cs k = some r → ∃ q : Ret2 RW, runF tbl n 21 (TV.los U av) (cs.map (TV.los U)) = some (q.lo U) ∧ k q = some r := by
  intro n ih av cs k h
  unfold ca_slices_Clone_Span at h
  split at h
  · simp only [Option.bind_eq_some_iff] at h
    obtain ⟨p0, h0, h⟩ := h
    obtain rfl := dRSpan_ok h0
    cases n with
    | zero => cases h
    | succ n =>
      obtain ⟨h1, h2⟩ := cond_some h
      exact ⟨⟨.row true (.rSpan p0), []⟩, clone_slices_Clone_Span n p0 h1, h2⟩
  · cases h
theorem ok_span_Add {R : Type} {r : R} : ∀ {n : Nat}, (∀ m, n = m + 1 → CallOk2 (R := R) U (callP capB m) (runF tbl m)) → ∀ {av : Fr} {cs : List Fr} {k : Ret2 RW → Option R}, ca_span_Add capB n av cs k = some r → ∃ q : Ret2 RW, runF tbl n 16 (TV.los U av) (cs.map (TV.los U)) = some (q.lo U) ∧ k q = some r := by
  intro n ih av cs k h
  unfold ca_span_Add at h
  split at h
  · simp only [Option.bind_eq_some_iff] at h
    obtain ⟨p0, h0, c1_, h1, p1, g1, h⟩ := h
    obtain rfl := dRSpan_ok h0
    obtain rfl := dA_ok h1
    obtain rfl := dSpan_ok g1
    cases n with
    | zero => cases h
    | succ n =>
      exact run2_ok UOk (ih n rfl) (f := fn_span_Add) rfl ((run_span_Add capB n p0 p1 k).symm.trans h)
  · cases h
theorem ok_ack_Weigh {R : Type} {r : R} : ∀ {n : Nat}, (∀ m, n = m + 1 → CallOk2 (R := R) U (callP capB m) (runF tbl m)) → ∀ {av : Fr} {cs : List Fr} {k : Ret2 RW → Option R}, ca_ack_Weigh capB n av cs k = some r → ∃ q : Ret2 RW, runF tbl n 6 (TV.los U av) (cs.map (TV.los U)) = some (q.lo U) ∧ k q = some r := by
  intro n ih av cs k h
  unfold ca_ack_Weigh at h
  split at h
  · simp only [Option.bind_eq_some_iff] at h
    obtain ⟨c0_, h0, p0, g0, c1_, h1, p1, g1, h⟩ := h
    obtain rfl := dA_ok h0
    obtain rfl := dAsked_ok g0
    obtain rfl := dA_ok h1
    obtain rfl := dSegment_ok g1
    cases n with
    | zero => cases h
    | succ n =>
      exact run2_ok UOk (ih n rfl) (f := fn_ack_Weigh) rfl ((run_ack_Weigh capB n p0 p1 k).symm.trans h)
  · cases h
theorem ok_law22_heads {R : Type} {r : R} : ∀ {n : Nat}, (∀ m, n = m + 1 → CallOk2 (R := R) U (callP capB m) (runF tbl m)) → ∀ {av : Fr} {cs : List Fr} {k : Ret2 RW → Option R}, ca_law22_heads capB n av cs k = some r → ∃ q : Ret2 RW, runF tbl n 8 (TV.los U av) (cs.map (TV.los U)) = some (q.lo U) ∧ k q = some r := by
  intro n ih av cs k h
  unfold ca_law22_heads at h
  split at h
  · cases n with
    | zero => cases h
    | succ n =>
      exact run2_ok UOk (ih n rfl) (f := fn_law22_heads) rfl ((run_law22_heads capB n  k).symm.trans h)
  · cases h
theorem ok_law22_AckWithin {R : Type} {r : R} : ∀ {n : Nat}, (∀ m, n = m + 1 → CallOk2 (R := R) U (callP capB m) (runF tbl m)) → ∀ {av : Fr} {cs : List Fr} {k : Ret2 RW → Option R}, ca_law22_AckWithin capB n av cs k = some r → ∃ q : Ret2 RW, runF tbl n 4 (TV.los U av) (cs.map (TV.los U)) = some (q.lo U) ∧ k q = some r := by
  intro n ih av cs k h
  unfold ca_law22_AckWithin at h
  split at h
  · simp only [Option.bind_eq_some_iff] at h
    obtain ⟨c0_, h0, p0, g0, c1_, h1, p1, g1, h⟩ := h
    obtain rfl := dA_ok h0
    obtain rfl := dAsked_ok g0
    obtain rfl := dA_ok h1
    obtain rfl := dSegment_ok g1
    cases n with
    | zero => cases h
    | succ n =>
      exact run2_ok UOk (ih n rfl) (f := fn_law22_AckWithin) rfl ((run_law22_AckWithin capB n p0 p1 k).symm.trans h)
  · cases h
theorem ok_ref06_Same {R : Type} {r : R} : ∀ {n : Nat}, (∀ m, n = m + 1 → CallOk2 (R := R) U (callP capB m) (runF tbl m)) → ∀ {av : Fr} {cs : List Fr} {k : Ret2 RW → Option R}, ca_ref06_Same capB n av cs k = some r → ∃ q : Ret2 RW, runF tbl n 17 (TV.los U av) (cs.map (TV.los U)) = some (q.lo U) ∧ k q = some r := by
  intro n ih av cs k h
  unfold ca_ref06_Same at h
  split at h
  · simp only [Option.bind_eq_some_iff] at h
    obtain ⟨p0, h0, p1, h1, h⟩ := h
    obtain rfl := dRSpan_ok h0
    obtain rfl := dRSpan_ok h1
    cases n with
    | zero => cases h
    | succ n =>
      exact run2_ok UOk (ih n rfl) (f := fn_ref06_Same) rfl ((run_ref06_Same capB n p0 p1 k).symm.trans h)
  · cases h
theorem ok_ref22_Same {R : Type} {r : R} : ∀ {n : Nat}, (∀ m, n = m + 1 → CallOk2 (R := R) U (callP capB m) (runF tbl m)) → ∀ {av : Fr} {cs : List Fr} {k : Ret2 RW → Option R}, ca_ref22_Same capB n av cs k = some r → ∃ q : Ret2 RW, runF tbl n 7 (TV.los U av) (cs.map (TV.los U)) = some (q.lo U) ∧ k q = some r := by
  intro n ih av cs k h
  unfold ca_ref22_Same at h
  split at h
  · simp only [Option.bind_eq_some_iff] at h
    obtain ⟨c0_, h0, p0, g0, c1_, h1, p1, g1, h⟩ := h
    obtain rfl := dA_ok h0
    obtain rfl := dHeard_ok g0
    obtain rfl := dA_ok h1
    obtain rfl := dHeard_ok g1
    cases n with
    | zero => cases h
    | succ n =>
      exact run2_ok UOk (ih n rfl) (f := fn_ref22_Same) rfl ((run_ref22_Same capB n p0 p1 k).symm.trans h)
  · cases h
theorem ok_law22_AckPlain {R : Type} {r : R} : ∀ {n : Nat}, (∀ m, n = m + 1 → CallOk2 (R := R) U (callP capB m) (runF tbl m)) → ∀ {av : Fr} {cs : List Fr} {k : Ret2 RW → Option R}, ca_law22_AckPlain capB n av cs k = some r → ∃ q : Ret2 RW, runF tbl n 3 (TV.los U av) (cs.map (TV.los U)) = some (q.lo U) ∧ k q = some r := by
  intro n ih av cs k h
  unfold ca_law22_AckPlain at h
  split at h
  · simp only [Option.bind_eq_some_iff] at h
    obtain ⟨c0_, h0, p0, g0, c1_, h1, p1, g1, h⟩ := h
    obtain rfl := dA_ok h0
    obtain rfl := dAsked_ok g0
    obtain rfl := dA_ok h1
    obtain rfl := dSegment_ok g1
    cases n with
    | zero => cases h
    | succ n =>
      exact run2_ok UOk (ih n rfl) (f := fn_law22_AckPlain) rfl ((run_law22_AckPlain capB n p0 p1 k).symm.trans h)
  · cases h
theorem ok_law22_AckShifts {R : Type} {r : R} : ∀ {n : Nat}, (∀ m, n = m + 1 → CallOk2 (R := R) U (callP capB m) (runF tbl m)) → ∀ {av : Fr} {cs : List Fr} {k : Ret2 RW → Option R}, ca_law22_AckShifts capB n av cs k = some r → ∃ q : Ret2 RW, runF tbl n 5 (TV.los U av) (cs.map (TV.los U)) = some (q.lo U) ∧ k q = some r := by
  intro n ih av cs k h
  unfold ca_law22_AckShifts at h
  split at h
  · simp only [Option.bind_eq_some_iff] at h
    obtain ⟨c0_, h0, p0, g0, c1_, h1, p1, g1, p2, h2, p3, h3, h⟩ := h
    obtain rfl := dA_ok h0
    obtain rfl := dAsked_ok g0
    obtain rfl := dA_ok h1
    obtain rfl := dSegment_ok g1
    obtain rfl := dI_ok h2
    obtain rfl := dI_ok h3
    cases n with
    | zero => cases h
    | succ n =>
      exact run2_ok UOk (ih n rfl) (f := fn_law22_AckShifts) rfl ((run_law22_AckShifts capB n p0 p1 p2 p3 k).symm.trans h)
  · cases h
theorem callOk {R : Type} : ∀ n, CallOk2 (R := R) U (callP capB n) (runF tbl n)
  | n => fun id av cells k r h => by
    have ih : ∀ m, n = m + 1 → CallOk2 (R := R) U (callP capB m) (runF tbl m) := fun m e => callOk m
    unfold callP at h
    split at h
    · exact ok_seq_Diff ih h
    · exact ok_seq_Sum ih h
    · exact ok_seq_Unwrap ih h
    · exact ok_ack_counts ih h
    · exact ok_ack_Weigh_1 ih h
    · exact ok_ack_offsets ih h
    · exact ok_ack_twice ih h
    · exact ok_span_may ih h
    · exact ok_span_Check ih h
    · exact ok_span_right ih h
    · exact ok_slices_Clone_Span ih h
    · exact ok_span_Add ih h
    · exact ok_ack_Weigh ih h
    · exact ok_law22_heads ih h
    · exact ok_law22_AckWithin ih h
    · exact ok_ref06_Same ih h
    · exact ok_ref22_Same ih h
    · exact ok_law22_AckPlain ih h
    · exact ok_law22_AckShifts ih h
    · cases h
termination_by n => n
decreasing_by omega
end
end Go.Proofs.Ytfdopmobhphdbaa.M
