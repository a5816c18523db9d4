/- The machine's code of the functions, and that it computes them. -/
import Derived.Test.YtapelpfcflgjkaaOG0
import Derived.Test.YtapelpfcflgjkaaProg
import Derived.KernelRfl
set_option maxRecDepth 100000
set_option linter.unusedVariables false
set_option linter.unusedSimpArgs false
namespace Go.Proofs.Ytapelpfcflgjkaa.M
open Go
noncomputable section
def X {R : Type} (cp : Nat → Nat → Bool) (n : Nat) (c : IC2 RW) (l : FF) (k : Ex → FF → Option R) : Option R := exec2 U cp (callP cp n) n c l k
theorem X_run {R : Type} {cp : Nat → Nat → Bool} {n : Nat} {f : IFn2 RW} {av : Fr} {cells : List Fr} {code : IC2 RW} {fr : FF} {k : Ret2 RW → Option R} (hb : f.body = code) (h : ∀ K : FF → Option R, start2 f av cells K = K fr) : run2 U cp (callP cp n) n f av cells k = X cp n code fr (finK2 f k) := by
  subst hb
  exact h _
def XI {R : Type} (cp : Nat → Nat → Bool) (n : Nat) (Y : List (TV RW) → FF → (FF → Option R) → Option R) (c : IC2 RW) (l : FF) (k : Ex → FF → Option R) : Option R := execI2 U cp (callP cp n) n Y c l k
def o0 (op : IOp2 RW) : IStep2 RW := ⟨none, op, none, false⟩
def o1 (d : Nat) (op : IOp2 RW) : IStep2 RW := ⟨some d, op, none, false⟩
def o2 (d : Nat) (op : IOp2 RW) : IStep2 RW := ⟨some d, op, none, true⟩
def o3 (d g : Nat) (b : Bool) (op : IOp2 RW) : IStep2 RW := ⟨some d, op, some (g, b), false⟩
def g_span_may_0 : List (IStep2 RW) := [o1 1 (.box 18 2 false (.s 0)),
  o1 2 (.mv false (.k (.sc (.bool false))))]
def g_span_may_1 : List (IStep2 RW) := [o1 3 (.fld 0 (.s 1)),
  o1 4 (.load 18 0 1 false false 3),
  o1 5 (.bin .geq (.s 4) (.k (.sc (.int .i64 0)))),
  o2 6 (.mv false (.s 5)),
  o3 7 6 true (.fld 0 (.s 1)),
  o3 8 6 true (.load 18 0 1 false false 7),
  o3 9 6 true (.fld 1 (.s 1)),
  o3 10 6 true (.load 18 1 1 false false 9),
  o3 11 6 true (.bin .leq (.s 8) (.s 10)),
  o1 12 (.pick (.s 6) (.s 11) (.k (.sc (.bool false)))),
  o2 13 (.mv false (.s 12)),
  o3 14 13 true (.fld 1 (.s 1)),
  o3 15 13 true (.load 18 1 1 false false 14),
  o3 16 13 true (.bin .leq (.s 15) (.k (.sc (.int .i64 1125899906842624)))),
  o1 17 (.pick (.s 13) (.s 16) (.k (.sc (.bool false)))),
  o1 2 (.mv false (.s 17))]
def i_span_may_0 : IC2 RW := .seq (.fin (.reg g_span_may_0) [0, 2] []) (.seq (.fin (.reg g_span_may_1) [1, 3, 4, 5, 6, 7, 8, 9, 10, 11, 12, 13, 14, 15, 16, 17] [(18, 2)]) (.ret))
def fn_span_may : IFn2 RW := ⟨19, 1, 18, 32, [(18, 2)], [], [], [.slot 2], i_span_may_0⟩
def g_span_Check_2 : List (IStep2 RW) := [o1 8 (.bin .lss (.s 7) (.s 6))]
def g_span_Check_3 : List (IStep2 RW) := [o1 9 (.mv false (.s 7)),
  o1 10 (.idx 2 (.s 5) (.s 7)),
  o1 11 (.loade 2 true 10),
  o1 4 (.alloc 38 [.sc (.int .i64 0), .sc (.int .i64 0)]),
  o1 3 (.mv false (.s 9)),
  o0 (.store 38 0 2 false 4 (.s 11))]
def g_span_Check_4 : List (IStep2 RW) := [o1 12 (.load 38 0 2 true false 4),
  o1 13 (.call 19 [(false, .s 12)] [] []),
  o1 14 (.un .not (.s 13)),
  o2 15 (.mv false (.s 14)),
  o3 16 15 false (.fld 0 (.s 4)),
  o3 17 15 false (.load 38 0 1 false false 16),
  o3 18 15 false (.fld 1 (.s 4)),
  o3 19 15 false (.load 38 1 1 false false 18),
  o3 20 15 false (.bin .eql (.s 17) (.s 19)),
  o1 21 (.pick (.s 15) (.k (.sc (.bool true))) (.s 20)),
  o2 22 (.mv false (.s 21)),
  o3 23 22 false (.mv false (.s 3)),
  o3 24 22 false (.bin .gtr (.s 23) (.k (.sc (.int .i64 0)))),
  ⟨some 25, .mv false (.s 24), (some (22, false)), true⟩,
  o3 26 25 true (.mv false (.s 0)),
  o3 27 25 true (.mv false (.s 3)),
  o3 28 25 true (.bin .sub (.s 27) (.k (.sc (.int .i64 1)))),
  o3 29 25 true (.idx 2 (.s 26) (.s 28)),
  o3 30 25 true (.fld 1 (.s 29)),
  o3 31 25 true (.loade 1 false 30),
  o3 32 25 true (.fld 0 (.s 4)),
  o3 33 25 true (.load 38 0 1 false false 32),
  o3 34 25 true (.bin .geq (.s 31) (.s 33)),
  o3 35 22 false (.pick (.s 25) (.s 34) (.k (.sc (.bool false)))),
  o1 36 (.pick (.s 22) (.k (.sc (.bool true))) (.s 35))]
def g_span_Check_5 : List (IStep2 RW) := [o1 2 (.mv false (.k (.sc (.int .i64 60))))]
def g_span_Check_6 : List (IStep2 RW) := [o1 37 (.bin .add (.s 7) (.k (.sc (.int .i64 1)))),
  o1 7 (.mv false (.s 37))]
def i_span_Check_0 : IC2 RW := .seq (.reg g_span_Check_2) (.seq (.fin (.cond (.s 8) (.skip) (.clr [0, 5, 6, 7, 8] [] (.exit 0))) [8] []) (.seq (.blk 1 (.seq (.fin (.reg g_span_Check_3) [9, 10, 11] []) (.seq (.fin (.reg g_span_Check_4) [3, 4, 12, 13, 14, 15, 16, 17, 18, 19, 20, 21, 22, 23, 24, 25, 26, 27, 28, 29, 30, 31, 32, 33, 34, 35] [(38, 2)]) (.fin (.cond (.s 36) (.seq (.fin (.reg g_span_Check_5) [0, 5, 6, 7, 36] []) (.ret)) (.skip)) [36] [])))) (.fin (.reg g_span_Check_6) [37] [])))
def i_span_Check_1 : IC2 RW := .loop i_span_Check_0
def i_span_Check_2 : IC2 RW := .blk 0 i_span_Check_1
def g_span_Check_1 : List (IStep2 RW) := [o1 5 (.mv false (.s 0)),
  o1 6 (.len false (.s 5)),
  o1 7 (.mv false (.k (.sc (.int .i64 0))))]
def i_span_Check_3 : IC2 RW := .seq (.reg g_span_Check_1) i_span_Check_2
def g_span_Check_7 : List (IStep2 RW) := [o1 2 (.mv false (.k (.sc (.int .i64 0))))]
def i_span_Check_4 : IC2 RW := .seq (.reg g_span_Check_7) (.ret)
def i_span_Check_5 : IC2 RW := .seq i_span_Check_3 i_span_Check_4
def g_span_Check_0 : List (IStep2 RW) := [o1 2 (.mv false (.k (.sc (.int .i64 0))))]
def i_span_Check_6 : IC2 RW := .seq (.fin (.reg g_span_Check_0) [2] []) i_span_Check_5
def fn_span_Check : IFn2 RW := ⟨11, 1, 38, 48, [(38, 2)], [], [], [.slot 2], i_span_Check_6⟩
def g_span_right_0 : List (IStep2 RW) := [o1 3 (.box 14 2 false (.s 1)),
  o1 4 (.mv false (.k (.sc (.int .i64 0))))]
def g_span_right_1 : List (IStep2 RW) := [o1 6 (.mv false (.s 0)),
  o1 7 (.call 11 [(false, .s 6)] [] []),
  o1 5 (.mv false (.s 7))]
def g_span_right_2 : List (IStep2 RW) := [o1 8 (.mv false (.s 5)),
  o1 9 (.bin .neq (.s 8) (.k (.sc (.int .i64 0))))]
def g_span_right_3 : List (IStep2 RW) := [o1 10 (.mv false (.s 5)),
  o1 4 (.mv false (.s 10))]
def g_span_right_4 : List (IStep2 RW) := [o1 11 (.load 14 0 2 true false 3),
  o1 12 (.call 19 [(false, .s 11)] [] []),
  o1 13 (.un .not (.s 12))]
def g_span_right_5 : List (IStep2 RW) := [o1 4 (.mv false (.k (.sc (.int .i64 2))))]
def g_span_right_6 : List (IStep2 RW) := [o1 4 (.mv false (.k (.sc (.int .i64 0))))]
def i_span_right_0 : IC2 RW := .seq (.fin (.reg g_span_right_0) [1, 4] []) (.seq (.seq (.fin (.reg g_span_right_1) [0, 6, 7] []) (.seq (.fin (.reg g_span_right_2) [8] []) (.fin (.cond (.s 9) (.seq (.fin (.reg g_span_right_3) [3, 5, 9, 10] [(14, 2)]) (.ret)) (.skip)) [5, 9] []))) (.seq (.seq (.fin (.reg g_span_right_4) [3, 11, 12] [(14, 2)]) (.fin (.cond (.s 13) (.seq (.fin (.reg g_span_right_5) [13] []) (.ret)) (.skip)) [13] [])) (.seq (.reg g_span_right_6) (.ret))))
def fn_span_right : IFn2 RW := ⟨13, 2, 14, 32, [(14, 2)], [], [], [.slot 4], i_span_right_0⟩
/-! slices.Clone[[]tideway/api.Span,tideway/api.Span] -/
def g_slices_Clone_Span_0 : List IStep := [⟨(some 2), .mv true (.k (.row true 2 0 (fun _ => [.sc (.int .i64 0), .sc (.int .i64 0)]))), none, false⟩]
def g_slices_Clone_Span_1 : List IStep := [⟨(some 3), .mv false (.s 0), none, false⟩,
  ⟨(some 4), .nilq false (.s 3), none, false⟩]
def g_slices_Clone_Span_2 : List IStep := [⟨(some 2), .mv true (.k (.row true 2 0 (fun _ => [.sc (.int .i64 0), .sc (.int .i64 0)]))), none, false⟩]
def g_slices_Clone_Span_3 : List IStep := [⟨(some 5), .bslice 2 0 [.sc (.int .i64 0), .sc (.int .i64 0)] [], none, false⟩,
  ⟨(some 6), .mv false (.s 0), none, false⟩,
  ⟨(some 7), .app 2 16 true (.s 5) (.s 6), none, false⟩,
  ⟨(some 2), .mv true (.s 7), none, false⟩]
def fn_slices_Clone_Span : IFn := ⟨14, 1, 8, 8, [], [], [], [.slot 2],
  .seq (.fin (.reg g_slices_Clone_Span_0) [2] []) (.seq (.seq (.fin (.reg g_slices_Clone_Span_1) [3] []) (.fin (.cond (.s 4) (.seq (.fin (.reg g_slices_Clone_Span_2) [0, 4] []) (.ret)) (.skip)) [4] [])) (.seq (.fin (.reg g_slices_Clone_Span_3) [0, 5, 6, 7] []) (.ret)))⟩

def g_span_Add_8 : List (IStep2 RW) := [o1 22 (.mv false (.s 8)),
  o1 23 (.mv false (.s 0)),
  o1 24 (.len false (.s 23)),
  o1 25 (.bin .lss (.s 22) (.s 24)),
  o2 26 (.mv false (.s 25)),
  o3 27 26 true (.mv false (.s 0)),
  o3 28 26 true (.mv false (.s 8)),
  o3 29 26 true (.idx 2 (.s 27) (.s 28)),
  o3 30 26 true (.fld 1 (.s 29)),
  o3 31 26 true (.loade 1 false 30),
  o3 32 26 true (.fld 0 (.s 3)),
  o3 33 26 true (.load 87 0 1 false false 32),
  o3 34 26 true (.bin .lss (.s 31) (.s 33)),
  o1 35 (.pick (.s 26) (.s 34) (.k (.sc (.bool false))))]
def g_span_Add_10 : List (IStep2 RW) := [o1 38 (.mv true (.s 7)),
  o1 39 (.mv false (.s 0)),
  o1 40 (.mv false (.s 8)),
  o1 41 (.idx 2 (.s 39) (.s 40)),
  o1 42 (.loade 2 true 41),
  o1 43 (.bslice 24 1 [(0, 2, .s 42)]),
  o1 44 (.app 2 16 true (.s 38) (.s 43)),
  o1 7 (.mv true (.s 44))]
def g_span_Add_9 : List (IStep2 RW) := [o1 36 (.mv false (.s 8)),
  o1 37 (.bin .add (.s 36) (.k (.sc (.int .i64 1)))),
  o1 8 (.mv false (.s 37))]
def i_span_Add_0 : IC2 RW := .seq (.seq (.fin (.reg g_span_Add_8) [22, 23, 24, 25, 26, 27, 28, 29, 30, 31, 32, 33, 34] []) (.fin (.cond (.s 35) (.skip) (.clr [35] [] (.exit 0))) [35] [])) (.seq (.blk 1 (.fin (.reg g_span_Add_10) [38, 39, 40, 41, 42, 43, 44] [])) (.fin (.reg g_span_Add_9) [36, 37] []))
def i_span_Add_1 : IC2 RW := .loop i_span_Add_0
def i_span_Add_2 : IC2 RW := .blk 0 i_span_Add_1
def g_span_Add_11 : List (IStep2 RW) := [o1 45 (.mv false (.s 8)),
  o1 46 (.mv false (.s 0)),
  o1 47 (.len false (.s 46)),
  o1 48 (.bin .lss (.s 45) (.s 47)),
  o2 49 (.mv false (.s 48)),
  o3 50 49 true (.mv false (.s 0)),
  o3 51 49 true (.mv false (.s 8)),
  o3 52 49 true (.idx 2 (.s 50) (.s 51)),
  o3 53 49 true (.fld 0 (.s 52)),
  o3 54 49 true (.loade 1 false 53),
  o3 55 49 true (.fld 1 (.s 3)),
  o3 56 49 true (.load 87 1 1 false false 55),
  o3 57 49 true (.bin .leq (.s 54) (.s 56)),
  o1 58 (.pick (.s 49) (.s 57) (.k (.sc (.bool false))))]
def g_span_Add_13 : List (IStep2 RW) := [o1 61 (.fld 0 (.s 3)),
  o1 62 (.load 87 0 1 false false 61),
  o1 63 (.mv false (.s 0)),
  o1 64 (.mv false (.s 8)),
  o1 65 (.idx 2 (.s 63) (.s 64)),
  o1 66 (.fld 0 (.s 65)),
  o1 67 (.loade 1 false 66),
  o1 68 (.mnmx false [.s 62, .s 67]),
  o1 69 (.fld 1 (.s 3)),
  o1 70 (.load 87 1 1 false false 69),
  o1 71 (.mv false (.s 0)),
  o1 72 (.mv false (.s 8)),
  o1 73 (.idx 2 (.s 71) (.s 72)),
  o1 74 (.fld 1 (.s 73)),
  o1 75 (.loade 1 false 74),
  o1 76 (.mnmx true [.s 70, .s 75]),
  o1 77 (.fld 0 (.s 3)),
  o0 (.store 87 0 1 false 77 (.s 68)),
  o1 78 (.fld 1 (.s 3)),
  o0 (.store 87 1 1 false 78 (.s 76))]
def g_span_Add_12 : List (IStep2 RW) := [o1 59 (.mv false (.s 8)),
  o1 60 (.bin .add (.s 59) (.k (.sc (.int .i64 1)))),
  o1 8 (.mv false (.s 60))]
def i_span_Add_3 : IC2 RW := .seq (.seq (.fin (.reg g_span_Add_11) [45, 46, 47, 48, 49, 50, 51, 52, 53, 54, 55, 56, 57] []) (.fin (.cond (.s 58) (.skip) (.clr [58] [] (.exit 2))) [58] [])) (.seq (.blk 3 (.fin (.reg g_span_Add_13) [61, 62, 63, 64, 65, 66, 67, 68, 69, 70, 71, 72, 73, 74, 75, 76, 77, 78] [])) (.fin (.reg g_span_Add_12) [59, 60] []))
def i_span_Add_4 : IC2 RW := .loop i_span_Add_3
def i_span_Add_5 : IC2 RW := .blk 2 i_span_Add_4
def g_span_Add_14 : List (IStep2 RW) := [o1 79 (.mv true (.s 7)),
  o1 80 (.load 87 0 2 true false 3),
  o1 81 (.bslice 24 1 [(0, 2, .s 80)]),
  o1 82 (.app 2 16 true (.s 79) (.s 81)),
  o1 83 (.mv false (.s 0)),
  o1 84 (.mv false (.s 8)),
  o1 85 (.slice 2 (.s 83) (some (.s 84)) none none),
  o1 86 (.app 2 16 true (.s 82) (.s 85)),
  o1 4 (.mv false (.s 86)),
  o1 5 (.mv false (.k (.sc (.int .i64 0))))]
def i_span_Add_6 : IC2 RW := .seq (.fin (.reg g_span_Add_14) [0, 3, 7, 8, 79, 80, 81, 82, 83, 84, 85, 86] [(87, 2)]) (.ret)
def i_span_Add_7 : IC2 RW := .seq i_span_Add_5 i_span_Add_6
def i_span_Add_8 : IC2 RW := .seq i_span_Add_2 i_span_Add_7
def g_span_Add_0 : List (IStep2 RW) := [o1 3 (.box 87 2 false (.s 1)),
  o1 4 (.mv false (.k (.row false (.rSpan [])))),
  o1 5 (.mv false (.k (.sc (.int .i64 0))))]
def g_span_Add_1 : List (IStep2 RW) := [o1 9 (.mv false (.s 0)),
  o1 10 (.load 87 0 2 true false 3),
  o1 11 (.call 13 [(false, .s 9), (false, .s 10)] [] []),
  o1 6 (.mv false (.s 11))]
def g_span_Add_2 : List (IStep2 RW) := [o1 12 (.mv false (.s 6)),
  o1 13 (.bin .neq (.s 12) (.k (.sc (.int .i64 0))))]
def g_span_Add_3 : List (IStep2 RW) := [o1 14 (.mv false (.s 6)),
  o1 4 (.mv false (.k (.row false (.rSpan [])))),
  o1 5 (.mv false (.s 14))]
def g_span_Add_4 : List (IStep2 RW) := [o1 15 (.fld 0 (.s 3)),
  o1 16 (.load 87 0 1 false false 15),
  o1 17 (.fld 1 (.s 3)),
  o1 18 (.load 87 1 1 false false 17),
  o1 19 (.bin .eql (.s 16) (.s 18))]
def g_span_Add_5 : List (IStep2 RW) := [o1 20 (.mv false (.s 0)),
  o1 21 (.call 14 [(false, .s 20)] [] []),
  o1 4 (.mv false (.s 21)),
  o1 5 (.mv false (.k (.sc (.int .i64 0))))]
def g_span_Add_6 : List (IStep2 RW) := [o1 7 (.mv true (.k (.row true (.rSpan []))))]
def g_span_Add_7 : List (IStep2 RW) := [o1 8 (.mv false (.k (.sc (.int .i64 0))))]
def i_span_Add_9 : IC2 RW := .seq (.fin (.reg g_span_Add_0) [1, 4, 5] []) (.seq (.seq (.fin (.reg g_span_Add_1) [9, 10, 11] []) (.seq (.fin (.reg g_span_Add_2) [12] []) (.fin (.cond (.s 13) (.seq (.fin (.reg g_span_Add_3) [0, 3, 6, 13, 14] [(87, 2)]) (.ret)) (.skip)) [6, 13] []))) (.seq (.seq (.fin (.reg g_span_Add_4) [15, 16, 17, 18] []) (.fin (.cond (.s 19) (.seq (.fin (.reg g_span_Add_5) [0, 3, 19, 20, 21] [(87, 2)]) (.ret)) (.skip)) [19] [])) (.seq (.reg g_span_Add_6) (.seq (.reg g_span_Add_7) i_span_Add_8))))
def fn_span_Add : IFn2 RW := ⟨5, 2, 87, 96, [(87, 2)], [], [], [.slot 4, .slot 5], i_span_Add_9⟩
def g_span_within_0 : List (IStep2 RW) := [o1 2 (.box 6 1 false (.s 0)),
  o1 3 (.box 8 2 false (.s 1)),
  o1 4 (.mv false (.k (.sc .nilFunc)))]
def g_span_within_1 : List (IStep2 RW) := [o1 5 (.mkclo 22 [.s 2, .s 3]),
  o1 4 (.mv false (.s 5))]
def i_span_within_0 : IC2 RW := .seq (.fin (.reg g_span_within_0) [0, 1, 4] []) (.seq (.fin (.reg g_span_within_1) [2, 3, 5] []) (.ret))
def fn_span_within : IFn2 RW := ⟨20, 2, 6, 16, [(6, 1), (8, 2)], [], [(6, 1), (8, 2)], [.slot 4], i_span_within_0⟩
def g_span_Gaps_6 : List (IStep2 RW) := [o1 7 (.alloc 71 [.sc (.int .i64 0), .sc (.int .i64 0)]),
  o0 (.store 71 0 2 false 7 (.s 23))]
def i_span_Gaps_0 : IC2 RW := .fin (.reg g_span_Gaps_6) [23] []
def g_span_Gaps_7 : List (IStep2 RW) := [o1 24 (.load 69 0 1 false false 6),
  o1 25 (.fld 0 (.s 7)),
  o1 26 (.load 71 0 1 false false 25),
  o1 27 (.bin .lss (.s 24) (.s 26))]
def g_span_Gaps_8 : List (IStep2 RW) := [o1 28 (.load 67 0 1 false true 5),
  o1 29 (.load 69 0 1 false false 6),
  o1 30 (.fld 0 (.s 7)),
  o1 31 (.load 71 0 1 false false 30),
  o1 32 (.build [.sc (.int .i64 0), .sc (.int .i64 0)] [(0, 1, .s 29), (1, 1, .s 31)]),
  o1 33 (.bslice 24 1 [(0, 2, .s 32)]),
  o1 34 (.app 2 16 true (.s 28) (.s 33)),
  o0 (.store 67 0 1 true 5 (.s 34))]
def g_span_Gaps_9 : List (IStep2 RW) := [o1 35 (.fld 1 (.s 7)),
  o1 36 (.load 71 1 1 false false 35),
  o0 (.store 69 0 1 false 6 (.s 36))]
def i_span_Gaps_1 : IC2 RW := .blk 1 (.seq (.seq (.fin (.reg g_span_Gaps_7) [24, 25, 26] []) (.fin (.cond (.s 27) (.fin (.reg g_span_Gaps_8) [27, 28, 29, 30, 31, 32, 33, 34] []) (.skip)) [27] [])) (.fin (.reg g_span_Gaps_9) [7, 35, 36] [(71, 2)]))
def i_span_Gaps_2 : IC2 RW := .seq i_span_Gaps_0 i_span_Gaps_1
def g_span_Gaps_1000 : List (IStep2 RW) := [o1 7 (.load 74 0 1 false false 1),
  o1 8 (.len false (.s 7)),
  o1 9 (.mv false (.k (.sc (.int .i64 0))))]
def g_span_Gaps_1001 : List (IStep2 RW) := [o1 10 (.bin .lss (.s 9) (.s 8))]
def g_span_Gaps_1002 : List (IStep2 RW) := [o1 11 (.idx 2 (.s 7) (.s 9)),
  o1 12 (.loade 2 true 11),
  o1 5 (.alloc 79 [.sc (.int .i64 0), .sc (.int .i64 0)]),
  o0 (.store 79 0 2 false 5 (.s 12))]
def g_span_Gaps_1003 : List (IStep2 RW) := [o1 13 (.fld 0 (.s 5)),
  o1 14 (.load 79 0 1 false false 13),
  o1 15 (.fld 0 (.s 2)),
  o1 16 (.load 76 0 1 false false 15),
  o1 17 (.mnmx true [.s 14, .s 16]),
  o1 18 (.fld 1 (.s 5)),
  o1 19 (.load 79 1 1 false false 18),
  o1 20 (.fld 1 (.s 2)),
  o1 21 (.load 76 1 1 false false 20),
  o1 22 (.mnmx false [.s 19, .s 21]),
  o1 23 (.build [.sc (.int .i64 0), .sc (.int .i64 0)] [(0, 1, .s 17), (1, 1, .s 22)]),
  o1 6 (.alloc 82 [.sc (.int .i64 0), .sc (.int .i64 0)]),
  o0 (.store 82 0 2 false 6 (.s 23))]
def g_span_Gaps_10041 : List (IStep2 RW) := [o1 24 (.fld 0 (.s 6)),
  o1 25 (.load 82 0 1 false false 24),
  o1 26 (.fld 1 (.s 6)),
  o1 27 (.load 82 1 1 false false 26),
  o1 28 (.bin .lss (.s 25) (.s 27)),
  o2 29 (.mv false (.s 28)),
  o3 30 29 true (.mv false (.s 0)),
  o3 31 29 true (.load 82 0 2 true false 6)]
def g_span_Gaps_10042 : List (IStep2 RW) := [o3 33 29 true (.un .not (.s 32)),
  o1 34 (.pick (.s 29) (.s 33) (.k (.sc (.bool false))))]
def g_span_Gaps_1005 : List (IStep2 RW) := [o1 35 (.bin .add (.s 9) (.k (.sc (.int .i64 1)))),
  o1 9 (.mv false (.s 35))]
def i_span_Gaps_3 : IC2 RW := .seq (.fin (.reg g_span_Gaps_1000) [1] []) (.blk 0 (.loop (.seq (.reg g_span_Gaps_1001) (.seq (.fin (.cond (.s 10) (.skip) (.clr [0, 2, 7, 8, 9, 10] [] (.exit 0))) [10] []) (.seq (.blk 1 (.seq (.fin (.reg g_span_Gaps_1002) [11, 12] []) (.seq (.fin (.reg g_span_Gaps_1003) [5, 13, 14, 15, 16, 17, 18, 19, 20, 21, 22, 23] [(79, 2)]) (.seq (.fin (.yreg g_span_Gaps_10041 (.s 30) [.s 31] (some (29, true)) 32 g_span_Gaps_10042) [6, 24, 25, 26, 27, 28, 29, 30, 31, 32, 33] [(82, 2)]) (.fin (.cond (.s 34) (.clr [0, 2, 7, 8, 9, 34] [] (.ret)) (.skip)) [34] []))))) (.fin (.reg g_span_Gaps_1005) [35] []))))))
def i_span_Gaps_4 : IC2 RW := .fin (.yreg g_span_Gaps_10041 (.s 30) [.s 31] (some (29, true)) 32 g_span_Gaps_10042) [6, 24, 25, 26, 27, 28, 29, 30, 31, 32, 33] [(82, 2)]
def i_span_Gaps_5 : IC2 RW := .fin (.cond (.s 34) (.clr [0, 2, 7, 8, 9, 34] [] (.ret)) (.skip)) [34] []
def i_span_Gaps_6 : IC2 RW := .seq i_span_Gaps_4 i_span_Gaps_5
def i_span_Gaps_7 : IC2 RW := .seq (.fin (.reg g_span_Gaps_1002) [11, 12] []) (.seq (.fin (.reg g_span_Gaps_1003) [5, 13, 14, 15, 16, 17, 18, 19, 20, 21, 22, 23] [(79, 2)]) i_span_Gaps_6)
def i_span_Gaps_8 : IC2 RW := .blk 1 i_span_Gaps_7
def i_span_Gaps_9 : IC2 RW := .fin (.reg g_span_Gaps_1005) [35] []
def i_span_Gaps_10 : IC2 RW := .seq i_span_Gaps_8 i_span_Gaps_9
def i_span_Gaps_11 : IC2 RW := .seq (.reg g_span_Gaps_1001) (.seq (.fin (.cond (.s 10) (.skip) (.clr [0, 2, 7, 8, 9, 10] [] (.exit 0))) [10] []) i_span_Gaps_10)
def i_span_Gaps_12 : IC2 RW := .loop i_span_Gaps_11
def i_span_Gaps_13 : IC2 RW := .blk 0 i_span_Gaps_12
def i_span_Gaps_14 : IC2 RW := .fin (.rfn (.s 22) 22 4 36 [23] i_span_Gaps_3 i_span_Gaps_0 i_span_Gaps_1 [64, 67, 69, 74, 76] [64, 67, 69, 74, 76, 79, 82]) [22] [(74, 1), (76, 2)]
def i_span_Gaps_15 : IC2 RW := .blk 0 i_span_Gaps_14
def g_span_Gaps_5 : List (IStep2 RW) := [o1 20 (.mv false (.s 0)),
  o1 21 (.load 64 0 2 true false 3),
  o1 22 (.call 20 [(false, .s 20), (false, .s 21)] [] [(6, 1, 74), (8, 2, 76)])]
def i_span_Gaps_16 : IC2 RW := .seq (.fin (.reg g_span_Gaps_5) [0, 20, 21] []) i_span_Gaps_15
def g_span_Gaps_10 : List (IStep2 RW) := [o1 37 (.load 69 0 1 false false 6),
  o1 38 (.fld 1 (.s 3)),
  o1 39 (.load 64 1 1 false false 38),
  o1 40 (.bin .lss (.s 37) (.s 39))]
def g_span_Gaps_11 : List (IStep2 RW) := [o1 41 (.load 67 0 1 false true 5),
  o1 42 (.load 69 0 1 false false 6),
  o1 43 (.fld 1 (.s 3)),
  o1 44 (.load 64 1 1 false false 43),
  o1 45 (.build [.sc (.int .i64 0), .sc (.int .i64 0)] [(0, 1, .s 42), (1, 1, .s 44)]),
  o1 46 (.bslice 24 1 [(0, 2, .s 45)]),
  o1 47 (.app 2 16 true (.s 41) (.s 46)),
  o0 (.store 67 0 1 true 5 (.s 47))]
def g_span_Gaps_12 : List (IStep2 RW) := [o1 48 (.load 67 0 1 false false 5),
  o1 4 (.mv false (.s 48))]
def i_span_Gaps_17 : IC2 RW := .seq (.seq (.fin (.reg g_span_Gaps_10) [37, 38, 39] []) (.fin (.cond (.s 40) (.fin (.reg g_span_Gaps_11) [3, 6, 40, 41, 42, 43, 44, 45, 46, 47] [(64, 2), (69, 1)]) (.skip)) [3, 6, 40] [(64, 2), (69, 1)])) (.seq (.fin (.reg g_span_Gaps_12) [5, 48] [(67, 1)]) (.ret))
def i_span_Gaps_18 : IC2 RW := .seq i_span_Gaps_16 i_span_Gaps_17
def g_span_Gaps_0 : List (IStep2 RW) := [o1 3 (.box 64 2 false (.s 1)),
  o1 4 (.mv false (.k (.row false (.rSpan []))))]
def g_span_Gaps_1 : List (IStep2 RW) := [o1 8 (.mv false (.s 0)),
  o1 9 (.call 11 [(false, .s 8)] [] []),
  o1 10 (.bin .neq (.s 9) (.k (.sc (.int .i64 0)))),
  o2 11 (.mv false (.s 10)),
  o3 12 11 false (.fld 0 (.s 3)),
  o3 13 11 false (.load 64 0 1 false false 12),
  o3 14 11 false (.fld 1 (.s 3)),
  o3 15 11 false (.load 64 1 1 false false 14),
  o3 16 11 false (.bin .geq (.s 13) (.s 15)),
  o1 17 (.pick (.s 11) (.k (.sc (.bool true))) (.s 16))]
def g_span_Gaps_2 : List (IStep2 RW) := [o1 4 (.mv false (.k (.row false (.rSpan []))))]
def g_span_Gaps_3 : List (IStep2 RW) := [o1 5 (.alloc 67 [.row true (.rSpan [])])]
def g_span_Gaps_4 : List (IStep2 RW) := [o1 18 (.fld 0 (.s 3)),
  o1 19 (.load 64 0 1 false false 18),
  o1 6 (.alloc 69 [.sc (.int .i64 0)]),
  o0 (.store 69 0 1 false 6 (.s 19))]
def i_span_Gaps_19 : IC2 RW := .seq (.fin (.reg g_span_Gaps_0) [1, 4] []) (.seq (.seq (.fin (.reg g_span_Gaps_1) [8, 9, 10, 11, 12, 13, 14, 15, 16] []) (.fin (.cond (.s 17) (.seq (.fin (.reg g_span_Gaps_2) [0, 3, 17] [(64, 2)]) (.ret)) (.skip)) [17] [])) (.seq (.reg g_span_Gaps_3) (.seq (.fin (.reg g_span_Gaps_4) [18, 19] []) i_span_Gaps_18)))
def fn_span_Gaps : IFn2 RW := ⟨15, 2, 49, 96, [(64, 2), (67, 1), (69, 1), (71, 2), (74, 1), (76, 2), (79, 2), (82, 2)], [], [], [.slot 4], i_span_Gaps_19⟩
def g_ref06_Same_4 : List (IStep2 RW) := [o1 11 (.mv false (.s 5)),
  o1 12 (.mv false (.s 0)),
  o1 13 (.len false (.s 12)),
  o1 14 (.bin .lss (.s 11) (.s 13))]
def g_ref06_Same_6 : List (IStep2 RW) := [o1 17 (.mv false (.s 0)),
  o1 18 (.mv false (.s 5)),
  o1 19 (.idx 2 (.s 17) (.s 18)),
  o1 20 (.loade 2 true 19),
  o1 21 (.mv false (.s 1)),
  o1 22 (.mv false (.s 5)),
  o1 23 (.idx 2 (.s 21) (.s 22)),
  o1 24 (.loade 2 true 23),
  o1 25 (.eqs [true, true] true (.s 20) (.s 24))]
def g_ref06_Same_7 : List (IStep2 RW) := [o1 4 (.mv false (.k (.sc (.bool false))))]
def g_ref06_Same_5 : List (IStep2 RW) := [o1 15 (.mv false (.s 5)),
  o1 16 (.bin .add (.s 15) (.k (.sc (.int .i64 1)))),
  o1 5 (.mv false (.s 16))]
def i_ref06_Same_0 : IC2 RW := .seq (.seq (.fin (.reg g_ref06_Same_4) [11, 12, 13] []) (.fin (.cond (.s 14) (.skip) (.clr [0, 1, 5, 14] [] (.exit 0))) [14] [])) (.seq (.blk 1 (.seq (.fin (.reg g_ref06_Same_6) [17, 18, 19, 20, 21, 22, 23, 24] []) (.fin (.cond (.s 25) (.seq (.fin (.reg g_ref06_Same_7) [0, 1, 5, 25] []) (.ret)) (.skip)) [25] []))) (.fin (.reg g_ref06_Same_5) [15, 16] []))
def i_ref06_Same_1 : IC2 RW := .loop i_ref06_Same_0
def i_ref06_Same_2 : IC2 RW := .blk 0 i_ref06_Same_1
def g_ref06_Same_3 : List (IStep2 RW) := [o1 5 (.mv false (.k (.sc (.int .i64 0))))]
def i_ref06_Same_3 : IC2 RW := .seq (.reg g_ref06_Same_3) i_ref06_Same_2
def g_ref06_Same_8 : List (IStep2 RW) := [o1 4 (.mv false (.k (.sc (.bool true))))]
def i_ref06_Same_4 : IC2 RW := .seq (.reg g_ref06_Same_8) (.ret)
def i_ref06_Same_5 : IC2 RW := .seq i_ref06_Same_3 i_ref06_Same_4
def g_ref06_Same_0 : List (IStep2 RW) := [o1 4 (.mv false (.k (.sc (.bool false))))]
def g_ref06_Same_1 : List (IStep2 RW) := [o1 6 (.mv false (.s 0)),
  o1 7 (.len false (.s 6)),
  o1 8 (.mv false (.s 1)),
  o1 9 (.len false (.s 8)),
  o1 10 (.bin .neq (.s 7) (.s 9))]
def g_ref06_Same_2 : List (IStep2 RW) := [o1 4 (.mv false (.k (.sc (.bool false))))]
def i_ref06_Same_6 : IC2 RW := .seq (.fin (.reg g_ref06_Same_0) [4] []) (.seq (.seq (.fin (.reg g_ref06_Same_1) [6, 7, 8, 9] []) (.fin (.cond (.s 10) (.seq (.fin (.reg g_ref06_Same_2) [0, 1, 10] []) (.ret)) (.skip)) [10] [])) i_ref06_Same_5)
def fn_ref06_Same : IFn2 RW := ⟨7, 2, 26, 32, [], [], [], [.slot 4], i_ref06_Same_6⟩
def g_span_Size_5 : List (IStep2 RW) := [o1 12 (.bin .lss (.s 11) (.s 10))]
def g_span_Size_6 : List (IStep2 RW) := [o1 13 (.idx 2 (.s 9) (.s 11)),
  o1 14 (.loade 2 true 13),
  o1 5 (.alloc 24 [.sc (.int .i64 0), .sc (.int .i64 0)]),
  o0 (.store 24 0 2 false 5 (.s 14))]
def g_span_Size_7 : List (IStep2 RW) := [o1 15 (.mv false (.s 3)),
  o1 16 (.fld 1 (.s 5)),
  o1 17 (.load 24 1 1 false false 16),
  o1 18 (.fld 0 (.s 5)),
  o1 19 (.load 24 0 1 false false 18),
  o1 20 (.bin .sub (.s 17) (.s 19)),
  o1 21 (.bin .add (.s 15) (.s 20)),
  o1 3 (.mv false (.s 21))]
def g_span_Size_8 : List (IStep2 RW) := [o1 22 (.bin .add (.s 11) (.k (.sc (.int .i64 1)))),
  o1 11 (.mv false (.s 22))]
def i_span_Size_0 : IC2 RW := .seq (.reg g_span_Size_5) (.seq (.fin (.cond (.s 12) (.skip) (.clr [9, 10, 11, 12] [] (.exit 0))) [12] []) (.seq (.blk 1 (.seq (.fin (.reg g_span_Size_6) [13, 14] []) (.fin (.reg g_span_Size_7) [5, 15, 16, 17, 18, 19, 20, 21] [(24, 2)]))) (.fin (.reg g_span_Size_8) [22] [])))
def i_span_Size_1 : IC2 RW := .loop i_span_Size_0
def i_span_Size_2 : IC2 RW := .blk 0 i_span_Size_1
def g_span_Size_4 : List (IStep2 RW) := [o1 9 (.mv false (.s 0)),
  o1 10 (.len false (.s 9)),
  o1 11 (.mv false (.k (.sc (.int .i64 0))))]
def i_span_Size_3 : IC2 RW := .seq (.fin (.reg g_span_Size_4) [0] []) i_span_Size_2
def g_span_Size_9 : List (IStep2 RW) := [o1 23 (.mv false (.s 3)),
  o1 2 (.mv false (.s 23))]
def i_span_Size_4 : IC2 RW := .seq (.fin (.reg g_span_Size_9) [3, 23] []) (.ret)
def i_span_Size_5 : IC2 RW := .seq i_span_Size_3 i_span_Size_4
def g_span_Size_0 : List (IStep2 RW) := [o1 2 (.mv false (.k (.sc (.int .i64 0))))]
def g_span_Size_1 : List (IStep2 RW) := [o1 6 (.mv false (.s 0)),
  o1 7 (.call 11 [(false, .s 6)] [] []),
  o1 8 (.bin .neq (.s 7) (.k (.sc (.int .i64 0))))]
def g_span_Size_2 : List (IStep2 RW) := [o1 2 (.mv false (.k (.sc (.int .i64 0))))]
def g_span_Size_3 : List (IStep2 RW) := [o1 3 (.mv false (.k (.sc (.int .i64 0))))]
def i_span_Size_6 : IC2 RW := .seq (.fin (.reg g_span_Size_0) [2] []) (.seq (.seq (.fin (.reg g_span_Size_1) [6, 7] []) (.fin (.cond (.s 8) (.seq (.fin (.reg g_span_Size_2) [0, 8] []) (.ret)) (.skip)) [8] [])) (.seq (.reg g_span_Size_3) i_span_Size_5))
def fn_span_Size : IFn2 RW := ⟨16, 1, 24, 32, [(24, 2)], [], [], [.slot 2], i_span_Size_6⟩
def g_span_Find_1_0 : List (IStep2 RW) := [o1 2 (.box 16 2 false (.s 0)),
  o1 3 (.mv false (.k (.sc (.bool false))))]
def g_span_Find_1_1 : List (IStep2 RW) := [o1 4 (.fld 0 (.s 2)),
  o1 5 (.load 16 0 1 false false 4),
  o1 6 (.load 14 0 1 false false 1),
  o1 7 (.bin .leq (.s 5) (.s 6)),
  o2 8 (.mv false (.s 7)),
  o3 9 8 true (.load 14 0 1 false false 1),
  o3 10 8 true (.fld 1 (.s 2)),
  o3 11 8 true (.load 16 1 1 false false 10),
  o3 12 8 true (.bin .lss (.s 9) (.s 11)),
  o1 13 (.pick (.s 8) (.s 12) (.k (.sc (.bool false)))),
  o1 3 (.mv false (.s 13))]
def i_span_Find_1_0 : IC2 RW := .seq (.fin (.reg g_span_Find_1_0) [0, 3] []) (.seq (.fin (.reg g_span_Find_1_1) [1, 2, 4, 5, 6, 7, 8, 9, 10, 11, 12, 13] [(16, 2)]) (.ret))
def fn_span_Find_1 : IFn2 RW := ⟨24, 2, 14, 32, [(14, 1), (16, 2)], [(14, 1)], [], [.slot 3], i_span_Find_1_0⟩
def g_slices_IndexFunc_Span_2 : List (IStep2 RW) := [o1 9 (.bin .lss (.s 8) (.s 7))]
def g_slices_IndexFunc_Span_3 : List (IStep2 RW) := [o1 10 (.mv false (.s 8)),
  o1 5 (.mv false (.s 10))]
def g_slices_IndexFunc_Span_4 : List (IStep2 RW) := [o1 11 (.mv false (.s 1)),
  o1 12 (.mv false (.s 0)),
  o1 13 (.mv false (.s 5)),
  o1 14 (.idx 2 (.s 12) (.s 13)),
  o1 15 (.loade 2 true 14),
  o1 16 (.callv (.s 11) 24 1014 [(false, .s 15)] [(19, 1, 14)] [])]
def g_slices_IndexFunc_Span_5 : List (IStep2 RW) := [o1 17 (.mv false (.s 5)),
  o1 4 (.mv false (.s 17))]
def g_slices_IndexFunc_Span_6 : List (IStep2 RW) := [o1 18 (.bin .add (.s 8) (.k (.sc (.int .i64 1)))),
  o1 8 (.mv false (.s 18))]
def i_slices_IndexFunc_Span_0 : IC2 RW := .seq (.reg g_slices_IndexFunc_Span_2) (.seq (.fin (.cond (.s 9) (.skip) (.clr [0, 1, 7, 8, 9] [] (.exit 0))) [9] []) (.seq (.blk 1 (.seq (.fin (.reg g_slices_IndexFunc_Span_3) [10] []) (.seq (.fin (.reg g_slices_IndexFunc_Span_4) [11, 12, 13, 14, 15] []) (.fin (.cond (.s 16) (.seq (.fin (.reg g_slices_IndexFunc_Span_5) [0, 1, 5, 7, 8, 16, 17] []) (.ret)) (.skip)) [5, 16] [])))) (.fin (.reg g_slices_IndexFunc_Span_6) [18] [])))
def i_slices_IndexFunc_Span_1 : IC2 RW := .loop i_slices_IndexFunc_Span_0
def i_slices_IndexFunc_Span_2 : IC2 RW := .blk 0 i_slices_IndexFunc_Span_1
def g_slices_IndexFunc_Span_1 : List (IStep2 RW) := [o1 6 (.mv false (.s 0)),
  o1 7 (.len false (.s 6)),
  o1 8 (.mv false (.k (.sc (.int .i64 0))))]
def i_slices_IndexFunc_Span_3 : IC2 RW := .seq (.fin (.reg g_slices_IndexFunc_Span_1) [6] []) i_slices_IndexFunc_Span_2
def g_slices_IndexFunc_Span_7 : List (IStep2 RW) := [o1 4 (.mv false (.k (.sc (.int .i64 (-1)))))]
def i_slices_IndexFunc_Span_4 : IC2 RW := .seq (.reg g_slices_IndexFunc_Span_7) (.ret)
def i_slices_IndexFunc_Span_5 : IC2 RW := .seq i_slices_IndexFunc_Span_3 i_slices_IndexFunc_Span_4
def g_slices_IndexFunc_Span_0 : List (IStep2 RW) := [o1 4 (.mv false (.k (.sc (.int .i64 0))))]
def i_slices_IndexFunc_Span_6 : IC2 RW := .seq (.fin (.reg g_slices_IndexFunc_Span_0) [4] []) i_slices_IndexFunc_Span_5
def fn_slices_IndexFunc_Span : IFn2 RW := ⟨23, 2, 19, 32, [(19, 1)], [(19, 1)], [], [.slot 4], i_slices_IndexFunc_Span_6⟩
def g_span_Find_0 : List (IStep2 RW) := [o1 3 (.box 21 1 false (.s 1)),
  o1 4 (.alloc 23 [.sc (.int .i64 0), .sc (.int .i64 0)]),
  o1 5 (.mv false (.k (.sc (.bool false))))]
def g_span_Find_1 : List (IStep2 RW) := [o1 7 (.mv false (.s 0)),
  o1 8 (.call 11 [(false, .s 7)] [] []),
  o1 9 (.bin .neq (.s 8) (.k (.sc (.int .i64 0))))]
def g_span_Find_2 : List (IStep2 RW) := [o1 10 (.build [.sc (.int .i64 0), .sc (.int .i64 0)] []),
  o0 (.store 23 0 2 false 4 (.s 10)),
  o1 5 (.mv false (.k (.sc (.bool false))))]
def g_span_Find_3 : List (IStep2 RW) := [o1 11 (.mv false (.s 0)),
  o1 12 (.mkclo 24 [.s 3]),
  o1 13 (.call 1013 [(false, .s 11), (false, .s 12)] [(21, 1, 19)] []),
  o1 6 (.mv false (.s 13))]
def g_span_Find_4 : List (IStep2 RW) := [o1 14 (.mv false (.s 6)),
  o1 15 (.bin .lss (.s 14) (.k (.sc (.int .i64 0))))]
def g_span_Find_5 : List (IStep2 RW) := [o1 16 (.build [.sc (.int .i64 0), .sc (.int .i64 0)] []),
  o0 (.store 23 0 2 false 4 (.s 16)),
  o1 5 (.mv false (.k (.sc (.bool false))))]
def g_span_Find_6 : List (IStep2 RW) := [o1 17 (.mv false (.s 0)),
  o1 18 (.mv false (.s 6)),
  o1 19 (.idx 2 (.s 17) (.s 18)),
  o1 20 (.loade 2 true 19),
  o0 (.store 23 0 2 false 4 (.s 20)),
  o1 5 (.mv false (.k (.sc (.bool true))))]
def i_span_Find_0 : IC2 RW := .seq (.fin (.reg g_span_Find_0) [1, 5] []) (.seq (.seq (.fin (.reg g_span_Find_1) [7, 8] []) (.fin (.cond (.s 9) (.seq (.fin (.reg g_span_Find_2) [0, 3, 9, 10] [(21, 1)]) (.ret)) (.skip)) [9] [])) (.seq (.fin (.reg g_span_Find_3) [3, 11, 12, 13] [(21, 1)]) (.seq (.seq (.fin (.reg g_span_Find_4) [14] []) (.fin (.cond (.s 15) (.seq (.fin (.reg g_span_Find_5) [0, 6, 15, 16] []) (.ret)) (.skip)) [15] [])) (.seq (.fin (.reg g_span_Find_6) [0, 6, 17, 18, 19, 20] []) (.ret)))))
def fn_span_Find : IFn2 RW := ⟨21, 2, 21, 32, [(21, 1), (23, 2)], [], [], [.cell 4 23 2 true, .slot 5], i_span_Find_0⟩
def g_span_Has_0 : List (IStep2 RW) := [o1 4 (.mv false (.k (.sc (.bool false))))]
def g_span_Has_1 : List (IStep2 RW) := [o1 8 (.mv false (.s 0)),
  o1 9 (.mv false (.s 1)),
  o1 10 (.call 21 [(false, .s 8), (false, .s 9)] [] []),
  o1 7 (.mv false (.s 10)),
  o1 11 (.ext false 0 (.s 7)),
  o1 12 (.ext false 1 (.s 7)),
  o1 5 (.alloc 14 [.sc (.int .i64 0), .sc (.int .i64 0)]),
  o0 (.store 14 0 2 false 5 (.s 11)),
  o1 6 (.mv false (.s 12))]
def g_span_Has_2 : List (IStep2 RW) := [o1 13 (.mv false (.s 6)),
  o1 4 (.mv false (.s 13))]
def i_span_Has_0 : IC2 RW := .seq (.fin (.reg g_span_Has_0) [4] []) (.seq (.fin (.reg g_span_Has_1) [0, 1, 5, 7, 8, 9, 10, 11, 12] [(14, 2)]) (.seq (.fin (.reg g_span_Has_2) [6, 13] []) (.ret)))
def fn_span_Has : IFn2 RW := ⟨17, 2, 14, 32, [(14, 2)], [], [], [.slot 4], i_span_Has_0⟩
def g_law06_heads_5 : List (IStep2 RW) := [o1 26 (.mv false (.s 3)),
  o1 27 (.bin .eql (.s 26) (.k (.sc (.int .i64 0)))),
  o2 28 (.mv false (.s 27)),
  o3 29 28 true (.mv false (.s 2)),
  o3 30 28 true (.build [.sc (.int .i64 0), .sc (.int .i64 0)] [(0, 1, .k (.sc (.int .i64 0))), (1, 1, .k (.sc (.int .i64 4)))]),
  o3 31 28 true (.build [.sc (.int .i64 0), .sc (.int .i64 0)] [(0, 1, .k (.sc (.int .i64 6))), (1, 1, .k (.sc (.int .i64 7)))]),
  o3 32 28 true (.bslice 24 2 [(0, 2, .s 30), (2, 2, .s 31)]),
  o3 33 28 true (.call 7 [(false, .s 29), (false, .s 32)] [] []),
  o1 34 (.pick (.s 28) (.s 33) (.k (.sc (.bool false)))),
  o2 35 (.mv false (.s 34)),
  o3 36 35 true (.mv false (.s 4)),
  o3 37 35 true (.build [.sc (.int .i64 0), .sc (.int .i64 0)] [(0, 1, .k (.sc (.int .i64 4))), (1, 1, .k (.sc (.int .i64 6)))]),
  o3 38 35 true (.bslice 24 1 [(0, 2, .s 37)]),
  o3 39 35 true (.call 7 [(false, .s 36), (false, .s 38)] [] []),
  o1 40 (.pick (.s 35) (.s 39) (.k (.sc (.bool false)))),
  o2 41 (.mv false (.s 40)),
  o3 42 41 true (.mv false (.s 6)),
  o3 43 41 true (.bin .eql (.s 42) (.k (.sc (.int .i64 60)))),
  o1 44 (.pick (.s 41) (.s 43) (.k (.sc (.bool false)))),
  o2 45 (.mv false (.s 44)),
  o3 46 45 true (.mv false (.s 2)),
  o3 47 45 true (.call 16 [(false, .s 46)] [] []),
  o3 48 45 true (.bin .eql (.s 47) (.k (.sc (.int .i64 5)))),
  o1 49 (.pick (.s 45) (.s 48) (.k (.sc (.bool false)))),
  o2 50 (.mv false (.s 49)),
  o3 51 50 true (.mv false (.s 2)),
  o3 52 50 true (.call 17 [(false, .s 51), (false, .k (.sc (.int .i64 3)))] [] []),
  o1 53 (.pick (.s 50) (.s 52) (.k (.sc (.bool false)))),
  o2 54 (.mv false (.s 53)),
  o3 55 54 true (.mv false (.s 2)),
  o3 56 54 true (.call 17 [(false, .s 55), (false, .k (.sc (.int .i64 4)))] [] []),
  o3 57 54 true (.un .not (.s 56)),
  o1 58 (.pick (.s 54) (.s 57) (.k (.sc (.bool false)))),
  o1 0 (.mv false (.s 58))]
def i_law06_heads_0 : IC2 RW := .fin (.reg g_law06_heads_5) [2, 3, 4, 6, 26, 27, 28, 29, 30, 31, 32, 33, 34, 35, 36, 37, 38, 39, 40, 41, 42, 43, 44, 45, 46, 47, 48, 49, 50, 51, 52, 53, 54, 55, 56, 57, 58] []
def i_law06_heads_1 : IC2 RW := .ret
def i_law06_heads_2 : IC2 RW := .seq i_law06_heads_0 i_law06_heads_1
def g_law06_heads_0 : List (IStep2 RW) := [o1 0 (.mv false (.k (.sc (.bool false))))]
def g_law06_heads_1 : List (IStep2 RW) := [o1 7 (.build [.sc (.int .i64 0), .sc (.int .i64 0)] [(0, 1, .k (.sc (.int .i64 0))), (1, 1, .k (.sc (.int .i64 2)))]),
  o1 8 (.build [.sc (.int .i64 0), .sc (.int .i64 0)] [(0, 1, .k (.sc (.int .i64 6))), (1, 1, .k (.sc (.int .i64 7)))]),
  o1 9 (.bslice 24 2 [(0, 2, .s 7), (2, 2, .s 8)]),
  o1 1 (.mv false (.s 9))]
def g_law06_heads_2 : List (IStep2 RW) := [o1 11 (.mv false (.s 1)),
  o1 12 (.build [.sc (.int .i64 0), .sc (.int .i64 0)] [(0, 1, .k (.sc (.int .i64 2))), (1, 1, .k (.sc (.int .i64 4)))]),
  o1 13 (.call 5 [(false, .s 11), (false, .s 12)] [] []),
  o1 10 (.mv false (.s 13)),
  o1 14 (.ext false 0 (.s 10)),
  o1 15 (.ext false 1 (.s 10)),
  o1 2 (.mv false (.s 14)),
  o1 3 (.mv false (.s 15))]
def g_law06_heads_3 : List (IStep2 RW) := [o1 16 (.mv false (.s 2)),
  o1 17 (.build [.sc (.int .i64 0), .sc (.int .i64 0)] [(0, 1, .k (.sc (.int .i64 1))), (1, 1, .k (.sc (.int .i64 7)))]),
  o1 18 (.call 15 [(false, .s 16), (false, .s 17)] [] []),
  o1 4 (.mv false (.s 18))]
def g_law06_heads_4 : List (IStep2 RW) := [o1 20 (.build [.sc (.int .i64 0), .sc (.int .i64 0)] [(0, 1, .k (.sc (.int .i64 1))), (1, 1, .k (.sc (.int .i64 1)))]),
  o1 21 (.bslice 24 1 [(0, 2, .s 20)]),
  o1 22 (.build [.sc (.int .i64 0), .sc (.int .i64 0)] []),
  o1 23 (.call 5 [(false, .s 21), (false, .s 22)] [] []),
  o1 19 (.mv false (.s 23)),
  o1 24 (.ext false 0 (.s 19)),
  o1 25 (.ext false 1 (.s 19)),
  o1 5 (.mv false (.s 24)),
  o1 6 (.mv false (.s 25))]
def i_law06_heads_3 : IC2 RW := .seq (.fin (.reg g_law06_heads_0) [0] []) (.seq (.fin (.reg g_law06_heads_1) [7, 8, 9] []) (.seq (.fin (.reg g_law06_heads_2) [1, 10, 11, 12, 13, 14, 15] []) (.seq (.fin (.reg g_law06_heads_3) [16, 17, 18] []) (.seq (.fin (.reg g_law06_heads_4) [5, 19, 20, 21, 22, 23, 24, 25] []) i_law06_heads_2))))
def fn_law06_heads : IFn2 RW := ⟨6, 0, 59, 64, [], [], [], [.slot 0], i_law06_heads_3⟩
def g_law06_SpanOrder_5 : List (IStep2 RW) := [o1 35 (.mv false (.s 7)),
  o1 36 (.load 63 0 2 true false 5),
  o1 37 (.call 5 [(false, .s 35), (false, .s 36)] [] []),
  o1 34 (.mv false (.s 37)),
  o1 38 (.ext false 0 (.s 34)),
  o1 39 (.ext false 1 (.s 34)),
  o1 11 (.mv false (.s 38)),
  o1 12 (.mv false (.s 39))]
def g_law06_SpanOrder_6 : List (IStep2 RW) := [o1 41 (.mv false (.s 9)),
  o1 42 (.load 60 0 2 true false 4),
  o1 43 (.call 5 [(false, .s 41), (false, .s 42)] [] []),
  o1 40 (.mv false (.s 43)),
  o1 44 (.ext false 0 (.s 40)),
  o1 45 (.ext false 1 (.s 40)),
  o1 13 (.mv false (.s 44)),
  o1 14 (.mv false (.s 45))]
def g_law06_SpanOrder_7 : List (IStep2 RW) := [o1 46 (.mv false (.s 12)),
  o1 47 (.bin .eql (.s 46) (.k (.sc (.int .i64 0)))),
  o2 48 (.mv false (.s 47)),
  o3 49 48 true (.mv false (.s 14)),
  o3 50 48 true (.bin .eql (.s 49) (.k (.sc (.int .i64 0)))),
  o1 51 (.pick (.s 48) (.s 50) (.k (.sc (.bool false)))),
  o2 52 (.mv false (.s 51)),
  o3 53 52 true (.mv false (.s 11)),
  o3 54 52 true (.mv false (.s 13)),
  o3 55 52 true (.call 7 [(false, .s 53), (false, .s 54)] [] []),
  o1 56 (.pick (.s 52) (.s 55) (.k (.sc (.bool false)))),
  o2 57 (.mv false (.s 56)),
  o3 58 57 true (.call 6 [] [] []),
  o1 59 (.pick (.s 57) (.s 58) (.k (.sc (.bool false)))),
  o1 6 (.mv false (.s 59))]
def i_law06_SpanOrder_0 : IC2 RW := .seq (.fin (.reg g_law06_SpanOrder_5) [5, 7, 34, 35, 36, 37, 38, 39] [(63, 2)]) (.seq (.fin (.reg g_law06_SpanOrder_6) [4, 9, 40, 41, 42, 43, 44, 45] [(60, 2)]) (.seq (.fin (.reg g_law06_SpanOrder_7) [11, 12, 13, 14, 46, 47, 48, 49, 50, 51, 52, 53, 54, 55, 56, 57, 58, 59] []) (.ret)))
def g_law06_SpanOrder_0 : List (IStep2 RW) := [o1 4 (.box 60 2 false (.s 1)),
  o1 5 (.box 63 2 false (.s 2)),
  o1 6 (.mv false (.k (.sc (.bool false))))]
def g_law06_SpanOrder_1 : List (IStep2 RW) := [o1 16 (.mv false (.s 0)),
  o1 17 (.load 60 0 2 true false 4),
  o1 18 (.call 5 [(false, .s 16), (false, .s 17)] [] []),
  o1 15 (.mv false (.s 18)),
  o1 19 (.ext false 0 (.s 15)),
  o1 20 (.ext false 1 (.s 15)),
  o1 7 (.mv false (.s 19)),
  o1 8 (.mv false (.s 20))]
def g_law06_SpanOrder_2 : List (IStep2 RW) := [o1 22 (.mv false (.s 0)),
  o1 23 (.load 63 0 2 true false 5),
  o1 24 (.call 5 [(false, .s 22), (false, .s 23)] [] []),
  o1 21 (.mv false (.s 24)),
  o1 25 (.ext false 0 (.s 21)),
  o1 26 (.ext false 1 (.s 21)),
  o1 9 (.mv false (.s 25)),
  o1 10 (.mv false (.s 26))]
def g_law06_SpanOrder_3 : List (IStep2 RW) := [o1 27 (.mv false (.s 8)),
  o1 28 (.bin .neq (.s 27) (.k (.sc (.int .i64 0)))),
  o2 29 (.mv false (.s 28)),
  o3 30 29 false (.mv false (.s 10)),
  o3 31 29 false (.bin .neq (.s 30) (.k (.sc (.int .i64 0)))),
  o1 32 (.pick (.s 29) (.k (.sc (.bool true))) (.s 31))]
def g_law06_SpanOrder_4 : List (IStep2 RW) := [o1 33 (.call 6 [] [] []),
  o1 6 (.mv false (.s 33))]
def i_law06_SpanOrder_1 : IC2 RW := .seq (.fin (.reg g_law06_SpanOrder_0) [1, 2, 6] []) (.seq (.fin (.reg g_law06_SpanOrder_1) [15, 16, 17, 18, 19, 20] []) (.seq (.fin (.reg g_law06_SpanOrder_2) [0, 21, 22, 23, 24, 25, 26] []) (.seq (.seq (.fin (.reg g_law06_SpanOrder_3) [8, 10, 27, 28, 29, 30, 31] []) (.fin (.cond (.s 32) (.seq (.fin (.reg g_law06_SpanOrder_4) [4, 5, 7, 9, 32, 33] [(60, 2), (63, 2)]) (.ret)) (.skip)) [32] [])) i_law06_SpanOrder_0)))
def fn_law06_SpanOrder : IFn2 RW := ⟨3, 3, 60, 80, [(60, 2), (63, 2)], [], [], [.slot 6], i_law06_SpanOrder_1⟩
/-! tideway/span.may -/
theorem run_span_may {R : Type} (cp : Nat → Nat → Bool) (n : Nat) (p0 : SSpan) (k : Ret2 RW → Option R) : G_span_may cp (n + 1) p0 (fun r0 => k ⟨(tB r0), [], []⟩) = run2 U cp (callP cp n) n fn_span_may [.agg (eSpan p0)] [] k := by kernel_rfl
/-! tideway/span.Check -/
def fr_span_Check_2 (p0 : (List SSpan)) : FF := [(.row false (.rSpan p0)) :: (dT 15 []), dc, dc]
def fr_span_Check_4 (p0 : (List SSpan)) (v1 : Int) : FF := [(.row false (.rSpan p0)) :: (dT 4 ((.row false (.rSpan p0)) :: (tL v1) :: (tL 0) :: (dT 8 []))), dc, dc]
def fr_span_Check_6 (p0 : (List SSpan)) (v1 v4 : Int) : FF := [(.row false (.rSpan p0)) :: (dT 4 ((.row false (.rSpan p0)) :: (tL v1) :: (tL v4) :: (dT 8 []))), dc, dc]
def fr_span_Check_7 : FF := [dT 2 ((tL 60) :: (dT 13 [])), dc, dc]
def fr_span_Check_8 : FF := [dc, dc, dc]
def fr_span_Check_9 (p0 : (List SSpan)) (v1 v2 : Int) : FF := [(.row false (.rSpan p0)) :: (dT 4 ((.row false (.rSpan p0)) :: (tL v1) :: (tL v2) :: (dT 8 []))), dc, dc]
theorem s_span_Check_5_t {R : Type} (cp : Nat → Nat → Bool) (n : Nat) (p0 : (List SSpan)) (v1 v2 : Int) (k : Ex → FF → Option R) : X cp n i_span_Check_0 (fr_span_Check_9 p0 v1 v2) k = s_span_Check_5 cp n p0 v1 v2 (fun v4 => k .norm (fr_span_Check_6 p0 v1 v4)) (k .ret fr_span_Check_7) (k (.exit 0) fr_span_Check_8) := by kernel_rfl
theorem l_span_Check_10_t {R : Type} (cp : Nat → Nat → Bool) (n : Nat) : ∀ (m : Nat) (p0 : (List SSpan)) (v1 v2 : Int) (k : Ex → FF → Option R), loopN2 (X cp n i_span_Check_0) m (fr_span_Check_9 p0 v1 v2) k = l_span_Check_10 cp n m p0 v1 v2 (k .ret fr_span_Check_7) (k (.exit 0) fr_span_Check_8)
  | 0, _, _, _, _ => rfl
  | m + 1, p0, v1, v2, k => (loopN2_succ (X cp n i_span_Check_0) m (fr_span_Check_9 p0 v1 v2) k).trans ((s_span_Check_5_t cp n p0 v1 v2 (loopT (X cp n i_span_Check_0) m k)).trans ((show s_span_Check_5 cp n p0 v1 v2 (fun v4 => loopT (X cp n i_span_Check_0) m k .norm (fr_span_Check_6 p0 v1 v4)) (loopT (X cp n i_span_Check_0) m k .ret fr_span_Check_7) (loopT (X cp n i_span_Check_0) m k (.exit 0) fr_span_Check_8) = s_span_Check_5 cp n p0 v1 v2 (fun v4 => loopN2 (X cp n i_span_Check_0) m (fr_span_Check_9 p0 v1 v4) k) (k .ret fr_span_Check_7) (k (.exit 0) fr_span_Check_8) from by kernel_rfl).trans (congrArg (fun q => s_span_Check_5 cp n p0 v1 v2 q (k .ret fr_span_Check_7) (k (.exit 0) fr_span_Check_8)) (funext fun v4 => l_span_Check_10_t cp n m p0 v1 v4 k))))
theorem s_span_Check_11_t {R : Type} (cp : Nat → Nat → Bool) (n : Nat) (p0 : (List SSpan)) (v1 : Int) (k : Ex → FF → Option R) : X cp n i_span_Check_1 (fr_span_Check_4 p0 v1) k = s_span_Check_11 cp n p0 v1 (k .ret fr_span_Check_7) (k (.exit 0) fr_span_Check_8) := (show X cp n i_span_Check_1 (fr_span_Check_4 p0 v1) k = loopN2 (X cp n i_span_Check_0) n (fr_span_Check_9 p0 v1 0) k from by kernel_rfl).trans (l_span_Check_10_t cp n n p0 v1 0 k)
theorem s_span_Check_12_t {R : Type} (cp : Nat → Nat → Bool) (n : Nat) (p0 : (List SSpan)) (v1 : Int) (k : Ex → FF → Option R) : X cp n i_span_Check_2 (fr_span_Check_4 p0 v1) k = s_span_Check_12 cp n p0 v1 (k .norm fr_span_Check_8) (k .ret fr_span_Check_7) := (show X cp n i_span_Check_2 (fr_span_Check_4 p0 v1) k = X cp n i_span_Check_1 (fr_span_Check_4 p0 v1) (blkT 0 k) from by kernel_rfl).trans ((s_span_Check_11_t cp n p0 v1 (blkT 0 k)).trans (by kernel_rfl))
theorem s_span_Check_13_t {R : Type} (cp : Nat → Nat → Bool) (n : Nat) (p0 : (List SSpan)) (k : Ex → FF → Option R) : X cp n i_span_Check_3 (fr_span_Check_2 p0) k = s_span_Check_13 cp n p0 (k .norm fr_span_Check_8) (k .ret fr_span_Check_7) := ((fun c => (show X cp n (.seq (.reg g_span_Check_1) c) (fr_span_Check_2 p0) k = s_span_Check_3 cp n p0 (fun v1 => X cp n c (fr_span_Check_4 p0 v1) k) from by kernel_rfl)) i_span_Check_2).trans (congrArg (fun q => s_span_Check_3 cp n p0 q) (funext fun v1 => s_span_Check_12_t cp n p0 v1 k))
def fr_span_Check_15 : FF := [dT 2 ((tL 0) :: (dT 13 [])), dc, dc]
theorem s_span_Check_14_t {R : Type} (cp : Nat → Nat → Bool) (n : Nat) (k : Ex → FF → Option R) : X cp n i_span_Check_4 fr_span_Check_8 k = s_span_Check_14 cp n (k .ret fr_span_Check_15) := by kernel_rfl
def fr_span_Check_16 (v5 : Int) : FF := [dT 2 ((tL v5) :: (dT 13 [])), dc, dc]
theorem s_span_Check_17_t {R : Type} (cp : Nat → Nat → Bool) (n : Nat) (p0 : (List SSpan)) (k : Ex → FF → Option R) : X cp n i_span_Check_5 (fr_span_Check_2 p0) k = s_span_Check_17 cp n p0 (fun v5 => k .ret (fr_span_Check_16 v5)) := (show X cp n i_span_Check_5 (fr_span_Check_2 p0) k = X cp n i_span_Check_3 (fr_span_Check_2 p0) (seqT (X cp n) i_span_Check_4 k) from by kernel_rfl).trans ((show X cp n i_span_Check_3 (fr_span_Check_2 p0) (seqT (X cp n) i_span_Check_4 k) = s_span_Check_13 cp n p0 (X cp n i_span_Check_4 fr_span_Check_8 k) (k .ret (fr_span_Check_16 60)) from (s_span_Check_13_t cp n p0 (seqT (X cp n) i_span_Check_4 k)).trans (by kernel_rfl)).trans (congrArg (fun q => s_span_Check_13 cp n p0 q (k .ret (fr_span_Check_16 60))) ((s_span_Check_14_t cp n  k).trans (show s_span_Check_14 cp n (k .ret fr_span_Check_15) = s_span_Check_14 cp n (k .ret (fr_span_Check_16 0)) from by kernel_rfl))))
def fr_span_Check_18 (v6 : Int) : FF := [dT 2 ((tL v6) :: (dT 13 [])), dc, dc]
theorem s_span_Check_19_t {R : Type} (cp : Nat → Nat → Bool) (n : Nat) (p0 : (List SSpan)) (k : Ex → FF → Option R) : X cp n i_span_Check_6 (fr_span_Check_2 p0) k = s_span_Check_19 cp n p0 (fun v6 => k .ret (fr_span_Check_18 v6)) := ((fun c => (show X cp n (.seq (.fin (.reg g_span_Check_0) [2] []) c) (fr_span_Check_2 p0) k = s_span_Check_1 cp n p0 (X cp n c (fr_span_Check_2 p0) k) from by kernel_rfl)) i_span_Check_5).trans (congrArg (fun q => s_span_Check_1 cp n p0 q) ((s_span_Check_17_t cp n p0 k).trans (show s_span_Check_17 cp n p0 (fun v5 => k .ret (fr_span_Check_16 v5)) = s_span_Check_17 cp n p0 (fun v5 => k .ret (fr_span_Check_18 v5)) from by kernel_rfl)))
theorem run_span_Check {R : Type} (cp : Nat → Nat → Bool) (n : Nat) (p0 : (List SSpan)) (k : Ret2 RW → Option R) : G_span_Check cp (n + 1) p0 (fun r0 => k ⟨(tL r0), [], []⟩) = run2 U cp (callP cp n) n fn_span_Check [.row false (.rSpan p0)] [] k := ((X_run (f := fn_span_Check) (av := [.row false (.rSpan p0)]) (cells := []) (code := i_span_Check_6) (fr := (fr_span_Check_2 p0)) (k := k) (by kernel_rfl) (fun K => by kernel_rfl)).trans ((s_span_Check_19_t cp n p0 (finK2 fn_span_Check k)).trans (by kernel_rfl))).symm
/-! tideway/span.right -/
theorem run_span_right {R : Type} (cp : Nat → Nat → Bool) (n : Nat) (p0 : (List SSpan)) (p1 : SSpan) (k : Ret2 RW → Option R) : G_span_right cp (n + 1) p0 p1 (fun r0 => k ⟨(tL r0), [], []⟩) = run2 U cp (callP cp n) n fn_span_right [.row false (.rSpan p0), .agg (eSpan p1)] [] k := by kernel_rfl
/-! tideway/span.Add -/
def fr_span_Add_2 (p0 : (List SSpan)) (p1 : SSpan) : FF := [(.row false (.rSpan p0)) :: (dT 2 ((.ptr 87 0) :: (dT 3 ((.row true (.rSpan [])) :: (tL 0) :: (dT 7 []))))), dc, dc, dc, dc, dT 7 ((.hdr 2) :: ((eSpan p1) ++ (dT 6 [])))]
def fr_span_Add_3 (v16 : (List SSpan)) (v17 : Int) : FF := [dT 4 ((.row false (.rSpan v16)) :: (tL v17) :: (dT 10 [])), dc, dc, dc, dc, dc]
def fr_span_Add_5 (p0 : (List SSpan)) (p1 : SSpan) (v20 : (List SSpan)) (v21 : Int) : FF := [(.row false (.rSpan p0)) :: (dT 2 ((.ptr 87 0) :: (dT 3 ((.row true (.rSpan v20)) :: (tL v21) :: (dT 7 []))))), dc, dc, dc, dc, dT 7 ((.hdr 2) :: ((eSpan p1) ++ (dT 6 [])))]
def fr_span_Add_6 (p0 : (List SSpan)) (p1 : SSpan) (v18 : (List SSpan)) (v19 : Int) : FF := [(.row false (.rSpan p0)) :: (dT 2 ((.ptr 87 0) :: (dT 3 ((.row true (.rSpan v18)) :: (tL v19) :: (dT 7 []))))), dc, dc, dc, dc, dT 7 ((.hdr 2) :: ((eSpan p1) ++ (dT 6 [])))]
theorem s_span_Add_4_t {R : Type} (cp : Nat → Nat → Bool) (n : Nat) (p0 : (List SSpan)) (p1 : SSpan) (v18 : (List SSpan)) (v19 : Int) (k : Ex → FF → Option R) : X cp n i_span_Add_0 (fr_span_Add_6 p0 p1 v18 v19) k = s_span_Add_4 cp n p0 p1 v18 v19 (fun v20 v21 => k .norm (fr_span_Add_5 p0 p1 v20 v21)) (k (.exit 0) (fr_span_Add_6 p0 p1 v18 v19)) := by kernel_rfl
def fr_span_Add_7 (p0 : (List SSpan)) (p1 : SSpan) (v22 : (List SSpan)) (v23 : Int) : FF := [(.row false (.rSpan p0)) :: (dT 2 ((.ptr 87 0) :: (dT 3 ((.row true (.rSpan v22)) :: (tL v23) :: (dT 7 []))))), dc, dc, dc, dc, dT 7 ((.hdr 2) :: ((eSpan p1) ++ (dT 6 [])))]
theorem l_span_Add_8_t {R : Type} (cp : Nat → Nat → Bool) (n : Nat) : ∀ (m : Nat) (p0 : (List SSpan)) (p1 : SSpan) (v18 : (List SSpan)) (v19 : Int) (k : Ex → FF → Option R), loopN2 (X cp n i_span_Add_0) m (fr_span_Add_6 p0 p1 v18 v19) k = l_span_Add_8 cp n m p0 p1 v18 v19 (fun v22 v23 => k (.exit 0) (fr_span_Add_7 p0 p1 v22 v23))
  | 0, _, _, _, _, _ => rfl
  | m + 1, p0, p1, v18, v19, k => (loopN2_succ (X cp n i_span_Add_0) m (fr_span_Add_6 p0 p1 v18 v19) k).trans ((s_span_Add_4_t cp n p0 p1 v18 v19 (loopT (X cp n i_span_Add_0) m k)).trans ((show s_span_Add_4 cp n p0 p1 v18 v19 (fun v20 v21 => loopT (X cp n i_span_Add_0) m k .norm (fr_span_Add_5 p0 p1 v20 v21)) (loopT (X cp n i_span_Add_0) m k (.exit 0) (fr_span_Add_6 p0 p1 v18 v19)) = s_span_Add_4 cp n p0 p1 v18 v19 (fun v20 v21 => loopN2 (X cp n i_span_Add_0) m (fr_span_Add_6 p0 p1 v20 v21) k) (k (.exit 0) (fr_span_Add_7 p0 p1 v18 v19)) from by kernel_rfl).trans (congrArg (fun q => s_span_Add_4 cp n p0 p1 v18 v19 q (k (.exit 0) (fr_span_Add_7 p0 p1 v18 v19))) (funext fun v20 => funext fun v21 => l_span_Add_8_t cp n m p0 p1 v20 v21 k))))
theorem s_span_Add_9_t {R : Type} (cp : Nat → Nat → Bool) (n : Nat) (p0 : (List SSpan)) (p1 : SSpan) (k : Ex → FF → Option R) : X cp n i_span_Add_1 (fr_span_Add_2 p0 p1) k = s_span_Add_9 cp n p0 p1 (fun v22 v23 => k (.exit 0) (fr_span_Add_7 p0 p1 v22 v23)) := (show X cp n i_span_Add_1 (fr_span_Add_2 p0 p1) k = loopN2 (X cp n i_span_Add_0) n (fr_span_Add_6 p0 p1 [] 0) k from by kernel_rfl).trans (l_span_Add_8_t cp n n p0 p1 [] 0 k)
def fr_span_Add_10 (p0 : (List SSpan)) (p1 : SSpan) (v24 : (List SSpan)) (v25 : Int) : FF := [(.row false (.rSpan p0)) :: (dT 2 ((.ptr 87 0) :: (dT 3 ((.row true (.rSpan v24)) :: (tL v25) :: (dT 7 []))))), dc, dc, dc, dc, dT 7 ((.hdr 2) :: ((eSpan p1) ++ (dT 6 [])))]
theorem s_span_Add_11_t {R : Type} (cp : Nat → Nat → Bool) (n : Nat) (p0 : (List SSpan)) (p1 : SSpan) (k : Ex → FF → Option R) : X cp n i_span_Add_2 (fr_span_Add_2 p0 p1) k = s_span_Add_11 cp n p0 p1 (fun v24 v25 => k .norm (fr_span_Add_10 p0 p1 v24 v25)) := (show X cp n i_span_Add_2 (fr_span_Add_2 p0 p1) k = X cp n i_span_Add_1 (fr_span_Add_2 p0 p1) (blkT 0 k) from by kernel_rfl).trans ((s_span_Add_9_t cp n p0 p1 (blkT 0 k)).trans (by kernel_rfl))
def fr_span_Add_13 (p0 v24 : (List SSpan)) (v29 v30 v31 : Int) : FF := [(.row false (.rSpan p0)) :: (dT 2 ((.ptr 87 0) :: (dT 3 ((.row true (.rSpan v24)) :: (tL v29) :: (dT 7 []))))), dc, dc, dc, dc, dT 7 ((.hdr 2) :: (tL v30) :: (tL v31) :: (dT 6 []))]
def fr_span_Add_14 (p0 v24 : (List SSpan)) (v26 v27 v28 : Int) : FF := [(.row false (.rSpan p0)) :: (dT 2 ((.ptr 87 0) :: (dT 3 ((.row true (.rSpan v24)) :: (tL v26) :: (dT 7 []))))), dc, dc, dc, dc, dT 7 ((.hdr 2) :: (tL v27) :: (tL v28) :: (dT 6 []))]
theorem s_span_Add_12_t {R : Type} (cp : Nat → Nat → Bool) (n : Nat) (p0 v24 : (List SSpan)) (v26 v27 v28 : Int) (k : Ex → FF → Option R) : X cp n i_span_Add_3 (fr_span_Add_14 p0 v24 v26 v27 v28) k = s_span_Add_12 cp n p0 v24 v26 v27 v28 (fun v29 v30 v31 => k .norm (fr_span_Add_13 p0 v24 v29 v30 v31)) (k (.exit 2) (fr_span_Add_14 p0 v24 v26 v27 v28)) := by kernel_rfl
def fr_span_Add_15 (p0 v24 : (List SSpan)) (v32 v33 v34 : Int) : FF := [(.row false (.rSpan p0)) :: (dT 2 ((.ptr 87 0) :: (dT 3 ((.row true (.rSpan v24)) :: (tL v32) :: (dT 7 []))))), dc, dc, dc, dc, dT 7 ((.hdr 2) :: (tL v33) :: (tL v34) :: (dT 6 []))]
theorem l_span_Add_16_t {R : Type} (cp : Nat → Nat → Bool) (n : Nat) : ∀ (m : Nat) (p0 v24 : (List SSpan)) (v26 v27 v28 : Int) (k : Ex → FF → Option R), loopN2 (X cp n i_span_Add_3) m (fr_span_Add_14 p0 v24 v26 v27 v28) k = l_span_Add_16 cp n m p0 v24 v26 v27 v28 (fun v32 v33 v34 => k (.exit 2) (fr_span_Add_15 p0 v24 v32 v33 v34))
  | 0, _, _, _, _, _, _ => rfl
  | m + 1, p0, v24, v26, v27, v28, k => (loopN2_succ (X cp n i_span_Add_3) m (fr_span_Add_14 p0 v24 v26 v27 v28) k).trans ((s_span_Add_12_t cp n p0 v24 v26 v27 v28 (loopT (X cp n i_span_Add_3) m k)).trans ((show s_span_Add_12 cp n p0 v24 v26 v27 v28 (fun v29 v30 v31 => loopT (X cp n i_span_Add_3) m k .norm (fr_span_Add_13 p0 v24 v29 v30 v31)) (loopT (X cp n i_span_Add_3) m k (.exit 2) (fr_span_Add_14 p0 v24 v26 v27 v28)) = s_span_Add_12 cp n p0 v24 v26 v27 v28 (fun v29 v30 v31 => loopN2 (X cp n i_span_Add_3) m (fr_span_Add_14 p0 v24 v29 v30 v31) k) (k (.exit 2) (fr_span_Add_15 p0 v24 v26 v27 v28)) from by kernel_rfl).trans (congrArg (fun q => s_span_Add_12 cp n p0 v24 v26 v27 v28 q (k (.exit 2) (fr_span_Add_15 p0 v24 v26 v27 v28))) (funext fun v29 => funext fun v30 => funext fun v31 => l_span_Add_16_t cp n m p0 v24 v29 v30 v31 k))))
theorem s_span_Add_17_t {R : Type} (cp : Nat → Nat → Bool) (n : Nat) (p0 : (List SSpan)) (p1 : SSpan) (v24 : (List SSpan)) (v25 : Int) (k : Ex → FF → Option R) : X cp n i_span_Add_4 (fr_span_Add_10 p0 p1 v24 v25) k = s_span_Add_17 cp n p0 p1 v24 v25 (fun v32 v33 v34 => k (.exit 2) (fr_span_Add_15 p0 v24 v32 v33 v34)) := (show X cp n i_span_Add_4 (fr_span_Add_10 p0 p1 v24 v25) k = loopN2 (X cp n i_span_Add_3) n (fr_span_Add_14 p0 v24 v25 p1.xFrom p1.xTo) k from by kernel_rfl).trans (l_span_Add_16_t cp n n p0 v24 v25 p1.xFrom p1.xTo k)
def fr_span_Add_18 (p0 v24 : (List SSpan)) (v35 v36 v37 : Int) : FF := [(.row false (.rSpan p0)) :: (dT 2 ((.ptr 87 0) :: (dT 3 ((.row true (.rSpan v24)) :: (tL v35) :: (dT 7 []))))), dc, dc, dc, dc, dT 7 ((.hdr 2) :: (tL v36) :: (tL v37) :: (dT 6 []))]
theorem s_span_Add_19_t {R : Type} (cp : Nat → Nat → Bool) (n : Nat) (p0 : (List SSpan)) (p1 : SSpan) (v24 : (List SSpan)) (v25 : Int) (k : Ex → FF → Option R) : X cp n i_span_Add_5 (fr_span_Add_10 p0 p1 v24 v25) k = s_span_Add_19 cp n p0 p1 v24 v25 (fun v35 v36 v37 => k .norm (fr_span_Add_18 p0 v24 v35 v36 v37)) := (show X cp n i_span_Add_5 (fr_span_Add_10 p0 p1 v24 v25) k = X cp n i_span_Add_4 (fr_span_Add_10 p0 p1 v24 v25) (blkT 2 k) from by kernel_rfl).trans ((s_span_Add_17_t cp n p0 p1 v24 v25 (blkT 2 k)).trans (by kernel_rfl))
def fr_span_Add_21 (v38 : (List SSpan)) : FF := [dT 4 ((.row false (.rSpan v38)) :: (tL 0) :: (dT 10 [])), dc, dc, dc, dc, dc]
theorem s_span_Add_20_t {R : Type} (cp : Nat → Nat → Bool) (n : Nat) (p0 v24 : (List SSpan)) (v35 v36 v37 : Int) (k : Ex → FF → Option R) : X cp n i_span_Add_6 (fr_span_Add_18 p0 v24 v35 v36 v37) k = s_span_Add_20 cp n p0 v24 v35 v36 v37 (fun v38 => k .ret (fr_span_Add_21 v38)) := by kernel_rfl
def fr_span_Add_22 (v39 : (List SSpan)) : FF := [dT 4 ((.row false (.rSpan v39)) :: (tL 0) :: (dT 10 [])), dc, dc, dc, dc, dc]
theorem s_span_Add_23_t {R : Type} (cp : Nat → Nat → Bool) (n : Nat) (p0 : (List SSpan)) (p1 : SSpan) (v24 : (List SSpan)) (v25 : Int) (k : Ex → FF → Option R) : X cp n i_span_Add_7 (fr_span_Add_10 p0 p1 v24 v25) k = s_span_Add_23 cp n p0 p1 v24 v25 (fun v39 => k .ret (fr_span_Add_22 v39)) := (show X cp n i_span_Add_7 (fr_span_Add_10 p0 p1 v24 v25) k = X cp n i_span_Add_5 (fr_span_Add_10 p0 p1 v24 v25) (seqT (X cp n) i_span_Add_6 k) from by kernel_rfl).trans ((show X cp n i_span_Add_5 (fr_span_Add_10 p0 p1 v24 v25) (seqT (X cp n) i_span_Add_6 k) = s_span_Add_19 cp n p0 p1 v24 v25 (fun v35 v36 v37 => X cp n i_span_Add_6 (fr_span_Add_18 p0 v24 v35 v36 v37) k) from (s_span_Add_19_t cp n p0 p1 v24 v25 (seqT (X cp n) i_span_Add_6 k)).trans (by kernel_rfl)).trans (congrArg (fun q => s_span_Add_19 cp n p0 p1 v24 v25 q) (funext fun v35 => funext fun v36 => funext fun v37 => (s_span_Add_20_t cp n p0 v24 v35 v36 v37 k).trans (show s_span_Add_20 cp n p0 v24 v35 v36 v37 (fun v38 => k .ret (fr_span_Add_21 v38)) = s_span_Add_20 cp n p0 v24 v35 v36 v37 (fun v38 => k .ret (fr_span_Add_22 v38)) from by kernel_rfl))))
def fr_span_Add_24 (v40 : (List SSpan)) : FF := [dT 4 ((.row false (.rSpan v40)) :: (tL 0) :: (dT 10 [])), dc, dc, dc, dc, dc]
theorem s_span_Add_25_t {R : Type} (cp : Nat → Nat → Bool) (n : Nat) (p0 : (List SSpan)) (p1 : SSpan) (k : Ex → FF → Option R) : X cp n i_span_Add_8 (fr_span_Add_2 p0 p1) k = s_span_Add_25 cp n p0 p1 (fun v40 => k .ret (fr_span_Add_24 v40)) := (show X cp n i_span_Add_8 (fr_span_Add_2 p0 p1) k = X cp n i_span_Add_2 (fr_span_Add_2 p0 p1) (seqT (X cp n) i_span_Add_7 k) from by kernel_rfl).trans ((show X cp n i_span_Add_2 (fr_span_Add_2 p0 p1) (seqT (X cp n) i_span_Add_7 k) = s_span_Add_11 cp n p0 p1 (fun v24 v25 => X cp n i_span_Add_7 (fr_span_Add_10 p0 p1 v24 v25) k) from (s_span_Add_11_t cp n p0 p1 (seqT (X cp n) i_span_Add_7 k)).trans (by kernel_rfl)).trans (congrArg (fun q => s_span_Add_11 cp n p0 p1 q) (funext fun v24 => funext fun v25 => (s_span_Add_23_t cp n p0 p1 v24 v25 k).trans (show s_span_Add_23 cp n p0 p1 v24 v25 (fun v39 => k .ret (fr_span_Add_22 v39)) = s_span_Add_23 cp n p0 p1 v24 v25 (fun v39 => k .ret (fr_span_Add_24 v39)) from by kernel_rfl))))
def fr_span_Add_26 (v41 : (List SSpan)) (v42 : Int) : FF := [dT 4 ((.row false (.rSpan v41)) :: (tL v42) :: (dT 10 [])), dc, dc, dc, dc, dc]
def fr_span_Add_28 (p0 : (List SSpan)) (p1 : SSpan) : FF := [(.row false (.rSpan p0)) :: (.agg (eSpan p1)) :: (dT 14 []), dc, dc, dc, dc, dc]
theorem s_span_Add_27_t {R : Type} (cp : Nat → Nat → Bool) (n : Nat) (p0 : (List SSpan)) (p1 : SSpan) (k : Ex → FF → Option R) : X cp n i_span_Add_9 (fr_span_Add_28 p0 p1) k = s_span_Add_27 cp n p0 p1 (fun v41 v42 => k .ret (fr_span_Add_26 v41 v42)) := ((fun c => (show X cp n (.seq (.fin (.reg g_span_Add_0) [1, 4, 5] []) (.seq (.seq (.fin (.reg g_span_Add_1) [9, 10, 11] []) (.seq (.fin (.reg g_span_Add_2) [12] []) (.fin (.cond (.s 13) (.seq (.fin (.reg g_span_Add_3) [0, 3, 6, 13, 14] [(87, 2)]) (.ret)) (.skip)) [6, 13] []))) (.seq (.seq (.fin (.reg g_span_Add_4) [15, 16, 17, 18] []) (.fin (.cond (.s 19) (.seq (.fin (.reg g_span_Add_5) [0, 3, 19, 20, 21] [(87, 2)]) (.ret)) (.skip)) [19] [])) (.seq (.reg g_span_Add_6) (.seq (.reg g_span_Add_7) c))))) (fr_span_Add_28 p0 p1) k = s_span_Add_1 cp n p0 p1 (X cp n c (fr_span_Add_2 p0 p1) k) (fun v16 v17 => k .ret (fr_span_Add_26 v16 v17)) from by kernel_rfl)) i_span_Add_8).trans (congrArg (fun q => s_span_Add_1 cp n p0 p1 q (fun v16 v17 => k .ret (fr_span_Add_26 v16 v17))) ((s_span_Add_25_t cp n p0 p1 k).trans (show s_span_Add_25 cp n p0 p1 (fun v40 => k .ret (fr_span_Add_24 v40)) = s_span_Add_25 cp n p0 p1 (fun v40 => k .ret (fr_span_Add_26 v40 0)) from by kernel_rfl)))
theorem run_span_Add {R : Type} (cp : Nat → Nat → Bool) (n : Nat) (p0 : (List SSpan)) (p1 : SSpan) (k : Ret2 RW → Option R) : G_span_Add cp (n + 1) p0 p1 (fun r0 r1 => k ⟨.tup [.row false (.rSpan r0), (tL r1)], [], []⟩) = run2 U cp (callP cp n) n fn_span_Add [.row false (.rSpan p0), .agg (eSpan p1)] [] k := ((X_run (f := fn_span_Add) (av := [.row false (.rSpan p0), .agg (eSpan p1)]) (cells := []) (code := i_span_Add_9) (fr := (fr_span_Add_28 p0 p1)) (k := k) (by kernel_rfl) (fun K => by kernel_rfl)).trans ((s_span_Add_27_t cp n p0 p1 (finK2 fn_span_Add k)).trans (by kernel_rfl))).symm
/-! tideway/span.within -/
theorem run_span_within {R : Type} (cp : Nat → Nat → Bool) (n : Nat) (p0 : (List SSpan)) (p1 : SSpan) (k : Ret2 RW → Option R) : G_span_within cp (n + 1) p0 p1 (fun r0 r1 => k ⟨.clo 22 [(6, 0), (8, 0)], [], [[.row false (.rSpan r0)], (eSpan r1)]⟩) = run2 U cp (callP cp n) n fn_span_within [.row false (.rSpan p0), .agg (eSpan p1)] [] k := by kernel_rfl
/-! tideway/span.Gaps -/
def fr_span_Gaps_2 (p0 : (List SSpan)) (p1 : SSpan) : FF := [(.row false (.rSpan p0)) :: (dT 2 ((.ptr 64 0) :: (dT 1 ((.ptr 67 0) :: (.ptr 69 0) :: (dT 9 []))))), dc, dc, dc, (.hdr 2) :: ((eSpan p1) ++ ((.hdr 1) :: (.row true (.rSpan [])) :: (.hdr 1) :: (tL p1.xFrom) :: (dT 9 []))), dc]
def fr_span_Gaps_3 : FF := [dT 4 ((.row false (.rSpan [])) :: (dT 11 [])), dc, dc, dc, dc, dc]
def fr_span_Gaps_5 (p1 : SSpan) (v54 : (List SSpan)) (v55 v56 : Int) : FF := [dT 3 ((.ptr 64 0) :: (dT 1 ((.ptr 67 0) :: (.ptr 69 0) :: (dT 9 [])))), dT 6 ((.clo 22 [(74, 0), (76, 0)]) :: (dT 9 [])), dc, dc, (.hdr 2) :: ((eSpan p1) ++ ((.hdr 1) :: (.row true (.rSpan [])) :: (.hdr 1) :: (tL p1.xFrom) :: (dT 3 ((.hdr 1) :: (.row false (.rSpan v54)) :: (.hdr 2) :: (tL v55) :: (tL v56) :: (dT 1 []))))), dc]
def fr_span_Gaps_7 : FF := [dT 3 ((.ptr 64 0) :: (dT 1 ((.ptr 67 0) :: (.ptr 69 0) :: (dT 9 [])))), dT 6 ((.clo 22 [(74, 0), (76, 0)]) :: (dT 9 [])), dc, dc, dc, dc]
def y_span_Gaps_6 {R : Type} (cp : Nat → Nat → Bool) (n : Nat) : List (TV RW) → FF → (FF → Option R) → Option R := rndT 4 [23] [64, 67, 69, 74, 76, 79, 82] fr_span_Gaps_7 (X cp n i_span_Gaps_2)
def fr_span_Gaps_9 (p1 : SSpan) (v54 : (List SSpan)) (v55 v56 v57 : Int) : FF := [.yld :: (dT 1 ((.ptr 76 0) :: (dT 4 ((.row false (.rSpan v54)) :: (tL v57) :: (tL 0) :: (dT 6 []))))), dc, dc, dc, (.hdr 2) :: ((eSpan p1) ++ ((.hdr 1) :: (.row true (.rSpan [])) :: (.hdr 1) :: (tL p1.xFrom) :: (dT 3 ((.hdr 1) :: (.row false (.rSpan v54)) :: (.hdr 2) :: (tL v55) :: (tL v56) :: (dT 1 []))))), dc]
def fr_span_Gaps_11 (p1 : SSpan) (v54 : (List SSpan)) (v55 v56 v57 v58 : Int) (v59 : (List SSpan)) (v60 : Int) : FF := [.yld :: (dT 1 ((.ptr 76 0) :: (dT 4 ((.row false (.rSpan v54)) :: (tL v57) :: (tL v58) :: (dT 6 []))))), dc, dc, dc, (.hdr 2) :: ((eSpan p1) ++ ((.hdr 1) :: (.row true (.rSpan v59)) :: (.hdr 1) :: (tL v60) :: (dT 3 ((.hdr 1) :: (.row false (.rSpan v54)) :: (.hdr 2) :: (tL v55) :: (tL v56) :: (dT 1 []))))), dc]
def fr_span_Gaps_12 (p1 : SSpan) (v54 : (List SSpan)) (v55 v56 : Int) (v59 : (List SSpan)) (v60 : Int) : FF := [dc, dc, dc, dc, (.hdr 2) :: ((eSpan p1) ++ ((.hdr 1) :: (.row true (.rSpan v59)) :: (.hdr 1) :: (tL v60) :: (dT 3 ((.hdr 1) :: (.row false (.rSpan v54)) :: (.hdr 2) :: (tL v55) :: (tL v56) :: (dT 1 []))))), dc]
def fr_span_Gaps_14 (p1 : SSpan) (v54 : (List SSpan)) (v55 v56 v57 v58 : Int) (v59 : (List SSpan)) (v60 v61 v62 : Int) : FF := [.yld :: (dT 1 ((.ptr 76 0) :: (dT 3 ((.ptr 82 0) :: (.row false (.rSpan v54)) :: (tL v57) :: (tL v58) :: (dT 6 []))))), dc, dc, dc, (.hdr 2) :: ((eSpan p1) ++ ((.hdr 1) :: (.row true (.rSpan v59)) :: (.hdr 1) :: (tL v60) :: (dT 3 ((.hdr 1) :: (.row false (.rSpan v54)) :: (.hdr 2) :: (tL v55) :: (tL v56) :: (dT 1 []))))), dT 2 ((.hdr 2) :: (tL v61) :: (tL v62) :: (dT 11 []))]
def fr_span_Gaps_16 (p1 : SSpan) (v54 : (List SSpan)) (v55 v56 v57 v58 : Int) (v59 : (List SSpan)) (v60 v61 v62 : Int) (v63 : Bool) : FF := [.yld :: (dT 1 ((.ptr 76 0) :: (dT 3 ((.ptr 82 0) :: (.row false (.rSpan v54)) :: (tL v57) :: (tL v58) :: (dT 6 []))))), dT 8 ([.ptr 82 0, (tL v61), .ptr 82 1, (tL v62), (tB v63), (tB true), .yld, .agg [(tL v61), (tL v62)]]), dc, dc, (.hdr 2) :: ((eSpan p1) ++ ((.hdr 1) :: (.row true (.rSpan v59)) :: (.hdr 1) :: (tL v60) :: (dT 3 ((.hdr 1) :: (.row false (.rSpan v54)) :: (.hdr 2) :: (tL v55) :: (tL v56) :: (dT 1 []))))), dT 2 ((.hdr 2) :: (tL v61) :: (tL v62) :: (dT 11 []))]
def fr_span_Gaps_17 (p1 : SSpan) (v54 : (List SSpan)) (v55 v56 v57 v58 : Int) (v59 : (List SSpan)) (v60 v61 v62 : Int) (v64 : Bool) : FF := [.yld :: (dT 1 ((.ptr 76 0) :: (dT 3 ((.ptr 82 0) :: (.row false (.rSpan v54)) :: (tL v57) :: (tL v58) :: (dT 6 []))))), dT 8 ([.ptr 82 0, (tL v61), .ptr 82 1, (tL v62), (tB v64), (tB false), .tup [], .tup []]), dc, dc, (.hdr 2) :: ((eSpan p1) ++ ((.hdr 1) :: (.row true (.rSpan v59)) :: (.hdr 1) :: (tL v60) :: (dT 3 ((.hdr 1) :: (.row false (.rSpan v54)) :: (.hdr 2) :: (tL v55) :: (tL v56) :: (dT 1 []))))), dT 2 ((.hdr 2) :: (tL v61) :: (tL v62) :: (dT 11 []))]
theorem s_span_Gaps_15_t {R : Type} (cp : Nat → Nat → Bool) (n : Nat) (p1 : SSpan) (v54 : (List SSpan)) (v55 v56 v57 v58 : Int) (v59 : (List SSpan)) (v60 v61 v62 : Int) (A B : FF → Option R) : (gF (fr_span_Gaps_14 p1 v54 v55 v56 v57 v58 v59 v60 v61 v62) fun l => steps2 U cp (callP cp n) g_span_Gaps_10041 l fun l1 => yGuard2 (some (29, true)) l1 (A l1) (B l1)) = s_span_Gaps_15 cp n p1 v54 v55 v56 v57 v58 v59 v60 v61 v62 (fun v63 => A (fr_span_Gaps_16 p1 v54 v55 v56 v57 v58 v59 v60 v61 v62 v63)) (fun v64 => B (fr_span_Gaps_17 p1 v54 v55 v56 v57 v58 v59 v60 v61 v62 v64)) := by kernel_rfl
def fr_span_Gaps_19 (p1 : SSpan) (v54 : (List SSpan)) (v55 v56 v61 v62 : Int) (v65 : (List SSpan)) : FF := [dT 3 ((.ptr 64 0) :: (dT 1 ((.ptr 67 0) :: (.ptr 69 0) :: (dT 9 [])))), dT 6 ((.clo 22 [(74, 0), (76, 0)]) :: (dT 9 [])), dc, dc, (.hdr 2) :: ((eSpan p1) ++ ((.hdr 1) :: (.row true (.rSpan v65)) :: (.hdr 1) :: (tL v62) :: (dT 3 ((.hdr 1) :: (.row false (.rSpan v54)) :: (.hdr 2) :: (tL v55) :: (tL v56) :: (dT 1 []))))), dT 2 ((.hdr 2) :: (tL v61) :: (tL v62) :: (dT 11 []))]
def fr_span_Gaps_20 (p1 : SSpan) (v54 : (List SSpan)) (v55 v56 : Int) (v59 : (List SSpan)) (v60 v61 v62 : Int) : FF := [dT 3 ((.ptr 64 0) :: (dT 1 ((.ptr 67 0) :: (.ptr 69 0) :: (dT 9 [])))), dT 6 ((.clo 22 [(74, 0), (76, 0)]) :: (.agg [(tL v61), (tL v62)]) :: (dT 8 [])), dc, dc, (.hdr 2) :: ((eSpan p1) ++ ((.hdr 1) :: (.row true (.rSpan v59)) :: (.hdr 1) :: (tL v60) :: (dT 3 ((.hdr 1) :: (.row false (.rSpan v54)) :: (.hdr 2) :: (tL v55) :: (tL v56) :: (dT 1 []))))), dT 2 ((.hdr 2) :: (tL v61) :: (tL v62) :: (dT 11 []))]
theorem s_span_Gaps_18_t {R : Type} (cp : Nat → Nat → Bool) (n : Nat) (p1 : SSpan) (v54 : (List SSpan)) (v55 v56 : Int) (v59 : (List SSpan)) (v60 v61 v62 : Int) (k : Ex → FF → Option R) : X cp n i_span_Gaps_2 (fr_span_Gaps_20 p1 v54 v55 v56 v59 v60 v61 v62) k = s_span_Gaps_18 cp n p1 v54 v55 v56 v59 v60 v61 v62 (fun v65 => k .norm (fr_span_Gaps_19 p1 v54 v55 v56 v61 v62 v65)) := by kernel_rfl
def fr_span_Gaps_22 (p1 : SSpan) (v54 : (List SSpan)) (v55 v56 v57 v58 v61 v62 : Int) (v63 : Bool) (v65 : (List SSpan)) : FF := [.yld :: (dT 1 ((.ptr 76 0) :: (dT 3 ((.ptr 82 0) :: (.row false (.rSpan v54)) :: (tL v57) :: (tL v58) :: (dT 6 []))))), dT 8 ([.ptr 82 0, (tL v61), .ptr 82 1, (tL v62), (tB v63), (tB true), .yld, .agg [(tL v61), (tL v62)]]), (tB true) :: (dT 15 []), dc, (.hdr 2) :: ((eSpan p1) ++ ((.hdr 1) :: (.row true (.rSpan v65)) :: (.hdr 1) :: (tL v62) :: (dT 3 ((.hdr 1) :: (.row false (.rSpan v54)) :: (.hdr 2) :: (tL v55) :: (tL v56) :: (dT 1 []))))), dT 2 ((.hdr 2) :: (tL v61) :: (tL v62) :: (dT 11 []))]
theorem q_span_Gaps_21_t {R : Type} (cp : Nat → Nat → Bool) (n : Nat) (p1 : SSpan) (v54 : (List SSpan)) (v55 v56 v57 v58 : Int) (v59 : (List SSpan)) (v60 v61 v62 : Int) (v63 : Bool) (K : FF → Option R) : yRun2 (y_span_Gaps_6 cp n) (.s 30) [.s 31] 32 (fr_span_Gaps_16 p1 v54 v55 v56 v57 v58 v59 v60 v61 v62 v63) K = s_span_Gaps_18 cp n p1 v54 v55 v56 v59 v60 v61 v62 (fun v65 => K (fr_span_Gaps_22 p1 v54 v55 v56 v57 v58 v61 v62 v63 v65)) := ((fun x => (show yRun2 (rndT 4 [23] [64, 67, 69, 74, 76, 79, 82] fr_span_Gaps_7 x) (.s 30) [.s 31] 32 (fr_span_Gaps_16 p1 v54 v55 v56 v57 v58 v59 v60 v61 v62 v63) K = x (fr_span_Gaps_20 p1 v54 v55 v56 v59 v60 v61 v62) (roundT 4 (fr_span_Gaps_16 p1 v54 v55 v56 v57 v58 v59 v60 v61 v62 v63) (fun l2 => putO l2 (some 32) (.sc (.bool true)) K)) from by kernel_rfl)) (X cp n i_span_Gaps_2)).trans ((s_span_Gaps_18_t cp n p1 v54 v55 v56 v59 v60 v61 v62 (roundT 4 (fr_span_Gaps_16 p1 v54 v55 v56 v57 v58 v59 v60 v61 v62 v63) (fun l2 => putO l2 (some 32) (.sc (.bool true)) K))).trans (by kernel_rfl))
def fr_span_Gaps_23 (p1 : SSpan) (v54 : (List SSpan)) (v55 v56 v57 v58 : Int) (v66 : (List SSpan)) (v67 : Int) : FF := [.yld :: (dT 1 ((.ptr 76 0) :: (dT 4 ((.row false (.rSpan v54)) :: (tL v57) :: (tL v58) :: (dT 6 []))))), dc, dT 2 ((tB false) :: (dT 13 [])), dc, (.hdr 2) :: ((eSpan p1) ++ ((.hdr 1) :: (.row true (.rSpan v66)) :: (.hdr 1) :: (tL v67) :: (dT 3 ((.hdr 1) :: (.row false (.rSpan v54)) :: (.hdr 2) :: (tL v55) :: (tL v56) :: (dT 1 []))))), dc]
theorem s_span_Gaps_24_t {R : Type} (cp : Nat → Nat → Bool) (n : Nat) (p1 : SSpan) (v54 : (List SSpan)) (v55 v56 v57 v58 : Int) (v59 : (List SSpan)) (v60 v61 v62 : Int) (k : Ex → FF → Option R) : XI cp n (y_span_Gaps_6 cp n) i_span_Gaps_4 (fr_span_Gaps_14 p1 v54 v55 v56 v57 v58 v59 v60 v61 v62) k = s_span_Gaps_24 cp n p1 v54 v55 v56 v57 v58 v59 v60 v61 v62 (fun v66 v67 => k .norm (fr_span_Gaps_23 p1 v54 v55 v56 v57 v58 v66 v67)) := (show XI cp n (y_span_Gaps_6 cp n) i_span_Gaps_4 (fr_span_Gaps_14 p1 v54 v55 v56 v57 v58 v59 v60 v61 v62) k = gF (fr_span_Gaps_14 p1 v54 v55 v56 v57 v58 v59 v60 v61 v62) fun l => steps2 U cp (callP cp n) g_span_Gaps_10041 l fun l1 => yGuard2 (some (29, true)) l1 ((fun l1 => yRun2 (y_span_Gaps_6 cp n) (.s 30) [.s 31] 32 l1 (fun l2 => steps2 U cp (callP cp n) g_span_Gaps_10042 l2 ((clrT [6, 24, 25, 26, 27, 28, 29, 30, 31, 32, 33] [(82, 2)] k) .norm))) l1) ((fun l1 => putO l1 (some 32) (.tup []) fun l2 => steps2 U cp (callP cp n) g_span_Gaps_10042 l2 ((clrT [6, 24, 25, 26, 27, 28, 29, 30, 31, 32, 33] [(82, 2)] k) .norm)) l1) from by kernel_rfl).trans ((s_span_Gaps_15_t cp n p1 v54 v55 v56 v57 v58 v59 v60 v61 v62 (fun l1 => yRun2 (y_span_Gaps_6 cp n) (.s 30) [.s 31] 32 l1 (fun l2 => steps2 U cp (callP cp n) g_span_Gaps_10042 l2 ((clrT [6, 24, 25, 26, 27, 28, 29, 30, 31, 32, 33] [(82, 2)] k) .norm))) (fun l1 => putO l1 (some 32) (.tup []) fun l2 => steps2 U cp (callP cp n) g_span_Gaps_10042 l2 ((clrT [6, 24, 25, 26, 27, 28, 29, 30, 31, 32, 33] [(82, 2)] k) .norm))).trans (cg2 (f := s_span_Gaps_15 cp n p1 v54 v55 v56 v57 v58 v59 v60 v61 v62) (funext fun v63 => (q_span_Gaps_21_t cp n p1 v54 v55 v56 v57 v58 v59 v60 v61 v62 v63 (fun l2 => steps2 U cp (callP cp n) g_span_Gaps_10042 l2 ((clrT [6, 24, 25, 26, 27, 28, 29, 30, 31, 32, 33] [(82, 2)] k) .norm))).trans (show s_span_Gaps_18 cp n p1 v54 v55 v56 v59 v60 v61 v62 (fun v65 => (fun l2 => steps2 U cp (callP cp n) g_span_Gaps_10042 l2 ((clrT [6, 24, 25, 26, 27, 28, 29, 30, 31, 32, 33] [(82, 2)] k) .norm)) (fr_span_Gaps_22 p1 v54 v55 v56 v57 v58 v61 v62 v63 v65)) = s_span_Gaps_18 cp n p1 v54 v55 v56 v59 v60 v61 v62 (fun v65 => k .norm (fr_span_Gaps_23 p1 v54 v55 v56 v57 v58 v65 v62)) from by kernel_rfl)) (funext fun v64 => (show (fun l1 => putO l1 (some 32) (.tup []) fun l2 => steps2 U cp (callP cp n) g_span_Gaps_10042 l2 ((clrT [6, 24, 25, 26, 27, 28, 29, 30, 31, 32, 33] [(82, 2)] k) .norm)) (fr_span_Gaps_17 p1 v54 v55 v56 v57 v58 v59 v60 v61 v62 v64) = k .norm (fr_span_Gaps_23 p1 v54 v55 v56 v57 v58 v59 v60) from by kernel_rfl))))
def fr_span_Gaps_26 (p1 : SSpan) (v54 : (List SSpan)) (v55 v56 v57 v58 : Int) (v66 : (List SSpan)) (v67 : Int) : FF := [.yld :: (dT 1 ((.ptr 76 0) :: (dT 4 ((.row false (.rSpan v54)) :: (tL v57) :: (tL v58) :: (dT 6 []))))), dc, dc, dc, (.hdr 2) :: ((eSpan p1) ++ ((.hdr 1) :: (.row true (.rSpan v66)) :: (.hdr 1) :: (tL v67) :: (dT 3 ((.hdr 1) :: (.row false (.rSpan v54)) :: (.hdr 2) :: (tL v55) :: (tL v56) :: (dT 1 []))))), dc]
theorem s_span_Gaps_25_t {R : Type} (cp : Nat → Nat → Bool) (n : Nat) (p1 : SSpan) (v54 : (List SSpan)) (v55 v56 v57 v58 : Int) (v66 : (List SSpan)) (v67 : Int) (k : Ex → FF → Option R) : XI cp n (y_span_Gaps_6 cp n) i_span_Gaps_5 (fr_span_Gaps_23 p1 v54 v55 v56 v57 v58 v66 v67) k = s_span_Gaps_25 cp n p1 v54 v55 v56 v57 v58 v66 v67 (k .norm (fr_span_Gaps_26 p1 v54 v55 v56 v57 v58 v66 v67)) := by kernel_rfl
def fr_span_Gaps_27 (p1 : SSpan) (v54 : (List SSpan)) (v55 v56 v57 v58 : Int) (v68 : (List SSpan)) (v69 : Int) : FF := [.yld :: (dT 1 ((.ptr 76 0) :: (dT 4 ((.row false (.rSpan v54)) :: (tL v57) :: (tL v58) :: (dT 6 []))))), dc, dc, dc, (.hdr 2) :: ((eSpan p1) ++ ((.hdr 1) :: (.row true (.rSpan v68)) :: (.hdr 1) :: (tL v69) :: (dT 3 ((.hdr 1) :: (.row false (.rSpan v54)) :: (.hdr 2) :: (tL v55) :: (tL v56) :: (dT 1 []))))), dc]
theorem s_span_Gaps_28_t {R : Type} (cp : Nat → Nat → Bool) (n : Nat) (p1 : SSpan) (v54 : (List SSpan)) (v55 v56 v57 v58 : Int) (v59 : (List SSpan)) (v60 v61 v62 : Int) (k : Ex → FF → Option R) : XI cp n (y_span_Gaps_6 cp n) i_span_Gaps_6 (fr_span_Gaps_14 p1 v54 v55 v56 v57 v58 v59 v60 v61 v62) k = s_span_Gaps_28 cp n p1 v54 v55 v56 v57 v58 v59 v60 v61 v62 (fun v68 v69 => k .norm (fr_span_Gaps_27 p1 v54 v55 v56 v57 v58 v68 v69)) := (show XI cp n (y_span_Gaps_6 cp n) i_span_Gaps_6 (fr_span_Gaps_14 p1 v54 v55 v56 v57 v58 v59 v60 v61 v62) k = XI cp n (y_span_Gaps_6 cp n) i_span_Gaps_4 (fr_span_Gaps_14 p1 v54 v55 v56 v57 v58 v59 v60 v61 v62) (seqT (XI cp n (y_span_Gaps_6 cp n)) i_span_Gaps_5 k) from by kernel_rfl).trans ((show XI cp n (y_span_Gaps_6 cp n) i_span_Gaps_4 (fr_span_Gaps_14 p1 v54 v55 v56 v57 v58 v59 v60 v61 v62) (seqT (XI cp n (y_span_Gaps_6 cp n)) i_span_Gaps_5 k) = s_span_Gaps_24 cp n p1 v54 v55 v56 v57 v58 v59 v60 v61 v62 (fun v66 v67 => XI cp n (y_span_Gaps_6 cp n) i_span_Gaps_5 (fr_span_Gaps_23 p1 v54 v55 v56 v57 v58 v66 v67) k) from (s_span_Gaps_24_t cp n p1 v54 v55 v56 v57 v58 v59 v60 v61 v62 (seqT (XI cp n (y_span_Gaps_6 cp n)) i_span_Gaps_5 k)).trans (by kernel_rfl)).trans (congrArg (fun q => s_span_Gaps_24 cp n p1 v54 v55 v56 v57 v58 v59 v60 v61 v62 q) (funext fun v66 => funext fun v67 => (s_span_Gaps_25_t cp n p1 v54 v55 v56 v57 v58 v66 v67 k).trans (show s_span_Gaps_25 cp n p1 v54 v55 v56 v57 v58 v66 v67 (k .norm (fr_span_Gaps_26 p1 v54 v55 v56 v57 v58 v66 v67)) = s_span_Gaps_25 cp n p1 v54 v55 v56 v57 v58 v66 v67 (k .norm (fr_span_Gaps_27 p1 v54 v55 v56 v57 v58 v66 v67)) from by kernel_rfl))))
def fr_span_Gaps_29 (p1 : SSpan) (v54 : (List SSpan)) (v55 v56 v57 v58 : Int) (v70 : (List SSpan)) (v71 : Int) : FF := [.yld :: (dT 1 ((.ptr 76 0) :: (dT 4 ((.row false (.rSpan v54)) :: (tL v57) :: (tL v58) :: (dT 6 []))))), dc, dc, dc, (.hdr 2) :: ((eSpan p1) ++ ((.hdr 1) :: (.row true (.rSpan v70)) :: (.hdr 1) :: (tL v71) :: (dT 3 ((.hdr 1) :: (.row false (.rSpan v54)) :: (.hdr 2) :: (tL v55) :: (tL v56) :: (dT 1 []))))), dc]
theorem s_span_Gaps_30_t {R : Type} (cp : Nat → Nat → Bool) (n : Nat) (p1 : SSpan) (v54 : (List SSpan)) (v55 v56 v57 v58 : Int) (v59 : (List SSpan)) (v60 : Int) (k : Ex → FF → Option R) : XI cp n (y_span_Gaps_6 cp n) i_span_Gaps_7 (fr_span_Gaps_11 p1 v54 v55 v56 v57 v58 v59 v60) k = s_span_Gaps_30 cp n p1 v54 v55 v56 v57 v58 v59 v60 (fun v70 v71 => k .norm (fr_span_Gaps_29 p1 v54 v55 v56 v57 v58 v70 v71)) := ((fun c => (show XI cp n (y_span_Gaps_6 cp n) (.seq (.fin (.reg g_span_Gaps_1002) [11, 12] []) (.seq (.fin (.reg g_span_Gaps_1003) [5, 13, 14, 15, 16, 17, 18, 19, 20, 21, 22, 23] [(79, 2)]) c)) (fr_span_Gaps_11 p1 v54 v55 v56 v57 v58 v59 v60) k = s_span_Gaps_13 cp n p1 v54 v55 v56 v57 v58 v59 v60 (fun v61 v62 => XI cp n (y_span_Gaps_6 cp n) c (fr_span_Gaps_14 p1 v54 v55 v56 v57 v58 v59 v60 v61 v62) k) from by kernel_rfl)) i_span_Gaps_6).trans (congrArg (fun q => s_span_Gaps_13 cp n p1 v54 v55 v56 v57 v58 v59 v60 q) (funext fun v61 => funext fun v62 => (s_span_Gaps_28_t cp n p1 v54 v55 v56 v57 v58 v59 v60 v61 v62 k).trans (show s_span_Gaps_28 cp n p1 v54 v55 v56 v57 v58 v59 v60 v61 v62 (fun v68 v69 => k .norm (fr_span_Gaps_27 p1 v54 v55 v56 v57 v58 v68 v69)) = s_span_Gaps_28 cp n p1 v54 v55 v56 v57 v58 v59 v60 v61 v62 (fun v68 v69 => k .norm (fr_span_Gaps_29 p1 v54 v55 v56 v57 v58 v68 v69)) from by kernel_rfl)))
def fr_span_Gaps_31 (p1 : SSpan) (v54 : (List SSpan)) (v55 v56 v57 v58 : Int) (v72 : (List SSpan)) (v73 : Int) : FF := [.yld :: (dT 1 ((.ptr 76 0) :: (dT 4 ((.row false (.rSpan v54)) :: (tL v57) :: (tL v58) :: (dT 6 []))))), dc, dc, dc, (.hdr 2) :: ((eSpan p1) ++ ((.hdr 1) :: (.row true (.rSpan v72)) :: (.hdr 1) :: (tL v73) :: (dT 3 ((.hdr 1) :: (.row false (.rSpan v54)) :: (.hdr 2) :: (tL v55) :: (tL v56) :: (dT 1 []))))), dc]
theorem s_span_Gaps_32_t {R : Type} (cp : Nat → Nat → Bool) (n : Nat) (p1 : SSpan) (v54 : (List SSpan)) (v55 v56 v57 v58 : Int) (v59 : (List SSpan)) (v60 : Int) (k : Ex → FF → Option R) : XI cp n (y_span_Gaps_6 cp n) i_span_Gaps_8 (fr_span_Gaps_11 p1 v54 v55 v56 v57 v58 v59 v60) k = s_span_Gaps_32 cp n p1 v54 v55 v56 v57 v58 v59 v60 (fun v72 v73 => k .norm (fr_span_Gaps_31 p1 v54 v55 v56 v57 v58 v72 v73)) := (show XI cp n (y_span_Gaps_6 cp n) i_span_Gaps_8 (fr_span_Gaps_11 p1 v54 v55 v56 v57 v58 v59 v60) k = XI cp n (y_span_Gaps_6 cp n) i_span_Gaps_7 (fr_span_Gaps_11 p1 v54 v55 v56 v57 v58 v59 v60) (blkT 1 k) from by kernel_rfl).trans ((s_span_Gaps_30_t cp n p1 v54 v55 v56 v57 v58 v59 v60 (blkT 1 k)).trans (by kernel_rfl))
def fr_span_Gaps_34 (p1 : SSpan) (v54 : (List SSpan)) (v55 v56 v57 : Int) (v72 : (List SSpan)) (v73 v74 : Int) : FF := [.yld :: (dT 1 ((.ptr 76 0) :: (dT 4 ((.row false (.rSpan v54)) :: (tL v57) :: (tL v74) :: (dT 6 []))))), dc, dc, dc, (.hdr 2) :: ((eSpan p1) ++ ((.hdr 1) :: (.row true (.rSpan v72)) :: (.hdr 1) :: (tL v73) :: (dT 3 ((.hdr 1) :: (.row false (.rSpan v54)) :: (.hdr 2) :: (tL v55) :: (tL v56) :: (dT 1 []))))), dc]
theorem s_span_Gaps_33_t {R : Type} (cp : Nat → Nat → Bool) (n : Nat) (p1 : SSpan) (v54 : (List SSpan)) (v55 v56 v57 v58 : Int) (v72 : (List SSpan)) (v73 : Int) (k : Ex → FF → Option R) : XI cp n (y_span_Gaps_6 cp n) i_span_Gaps_9 (fr_span_Gaps_31 p1 v54 v55 v56 v57 v58 v72 v73) k = s_span_Gaps_33 cp n p1 v54 v55 v56 v57 v58 v72 v73 (fun v74 => k .norm (fr_span_Gaps_34 p1 v54 v55 v56 v57 v72 v73 v74)) := by kernel_rfl
def fr_span_Gaps_35 (p1 : SSpan) (v54 : (List SSpan)) (v55 v56 v57 v75 : Int) (v76 : (List SSpan)) (v77 : Int) : FF := [.yld :: (dT 1 ((.ptr 76 0) :: (dT 4 ((.row false (.rSpan v54)) :: (tL v57) :: (tL v75) :: (dT 6 []))))), dc, dc, dc, (.hdr 2) :: ((eSpan p1) ++ ((.hdr 1) :: (.row true (.rSpan v76)) :: (.hdr 1) :: (tL v77) :: (dT 3 ((.hdr 1) :: (.row false (.rSpan v54)) :: (.hdr 2) :: (tL v55) :: (tL v56) :: (dT 1 []))))), dc]
theorem s_span_Gaps_36_t {R : Type} (cp : Nat → Nat → Bool) (n : Nat) (p1 : SSpan) (v54 : (List SSpan)) (v55 v56 v57 v58 : Int) (v59 : (List SSpan)) (v60 : Int) (k : Ex → FF → Option R) : XI cp n (y_span_Gaps_6 cp n) i_span_Gaps_10 (fr_span_Gaps_11 p1 v54 v55 v56 v57 v58 v59 v60) k = s_span_Gaps_36 cp n p1 v54 v55 v56 v57 v58 v59 v60 (fun v75 v76 v77 => k .norm (fr_span_Gaps_35 p1 v54 v55 v56 v57 v75 v76 v77)) := (show XI cp n (y_span_Gaps_6 cp n) i_span_Gaps_10 (fr_span_Gaps_11 p1 v54 v55 v56 v57 v58 v59 v60) k = XI cp n (y_span_Gaps_6 cp n) i_span_Gaps_8 (fr_span_Gaps_11 p1 v54 v55 v56 v57 v58 v59 v60) (seqT (XI cp n (y_span_Gaps_6 cp n)) i_span_Gaps_9 k) from by kernel_rfl).trans ((show XI cp n (y_span_Gaps_6 cp n) i_span_Gaps_8 (fr_span_Gaps_11 p1 v54 v55 v56 v57 v58 v59 v60) (seqT (XI cp n (y_span_Gaps_6 cp n)) i_span_Gaps_9 k) = s_span_Gaps_32 cp n p1 v54 v55 v56 v57 v58 v59 v60 (fun v72 v73 => XI cp n (y_span_Gaps_6 cp n) i_span_Gaps_9 (fr_span_Gaps_31 p1 v54 v55 v56 v57 v58 v72 v73) k) from (s_span_Gaps_32_t cp n p1 v54 v55 v56 v57 v58 v59 v60 (seqT (XI cp n (y_span_Gaps_6 cp n)) i_span_Gaps_9 k)).trans (by kernel_rfl)).trans (congrArg (fun q => s_span_Gaps_32 cp n p1 v54 v55 v56 v57 v58 v59 v60 q) (funext fun v72 => funext fun v73 => (s_span_Gaps_33_t cp n p1 v54 v55 v56 v57 v58 v72 v73 k).trans (show s_span_Gaps_33 cp n p1 v54 v55 v56 v57 v58 v72 v73 (fun v74 => k .norm (fr_span_Gaps_34 p1 v54 v55 v56 v57 v72 v73 v74)) = s_span_Gaps_33 cp n p1 v54 v55 v56 v57 v58 v72 v73 (fun v74 => k .norm (fr_span_Gaps_35 p1 v54 v55 v56 v57 v74 v72 v73)) from by kernel_rfl))))
def fr_span_Gaps_37 (p1 : SSpan) (v54 : (List SSpan)) (v55 v56 v57 v78 : Int) (v79 : (List SSpan)) (v80 : Int) : FF := [.yld :: (dT 1 ((.ptr 76 0) :: (dT 4 ((.row false (.rSpan v54)) :: (tL v57) :: (tL v78) :: (dT 6 []))))), dc, dc, dc, (.hdr 2) :: ((eSpan p1) ++ ((.hdr 1) :: (.row true (.rSpan v79)) :: (.hdr 1) :: (tL v80) :: (dT 3 ((.hdr 1) :: (.row false (.rSpan v54)) :: (.hdr 2) :: (tL v55) :: (tL v56) :: (dT 1 []))))), dc]
theorem s_span_Gaps_38_t {R : Type} (cp : Nat → Nat → Bool) (n : Nat) (p1 : SSpan) (v54 : (List SSpan)) (v55 v56 v57 v58 : Int) (v59 : (List SSpan)) (v60 : Int) (k : Ex → FF → Option R) : XI cp n (y_span_Gaps_6 cp n) i_span_Gaps_11 (fr_span_Gaps_11 p1 v54 v55 v56 v57 v58 v59 v60) k = s_span_Gaps_38 cp n p1 v54 v55 v56 v57 v58 v59 v60 (fun v78 v79 v80 => k .norm (fr_span_Gaps_37 p1 v54 v55 v56 v57 v78 v79 v80)) (k (.exit 0) (fr_span_Gaps_12 p1 v54 v55 v56 v59 v60)) := ((fun c => (show XI cp n (y_span_Gaps_6 cp n) (.seq (.reg g_span_Gaps_1001) (.seq (.fin (.cond (.s 10) (.skip) (.clr [0, 2, 7, 8, 9, 10] [] (.exit 0))) [10] []) c)) (fr_span_Gaps_11 p1 v54 v55 v56 v57 v58 v59 v60) k = s_span_Gaps_10 cp n p1 v54 v55 v56 v57 v58 v59 v60 (XI cp n (y_span_Gaps_6 cp n) c (fr_span_Gaps_11 p1 v54 v55 v56 v57 v58 v59 v60) k) (k (.exit 0) (fr_span_Gaps_12 p1 v54 v55 v56 v59 v60)) from by kernel_rfl)) i_span_Gaps_10).trans (congrArg (fun q => s_span_Gaps_10 cp n p1 v54 v55 v56 v57 v58 v59 v60 q (k (.exit 0) (fr_span_Gaps_12 p1 v54 v55 v56 v59 v60))) ((s_span_Gaps_36_t cp n p1 v54 v55 v56 v57 v58 v59 v60 k).trans (show s_span_Gaps_36 cp n p1 v54 v55 v56 v57 v58 v59 v60 (fun v75 v76 v77 => k .norm (fr_span_Gaps_35 p1 v54 v55 v56 v57 v75 v76 v77)) = s_span_Gaps_36 cp n p1 v54 v55 v56 v57 v58 v59 v60 (fun v75 v76 v77 => k .norm (fr_span_Gaps_37 p1 v54 v55 v56 v57 v75 v76 v77)) from by kernel_rfl)))
def fr_span_Gaps_39 (p1 : SSpan) (v54 : (List SSpan)) (v55 v56 : Int) (v81 : (List SSpan)) (v82 : Int) : FF := [dc, dc, dc, dc, (.hdr 2) :: ((eSpan p1) ++ ((.hdr 1) :: (.row true (.rSpan v81)) :: (.hdr 1) :: (tL v82) :: (dT 3 ((.hdr 1) :: (.row false (.rSpan v54)) :: (.hdr 2) :: (tL v55) :: (tL v56) :: (dT 1 []))))), dc]
theorem l_span_Gaps_40_t {R : Type} (cp : Nat → Nat → Bool) (n : Nat) : ∀ (m : Nat) (p1 : SSpan) (v54 : (List SSpan)) (v55 v56 v57 v58 : Int) (v59 : (List SSpan)) (v60 : Int) (k : Ex → FF → Option R), loopN2 (XI cp n (y_span_Gaps_6 cp n) i_span_Gaps_11) m (fr_span_Gaps_11 p1 v54 v55 v56 v57 v58 v59 v60) k = l_span_Gaps_40 cp n m p1 v54 v55 v56 v57 v58 v59 v60 (fun v81 v82 => k (.exit 0) (fr_span_Gaps_39 p1 v54 v55 v56 v81 v82))
  | 0, _, _, _, _, _, _, _, _, _ => rfl
  | m + 1, p1, v54, v55, v56, v57, v58, v59, v60, k => (loopN2_succ (XI cp n (y_span_Gaps_6 cp n) i_span_Gaps_11) m (fr_span_Gaps_11 p1 v54 v55 v56 v57 v58 v59 v60) k).trans ((s_span_Gaps_38_t cp n p1 v54 v55 v56 v57 v58 v59 v60 (loopT (XI cp n (y_span_Gaps_6 cp n) i_span_Gaps_11) m k)).trans ((show s_span_Gaps_38 cp n p1 v54 v55 v56 v57 v58 v59 v60 (fun v78 v79 v80 => loopT (XI cp n (y_span_Gaps_6 cp n) i_span_Gaps_11) m k .norm (fr_span_Gaps_37 p1 v54 v55 v56 v57 v78 v79 v80)) (loopT (XI cp n (y_span_Gaps_6 cp n) i_span_Gaps_11) m k (.exit 0) (fr_span_Gaps_12 p1 v54 v55 v56 v59 v60)) = s_span_Gaps_38 cp n p1 v54 v55 v56 v57 v58 v59 v60 (fun v78 v79 v80 => loopN2 (XI cp n (y_span_Gaps_6 cp n) i_span_Gaps_11) m (fr_span_Gaps_11 p1 v54 v55 v56 v57 v78 v79 v80) k) (k (.exit 0) (fr_span_Gaps_39 p1 v54 v55 v56 v59 v60)) from by kernel_rfl).trans (congrArg (fun q => s_span_Gaps_38 cp n p1 v54 v55 v56 v57 v58 v59 v60 q (k (.exit 0) (fr_span_Gaps_39 p1 v54 v55 v56 v59 v60))) (funext fun v78 => funext fun v79 => funext fun v80 => l_span_Gaps_40_t cp n m p1 v54 v55 v56 v57 v78 v79 v80 k))))
theorem s_span_Gaps_41_t {R : Type} (cp : Nat → Nat → Bool) (n : Nat) (p1 : SSpan) (v54 : (List SSpan)) (v55 v56 v57 : Int) (k : Ex → FF → Option R) : XI cp n (y_span_Gaps_6 cp n) i_span_Gaps_12 (fr_span_Gaps_9 p1 v54 v55 v56 v57) k = s_span_Gaps_41 cp n p1 v54 v55 v56 v57 (fun v81 v82 => k (.exit 0) (fr_span_Gaps_39 p1 v54 v55 v56 v81 v82)) := (show XI cp n (y_span_Gaps_6 cp n) i_span_Gaps_12 (fr_span_Gaps_9 p1 v54 v55 v56 v57) k = loopN2 (XI cp n (y_span_Gaps_6 cp n) i_span_Gaps_11) n (fr_span_Gaps_11 p1 v54 v55 v56 v57 0 [] p1.xFrom) k from by kernel_rfl).trans (l_span_Gaps_40_t cp n n p1 v54 v55 v56 v57 0 [] p1.xFrom k)
def fr_span_Gaps_42 (p1 : SSpan) (v54 : (List SSpan)) (v55 v56 : Int) (v83 : (List SSpan)) (v84 : Int) : FF := [dc, dc, dc, dc, (.hdr 2) :: ((eSpan p1) ++ ((.hdr 1) :: (.row true (.rSpan v83)) :: (.hdr 1) :: (tL v84) :: (dT 3 ((.hdr 1) :: (.row false (.rSpan v54)) :: (.hdr 2) :: (tL v55) :: (tL v56) :: (dT 1 []))))), dc]
theorem s_span_Gaps_43_t {R : Type} (cp : Nat → Nat → Bool) (n : Nat) (p1 : SSpan) (v54 : (List SSpan)) (v55 v56 v57 : Int) (k : Ex → FF → Option R) : XI cp n (y_span_Gaps_6 cp n) i_span_Gaps_13 (fr_span_Gaps_9 p1 v54 v55 v56 v57) k = s_span_Gaps_43 cp n p1 v54 v55 v56 v57 (fun v83 v84 => k .norm (fr_span_Gaps_42 p1 v54 v55 v56 v83 v84)) := (show XI cp n (y_span_Gaps_6 cp n) i_span_Gaps_13 (fr_span_Gaps_9 p1 v54 v55 v56 v57) k = XI cp n (y_span_Gaps_6 cp n) i_span_Gaps_12 (fr_span_Gaps_9 p1 v54 v55 v56 v57) (blkT 0 k) from by kernel_rfl).trans ((s_span_Gaps_41_t cp n p1 v54 v55 v56 v57 (blkT 0 k)).trans (by kernel_rfl))
def fr_span_Gaps_44 (p1 : SSpan) (v54 : (List SSpan)) (v55 v56 : Int) (v85 : (List SSpan)) (v86 : Int) : FF := [dc, dc, dc, dc, (.hdr 2) :: ((eSpan p1) ++ ((.hdr 1) :: (.row true (.rSpan v85)) :: (.hdr 1) :: (tL v86) :: (dT 3 ((.hdr 1) :: (.row false (.rSpan v54)) :: (.hdr 2) :: (tL v55) :: (tL v56) :: (dT 1 []))))), dc]
def fr_span_Gaps_46 (p1 : SSpan) (v54 : (List SSpan)) (v55 v56 : Int) : FF := [.yld :: (.ptr 74 0) :: (.ptr 76 0) :: (dT 13 []), dc, dc, dc, (.hdr 2) :: ((eSpan p1) ++ ((.hdr 1) :: (.row true (.rSpan [])) :: (.hdr 1) :: (tL p1.xFrom) :: (dT 3 ((.hdr 1) :: (.row false (.rSpan v54)) :: (.hdr 2) :: (tL v55) :: (tL v56) :: (dT 1 []))))), dc]
theorem s_span_Gaps_45_t {R : Type} (cp : Nat → Nat → Bool) (n : Nat) (p1 : SSpan) (v54 : (List SSpan)) (v55 v56 : Int) (k : Ex → FF → Option R) : XI cp n (y_span_Gaps_6 cp n) i_span_Gaps_3 (fr_span_Gaps_46 p1 v54 v55 v56) k = s_span_Gaps_45 cp n p1 v54 v55 v56 (fun v85 v86 => k .norm (fr_span_Gaps_44 p1 v54 v55 v56 v85 v86)) := ((fun c => (show XI cp n (y_span_Gaps_6 cp n) (.seq (.fin (.reg g_span_Gaps_1000) [1] []) c) (fr_span_Gaps_46 p1 v54 v55 v56) k = s_span_Gaps_8 cp n p1 v54 v55 v56 (fun v57 => XI cp n (y_span_Gaps_6 cp n) c (fr_span_Gaps_9 p1 v54 v55 v56 v57) k) from by kernel_rfl)) i_span_Gaps_13).trans (congrArg (fun q => s_span_Gaps_8 cp n p1 v54 v55 v56 q) (funext fun v57 => (s_span_Gaps_43_t cp n p1 v54 v55 v56 v57 k).trans (show s_span_Gaps_43 cp n p1 v54 v55 v56 v57 (fun v83 v84 => k .norm (fr_span_Gaps_42 p1 v54 v55 v56 v83 v84)) = s_span_Gaps_43 cp n p1 v54 v55 v56 v57 (fun v83 v84 => k .norm (fr_span_Gaps_44 p1 v54 v55 v56 v83 v84)) from by kernel_rfl)))
def fr_span_Gaps_47 (p1 : SSpan) (v87 : (List SSpan)) (v88 : Int) : FF := [dT 3 ((.ptr 64 0) :: (dT 1 ((.ptr 67 0) :: (.ptr 69 0) :: (dT 9 [])))), dc, dc, dc, (.hdr 2) :: ((eSpan p1) ++ ((.hdr 1) :: (.row true (.rSpan v87)) :: (.hdr 1) :: (tL v88) :: (dT 9 []))), dc]
theorem s_span_Gaps_48_t {R : Type} (cp : Nat → Nat → Bool) (n : Nat) (p1 : SSpan) (v54 : (List SSpan)) (v55 v56 : Int) (k : Ex → FF → Option R) : X cp n i_span_Gaps_14 (fr_span_Gaps_5 p1 v54 v55 v56) k = s_span_Gaps_48 cp n p1 v54 v55 v56 (fun v87 v88 => k .norm (fr_span_Gaps_47 p1 v87 v88)) := (show X cp n i_span_Gaps_14 (fr_span_Gaps_5 p1 v54 v55 v56) k = XI cp n (roundK2 4 [23] [64, 67, 69, 74, 76, 79, 82] (fr_span_Gaps_5 p1 v54 v55 v56) (X cp n i_span_Gaps_0) (X cp n i_span_Gaps_1)) i_span_Gaps_3 (fr_span_Gaps_46 p1 v54 v55 v56) (rfnT 4 (fr_span_Gaps_5 p1 v54 v55 v56) (clrT [22] [(74, 1), (76, 2)] k)) from by kernel_rfl).trans ((congrArg (fun Y => XI cp n Y i_span_Gaps_3 (fr_span_Gaps_46 p1 v54 v55 v56) (rfnT 4 (fr_span_Gaps_5 p1 v54 v55 v56) (clrT [22] [(74, 1), (76, 2)] k))) ((rnd_eq 4 [23] [64, 67, 69, 74, 76, 79, 82] (fr_span_Gaps_5 p1 v54 v55 v56) i_span_Gaps_0 i_span_Gaps_1).trans (show rndT 4 [23] [64, 67, 69, 74, 76, 79, 82] (fr_span_Gaps_5 p1 v54 v55 v56) (X cp n i_span_Gaps_2) = (y_span_Gaps_6 cp n) from by kernel_rfl))).trans ((s_span_Gaps_45_t cp n p1 v54 v55 v56 (rfnT 4 (fr_span_Gaps_5 p1 v54 v55 v56) (clrT [22] [(74, 1), (76, 2)] k))).trans (by kernel_rfl)))
def fr_span_Gaps_49 (p1 : SSpan) (v89 : (List SSpan)) (v90 : Int) : FF := [dT 3 ((.ptr 64 0) :: (dT 1 ((.ptr 67 0) :: (.ptr 69 0) :: (dT 9 [])))), dc, dc, dc, (.hdr 2) :: ((eSpan p1) ++ ((.hdr 1) :: (.row true (.rSpan v89)) :: (.hdr 1) :: (tL v90) :: (dT 9 []))), dc]
theorem s_span_Gaps_50_t {R : Type} (cp : Nat → Nat → Bool) (n : Nat) (p1 : SSpan) (v54 : (List SSpan)) (v55 v56 : Int) (k : Ex → FF → Option R) : X cp n i_span_Gaps_15 (fr_span_Gaps_5 p1 v54 v55 v56) k = s_span_Gaps_50 cp n p1 v54 v55 v56 (fun v89 v90 => k .norm (fr_span_Gaps_49 p1 v89 v90)) := (show X cp n i_span_Gaps_15 (fr_span_Gaps_5 p1 v54 v55 v56) k = X cp n i_span_Gaps_14 (fr_span_Gaps_5 p1 v54 v55 v56) (blkT 0 k) from by kernel_rfl).trans ((s_span_Gaps_48_t cp n p1 v54 v55 v56 (blkT 0 k)).trans (by kernel_rfl))
def fr_span_Gaps_51 (p1 : SSpan) (v91 : (List SSpan)) (v92 : Int) : FF := [dT 3 ((.ptr 64 0) :: (dT 1 ((.ptr 67 0) :: (.ptr 69 0) :: (dT 9 [])))), dc, dc, dc, (.hdr 2) :: ((eSpan p1) ++ ((.hdr 1) :: (.row true (.rSpan v91)) :: (.hdr 1) :: (tL v92) :: (dT 9 []))), dc]
theorem s_span_Gaps_52_t {R : Type} (cp : Nat → Nat → Bool) (n : Nat) (p0 : (List SSpan)) (p1 : SSpan) (k : Ex → FF → Option R) : X cp n i_span_Gaps_16 (fr_span_Gaps_2 p0 p1) k = s_span_Gaps_52 cp n p0 p1 (fun v91 v92 => k .norm (fr_span_Gaps_51 p1 v91 v92)) := ((fun c => (show X cp n (.seq (.fin (.reg g_span_Gaps_5) [0, 20, 21] []) c) (fr_span_Gaps_2 p0 p1) k = s_span_Gaps_4 cp n p0 p1 (fun v54 v55 v56 => X cp n c (fr_span_Gaps_5 p1 v54 v55 v56) k) from by kernel_rfl)) i_span_Gaps_15).trans (congrArg (fun q => s_span_Gaps_4 cp n p0 p1 q) (funext fun v54 => funext fun v55 => funext fun v56 => (s_span_Gaps_50_t cp n p1 v54 v55 v56 k).trans (show s_span_Gaps_50 cp n p1 v54 v55 v56 (fun v89 v90 => k .norm (fr_span_Gaps_49 p1 v89 v90)) = s_span_Gaps_50 cp n p1 v54 v55 v56 (fun v89 v90 => k .norm (fr_span_Gaps_51 p1 v89 v90)) from by kernel_rfl)))
def fr_span_Gaps_54 (v93 : (List SSpan)) : FF := [dT 4 ((.row false (.rSpan v93)) :: (dT 11 [])), dc, dc, dc, dc, dc]
theorem s_span_Gaps_53_t {R : Type} (cp : Nat → Nat → Bool) (n : Nat) (p1 : SSpan) (v91 : (List SSpan)) (v92 : Int) (k : Ex → FF → Option R) : X cp n i_span_Gaps_17 (fr_span_Gaps_51 p1 v91 v92) k = s_span_Gaps_53 cp n p1 v91 v92 (fun v93 => k .ret (fr_span_Gaps_54 v93)) := by kernel_rfl
def fr_span_Gaps_55 (v94 : (List SSpan)) : FF := [dT 4 ((.row false (.rSpan v94)) :: (dT 11 [])), dc, dc, dc, dc, dc]
theorem s_span_Gaps_56_t {R : Type} (cp : Nat → Nat → Bool) (n : Nat) (p0 : (List SSpan)) (p1 : SSpan) (k : Ex → FF → Option R) : X cp n i_span_Gaps_18 (fr_span_Gaps_2 p0 p1) k = s_span_Gaps_56 cp n p0 p1 (fun v94 => k .ret (fr_span_Gaps_55 v94)) := (show X cp n i_span_Gaps_18 (fr_span_Gaps_2 p0 p1) k = X cp n i_span_Gaps_16 (fr_span_Gaps_2 p0 p1) (seqT (X cp n) i_span_Gaps_17 k) from by kernel_rfl).trans ((show X cp n i_span_Gaps_16 (fr_span_Gaps_2 p0 p1) (seqT (X cp n) i_span_Gaps_17 k) = s_span_Gaps_52 cp n p0 p1 (fun v91 v92 => X cp n i_span_Gaps_17 (fr_span_Gaps_51 p1 v91 v92) k) from (s_span_Gaps_52_t cp n p0 p1 (seqT (X cp n) i_span_Gaps_17 k)).trans (by kernel_rfl)).trans (congrArg (fun q => s_span_Gaps_52 cp n p0 p1 q) (funext fun v91 => funext fun v92 => (s_span_Gaps_53_t cp n p1 v91 v92 k).trans (show s_span_Gaps_53 cp n p1 v91 v92 (fun v93 => k .ret (fr_span_Gaps_54 v93)) = s_span_Gaps_53 cp n p1 v91 v92 (fun v93 => k .ret (fr_span_Gaps_55 v93)) from by kernel_rfl))))
def fr_span_Gaps_57 (v95 : (List SSpan)) : FF := [dT 4 ((.row false (.rSpan v95)) :: (dT 11 [])), dc, dc, dc, dc, dc]
def fr_span_Gaps_59 (p0 : (List SSpan)) (p1 : SSpan) : FF := [(.row false (.rSpan p0)) :: (.agg (eSpan p1)) :: (dT 14 []), dc, dc, dc, dc, dc]
theorem s_span_Gaps_58_t {R : Type} (cp : Nat → Nat → Bool) (n : Nat) (p0 : (List SSpan)) (p1 : SSpan) (k : Ex → FF → Option R) : X cp n i_span_Gaps_19 (fr_span_Gaps_59 p0 p1) k = s_span_Gaps_58 cp n p0 p1 (fun v95 => k .ret (fr_span_Gaps_57 v95)) := ((fun c => (show X cp n (.seq (.fin (.reg g_span_Gaps_0) [1, 4] []) (.seq (.seq (.fin (.reg g_span_Gaps_1) [8, 9, 10, 11, 12, 13, 14, 15, 16] []) (.fin (.cond (.s 17) (.seq (.fin (.reg g_span_Gaps_2) [0, 3, 17] [(64, 2)]) (.ret)) (.skip)) [17] [])) (.seq (.reg g_span_Gaps_3) (.seq (.fin (.reg g_span_Gaps_4) [18, 19] []) c)))) (fr_span_Gaps_59 p0 p1) k = s_span_Gaps_1 cp n p0 p1 (X cp n c (fr_span_Gaps_2 p0 p1) k) (k .ret (fr_span_Gaps_57 [])) from by kernel_rfl)) i_span_Gaps_18).trans (congrArg (fun q => s_span_Gaps_1 cp n p0 p1 q (k .ret (fr_span_Gaps_57 []))) ((s_span_Gaps_56_t cp n p0 p1 k).trans (show s_span_Gaps_56 cp n p0 p1 (fun v94 => k .ret (fr_span_Gaps_55 v94)) = s_span_Gaps_56 cp n p0 p1 (fun v94 => k .ret (fr_span_Gaps_57 v94)) from by kernel_rfl)))
theorem run_span_Gaps {R : Type} (cp : Nat → Nat → Bool) (n : Nat) (p0 : (List SSpan)) (p1 : SSpan) (k : Ret2 RW → Option R) : G_span_Gaps cp (n + 1) p0 p1 (fun r0 => k ⟨.row false (.rSpan r0), [], []⟩) = run2 U cp (callP cp n) n fn_span_Gaps [.row false (.rSpan p0), .agg (eSpan p1)] [] k := ((X_run (f := fn_span_Gaps) (av := [.row false (.rSpan p0), .agg (eSpan p1)]) (cells := []) (code := i_span_Gaps_19) (fr := (fr_span_Gaps_59 p0 p1)) (k := k) (by kernel_rfl) (fun K => by kernel_rfl)).trans ((s_span_Gaps_58_t cp n p0 p1 (finK2 fn_span_Gaps k)).trans (by kernel_rfl))).symm
/-! tideway/tidewayref06.Same -/
def fr_ref06_Same_2 (p0 p1 : (List SSpan)) : FF := [(.row false (.rSpan p0)) :: (.row false (.rSpan p1)) :: (dT 14 []), dc]
def fr_ref06_Same_3 : FF := [dT 4 ((tB false) :: (dT 11 [])), dc]
def fr_ref06_Same_5 (p0 p1 : (List SSpan)) : FF := [(.row false (.rSpan p0)) :: (.row false (.rSpan p1)) :: (dT 3 ((tL 0) :: (dT 10 []))), dc]
def fr_ref06_Same_7 (p0 p1 : (List SSpan)) (v100 : Int) : FF := [(.row false (.rSpan p0)) :: (.row false (.rSpan p1)) :: (dT 3 ((tL v100) :: (dT 10 []))), dc]
def fr_ref06_Same_8 : FF := [dc, dc]
def fr_ref06_Same_9 (p0 p1 : (List SSpan)) (v99 : Int) : FF := [(.row false (.rSpan p0)) :: (.row false (.rSpan p1)) :: (dT 3 ((tL v99) :: (dT 10 []))), dc]
theorem s_ref06_Same_6_t {R : Type} (cp : Nat → Nat → Bool) (n : Nat) (p0 p1 : (List SSpan)) (v99 : Int) (k : Ex → FF → Option R) : X cp n i_ref06_Same_0 (fr_ref06_Same_9 p0 p1 v99) k = s_ref06_Same_6 cp n p0 p1 v99 (fun v100 => k .norm (fr_ref06_Same_7 p0 p1 v100)) (k .ret fr_ref06_Same_3) (k (.exit 0) fr_ref06_Same_8) := by kernel_rfl
theorem l_ref06_Same_10_t {R : Type} (cp : Nat → Nat → Bool) (n : Nat) : ∀ (m : Nat) (p0 p1 : (List SSpan)) (v99 : Int) (k : Ex → FF → Option R), loopN2 (X cp n i_ref06_Same_0) m (fr_ref06_Same_9 p0 p1 v99) k = l_ref06_Same_10 cp n m p0 p1 v99 (k .ret fr_ref06_Same_3) (k (.exit 0) fr_ref06_Same_8)
  | 0, _, _, _, _ => rfl
  | m + 1, p0, p1, v99, k => (loopN2_succ (X cp n i_ref06_Same_0) m (fr_ref06_Same_9 p0 p1 v99) k).trans ((s_ref06_Same_6_t cp n p0 p1 v99 (loopT (X cp n i_ref06_Same_0) m k)).trans ((show s_ref06_Same_6 cp n p0 p1 v99 (fun v100 => loopT (X cp n i_ref06_Same_0) m k .norm (fr_ref06_Same_7 p0 p1 v100)) (loopT (X cp n i_ref06_Same_0) m k .ret fr_ref06_Same_3) (loopT (X cp n i_ref06_Same_0) m k (.exit 0) fr_ref06_Same_8) = s_ref06_Same_6 cp n p0 p1 v99 (fun v100 => loopN2 (X cp n i_ref06_Same_0) m (fr_ref06_Same_9 p0 p1 v100) k) (k .ret fr_ref06_Same_3) (k (.exit 0) fr_ref06_Same_8) from by kernel_rfl).trans (congrArg (fun q => s_ref06_Same_6 cp n p0 p1 v99 q (k .ret fr_ref06_Same_3) (k (.exit 0) fr_ref06_Same_8)) (funext fun v100 => l_ref06_Same_10_t cp n m p0 p1 v100 k))))
theorem s_ref06_Same_11_t {R : Type} (cp : Nat → Nat → Bool) (n : Nat) (p0 p1 : (List SSpan)) (k : Ex → FF → Option R) : X cp n i_ref06_Same_1 (fr_ref06_Same_5 p0 p1) k = s_ref06_Same_11 cp n p0 p1 (k .ret fr_ref06_Same_3) (k (.exit 0) fr_ref06_Same_8) := (show X cp n i_ref06_Same_1 (fr_ref06_Same_5 p0 p1) k = loopN2 (X cp n i_ref06_Same_0) n (fr_ref06_Same_9 p0 p1 0) k from by kernel_rfl).trans (l_ref06_Same_10_t cp n n p0 p1 0 k)
theorem s_ref06_Same_12_t {R : Type} (cp : Nat → Nat → Bool) (n : Nat) (p0 p1 : (List SSpan)) (k : Ex → FF → Option R) : X cp n i_ref06_Same_2 (fr_ref06_Same_5 p0 p1) k = s_ref06_Same_12 cp n p0 p1 (k .norm fr_ref06_Same_8) (k .ret fr_ref06_Same_3) := (show X cp n i_ref06_Same_2 (fr_ref06_Same_5 p0 p1) k = X cp n i_ref06_Same_1 (fr_ref06_Same_5 p0 p1) (blkT 0 k) from by kernel_rfl).trans ((s_ref06_Same_11_t cp n p0 p1 (blkT 0 k)).trans (by kernel_rfl))
theorem s_ref06_Same_13_t {R : Type} (cp : Nat → Nat → Bool) (n : Nat) (p0 p1 : (List SSpan)) (k : Ex → FF → Option R) : X cp n i_ref06_Same_3 (fr_ref06_Same_2 p0 p1) k = s_ref06_Same_13 cp n p0 p1 (k .norm fr_ref06_Same_8) (k .ret fr_ref06_Same_3) := ((fun c => (show X cp n (.seq (.reg g_ref06_Same_3) c) (fr_ref06_Same_2 p0 p1) k = s_ref06_Same_4 cp n p0 p1 (X cp n c (fr_ref06_Same_5 p0 p1) k) from by kernel_rfl)) i_ref06_Same_2).trans (congrArg (fun q => s_ref06_Same_4 cp n p0 p1 q) (s_ref06_Same_12_t cp n p0 p1 k))
def fr_ref06_Same_15 : FF := [dT 4 ((tB true) :: (dT 11 [])), dc]
theorem s_ref06_Same_14_t {R : Type} (cp : Nat → Nat → Bool) (n : Nat) (k : Ex → FF → Option R) : X cp n i_ref06_Same_4 fr_ref06_Same_8 k = s_ref06_Same_14 cp n (k .ret fr_ref06_Same_15) := by kernel_rfl
def fr_ref06_Same_16 (v101 : Bool) : FF := [dT 4 ((tB v101) :: (dT 11 [])), dc]
theorem s_ref06_Same_17_t {R : Type} (cp : Nat → Nat → Bool) (n : Nat) (p0 p1 : (List SSpan)) (k : Ex → FF → Option R) : X cp n i_ref06_Same_5 (fr_ref06_Same_2 p0 p1) k = s_ref06_Same_17 cp n p0 p1 (fun v101 => k .ret (fr_ref06_Same_16 v101)) := (show X cp n i_ref06_Same_5 (fr_ref06_Same_2 p0 p1) k = X cp n i_ref06_Same_3 (fr_ref06_Same_2 p0 p1) (seqT (X cp n) i_ref06_Same_4 k) from by kernel_rfl).trans ((show X cp n i_ref06_Same_3 (fr_ref06_Same_2 p0 p1) (seqT (X cp n) i_ref06_Same_4 k) = s_ref06_Same_13 cp n p0 p1 (X cp n i_ref06_Same_4 fr_ref06_Same_8 k) (k .ret (fr_ref06_Same_16 false)) from (s_ref06_Same_13_t cp n p0 p1 (seqT (X cp n) i_ref06_Same_4 k)).trans (by kernel_rfl)).trans (congrArg (fun q => s_ref06_Same_13 cp n p0 p1 q (k .ret (fr_ref06_Same_16 false))) ((s_ref06_Same_14_t cp n  k).trans (show s_ref06_Same_14 cp n (k .ret fr_ref06_Same_15) = s_ref06_Same_14 cp n (k .ret (fr_ref06_Same_16 true)) from by kernel_rfl))))
def fr_ref06_Same_18 (v102 : Bool) : FF := [dT 4 ((tB v102) :: (dT 11 [])), dc]
theorem s_ref06_Same_19_t {R : Type} (cp : Nat → Nat → Bool) (n : Nat) (p0 p1 : (List SSpan)) (k : Ex → FF → Option R) : X cp n i_ref06_Same_6 (fr_ref06_Same_2 p0 p1) k = s_ref06_Same_19 cp n p0 p1 (fun v102 => k .ret (fr_ref06_Same_18 v102)) := ((fun c => (show X cp n (.seq (.fin (.reg g_ref06_Same_0) [4] []) (.seq (.seq (.fin (.reg g_ref06_Same_1) [6, 7, 8, 9] []) (.fin (.cond (.s 10) (.seq (.fin (.reg g_ref06_Same_2) [0, 1, 10] []) (.ret)) (.skip)) [10] [])) c)) (fr_ref06_Same_2 p0 p1) k = s_ref06_Same_1 cp n p0 p1 (X cp n c (fr_ref06_Same_2 p0 p1) k) (k .ret (fr_ref06_Same_18 false)) from by kernel_rfl)) i_ref06_Same_5).trans (congrArg (fun q => s_ref06_Same_1 cp n p0 p1 q (k .ret (fr_ref06_Same_18 false))) ((s_ref06_Same_17_t cp n p0 p1 k).trans (show s_ref06_Same_17 cp n p0 p1 (fun v101 => k .ret (fr_ref06_Same_16 v101)) = s_ref06_Same_17 cp n p0 p1 (fun v101 => k .ret (fr_ref06_Same_18 v101)) from by kernel_rfl)))
theorem run_ref06_Same {R : Type} (cp : Nat → Nat → Bool) (n : Nat) (p0 p1 : (List SSpan)) (k : Ret2 RW → Option R) : G_ref06_Same cp (n + 1) p0 p1 (fun r0 => k ⟨(tB r0), [], []⟩) = run2 U cp (callP cp n) n fn_ref06_Same [.row false (.rSpan p0), .row false (.rSpan p1)] [] k := ((X_run (f := fn_ref06_Same) (av := [.row false (.rSpan p0), .row false (.rSpan p1)]) (cells := []) (code := i_ref06_Same_6) (fr := (fr_ref06_Same_2 p0 p1)) (k := k) (by kernel_rfl) (fun K => by kernel_rfl)).trans ((s_ref06_Same_19_t cp n p0 p1 (finK2 fn_ref06_Same k)).trans (by kernel_rfl))).symm
/-! tideway/span.Size -/
def fr_span_Size_2 (p0 : (List SSpan)) : FF := [(.row false (.rSpan p0)) :: (dT 2 ((tL 0) :: (dT 12 []))), dc]
def fr_span_Size_3 : FF := [dT 2 ((tL 0) :: (dT 13 [])), dc]
def fr_span_Size_5 (p0 : (List SSpan)) (v65 : Int) : FF := [dT 3 ((tL 0) :: (dT 5 ((.row false (.rSpan p0)) :: (tL v65) :: (tL 0) :: (dT 4 [])))), dc]
def fr_span_Size_7 (p0 : (List SSpan)) (v65 v68 v69 : Int) : FF := [dT 3 ((tL v68) :: (dT 5 ((.row false (.rSpan p0)) :: (tL v65) :: (tL v69) :: (dT 4 [])))), dc]
def fr_span_Size_8 (v66 : Int) : FF := [dT 3 ((tL v66) :: (dT 12 [])), dc]
def fr_span_Size_9 (p0 : (List SSpan)) (v65 v66 v67 : Int) : FF := [dT 3 ((tL v66) :: (dT 5 ((.row false (.rSpan p0)) :: (tL v65) :: (tL v67) :: (dT 4 [])))), dc]
theorem s_span_Size_6_t {R : Type} (cp : Nat → Nat → Bool) (n : Nat) (p0 : (List SSpan)) (v65 v66 v67 : Int) (k : Ex → FF → Option R) : X cp n i_span_Size_0 (fr_span_Size_9 p0 v65 v66 v67) k = s_span_Size_6 cp n p0 v65 v66 v67 (fun v68 v69 => k .norm (fr_span_Size_7 p0 v65 v68 v69)) (k (.exit 0) (fr_span_Size_8 v66)) := by kernel_rfl
def fr_span_Size_10 (v70 : Int) : FF := [dT 3 ((tL v70) :: (dT 12 [])), dc]
theorem l_span_Size_11_t {R : Type} (cp : Nat → Nat → Bool) (n : Nat) : ∀ (m : Nat) (p0 : (List SSpan)) (v65 v66 v67 : Int) (k : Ex → FF → Option R), loopN2 (X cp n i_span_Size_0) m (fr_span_Size_9 p0 v65 v66 v67) k = l_span_Size_11 cp n m p0 v65 v66 v67 (fun v70 => k (.exit 0) (fr_span_Size_10 v70))
  | 0, _, _, _, _, _ => rfl
  | m + 1, p0, v65, v66, v67, k => (loopN2_succ (X cp n i_span_Size_0) m (fr_span_Size_9 p0 v65 v66 v67) k).trans ((s_span_Size_6_t cp n p0 v65 v66 v67 (loopT (X cp n i_span_Size_0) m k)).trans ((show s_span_Size_6 cp n p0 v65 v66 v67 (fun v68 v69 => loopT (X cp n i_span_Size_0) m k .norm (fr_span_Size_7 p0 v65 v68 v69)) (loopT (X cp n i_span_Size_0) m k (.exit 0) (fr_span_Size_8 v66)) = s_span_Size_6 cp n p0 v65 v66 v67 (fun v68 v69 => loopN2 (X cp n i_span_Size_0) m (fr_span_Size_9 p0 v65 v68 v69) k) (k (.exit 0) (fr_span_Size_10 v66)) from by kernel_rfl).trans (congrArg (fun q => s_span_Size_6 cp n p0 v65 v66 v67 q (k (.exit 0) (fr_span_Size_10 v66))) (funext fun v68 => funext fun v69 => l_span_Size_11_t cp n m p0 v65 v68 v69 k))))
theorem s_span_Size_12_t {R : Type} (cp : Nat → Nat → Bool) (n : Nat) (p0 : (List SSpan)) (v65 : Int) (k : Ex → FF → Option R) : X cp n i_span_Size_1 (fr_span_Size_5 p0 v65) k = s_span_Size_12 cp n p0 v65 (fun v70 => k (.exit 0) (fr_span_Size_10 v70)) := (show X cp n i_span_Size_1 (fr_span_Size_5 p0 v65) k = loopN2 (X cp n i_span_Size_0) n (fr_span_Size_9 p0 v65 0 0) k from by kernel_rfl).trans (l_span_Size_11_t cp n n p0 v65 0 0 k)
def fr_span_Size_13 (v71 : Int) : FF := [dT 3 ((tL v71) :: (dT 12 [])), dc]
theorem s_span_Size_14_t {R : Type} (cp : Nat → Nat → Bool) (n : Nat) (p0 : (List SSpan)) (v65 : Int) (k : Ex → FF → Option R) : X cp n i_span_Size_2 (fr_span_Size_5 p0 v65) k = s_span_Size_14 cp n p0 v65 (fun v71 => k .norm (fr_span_Size_13 v71)) := (show X cp n i_span_Size_2 (fr_span_Size_5 p0 v65) k = X cp n i_span_Size_1 (fr_span_Size_5 p0 v65) (blkT 0 k) from by kernel_rfl).trans ((s_span_Size_12_t cp n p0 v65 (blkT 0 k)).trans (by kernel_rfl))
def fr_span_Size_15 (v72 : Int) : FF := [dT 3 ((tL v72) :: (dT 12 [])), dc]
theorem s_span_Size_16_t {R : Type} (cp : Nat → Nat → Bool) (n : Nat) (p0 : (List SSpan)) (k : Ex → FF → Option R) : X cp n i_span_Size_3 (fr_span_Size_2 p0) k = s_span_Size_16 cp n p0 (fun v72 => k .norm (fr_span_Size_15 v72)) := ((fun c => (show X cp n (.seq (.fin (.reg g_span_Size_4) [0] []) c) (fr_span_Size_2 p0) k = s_span_Size_4 cp n p0 (fun v65 => X cp n c (fr_span_Size_5 p0 v65) k) from by kernel_rfl)) i_span_Size_2).trans (congrArg (fun q => s_span_Size_4 cp n p0 q) (funext fun v65 => (s_span_Size_14_t cp n p0 v65 k).trans (show s_span_Size_14 cp n p0 v65 (fun v71 => k .norm (fr_span_Size_13 v71)) = s_span_Size_14 cp n p0 v65 (fun v71 => k .norm (fr_span_Size_15 v71)) from by kernel_rfl)))
def fr_span_Size_18 (v72 : Int) : FF := [dT 2 ((tL v72) :: (dT 13 [])), dc]
theorem s_span_Size_17_t {R : Type} (cp : Nat → Nat → Bool) (n : Nat) (v72 : Int) (k : Ex → FF → Option R) : X cp n i_span_Size_4 (fr_span_Size_15 v72) k = s_span_Size_17 cp n v72 (k .ret (fr_span_Size_18 v72)) := by kernel_rfl
def fr_span_Size_19 (v73 : Int) : FF := [dT 2 ((tL v73) :: (dT 13 [])), dc]
theorem s_span_Size_20_t {R : Type} (cp : Nat → Nat → Bool) (n : Nat) (p0 : (List SSpan)) (k : Ex → FF → Option R) : X cp n i_span_Size_5 (fr_span_Size_2 p0) k = s_span_Size_20 cp n p0 (fun v73 => k .ret (fr_span_Size_19 v73)) := (show X cp n i_span_Size_5 (fr_span_Size_2 p0) k = X cp n i_span_Size_3 (fr_span_Size_2 p0) (seqT (X cp n) i_span_Size_4 k) from by kernel_rfl).trans ((show X cp n i_span_Size_3 (fr_span_Size_2 p0) (seqT (X cp n) i_span_Size_4 k) = s_span_Size_16 cp n p0 (fun v72 => X cp n i_span_Size_4 (fr_span_Size_15 v72) k) from (s_span_Size_16_t cp n p0 (seqT (X cp n) i_span_Size_4 k)).trans (by kernel_rfl)).trans (congrArg (fun q => s_span_Size_16 cp n p0 q) (funext fun v72 => (s_span_Size_17_t cp n v72 k).trans (show s_span_Size_17 cp n v72 (k .ret (fr_span_Size_18 v72)) = s_span_Size_17 cp n v72 (k .ret (fr_span_Size_19 v72)) from by kernel_rfl))))
def fr_span_Size_21 (v74 : Int) : FF := [dT 2 ((tL v74) :: (dT 13 [])), dc]
def fr_span_Size_23 (p0 : (List SSpan)) : FF := [(.row false (.rSpan p0)) :: (dT 15 []), dc]
theorem s_span_Size_22_t {R : Type} (cp : Nat → Nat → Bool) (n : Nat) (p0 : (List SSpan)) (k : Ex → FF → Option R) : X cp n i_span_Size_6 (fr_span_Size_23 p0) k = s_span_Size_22 cp n p0 (fun v74 => k .ret (fr_span_Size_21 v74)) := ((fun c => (show X cp n (.seq (.fin (.reg g_span_Size_0) [2] []) (.seq (.seq (.fin (.reg g_span_Size_1) [6, 7] []) (.fin (.cond (.s 8) (.seq (.fin (.reg g_span_Size_2) [0, 8] []) (.ret)) (.skip)) [8] [])) (.seq (.reg g_span_Size_3) c))) (fr_span_Size_23 p0) k = s_span_Size_1 cp n p0 (X cp n c (fr_span_Size_2 p0) k) (k .ret (fr_span_Size_21 0)) from by kernel_rfl)) i_span_Size_5).trans (congrArg (fun q => s_span_Size_1 cp n p0 q (k .ret (fr_span_Size_21 0))) ((s_span_Size_20_t cp n p0 k).trans (show s_span_Size_20 cp n p0 (fun v73 => k .ret (fr_span_Size_19 v73)) = s_span_Size_20 cp n p0 (fun v73 => k .ret (fr_span_Size_21 v73)) from by kernel_rfl)))
theorem run_span_Size {R : Type} (cp : Nat → Nat → Bool) (n : Nat) (p0 : (List SSpan)) (k : Ret2 RW → Option R) : G_span_Size cp (n + 1) p0 (fun r0 => k ⟨(tL r0), [], []⟩) = run2 U cp (callP cp n) n fn_span_Size [.row false (.rSpan p0)] [] k := ((X_run (f := fn_span_Size) (av := [.row false (.rSpan p0)]) (cells := []) (code := i_span_Size_6) (fr := (fr_span_Size_23 p0)) (k := k) (by kernel_rfl) (fun K => by kernel_rfl)).trans ((s_span_Size_22_t cp n p0 (finK2 fn_span_Size k)).trans (by kernel_rfl))).symm
/-! tideway/span.Find$1 -/
theorem run_span_Find_1 {R : Type} (cp : Nat → Nat → Bool) (n : Nat) (p0 : SSpan) (q0 : Int) (k : Ret2 RW → Option R) : G_span_Find_1 cp (n + 1) p0 q0 (fun r0 r1 => k ⟨(tB r0), [[(tL r1)]], []⟩) = run2 U cp (callP cp n) n fn_span_Find_1 [.agg (eSpan p0), .ptr 14 0] [[(tL q0)]] k := by kernel_rfl
/-! slices.IndexFunc[[]tideway/api.Span,tideway/api.Span] -/
def fr_slices_IndexFunc_Span_2 (p0 : (List SSpan)) (q0 : Int) : FF := [(.row false (.rSpan p0)) :: (.clo 24 [(19, 0)]) :: (dT 14 []), dT 3 ((.hdr 1) :: (tL q0) :: (dT 11 []))]
def fr_slices_IndexFunc_Span_4 (p0 : (List SSpan)) (q0 v77 : Int) : FF := [(.row false (.rSpan p0)) :: (.clo 24 [(19, 0)]) :: (dT 5 ((tL v77) :: (tL 0) :: (dT 7 []))), dT 3 ((.hdr 1) :: (tL q0) :: (dT 11 []))]
def fr_slices_IndexFunc_Span_6 (p0 : (List SSpan)) (v77 v82 v83 : Int) : FF := [(.row false (.rSpan p0)) :: (.clo 24 [(19, 0)]) :: (dT 5 ((tL v77) :: (tL v82) :: (dT 7 []))), dT 3 ((.hdr 1) :: (tL v83) :: (dT 11 []))]
def fr_slices_IndexFunc_Span_7 (v78 v84 : Int) : FF := [dT 4 ((tL v78) :: (dT 11 [])), dT 3 ((.hdr 1) :: (tL v84) :: (dT 11 []))]
def fr_slices_IndexFunc_Span_8 (v79 : Int) : FF := [dc, dT 3 ((.hdr 1) :: (tL v79) :: (dT 11 []))]
def fr_slices_IndexFunc_Span_9 (p0 : (List SSpan)) (v77 v78 v79 : Int) : FF := [(.row false (.rSpan p0)) :: (.clo 24 [(19, 0)]) :: (dT 5 ((tL v77) :: (tL v78) :: (dT 7 []))), dT 3 ((.hdr 1) :: (tL v79) :: (dT 11 []))]
theorem s_slices_IndexFunc_Span_5_t {R : Type} (cp : Nat → Nat → Bool) (n : Nat) (p0 : (List SSpan)) (v77 v78 v79 : Int) (k : Ex → FF → Option R) : X cp n i_slices_IndexFunc_Span_0 (fr_slices_IndexFunc_Span_9 p0 v77 v78 v79) k = s_slices_IndexFunc_Span_5 cp n p0 v77 v78 v79 (fun v82 v83 => k .norm (fr_slices_IndexFunc_Span_6 p0 v77 v82 v83)) (fun v84 => k .ret (fr_slices_IndexFunc_Span_7 v78 v84)) (k (.exit 0) (fr_slices_IndexFunc_Span_8 v79)) := by kernel_rfl
def fr_slices_IndexFunc_Span_10 (v85 v86 : Int) : FF := [dT 4 ((tL v85) :: (dT 11 [])), dT 3 ((.hdr 1) :: (tL v86) :: (dT 11 []))]
def fr_slices_IndexFunc_Span_11 (v87 : Int) : FF := [dc, dT 3 ((.hdr 1) :: (tL v87) :: (dT 11 []))]
theorem l_slices_IndexFunc_Span_12_t {R : Type} (cp : Nat → Nat → Bool) (n : Nat) : ∀ (m : Nat) (p0 : (List SSpan)) (v77 v78 v79 : Int) (k : Ex → FF → Option R), loopN2 (X cp n i_slices_IndexFunc_Span_0) m (fr_slices_IndexFunc_Span_9 p0 v77 v78 v79) k = l_slices_IndexFunc_Span_12 cp n m p0 v77 v78 v79 (fun v85 v86 => k .ret (fr_slices_IndexFunc_Span_10 v85 v86)) (fun v87 => k (.exit 0) (fr_slices_IndexFunc_Span_11 v87))
  | 0, _, _, _, _, _ => rfl
  | m + 1, p0, v77, v78, v79, k => (loopN2_succ (X cp n i_slices_IndexFunc_Span_0) m (fr_slices_IndexFunc_Span_9 p0 v77 v78 v79) k).trans ((s_slices_IndexFunc_Span_5_t cp n p0 v77 v78 v79 (loopT (X cp n i_slices_IndexFunc_Span_0) m k)).trans ((show s_slices_IndexFunc_Span_5 cp n p0 v77 v78 v79 (fun v82 v83 => loopT (X cp n i_slices_IndexFunc_Span_0) m k .norm (fr_slices_IndexFunc_Span_6 p0 v77 v82 v83)) (fun v84 => loopT (X cp n i_slices_IndexFunc_Span_0) m k .ret (fr_slices_IndexFunc_Span_7 v78 v84)) (loopT (X cp n i_slices_IndexFunc_Span_0) m k (.exit 0) (fr_slices_IndexFunc_Span_8 v79)) = s_slices_IndexFunc_Span_5 cp n p0 v77 v78 v79 (fun v82 v83 => loopN2 (X cp n i_slices_IndexFunc_Span_0) m (fr_slices_IndexFunc_Span_9 p0 v77 v82 v83) k) (fun v84 => k .ret (fr_slices_IndexFunc_Span_10 v78 v84)) (k (.exit 0) (fr_slices_IndexFunc_Span_11 v79)) from by kernel_rfl).trans (congrArg (fun q => s_slices_IndexFunc_Span_5 cp n p0 v77 v78 v79 q (fun v84 => k .ret (fr_slices_IndexFunc_Span_10 v78 v84)) (k (.exit 0) (fr_slices_IndexFunc_Span_11 v79))) (funext fun v82 => funext fun v83 => l_slices_IndexFunc_Span_12_t cp n m p0 v77 v82 v83 k))))
theorem s_slices_IndexFunc_Span_13_t {R : Type} (cp : Nat → Nat → Bool) (n : Nat) (p0 : (List SSpan)) (q0 v77 : Int) (k : Ex → FF → Option R) : X cp n i_slices_IndexFunc_Span_1 (fr_slices_IndexFunc_Span_4 p0 q0 v77) k = s_slices_IndexFunc_Span_13 cp n p0 q0 v77 (fun v85 v86 => k .ret (fr_slices_IndexFunc_Span_10 v85 v86)) (fun v87 => k (.exit 0) (fr_slices_IndexFunc_Span_11 v87)) := (show X cp n i_slices_IndexFunc_Span_1 (fr_slices_IndexFunc_Span_4 p0 q0 v77) k = loopN2 (X cp n i_slices_IndexFunc_Span_0) n (fr_slices_IndexFunc_Span_9 p0 v77 0 q0) k from by kernel_rfl).trans (l_slices_IndexFunc_Span_12_t cp n n p0 v77 0 q0 k)
def fr_slices_IndexFunc_Span_14 (v88 : Int) : FF := [dc, dT 3 ((.hdr 1) :: (tL v88) :: (dT 11 []))]
def fr_slices_IndexFunc_Span_15 (v89 v90 : Int) : FF := [dT 4 ((tL v89) :: (dT 11 [])), dT 3 ((.hdr 1) :: (tL v90) :: (dT 11 []))]
theorem s_slices_IndexFunc_Span_16_t {R : Type} (cp : Nat → Nat → Bool) (n : Nat) (p0 : (List SSpan)) (q0 v77 : Int) (k : Ex → FF → Option R) : X cp n i_slices_IndexFunc_Span_2 (fr_slices_IndexFunc_Span_4 p0 q0 v77) k = s_slices_IndexFunc_Span_16 cp n p0 q0 v77 (fun v88 => k .norm (fr_slices_IndexFunc_Span_14 v88)) (fun v89 v90 => k .ret (fr_slices_IndexFunc_Span_15 v89 v90)) := (show X cp n i_slices_IndexFunc_Span_2 (fr_slices_IndexFunc_Span_4 p0 q0 v77) k = X cp n i_slices_IndexFunc_Span_1 (fr_slices_IndexFunc_Span_4 p0 q0 v77) (blkT 0 k) from by kernel_rfl).trans ((s_slices_IndexFunc_Span_13_t cp n p0 q0 v77 (blkT 0 k)).trans (by kernel_rfl))
def fr_slices_IndexFunc_Span_17 (v91 : Int) : FF := [dc, dT 3 ((.hdr 1) :: (tL v91) :: (dT 11 []))]
def fr_slices_IndexFunc_Span_18 (v92 v93 : Int) : FF := [dT 4 ((tL v92) :: (dT 11 [])), dT 3 ((.hdr 1) :: (tL v93) :: (dT 11 []))]
theorem s_slices_IndexFunc_Span_19_t {R : Type} (cp : Nat → Nat → Bool) (n : Nat) (p0 : (List SSpan)) (q0 : Int) (k : Ex → FF → Option R) : X cp n i_slices_IndexFunc_Span_3 (fr_slices_IndexFunc_Span_2 p0 q0) k = s_slices_IndexFunc_Span_19 cp n p0 q0 (fun v91 => k .norm (fr_slices_IndexFunc_Span_17 v91)) (fun v92 v93 => k .ret (fr_slices_IndexFunc_Span_18 v92 v93)) := ((fun c => (show X cp n (.seq (.fin (.reg g_slices_IndexFunc_Span_1) [6] []) c) (fr_slices_IndexFunc_Span_2 p0 q0) k = s_slices_IndexFunc_Span_3 cp n p0 q0 (fun v77 => X cp n c (fr_slices_IndexFunc_Span_4 p0 q0 v77) k) from by kernel_rfl)) i_slices_IndexFunc_Span_2).trans (congrArg (fun q => s_slices_IndexFunc_Span_3 cp n p0 q0 q) (funext fun v77 => (s_slices_IndexFunc_Span_16_t cp n p0 q0 v77 k).trans (show s_slices_IndexFunc_Span_16 cp n p0 q0 v77 (fun v88 => k .norm (fr_slices_IndexFunc_Span_14 v88)) (fun v89 v90 => k .ret (fr_slices_IndexFunc_Span_15 v89 v90)) = s_slices_IndexFunc_Span_16 cp n p0 q0 v77 (fun v88 => k .norm (fr_slices_IndexFunc_Span_17 v88)) (fun v89 v90 => k .ret (fr_slices_IndexFunc_Span_18 v89 v90)) from by kernel_rfl)))
def fr_slices_IndexFunc_Span_21 (v91 : Int) : FF := [dT 4 ((tL (-1)) :: (dT 11 [])), dT 3 ((.hdr 1) :: (tL v91) :: (dT 11 []))]
theorem s_slices_IndexFunc_Span_20_t {R : Type} (cp : Nat → Nat → Bool) (n : Nat) (v91 : Int) (k : Ex → FF → Option R) : X cp n i_slices_IndexFunc_Span_4 (fr_slices_IndexFunc_Span_17 v91) k = s_slices_IndexFunc_Span_20 cp n v91 (k .ret (fr_slices_IndexFunc_Span_21 v91)) := by kernel_rfl
def fr_slices_IndexFunc_Span_22 (v94 v95 : Int) : FF := [dT 4 ((tL v94) :: (dT 11 [])), dT 3 ((.hdr 1) :: (tL v95) :: (dT 11 []))]
theorem s_slices_IndexFunc_Span_23_t {R : Type} (cp : Nat → Nat → Bool) (n : Nat) (p0 : (List SSpan)) (q0 : Int) (k : Ex → FF → Option R) : X cp n i_slices_IndexFunc_Span_5 (fr_slices_IndexFunc_Span_2 p0 q0) k = s_slices_IndexFunc_Span_23 cp n p0 q0 (fun v94 v95 => k .ret (fr_slices_IndexFunc_Span_22 v94 v95)) := (show X cp n i_slices_IndexFunc_Span_5 (fr_slices_IndexFunc_Span_2 p0 q0) k = X cp n i_slices_IndexFunc_Span_3 (fr_slices_IndexFunc_Span_2 p0 q0) (seqT (X cp n) i_slices_IndexFunc_Span_4 k) from by kernel_rfl).trans ((show X cp n i_slices_IndexFunc_Span_3 (fr_slices_IndexFunc_Span_2 p0 q0) (seqT (X cp n) i_slices_IndexFunc_Span_4 k) = s_slices_IndexFunc_Span_19 cp n p0 q0 (fun v91 => X cp n i_slices_IndexFunc_Span_4 (fr_slices_IndexFunc_Span_17 v91) k) (fun v92 v93 => k .ret (fr_slices_IndexFunc_Span_22 v92 v93)) from (s_slices_IndexFunc_Span_19_t cp n p0 q0 (seqT (X cp n) i_slices_IndexFunc_Span_4 k)).trans (by kernel_rfl)).trans (congrArg (fun q => s_slices_IndexFunc_Span_19 cp n p0 q0 q (fun v92 v93 => k .ret (fr_slices_IndexFunc_Span_22 v92 v93))) (funext fun v91 => (s_slices_IndexFunc_Span_20_t cp n v91 k).trans (show s_slices_IndexFunc_Span_20 cp n v91 (k .ret (fr_slices_IndexFunc_Span_21 v91)) = s_slices_IndexFunc_Span_20 cp n v91 (k .ret (fr_slices_IndexFunc_Span_22 (-1) v91)) from by kernel_rfl))))
def fr_slices_IndexFunc_Span_24 (v96 v97 : Int) : FF := [dT 4 ((tL v96) :: (dT 11 [])), dT 3 ((.hdr 1) :: (tL v97) :: (dT 11 []))]
theorem s_slices_IndexFunc_Span_25_t {R : Type} (cp : Nat → Nat → Bool) (n : Nat) (p0 : (List SSpan)) (q0 : Int) (k : Ex → FF → Option R) : X cp n i_slices_IndexFunc_Span_6 (fr_slices_IndexFunc_Span_2 p0 q0) k = s_slices_IndexFunc_Span_25 cp n p0 q0 (fun v96 v97 => k .ret (fr_slices_IndexFunc_Span_24 v96 v97)) := ((fun c => (show X cp n (.seq (.fin (.reg g_slices_IndexFunc_Span_0) [4] []) c) (fr_slices_IndexFunc_Span_2 p0 q0) k = s_slices_IndexFunc_Span_1 cp n p0 q0 (X cp n c (fr_slices_IndexFunc_Span_2 p0 q0) k) from by kernel_rfl)) i_slices_IndexFunc_Span_5).trans (congrArg (fun q => s_slices_IndexFunc_Span_1 cp n p0 q0 q) ((s_slices_IndexFunc_Span_23_t cp n p0 q0 k).trans (show s_slices_IndexFunc_Span_23 cp n p0 q0 (fun v94 v95 => k .ret (fr_slices_IndexFunc_Span_22 v94 v95)) = s_slices_IndexFunc_Span_23 cp n p0 q0 (fun v94 v95 => k .ret (fr_slices_IndexFunc_Span_24 v94 v95)) from by kernel_rfl)))
theorem run_slices_IndexFunc_Span {R : Type} (cp : Nat → Nat → Bool) (n : Nat) (p0 : (List SSpan)) (q0 : Int) (k : Ret2 RW → Option R) : G_slices_IndexFunc_Span cp (n + 1) p0 q0 (fun r0 r1 => k ⟨(tL r0), [[(tL r1)]], []⟩) = run2 U cp (callP cp n) n fn_slices_IndexFunc_Span [.row false (.rSpan p0), .clo 24 [(19, 0)]] [[(tL q0)]] k := ((X_run (f := fn_slices_IndexFunc_Span) (av := [.row false (.rSpan p0), .clo 24 [(19, 0)]]) (cells := [[(tL q0)]]) (code := i_slices_IndexFunc_Span_6) (fr := (fr_slices_IndexFunc_Span_2 p0 q0)) (k := k) (by kernel_rfl) (fun K => by kernel_rfl)).trans ((s_slices_IndexFunc_Span_25_t cp n p0 q0 (finK2 fn_slices_IndexFunc_Span k)).trans (by kernel_rfl))).symm
/-! tideway/span.Find -/
theorem run_span_Find {R : Type} (cp : Nat → Nat → Bool) (n : Nat) (p0 : (List SSpan)) (p1 : Int) (k : Ret2 RW → Option R) : G_span_Find cp (n + 1) p0 p1 (fun r0 r1 => k ⟨.tup [.agg (eSpan r0), (tB r1)], [], []⟩) = run2 U cp (callP cp n) n fn_span_Find [.row false (.rSpan p0), (tL p1)] [] k := by kernel_rfl
/-! tideway/span.Has -/
theorem run_span_Has {R : Type} (cp : Nat → Nat → Bool) (n : Nat) (p0 : (List SSpan)) (p1 : Int) (k : Ret2 RW → Option R) : G_span_Has cp (n + 1) p0 p1 (fun r0 => k ⟨(tB r0), [], []⟩) = run2 U cp (callP cp n) n fn_span_Has [.row false (.rSpan p0), (tL p1)] [] k := by kernel_rfl
/-! tideway/tidewaylaw06.heads -/
def fr_law06_heads_2 (v57 : (List SSpan)) (v58 : Int) (v59 : (List SSpan)) (v60 : Int) : FF := [dT 2 ((.row false (.rSpan v57)) :: (tL v58) :: (.row false (.rSpan v59)) :: (dT 1 ((tL v60) :: (dT 9 [])))), dc, dc, dc]
def fr_law06_heads_4 (v66 : Bool) : FF := [(tB v66) :: (dT 15 []), dc, dc, dc]
theorem s_law06_heads_3_t {R : Type} (cp : Nat → Nat → Bool) (n : Nat) (v57 : (List SSpan)) (v58 : Int) (v59 : (List SSpan)) (v60 : Int) (k : Ex → FF → Option R) : X cp n i_law06_heads_0 (fr_law06_heads_2 v57 v58 v59 v60) k = s_law06_heads_3 cp n v57 v58 v59 v60 (fun v66 => k .norm (fr_law06_heads_4 v66)) := by kernel_rfl
theorem s_law06_heads_5_t {R : Type} (cp : Nat → Nat → Bool) (n : Nat) (v66 : Bool) (k : Ex → FF → Option R) : X cp n i_law06_heads_1 (fr_law06_heads_4 v66) k = s_law06_heads_5 cp n v66 (k .ret (fr_law06_heads_4 v66)) := by kernel_rfl
def fr_law06_heads_6 (v67 : Bool) : FF := [(tB v67) :: (dT 15 []), dc, dc, dc]
theorem s_law06_heads_7_t {R : Type} (cp : Nat → Nat → Bool) (n : Nat) (v57 : (List SSpan)) (v58 : Int) (v59 : (List SSpan)) (v60 : Int) (k : Ex → FF → Option R) : X cp n i_law06_heads_2 (fr_law06_heads_2 v57 v58 v59 v60) k = s_law06_heads_7 cp n v57 v58 v59 v60 (fun v67 => k .ret (fr_law06_heads_6 v67)) := (show X cp n i_law06_heads_2 (fr_law06_heads_2 v57 v58 v59 v60) k = X cp n i_law06_heads_0 (fr_law06_heads_2 v57 v58 v59 v60) (seqT (X cp n) i_law06_heads_1 k) from by kernel_rfl).trans ((show X cp n i_law06_heads_0 (fr_law06_heads_2 v57 v58 v59 v60) (seqT (X cp n) i_law06_heads_1 k) = s_law06_heads_3 cp n v57 v58 v59 v60 (fun v66 => X cp n i_law06_heads_1 (fr_law06_heads_4 v66) k) from (s_law06_heads_3_t cp n v57 v58 v59 v60 (seqT (X cp n) i_law06_heads_1 k)).trans (by kernel_rfl)).trans (congrArg (fun q => s_law06_heads_3 cp n v57 v58 v59 v60 q) (funext fun v66 => (s_law06_heads_5_t cp n v66 k).trans (show s_law06_heads_5 cp n v66 (k .ret (fr_law06_heads_4 v66)) = s_law06_heads_5 cp n v66 (k .ret (fr_law06_heads_6 v66)) from by kernel_rfl))))
def fr_law06_heads_8 (v68 : Bool) : FF := [(tB v68) :: (dT 15 []), dc, dc, dc]
def fr_law06_heads_10 : FF := [dc, dc, dc, dc]
theorem s_law06_heads_9_t {R : Type} (cp : Nat → Nat → Bool) (n : Nat) (k : Ex → FF → Option R) : X cp n i_law06_heads_3 fr_law06_heads_10 k = s_law06_heads_9 cp n (fun v68 => k .ret (fr_law06_heads_8 v68)) := ((fun c => (show X cp n (.seq (.fin (.reg g_law06_heads_0) [0] []) (.seq (.fin (.reg g_law06_heads_1) [7, 8, 9] []) (.seq (.fin (.reg g_law06_heads_2) [1, 10, 11, 12, 13, 14, 15] []) (.seq (.fin (.reg g_law06_heads_3) [16, 17, 18] []) (.seq (.fin (.reg g_law06_heads_4) [5, 19, 20, 21, 22, 23, 24, 25] []) c))))) fr_law06_heads_10 k = s_law06_heads_1 cp n (fun v57 v58 v59 v60 => X cp n c (fr_law06_heads_2 v57 v58 v59 v60) k) from by kernel_rfl)) i_law06_heads_2).trans (congrArg (fun q => s_law06_heads_1 cp n q) (funext fun v57 => funext fun v58 => funext fun v59 => funext fun v60 => (s_law06_heads_7_t cp n v57 v58 v59 v60 k).trans (show s_law06_heads_7 cp n v57 v58 v59 v60 (fun v67 => k .ret (fr_law06_heads_6 v67)) = s_law06_heads_7 cp n v57 v58 v59 v60 (fun v67 => k .ret (fr_law06_heads_8 v67)) from by kernel_rfl)))
theorem run_law06_heads {R : Type} (cp : Nat → Nat → Bool) (n : Nat) (k : Ret2 RW → Option R) : G_law06_heads cp (n + 1) (fun r0 => k ⟨(tB r0), [], []⟩) = run2 U cp (callP cp n) n fn_law06_heads [] [] k := ((X_run (f := fn_law06_heads) (av := []) (cells := []) (code := i_law06_heads_3) (fr := fr_law06_heads_10) (k := k) (by kernel_rfl) (fun K => by kernel_rfl)).trans ((s_law06_heads_9_t cp n  (finK2 fn_law06_heads k)).trans (by kernel_rfl))).symm
/-! tideway/tidewaylaw06.SpanOrder -/
def fr_law06_SpanOrder_2 (p1 p2 : SSpan) (v13 v14 : (List SSpan)) : FF := [dT 4 ((.ptr 60 0) :: (.ptr 63 0) :: (dT 1 ((.row false (.rSpan v13)) :: (dT 1 ((.row false (.rSpan v14)) :: (dT 6 [])))))), dc, dc, dT 12 ((.hdr 2) :: ((eSpan p1) ++ [.hdr 2])), (eSpan p2) ++ (dT 14 [])]
def fr_law06_SpanOrder_3 (v15 : Bool) : FF := [dT 6 ((tB v15) :: (dT 9 [])), dc, dc, dc, dc]
def fr_law06_SpanOrder_5 (v22 : Bool) : FF := [dT 6 ((tB v22) :: (dT 9 [])), dc, dc, dc, dc]
theorem s_law06_SpanOrder_4_t {R : Type} (cp : Nat → Nat → Bool) (n : Nat) (p1 p2 : SSpan) (v13 v14 : (List SSpan)) (k : Ex → FF → Option R) : X cp n i_law06_SpanOrder_0 (fr_law06_SpanOrder_2 p1 p2 v13 v14) k = s_law06_SpanOrder_4 cp n p1 p2 v13 v14 (fun v22 => k .ret (fr_law06_SpanOrder_5 v22)) := by kernel_rfl
def fr_law06_SpanOrder_6 (v23 : Bool) : FF := [dT 6 ((tB v23) :: (dT 9 [])), dc, dc, dc, dc]
def fr_law06_SpanOrder_8 (p0 : (List SSpan)) (p1 p2 : SSpan) : FF := [(.row false (.rSpan p0)) :: (.agg (eSpan p1)) :: (.agg (eSpan p2)) :: (dT 13 []), dc, dc, dc, dc]
theorem s_law06_SpanOrder_7_t {R : Type} (cp : Nat → Nat → Bool) (n : Nat) (p0 : (List SSpan)) (p1 p2 : SSpan) (k : Ex → FF → Option R) : X cp n i_law06_SpanOrder_1 (fr_law06_SpanOrder_8 p0 p1 p2) k = s_law06_SpanOrder_7 cp n p0 p1 p2 (fun v23 => k .ret (fr_law06_SpanOrder_6 v23)) := ((fun c => (show X cp n (.seq (.fin (.reg g_law06_SpanOrder_0) [1, 2, 6] []) (.seq (.fin (.reg g_law06_SpanOrder_1) [15, 16, 17, 18, 19, 20] []) (.seq (.fin (.reg g_law06_SpanOrder_2) [0, 21, 22, 23, 24, 25, 26] []) (.seq (.seq (.fin (.reg g_law06_SpanOrder_3) [8, 10, 27, 28, 29, 30, 31] []) (.fin (.cond (.s 32) (.seq (.fin (.reg g_law06_SpanOrder_4) [4, 5, 7, 9, 32, 33] [(60, 2), (63, 2)]) (.ret)) (.skip)) [32] [])) c)))) (fr_law06_SpanOrder_8 p0 p1 p2) k = s_law06_SpanOrder_1 cp n p0 p1 p2 (fun v13 v14 => X cp n c (fr_law06_SpanOrder_2 p1 p2 v13 v14) k) (fun v15 => k .ret (fr_law06_SpanOrder_6 v15)) from by kernel_rfl)) i_law06_SpanOrder_0).trans (congrArg (fun q => s_law06_SpanOrder_1 cp n p0 p1 p2 q (fun v15 => k .ret (fr_law06_SpanOrder_6 v15))) (funext fun v13 => funext fun v14 => (s_law06_SpanOrder_4_t cp n p1 p2 v13 v14 k).trans (show s_law06_SpanOrder_4 cp n p1 p2 v13 v14 (fun v22 => k .ret (fr_law06_SpanOrder_5 v22)) = s_law06_SpanOrder_4 cp n p1 p2 v13 v14 (fun v22 => k .ret (fr_law06_SpanOrder_6 v22)) from by kernel_rfl)))
theorem run_law06_SpanOrder {R : Type} (cp : Nat → Nat → Bool) (n : Nat) (p0 : (List SSpan)) (p1 p2 : SSpan) (k : Ret2 RW → Option R) : G_law06_SpanOrder cp (n + 1) p0 p1 p2 (fun r0 => k ⟨(tB r0), [], []⟩) = run2 U cp (callP cp n) n fn_law06_SpanOrder [.row false (.rSpan p0), .agg (eSpan p1), .agg (eSpan p2)] [] k := ((X_run (f := fn_law06_SpanOrder) (av := [.row false (.rSpan p0), .agg (eSpan p1), .agg (eSpan p2)]) (cells := []) (code := i_law06_SpanOrder_1) (fr := (fr_law06_SpanOrder_8 p0 p1 p2)) (k := k) (by kernel_rfl) (fun K => by kernel_rfl)).trans ((s_law06_SpanOrder_7_t cp n p0 p1 p2 (finK2 fn_law06_SpanOrder k)).trans (by kernel_rfl))).symm
def tbl : Nat → Option IFn
  | 19 => some (fn_span_may.lo U)
  | 11 => some (fn_span_Check.lo U)
  | 13 => some (fn_span_right.lo U)
  | 14 => some fn_slices_Clone_Span
  | 5 => some (fn_span_Add.lo U)
  | 20 => some (fn_span_within.lo U)
  | 15 => some (fn_span_Gaps.lo U)
  | 7 => some (fn_ref06_Same.lo U)
  | 16 => some (fn_span_Size.lo U)
  | 1014 => some (fn_span_Find_1.lo U)
  | 1013 => some (fn_slices_IndexFunc_Span.lo U)
  | 21 => some (fn_span_Find.lo U)
  | 17 => some (fn_span_Has.lo U)
  | 6 => some (fn_law06_heads.lo U)
  | 3 => some (fn_law06_SpanOrder.lo U)
  | _ => none
theorem chk_span_may : chkFn Try.prog tbl (fn_span_may.lo U) = true := by kernel_rfl
theorem chk_span_Check : chkFn Try.prog tbl (fn_span_Check.lo U) = true := by kernel_rfl
theorem chk_span_right : chkFn Try.prog tbl (fn_span_right.lo U) = true := by kernel_rfl
theorem chk_slices_Clone_Span : chkFn Try.prog tbl fn_slices_Clone_Span = true := by kernel_rfl
theorem chk_span_Add : chkFn Try.prog tbl (fn_span_Add.lo U) = true := by kernel_rfl
theorem chk_span_within : chkFn Try.prog tbl (fn_span_within.lo U) = true := by kernel_rfl
theorem chk_span_Gaps : chkFn Try.prog tbl (fn_span_Gaps.lo U) = true := by kernel_rfl
theorem chk_ref06_Same : chkFn Try.prog tbl (fn_ref06_Same.lo U) = true := by kernel_rfl
theorem chk_span_Size : chkFn Try.prog tbl (fn_span_Size.lo U) = true := by kernel_rfl
theorem chk_span_Find_1 : chkFn Try.prog tbl (fn_span_Find_1.lo U) = true := by kernel_rfl
theorem chk_slices_IndexFunc_Span : chkFn Try.prog tbl (fn_slices_IndexFunc_Span.lo U) = true := by kernel_rfl
theorem chk_span_Find : chkFn Try.prog tbl (fn_span_Find.lo U) = true := by kernel_rfl
theorem chk_span_Has : chkFn Try.prog tbl (fn_span_Has.lo U) = true := by kernel_rfl
theorem chk_law06_heads : chkFn Try.prog tbl (fn_law06_heads.lo U) = true := by kernel_rfl
theorem chk_law06_SpanOrder : chkFn Try.prog tbl (fn_law06_SpanOrder.lo U) = true := by kernel_rfl
theorem chkAll : ∀ (id : Nat) (f : IFn), tbl id = some f → chkFn Try.prog tbl f = true := by
  intro id f h
  unfold tbl at h
  split at h
  · cases h; exact chk_span_may
  · cases h; exact chk_span_Check
  · cases h; exact chk_span_right
  · cases h; exact chk_slices_Clone_Span
  · cases h; exact chk_span_Add
  · cases h; exact chk_span_within
  · cases h; exact chk_span_Gaps
  · cases h; exact chk_ref06_Same
  · cases h; exact chk_span_Size
  · cases h; exact chk_span_Find_1
  · cases h; exact chk_slices_IndexFunc_Span
  · cases h; exact chk_span_Find
  · cases h; exact chk_span_Has
  · cases h; exact chk_law06_heads
  · cases h; exact chk_law06_SpanOrder
  · cases h
theorem clone_slices_Clone_Span (n : Nat) (xs : (List SSpan)) (hc : capB (0 + xs.length) 16 = true) : runF tbl (n + 1) 14 [.row false 2 xs.length (rg cSpan zSpan xs)] [] = some ⟨.row true 2 xs.length (rg cSpan zSpan xs), [], []⟩ :=
  clone_fin (F := fun m g => runF tbl (n + 1) 14 [.row false 2 m g] []) (fun g => show runF tbl (n + 1) 14 [.row false 2 0 g] [] = both (some ⟨.row true 2 0 (fun _ => [.sc (.int .i64 0), .sc (.int .i64 0)]), [], []⟩) (cond (capB (0 + 0) 16) (some ⟨.row true 2 (0 + 0) (appGet 0 0 (litGet 2 0 [.sc (.int .i64 0), .sc (.int .i64 0)] []) g), [], []⟩) none) from by kernel_rfl) (fun m g => show runF tbl (n + 1) 14 [.row false 2 (m + 1) g] [] = (cond (capB (0 + (m + 1)) 16) (some ⟨.row true 2 (0 + (m + 1)) (appGet 0 (m + 1) (litGet 2 0 [.sc (.int .i64 0), .sc (.int .i64 0)] []) g), [], []⟩) none) from by kernel_rfl) (show cSpan zSpan = [.sc (.int .i64 0), .sc (.int .i64 0)] from by kernel_rfl) xs hc
theorem dI_ok {kd : IntKind} {y : TV RW} {a : Int} (h : dI kd y = some a) : y = .sc (.int kd a) := by
  unfold dI at h
  split at h
  · obtain ⟨h1, h2⟩ := cond_some h
    cases h2
    rw [of_decide_eq_true h1]
  · cases h
theorem dB_ok {y : TV RW} {a : Bool} (h : dB y = some a) : y = .sc (.bool a) := by
  unfold dB at h
  split at h <;> cases h
  rfl
theorem dS_ok {y : TV RW} {a : ByteArray} (h : dS y = some a) : y = .sc (.string a) := by
  unfold dS at h
  split at h <;> cases h
  rfl
theorem dA_ok {y : TV RW} {a : Fr} (h : dA y = some a) : y = .agg a := by
  unfold dA at h
  split at h <;> cases h
  rfl
theorem dOne_ok {y : Fr} {a : TV RW} (h : dOne y = some a) : y = [a] := by
  unfold dOne at h
  split at h <;> cases h
  rfl
theorem dP_ok {a b : Nat} {y : TV RW} {u : Unit} (h : dP a b y = some u) : y = .ptr a b := by
  unfold dP at h
  split at h
  · obtain ⟨h1, h2⟩ := cond_some h
    simp only [Bool.and_eq_true] at h1
    rw [nbeq h1.1, nbeq h1.2]
  · cases h
theorem dC_ok {a : Nat} {b : List (Nat × Nat)} {y : TV RW} {u : Unit} (h : dC a b y = some u) : y = .clo a b := by
  unfold dC at h
  split at h
  · obtain ⟨h1, h2⟩ := cond_some h
    simp only [Bool.and_eq_true] at h1
    rw [nbeq h1.1, of_decide_eq_true h1.2]
  · cases h
theorem dRSpan_ok {fl : Bool} {y : TV RW} {a : List SSpan} (h : dRSpan fl y = some a) : y = .row fl (.rSpan a) := by
  unfold dRSpan at h
  split at h
  · obtain ⟨h1, h2⟩ := cond_some h
    cases h2
    rw [eq_of_beq h1]
  · cases h
theorem dSpan_ok {L : Fr} {a : SSpan} (h : dSpan L = some a) : L = eSpan a := by
  unfold dSpan at h
  split at h
  · simp only [Option.bind_eq_some_iff] at h
    obtain ⟨a0, h0, a1, h1, h⟩ := h
    cases h
    obtain rfl := dI_ok h0
    obtain rfl := dI_ok h1
    rfl
  · cases h
theorem pSpan_ok : ∀ {L : Fr} {xs : List SSpan}, pSpan_ L = some xs → TV.los U L = (xs.map cSpan).flatten
  | [], xs, h => by cases h; rfl
  | [_], xs, h => by cases h
  | y0 :: y1 :: r, xs, h => by
    simp only [pSpan_, Option.bind_eq_some_iff] at h
    obtain ⟨a0, h0, a1, h1, xs', h', h⟩ := h
    cases h
    have ih := pSpan_ok h'
    obtain rfl := dI_ok h0
    obtain rfl := dI_ok h1
    show _ :: _ :: TV.los U r = _
    rw [ih]; rfl
theorem UOk : UniOk U where
  get := fun r i => match r with
    | .rSpan xs => by kernel_rfl
  app := fun r q x h => by cases r <;> cases q <;> first | (cases h; done) | (cases h; exact ⟨rfl, rfl, List.length_append, (rg_app (c := cSpan) (z := zSpan)).symm⟩)
  sub := fun lo n r h => by cases r <;> first | exact ⟨rfl, sub_len h, (rg_sub (c := cSpan) (z := zSpan) h).symm⟩
  lit := fun t n L r h => by
    unfold U at h
    dsimp only at h
    split at h
    · obtain ⟨xs, h1, rfl, rfl⟩ := bind_lit h
      have e := pSpan_ok h1
      exact ⟨rfl, rfl, by rw [e]; exact (rg_lit (c := cSpan) (sz := 2) (z := zSpan) (fun _ => rfl)).symm, by rw [e]; exact all_flat (fun _ => rfl) xs⟩
    · cases h
theorem ok_span_may {R : Type} {r : R} : ∀ {n : Nat}, (∀ m, n = m + 1 → CallOk2 (R := R) U (callP capB m) (runF tbl m)) → ∀ {av : Fr} {cs : List Fr} {k : Ret2 RW → Option R}, ca_span_may capB n av cs k = some r → ∃ q : Ret2 RW, runF tbl n 19 (TV.los U av) (cs.map (TV.los U)) = some (q.lo U) ∧ k q = some r := by
  intro n ih av cs k h
  unfold ca_span_may at h
  split at h
  · simp only [Option.bind_eq_some_iff] at h
    obtain ⟨c0_, h0, p0, g0, h⟩ := h
    obtain rfl := dA_ok h0
    obtain rfl := dSpan_ok g0
    cases n with
    | zero => cases h
    | succ n =>
      exact run2_ok UOk (ih n rfl) (f := fn_span_may) rfl ((run_span_may capB n p0 k).symm.trans h)
  · cases h
theorem ok_span_Check {R : Type} {r : R} : ∀ {n : Nat}, (∀ m, n = m + 1 → CallOk2 (R := R) U (callP capB m) (runF tbl m)) → ∀ {av : Fr} {cs : List Fr} {k : Ret2 RW → Option R}, ca_span_Check capB n av cs k = some r → ∃ q : Ret2 RW, runF tbl n 11 (TV.los U av) (cs.map (TV.los U)) = some (q.lo U) ∧ k q = some r := by
  intro n ih av cs k h
  unfold ca_span_Check at h
  split at h
  · simp only [Option.bind_eq_some_iff] at h
    obtain ⟨p0, h0, h⟩ := h
    obtain rfl := dRSpan_ok h0
    cases n with
    | zero => cases h
    | succ n =>
      exact run2_ok UOk (ih n rfl) (f := fn_span_Check) rfl ((run_span_Check capB n p0 k).symm.trans h)
  · cases h
theorem ok_span_right {R : Type} {r : R} : ∀ {n : Nat}, (∀ m, n = m + 1 → CallOk2 (R := R) U (callP capB m) (runF tbl m)) → ∀ {av : Fr} {cs : List Fr} {k : Ret2 RW → Option R}, ca_span_right capB n av cs k = some r → ∃ q : Ret2 RW, runF tbl n 13 (TV.los U av) (cs.map (TV.los U)) = some (q.lo U) ∧ k q = some r := by
  intro n ih av cs k h
  unfold ca_span_right at h
  split at h
  · simp only [Option.bind_eq_some_iff] at h
    obtain ⟨p0, h0, c1_, h1, p1, g1, h⟩ := h
    obtain rfl := dRSpan_ok h0
    obtain rfl := dA_ok h1
    obtain rfl := dSpan_ok g1
    cases n with
    | zero => cases h
    | succ n =>
      exact run2_ok UOk (ih n rfl) (f := fn_span_right) rfl ((run_span_right capB n p0 p1 k).symm.trans h)
  · cases h
theorem ok_slices_Clone_Span {R : Type} {r : R} : ∀ {n : Nat}, (∀ m, n = m + 1 → CallOk2 (R := R) U (callP capB m) (runF tbl m)) → ∀ {av : Fr} {cs : List Fr} {k : Ret2 RW → Option R}, ca_slices_Clone_Span capB n av cs k = some r → ∃ q : Ret2 RW, runF tbl n 14 (TV.los U av) (cs.map (TV.los U)) = some (q.lo U) ∧ k q = some r := by
  intro n ih av cs k h
  unfold ca_slices_Clone_Span at h
  split at h
  · simp only [Option.bind_eq_some_iff] at h
    obtain ⟨p0, h0, h⟩ := h
    obtain rfl := dRSpan_ok h0
    cases n with
    | zero => cases h
    | succ n =>
      obtain ⟨h1, h2⟩ := cond_some h
      exact ⟨⟨.row true (.rSpan p0), [], []⟩, clone_slices_Clone_Span n p0 h1, h2⟩
  · cases h
theorem ok_span_Add {R : Type} {r : R} : ∀ {n : Nat}, (∀ m, n = m + 1 → CallOk2 (R := R) U (callP capB m) (runF tbl m)) → ∀ {av : Fr} {cs : List Fr} {k : Ret2 RW → Option R}, ca_span_Add capB n av cs k = some r → ∃ q : Ret2 RW, runF tbl n 5 (TV.los U av) (cs.map (TV.los U)) = some (q.lo U) ∧ k q = some r := by
  intro n ih av cs k h
  unfold ca_span_Add at h
  split at h
  · simp only [Option.bind_eq_some_iff] at h
    obtain ⟨p0, h0, c1_, h1, p1, g1, h⟩ := h
    obtain rfl := dRSpan_ok h0
    obtain rfl := dA_ok h1
    obtain rfl := dSpan_ok g1
    cases n with
    | zero => cases h
    | succ n =>
      exact run2_ok UOk (ih n rfl) (f := fn_span_Add) rfl ((run_span_Add capB n p0 p1 k).symm.trans h)
  · cases h
theorem ok_span_within {R : Type} {r : R} : ∀ {n : Nat}, (∀ m, n = m + 1 → CallOk2 (R := R) U (callP capB m) (runF tbl m)) → ∀ {av : Fr} {cs : List Fr} {k : Ret2 RW → Option R}, ca_span_within capB n av cs k = some r → ∃ q : Ret2 RW, runF tbl n 20 (TV.los U av) (cs.map (TV.los U)) = some (q.lo U) ∧ k q = some r := by
  intro n ih av cs k h
  unfold ca_span_within at h
  split at h
  · simp only [Option.bind_eq_some_iff] at h
    obtain ⟨p0, h0, c1_, h1, p1, g1, h⟩ := h
    obtain rfl := dRSpan_ok h0
    obtain rfl := dA_ok h1
    obtain rfl := dSpan_ok g1
    cases n with
    | zero => cases h
    | succ n =>
      exact run2_ok UOk (ih n rfl) (f := fn_span_within) rfl ((run_span_within capB n p0 p1 k).symm.trans h)
  · cases h
theorem ok_span_Gaps {R : Type} {r : R} : ∀ {n : Nat}, (∀ m, n = m + 1 → CallOk2 (R := R) U (callP capB m) (runF tbl m)) → ∀ {av : Fr} {cs : List Fr} {k : Ret2 RW → Option R}, ca_span_Gaps capB n av cs k = some r → ∃ q : Ret2 RW, runF tbl n 15 (TV.los U av) (cs.map (TV.los U)) = some (q.lo U) ∧ k q = some r := by
  intro n ih av cs k h
  unfold ca_span_Gaps at h
  split at h
  · simp only [Option.bind_eq_some_iff] at h
    obtain ⟨p0, h0, c1_, h1, p1, g1, h⟩ := h
    obtain rfl := dRSpan_ok h0
    obtain rfl := dA_ok h1
    obtain rfl := dSpan_ok g1
    cases n with
    | zero => cases h
    | succ n =>
      exact run2_ok UOk (ih n rfl) (f := fn_span_Gaps) rfl ((run_span_Gaps capB n p0 p1 k).symm.trans h)
  · cases h
theorem ok_ref06_Same {R : Type} {r : R} : ∀ {n : Nat}, (∀ m, n = m + 1 → CallOk2 (R := R) U (callP capB m) (runF tbl m)) → ∀ {av : Fr} {cs : List Fr} {k : Ret2 RW → Option R}, ca_ref06_Same capB n av cs k = some r → ∃ q : Ret2 RW, runF tbl n 7 (TV.los U av) (cs.map (TV.los U)) = some (q.lo U) ∧ k q = some r := by
  intro n ih av cs k h
  unfold ca_ref06_Same at h
  split at h
  · simp only [Option.bind_eq_some_iff] at h
    obtain ⟨p0, h0, p1, h1, h⟩ := h
    obtain rfl := dRSpan_ok h0
    obtain rfl := dRSpan_ok h1
    cases n with
    | zero => cases h
    | succ n =>
      exact run2_ok UOk (ih n rfl) (f := fn_ref06_Same) rfl ((run_ref06_Same capB n p0 p1 k).symm.trans h)
  · cases h
theorem ok_span_Size {R : Type} {r : R} : ∀ {n : Nat}, (∀ m, n = m + 1 → CallOk2 (R := R) U (callP capB m) (runF tbl m)) → ∀ {av : Fr} {cs : List Fr} {k : Ret2 RW → Option R}, ca_span_Size capB n av cs k = some r → ∃ q : Ret2 RW, runF tbl n 16 (TV.los U av) (cs.map (TV.los U)) = some (q.lo U) ∧ k q = some r := by
  intro n ih av cs k h
  unfold ca_span_Size at h
  split at h
  · simp only [Option.bind_eq_some_iff] at h
    obtain ⟨p0, h0, h⟩ := h
    obtain rfl := dRSpan_ok h0
    cases n with
    | zero => cases h
    | succ n =>
      exact run2_ok UOk (ih n rfl) (f := fn_span_Size) rfl ((run_span_Size capB n p0 k).symm.trans h)
  · cases h
theorem ok_span_Find_1 {R : Type} {r : R} : ∀ {n : Nat}, (∀ m, n = m + 1 → CallOk2 (R := R) U (callP capB m) (runF tbl m)) → ∀ {av : Fr} {cs : List Fr} {k : Ret2 RW → Option R}, ca_span_Find_1 capB n av cs k = some r → ∃ q : Ret2 RW, runF tbl n 1014 (TV.los U av) (cs.map (TV.los U)) = some (q.lo U) ∧ k q = some r := by
  intro n ih av cs k h
  unfold ca_span_Find_1 at h
  split at h
  · simp only [Option.bind_eq_some_iff] at h
    obtain ⟨c0_, h0, p0, g0, u1, h1, u_0, j0, q0, i0, h⟩ := h
    obtain rfl := dA_ok h0
    obtain rfl := dSpan_ok g0
    obtain rfl := dP_ok h1
    obtain rfl := dOne_ok j0
    obtain rfl := dI_ok i0
    cases n with
    | zero => cases h
    | succ n =>
      exact run2_ok UOk (ih n rfl) (f := fn_span_Find_1) rfl ((run_span_Find_1 capB n p0 q0 k).symm.trans h)
  · cases h
theorem ok_slices_IndexFunc_Span {R : Type} {r : R} : ∀ {n : Nat}, (∀ m, n = m + 1 → CallOk2 (R := R) U (callP capB m) (runF tbl m)) → ∀ {av : Fr} {cs : List Fr} {k : Ret2 RW → Option R}, ca_slices_IndexFunc_Span capB n av cs k = some r → ∃ q : Ret2 RW, runF tbl n 1013 (TV.los U av) (cs.map (TV.los U)) = some (q.lo U) ∧ k q = some r := by
  intro n ih av cs k h
  unfold ca_slices_IndexFunc_Span at h
  split at h
  · simp only [Option.bind_eq_some_iff] at h
    obtain ⟨p0, h0, u1, h1, u_0, j0, q0, i0, h⟩ := h
    obtain rfl := dRSpan_ok h0
    obtain rfl := dC_ok h1
    obtain rfl := dOne_ok j0
    obtain rfl := dI_ok i0
    cases n with
    | zero => cases h
    | succ n =>
      exact run2_ok UOk (ih n rfl) (f := fn_slices_IndexFunc_Span) rfl ((run_slices_IndexFunc_Span capB n p0 q0 k).symm.trans h)
  · cases h
theorem ok_span_Find {R : Type} {r : R} : ∀ {n : Nat}, (∀ m, n = m + 1 → CallOk2 (R := R) U (callP capB m) (runF tbl m)) → ∀ {av : Fr} {cs : List Fr} {k : Ret2 RW → Option R}, ca_span_Find capB n av cs k = some r → ∃ q : Ret2 RW, runF tbl n 21 (TV.los U av) (cs.map (TV.los U)) = some (q.lo U) ∧ k q = some r := by
  intro n ih av cs k h
  unfold ca_span_Find at h
  split at h
  · simp only [Option.bind_eq_some_iff] at h
    obtain ⟨p0, h0, p1, h1, h⟩ := h
    obtain rfl := dRSpan_ok h0
    obtain rfl := dI_ok h1
    cases n with
    | zero => cases h
    | succ n =>
      exact run2_ok UOk (ih n rfl) (f := fn_span_Find) rfl ((run_span_Find capB n p0 p1 k).symm.trans h)
  · cases h
theorem ok_span_Has {R : Type} {r : R} : ∀ {n : Nat}, (∀ m, n = m + 1 → CallOk2 (R := R) U (callP capB m) (runF tbl m)) → ∀ {av : Fr} {cs : List Fr} {k : Ret2 RW → Option R}, ca_span_Has capB n av cs k = some r → ∃ q : Ret2 RW, runF tbl n 17 (TV.los U av) (cs.map (TV.los U)) = some (q.lo U) ∧ k q = some r := by
  intro n ih av cs k h
  unfold ca_span_Has at h
  split at h
  · simp only [Option.bind_eq_some_iff] at h
    obtain ⟨p0, h0, p1, h1, h⟩ := h
    obtain rfl := dRSpan_ok h0
    obtain rfl := dI_ok h1
    cases n with
    | zero => cases h
    | succ n =>
      exact run2_ok UOk (ih n rfl) (f := fn_span_Has) rfl ((run_span_Has capB n p0 p1 k).symm.trans h)
  · cases h
theorem ok_law06_heads {R : Type} {r : R} : ∀ {n : Nat}, (∀ m, n = m + 1 → CallOk2 (R := R) U (callP capB m) (runF tbl m)) → ∀ {av : Fr} {cs : List Fr} {k : Ret2 RW → Option R}, ca_law06_heads capB n av cs k = some r → ∃ q : Ret2 RW, runF tbl n 6 (TV.los U av) (cs.map (TV.los U)) = some (q.lo U) ∧ k q = some r := by
  intro n ih av cs k h
  unfold ca_law06_heads at h
  split at h
  · cases n with
    | zero => cases h
    | succ n =>
      exact run2_ok UOk (ih n rfl) (f := fn_law06_heads) rfl ((run_law06_heads capB n  k).symm.trans h)
  · cases h
theorem ok_law06_SpanOrder {R : Type} {r : R} : ∀ {n : Nat}, (∀ m, n = m + 1 → CallOk2 (R := R) U (callP capB m) (runF tbl m)) → ∀ {av : Fr} {cs : List Fr} {k : Ret2 RW → Option R}, ca_law06_SpanOrder capB n av cs k = some r → ∃ q : Ret2 RW, runF tbl n 3 (TV.los U av) (cs.map (TV.los U)) = some (q.lo U) ∧ k q = some r := by
  intro n ih av cs k h
  unfold ca_law06_SpanOrder at h
  split at h
  · simp only [Option.bind_eq_some_iff] at h
    obtain ⟨p0, h0, c1_, h1, p1, g1, c2_, h2, p2, g2, h⟩ := h
    obtain rfl := dRSpan_ok h0
    obtain rfl := dA_ok h1
    obtain rfl := dSpan_ok g1
    obtain rfl := dA_ok h2
    obtain rfl := dSpan_ok g2
    cases n with
    | zero => cases h
    | succ n =>
      exact run2_ok UOk (ih n rfl) (f := fn_law06_SpanOrder) rfl ((run_law06_SpanOrder capB n p0 p1 p2 k).symm.trans h)
  · cases h
theorem callOk {R : Type} : ∀ n, CallOk2 (R := R) U (callP capB n) (runF tbl n)
  | n => fun id av cells k r h => by
    have ih : ∀ m, n = m + 1 → CallOk2 (R := R) U (callP capB m) (runF tbl m) := fun m e => callOk m
    unfold callP at h
    split at h
    · exact ok_span_may ih h
    · exact ok_span_Check ih h
    · exact ok_span_right ih h
    · exact ok_slices_Clone_Span ih h
    · exact ok_span_Add ih h
    · exact ok_span_within ih h
    · exact ok_span_Gaps ih h
    · exact ok_ref06_Same ih h
    · exact ok_span_Size ih h
    · exact ok_span_Find_1 ih h
    · exact ok_slices_IndexFunc_Span ih h
    · exact ok_span_Find ih h
    · exact ok_span_Has ih h
    · exact ok_law06_heads ih h
    · exact ok_law06_SpanOrder ih h
    · cases h
termination_by n => n
decreasing_by omega
end
end Go.Proofs.Ytapelpfcflgjkaa.M
