/- The machine's code of the functions, and that it computes them. -/
import Derived.Test.YtapelpfcflgjkaaCG0
import Derived.Test.YtapelpfcflgjkaaProg
import Derived.KernelRfl
set_option maxRecDepth 100000
set_option linter.unusedVariables false
set_option linter.unusedSimpArgs false
namespace Go.Proofs.Ytapelpfcflgjkaa.M
open Go
noncomputable section
def X {R : Type} (cp : Nat → Nat → Bool) (n : Nat) (c : IC2 RW) (l : FF) (k : Ex → FF → Option R) : Option R := exec2 U cp (callP cp n) n c l k
theorem X_run {R : Type} {cp : Nat → Nat → Bool} {n : Nat} {f : IFn2 RW} {av : Fr} {cells : List Fr} {code : IC2 RW} {fr : FF} {k : Ret2 RW → Option R} (hb : f.body = code) (h : ∀ K : FF → Option R, start2 f av cells K = K fr) : run2 U cp (callP cp n) n f av cells k = X cp n code fr (finK2 f k) := by
  subst hb
  exact h _
def XI {R : Type} (cp : Nat → Nat → Bool) (n : Nat) (Y : List (TV RW) → FF → (FF → Option R) → Option R) (c : IC2 RW) (l : FF) (k : Ex → FF → Option R) : Option R := execI2 U cp (callP cp n) n Y c l k
def o0 (op : IOp2 RW) : IStep2 RW := ⟨none, op, none, false⟩
def o1 (d : Nat) (op : IOp2 RW) : IStep2 RW := ⟨some d, op, none, false⟩
def o2 (d : Nat) (op : IOp2 RW) : IStep2 RW := ⟨some d, op, none, true⟩
def o3 (d g : Nat) (b : Bool) (op : IOp2 RW) : IStep2 RW := ⟨some d, op, some (g, b), false⟩
def g_span_may_0 : List (IStep2 RW) := [o1 1 (.box 18 2 false (.s 0)),
  o1 2 (.mv false (.k (.sc (.bool false))))]
def g_span_may_1 : List (IStep2 RW) := [o1 3 (.fld 0 (.s 1)),
  o1 4 (.load 18 0 1 false false 3),
  o1 5 (.bin .geq (.s 4) (.k (.sc (.int .i64 0)))),
  o2 6 (.mv false (.s 5)),
  o3 7 6 true (.fld 0 (.s 1)),
  o3 8 6 true (.load 18 0 1 false false 7),
  o3 9 6 true (.fld 1 (.s 1)),
  o3 10 6 true (.load 18 1 1 false false 9),
  o3 11 6 true (.bin .leq (.s 8) (.s 10)),
  o1 12 (.pick (.s 6) (.s 11) (.k (.sc (.bool false)))),
  o2 13 (.mv false (.s 12)),
  o3 14 13 true (.fld 1 (.s 1)),
  o3 15 13 true (.load 18 1 1 false false 14),
  o3 16 13 true (.bin .leq (.s 15) (.k (.sc (.int .i64 1125899906842624)))),
  o1 17 (.pick (.s 13) (.s 16) (.k (.sc (.bool false)))),
  o1 2 (.mv false (.s 17))]
def i_span_may_0 : IC2 RW := .seq (.fin (.reg g_span_may_0) [0, 2] []) (.seq (.fin (.reg g_span_may_1) [1, 3, 4, 5, 6, 7, 8, 9, 10, 11, 12, 13, 14, 15, 16, 17] [(18, 2)]) (.ret))
def fn_span_may : IFn2 RW := ⟨19, 1, 18, 32, [(18, 2)], [], [], [.slot 2], i_span_may_0⟩
def g_span_Check_2 : List (IStep2 RW) := [o1 8 (.bin .lss (.s 7) (.s 6))]
def g_span_Check_3 : List (IStep2 RW) := [o1 9 (.mv false (.s 7)),
  o1 10 (.idx 2 (.s 5) (.s 7)),
  o1 11 (.loade 2 true 10),
  o1 4 (.alloc 38 [.sc (.int .i64 0), .sc (.int .i64 0)]),
  o1 3 (.mv false (.s 9)),
  o0 (.store 38 0 2 false 4 (.s 11))]
def g_span_Check_4 : List (IStep2 RW) := [o1 12 (.load 38 0 2 true false 4),
  o1 13 (.call 19 [(false, .s 12)] [] []),
  o1 14 (.un .not (.s 13)),
  o2 15 (.mv false (.s 14)),
  o3 16 15 false (.fld 0 (.s 4)),
  o3 17 15 false (.load 38 0 1 false false 16),
  o3 18 15 false (.fld 1 (.s 4)),
  o3 19 15 false (.load 38 1 1 false false 18),
  o3 20 15 false (.bin .eql (.s 17) (.s 19)),
  o1 21 (.pick (.s 15) (.k (.sc (.bool true))) (.s 20)),
  o2 22 (.mv false (.s 21)),
  o3 23 22 false (.mv false (.s 3)),
  o3 24 22 false (.bin .gtr (.s 23) (.k (.sc (.int .i64 0)))),
  ⟨some 25, .mv false (.s 24), (some (22, false)), true⟩,
  o3 26 25 true (.mv false (.s 0)),
  o3 27 25 true (.mv false (.s 3)),
  o3 28 25 true (.bin .sub (.s 27) (.k (.sc (.int .i64 1)))),
  o3 29 25 true (.idx 2 (.s 26) (.s 28)),
  o3 30 25 true (.fld 1 (.s 29)),
  o3 31 25 true (.loade 1 false 30),
  o3 32 25 true (.fld 0 (.s 4)),
  o3 33 25 true (.load 38 0 1 false false 32),
  o3 34 25 true (.bin .geq (.s 31) (.s 33)),
  o3 35 22 false (.pick (.s 25) (.s 34) (.k (.sc (.bool false)))),
  o1 36 (.pick (.s 22) (.k (.sc (.bool true))) (.s 35))]
def g_span_Check_5 : List (IStep2 RW) := [o1 2 (.mv false (.k (.sc (.int .i64 60))))]
def g_span_Check_6 : List (IStep2 RW) := [o1 37 (.bin .add (.s 7) (.k (.sc (.int .i64 1)))),
  o1 7 (.mv false (.s 37))]
def i_span_Check_0 : IC2 RW := .seq (.reg g_span_Check_2) (.seq (.fin (.cond (.s 8) (.skip) (.clr [0, 5, 6, 7, 8] [] (.exit 0))) [8] []) (.seq (.blk 1 (.seq (.fin (.reg g_span_Check_3) [9, 10, 11] []) (.seq (.fin (.reg g_span_Check_4) [3, 4, 12, 13, 14, 15, 16, 17, 18, 19, 20, 21, 22, 23, 24, 25, 26, 27, 28, 29, 30, 31, 32, 33, 34, 35] [(38, 2)]) (.fin (.cond (.s 36) (.seq (.fin (.reg g_span_Check_5) [0, 5, 6, 7, 36] []) (.ret)) (.skip)) [36] [])))) (.fin (.reg g_span_Check_6) [37] [])))
def i_span_Check_1 : IC2 RW := .loop i_span_Check_0
def i_span_Check_2 : IC2 RW := .blk 0 i_span_Check_1
def g_span_Check_1 : List (IStep2 RW) := [o1 5 (.mv false (.s 0)),
  o1 6 (.len false (.s 5)),
  o1 7 (.mv false (.k (.sc (.int .i64 0))))]
def i_span_Check_3 : IC2 RW := .seq (.reg g_span_Check_1) i_span_Check_2
def g_span_Check_7 : List (IStep2 RW) := [o1 2 (.mv false (.k (.sc (.int .i64 0))))]
def i_span_Check_4 : IC2 RW := .seq (.reg g_span_Check_7) (.ret)
def i_span_Check_5 : IC2 RW := .seq i_span_Check_3 i_span_Check_4
def g_span_Check_0 : List (IStep2 RW) := [o1 2 (.mv false (.k (.sc (.int .i64 0))))]
def i_span_Check_6 : IC2 RW := .seq (.fin (.reg g_span_Check_0) [2] []) i_span_Check_5
def fn_span_Check : IFn2 RW := ⟨11, 1, 38, 48, [(38, 2)], [], [], [.slot 2], i_span_Check_6⟩
def g_span_right_0 : List (IStep2 RW) := [o1 3 (.box 14 2 false (.s 1)),
  o1 4 (.mv false (.k (.sc (.int .i64 0))))]
def g_span_right_1 : List (IStep2 RW) := [o1 6 (.mv false (.s 0)),
  o1 7 (.call 11 [(false, .s 6)] [] []),
  o1 5 (.mv false (.s 7))]
def g_span_right_2 : List (IStep2 RW) := [o1 8 (.mv false (.s 5)),
  o1 9 (.bin .neq (.s 8) (.k (.sc (.int .i64 0))))]
def g_span_right_3 : List (IStep2 RW) := [o1 10 (.mv false (.s 5)),
  o1 4 (.mv false (.s 10))]
def g_span_right_4 : List (IStep2 RW) := [o1 11 (.load 14 0 2 true false 3),
  o1 12 (.call 19 [(false, .s 11)] [] []),
  o1 13 (.un .not (.s 12))]
def g_span_right_5 : List (IStep2 RW) := [o1 4 (.mv false (.k (.sc (.int .i64 2))))]
def g_span_right_6 : List (IStep2 RW) := [o1 4 (.mv false (.k (.sc (.int .i64 0))))]
def i_span_right_0 : IC2 RW := .seq (.fin (.reg g_span_right_0) [1, 4] []) (.seq (.seq (.fin (.reg g_span_right_1) [0, 6, 7] []) (.seq (.fin (.reg g_span_right_2) [8] []) (.fin (.cond (.s 9) (.seq (.fin (.reg g_span_right_3) [3, 5, 9, 10] [(14, 2)]) (.ret)) (.skip)) [5, 9] []))) (.seq (.seq (.fin (.reg g_span_right_4) [3, 11, 12] [(14, 2)]) (.fin (.cond (.s 13) (.seq (.fin (.reg g_span_right_5) [13] []) (.ret)) (.skip)) [13] [])) (.seq (.reg g_span_right_6) (.ret))))
def fn_span_right : IFn2 RW := ⟨13, 2, 14, 32, [(14, 2)], [], [], [.slot 4], i_span_right_0⟩
/-! slices.Clone[[]tideway/api.Span,tideway/api.Span] -/
def g_slices_Clone_Span_0 : List IStep := [⟨(some 2), .mv true (.k (.row true 2 0 (fun _ => [.sc (.int .i64 0), .sc (.int .i64 0)]))), none, false⟩]
def g_slices_Clone_Span_1 : List IStep := [⟨(some 3), .mv false (.s 0), none, false⟩,
  ⟨(some 4), .nilq false (.s 3), none, false⟩]
def g_slices_Clone_Span_2 : List IStep := [⟨(some 2), .mv true (.k (.row true 2 0 (fun _ => [.sc (.int .i64 0), .sc (.int .i64 0)]))), none, false⟩]
def g_slices_Clone_Span_3 : List IStep := [⟨(some 5), .bslice 2 0 [.sc (.int .i64 0), .sc (.int .i64 0)] [], none, false⟩,
  ⟨(some 6), .mv false (.s 0), none, false⟩,
  ⟨(some 7), .app 2 16 true (.s 5) (.s 6), none, false⟩,
  ⟨(some 2), .mv true (.s 7), none, false⟩]
def fn_slices_Clone_Span : IFn := ⟨14, 1, 8, 8, [], [], [], [.slot 2],
  .seq (.fin (.reg g_slices_Clone_Span_0) [2] []) (.seq (.seq (.fin (.reg g_slices_Clone_Span_1) [3] []) (.fin (.cond (.s 4) (.seq (.fin (.reg g_slices_Clone_Span_2) [0, 4] []) (.ret)) (.skip)) [4] [])) (.seq (.fin (.reg g_slices_Clone_Span_3) [0, 5, 6, 7] []) (.ret)))⟩

def g_span_Add_8 : List (IStep2 RW) := [o1 22 (.mv false (.s 8)),
  o1 23 (.mv false (.s 0)),
  o1 24 (.len false (.s 23)),
  o1 25 (.bin .lss (.s 22) (.s 24)),
  o2 26 (.mv false (.s 25)),
  o3 27 26 true (.mv false (.s 0)),
  o3 28 26 true (.mv false (.s 8)),
  o3 29 26 true (.idx 2 (.s 27) (.s 28)),
  o3 30 26 true (.fld 1 (.s 29)),
  o3 31 26 true (.loade 1 false 30),
  o3 32 26 true (.fld 0 (.s 3)),
  o3 33 26 true (.load 87 0 1 false false 32),
  o3 34 26 true (.bin .lss (.s 31) (.s 33)),
  o1 35 (.pick (.s 26) (.s 34) (.k (.sc (.bool false))))]
def g_span_Add_10 : List (IStep2 RW) := [o1 38 (.mv true (.s 7)),
  o1 39 (.mv false (.s 0)),
  o1 40 (.mv false (.s 8)),
  o1 41 (.idx 2 (.s 39) (.s 40)),
  o1 42 (.loade 2 true 41),
  o1 43 (.bslice 24 1 [(0, 2, .s 42)]),
  o1 44 (.app 2 16 true (.s 38) (.s 43)),
  o1 7 (.mv true (.s 44))]
def g_span_Add_9 : List (IStep2 RW) := [o1 36 (.mv false (.s 8)),
  o1 37 (.bin .add (.s 36) (.k (.sc (.int .i64 1)))),
  o1 8 (.mv false (.s 37))]
def i_span_Add_0 : IC2 RW := .seq (.seq (.fin (.reg g_span_Add_8) [22, 23, 24, 25, 26, 27, 28, 29, 30, 31, 32, 33, 34] []) (.fin (.cond (.s 35) (.skip) (.clr [35] [] (.exit 0))) [35] [])) (.seq (.blk 1 (.fin (.reg g_span_Add_10) [38, 39, 40, 41, 42, 43, 44] [])) (.fin (.reg g_span_Add_9) [36, 37] []))
def i_span_Add_1 : IC2 RW := .loop i_span_Add_0
def i_span_Add_2 : IC2 RW := .blk 0 i_span_Add_1
def g_span_Add_11 : List (IStep2 RW) := [o1 45 (.mv false (.s 8)),
  o1 46 (.mv false (.s 0)),
  o1 47 (.len false (.s 46)),
  o1 48 (.bin .lss (.s 45) (.s 47)),
  o2 49 (.mv false (.s 48)),
  o3 50 49 true (.mv false (.s 0)),
  o3 51 49 true (.mv false (.s 8)),
  o3 52 49 true (.idx 2 (.s 50) (.s 51)),
  o3 53 49 true (.fld 0 (.s 52)),
  o3 54 49 true (.loade 1 false 53),
  o3 55 49 true (.fld 1 (.s 3)),
  o3 56 49 true (.load 87 1 1 false false 55),
  o3 57 49 true (.bin .leq (.s 54) (.s 56)),
  o1 58 (.pick (.s 49) (.s 57) (.k (.sc (.bool false))))]
def g_span_Add_13 : List (IStep2 RW) := [o1 61 (.fld 0 (.s 3)),
  o1 62 (.load 87 0 1 false false 61),
  o1 63 (.mv false (.s 0)),
  o1 64 (.mv false (.s 8)),
  o1 65 (.idx 2 (.s 63) (.s 64)),
  o1 66 (.fld 0 (.s 65)),
  o1 67 (.loade 1 false 66),
  o1 68 (.mnmx false [.s 62, .s 67]),
  o1 69 (.fld 1 (.s 3)),
  o1 70 (.load 87 1 1 false false 69),
  o1 71 (.mv false (.s 0)),
  o1 72 (.mv false (.s 8)),
  o1 73 (.idx 2 (.s 71) (.s 72)),
  o1 74 (.fld 1 (.s 73)),
  o1 75 (.loade 1 false 74),
  o1 76 (.mnmx true [.s 70, .s 75]),
  o1 77 (.fld 0 (.s 3)),
  o0 (.store 87 0 1 false 77 (.s 68)),
  o1 78 (.fld 1 (.s 3)),
  o0 (.store 87 1 1 false 78 (.s 76))]
def g_span_Add_12 : List (IStep2 RW) := [o1 59 (.mv false (.s 8)),
  o1 60 (.bin .add (.s 59) (.k (.sc (.int .i64 1)))),
  o1 8 (.mv false (.s 60))]
def i_span_Add_3 : IC2 RW := .seq (.seq (.fin (.reg g_span_Add_11) [45, 46, 47, 48, 49, 50, 51, 52, 53, 54, 55, 56, 57] []) (.fin (.cond (.s 58) (.skip) (.clr [58] [] (.exit 2))) [58] [])) (.seq (.blk 3 (.fin (.reg g_span_Add_13) [61, 62, 63, 64, 65, 66, 67, 68, 69, 70, 71, 72, 73, 74, 75, 76, 77, 78] [])) (.fin (.reg g_span_Add_12) [59, 60] []))
def i_span_Add_4 : IC2 RW := .loop i_span_Add_3
def i_span_Add_5 : IC2 RW := .blk 2 i_span_Add_4
def g_span_Add_14 : List (IStep2 RW) := [o1 79 (.mv true (.s 7)),
  o1 80 (.load 87 0 2 true false 3),
  o1 81 (.bslice 24 1 [(0, 2, .s 80)]),
  o1 82 (.app 2 16 true (.s 79) (.s 81)),
  o1 83 (.mv false (.s 0)),
  o1 84 (.mv false (.s 8)),
  o1 85 (.slice 2 (.s 83) (some (.s 84)) none none),
  o1 86 (.app 2 16 true (.s 82) (.s 85)),
  o1 4 (.mv false (.s 86)),
  o1 5 (.mv false (.k (.sc (.int .i64 0))))]
def i_span_Add_6 : IC2 RW := .seq (.fin (.reg g_span_Add_14) [0, 3, 7, 8, 79, 80, 81, 82, 83, 84, 85, 86] [(87, 2)]) (.ret)
def i_span_Add_7 : IC2 RW := .seq i_span_Add_5 i_span_Add_6
def i_span_Add_8 : IC2 RW := .seq i_span_Add_2 i_span_Add_7
def g_span_Add_0 : List (IStep2 RW) := [o1 3 (.box 87 2 false (.s 1)),
  o1 4 (.mv false (.k (.row false (.rSpan [])))),
  o1 5 (.mv false (.k (.sc (.int .i64 0))))]
def g_span_Add_1 : List (IStep2 RW) := [o1 9 (.mv false (.s 0)),
  o1 10 (.load 87 0 2 true false 3),
  o1 11 (.call 13 [(false, .s 9), (false, .s 10)] [] []),
  o1 6 (.mv false (.s 11))]
def g_span_Add_2 : List (IStep2 RW) := [o1 12 (.mv false (.s 6)),
  o1 13 (.bin .neq (.s 12) (.k (.sc (.int .i64 0))))]
def g_span_Add_3 : List (IStep2 RW) := [o1 14 (.mv false (.s 6)),
  o1 4 (.mv false (.k (.row false (.rSpan [])))),
  o1 5 (.mv false (.s 14))]
def g_span_Add_4 : List (IStep2 RW) := [o1 15 (.fld 0 (.s 3)),
  o1 16 (.load 87 0 1 false false 15),
  o1 17 (.fld 1 (.s 3)),
  o1 18 (.load 87 1 1 false false 17),
  o1 19 (.bin .eql (.s 16) (.s 18))]
def g_span_Add_5 : List (IStep2 RW) := [o1 20 (.mv false (.s 0)),
  o1 21 (.call 14 [(false, .s 20)] [] []),
  o1 4 (.mv false (.s 21)),
  o1 5 (.mv false (.k (.sc (.int .i64 0))))]
def g_span_Add_6 : List (IStep2 RW) := [o1 7 (.mv true (.k (.row true (.rSpan []))))]
def g_span_Add_7 : List (IStep2 RW) := [o1 8 (.mv false (.k (.sc (.int .i64 0))))]
def i_span_Add_9 : IC2 RW := .seq (.fin (.reg g_span_Add_0) [1, 4, 5] []) (.seq (.seq (.fin (.reg g_span_Add_1) [9, 10, 11] []) (.seq (.fin (.reg g_span_Add_2) [12] []) (.fin (.cond (.s 13) (.seq (.fin (.reg g_span_Add_3) [0, 3, 6, 13, 14] [(87, 2)]) (.ret)) (.skip)) [6, 13] []))) (.seq (.seq (.fin (.reg g_span_Add_4) [15, 16, 17, 18] []) (.fin (.cond (.s 19) (.seq (.fin (.reg g_span_Add_5) [0, 3, 19, 20, 21] [(87, 2)]) (.ret)) (.skip)) [19] [])) (.seq (.reg g_span_Add_6) (.seq (.reg g_span_Add_7) i_span_Add_8))))
def fn_span_Add : IFn2 RW := ⟨5, 2, 87, 96, [(87, 2)], [], [], [.slot 4, .slot 5], i_span_Add_9⟩
def g_ref06_Check_2 : List (IStep2 RW) := [o1 4 (.mv false (.s 3)),
  o1 5 (.mv false (.s 0)),
  o1 6 (.len false (.s 5)),
  o1 7 (.bin .lss (.s 4) (.s 6))]
def g_ref06_Check_4 : List (IStep2 RW) := [o1 10 (.mv false (.s 0)),
  o1 11 (.mv false (.s 3)),
  o1 12 (.idx 2 (.s 10) (.s 11)),
  o1 13 (.fld 0 (.s 12)),
  o1 14 (.loade 1 false 13),
  o1 15 (.bin .lss (.s 14) (.k (.sc (.int .i64 0)))),
  o2 16 (.mv false (.s 15)),
  o3 17 16 false (.mv false (.s 0)),
  o3 18 16 false (.mv false (.s 3)),
  o3 19 16 false (.idx 2 (.s 17) (.s 18)),
  o3 20 16 false (.fld 0 (.s 19)),
  o3 21 16 false (.loade 1 false 20),
  o3 22 16 false (.mv false (.s 0)),
  o3 23 16 false (.mv false (.s 3)),
  o3 24 16 false (.idx 2 (.s 22) (.s 23)),
  o3 25 16 false (.fld 1 (.s 24)),
  o3 26 16 false (.loade 1 false 25),
  o3 27 16 false (.bin .geq (.s 21) (.s 26)),
  o1 28 (.pick (.s 16) (.k (.sc (.bool true))) (.s 27)),
  o2 29 (.mv false (.s 28)),
  o3 30 29 false (.mv false (.s 0)),
  o3 31 29 false (.mv false (.s 3)),
  o3 32 29 false (.idx 2 (.s 30) (.s 31)),
  o3 33 29 false (.fld 1 (.s 32)),
  o3 34 29 false (.loade 1 false 33),
  o3 35 29 false (.bin .gtr (.s 34) (.k (.sc (.int .i64 1125899906842624)))),
  o1 36 (.pick (.s 29) (.k (.sc (.bool true))) (.s 35)),
  o2 37 (.mv false (.s 36)),
  o3 38 37 false (.mv false (.s 3)),
  o3 39 37 false (.bin .gtr (.s 38) (.k (.sc (.int .i64 0)))),
  ⟨some 40, .mv false (.s 39), (some (37, false)), true⟩,
  o3 41 40 true (.mv false (.s 0)),
  o3 42 40 true (.mv false (.s 3)),
  o3 43 40 true (.idx 2 (.s 41) (.s 42)),
  o3 44 40 true (.fld 0 (.s 43)),
  o3 45 40 true (.loade 1 false 44),
  o3 46 40 true (.mv false (.s 0)),
  o3 47 40 true (.mv false (.s 3)),
  o3 48 40 true (.bin .sub (.s 47) (.k (.sc (.int .i64 1)))),
  o3 49 40 true (.idx 2 (.s 46) (.s 48)),
  o3 50 40 true (.fld 1 (.s 49)),
  o3 51 40 true (.loade 1 false 50),
  o3 52 40 true (.bin .leq (.s 45) (.s 51)),
  o3 53 37 false (.pick (.s 40) (.s 52) (.k (.sc (.bool false)))),
  o1 54 (.pick (.s 37) (.k (.sc (.bool true))) (.s 53))]
def g_ref06_Check_5 : List (IStep2 RW) := [o1 2 (.mv false (.k (.sc (.int .i64 60))))]
def g_ref06_Check_3 : List (IStep2 RW) := [o1 8 (.mv false (.s 3)),
  o1 9 (.bin .add (.s 8) (.k (.sc (.int .i64 1)))),
  o1 3 (.mv false (.s 9))]
def i_ref06_Check_0 : IC2 RW := .seq (.seq (.fin (.reg g_ref06_Check_2) [4, 5, 6] []) (.fin (.cond (.s 7) (.skip) (.clr [0, 3, 7] [] (.exit 0))) [7] [])) (.seq (.blk 1 (.seq (.fin (.reg g_ref06_Check_4) [10, 11, 12, 13, 14, 15, 16, 17, 18, 19, 20, 21, 22, 23, 24, 25, 26, 27, 28, 29, 30, 31, 32, 33, 34, 35, 36, 37, 38, 39, 40, 41, 42, 43, 44, 45, 46, 47, 48, 49, 50, 51, 52, 53] []) (.fin (.cond (.s 54) (.seq (.fin (.reg g_ref06_Check_5) [0, 3, 54] []) (.ret)) (.skip)) [54] []))) (.fin (.reg g_ref06_Check_3) [8, 9] []))
def i_ref06_Check_1 : IC2 RW := .loop i_ref06_Check_0
def i_ref06_Check_2 : IC2 RW := .blk 0 i_ref06_Check_1
def g_ref06_Check_1 : List (IStep2 RW) := [o1 3 (.mv false (.k (.sc (.int .i64 0))))]
def i_ref06_Check_3 : IC2 RW := .seq (.reg g_ref06_Check_1) i_ref06_Check_2
def g_ref06_Check_6 : List (IStep2 RW) := [o1 2 (.mv false (.k (.sc (.int .i64 0))))]
def i_ref06_Check_4 : IC2 RW := .seq (.reg g_ref06_Check_6) (.ret)
def i_ref06_Check_5 : IC2 RW := .seq i_ref06_Check_3 i_ref06_Check_4
def g_ref06_Check_0 : List (IStep2 RW) := [o1 2 (.mv false (.k (.sc (.int .i64 0))))]
def i_ref06_Check_6 : IC2 RW := .seq (.fin (.reg g_ref06_Check_0) [2] []) i_ref06_Check_5
def fn_ref06_Check : IFn2 RW := ⟨12, 1, 55, 64, [], [], [], [.slot 2], i_ref06_Check_6⟩
def g_ref06_right_0 : List (IStep2 RW) := [o1 1 (.box 18 2 false (.s 0)),
  o1 2 (.mv false (.k (.sc (.bool false))))]
def g_ref06_right_1 : List (IStep2 RW) := [o1 3 (.fld 0 (.s 1)),
  o1 4 (.load 18 0 1 false false 3),
  o1 5 (.bin .geq (.s 4) (.k (.sc (.int .i64 0)))),
  o2 6 (.mv false (.s 5)),
  o3 7 6 true (.fld 0 (.s 1)),
  o3 8 6 true (.load 18 0 1 false false 7),
  o3 9 6 true (.fld 1 (.s 1)),
  o3 10 6 true (.load 18 1 1 false false 9),
  o3 11 6 true (.bin .leq (.s 8) (.s 10)),
  o1 12 (.pick (.s 6) (.s 11) (.k (.sc (.bool false)))),
  o2 13 (.mv false (.s 12)),
  o3 14 13 true (.fld 1 (.s 1)),
  o3 15 13 true (.load 18 1 1 false false 14),
  o3 16 13 true (.bin .leq (.s 15) (.k (.sc (.int .i64 1125899906842624)))),
  o1 17 (.pick (.s 13) (.s 16) (.k (.sc (.bool false)))),
  o1 2 (.mv false (.s 17))]
def i_ref06_right_0 : IC2 RW := .seq (.fin (.reg g_ref06_right_0) [0, 2] []) (.seq (.fin (.reg g_ref06_right_1) [1, 3, 4, 5, 6, 7, 8, 9, 10, 11, 12, 13, 14, 15, 16, 17] [(18, 2)]) (.ret))
def fn_ref06_right : IFn2 RW := ⟨18, 1, 18, 32, [(18, 2)], [], [], [.slot 2], i_ref06_right_0⟩
def g_ref06_Add_10 : List (IStep2 RW) := [o1 23 (.mv false (.s 8)),
  o1 24 (.mv false (.s 0)),
  o1 25 (.len false (.s 24)),
  o1 26 (.bin .lss (.s 23) (.s 25))]
def g_ref06_Add_13 : List (IStep2 RW) := [o1 47 (.mv false (.s 0)),
  o1 48 (.mv false (.s 8)),
  o1 49 (.idx 2 (.s 47) (.s 48)),
  o1 50 (.fld 1 (.s 49)),
  o1 51 (.loade 1 false 50),
  o1 52 (.fld 0 (.s 3)),
  o1 53 (.load 91 0 1 false false 52),
  o1 54 (.bin .lss (.s 51) (.s 53)),
  o1 46 (.mv false (.s 54))]
def g_ref06_Add_14 : List (IStep2 RW) := [o1 55 (.mv true (.s 6)),
  o1 56 (.mv false (.s 0)),
  o1 57 (.mv false (.s 8)),
  o1 58 (.idx 2 (.s 56) (.s 57)),
  o1 59 (.loade 2 true 58),
  o1 60 (.bslice 24 1 [(0, 2, .s 59)]),
  o1 61 (.app 2 16 true (.s 55) (.s 60)),
  o1 6 (.mv true (.s 61))]
def g_ref06_Add_15 : List (IStep2 RW) := [o1 63 (.fld 1 (.s 3)),
  o1 64 (.load 91 1 1 false false 63),
  o1 65 (.mv false (.s 0)),
  o1 66 (.mv false (.s 8)),
  o1 67 (.idx 2 (.s 65) (.s 66)),
  o1 68 (.fld 0 (.s 67)),
  o1 69 (.loade 1 false 68),
  o1 70 (.bin .lss (.s 64) (.s 69)),
  o1 62 (.mv false (.s 70))]
def g_ref06_Add_16 : List (IStep2 RW) := [o1 71 (.mv false (.s 7)),
  o1 72 (.un .not (.s 71))]
def g_ref06_Add_17 : List (IStep2 RW) := [o1 73 (.mv true (.s 6)),
  o1 74 (.load 91 0 2 true false 3),
  o1 75 (.bslice 24 1 [(0, 2, .s 74)]),
  o1 76 (.app 2 16 true (.s 73) (.s 75)),
  o1 6 (.mv true (.s 76))]
def g_ref06_Add_18 : List (IStep2 RW) := [o1 7 (.mv false (.k (.sc (.bool true))))]
def g_ref06_Add_19 : List (IStep2 RW) := [o1 77 (.mv true (.s 6)),
  o1 78 (.mv false (.s 0)),
  o1 79 (.mv false (.s 8)),
  o1 80 (.idx 2 (.s 78) (.s 79)),
  o1 81 (.loade 2 true 80),
  o1 82 (.bslice 24 1 [(0, 2, .s 81)]),
  o1 83 (.app 2 16 true (.s 77) (.s 82)),
  o1 6 (.mv true (.s 83))]
def g_ref06_Add_12 : List (IStep2 RW) := [o1 29 (.fld 0 (.s 3)),
  o1 30 (.load 91 0 1 false false 29),
  o1 31 (.mv false (.s 0)),
  o1 32 (.mv false (.s 8)),
  o1 33 (.idx 2 (.s 31) (.s 32)),
  o1 34 (.fld 0 (.s 33)),
  o1 35 (.loade 1 false 34),
  o1 36 (.mnmx false [.s 30, .s 35]),
  o1 37 (.fld 1 (.s 3)),
  o1 38 (.load 91 1 1 false false 37),
  o1 39 (.mv false (.s 0)),
  o1 40 (.mv false (.s 8)),
  o1 41 (.idx 2 (.s 39) (.s 40)),
  o1 42 (.fld 1 (.s 41)),
  o1 43 (.loade 1 false 42),
  o1 44 (.mnmx true [.s 38, .s 43]),
  o1 45 (.build [.sc (.int .i64 0), .sc (.int .i64 0)] [(0, 1, .s 36), (1, 1, .s 44)]),
  o0 (.store 91 0 2 false 3 (.s 45))]
def g_ref06_Add_11 : List (IStep2 RW) := [o1 27 (.mv false (.s 8)),
  o1 28 (.bin .add (.s 27) (.k (.sc (.int .i64 1)))),
  o1 8 (.mv false (.s 28))]
def i_ref06_Add_0 : IC2 RW := .seq (.seq (.fin (.reg g_ref06_Add_10) [23, 24, 25] []) (.fin (.cond (.s 26) (.skip) (.clr [0, 8, 26] [] (.exit 0))) [26] [])) (.seq (.blk 1 (.blk 2 (.seq (.fin (.reg g_ref06_Add_13) [47, 48, 49, 50, 51, 52, 53, 54] []) (.cond (.s 46) (.fin (.reg g_ref06_Add_14) [46, 55, 56, 57, 58, 59, 60, 61] []) (.seq (.fin (.reg g_ref06_Add_15) [46, 63, 64, 65, 66, 67, 68, 69, 70] []) (.cond (.s 62) (.seq (.seq (.fin (.reg g_ref06_Add_16) [62, 71] []) (.fin (.cond (.s 72) (.seq (.fin (.reg g_ref06_Add_17) [7, 72, 73, 74, 75, 76] []) (.reg g_ref06_Add_18)) (.skip)) [72] [])) (.fin (.reg g_ref06_Add_19) [77, 78, 79, 80, 81, 82, 83] [])) (.fin (.reg g_ref06_Add_12) [29, 30, 31, 32, 33, 34, 35, 36, 37, 38, 39, 40, 41, 42, 43, 44, 45, 62] []))))))) (.fin (.reg g_ref06_Add_11) [27, 28] []))
def i_ref06_Add_1 : IC2 RW := .loop i_ref06_Add_0
def i_ref06_Add_2 : IC2 RW := .blk 0 i_ref06_Add_1
def g_ref06_Add_9 : List (IStep2 RW) := [o1 8 (.mv false (.k (.sc (.int .i64 0))))]
def i_ref06_Add_3 : IC2 RW := .seq (.reg g_ref06_Add_9) i_ref06_Add_2
def g_ref06_Add_20 : List (IStep2 RW) := [o1 84 (.mv false (.s 7)),
  o1 85 (.un .not (.s 84))]
def g_ref06_Add_21 : List (IStep2 RW) := [o1 86 (.mv true (.s 6)),
  o1 87 (.load 91 0 2 true false 3),
  o1 88 (.bslice 24 1 [(0, 2, .s 87)]),
  o1 89 (.app 2 16 true (.s 86) (.s 88)),
  o1 6 (.mv true (.s 89))]
def g_ref06_Add_22 : List (IStep2 RW) := [o1 90 (.mv false (.s 6)),
  o1 4 (.mv false (.s 90)),
  o1 5 (.mv false (.k (.sc (.int .i64 0))))]
def i_ref06_Add_4 : IC2 RW := .seq (.seq (.fin (.reg g_ref06_Add_20) [7, 84] []) (.fin (.cond (.s 85) (.fin (.reg g_ref06_Add_21) [3, 85, 86, 87, 88, 89] [(91, 2)]) (.skip)) [3, 85] [(91, 2)])) (.seq (.fin (.reg g_ref06_Add_22) [6, 90] []) (.ret))
def i_ref06_Add_5 : IC2 RW := .seq i_ref06_Add_3 i_ref06_Add_4
def g_ref06_Add_0 : List (IStep2 RW) := [o1 3 (.box 91 2 false (.s 1)),
  o1 4 (.mv false (.k (.row false (.rSpan [])))),
  o1 5 (.mv false (.k (.sc (.int .i64 0))))]
def g_ref06_Add_1 : List (IStep2 RW) := [o1 9 (.mv false (.s 0)),
  o1 10 (.call 12 [(false, .s 9)] [] []),
  o1 11 (.bin .neq (.s 10) (.k (.sc (.int .i64 0))))]
def g_ref06_Add_2 : List (IStep2 RW) := [o1 4 (.mv false (.k (.row false (.rSpan [])))),
  o1 5 (.mv false (.k (.sc (.int .i64 60))))]
def g_ref06_Add_3 : List (IStep2 RW) := [o1 12 (.load 91 0 2 true false 3),
  o1 13 (.call 18 [(false, .s 12)] [] []),
  o1 14 (.un .not (.s 13))]
def g_ref06_Add_4 : List (IStep2 RW) := [o1 4 (.mv false (.k (.row false (.rSpan [])))),
  o1 5 (.mv false (.k (.sc (.int .i64 2))))]
def g_ref06_Add_5 : List (IStep2 RW) := [o1 15 (.fld 0 (.s 3)),
  o1 16 (.load 91 0 1 false false 15),
  o1 17 (.fld 1 (.s 3)),
  o1 18 (.load 91 1 1 false false 17),
  o1 19 (.bin .eql (.s 16) (.s 18))]
def g_ref06_Add_6 : List (IStep2 RW) := [o1 20 (.bslice 24 0 []),
  o1 21 (.mv false (.s 0)),
  o1 22 (.app 2 16 true (.s 20) (.s 21)),
  o1 4 (.mv false (.s 22)),
  o1 5 (.mv false (.k (.sc (.int .i64 0))))]
def g_ref06_Add_7 : List (IStep2 RW) := [o1 6 (.mv true (.k (.row true (.rSpan []))))]
def g_ref06_Add_8 : List (IStep2 RW) := [o1 7 (.mv false (.k (.sc (.bool false))))]
def i_ref06_Add_6 : IC2 RW := .seq (.fin (.reg g_ref06_Add_0) [1, 4, 5] []) (.seq (.seq (.fin (.reg g_ref06_Add_1) [9, 10] []) (.fin (.cond (.s 11) (.seq (.fin (.reg g_ref06_Add_2) [0, 3, 11] [(91, 2)]) (.ret)) (.skip)) [11] [])) (.seq (.seq (.fin (.reg g_ref06_Add_3) [12, 13] []) (.fin (.cond (.s 14) (.seq (.fin (.reg g_ref06_Add_4) [0, 3, 14] [(91, 2)]) (.ret)) (.skip)) [14] [])) (.seq (.seq (.fin (.reg g_ref06_Add_5) [15, 16, 17, 18] []) (.fin (.cond (.s 19) (.seq (.fin (.reg g_ref06_Add_6) [0, 3, 19, 20, 21, 22] [(91, 2)]) (.ret)) (.skip)) [19] [])) (.seq (.reg g_ref06_Add_7) (.seq (.reg g_ref06_Add_8) i_ref06_Add_5)))))
def fn_ref06_Add : IFn2 RW := ⟨8, 2, 91, 96, [(91, 2)], [], [], [.slot 4, .slot 5], i_ref06_Add_6⟩
def g_span_Cut_13 : List (IStep2 RW) := [o1 59 (.bin .lss (.s 58) (.k (.sc (.int .i64 2))))]
def g_span_Cut_14 : List (IStep2 RW) := [o1 60 (.aidx 2 2 true (.s 57) (.s 58)),
  o1 11 (.alloc 79 [.sc (.int .i64 0), .sc (.int .i64 0)]),
  o0 (.store 79 0 2 false 11 (.s 60))]
def g_span_Cut_15 : List (IStep2 RW) := [o1 61 (.fld 0 (.s 11)),
  o1 62 (.load 79 0 1 false false 61),
  o1 63 (.fld 1 (.s 11)),
  o1 64 (.load 79 1 1 false false 63),
  o1 65 (.bin .lss (.s 62) (.s 64))]
def g_span_Cut_16 : List (IStep2 RW) := [o1 66 (.mv true (.s 7)),
  o1 67 (.load 79 0 2 true false 11),
  o1 68 (.bslice 24 1 [(0, 2, .s 67)]),
  o1 69 (.app 2 16 true (.s 66) (.s 68)),
  o1 7 (.mv true (.s 69))]
def g_span_Cut_17 : List (IStep2 RW) := [o1 70 (.bin .add (.s 58) (.k (.sc (.int .i64 1)))),
  o1 58 (.mv false (.s 70))]
def i_span_Cut_0 : IC2 RW := .seq (.reg g_span_Cut_13) (.seq (.fin (.cond (.s 59) (.skip) (.clr [57, 58, 59] [] (.exit 2))) [59] []) (.seq (.blk 3 (.seq (.fin (.reg g_span_Cut_14) [60] []) (.seq (.fin (.reg g_span_Cut_15) [61, 62, 63, 64] []) (.fin (.cond (.s 65) (.fin (.reg g_span_Cut_16) [11, 65, 66, 67, 68, 69] [(79, 2)]) (.skip)) [11, 65] [(79, 2)])))) (.fin (.reg g_span_Cut_17) [70] [])))
def i_span_Cut_1 : IC2 RW := .loop i_span_Cut_0
def i_span_Cut_2 : IC2 RW := .blk 2 i_span_Cut_1
def g_span_Cut_9 : List (IStep2 RW) := [o1 29 (.idx 2 (.s 25) (.s 27)),
  o1 30 (.loade 2 true 29),
  o1 9 (.alloc 76 [.sc (.int .i64 0), .sc (.int .i64 0)]),
  o0 (.store 76 0 2 false 9 (.s 30))]
def g_span_Cut_10 : List (IStep2 RW) := [o1 31 (.fld 1 (.s 9)),
  o1 32 (.load 76 1 1 false false 31),
  o1 33 (.fld 0 (.s 3)),
  o1 34 (.load 73 0 1 false false 33),
  o1 35 (.bin .leq (.s 32) (.s 34)),
  o2 36 (.mv false (.s 35)),
  o3 37 36 false (.fld 0 (.s 9)),
  o3 38 36 false (.load 76 0 1 false false 37),
  o3 39 36 false (.fld 1 (.s 3)),
  o3 40 36 false (.load 73 1 1 false false 39),
  o3 41 36 false (.bin .geq (.s 38) (.s 40)),
  o1 42 (.pick (.s 36) (.k (.sc (.bool true))) (.s 41))]
def g_span_Cut_11 : List (IStep2 RW) := [o1 43 (.mv true (.s 7)),
  o1 44 (.load 76 0 2 true false 9),
  o1 45 (.bslice 24 1 [(0, 2, .s 44)]),
  o1 46 (.app 2 16 true (.s 43) (.s 45)),
  o1 7 (.mv true (.s 46))]
def g_span_Cut_12 : List (IStep2 RW) := [o1 47 (.fld 0 (.s 9)),
  o1 48 (.load 76 0 1 false false 47),
  o1 49 (.fld 0 (.s 3)),
  o1 50 (.load 73 0 1 false false 49),
  o1 51 (.build [.sc (.int .i64 0), .sc (.int .i64 0)] [(0, 1, .s 48), (1, 1, .s 50)]),
  o1 52 (.fld 1 (.s 3)),
  o1 53 (.load 73 1 1 false false 52),
  o1 54 (.fld 1 (.s 9)),
  o1 55 (.load 76 1 1 false false 54),
  o1 56 (.build [.sc (.int .i64 0), .sc (.int .i64 0)] [(0, 1, .s 53), (1, 1, .s 55)]),
  o1 57 (.build [.sc (.int .i64 0), .sc (.int .i64 0), .sc (.int .i64 0), .sc (.int .i64 0)] [(0, 2, .s 51), (2, 2, .s 56)]),
  o1 58 (.mv false (.k (.sc (.int .i64 0))))]
def i_span_Cut_3 : IC2 RW := .seq (.fin (.reg g_span_Cut_9) [29, 30] []) (.seq (.seq (.fin (.reg g_span_Cut_10) [31, 32, 33, 34, 35, 36, 37, 38, 39, 40, 41] []) (.fin (.cond (.s 42) (.seq (.fin (.reg g_span_Cut_11) [9, 42, 43, 44, 45, 46] [(76, 2)]) (.exit 1)) (.skip)) [42] [])) (.seq (.fin (.reg g_span_Cut_12) [9, 47, 48, 49, 50, 51, 52, 53, 54, 55, 56] [(76, 2)]) i_span_Cut_2))
def i_span_Cut_4 : IC2 RW := .blk 1 i_span_Cut_3
def g_span_Cut_18 : List (IStep2 RW) := [o1 71 (.bin .add (.s 27) (.k (.sc (.int .i64 1)))),
  o1 27 (.mv false (.s 71))]
def i_span_Cut_5 : IC2 RW := .fin (.reg g_span_Cut_18) [71] []
def i_span_Cut_6 : IC2 RW := .seq i_span_Cut_4 i_span_Cut_5
def g_span_Cut_8 : List (IStep2 RW) := [o1 28 (.bin .lss (.s 27) (.s 26))]
def i_span_Cut_7 : IC2 RW := .seq (.reg g_span_Cut_8) (.seq (.fin (.cond (.s 28) (.skip) (.clr [3, 25, 26, 27, 28] [(73, 2)] (.exit 0))) [28] []) i_span_Cut_6)
def i_span_Cut_8 : IC2 RW := .loop i_span_Cut_7
def i_span_Cut_9 : IC2 RW := .blk 0 i_span_Cut_8
def g_span_Cut_7 : List (IStep2 RW) := [o1 25 (.mv false (.s 0)),
  o1 26 (.len false (.s 25)),
  o1 27 (.mv false (.k (.sc (.int .i64 0))))]
def i_span_Cut_10 : IC2 RW := .seq (.fin (.reg g_span_Cut_7) [0] []) i_span_Cut_9
def g_span_Cut_19 : List (IStep2 RW) := [o1 72 (.mv false (.s 7)),
  o1 4 (.mv false (.s 72)),
  o1 5 (.mv false (.k (.sc (.int .i64 0))))]
def i_span_Cut_11 : IC2 RW := .seq (.fin (.reg g_span_Cut_19) [7, 72] []) (.ret)
def i_span_Cut_12 : IC2 RW := .seq i_span_Cut_10 i_span_Cut_11
def g_span_Cut_0 : List (IStep2 RW) := [o1 3 (.box 73 2 false (.s 1)),
  o1 4 (.mv false (.k (.row false (.rSpan [])))),
  o1 5 (.mv false (.k (.sc (.int .i64 0))))]
def g_span_Cut_1 : List (IStep2 RW) := [o1 12 (.mv false (.s 0)),
  o1 13 (.load 73 0 2 true false 3),
  o1 14 (.call 13 [(false, .s 12), (false, .s 13)] [] []),
  o1 6 (.mv false (.s 14))]
def g_span_Cut_2 : List (IStep2 RW) := [o1 15 (.mv false (.s 6)),
  o1 16 (.bin .neq (.s 15) (.k (.sc (.int .i64 0))))]
def g_span_Cut_3 : List (IStep2 RW) := [o1 17 (.mv false (.s 6)),
  o1 4 (.mv false (.k (.row false (.rSpan [])))),
  o1 5 (.mv false (.s 17))]
def g_span_Cut_4 : List (IStep2 RW) := [o1 18 (.fld 0 (.s 3)),
  o1 19 (.load 73 0 1 false false 18),
  o1 20 (.fld 1 (.s 3)),
  o1 21 (.load 73 1 1 false false 20),
  o1 22 (.bin .eql (.s 19) (.s 21))]
def g_span_Cut_5 : List (IStep2 RW) := [o1 23 (.mv false (.s 0)),
  o1 24 (.call 14 [(false, .s 23)] [] []),
  o1 4 (.mv false (.s 24)),
  o1 5 (.mv false (.k (.sc (.int .i64 0))))]
def g_span_Cut_6 : List (IStep2 RW) := [o1 7 (.mv true (.k (.row true (.rSpan []))))]
def i_span_Cut_13 : IC2 RW := .seq (.fin (.reg g_span_Cut_0) [1, 4, 5] []) (.seq (.seq (.fin (.reg g_span_Cut_1) [12, 13, 14] []) (.seq (.fin (.reg g_span_Cut_2) [15] []) (.fin (.cond (.s 16) (.seq (.fin (.reg g_span_Cut_3) [0, 3, 6, 16, 17] [(73, 2)]) (.ret)) (.skip)) [6, 16] []))) (.seq (.seq (.fin (.reg g_span_Cut_4) [18, 19, 20, 21] []) (.fin (.cond (.s 22) (.seq (.fin (.reg g_span_Cut_5) [0, 3, 22, 23, 24] [(73, 2)]) (.ret)) (.skip)) [22] [])) (.seq (.reg g_span_Cut_6) (.seq (.skip) i_span_Cut_12))))
def fn_span_Cut : IFn2 RW := ⟨9, 2, 73, 96, [(73, 2), (76, 2), (79, 2)], [], [], [.slot 4, .slot 5], i_span_Cut_13⟩
def g_ref06_Cut_7 : List (IStep2 RW) := [o1 16 (.mv false (.s 7)),
  o1 17 (.mv false (.s 0)),
  o1 18 (.len false (.s 17)),
  o1 19 (.bin .lss (.s 16) (.s 18))]
def g_ref06_Cut_9 : List (IStep2 RW) := [o1 22 (.fld 0 (.s 3)),
  o1 23 (.load 81 0 1 false false 22),
  o1 24 (.fld 1 (.s 3)),
  o1 25 (.load 81 1 1 false false 24),
  o1 26 (.bin .geq (.s 23) (.s 25))]
def g_ref06_Cut_10 : List (IStep2 RW) := [o1 27 (.mv true (.s 6)),
  o1 28 (.mv false (.s 0)),
  o1 29 (.mv false (.s 7)),
  o1 30 (.idx 2 (.s 28) (.s 29)),
  o1 31 (.loade 2 true 30),
  o1 32 (.bslice 24 1 [(0, 2, .s 31)]),
  o1 33 (.app 2 16 true (.s 27) (.s 32)),
  o1 6 (.mv true (.s 33))]
def g_ref06_Cut_11 : List (IStep2 RW) := [o1 34 (.mv false (.s 0)),
  o1 35 (.mv false (.s 7)),
  o1 36 (.idx 2 (.s 34) (.s 35)),
  o1 37 (.fld 0 (.s 36)),
  o1 38 (.loade 1 false 37),
  o1 39 (.mv false (.s 0)),
  o1 40 (.mv false (.s 7)),
  o1 41 (.idx 2 (.s 39) (.s 40)),
  o1 42 (.fld 1 (.s 41)),
  o1 43 (.loade 1 false 42),
  o1 44 (.fld 0 (.s 3)),
  o1 45 (.load 81 0 1 false false 44),
  o1 46 (.mnmx false [.s 43, .s 45]),
  o1 47 (.build [.sc (.int .i64 0), .sc (.int .i64 0)] [(0, 1, .s 38), (1, 1, .s 46)]),
  o1 8 (.alloc 84 [.sc (.int .i64 0), .sc (.int .i64 0)]),
  o0 (.store 84 0 2 false 8 (.s 47))]
def g_ref06_Cut_12 : List (IStep2 RW) := [o1 48 (.mv false (.s 0)),
  o1 49 (.mv false (.s 7)),
  o1 50 (.idx 2 (.s 48) (.s 49)),
  o1 51 (.fld 0 (.s 50)),
  o1 52 (.loade 1 false 51),
  o1 53 (.fld 1 (.s 3)),
  o1 54 (.load 81 1 1 false false 53),
  o1 55 (.mnmx true [.s 52, .s 54]),
  o1 56 (.mv false (.s 0)),
  o1 57 (.mv false (.s 7)),
  o1 58 (.idx 2 (.s 56) (.s 57)),
  o1 59 (.fld 1 (.s 58)),
  o1 60 (.loade 1 false 59),
  o1 61 (.build [.sc (.int .i64 0), .sc (.int .i64 0)] [(0, 1, .s 55), (1, 1, .s 60)]),
  o1 9 (.alloc 87 [.sc (.int .i64 0), .sc (.int .i64 0)]),
  o0 (.store 87 0 2 false 9 (.s 61))]
def g_ref06_Cut_13 : List (IStep2 RW) := [o1 62 (.fld 0 (.s 8)),
  o1 63 (.load 84 0 1 false false 62),
  o1 64 (.fld 1 (.s 8)),
  o1 65 (.load 84 1 1 false false 64),
  o1 66 (.bin .lss (.s 63) (.s 65))]
def g_ref06_Cut_14 : List (IStep2 RW) := [o1 67 (.mv true (.s 6)),
  o1 68 (.load 84 0 2 true false 8),
  o1 69 (.bslice 24 1 [(0, 2, .s 68)]),
  o1 70 (.app 2 16 true (.s 67) (.s 69)),
  o1 6 (.mv true (.s 70))]
def g_ref06_Cut_15 : List (IStep2 RW) := [o1 71 (.fld 0 (.s 9)),
  o1 72 (.load 87 0 1 false false 71),
  o1 73 (.fld 1 (.s 9)),
  o1 74 (.load 87 1 1 false false 73),
  o1 75 (.bin .lss (.s 72) (.s 74))]
def g_ref06_Cut_16 : List (IStep2 RW) := [o1 76 (.mv true (.s 6)),
  o1 77 (.load 87 0 2 true false 9),
  o1 78 (.bslice 24 1 [(0, 2, .s 77)]),
  o1 79 (.app 2 16 true (.s 76) (.s 78)),
  o1 6 (.mv true (.s 79))]
def g_ref06_Cut_8 : List (IStep2 RW) := [o1 20 (.mv false (.s 7)),
  o1 21 (.bin .add (.s 20) (.k (.sc (.int .i64 1)))),
  o1 7 (.mv false (.s 21))]
def i_ref06_Cut_0 : IC2 RW := .seq (.seq (.fin (.reg g_ref06_Cut_7) [16, 17, 18] []) (.fin (.cond (.s 19) (.skip) (.clr [0, 3, 7, 19] [(81, 2)] (.exit 0))) [19] [])) (.seq (.blk 1 (.seq (.seq (.fin (.reg g_ref06_Cut_9) [22, 23, 24, 25] []) (.fin (.cond (.s 26) (.seq (.fin (.reg g_ref06_Cut_10) [26, 27, 28, 29, 30, 31, 32, 33] []) (.exit 1)) (.skip)) [26] [])) (.seq (.fin (.reg g_ref06_Cut_11) [34, 35, 36, 37, 38, 39, 40, 41, 42, 43, 44, 45, 46, 47] []) (.seq (.fin (.reg g_ref06_Cut_12) [48, 49, 50, 51, 52, 53, 54, 55, 56, 57, 58, 59, 60, 61] []) (.seq (.seq (.fin (.reg g_ref06_Cut_13) [62, 63, 64, 65] []) (.fin (.cond (.s 66) (.fin (.reg g_ref06_Cut_14) [8, 66, 67, 68, 69, 70] [(84, 2)]) (.skip)) [8, 66] [(84, 2)])) (.seq (.fin (.reg g_ref06_Cut_15) [71, 72, 73, 74] []) (.fin (.cond (.s 75) (.fin (.reg g_ref06_Cut_16) [9, 75, 76, 77, 78, 79] [(87, 2)]) (.skip)) [9, 75] [(87, 2)]))))))) (.fin (.reg g_ref06_Cut_8) [20, 21] []))
def i_ref06_Cut_1 : IC2 RW := .loop i_ref06_Cut_0
def i_ref06_Cut_2 : IC2 RW := .blk 0 i_ref06_Cut_1
def g_ref06_Cut_6 : List (IStep2 RW) := [o1 7 (.mv false (.k (.sc (.int .i64 0))))]
def i_ref06_Cut_3 : IC2 RW := .seq (.reg g_ref06_Cut_6) i_ref06_Cut_2
def g_ref06_Cut_17 : List (IStep2 RW) := [o1 80 (.mv false (.s 6)),
  o1 4 (.mv false (.s 80)),
  o1 5 (.mv false (.k (.sc (.int .i64 0))))]
def i_ref06_Cut_4 : IC2 RW := .seq (.fin (.reg g_ref06_Cut_17) [6, 80] []) (.ret)
def i_ref06_Cut_5 : IC2 RW := .seq i_ref06_Cut_3 i_ref06_Cut_4
def g_ref06_Cut_0 : List (IStep2 RW) := [o1 3 (.box 81 2 false (.s 1)),
  o1 4 (.mv false (.k (.row false (.rSpan [])))),
  o1 5 (.mv false (.k (.sc (.int .i64 0))))]
def g_ref06_Cut_1 : List (IStep2 RW) := [o1 10 (.mv false (.s 0)),
  o1 11 (.call 12 [(false, .s 10)] [] []),
  o1 12 (.bin .neq (.s 11) (.k (.sc (.int .i64 0))))]
def g_ref06_Cut_2 : List (IStep2 RW) := [o1 4 (.mv false (.k (.row false (.rSpan [])))),
  o1 5 (.mv false (.k (.sc (.int .i64 60))))]
def g_ref06_Cut_3 : List (IStep2 RW) := [o1 13 (.load 81 0 2 true false 3),
  o1 14 (.call 18 [(false, .s 13)] [] []),
  o1 15 (.un .not (.s 14))]
def g_ref06_Cut_4 : List (IStep2 RW) := [o1 4 (.mv false (.k (.row false (.rSpan [])))),
  o1 5 (.mv false (.k (.sc (.int .i64 2))))]
def g_ref06_Cut_5 : List (IStep2 RW) := [o1 6 (.mv true (.k (.row true (.rSpan []))))]
def i_ref06_Cut_6 : IC2 RW := .seq (.fin (.reg g_ref06_Cut_0) [1, 4, 5] []) (.seq (.seq (.fin (.reg g_ref06_Cut_1) [10, 11] []) (.fin (.cond (.s 12) (.seq (.fin (.reg g_ref06_Cut_2) [0, 3, 12] [(81, 2)]) (.ret)) (.skip)) [12] [])) (.seq (.seq (.fin (.reg g_ref06_Cut_3) [13, 14] []) (.fin (.cond (.s 15) (.seq (.fin (.reg g_ref06_Cut_4) [0, 3, 15] [(81, 2)]) (.ret)) (.skip)) [15] [])) (.seq (.reg g_ref06_Cut_5) i_ref06_Cut_5)))
def fn_ref06_Cut : IFn2 RW := ⟨10, 2, 81, 96, [(81, 2), (84, 2), (87, 2)], [], [], [.slot 4, .slot 5], i_ref06_Cut_6⟩
def g_ref06_Same_4 : List (IStep2 RW) := [o1 11 (.mv false (.s 5)),
  o1 12 (.mv false (.s 0)),
  o1 13 (.len false (.s 12)),
  o1 14 (.bin .lss (.s 11) (.s 13))]
def g_ref06_Same_6 : List (IStep2 RW) := [o1 17 (.mv false (.s 0)),
  o1 18 (.mv false (.s 5)),
  o1 19 (.idx 2 (.s 17) (.s 18)),
  o1 20 (.loade 2 true 19),
  o1 21 (.mv false (.s 1)),
  o1 22 (.mv false (.s 5)),
  o1 23 (.idx 2 (.s 21) (.s 22)),
  o1 24 (.loade 2 true 23),
  o1 25 (.eqs [true, true] true (.s 20) (.s 24))]
def g_ref06_Same_7 : List (IStep2 RW) := [o1 4 (.mv false (.k (.sc (.bool false))))]
def g_ref06_Same_5 : List (IStep2 RW) := [o1 15 (.mv false (.s 5)),
  o1 16 (.bin .add (.s 15) (.k (.sc (.int .i64 1)))),
  o1 5 (.mv false (.s 16))]
def i_ref06_Same_0 : IC2 RW := .seq (.seq (.fin (.reg g_ref06_Same_4) [11, 12, 13] []) (.fin (.cond (.s 14) (.skip) (.clr [0, 1, 5, 14] [] (.exit 0))) [14] [])) (.seq (.blk 1 (.seq (.fin (.reg g_ref06_Same_6) [17, 18, 19, 20, 21, 22, 23, 24] []) (.fin (.cond (.s 25) (.seq (.fin (.reg g_ref06_Same_7) [0, 1, 5, 25] []) (.ret)) (.skip)) [25] []))) (.fin (.reg g_ref06_Same_5) [15, 16] []))
def i_ref06_Same_1 : IC2 RW := .loop i_ref06_Same_0
def i_ref06_Same_2 : IC2 RW := .blk 0 i_ref06_Same_1
def g_ref06_Same_3 : List (IStep2 RW) := [o1 5 (.mv false (.k (.sc (.int .i64 0))))]
def i_ref06_Same_3 : IC2 RW := .seq (.reg g_ref06_Same_3) i_ref06_Same_2
def g_ref06_Same_8 : List (IStep2 RW) := [o1 4 (.mv false (.k (.sc (.bool true))))]
def i_ref06_Same_4 : IC2 RW := .seq (.reg g_ref06_Same_8) (.ret)
def i_ref06_Same_5 : IC2 RW := .seq i_ref06_Same_3 i_ref06_Same_4
def g_ref06_Same_0 : List (IStep2 RW) := [o1 4 (.mv false (.k (.sc (.bool false))))]
def g_ref06_Same_1 : List (IStep2 RW) := [o1 6 (.mv false (.s 0)),
  o1 7 (.len false (.s 6)),
  o1 8 (.mv false (.s 1)),
  o1 9 (.len false (.s 8)),
  o1 10 (.bin .neq (.s 7) (.s 9))]
def g_ref06_Same_2 : List (IStep2 RW) := [o1 4 (.mv false (.k (.sc (.bool false))))]
def i_ref06_Same_6 : IC2 RW := .seq (.fin (.reg g_ref06_Same_0) [4] []) (.seq (.seq (.fin (.reg g_ref06_Same_1) [6, 7, 8, 9] []) (.fin (.cond (.s 10) (.seq (.fin (.reg g_ref06_Same_2) [0, 1, 10] []) (.ret)) (.skip)) [10] [])) i_ref06_Same_5)
def fn_ref06_Same : IFn2 RW := ⟨7, 2, 26, 32, [], [], [], [.slot 4], i_ref06_Same_6⟩
def g_span_within_0 : List (IStep2 RW) := [o1 2 (.box 6 1 false (.s 0)),
  o1 3 (.box 8 2 false (.s 1)),
  o1 4 (.mv false (.k (.sc .nilFunc)))]
def g_span_within_1 : List (IStep2 RW) := [o1 5 (.mkclo 22 [.s 2, .s 3]),
  o1 4 (.mv false (.s 5))]
def i_span_within_0 : IC2 RW := .seq (.fin (.reg g_span_within_0) [0, 1, 4] []) (.seq (.fin (.reg g_span_within_1) [2, 3, 5] []) (.ret))
def fn_span_within : IFn2 RW := ⟨20, 2, 6, 16, [(6, 1), (8, 2)], [], [(6, 1), (8, 2)], [.slot 4], i_span_within_0⟩
def g_span_Gaps_6 : List (IStep2 RW) := [o1 7 (.alloc 71 [.sc (.int .i64 0), .sc (.int .i64 0)]),
  o0 (.store 71 0 2 false 7 (.s 23))]
def i_span_Gaps_0 : IC2 RW := .fin (.reg g_span_Gaps_6) [23] []
def g_span_Gaps_7 : List (IStep2 RW) := [o1 24 (.load 69 0 1 false false 6),
  o1 25 (.fld 0 (.s 7)),
  o1 26 (.load 71 0 1 false false 25),
  o1 27 (.bin .lss (.s 24) (.s 26))]
def g_span_Gaps_8 : List (IStep2 RW) := [o1 28 (.load 67 0 1 false true 5),
  o1 29 (.load 69 0 1 false false 6),
  o1 30 (.fld 0 (.s 7)),
  o1 31 (.load 71 0 1 false false 30),
  o1 32 (.build [.sc (.int .i64 0), .sc (.int .i64 0)] [(0, 1, .s 29), (1, 1, .s 31)]),
  o1 33 (.bslice 24 1 [(0, 2, .s 32)]),
  o1 34 (.app 2 16 true (.s 28) (.s 33)),
  o0 (.store 67 0 1 true 5 (.s 34))]
def g_span_Gaps_9 : List (IStep2 RW) := [o1 35 (.fld 1 (.s 7)),
  o1 36 (.load 71 1 1 false false 35),
  o0 (.store 69 0 1 false 6 (.s 36))]
def i_span_Gaps_1 : IC2 RW := .blk 1 (.seq (.seq (.fin (.reg g_span_Gaps_7) [24, 25, 26] []) (.fin (.cond (.s 27) (.fin (.reg g_span_Gaps_8) [27, 28, 29, 30, 31, 32, 33, 34] []) (.skip)) [27] [])) (.fin (.reg g_span_Gaps_9) [7, 35, 36] [(71, 2)]))
def i_span_Gaps_2 : IC2 RW := .seq i_span_Gaps_0 i_span_Gaps_1
def g_span_Gaps_1000 : List (IStep2 RW) := [o1 7 (.load 74 0 1 false false 1),
  o1 8 (.len false (.s 7)),
  o1 9 (.mv false (.k (.sc (.int .i64 0))))]
def g_span_Gaps_1001 : List (IStep2 RW) := [o1 10 (.bin .lss (.s 9) (.s 8))]
def g_span_Gaps_1002 : List (IStep2 RW) := [o1 11 (.idx 2 (.s 7) (.s 9)),
  o1 12 (.loade 2 true 11),
  o1 5 (.alloc 79 [.sc (.int .i64 0), .sc (.int .i64 0)]),
  o0 (.store 79 0 2 false 5 (.s 12))]
def g_span_Gaps_1003 : List (IStep2 RW) := [o1 13 (.fld 0 (.s 5)),
  o1 14 (.load 79 0 1 false false 13),
  o1 15 (.fld 0 (.s 2)),
  o1 16 (.load 76 0 1 false false 15),
  o1 17 (.mnmx true [.s 14, .s 16]),
  o1 18 (.fld 1 (.s 5)),
  o1 19 (.load 79 1 1 false false 18),
  o1 20 (.fld 1 (.s 2)),
  o1 21 (.load 76 1 1 false false 20),
  o1 22 (.mnmx false [.s 19, .s 21]),
  o1 23 (.build [.sc (.int .i64 0), .sc (.int .i64 0)] [(0, 1, .s 17), (1, 1, .s 22)]),
  o1 6 (.alloc 82 [.sc (.int .i64 0), .sc (.int .i64 0)]),
  o0 (.store 82 0 2 false 6 (.s 23))]
def g_span_Gaps_10041 : List (IStep2 RW) := [o1 24 (.fld 0 (.s 6)),
  o1 25 (.load 82 0 1 false false 24),
  o1 26 (.fld 1 (.s 6)),
  o1 27 (.load 82 1 1 false false 26),
  o1 28 (.bin .lss (.s 25) (.s 27)),
  o2 29 (.mv false (.s 28)),
  o3 30 29 true (.mv false (.s 0)),
  o3 31 29 true (.load 82 0 2 true false 6)]
def g_span_Gaps_10042 : List (IStep2 RW) := [o3 33 29 true (.un .not (.s 32)),
  o1 34 (.pick (.s 29) (.s 33) (.k (.sc (.bool false))))]
def g_span_Gaps_1005 : List (IStep2 RW) := [o1 35 (.bin .add (.s 9) (.k (.sc (.int .i64 1)))),
  o1 9 (.mv false (.s 35))]
def i_span_Gaps_3 : IC2 RW := .seq (.fin (.reg g_span_Gaps_1000) [1] []) (.blk 0 (.loop (.seq (.reg g_span_Gaps_1001) (.seq (.fin (.cond (.s 10) (.skip) (.clr [0, 2, 7, 8, 9, 10] [] (.exit 0))) [10] []) (.seq (.blk 1 (.seq (.fin (.reg g_span_Gaps_1002) [11, 12] []) (.seq (.fin (.reg g_span_Gaps_1003) [5, 13, 14, 15, 16, 17, 18, 19, 20, 21, 22, 23] [(79, 2)]) (.seq (.fin (.yreg g_span_Gaps_10041 (.s 30) [.s 31] (some (29, true)) 32 g_span_Gaps_10042) [6, 24, 25, 26, 27, 28, 29, 30, 31, 32, 33] [(82, 2)]) (.fin (.cond (.s 34) (.clr [0, 2, 7, 8, 9, 34] [] (.ret)) (.skip)) [34] []))))) (.fin (.reg g_span_Gaps_1005) [35] []))))))
def i_span_Gaps_4 : IC2 RW := .fin (.yreg g_span_Gaps_10041 (.s 30) [.s 31] (some (29, true)) 32 g_span_Gaps_10042) [6, 24, 25, 26, 27, 28, 29, 30, 31, 32, 33] [(82, 2)]
def i_span_Gaps_5 : IC2 RW := .fin (.cond (.s 34) (.clr [0, 2, 7, 8, 9, 34] [] (.ret)) (.skip)) [34] []
def i_span_Gaps_6 : IC2 RW := .seq i_span_Gaps_4 i_span_Gaps_5
def i_span_Gaps_7 : IC2 RW := .seq (.fin (.reg g_span_Gaps_1002) [11, 12] []) (.seq (.fin (.reg g_span_Gaps_1003) [5, 13, 14, 15, 16, 17, 18, 19, 20, 21, 22, 23] [(79, 2)]) i_span_Gaps_6)
def i_span_Gaps_8 : IC2 RW := .blk 1 i_span_Gaps_7
def i_span_Gaps_9 : IC2 RW := .fin (.reg g_span_Gaps_1005) [35] []
def i_span_Gaps_10 : IC2 RW := .seq i_span_Gaps_8 i_span_Gaps_9
def i_span_Gaps_11 : IC2 RW := .seq (.reg g_span_Gaps_1001) (.seq (.fin (.cond (.s 10) (.skip) (.clr [0, 2, 7, 8, 9, 10] [] (.exit 0))) [10] []) i_span_Gaps_10)
def i_span_Gaps_12 : IC2 RW := .loop i_span_Gaps_11
def i_span_Gaps_13 : IC2 RW := .blk 0 i_span_Gaps_12
def i_span_Gaps_14 : IC2 RW := .fin (.rfn (.s 22) 22 4 36 [23] i_span_Gaps_3 i_span_Gaps_0 i_span_Gaps_1 [64, 67, 69, 74, 76] [64, 67, 69, 74, 76, 79, 82]) [22] [(74, 1), (76, 2)]
def i_span_Gaps_15 : IC2 RW := .blk 0 i_span_Gaps_14
def g_span_Gaps_5 : List (IStep2 RW) := [o1 20 (.mv false (.s 0)),
  o1 21 (.load 64 0 2 true false 3),
  o1 22 (.call 20 [(false, .s 20), (false, .s 21)] [] [(6, 1, 74), (8, 2, 76)])]
def i_span_Gaps_16 : IC2 RW := .seq (.fin (.reg g_span_Gaps_5) [0, 20, 21] []) i_span_Gaps_15
def g_span_Gaps_10 : List (IStep2 RW) := [o1 37 (.load 69 0 1 false false 6),
  o1 38 (.fld 1 (.s 3)),
  o1 39 (.load 64 1 1 false false 38),
  o1 40 (.bin .lss (.s 37) (.s 39))]
def g_span_Gaps_11 : List (IStep2 RW) := [o1 41 (.load 67 0 1 false true 5),
  o1 42 (.load 69 0 1 false false 6),
  o1 43 (.fld 1 (.s 3)),
  o1 44 (.load 64 1 1 false false 43),
  o1 45 (.build [.sc (.int .i64 0), .sc (.int .i64 0)] [(0, 1, .s 42), (1, 1, .s 44)]),
  o1 46 (.bslice 24 1 [(0, 2, .s 45)]),
  o1 47 (.app 2 16 true (.s 41) (.s 46)),
  o0 (.store 67 0 1 true 5 (.s 47))]
def g_span_Gaps_12 : List (IStep2 RW) := [o1 48 (.load 67 0 1 false false 5),
  o1 4 (.mv false (.s 48))]
def i_span_Gaps_17 : IC2 RW := .seq (.seq (.fin (.reg g_span_Gaps_10) [37, 38, 39] []) (.fin (.cond (.s 40) (.fin (.reg g_span_Gaps_11) [3, 6, 40, 41, 42, 43, 44, 45, 46, 47] [(64, 2), (69, 1)]) (.skip)) [3, 6, 40] [(64, 2), (69, 1)])) (.seq (.fin (.reg g_span_Gaps_12) [5, 48] [(67, 1)]) (.ret))
def i_span_Gaps_18 : IC2 RW := .seq i_span_Gaps_16 i_span_Gaps_17
def g_span_Gaps_0 : List (IStep2 RW) := [o1 3 (.box 64 2 false (.s 1)),
  o1 4 (.mv false (.k (.row false (.rSpan []))))]
def g_span_Gaps_1 : List (IStep2 RW) := [o1 8 (.mv false (.s 0)),
  o1 9 (.call 11 [(false, .s 8)] [] []),
  o1 10 (.bin .neq (.s 9) (.k (.sc (.int .i64 0)))),
  o2 11 (.mv false (.s 10)),
  o3 12 11 false (.fld 0 (.s 3)),
  o3 13 11 false (.load 64 0 1 false false 12),
  o3 14 11 false (.fld 1 (.s 3)),
  o3 15 11 false (.load 64 1 1 false false 14),
  o3 16 11 false (.bin .geq (.s 13) (.s 15)),
  o1 17 (.pick (.s 11) (.k (.sc (.bool true))) (.s 16))]
def g_span_Gaps_2 : List (IStep2 RW) := [o1 4 (.mv false (.k (.row false (.rSpan []))))]
def g_span_Gaps_3 : List (IStep2 RW) := [o1 5 (.alloc 67 [.row true (.rSpan [])])]
def g_span_Gaps_4 : List (IStep2 RW) := [o1 18 (.fld 0 (.s 3)),
  o1 19 (.load 64 0 1 false false 18),
  o1 6 (.alloc 69 [.sc (.int .i64 0)]),
  o0 (.store 69 0 1 false 6 (.s 19))]
def i_span_Gaps_19 : IC2 RW := .seq (.fin (.reg g_span_Gaps_0) [1, 4] []) (.seq (.seq (.fin (.reg g_span_Gaps_1) [8, 9, 10, 11, 12, 13, 14, 15, 16] []) (.fin (.cond (.s 17) (.seq (.fin (.reg g_span_Gaps_2) [0, 3, 17] [(64, 2)]) (.ret)) (.skip)) [17] [])) (.seq (.reg g_span_Gaps_3) (.seq (.fin (.reg g_span_Gaps_4) [18, 19] []) i_span_Gaps_18)))
def fn_span_Gaps : IFn2 RW := ⟨15, 2, 49, 96, [(64, 2), (67, 1), (69, 1), (71, 2), (74, 1), (76, 2), (79, 2), (82, 2)], [], [], [.slot 4], i_span_Gaps_19⟩
def g_span_Size_5 : List (IStep2 RW) := [o1 12 (.bin .lss (.s 11) (.s 10))]
def g_span_Size_6 : List (IStep2 RW) := [o1 13 (.idx 2 (.s 9) (.s 11)),
  o1 14 (.loade 2 true 13),
  o1 5 (.alloc 24 [.sc (.int .i64 0), .sc (.int .i64 0)]),
  o0 (.store 24 0 2 false 5 (.s 14))]
def g_span_Size_7 : List (IStep2 RW) := [o1 15 (.mv false (.s 3)),
  o1 16 (.fld 1 (.s 5)),
  o1 17 (.load 24 1 1 false false 16),
  o1 18 (.fld 0 (.s 5)),
  o1 19 (.load 24 0 1 false false 18),
  o1 20 (.bin .sub (.s 17) (.s 19)),
  o1 21 (.bin .add (.s 15) (.s 20)),
  o1 3 (.mv false (.s 21))]
def g_span_Size_8 : List (IStep2 RW) := [o1 22 (.bin .add (.s 11) (.k (.sc (.int .i64 1)))),
  o1 11 (.mv false (.s 22))]
def i_span_Size_0 : IC2 RW := .seq (.reg g_span_Size_5) (.seq (.fin (.cond (.s 12) (.skip) (.clr [9, 10, 11, 12] [] (.exit 0))) [12] []) (.seq (.blk 1 (.seq (.fin (.reg g_span_Size_6) [13, 14] []) (.fin (.reg g_span_Size_7) [5, 15, 16, 17, 18, 19, 20, 21] [(24, 2)]))) (.fin (.reg g_span_Size_8) [22] [])))
def i_span_Size_1 : IC2 RW := .loop i_span_Size_0
def i_span_Size_2 : IC2 RW := .blk 0 i_span_Size_1
def g_span_Size_4 : List (IStep2 RW) := [o1 9 (.mv false (.s 0)),
  o1 10 (.len false (.s 9)),
  o1 11 (.mv false (.k (.sc (.int .i64 0))))]
def i_span_Size_3 : IC2 RW := .seq (.fin (.reg g_span_Size_4) [0] []) i_span_Size_2
def g_span_Size_9 : List (IStep2 RW) := [o1 23 (.mv false (.s 3)),
  o1 2 (.mv false (.s 23))]
def i_span_Size_4 : IC2 RW := .seq (.fin (.reg g_span_Size_9) [3, 23] []) (.ret)
def i_span_Size_5 : IC2 RW := .seq i_span_Size_3 i_span_Size_4
def g_span_Size_0 : List (IStep2 RW) := [o1 2 (.mv false (.k (.sc (.int .i64 0))))]
def g_span_Size_1 : List (IStep2 RW) := [o1 6 (.mv false (.s 0)),
  o1 7 (.call 11 [(false, .s 6)] [] []),
  o1 8 (.bin .neq (.s 7) (.k (.sc (.int .i64 0))))]
def g_span_Size_2 : List (IStep2 RW) := [o1 2 (.mv false (.k (.sc (.int .i64 0))))]
def g_span_Size_3 : List (IStep2 RW) := [o1 3 (.mv false (.k (.sc (.int .i64 0))))]
def i_span_Size_6 : IC2 RW := .seq (.fin (.reg g_span_Size_0) [2] []) (.seq (.seq (.fin (.reg g_span_Size_1) [6, 7] []) (.fin (.cond (.s 8) (.seq (.fin (.reg g_span_Size_2) [0, 8] []) (.ret)) (.skip)) [8] [])) (.seq (.reg g_span_Size_3) i_span_Size_5))
def fn_span_Size : IFn2 RW := ⟨16, 1, 24, 32, [(24, 2)], [], [], [.slot 2], i_span_Size_6⟩
def g_span_Find_1_0 : List (IStep2 RW) := [o1 2 (.box 16 2 false (.s 0)),
  o1 3 (.mv false (.k (.sc (.bool false))))]
def g_span_Find_1_1 : List (IStep2 RW) := [o1 4 (.fld 0 (.s 2)),
  o1 5 (.load 16 0 1 false false 4),
  o1 6 (.load 14 0 1 false false 1),
  o1 7 (.bin .leq (.s 5) (.s 6)),
  o2 8 (.mv false (.s 7)),
  o3 9 8 true (.load 14 0 1 false false 1),
  o3 10 8 true (.fld 1 (.s 2)),
  o3 11 8 true (.load 16 1 1 false false 10),
  o3 12 8 true (.bin .lss (.s 9) (.s 11)),
  o1 13 (.pick (.s 8) (.s 12) (.k (.sc (.bool false)))),
  o1 3 (.mv false (.s 13))]
def i_span_Find_1_0 : IC2 RW := .seq (.fin (.reg g_span_Find_1_0) [0, 3] []) (.seq (.fin (.reg g_span_Find_1_1) [1, 2, 4, 5, 6, 7, 8, 9, 10, 11, 12, 13] [(16, 2)]) (.ret))
def fn_span_Find_1 : IFn2 RW := ⟨24, 2, 14, 32, [(14, 1), (16, 2)], [(14, 1)], [], [.slot 3], i_span_Find_1_0⟩
def g_slices_IndexFunc_Span_2 : List (IStep2 RW) := [o1 9 (.bin .lss (.s 8) (.s 7))]
def g_slices_IndexFunc_Span_3 : List (IStep2 RW) := [o1 10 (.mv false (.s 8)),
  o1 5 (.mv false (.s 10))]
def g_slices_IndexFunc_Span_4 : List (IStep2 RW) := [o1 11 (.mv false (.s 1)),
  o1 12 (.mv false (.s 0)),
  o1 13 (.mv false (.s 5)),
  o1 14 (.idx 2 (.s 12) (.s 13)),
  o1 15 (.loade 2 true 14),
  o1 16 (.callv (.s 11) 24 1019 [(false, .s 15)] [(19, 1, 14)] [])]
def g_slices_IndexFunc_Span_5 : List (IStep2 RW) := [o1 17 (.mv false (.s 5)),
  o1 4 (.mv false (.s 17))]
def g_slices_IndexFunc_Span_6 : List (IStep2 RW) := [o1 18 (.bin .add (.s 8) (.k (.sc (.int .i64 1)))),
  o1 8 (.mv false (.s 18))]
def i_slices_IndexFunc_Span_0 : IC2 RW := .seq (.reg g_slices_IndexFunc_Span_2) (.seq (.fin (.cond (.s 9) (.skip) (.clr [0, 1, 7, 8, 9] [] (.exit 0))) [9] []) (.seq (.blk 1 (.seq (.fin (.reg g_slices_IndexFunc_Span_3) [10] []) (.seq (.fin (.reg g_slices_IndexFunc_Span_4) [11, 12, 13, 14, 15] []) (.fin (.cond (.s 16) (.seq (.fin (.reg g_slices_IndexFunc_Span_5) [0, 1, 5, 7, 8, 16, 17] []) (.ret)) (.skip)) [5, 16] [])))) (.fin (.reg g_slices_IndexFunc_Span_6) [18] [])))
def i_slices_IndexFunc_Span_1 : IC2 RW := .loop i_slices_IndexFunc_Span_0
def i_slices_IndexFunc_Span_2 : IC2 RW := .blk 0 i_slices_IndexFunc_Span_1
def g_slices_IndexFunc_Span_1 : List (IStep2 RW) := [o1 6 (.mv false (.s 0)),
  o1 7 (.len false (.s 6)),
  o1 8 (.mv false (.k (.sc (.int .i64 0))))]
def i_slices_IndexFunc_Span_3 : IC2 RW := .seq (.fin (.reg g_slices_IndexFunc_Span_1) [6] []) i_slices_IndexFunc_Span_2
def g_slices_IndexFunc_Span_7 : List (IStep2 RW) := [o1 4 (.mv false (.k (.sc (.int .i64 (-1)))))]
def i_slices_IndexFunc_Span_4 : IC2 RW := .seq (.reg g_slices_IndexFunc_Span_7) (.ret)
def i_slices_IndexFunc_Span_5 : IC2 RW := .seq i_slices_IndexFunc_Span_3 i_slices_IndexFunc_Span_4
def g_slices_IndexFunc_Span_0 : List (IStep2 RW) := [o1 4 (.mv false (.k (.sc (.int .i64 0))))]
def i_slices_IndexFunc_Span_6 : IC2 RW := .seq (.fin (.reg g_slices_IndexFunc_Span_0) [4] []) i_slices_IndexFunc_Span_5
def fn_slices_IndexFunc_Span : IFn2 RW := ⟨23, 2, 19, 32, [(19, 1)], [(19, 1)], [], [.slot 4], i_slices_IndexFunc_Span_6⟩
def g_span_Find_0 : List (IStep2 RW) := [o1 3 (.box 21 1 false (.s 1)),
  o1 4 (.alloc 23 [.sc (.int .i64 0), .sc (.int .i64 0)]),
  o1 5 (.mv false (.k (.sc (.bool false))))]
def g_span_Find_1 : List (IStep2 RW) := [o1 7 (.mv false (.s 0)),
  o1 8 (.call 11 [(false, .s 7)] [] []),
  o1 9 (.bin .neq (.s 8) (.k (.sc (.int .i64 0))))]
def g_span_Find_2 : List (IStep2 RW) := [o1 10 (.build [.sc (.int .i64 0), .sc (.int .i64 0)] []),
  o0 (.store 23 0 2 false 4 (.s 10)),
  o1 5 (.mv false (.k (.sc (.bool false))))]
def g_span_Find_3 : List (IStep2 RW) := [o1 11 (.mv false (.s 0)),
  o1 12 (.mkclo 24 [.s 3]),
  o1 13 (.call 1018 [(false, .s 11), (false, .s 12)] [(21, 1, 19)] []),
  o1 6 (.mv false (.s 13))]
def g_span_Find_4 : List (IStep2 RW) := [o1 14 (.mv false (.s 6)),
  o1 15 (.bin .lss (.s 14) (.k (.sc (.int .i64 0))))]
def g_span_Find_5 : List (IStep2 RW) := [o1 16 (.build [.sc (.int .i64 0), .sc (.int .i64 0)] []),
  o0 (.store 23 0 2 false 4 (.s 16)),
  o1 5 (.mv false (.k (.sc (.bool false))))]
def g_span_Find_6 : List (IStep2 RW) := [o1 17 (.mv false (.s 0)),
  o1 18 (.mv false (.s 6)),
  o1 19 (.idx 2 (.s 17) (.s 18)),
  o1 20 (.loade 2 true 19),
  o0 (.store 23 0 2 false 4 (.s 20)),
  o1 5 (.mv false (.k (.sc (.bool true))))]
def i_span_Find_0 : IC2 RW := .seq (.fin (.reg g_span_Find_0) [1, 5] []) (.seq (.seq (.fin (.reg g_span_Find_1) [7, 8] []) (.fin (.cond (.s 9) (.seq (.fin (.reg g_span_Find_2) [0, 3, 9, 10] [(21, 1)]) (.ret)) (.skip)) [9] [])) (.seq (.fin (.reg g_span_Find_3) [3, 11, 12, 13] [(21, 1)]) (.seq (.seq (.fin (.reg g_span_Find_4) [14] []) (.fin (.cond (.s 15) (.seq (.fin (.reg g_span_Find_5) [0, 6, 15, 16] []) (.ret)) (.skip)) [15] [])) (.seq (.fin (.reg g_span_Find_6) [0, 6, 17, 18, 19, 20] []) (.ret)))))
def fn_span_Find : IFn2 RW := ⟨21, 2, 21, 32, [(21, 1), (23, 2)], [], [], [.cell 4 23 2 true, .slot 5], i_span_Find_0⟩
def g_span_Has_0 : List (IStep2 RW) := [o1 4 (.mv false (.k (.sc (.bool false))))]
def g_span_Has_1 : List (IStep2 RW) := [o1 8 (.mv false (.s 0)),
  o1 9 (.mv false (.s 1)),
  o1 10 (.call 21 [(false, .s 8), (false, .s 9)] [] []),
  o1 7 (.mv false (.s 10)),
  o1 11 (.ext false 0 (.s 7)),
  o1 12 (.ext false 1 (.s 7)),
  o1 5 (.alloc 14 [.sc (.int .i64 0), .sc (.int .i64 0)]),
  o0 (.store 14 0 2 false 5 (.s 11)),
  o1 6 (.mv false (.s 12))]
def g_span_Has_2 : List (IStep2 RW) := [o1 13 (.mv false (.s 6)),
  o1 4 (.mv false (.s 13))]
def i_span_Has_0 : IC2 RW := .seq (.fin (.reg g_span_Has_0) [4] []) (.seq (.fin (.reg g_span_Has_1) [0, 1, 5, 7, 8, 9, 10, 11, 12] [(14, 2)]) (.seq (.fin (.reg g_span_Has_2) [6, 13] []) (.ret)))
def fn_span_Has : IFn2 RW := ⟨17, 2, 14, 32, [(14, 2)], [], [], [.slot 4], i_span_Has_0⟩
def g_law06_heads_5 : List (IStep2 RW) := [o1 26 (.mv false (.s 3)),
  o1 27 (.bin .eql (.s 26) (.k (.sc (.int .i64 0)))),
  o2 28 (.mv false (.s 27)),
  o3 29 28 true (.mv false (.s 2)),
  o3 30 28 true (.build [.sc (.int .i64 0), .sc (.int .i64 0)] [(0, 1, .k (.sc (.int .i64 0))), (1, 1, .k (.sc (.int .i64 4)))]),
  o3 31 28 true (.build [.sc (.int .i64 0), .sc (.int .i64 0)] [(0, 1, .k (.sc (.int .i64 6))), (1, 1, .k (.sc (.int .i64 7)))]),
  o3 32 28 true (.bslice 24 2 [(0, 2, .s 30), (2, 2, .s 31)]),
  o3 33 28 true (.call 7 [(false, .s 29), (false, .s 32)] [] []),
  o1 34 (.pick (.s 28) (.s 33) (.k (.sc (.bool false)))),
  o2 35 (.mv false (.s 34)),
  o3 36 35 true (.mv false (.s 4)),
  o3 37 35 true (.build [.sc (.int .i64 0), .sc (.int .i64 0)] [(0, 1, .k (.sc (.int .i64 4))), (1, 1, .k (.sc (.int .i64 6)))]),
  o3 38 35 true (.bslice 24 1 [(0, 2, .s 37)]),
  o3 39 35 true (.call 7 [(false, .s 36), (false, .s 38)] [] []),
  o1 40 (.pick (.s 35) (.s 39) (.k (.sc (.bool false)))),
  o2 41 (.mv false (.s 40)),
  o3 42 41 true (.mv false (.s 6)),
  o3 43 41 true (.bin .eql (.s 42) (.k (.sc (.int .i64 60)))),
  o1 44 (.pick (.s 41) (.s 43) (.k (.sc (.bool false)))),
  o2 45 (.mv false (.s 44)),
  o3 46 45 true (.mv false (.s 2)),
  o3 47 45 true (.call 16 [(false, .s 46)] [] []),
  o3 48 45 true (.bin .eql (.s 47) (.k (.sc (.int .i64 5)))),
  o1 49 (.pick (.s 45) (.s 48) (.k (.sc (.bool false)))),
  o2 50 (.mv false (.s 49)),
  o3 51 50 true (.mv false (.s 2)),
  o3 52 50 true (.call 17 [(false, .s 51), (false, .k (.sc (.int .i64 3)))] [] []),
  o1 53 (.pick (.s 50) (.s 52) (.k (.sc (.bool false)))),
  o2 54 (.mv false (.s 53)),
  o3 55 54 true (.mv false (.s 2)),
  o3 56 54 true (.call 17 [(false, .s 55), (false, .k (.sc (.int .i64 4)))] [] []),
  o3 57 54 true (.un .not (.s 56)),
  o1 58 (.pick (.s 54) (.s 57) (.k (.sc (.bool false)))),
  o1 0 (.mv false (.s 58))]
def i_law06_heads_0 : IC2 RW := .fin (.reg g_law06_heads_5) [2, 3, 4, 6, 26, 27, 28, 29, 30, 31, 32, 33, 34, 35, 36, 37, 38, 39, 40, 41, 42, 43, 44, 45, 46, 47, 48, 49, 50, 51, 52, 53, 54, 55, 56, 57, 58] []
def i_law06_heads_1 : IC2 RW := .ret
def i_law06_heads_2 : IC2 RW := .seq i_law06_heads_0 i_law06_heads_1
def g_law06_heads_0 : List (IStep2 RW) := [o1 0 (.mv false (.k (.sc (.bool false))))]
def g_law06_heads_1 : List (IStep2 RW) := [o1 7 (.build [.sc (.int .i64 0), .sc (.int .i64 0)] [(0, 1, .k (.sc (.int .i64 0))), (1, 1, .k (.sc (.int .i64 2)))]),
  o1 8 (.build [.sc (.int .i64 0), .sc (.int .i64 0)] [(0, 1, .k (.sc (.int .i64 6))), (1, 1, .k (.sc (.int .i64 7)))]),
  o1 9 (.bslice 24 2 [(0, 2, .s 7), (2, 2, .s 8)]),
  o1 1 (.mv false (.s 9))]
def g_law06_heads_2 : List (IStep2 RW) := [o1 11 (.mv false (.s 1)),
  o1 12 (.build [.sc (.int .i64 0), .sc (.int .i64 0)] [(0, 1, .k (.sc (.int .i64 2))), (1, 1, .k (.sc (.int .i64 4)))]),
  o1 13 (.call 5 [(false, .s 11), (false, .s 12)] [] []),
  o1 10 (.mv false (.s 13)),
  o1 14 (.ext false 0 (.s 10)),
  o1 15 (.ext false 1 (.s 10)),
  o1 2 (.mv false (.s 14)),
  o1 3 (.mv false (.s 15))]
def g_law06_heads_3 : List (IStep2 RW) := [o1 16 (.mv false (.s 2)),
  o1 17 (.build [.sc (.int .i64 0), .sc (.int .i64 0)] [(0, 1, .k (.sc (.int .i64 1))), (1, 1, .k (.sc (.int .i64 7)))]),
  o1 18 (.call 15 [(false, .s 16), (false, .s 17)] [] []),
  o1 4 (.mv false (.s 18))]
def g_law06_heads_4 : List (IStep2 RW) := [o1 20 (.build [.sc (.int .i64 0), .sc (.int .i64 0)] [(0, 1, .k (.sc (.int .i64 1))), (1, 1, .k (.sc (.int .i64 1)))]),
  o1 21 (.bslice 24 1 [(0, 2, .s 20)]),
  o1 22 (.build [.sc (.int .i64 0), .sc (.int .i64 0)] []),
  o1 23 (.call 5 [(false, .s 21), (false, .s 22)] [] []),
  o1 19 (.mv false (.s 23)),
  o1 24 (.ext false 0 (.s 19)),
  o1 25 (.ext false 1 (.s 19)),
  o1 5 (.mv false (.s 24)),
  o1 6 (.mv false (.s 25))]
def i_law06_heads_3 : IC2 RW := .seq (.fin (.reg g_law06_heads_0) [0] []) (.seq (.fin (.reg g_law06_heads_1) [7, 8, 9] []) (.seq (.fin (.reg g_law06_heads_2) [1, 10, 11, 12, 13, 14, 15] []) (.seq (.fin (.reg g_law06_heads_3) [16, 17, 18] []) (.seq (.fin (.reg g_law06_heads_4) [5, 19, 20, 21, 22, 23, 24, 25] []) i_law06_heads_2))))
def fn_law06_heads : IFn2 RW := ⟨6, 0, 59, 64, [], [], [], [.slot 0], i_law06_heads_3⟩
def g_law06_SpanChanges_6 : List (IStep2 RW) := [o1 41 (.mv false (.s 6)),
  o1 42 (.mv false (.s 8)),
  o1 43 (.call 7 [(false, .s 41), (false, .s 42)] [] []),
  o2 44 (.mv false (.s 43)),
  o3 45 44 true (.mv false (.s 7)),
  o3 46 44 true (.mv false (.s 9)),
  o3 47 44 true (.bin .eql (.s 45) (.s 46)),
  o1 48 (.pick (.s 44) (.s 47) (.k (.sc (.bool false)))),
  o2 49 (.mv false (.s 48)),
  o3 50 49 true (.mv false (.s 10)),
  o3 51 49 true (.mv false (.s 12)),
  o3 52 49 true (.call 7 [(false, .s 50), (false, .s 51)] [] []),
  o1 53 (.pick (.s 49) (.s 52) (.k (.sc (.bool false)))),
  o2 54 (.mv false (.s 53)),
  o3 55 54 true (.mv false (.s 11)),
  o3 56 54 true (.mv false (.s 13)),
  o3 57 54 true (.bin .eql (.s 55) (.s 56)),
  o1 58 (.pick (.s 54) (.s 57) (.k (.sc (.bool false)))),
  o2 59 (.mv false (.s 58)),
  o3 60 59 true (.mv false (.s 0)),
  o3 61 59 true (.call 11 [(false, .s 60)] [] []),
  o3 62 59 true (.mv false (.s 0)),
  o3 63 59 true (.call 12 [(false, .s 62)] [] []),
  o3 64 59 true (.bin .eql (.s 61) (.s 63)),
  o1 65 (.pick (.s 59) (.s 64) (.k (.sc (.bool false)))),
  o2 66 (.mv false (.s 65)),
  o3 67 66 true (.mv false (.s 5)),
  o3 68 66 true (.mv false (.s 0)),
  o3 69 66 true (.call 7 [(false, .s 67), (false, .s 68)] [] []),
  o1 70 (.pick (.s 66) (.s 69) (.k (.sc (.bool false)))),
  o2 71 (.mv false (.s 70)),
  o3 72 71 true (.call 6 [] [] []),
  o1 73 (.pick (.s 71) (.s 72) (.k (.sc (.bool false)))),
  o1 4 (.mv false (.s 73))]
def i_law06_SpanChanges_0 : IC2 RW := .fin (.reg g_law06_SpanChanges_6) [0, 5, 6, 7, 8, 9, 10, 11, 12, 13, 41, 42, 43, 44, 45, 46, 47, 48, 49, 50, 51, 52, 53, 54, 55, 56, 57, 58, 59, 60, 61, 62, 63, 64, 65, 66, 67, 68, 69, 70, 71, 72, 73] []
def i_law06_SpanChanges_1 : IC2 RW := .ret
def i_law06_SpanChanges_2 : IC2 RW := .seq i_law06_SpanChanges_0 i_law06_SpanChanges_1
def g_law06_SpanChanges_0 : List (IStep2 RW) := [o1 3 (.box 74 2 false (.s 1)),
  o1 4 (.mv false (.k (.sc (.bool false))))]
def g_law06_SpanChanges_1 : List (IStep2 RW) := [o1 14 (.bslice 24 0 []),
  o1 15 (.mv false (.s 0)),
  o1 16 (.app 2 16 true (.s 14) (.s 15)),
  o1 5 (.mv false (.s 16))]
def g_law06_SpanChanges_2 : List (IStep2 RW) := [o1 18 (.mv false (.s 5)),
  o1 19 (.load 74 0 2 true false 3),
  o1 20 (.call 5 [(false, .s 18), (false, .s 19)] [] []),
  o1 17 (.mv false (.s 20)),
  o1 21 (.ext false 0 (.s 17)),
  o1 22 (.ext false 1 (.s 17)),
  o1 6 (.mv false (.s 21)),
  o1 7 (.mv false (.s 22))]
def g_law06_SpanChanges_3 : List (IStep2 RW) := [o1 24 (.mv false (.s 0)),
  o1 25 (.load 74 0 2 true false 3),
  o1 26 (.call 8 [(false, .s 24), (false, .s 25)] [] []),
  o1 23 (.mv false (.s 26)),
  o1 27 (.ext false 0 (.s 23)),
  o1 28 (.ext false 1 (.s 23)),
  o1 8 (.mv false (.s 27)),
  o1 9 (.mv false (.s 28))]
def g_law06_SpanChanges_4 : List (IStep2 RW) := [o1 30 (.mv false (.s 5)),
  o1 31 (.load 74 0 2 true false 3),
  o1 32 (.call 9 [(false, .s 30), (false, .s 31)] [] []),
  o1 29 (.mv false (.s 32)),
  o1 33 (.ext false 0 (.s 29)),
  o1 34 (.ext false 1 (.s 29)),
  o1 10 (.mv false (.s 33)),
  o1 11 (.mv false (.s 34))]
def g_law06_SpanChanges_5 : List (IStep2 RW) := [o1 36 (.mv false (.s 0)),
  o1 37 (.load 74 0 2 true false 3),
  o1 38 (.call 10 [(false, .s 36), (false, .s 37)] [] []),
  o1 35 (.mv false (.s 38)),
  o1 39 (.ext false 0 (.s 35)),
  o1 40 (.ext false 1 (.s 35)),
  o1 12 (.mv false (.s 39)),
  o1 13 (.mv false (.s 40))]
def i_law06_SpanChanges_3 : IC2 RW := .seq (.fin (.reg g_law06_SpanChanges_0) [1, 4] []) (.seq (.fin (.reg g_law06_SpanChanges_1) [14, 15, 16] []) (.seq (.fin (.reg g_law06_SpanChanges_2) [17, 18, 19, 20, 21, 22] []) (.seq (.fin (.reg g_law06_SpanChanges_3) [23, 24, 25, 26, 27, 28] []) (.seq (.fin (.reg g_law06_SpanChanges_4) [29, 30, 31, 32, 33, 34] []) (.seq (.fin (.reg g_law06_SpanChanges_5) [3, 35, 36, 37, 38, 39, 40] [(74, 2)]) i_law06_SpanChanges_2)))))
def fn_law06_SpanChanges : IFn2 RW := ⟨4, 2, 74, 80, [(74, 2)], [], [], [.slot 4], i_law06_SpanChanges_3⟩
/-! tideway/span.may -/
theorem run_span_may {R : Type} (cp : Nat → Nat → Bool) (n : Nat) (p0 : SSpan) (k : Ret2 RW → Option R) : G_span_may cp (n + 1) p0 (fun r0 => k ⟨(tB r0), [], []⟩) = run2 U cp (callP cp n) n fn_span_may [.agg (eSpan p0)] [] k := by kernel_rfl
/-! tideway/span.Check -/
def fr_span_Check_2 (p0 : (List SSpan)) : FF := [(.row false (.rSpan p0)) :: (dT 15 []), dc, dc]
def fr_span_Check_4 (p0 : (List SSpan)) (v1 : Int) : FF := [(.row false (.rSpan p0)) :: (dT 4 ((.row false (.rSpan p0)) :: (tL v1) :: (tL 0) :: (dT 8 []))), dc, dc]
def fr_span_Check_6 (p0 : (List SSpan)) (v1 v4 : Int) : FF := [(.row false (.rSpan p0)) :: (dT 4 ((.row false (.rSpan p0)) :: (tL v1) :: (tL v4) :: (dT 8 []))), dc, dc]
def fr_span_Check_7 : FF := [dT 2 ((tL 60) :: (dT 13 [])), dc, dc]
def fr_span_Check_8 : FF := [dc, dc, dc]
def fr_span_Check_9 (p0 : (List SSpan)) (v1 v2 : Int) : FF := [(.row false (.rSpan p0)) :: (dT 4 ((.row false (.rSpan p0)) :: (tL v1) :: (tL v2) :: (dT 8 []))), dc, dc]
theorem s_span_Check_5_t {R : Type} (cp : Nat → Nat → Bool) (n : Nat) (p0 : (List SSpan)) (v1 v2 : Int) (k : Ex → FF → Option R) : X cp n i_span_Check_0 (fr_span_Check_9 p0 v1 v2) k = s_span_Check_5 cp n p0 v1 v2 (fun v4 => k .norm (fr_span_Check_6 p0 v1 v4)) (k .ret fr_span_Check_7) (k (.exit 0) fr_span_Check_8) := by kernel_rfl
theorem l_span_Check_10_t {R : Type} (cp : Nat → Nat → Bool) (n : Nat) : ∀ (m : Nat) (p0 : (List SSpan)) (v1 v2 : Int) (k : Ex → FF → Option R), loopN2 (X cp n i_span_Check_0) m (fr_span_Check_9 p0 v1 v2) k = l_span_Check_10 cp n m p0 v1 v2 (k .ret fr_span_Check_7) (k (.exit 0) fr_span_Check_8)
  | 0, _, _, _, _ => rfl
  | m + 1, p0, v1, v2, k => (loopN2_succ (X cp n i_span_Check_0) m (fr_span_Check_9 p0 v1 v2) k).trans ((s_span_Check_5_t cp n p0 v1 v2 (loopT (X cp n i_span_Check_0) m k)).trans ((show s_span_Check_5 cp n p0 v1 v2 (fun v4 => loopT (X cp n i_span_Check_0) m k .norm (fr_span_Check_6 p0 v1 v4)) (loopT (X cp n i_span_Check_0) m k .ret fr_span_Check_7) (loopT (X cp n i_span_Check_0) m k (.exit 0) fr_span_Check_8) = s_span_Check_5 cp n p0 v1 v2 (fun v4 => loopN2 (X cp n i_span_Check_0) m (fr_span_Check_9 p0 v1 v4) k) (k .ret fr_span_Check_7) (k (.exit 0) fr_span_Check_8) from by kernel_rfl).trans (congrArg (fun q => s_span_Check_5 cp n p0 v1 v2 q (k .ret fr_span_Check_7) (k (.exit 0) fr_span_Check_8)) (funext fun v4 => l_span_Check_10_t cp n m p0 v1 v4 k))))
theorem s_span_Check_11_t {R : Type} (cp : Nat → Nat → Bool) (n : Nat) (p0 : (List SSpan)) (v1 : Int) (k : Ex → FF → Option R) : X cp n i_span_Check_1 (fr_span_Check_4 p0 v1) k = s_span_Check_11 cp n p0 v1 (k .ret fr_span_Check_7) (k (.exit 0) fr_span_Check_8) := (show X cp n i_span_Check_1 (fr_span_Check_4 p0 v1) k = loopN2 (X cp n i_span_Check_0) n (fr_span_Check_9 p0 v1 0) k from by kernel_rfl).trans (l_span_Check_10_t cp n n p0 v1 0 k)
theorem s_span_Check_12_t {R : Type} (cp : Nat → Nat → Bool) (n : Nat) (p0 : (List SSpan)) (v1 : Int) (k : Ex → FF → Option R) : X cp n i_span_Check_2 (fr_span_Check_4 p0 v1) k = s_span_Check_12 cp n p0 v1 (k .norm fr_span_Check_8) (k .ret fr_span_Check_7) := (show X cp n i_span_Check_2 (fr_span_Check_4 p0 v1) k = X cp n i_span_Check_1 (fr_span_Check_4 p0 v1) (blkT 0 k) from by kernel_rfl).trans ((s_span_Check_11_t cp n p0 v1 (blkT 0 k)).trans (by kernel_rfl))
theorem s_span_Check_13_t {R : Type} (cp : Nat → Nat → Bool) (n : Nat) (p0 : (List SSpan)) (k : Ex → FF → Option R) : X cp n i_span_Check_3 (fr_span_Check_2 p0) k = s_span_Check_13 cp n p0 (k .norm fr_span_Check_8) (k .ret fr_span_Check_7) := ((fun c => (show X cp n (.seq (.reg g_span_Check_1) c) (fr_span_Check_2 p0) k = s_span_Check_3 cp n p0 (fun v1 => X cp n c (fr_span_Check_4 p0 v1) k) from by kernel_rfl)) i_span_Check_2).trans (congrArg (fun q => s_span_Check_3 cp n p0 q) (funext fun v1 => s_span_Check_12_t cp n p0 v1 k))
def fr_span_Check_15 : FF := [dT 2 ((tL 0) :: (dT 13 [])), dc, dc]
theorem s_span_Check_14_t {R : Type} (cp : Nat → Nat → Bool) (n : Nat) (k : Ex → FF → Option R) : X cp n i_span_Check_4 fr_span_Check_8 k = s_span_Check_14 cp n (k .ret fr_span_Check_15) := by kernel_rfl
def fr_span_Check_16 (v5 : Int) : FF := [dT 2 ((tL v5) :: (dT 13 [])), dc, dc]
theorem s_span_Check_17_t {R : Type} (cp : Nat → Nat → Bool) (n : Nat) (p0 : (List SSpan)) (k : Ex → FF → Option R) : X cp n i_span_Check_5 (fr_span_Check_2 p0) k = s_span_Check_17 cp n p0 (fun v5 => k .ret (fr_span_Check_16 v5)) := (show X cp n i_span_Check_5 (fr_span_Check_2 p0) k = X cp n i_span_Check_3 (fr_span_Check_2 p0) (seqT (X cp n) i_span_Check_4 k) from by kernel_rfl).trans ((show X cp n i_span_Check_3 (fr_span_Check_2 p0) (seqT (X cp n) i_span_Check_4 k) = s_span_Check_13 cp n p0 (X cp n i_span_Check_4 fr_span_Check_8 k) (k .ret (fr_span_Check_16 60)) from (s_span_Check_13_t cp n p0 (seqT (X cp n) i_span_Check_4 k)).trans (by kernel_rfl)).trans (congrArg (fun q => s_span_Check_13 cp n p0 q (k .ret (fr_span_Check_16 60))) ((s_span_Check_14_t cp n  k).trans (show s_span_Check_14 cp n (k .ret fr_span_Check_15) = s_span_Check_14 cp n (k .ret (fr_span_Check_16 0)) from by kernel_rfl))))
def fr_span_Check_18 (v6 : Int) : FF := [dT 2 ((tL v6) :: (dT 13 [])), dc, dc]
theorem s_span_Check_19_t {R : Type} (cp : Nat → Nat → Bool) (n : Nat) (p0 : (List SSpan)) (k : Ex → FF → Option R) : X cp n i_span_Check_6 (fr_span_Check_2 p0) k = s_span_Check_19 cp n p0 (fun v6 => k .ret (fr_span_Check_18 v6)) := ((fun c => (show X cp n (.seq (.fin (.reg g_span_Check_0) [2] []) c) (fr_span_Check_2 p0) k = s_span_Check_1 cp n p0 (X cp n c (fr_span_Check_2 p0) k) from by kernel_rfl)) i_span_Check_5).trans (congrArg (fun q => s_span_Check_1 cp n p0 q) ((s_span_Check_17_t cp n p0 k).trans (show s_span_Check_17 cp n p0 (fun v5 => k .ret (fr_span_Check_16 v5)) = s_span_Check_17 cp n p0 (fun v5 => k .ret (fr_span_Check_18 v5)) from by kernel_rfl)))
theorem run_span_Check {R : Type} (cp : Nat → Nat → Bool) (n : Nat) (p0 : (List SSpan)) (k : Ret2 RW → Option R) : G_span_Check cp (n + 1) p0 (fun r0 => k ⟨(tL r0), [], []⟩) = run2 U cp (callP cp n) n fn_span_Check [.row false (.rSpan p0)] [] k := ((X_run (f := fn_span_Check) (av := [.row false (.rSpan p0)]) (cells := []) (code := i_span_Check_6) (fr := (fr_span_Check_2 p0)) (k := k) (by kernel_rfl) (fun K => by kernel_rfl)).trans ((s_span_Check_19_t cp n p0 (finK2 fn_span_Check k)).trans (by kernel_rfl))).symm
/-! tideway/span.right -/
theorem run_span_right {R : Type} (cp : Nat → Nat → Bool) (n : Nat) (p0 : (List SSpan)) (p1 : SSpan) (k : Ret2 RW → Option R) : G_span_right cp (n + 1) p0 p1 (fun r0 => k ⟨(tL r0), [], []⟩) = run2 U cp (callP cp n) n fn_span_right [.row false (.rSpan p0), .agg (eSpan p1)] [] k := by kernel_rfl
/-! tideway/span.Add -/
def fr_span_Add_2 (p0 : (List SSpan)) (p1 : SSpan) : FF := [(.row false (.rSpan p0)) :: (dT 2 ((.ptr 87 0) :: (dT 3 ((.row true (.rSpan [])) :: (tL 0) :: (dT 7 []))))), dc, dc, dc, dc, dT 7 ((.hdr 2) :: ((eSpan p1) ++ (dT 6 [])))]
def fr_span_Add_3 (v16 : (List SSpan)) (v17 : Int) : FF := [dT 4 ((.row false (.rSpan v16)) :: (tL v17) :: (dT 10 [])), dc, dc, dc, dc, dc]
def fr_span_Add_5 (p0 : (List SSpan)) (p1 : SSpan) (v20 : (List SSpan)) (v21 : Int) : FF := [(.row false (.rSpan p0)) :: (dT 2 ((.ptr 87 0) :: (dT 3 ((.row true (.rSpan v20)) :: (tL v21) :: (dT 7 []))))), dc, dc, dc, dc, dT 7 ((.hdr 2) :: ((eSpan p1) ++ (dT 6 [])))]
def fr_span_Add_6 (p0 : (List SSpan)) (p1 : SSpan) (v18 : (List SSpan)) (v19 : Int) : FF := [(.row false (.rSpan p0)) :: (dT 2 ((.ptr 87 0) :: (dT 3 ((.row true (.rSpan v18)) :: (tL v19) :: (dT 7 []))))), dc, dc, dc, dc, dT 7 ((.hdr 2) :: ((eSpan p1) ++ (dT 6 [])))]
theorem s_span_Add_4_t {R : Type} (cp : Nat → Nat → Bool) (n : Nat) (p0 : (List SSpan)) (p1 : SSpan) (v18 : (List SSpan)) (v19 : Int) (k : Ex → FF → Option R) : X cp n i_span_Add_0 (fr_span_Add_6 p0 p1 v18 v19) k = s_span_Add_4 cp n p0 p1 v18 v19 (fun v20 v21 => k .norm (fr_span_Add_5 p0 p1 v20 v21)) (k (.exit 0) (fr_span_Add_6 p0 p1 v18 v19)) := by kernel_rfl
def fr_span_Add_7 (p0 : (List SSpan)) (p1 : SSpan) (v22 : (List SSpan)) (v23 : Int) : FF := [(.row false (.rSpan p0)) :: (dT 2 ((.ptr 87 0) :: (dT 3 ((.row true (.rSpan v22)) :: (tL v23) :: (dT 7 []))))), dc, dc, dc, dc, dT 7 ((.hdr 2) :: ((eSpan p1) ++ (dT 6 [])))]
theorem l_span_Add_8_t {R : Type} (cp : Nat → Nat → Bool) (n : Nat) : ∀ (m : Nat) (p0 : (List SSpan)) (p1 : SSpan) (v18 : (List SSpan)) (v19 : Int) (k : Ex → FF → Option R), loopN2 (X cp n i_span_Add_0) m (fr_span_Add_6 p0 p1 v18 v19) k = l_span_Add_8 cp n m p0 p1 v18 v19 (fun v22 v23 => k (.exit 0) (fr_span_Add_7 p0 p1 v22 v23))
  | 0, _, _, _, _, _ => rfl
  | m + 1, p0, p1, v18, v19, k => (loopN2_succ (X cp n i_span_Add_0) m (fr_span_Add_6 p0 p1 v18 v19) k).trans ((s_span_Add_4_t cp n p0 p1 v18 v19 (loopT (X cp n i_span_Add_0) m k)).trans ((show s_span_Add_4 cp n p0 p1 v18 v19 (fun v20 v21 => loopT (X cp n i_span_Add_0) m k .norm (fr_span_Add_5 p0 p1 v20 v21)) (loopT (X cp n i_span_Add_0) m k (.exit 0) (fr_span_Add_6 p0 p1 v18 v19)) = s_span_Add_4 cp n p0 p1 v18 v19 (fun v20 v21 => loopN2 (X cp n i_span_Add_0) m (fr_span_Add_6 p0 p1 v20 v21) k) (k (.exit 0) (fr_span_Add_7 p0 p1 v18 v19)) from by kernel_rfl).trans (congrArg (fun q => s_span_Add_4 cp n p0 p1 v18 v19 q (k (.exit 0) (fr_span_Add_7 p0 p1 v18 v19))) (funext fun v20 => funext fun v21 => l_span_Add_8_t cp n m p0 p1 v20 v21 k))))
theorem s_span_Add_9_t {R : Type} (cp : Nat → Nat → Bool) (n : Nat) (p0 : (List SSpan)) (p1 : SSpan) (k : Ex → FF → Option R) : X cp n i_span_Add_1 (fr_span_Add_2 p0 p1) k = s_span_Add_9 cp n p0 p1 (fun v22 v23 => k (.exit 0) (fr_span_Add_7 p0 p1 v22 v23)) := (show X cp n i_span_Add_1 (fr_span_Add_2 p0 p1) k = loopN2 (X cp n i_span_Add_0) n (fr_span_Add_6 p0 p1 [] 0) k from by kernel_rfl).trans (l_span_Add_8_t cp n n p0 p1 [] 0 k)
def fr_span_Add_10 (p0 : (List SSpan)) (p1 : SSpan) (v24 : (List SSpan)) (v25 : Int) : FF := [(.row false (.rSpan p0)) :: (dT 2 ((.ptr 87 0) :: (dT 3 ((.row true (.rSpan v24)) :: (tL v25) :: (dT 7 []))))), dc, dc, dc, dc, dT 7 ((.hdr 2) :: ((eSpan p1) ++ (dT 6 [])))]
theorem s_span_Add_11_t {R : Type} (cp : Nat → Nat → Bool) (n : Nat) (p0 : (List SSpan)) (p1 : SSpan) (k : Ex → FF → Option R) : X cp n i_span_Add_2 (fr_span_Add_2 p0 p1) k = s_span_Add_11 cp n p0 p1 (fun v24 v25 => k .norm (fr_span_Add_10 p0 p1 v24 v25)) := (show X cp n i_span_Add_2 (fr_span_Add_2 p0 p1) k = X cp n i_span_Add_1 (fr_span_Add_2 p0 p1) (blkT 0 k) from by kernel_rfl).trans ((s_span_Add_9_t cp n p0 p1 (blkT 0 k)).trans (by kernel_rfl))
def fr_span_Add_13 (p0 v24 : (List SSpan)) (v29 v30 v31 : Int) : FF := [(.row false (.rSpan p0)) :: (dT 2 ((.ptr 87 0) :: (dT 3 ((.row true (.rSpan v24)) :: (tL v29) :: (dT 7 []))))), dc, dc, dc, dc, dT 7 ((.hdr 2) :: (tL v30) :: (tL v31) :: (dT 6 []))]
def fr_span_Add_14 (p0 v24 : (List SSpan)) (v26 v27 v28 : Int) : FF := [(.row false (.rSpan p0)) :: (dT 2 ((.ptr 87 0) :: (dT 3 ((.row true (.rSpan v24)) :: (tL v26) :: (dT 7 []))))), dc, dc, dc, dc, dT 7 ((.hdr 2) :: (tL v27) :: (tL v28) :: (dT 6 []))]
theorem s_span_Add_12_t {R : Type} (cp : Nat → Nat → Bool) (n : Nat) (p0 v24 : (List SSpan)) (v26 v27 v28 : Int) (k : Ex → FF → Option R) : X cp n i_span_Add_3 (fr_span_Add_14 p0 v24 v26 v27 v28) k = s_span_Add_12 cp n p0 v24 v26 v27 v28 (fun v29 v30 v31 => k .norm (fr_span_Add_13 p0 v24 v29 v30 v31)) (k (.exit 2) (fr_span_Add_14 p0 v24 v26 v27 v28)) := by kernel_rfl
def fr_span_Add_15 (p0 v24 : (List SSpan)) (v32 v33 v34 : Int) : FF := [(.row false (.rSpan p0)) :: (dT 2 ((.ptr 87 0) :: (dT 3 ((.row true (.rSpan v24)) :: (tL v32) :: (dT 7 []))))), dc, dc, dc, dc, dT 7 ((.hdr 2) :: (tL v33) :: (tL v34) :: (dT 6 []))]
theorem l_span_Add_16_t {R : Type} (cp : Nat → Nat → Bool) (n : Nat) : ∀ (m : Nat) (p0 v24 : (List SSpan)) (v26 v27 v28 : Int) (k : Ex → FF → Option R), loopN2 (X cp n i_span_Add_3) m (fr_span_Add_14 p0 v24 v26 v27 v28) k = l_span_Add_16 cp n m p0 v24 v26 v27 v28 (fun v32 v33 v34 => k (.exit 2) (fr_span_Add_15 p0 v24 v32 v33 v34))
  | 0, _, _, _, _, _, _ => rfl
  | m + 1, p0, v24, v26, v27, v28, k => (loopN2_succ (X cp n i_span_Add_3) m (fr_span_Add_14 p0 v24 v26 v27 v28) k).trans ((s_span_Add_12_t cp n p0 v24 v26 v27 v28 (loopT (X cp n i_span_Add_3) m k)).trans ((show s_span_Add_12 cp n p0 v24 v26 v27 v28 (fun v29 v30 v31 => loopT (X cp n i_span_Add_3) m k .norm (fr_span_Add_13 p0 v24 v29 v30 v31)) (loopT (X cp n i_span_Add_3) m k (.exit 2) (fr_span_Add_14 p0 v24 v26 v27 v28)) = s_span_Add_12 cp n p0 v24 v26 v27 v28 (fun v29 v30 v31 => loopN2 (X cp n i_span_Add_3) m (fr_span_Add_14 p0 v24 v29 v30 v31) k) (k (.exit 2) (fr_span_Add_15 p0 v24 v26 v27 v28)) from by kernel_rfl).trans (congrArg (fun q => s_span_Add_12 cp n p0 v24 v26 v27 v28 q (k (.exit 2) (fr_span_Add_15 p0 v24 v26 v27 v28))) (funext fun v29 => funext fun v30 => funext fun v31 => l_span_Add_16_t cp n m p0 v24 v29 v30 v31 k))))
theorem s_span_Add_17_t {R : Type} (cp : Nat → Nat → Bool) (n : Nat) (p0 : (List SSpan)) (p1 : SSpan) (v24 : (List SSpan)) (v25 : Int) (k : Ex → FF → Option R) : X cp n i_span_Add_4 (fr_span_Add_10 p0 p1 v24 v25) k = s_span_Add_17 cp n p0 p1 v24 v25 (fun v32 v33 v34 => k (.exit 2) (fr_span_Add_15 p0 v24 v32 v33 v34)) := (show X cp n i_span_Add_4 (fr_span_Add_10 p0 p1 v24 v25) k = loopN2 (X cp n i_span_Add_3) n (fr_span_Add_14 p0 v24 v25 p1.xFrom p1.xTo) k from by kernel_rfl).trans (l_span_Add_16_t cp n n p0 v24 v25 p1.xFrom p1.xTo k)
def fr_span_Add_18 (p0 v24 : (List SSpan)) (v35 v36 v37 : Int) : FF := [(.row false (.rSpan p0)) :: (dT 2 ((.ptr 87 0) :: (dT 3 ((.row true (.rSpan v24)) :: (tL v35) :: (dT 7 []))))), dc, dc, dc, dc, dT 7 ((.hdr 2) :: (tL v36) :: (tL v37) :: (dT 6 []))]
theorem s_span_Add_19_t {R : Type} (cp : Nat → Nat → Bool) (n : Nat) (p0 : (List SSpan)) (p1 : SSpan) (v24 : (List SSpan)) (v25 : Int) (k : Ex → FF → Option R) : X cp n i_span_Add_5 (fr_span_Add_10 p0 p1 v24 v25) k = s_span_Add_19 cp n p0 p1 v24 v25 (fun v35 v36 v37 => k .norm (fr_span_Add_18 p0 v24 v35 v36 v37)) := (show X cp n i_span_Add_5 (fr_span_Add_10 p0 p1 v24 v25) k = X cp n i_span_Add_4 (fr_span_Add_10 p0 p1 v24 v25) (blkT 2 k) from by kernel_rfl).trans ((s_span_Add_17_t cp n p0 p1 v24 v25 (blkT 2 k)).trans (by kernel_rfl))
def fr_span_Add_21 (v38 : (List SSpan)) : FF := [dT 4 ((.row false (.rSpan v38)) :: (tL 0) :: (dT 10 [])), dc, dc, dc, dc, dc]
theorem s_span_Add_20_t {R : Type} (cp : Nat → Nat → Bool) (n : Nat) (p0 v24 : (List SSpan)) (v35 v36 v37 : Int) (k : Ex → FF → Option R) : X cp n i_span_Add_6 (fr_span_Add_18 p0 v24 v35 v36 v37) k = s_span_Add_20 cp n p0 v24 v35 v36 v37 (fun v38 => k .ret (fr_span_Add_21 v38)) := by kernel_rfl
def fr_span_Add_22 (v39 : (List SSpan)) : FF := [dT 4 ((.row false (.rSpan v39)) :: (tL 0) :: (dT 10 [])), dc, dc, dc, dc, dc]
theorem s_span_Add_23_t {R : Type} (cp : Nat → Nat → Bool) (n : Nat) (p0 : (List SSpan)) (p1 : SSpan) (v24 : (List SSpan)) (v25 : Int) (k : Ex → FF → Option R) : X cp n i_span_Add_7 (fr_span_Add_10 p0 p1 v24 v25) k = s_span_Add_23 cp n p0 p1 v24 v25 (fun v39 => k .ret (fr_span_Add_22 v39)) := (show X cp n i_span_Add_7 (fr_span_Add_10 p0 p1 v24 v25) k = X cp n i_span_Add_5 (fr_span_Add_10 p0 p1 v24 v25) (seqT (X cp n) i_span_Add_6 k) from by kernel_rfl).trans ((show X cp n i_span_Add_5 (fr_span_Add_10 p0 p1 v24 v25) (seqT (X cp n) i_span_Add_6 k) = s_span_Add_19 cp n p0 p1 v24 v25 (fun v35 v36 v37 => X cp n i_span_Add_6 (fr_span_Add_18 p0 v24 v35 v36 v37) k) from (s_span_Add_19_t cp n p0 p1 v24 v25 (seqT (X cp n) i_span_Add_6 k)).trans (by kernel_rfl)).trans (congrArg (fun q => s_span_Add_19 cp n p0 p1 v24 v25 q) (funext fun v35 => funext fun v36 => funext fun v37 => (s_span_Add_20_t cp n p0 v24 v35 v36 v37 k).trans (show s_span_Add_20 cp n p0 v24 v35 v36 v37 (fun v38 => k .ret (fr_span_Add_21 v38)) = s_span_Add_20 cp n p0 v24 v35 v36 v37 (fun v38 => k .ret (fr_span_Add_22 v38)) from by kernel_rfl))))
def fr_span_Add_24 (v40 : (List SSpan)) : FF := [dT 4 ((.row false (.rSpan v40)) :: (tL 0) :: (dT 10 [])), dc, dc, dc, dc, dc]
theorem s_span_Add_25_t {R : Type} (cp : Nat → Nat → Bool) (n : Nat) (p0 : (List SSpan)) (p1 : SSpan) (k : Ex → FF → Option R) : X cp n i_span_Add_8 (fr_span_Add_2 p0 p1) k = s_span_Add_25 cp n p0 p1 (fun v40 => k .ret (fr_span_Add_24 v40)) := (show X cp n i_span_Add_8 (fr_span_Add_2 p0 p1) k = X cp n i_span_Add_2 (fr_span_Add_2 p0 p1) (seqT (X cp n) i_span_Add_7 k) from by kernel_rfl).trans ((show X cp n i_span_Add_2 (fr_span_Add_2 p0 p1) (seqT (X cp n) i_span_Add_7 k) = s_span_Add_11 cp n p0 p1 (fun v24 v25 => X cp n i_span_Add_7 (fr_span_Add_10 p0 p1 v24 v25) k) from (s_span_Add_11_t cp n p0 p1 (seqT (X cp n) i_span_Add_7 k)).trans (by kernel_rfl)).trans (congrArg (fun q => s_span_Add_11 cp n p0 p1 q) (funext fun v24 => funext fun v25 => (s_span_Add_23_t cp n p0 p1 v24 v25 k).trans (show s_span_Add_23 cp n p0 p1 v24 v25 (fun v39 => k .ret (fr_span_Add_22 v39)) = s_span_Add_23 cp n p0 p1 v24 v25 (fun v39 => k .ret (fr_span_Add_24 v39)) from by kernel_rfl))))
def fr_span_Add_26 (v41 : (List SSpan)) (v42 : Int) : FF := [dT 4 ((.row false (.rSpan v41)) :: (tL v42) :: (dT 10 [])), dc, dc, dc, dc, dc]
def fr_span_Add_28 (p0 : (List SSpan)) (p1 : SSpan) : FF := [(.row false (.rSpan p0)) :: (.agg (eSpan p1)) :: (dT 14 []), dc, dc, dc, dc, dc]
theorem s_span_Add_27_t {R : Type} (cp : Nat → Nat → Bool) (n : Nat) (p0 : (List SSpan)) (p1 : SSpan) (k : Ex → FF → Option R) : X cp n i_span_Add_9 (fr_span_Add_28 p0 p1) k = s_span_Add_27 cp n p0 p1 (fun v41 v42 => k .ret (fr_span_Add_26 v41 v42)) := ((fun c => (show X cp n (.seq (.fin (.reg g_span_Add_0) [1, 4, 5] []) (.seq (.seq (.fin (.reg g_span_Add_1) [9, 10, 11] []) (.seq (.fin (.reg g_span_Add_2) [12] []) (.fin (.cond (.s 13) (.seq (.fin (.reg g_span_Add_3) [0, 3, 6, 13, 14] [(87, 2)]) (.ret)) (.skip)) [6, 13] []))) (.seq (.seq (.fin (.reg g_span_Add_4) [15, 16, 17, 18] []) (.fin (.cond (.s 19) (.seq (.fin (.reg g_span_Add_5) [0, 3, 19, 20, 21] [(87, 2)]) (.ret)) (.skip)) [19] [])) (.seq (.reg g_span_Add_6) (.seq (.reg g_span_Add_7) c))))) (fr_span_Add_28 p0 p1) k = s_span_Add_1 cp n p0 p1 (X cp n c (fr_span_Add_2 p0 p1) k) (fun v16 v17 => k .ret (fr_span_Add_26 v16 v17)) from by kernel_rfl)) i_span_Add_8).trans (congrArg (fun q => s_span_Add_1 cp n p0 p1 q (fun v16 v17 => k .ret (fr_span_Add_26 v16 v17))) ((s_span_Add_25_t cp n p0 p1 k).trans (show s_span_Add_25 cp n p0 p1 (fun v40 => k .ret (fr_span_Add_24 v40)) = s_span_Add_25 cp n p0 p1 (fun v40 => k .ret (fr_span_Add_26 v40 0)) from by kernel_rfl)))
theorem run_span_Add {R : Type} (cp : Nat → Nat → Bool) (n : Nat) (p0 : (List SSpan)) (p1 : SSpan) (k : Ret2 RW → Option R) : G_span_Add cp (n + 1) p0 p1 (fun r0 r1 => k ⟨.tup [.row false (.rSpan r0), (tL r1)], [], []⟩) = run2 U cp (callP cp n) n fn_span_Add [.row false (.rSpan p0), .agg (eSpan p1)] [] k := ((X_run (f := fn_span_Add) (av := [.row false (.rSpan p0), .agg (eSpan p1)]) (cells := []) (code := i_span_Add_9) (fr := (fr_span_Add_28 p0 p1)) (k := k) (by kernel_rfl) (fun K => by kernel_rfl)).trans ((s_span_Add_27_t cp n p0 p1 (finK2 fn_span_Add k)).trans (by kernel_rfl))).symm
/-! tideway/tidewayref06.Check -/
def fr_ref06_Check_2 (p0 : (List SSpan)) : FF := [(.row false (.rSpan p0)) :: (dT 15 []), dc, dc, dc]
def fr_ref06_Check_4 (p0 : (List SSpan)) : FF := [(.row false (.rSpan p0)) :: (dT 2 ((tL 0) :: (dT 12 []))), dc, dc, dc]
def fr_ref06_Check_6 (p0 : (List SSpan)) (v46 : Int) : FF := [(.row false (.rSpan p0)) :: (dT 2 ((tL v46) :: (dT 12 []))), dc, dc, dc]
def fr_ref06_Check_7 : FF := [dT 2 ((tL 60) :: (dT 13 [])), dc, dc, dc]
def fr_ref06_Check_8 : FF := [dc, dc, dc, dc]
def fr_ref06_Check_9 (p0 : (List SSpan)) (v45 : Int) : FF := [(.row false (.rSpan p0)) :: (dT 2 ((tL v45) :: (dT 12 []))), dc, dc, dc]
theorem s_ref06_Check_5_t {R : Type} (cp : Nat → Nat → Bool) (n : Nat) (p0 : (List SSpan)) (v45 : Int) (k : Ex → FF → Option R) : X cp n i_ref06_Check_0 (fr_ref06_Check_9 p0 v45) k = s_ref06_Check_5 cp n p0 v45 (fun v46 => k .norm (fr_ref06_Check_6 p0 v46)) (k .ret fr_ref06_Check_7) (k (.exit 0) fr_ref06_Check_8) := by kernel_rfl
theorem l_ref06_Check_10_t {R : Type} (cp : Nat → Nat → Bool) (n : Nat) : ∀ (m : Nat) (p0 : (List SSpan)) (v45 : Int) (k : Ex → FF → Option R), loopN2 (X cp n i_ref06_Check_0) m (fr_ref06_Check_9 p0 v45) k = l_ref06_Check_10 cp n m p0 v45 (k .ret fr_ref06_Check_7) (k (.exit 0) fr_ref06_Check_8)
  | 0, _, _, _ => rfl
  | m + 1, p0, v45, k => (loopN2_succ (X cp n i_ref06_Check_0) m (fr_ref06_Check_9 p0 v45) k).trans ((s_ref06_Check_5_t cp n p0 v45 (loopT (X cp n i_ref06_Check_0) m k)).trans ((show s_ref06_Check_5 cp n p0 v45 (fun v46 => loopT (X cp n i_ref06_Check_0) m k .norm (fr_ref06_Check_6 p0 v46)) (loopT (X cp n i_ref06_Check_0) m k .ret fr_ref06_Check_7) (loopT (X cp n i_ref06_Check_0) m k (.exit 0) fr_ref06_Check_8) = s_ref06_Check_5 cp n p0 v45 (fun v46 => loopN2 (X cp n i_ref06_Check_0) m (fr_ref06_Check_9 p0 v46) k) (k .ret fr_ref06_Check_7) (k (.exit 0) fr_ref06_Check_8) from by kernel_rfl).trans (congrArg (fun q => s_ref06_Check_5 cp n p0 v45 q (k .ret fr_ref06_Check_7) (k (.exit 0) fr_ref06_Check_8)) (funext fun v46 => l_ref06_Check_10_t cp n m p0 v46 k))))
theorem s_ref06_Check_11_t {R : Type} (cp : Nat → Nat → Bool) (n : Nat) (p0 : (List SSpan)) (k : Ex → FF → Option R) : X cp n i_ref06_Check_1 (fr_ref06_Check_4 p0) k = s_ref06_Check_11 cp n p0 (k .ret fr_ref06_Check_7) (k (.exit 0) fr_ref06_Check_8) := (show X cp n i_ref06_Check_1 (fr_ref06_Check_4 p0) k = loopN2 (X cp n i_ref06_Check_0) n (fr_ref06_Check_9 p0 0) k from by kernel_rfl).trans (l_ref06_Check_10_t cp n n p0 0 k)
theorem s_ref06_Check_12_t {R : Type} (cp : Nat → Nat → Bool) (n : Nat) (p0 : (List SSpan)) (k : Ex → FF → Option R) : X cp n i_ref06_Check_2 (fr_ref06_Check_4 p0) k = s_ref06_Check_12 cp n p0 (k .norm fr_ref06_Check_8) (k .ret fr_ref06_Check_7) := (show X cp n i_ref06_Check_2 (fr_ref06_Check_4 p0) k = X cp n i_ref06_Check_1 (fr_ref06_Check_4 p0) (blkT 0 k) from by kernel_rfl).trans ((s_ref06_Check_11_t cp n p0 (blkT 0 k)).trans (by kernel_rfl))
theorem s_ref06_Check_13_t {R : Type} (cp : Nat → Nat → Bool) (n : Nat) (p0 : (List SSpan)) (k : Ex → FF → Option R) : X cp n i_ref06_Check_3 (fr_ref06_Check_2 p0) k = s_ref06_Check_13 cp n p0 (k .norm fr_ref06_Check_8) (k .ret fr_ref06_Check_7) := ((fun c => (show X cp n (.seq (.reg g_ref06_Check_1) c) (fr_ref06_Check_2 p0) k = s_ref06_Check_3 cp n p0 (X cp n c (fr_ref06_Check_4 p0) k) from by kernel_rfl)) i_ref06_Check_2).trans (congrArg (fun q => s_ref06_Check_3 cp n p0 q) (s_ref06_Check_12_t cp n p0 k))
def fr_ref06_Check_15 : FF := [dT 2 ((tL 0) :: (dT 13 [])), dc, dc, dc]
theorem s_ref06_Check_14_t {R : Type} (cp : Nat → Nat → Bool) (n : Nat) (k : Ex → FF → Option R) : X cp n i_ref06_Check_4 fr_ref06_Check_8 k = s_ref06_Check_14 cp n (k .ret fr_ref06_Check_15) := by kernel_rfl
def fr_ref06_Check_16 (v47 : Int) : FF := [dT 2 ((tL v47) :: (dT 13 [])), dc, dc, dc]
theorem s_ref06_Check_17_t {R : Type} (cp : Nat → Nat → Bool) (n : Nat) (p0 : (List SSpan)) (k : Ex → FF → Option R) : X cp n i_ref06_Check_5 (fr_ref06_Check_2 p0) k = s_ref06_Check_17 cp n p0 (fun v47 => k .ret (fr_ref06_Check_16 v47)) := (show X cp n i_ref06_Check_5 (fr_ref06_Check_2 p0) k = X cp n i_ref06_Check_3 (fr_ref06_Check_2 p0) (seqT (X cp n) i_ref06_Check_4 k) from by kernel_rfl).trans ((show X cp n i_ref06_Check_3 (fr_ref06_Check_2 p0) (seqT (X cp n) i_ref06_Check_4 k) = s_ref06_Check_13 cp n p0 (X cp n i_ref06_Check_4 fr_ref06_Check_8 k) (k .ret (fr_ref06_Check_16 60)) from (s_ref06_Check_13_t cp n p0 (seqT (X cp n) i_ref06_Check_4 k)).trans (by kernel_rfl)).trans (congrArg (fun q => s_ref06_Check_13 cp n p0 q (k .ret (fr_ref06_Check_16 60))) ((s_ref06_Check_14_t cp n  k).trans (show s_ref06_Check_14 cp n (k .ret fr_ref06_Check_15) = s_ref06_Check_14 cp n (k .ret (fr_ref06_Check_16 0)) from by kernel_rfl))))
def fr_ref06_Check_18 (v48 : Int) : FF := [dT 2 ((tL v48) :: (dT 13 [])), dc, dc, dc]
theorem s_ref06_Check_19_t {R : Type} (cp : Nat → Nat → Bool) (n : Nat) (p0 : (List SSpan)) (k : Ex → FF → Option R) : X cp n i_ref06_Check_6 (fr_ref06_Check_2 p0) k = s_ref06_Check_19 cp n p0 (fun v48 => k .ret (fr_ref06_Check_18 v48)) := ((fun c => (show X cp n (.seq (.fin (.reg g_ref06_Check_0) [2] []) c) (fr_ref06_Check_2 p0) k = s_ref06_Check_1 cp n p0 (X cp n c (fr_ref06_Check_2 p0) k) from by kernel_rfl)) i_ref06_Check_5).trans (congrArg (fun q => s_ref06_Check_1 cp n p0 q) ((s_ref06_Check_17_t cp n p0 k).trans (show s_ref06_Check_17 cp n p0 (fun v47 => k .ret (fr_ref06_Check_16 v47)) = s_ref06_Check_17 cp n p0 (fun v47 => k .ret (fr_ref06_Check_18 v47)) from by kernel_rfl)))
theorem run_ref06_Check {R : Type} (cp : Nat → Nat → Bool) (n : Nat) (p0 : (List SSpan)) (k : Ret2 RW → Option R) : G_ref06_Check cp (n + 1) p0 (fun r0 => k ⟨(tL r0), [], []⟩) = run2 U cp (callP cp n) n fn_ref06_Check [.row false (.rSpan p0)] [] k := ((X_run (f := fn_ref06_Check) (av := [.row false (.rSpan p0)]) (cells := []) (code := i_ref06_Check_6) (fr := (fr_ref06_Check_2 p0)) (k := k) (by kernel_rfl) (fun K => by kernel_rfl)).trans ((s_ref06_Check_19_t cp n p0 (finK2 fn_ref06_Check k)).trans (by kernel_rfl))).symm
/-! tideway/tidewayref06.right -/
theorem run_ref06_right {R : Type} (cp : Nat → Nat → Bool) (n : Nat) (p0 : SSpan) (k : Ret2 RW → Option R) : G_ref06_right cp (n + 1) p0 (fun r0 => k ⟨(tB r0), [], []⟩) = run2 U cp (callP cp n) n fn_ref06_right [.agg (eSpan p0)] [] k := by kernel_rfl
/-! tideway/tidewayref06.Add -/
def fr_ref06_Add_2 (p0 : (List SSpan)) (p1 : SSpan) : FF := [(.row false (.rSpan p0)) :: (dT 2 ((.ptr 91 0) :: (dT 2 ((.row true (.rSpan [])) :: (tB false) :: (dT 8 []))))), dc, dc, dc, dc, dT 11 ((.hdr 2) :: ((eSpan p1) ++ (dT 2 [])))]
def fr_ref06_Add_3 (v58 : (List SSpan)) (v59 : Int) : FF := [dT 4 ((.row false (.rSpan v58)) :: (tL v59) :: (dT 10 [])), dc, dc, dc, dc, dc]
def fr_ref06_Add_5 (p0 : (List SSpan)) (p1 : SSpan) : FF := [(.row false (.rSpan p0)) :: (dT 2 ((.ptr 91 0) :: (dT 2 ((.row true (.rSpan [])) :: (tB false) :: (tL 0) :: (dT 7 []))))), dc, dc, dc, dc, dT 11 ((.hdr 2) :: ((eSpan p1) ++ (dT 2 [])))]
def fr_ref06_Add_7 (p0 v65 : (List SSpan)) (v66 : Bool) (v67 v68 v69 : Int) : FF := [(.row false (.rSpan p0)) :: (dT 2 ((.ptr 91 0) :: (dT 2 ((.row true (.rSpan v65)) :: (tB v66) :: (tL v67) :: (dT 7 []))))), dc, dc, dc, dc, dT 11 ((.hdr 2) :: (tL v68) :: (tL v69) :: (dT 2 []))]
def fr_ref06_Add_8 (v60 : (List SSpan)) (v61 : Bool) (v63 v64 : Int) : FF := [dT 3 ((.ptr 91 0) :: (dT 2 ((.row true (.rSpan v60)) :: (tB v61) :: (dT 8 [])))), dc, dc, dc, dc, dT 11 ((.hdr 2) :: (tL v63) :: (tL v64) :: (dT 2 []))]
def fr_ref06_Add_9 (p0 v60 : (List SSpan)) (v61 : Bool) (v62 v63 v64 : Int) : FF := [(.row false (.rSpan p0)) :: (dT 2 ((.ptr 91 0) :: (dT 2 ((.row true (.rSpan v60)) :: (tB v61) :: (tL v62) :: (dT 7 []))))), dc, dc, dc, dc, dT 11 ((.hdr 2) :: (tL v63) :: (tL v64) :: (dT 2 []))]
theorem s_ref06_Add_6_t {R : Type} (cp : Nat → Nat → Bool) (n : Nat) (p0 v60 : (List SSpan)) (v61 : Bool) (v62 v63 v64 : Int) (k : Ex → FF → Option R) : X cp n i_ref06_Add_0 (fr_ref06_Add_9 p0 v60 v61 v62 v63 v64) k = s_ref06_Add_6 cp n p0 v60 v61 v62 v63 v64 (fun v65 v66 v67 v68 v69 => k .norm (fr_ref06_Add_7 p0 v65 v66 v67 v68 v69)) (k (.exit 0) (fr_ref06_Add_8 v60 v61 v63 v64)) := by kernel_rfl
def fr_ref06_Add_10 (v70 : (List SSpan)) (v71 : Bool) (v72 v73 : Int) : FF := [dT 3 ((.ptr 91 0) :: (dT 2 ((.row true (.rSpan v70)) :: (tB v71) :: (dT 8 [])))), dc, dc, dc, dc, dT 11 ((.hdr 2) :: (tL v72) :: (tL v73) :: (dT 2 []))]
theorem l_ref06_Add_11_t {R : Type} (cp : Nat → Nat → Bool) (n : Nat) : ∀ (m : Nat) (p0 v60 : (List SSpan)) (v61 : Bool) (v62 v63 v64 : Int) (k : Ex → FF → Option R), loopN2 (X cp n i_ref06_Add_0) m (fr_ref06_Add_9 p0 v60 v61 v62 v63 v64) k = l_ref06_Add_11 cp n m p0 v60 v61 v62 v63 v64 (fun v70 v71 v72 v73 => k (.exit 0) (fr_ref06_Add_10 v70 v71 v72 v73))
  | 0, _, _, _, _, _, _, _ => rfl
  | m + 1, p0, v60, v61, v62, v63, v64, k => (loopN2_succ (X cp n i_ref06_Add_0) m (fr_ref06_Add_9 p0 v60 v61 v62 v63 v64) k).trans ((s_ref06_Add_6_t cp n p0 v60 v61 v62 v63 v64 (loopT (X cp n i_ref06_Add_0) m k)).trans ((show s_ref06_Add_6 cp n p0 v60 v61 v62 v63 v64 (fun v65 v66 v67 v68 v69 => loopT (X cp n i_ref06_Add_0) m k .norm (fr_ref06_Add_7 p0 v65 v66 v67 v68 v69)) (loopT (X cp n i_ref06_Add_0) m k (.exit 0) (fr_ref06_Add_8 v60 v61 v63 v64)) = s_ref06_Add_6 cp n p0 v60 v61 v62 v63 v64 (fun v65 v66 v67 v68 v69 => loopN2 (X cp n i_ref06_Add_0) m (fr_ref06_Add_9 p0 v65 v66 v67 v68 v69) k) (k (.exit 0) (fr_ref06_Add_10 v60 v61 v63 v64)) from by kernel_rfl).trans (congrArg (fun q => s_ref06_Add_6 cp n p0 v60 v61 v62 v63 v64 q (k (.exit 0) (fr_ref06_Add_10 v60 v61 v63 v64))) (funext fun v65 => funext fun v66 => funext fun v67 => funext fun v68 => funext fun v69 => l_ref06_Add_11_t cp n m p0 v65 v66 v67 v68 v69 k))))
theorem s_ref06_Add_12_t {R : Type} (cp : Nat → Nat → Bool) (n : Nat) (p0 : (List SSpan)) (p1 : SSpan) (k : Ex → FF → Option R) : X cp n i_ref06_Add_1 (fr_ref06_Add_5 p0 p1) k = s_ref06_Add_12 cp n p0 p1 (fun v70 v71 v72 v73 => k (.exit 0) (fr_ref06_Add_10 v70 v71 v72 v73)) := (show X cp n i_ref06_Add_1 (fr_ref06_Add_5 p0 p1) k = loopN2 (X cp n i_ref06_Add_0) n (fr_ref06_Add_9 p0 [] false 0 p1.xFrom p1.xTo) k from by kernel_rfl).trans (l_ref06_Add_11_t cp n n p0 [] false 0 p1.xFrom p1.xTo k)
def fr_ref06_Add_13 (v74 : (List SSpan)) (v75 : Bool) (v76 v77 : Int) : FF := [dT 3 ((.ptr 91 0) :: (dT 2 ((.row true (.rSpan v74)) :: (tB v75) :: (dT 8 [])))), dc, dc, dc, dc, dT 11 ((.hdr 2) :: (tL v76) :: (tL v77) :: (dT 2 []))]
theorem s_ref06_Add_14_t {R : Type} (cp : Nat → Nat → Bool) (n : Nat) (p0 : (List SSpan)) (p1 : SSpan) (k : Ex → FF → Option R) : X cp n i_ref06_Add_2 (fr_ref06_Add_5 p0 p1) k = s_ref06_Add_14 cp n p0 p1 (fun v74 v75 v76 v77 => k .norm (fr_ref06_Add_13 v74 v75 v76 v77)) := (show X cp n i_ref06_Add_2 (fr_ref06_Add_5 p0 p1) k = X cp n i_ref06_Add_1 (fr_ref06_Add_5 p0 p1) (blkT 0 k) from by kernel_rfl).trans ((s_ref06_Add_12_t cp n p0 p1 (blkT 0 k)).trans (by kernel_rfl))
def fr_ref06_Add_15 (v78 : (List SSpan)) (v79 : Bool) (v80 v81 : Int) : FF := [dT 3 ((.ptr 91 0) :: (dT 2 ((.row true (.rSpan v78)) :: (tB v79) :: (dT 8 [])))), dc, dc, dc, dc, dT 11 ((.hdr 2) :: (tL v80) :: (tL v81) :: (dT 2 []))]
theorem s_ref06_Add_16_t {R : Type} (cp : Nat → Nat → Bool) (n : Nat) (p0 : (List SSpan)) (p1 : SSpan) (k : Ex → FF → Option R) : X cp n i_ref06_Add_3 (fr_ref06_Add_2 p0 p1) k = s_ref06_Add_16 cp n p0 p1 (fun v78 v79 v80 v81 => k .norm (fr_ref06_Add_15 v78 v79 v80 v81)) := ((fun c => (show X cp n (.seq (.reg g_ref06_Add_9) c) (fr_ref06_Add_2 p0 p1) k = s_ref06_Add_4 cp n p0 p1 (X cp n c (fr_ref06_Add_5 p0 p1) k) from by kernel_rfl)) i_ref06_Add_2).trans (congrArg (fun q => s_ref06_Add_4 cp n p0 p1 q) ((s_ref06_Add_14_t cp n p0 p1 k).trans (show s_ref06_Add_14 cp n p0 p1 (fun v74 v75 v76 v77 => k .norm (fr_ref06_Add_13 v74 v75 v76 v77)) = s_ref06_Add_14 cp n p0 p1 (fun v74 v75 v76 v77 => k .norm (fr_ref06_Add_15 v74 v75 v76 v77)) from by kernel_rfl)))
def fr_ref06_Add_18 (v82 : (List SSpan)) : FF := [dT 4 ((.row false (.rSpan v82)) :: (tL 0) :: (dT 10 [])), dc, dc, dc, dc, dc]
theorem s_ref06_Add_17_t {R : Type} (cp : Nat → Nat → Bool) (n : Nat) (v78 : (List SSpan)) (v79 : Bool) (v80 v81 : Int) (k : Ex → FF → Option R) : X cp n i_ref06_Add_4 (fr_ref06_Add_15 v78 v79 v80 v81) k = s_ref06_Add_17 cp n v78 v79 v80 v81 (fun v82 => k .ret (fr_ref06_Add_18 v82)) := by kernel_rfl
def fr_ref06_Add_19 (v83 : (List SSpan)) : FF := [dT 4 ((.row false (.rSpan v83)) :: (tL 0) :: (dT 10 [])), dc, dc, dc, dc, dc]
theorem s_ref06_Add_20_t {R : Type} (cp : Nat → Nat → Bool) (n : Nat) (p0 : (List SSpan)) (p1 : SSpan) (k : Ex → FF → Option R) : X cp n i_ref06_Add_5 (fr_ref06_Add_2 p0 p1) k = s_ref06_Add_20 cp n p0 p1 (fun v83 => k .ret (fr_ref06_Add_19 v83)) := (show X cp n i_ref06_Add_5 (fr_ref06_Add_2 p0 p1) k = X cp n i_ref06_Add_3 (fr_ref06_Add_2 p0 p1) (seqT (X cp n) i_ref06_Add_4 k) from by kernel_rfl).trans ((show X cp n i_ref06_Add_3 (fr_ref06_Add_2 p0 p1) (seqT (X cp n) i_ref06_Add_4 k) = s_ref06_Add_16 cp n p0 p1 (fun v78 v79 v80 v81 => X cp n i_ref06_Add_4 (fr_ref06_Add_15 v78 v79 v80 v81) k) from (s_ref06_Add_16_t cp n p0 p1 (seqT (X cp n) i_ref06_Add_4 k)).trans (by kernel_rfl)).trans (congrArg (fun q => s_ref06_Add_16 cp n p0 p1 q) (funext fun v78 => funext fun v79 => funext fun v80 => funext fun v81 => (s_ref06_Add_17_t cp n v78 v79 v80 v81 k).trans (show s_ref06_Add_17 cp n v78 v79 v80 v81 (fun v82 => k .ret (fr_ref06_Add_18 v82)) = s_ref06_Add_17 cp n v78 v79 v80 v81 (fun v82 => k .ret (fr_ref06_Add_19 v82)) from by kernel_rfl))))
def fr_ref06_Add_21 (v84 : (List SSpan)) (v85 : Int) : FF := [dT 4 ((.row false (.rSpan v84)) :: (tL v85) :: (dT 10 [])), dc, dc, dc, dc, dc]
def fr_ref06_Add_23 (p0 : (List SSpan)) (p1 : SSpan) : FF := [(.row false (.rSpan p0)) :: (.agg (eSpan p1)) :: (dT 14 []), dc, dc, dc, dc, dc]
theorem s_ref06_Add_22_t {R : Type} (cp : Nat → Nat → Bool) (n : Nat) (p0 : (List SSpan)) (p1 : SSpan) (k : Ex → FF → Option R) : X cp n i_ref06_Add_6 (fr_ref06_Add_23 p0 p1) k = s_ref06_Add_22 cp n p0 p1 (fun v84 v85 => k .ret (fr_ref06_Add_21 v84 v85)) := ((fun c => (show X cp n (.seq (.fin (.reg g_ref06_Add_0) [1, 4, 5] []) (.seq (.seq (.fin (.reg g_ref06_Add_1) [9, 10] []) (.fin (.cond (.s 11) (.seq (.fin (.reg g_ref06_Add_2) [0, 3, 11] [(91, 2)]) (.ret)) (.skip)) [11] [])) (.seq (.seq (.fin (.reg g_ref06_Add_3) [12, 13] []) (.fin (.cond (.s 14) (.seq (.fin (.reg g_ref06_Add_4) [0, 3, 14] [(91, 2)]) (.ret)) (.skip)) [14] [])) (.seq (.seq (.fin (.reg g_ref06_Add_5) [15, 16, 17, 18] []) (.fin (.cond (.s 19) (.seq (.fin (.reg g_ref06_Add_6) [0, 3, 19, 20, 21, 22] [(91, 2)]) (.ret)) (.skip)) [19] [])) (.seq (.reg g_ref06_Add_7) (.seq (.reg g_ref06_Add_8) c)))))) (fr_ref06_Add_23 p0 p1) k = s_ref06_Add_1 cp n p0 p1 (X cp n c (fr_ref06_Add_2 p0 p1) k) (fun v58 v59 => k .ret (fr_ref06_Add_21 v58 v59)) from by kernel_rfl)) i_ref06_Add_5).trans (congrArg (fun q => s_ref06_Add_1 cp n p0 p1 q (fun v58 v59 => k .ret (fr_ref06_Add_21 v58 v59))) ((s_ref06_Add_20_t cp n p0 p1 k).trans (show s_ref06_Add_20 cp n p0 p1 (fun v83 => k .ret (fr_ref06_Add_19 v83)) = s_ref06_Add_20 cp n p0 p1 (fun v83 => k .ret (fr_ref06_Add_21 v83 0)) from by kernel_rfl)))
theorem run_ref06_Add {R : Type} (cp : Nat → Nat → Bool) (n : Nat) (p0 : (List SSpan)) (p1 : SSpan) (k : Ret2 RW → Option R) : G_ref06_Add cp (n + 1) p0 p1 (fun r0 r1 => k ⟨.tup [.row false (.rSpan r0), (tL r1)], [], []⟩) = run2 U cp (callP cp n) n fn_ref06_Add [.row false (.rSpan p0), .agg (eSpan p1)] [] k := ((X_run (f := fn_ref06_Add) (av := [.row false (.rSpan p0), .agg (eSpan p1)]) (cells := []) (code := i_ref06_Add_6) (fr := (fr_ref06_Add_23 p0 p1)) (k := k) (by kernel_rfl) (fun K => by kernel_rfl)).trans ((s_ref06_Add_22_t cp n p0 p1 (finK2 fn_ref06_Add k)).trans (by kernel_rfl))).symm
/-! tideway/span.Cut -/
def fr_span_Cut_2 (p0 : (List SSpan)) (p1 : SSpan) : FF := [(.row false (.rSpan p0)) :: (dT 2 ((.ptr 73 0) :: (dT 3 ((.row true (.rSpan [])) :: (dT 8 []))))), dc, dc, dc, dT 9 ((.hdr 2) :: ((eSpan p1) ++ (dT 4 []))), dc]
def fr_span_Cut_3 (v95 : (List SSpan)) (v96 : Int) : FF := [dT 4 ((.row false (.rSpan v95)) :: (tL v96) :: (dT 10 [])), dc, dc, dc, dc, dc]
def fr_span_Cut_5 (p0 : (List SSpan)) (p1 : SSpan) (v97 : Int) : FF := [dT 3 ((.ptr 73 0) :: (dT 3 ((.row true (.rSpan [])) :: (dT 8 [])))), dT 9 ((.row false (.rSpan p0)) :: (tL v97) :: (tL 0) :: (dT 4 [])), dc, dc, dT 9 ((.hdr 2) :: ((eSpan p1) ++ (dT 4 []))), dc]
def fr_span_Cut_7 (p0 : (List SSpan)) (p1 : SSpan) (v97 : Int) (v98 : (List SSpan)) (v99 : Int) : FF := [dT 3 ((.ptr 73 0) :: (dT 3 ((.row true (.rSpan v98)) :: (dT 8 [])))), dT 9 ((.row false (.rSpan p0)) :: (tL v97) :: (tL v99) :: (dT 4 [])), dc, dc, dT 9 ((.hdr 2) :: ((eSpan p1) ++ (dT 4 []))), dc]
def fr_span_Cut_8 (v98 : (List SSpan)) : FF := [dT 7 ((.row true (.rSpan v98)) :: (dT 8 [])), dc, dc, dc, dc, dc]
def fr_span_Cut_10 (p0 : (List SSpan)) (p1 : SSpan) (v97 : Int) (v98 : (List SSpan)) (v99 v100 v101 : Int) : FF := [dT 3 ((.ptr 73 0) :: (dT 3 ((.row true (.rSpan v98)) :: (dT 8 [])))), dT 9 ((.row false (.rSpan p0)) :: (tL v97) :: (tL v99) :: (dT 4 [])), dc, dT 9 ((.agg [(tL v100), (tL p1.xFrom), (tL p1.xTo), (tL v101)]) :: (tL 0) :: (dT 5 [])), dT 9 ((.hdr 2) :: ((eSpan p1) ++ (dT 4 []))), dc]
def fr_span_Cut_11 (p0 : (List SSpan)) (p1 : SSpan) (v97 v99 : Int) (v102 : (List SSpan)) : FF := [dT 3 ((.ptr 73 0) :: (dT 3 ((.row true (.rSpan v102)) :: (dT 8 [])))), dT 9 ((.row false (.rSpan p0)) :: (tL v97) :: (tL v99) :: (dT 4 [])), dc, dc, dT 9 ((.hdr 2) :: ((eSpan p1) ++ (dT 4 []))), dc]
def fr_span_Cut_13 (p0 : (List SSpan)) (p1 : SSpan) (v97 v99 v100 v101 : Int) (v105 : (List SSpan)) (v106 : Int) : FF := [dT 3 ((.ptr 73 0) :: (dT 3 ((.row true (.rSpan v105)) :: (dT 8 [])))), dT 9 ((.row false (.rSpan p0)) :: (tL v97) :: (tL v99) :: (dT 4 [])), dc, dT 9 ((.agg [(tL v100), (tL p1.xFrom), (tL p1.xTo), (tL v101)]) :: (tL v106) :: (dT 5 [])), dT 9 ((.hdr 2) :: ((eSpan p1) ++ (dT 4 []))), dc]
def fr_span_Cut_14 (p0 : (List SSpan)) (p1 : SSpan) (v97 v99 : Int) (v103 : (List SSpan)) : FF := [dT 3 ((.ptr 73 0) :: (dT 3 ((.row true (.rSpan v103)) :: (dT 8 [])))), dT 9 ((.row false (.rSpan p0)) :: (tL v97) :: (tL v99) :: (dT 4 [])), dc, dc, dT 9 ((.hdr 2) :: ((eSpan p1) ++ (dT 4 []))), dc]
def fr_span_Cut_15 (p0 : (List SSpan)) (p1 : SSpan) (v97 v99 v100 v101 : Int) (v103 : (List SSpan)) (v104 : Int) : FF := [dT 3 ((.ptr 73 0) :: (dT 3 ((.row true (.rSpan v103)) :: (dT 8 [])))), dT 9 ((.row false (.rSpan p0)) :: (tL v97) :: (tL v99) :: (dT 4 [])), dc, dT 9 ((.agg [(tL v100), (tL p1.xFrom), (tL p1.xTo), (tL v101)]) :: (tL v104) :: (dT 5 [])), dT 9 ((.hdr 2) :: ((eSpan p1) ++ (dT 4 []))), dc]
theorem s_span_Cut_12_t {R : Type} (cp : Nat → Nat → Bool) (n : Nat) (p0 : (List SSpan)) (p1 : SSpan) (v97 v99 v100 v101 : Int) (v103 : (List SSpan)) (v104 : Int) (k : Ex → FF → Option R) : X cp n i_span_Cut_0 (fr_span_Cut_15 p0 p1 v97 v99 v100 v101 v103 v104) k = s_span_Cut_12 cp n p0 p1 v97 v99 v100 v101 v103 v104 (fun v105 v106 => k .norm (fr_span_Cut_13 p0 p1 v97 v99 v100 v101 v105 v106)) (k (.exit 2) (fr_span_Cut_14 p0 p1 v97 v99 v103)) := by kernel_rfl
def fr_span_Cut_16 (p0 : (List SSpan)) (p1 : SSpan) (v97 v99 : Int) (v107 : (List SSpan)) : FF := [dT 3 ((.ptr 73 0) :: (dT 3 ((.row true (.rSpan v107)) :: (dT 8 [])))), dT 9 ((.row false (.rSpan p0)) :: (tL v97) :: (tL v99) :: (dT 4 [])), dc, dc, dT 9 ((.hdr 2) :: ((eSpan p1) ++ (dT 4 []))), dc]
theorem l_span_Cut_17_t {R : Type} (cp : Nat → Nat → Bool) (n : Nat) : ∀ (m : Nat) (p0 : (List SSpan)) (p1 : SSpan) (v97 v99 v100 v101 : Int) (v103 : (List SSpan)) (v104 : Int) (k : Ex → FF → Option R), loopN2 (X cp n i_span_Cut_0) m (fr_span_Cut_15 p0 p1 v97 v99 v100 v101 v103 v104) k = l_span_Cut_17 cp n m p0 p1 v97 v99 v100 v101 v103 v104 (fun v107 => k (.exit 2) (fr_span_Cut_16 p0 p1 v97 v99 v107))
  | 0, _, _, _, _, _, _, _, _, _ => rfl
  | m + 1, p0, p1, v97, v99, v100, v101, v103, v104, k => (loopN2_succ (X cp n i_span_Cut_0) m (fr_span_Cut_15 p0 p1 v97 v99 v100 v101 v103 v104) k).trans ((s_span_Cut_12_t cp n p0 p1 v97 v99 v100 v101 v103 v104 (loopT (X cp n i_span_Cut_0) m k)).trans ((show s_span_Cut_12 cp n p0 p1 v97 v99 v100 v101 v103 v104 (fun v105 v106 => loopT (X cp n i_span_Cut_0) m k .norm (fr_span_Cut_13 p0 p1 v97 v99 v100 v101 v105 v106)) (loopT (X cp n i_span_Cut_0) m k (.exit 2) (fr_span_Cut_14 p0 p1 v97 v99 v103)) = s_span_Cut_12 cp n p0 p1 v97 v99 v100 v101 v103 v104 (fun v105 v106 => loopN2 (X cp n i_span_Cut_0) m (fr_span_Cut_15 p0 p1 v97 v99 v100 v101 v105 v106) k) (k (.exit 2) (fr_span_Cut_16 p0 p1 v97 v99 v103)) from by kernel_rfl).trans (congrArg (fun q => s_span_Cut_12 cp n p0 p1 v97 v99 v100 v101 v103 v104 q (k (.exit 2) (fr_span_Cut_16 p0 p1 v97 v99 v103))) (funext fun v105 => funext fun v106 => l_span_Cut_17_t cp n m p0 p1 v97 v99 v100 v101 v105 v106 k))))
theorem s_span_Cut_18_t {R : Type} (cp : Nat → Nat → Bool) (n : Nat) (p0 : (List SSpan)) (p1 : SSpan) (v97 : Int) (v98 : (List SSpan)) (v99 v100 v101 : Int) (k : Ex → FF → Option R) : X cp n i_span_Cut_1 (fr_span_Cut_10 p0 p1 v97 v98 v99 v100 v101) k = s_span_Cut_18 cp n p0 p1 v97 v98 v99 v100 v101 (fun v107 => k (.exit 2) (fr_span_Cut_16 p0 p1 v97 v99 v107)) := (show X cp n i_span_Cut_1 (fr_span_Cut_10 p0 p1 v97 v98 v99 v100 v101) k = loopN2 (X cp n i_span_Cut_0) n (fr_span_Cut_15 p0 p1 v97 v99 v100 v101 v98 0) k from by kernel_rfl).trans (l_span_Cut_17_t cp n n p0 p1 v97 v99 v100 v101 v98 0 k)
def fr_span_Cut_19 (p0 : (List SSpan)) (p1 : SSpan) (v97 v99 : Int) (v108 : (List SSpan)) : FF := [dT 3 ((.ptr 73 0) :: (dT 3 ((.row true (.rSpan v108)) :: (dT 8 [])))), dT 9 ((.row false (.rSpan p0)) :: (tL v97) :: (tL v99) :: (dT 4 [])), dc, dc, dT 9 ((.hdr 2) :: ((eSpan p1) ++ (dT 4 []))), dc]
theorem s_span_Cut_20_t {R : Type} (cp : Nat → Nat → Bool) (n : Nat) (p0 : (List SSpan)) (p1 : SSpan) (v97 : Int) (v98 : (List SSpan)) (v99 v100 v101 : Int) (k : Ex → FF → Option R) : X cp n i_span_Cut_2 (fr_span_Cut_10 p0 p1 v97 v98 v99 v100 v101) k = s_span_Cut_20 cp n p0 p1 v97 v98 v99 v100 v101 (fun v108 => k .norm (fr_span_Cut_19 p0 p1 v97 v99 v108)) := (show X cp n i_span_Cut_2 (fr_span_Cut_10 p0 p1 v97 v98 v99 v100 v101) k = X cp n i_span_Cut_1 (fr_span_Cut_10 p0 p1 v97 v98 v99 v100 v101) (blkT 2 k) from by kernel_rfl).trans ((s_span_Cut_18_t cp n p0 p1 v97 v98 v99 v100 v101 (blkT 2 k)).trans (by kernel_rfl))
def fr_span_Cut_21 (p0 : (List SSpan)) (p1 : SSpan) (v97 v99 : Int) (v109 : (List SSpan)) : FF := [dT 3 ((.ptr 73 0) :: (dT 3 ((.row true (.rSpan v109)) :: (dT 8 [])))), dT 9 ((.row false (.rSpan p0)) :: (tL v97) :: (tL v99) :: (dT 4 [])), dc, dc, dT 9 ((.hdr 2) :: ((eSpan p1) ++ (dT 4 []))), dc]
def fr_span_Cut_22 (p0 : (List SSpan)) (p1 : SSpan) (v97 v99 : Int) (v110 : (List SSpan)) : FF := [dT 3 ((.ptr 73 0) :: (dT 3 ((.row true (.rSpan v110)) :: (dT 8 [])))), dT 9 ((.row false (.rSpan p0)) :: (tL v97) :: (tL v99) :: (dT 4 [])), dc, dc, dT 9 ((.hdr 2) :: ((eSpan p1) ++ (dT 4 []))), dc]
theorem s_span_Cut_23_t {R : Type} (cp : Nat → Nat → Bool) (n : Nat) (p0 : (List SSpan)) (p1 : SSpan) (v97 : Int) (v98 : (List SSpan)) (v99 : Int) (k : Ex → FF → Option R) : X cp n i_span_Cut_3 (fr_span_Cut_7 p0 p1 v97 v98 v99) k = s_span_Cut_23 cp n p0 p1 v97 v98 v99 (fun v109 => k .norm (fr_span_Cut_21 p0 p1 v97 v99 v109)) (fun v110 => k (.exit 1) (fr_span_Cut_22 p0 p1 v97 v99 v110)) := ((fun c => (show X cp n (.seq (.fin (.reg g_span_Cut_9) [29, 30] []) (.seq (.seq (.fin (.reg g_span_Cut_10) [31, 32, 33, 34, 35, 36, 37, 38, 39, 40, 41] []) (.fin (.cond (.s 42) (.seq (.fin (.reg g_span_Cut_11) [9, 42, 43, 44, 45, 46] [(76, 2)]) (.exit 1)) (.skip)) [42] [])) (.seq (.fin (.reg g_span_Cut_12) [9, 47, 48, 49, 50, 51, 52, 53, 54, 55, 56] [(76, 2)]) c))) (fr_span_Cut_7 p0 p1 v97 v98 v99) k = s_span_Cut_9 cp n p0 p1 v97 v98 v99 (fun v100 v101 => X cp n c (fr_span_Cut_10 p0 p1 v97 v98 v99 v100 v101) k) (fun v102 => k (.exit 1) (fr_span_Cut_22 p0 p1 v97 v99 v102)) from by kernel_rfl)) i_span_Cut_2).trans (congrArg (fun q => s_span_Cut_9 cp n p0 p1 v97 v98 v99 q (fun v102 => k (.exit 1) (fr_span_Cut_22 p0 p1 v97 v99 v102))) (funext fun v100 => funext fun v101 => (s_span_Cut_20_t cp n p0 p1 v97 v98 v99 v100 v101 k).trans (show s_span_Cut_20 cp n p0 p1 v97 v98 v99 v100 v101 (fun v108 => k .norm (fr_span_Cut_19 p0 p1 v97 v99 v108)) = s_span_Cut_20 cp n p0 p1 v97 v98 v99 v100 v101 (fun v108 => k .norm (fr_span_Cut_21 p0 p1 v97 v99 v108)) from by kernel_rfl)))
def fr_span_Cut_24 (p0 : (List SSpan)) (p1 : SSpan) (v97 v99 : Int) (v111 : (List SSpan)) : FF := [dT 3 ((.ptr 73 0) :: (dT 3 ((.row true (.rSpan v111)) :: (dT 8 [])))), dT 9 ((.row false (.rSpan p0)) :: (tL v97) :: (tL v99) :: (dT 4 [])), dc, dc, dT 9 ((.hdr 2) :: ((eSpan p1) ++ (dT 4 []))), dc]
theorem s_span_Cut_25_t {R : Type} (cp : Nat → Nat → Bool) (n : Nat) (p0 : (List SSpan)) (p1 : SSpan) (v97 : Int) (v98 : (List SSpan)) (v99 : Int) (k : Ex → FF → Option R) : X cp n i_span_Cut_4 (fr_span_Cut_7 p0 p1 v97 v98 v99) k = s_span_Cut_25 cp n p0 p1 v97 v98 v99 (fun v111 => k .norm (fr_span_Cut_24 p0 p1 v97 v99 v111)) := (show X cp n i_span_Cut_4 (fr_span_Cut_7 p0 p1 v97 v98 v99) k = X cp n i_span_Cut_3 (fr_span_Cut_7 p0 p1 v97 v98 v99) (blkT 1 k) from by kernel_rfl).trans ((s_span_Cut_23_t cp n p0 p1 v97 v98 v99 (blkT 1 k)).trans (by kernel_rfl))
def fr_span_Cut_27 (p0 : (List SSpan)) (p1 : SSpan) (v97 : Int) (v111 : (List SSpan)) (v112 : Int) : FF := [dT 3 ((.ptr 73 0) :: (dT 3 ((.row true (.rSpan v111)) :: (dT 8 [])))), dT 9 ((.row false (.rSpan p0)) :: (tL v97) :: (tL v112) :: (dT 4 [])), dc, dc, dT 9 ((.hdr 2) :: ((eSpan p1) ++ (dT 4 []))), dc]
theorem s_span_Cut_26_t {R : Type} (cp : Nat → Nat → Bool) (n : Nat) (p0 : (List SSpan)) (p1 : SSpan) (v97 v99 : Int) (v111 : (List SSpan)) (k : Ex → FF → Option R) : X cp n i_span_Cut_5 (fr_span_Cut_24 p0 p1 v97 v99 v111) k = s_span_Cut_26 cp n p0 p1 v97 v99 v111 (fun v112 => k .norm (fr_span_Cut_27 p0 p1 v97 v111 v112)) := by kernel_rfl
def fr_span_Cut_28 (p0 : (List SSpan)) (p1 : SSpan) (v97 : Int) (v113 : (List SSpan)) (v114 : Int) : FF := [dT 3 ((.ptr 73 0) :: (dT 3 ((.row true (.rSpan v113)) :: (dT 8 [])))), dT 9 ((.row false (.rSpan p0)) :: (tL v97) :: (tL v114) :: (dT 4 [])), dc, dc, dT 9 ((.hdr 2) :: ((eSpan p1) ++ (dT 4 []))), dc]
theorem s_span_Cut_29_t {R : Type} (cp : Nat → Nat → Bool) (n : Nat) (p0 : (List SSpan)) (p1 : SSpan) (v97 : Int) (v98 : (List SSpan)) (v99 : Int) (k : Ex → FF → Option R) : X cp n i_span_Cut_6 (fr_span_Cut_7 p0 p1 v97 v98 v99) k = s_span_Cut_29 cp n p0 p1 v97 v98 v99 (fun v113 v114 => k .norm (fr_span_Cut_28 p0 p1 v97 v113 v114)) := (show X cp n i_span_Cut_6 (fr_span_Cut_7 p0 p1 v97 v98 v99) k = X cp n i_span_Cut_4 (fr_span_Cut_7 p0 p1 v97 v98 v99) (seqT (X cp n) i_span_Cut_5 k) from by kernel_rfl).trans ((show X cp n i_span_Cut_4 (fr_span_Cut_7 p0 p1 v97 v98 v99) (seqT (X cp n) i_span_Cut_5 k) = s_span_Cut_25 cp n p0 p1 v97 v98 v99 (fun v111 => X cp n i_span_Cut_5 (fr_span_Cut_24 p0 p1 v97 v99 v111) k) from (s_span_Cut_25_t cp n p0 p1 v97 v98 v99 (seqT (X cp n) i_span_Cut_5 k)).trans (by kernel_rfl)).trans (congrArg (fun q => s_span_Cut_25 cp n p0 p1 v97 v98 v99 q) (funext fun v111 => (s_span_Cut_26_t cp n p0 p1 v97 v99 v111 k).trans (show s_span_Cut_26 cp n p0 p1 v97 v99 v111 (fun v112 => k .norm (fr_span_Cut_27 p0 p1 v97 v111 v112)) = s_span_Cut_26 cp n p0 p1 v97 v99 v111 (fun v112 => k .norm (fr_span_Cut_28 p0 p1 v97 v111 v112)) from by kernel_rfl))))
def fr_span_Cut_30 (p0 : (List SSpan)) (p1 : SSpan) (v97 : Int) (v115 : (List SSpan)) (v116 : Int) : FF := [dT 3 ((.ptr 73 0) :: (dT 3 ((.row true (.rSpan v115)) :: (dT 8 [])))), dT 9 ((.row false (.rSpan p0)) :: (tL v97) :: (tL v116) :: (dT 4 [])), dc, dc, dT 9 ((.hdr 2) :: ((eSpan p1) ++ (dT 4 []))), dc]
theorem s_span_Cut_31_t {R : Type} (cp : Nat → Nat → Bool) (n : Nat) (p0 : (List SSpan)) (p1 : SSpan) (v97 : Int) (v98 : (List SSpan)) (v99 : Int) (k : Ex → FF → Option R) : X cp n i_span_Cut_7 (fr_span_Cut_7 p0 p1 v97 v98 v99) k = s_span_Cut_31 cp n p0 p1 v97 v98 v99 (fun v115 v116 => k .norm (fr_span_Cut_30 p0 p1 v97 v115 v116)) (k (.exit 0) (fr_span_Cut_8 v98)) := ((fun c => (show X cp n (.seq (.reg g_span_Cut_8) (.seq (.fin (.cond (.s 28) (.skip) (.clr [3, 25, 26, 27, 28] [(73, 2)] (.exit 0))) [28] []) c)) (fr_span_Cut_7 p0 p1 v97 v98 v99) k = s_span_Cut_6 cp n p0 p1 v97 v98 v99 (X cp n c (fr_span_Cut_7 p0 p1 v97 v98 v99) k) (k (.exit 0) (fr_span_Cut_8 v98)) from by kernel_rfl)) i_span_Cut_6).trans (congrArg (fun q => s_span_Cut_6 cp n p0 p1 v97 v98 v99 q (k (.exit 0) (fr_span_Cut_8 v98))) ((s_span_Cut_29_t cp n p0 p1 v97 v98 v99 k).trans (show s_span_Cut_29 cp n p0 p1 v97 v98 v99 (fun v113 v114 => k .norm (fr_span_Cut_28 p0 p1 v97 v113 v114)) = s_span_Cut_29 cp n p0 p1 v97 v98 v99 (fun v113 v114 => k .norm (fr_span_Cut_30 p0 p1 v97 v113 v114)) from by kernel_rfl)))
def fr_span_Cut_32 (v117 : (List SSpan)) : FF := [dT 7 ((.row true (.rSpan v117)) :: (dT 8 [])), dc, dc, dc, dc, dc]
theorem l_span_Cut_33_t {R : Type} (cp : Nat → Nat → Bool) (n : Nat) : ∀ (m : Nat) (p0 : (List SSpan)) (p1 : SSpan) (v97 : Int) (v98 : (List SSpan)) (v99 : Int) (k : Ex → FF → Option R), loopN2 (X cp n i_span_Cut_7) m (fr_span_Cut_7 p0 p1 v97 v98 v99) k = l_span_Cut_33 cp n m p0 p1 v97 v98 v99 (fun v117 => k (.exit 0) (fr_span_Cut_32 v117))
  | 0, _, _, _, _, _, _ => rfl
  | m + 1, p0, p1, v97, v98, v99, k => (loopN2_succ (X cp n i_span_Cut_7) m (fr_span_Cut_7 p0 p1 v97 v98 v99) k).trans ((s_span_Cut_31_t cp n p0 p1 v97 v98 v99 (loopT (X cp n i_span_Cut_7) m k)).trans ((show s_span_Cut_31 cp n p0 p1 v97 v98 v99 (fun v115 v116 => loopT (X cp n i_span_Cut_7) m k .norm (fr_span_Cut_30 p0 p1 v97 v115 v116)) (loopT (X cp n i_span_Cut_7) m k (.exit 0) (fr_span_Cut_8 v98)) = s_span_Cut_31 cp n p0 p1 v97 v98 v99 (fun v115 v116 => loopN2 (X cp n i_span_Cut_7) m (fr_span_Cut_7 p0 p1 v97 v115 v116) k) (k (.exit 0) (fr_span_Cut_32 v98)) from by kernel_rfl).trans (congrArg (fun q => s_span_Cut_31 cp n p0 p1 v97 v98 v99 q (k (.exit 0) (fr_span_Cut_32 v98))) (funext fun v115 => funext fun v116 => l_span_Cut_33_t cp n m p0 p1 v97 v115 v116 k))))
theorem s_span_Cut_34_t {R : Type} (cp : Nat → Nat → Bool) (n : Nat) (p0 : (List SSpan)) (p1 : SSpan) (v97 : Int) (k : Ex → FF → Option R) : X cp n i_span_Cut_8 (fr_span_Cut_5 p0 p1 v97) k = s_span_Cut_34 cp n p0 p1 v97 (fun v117 => k (.exit 0) (fr_span_Cut_32 v117)) := (show X cp n i_span_Cut_8 (fr_span_Cut_5 p0 p1 v97) k = loopN2 (X cp n i_span_Cut_7) n (fr_span_Cut_7 p0 p1 v97 [] 0) k from by kernel_rfl).trans (l_span_Cut_33_t cp n n p0 p1 v97 [] 0 k)
def fr_span_Cut_35 (v118 : (List SSpan)) : FF := [dT 7 ((.row true (.rSpan v118)) :: (dT 8 [])), dc, dc, dc, dc, dc]
theorem s_span_Cut_36_t {R : Type} (cp : Nat → Nat → Bool) (n : Nat) (p0 : (List SSpan)) (p1 : SSpan) (v97 : Int) (k : Ex → FF → Option R) : X cp n i_span_Cut_9 (fr_span_Cut_5 p0 p1 v97) k = s_span_Cut_36 cp n p0 p1 v97 (fun v118 => k .norm (fr_span_Cut_35 v118)) := (show X cp n i_span_Cut_9 (fr_span_Cut_5 p0 p1 v97) k = X cp n i_span_Cut_8 (fr_span_Cut_5 p0 p1 v97) (blkT 0 k) from by kernel_rfl).trans ((s_span_Cut_34_t cp n p0 p1 v97 (blkT 0 k)).trans (by kernel_rfl))
def fr_span_Cut_37 (v119 : (List SSpan)) : FF := [dT 7 ((.row true (.rSpan v119)) :: (dT 8 [])), dc, dc, dc, dc, dc]
theorem s_span_Cut_38_t {R : Type} (cp : Nat → Nat → Bool) (n : Nat) (p0 : (List SSpan)) (p1 : SSpan) (k : Ex → FF → Option R) : X cp n i_span_Cut_10 (fr_span_Cut_2 p0 p1) k = s_span_Cut_38 cp n p0 p1 (fun v119 => k .norm (fr_span_Cut_37 v119)) := ((fun c => (show X cp n (.seq (.fin (.reg g_span_Cut_7) [0] []) c) (fr_span_Cut_2 p0 p1) k = s_span_Cut_4 cp n p0 p1 (fun v97 => X cp n c (fr_span_Cut_5 p0 p1 v97) k) from by kernel_rfl)) i_span_Cut_9).trans (congrArg (fun q => s_span_Cut_4 cp n p0 p1 q) (funext fun v97 => (s_span_Cut_36_t cp n p0 p1 v97 k).trans (show s_span_Cut_36 cp n p0 p1 v97 (fun v118 => k .norm (fr_span_Cut_35 v118)) = s_span_Cut_36 cp n p0 p1 v97 (fun v118 => k .norm (fr_span_Cut_37 v118)) from by kernel_rfl)))
def fr_span_Cut_40 (v119 : (List SSpan)) : FF := [dT 4 ((.row false (.rSpan v119)) :: (tL 0) :: (dT 10 [])), dc, dc, dc, dc, dc]
theorem s_span_Cut_39_t {R : Type} (cp : Nat → Nat → Bool) (n : Nat) (v119 : (List SSpan)) (k : Ex → FF → Option R) : X cp n i_span_Cut_11 (fr_span_Cut_37 v119) k = s_span_Cut_39 cp n v119 (k .ret (fr_span_Cut_40 v119)) := by kernel_rfl
def fr_span_Cut_41 (v120 : (List SSpan)) : FF := [dT 4 ((.row false (.rSpan v120)) :: (tL 0) :: (dT 10 [])), dc, dc, dc, dc, dc]
theorem s_span_Cut_42_t {R : Type} (cp : Nat → Nat → Bool) (n : Nat) (p0 : (List SSpan)) (p1 : SSpan) (k : Ex → FF → Option R) : X cp n i_span_Cut_12 (fr_span_Cut_2 p0 p1) k = s_span_Cut_42 cp n p0 p1 (fun v120 => k .ret (fr_span_Cut_41 v120)) := (show X cp n i_span_Cut_12 (fr_span_Cut_2 p0 p1) k = X cp n i_span_Cut_10 (fr_span_Cut_2 p0 p1) (seqT (X cp n) i_span_Cut_11 k) from by kernel_rfl).trans ((show X cp n i_span_Cut_10 (fr_span_Cut_2 p0 p1) (seqT (X cp n) i_span_Cut_11 k) = s_span_Cut_38 cp n p0 p1 (fun v119 => X cp n i_span_Cut_11 (fr_span_Cut_37 v119) k) from (s_span_Cut_38_t cp n p0 p1 (seqT (X cp n) i_span_Cut_11 k)).trans (by kernel_rfl)).trans (congrArg (fun q => s_span_Cut_38 cp n p0 p1 q) (funext fun v119 => (s_span_Cut_39_t cp n v119 k).trans (show s_span_Cut_39 cp n v119 (k .ret (fr_span_Cut_40 v119)) = s_span_Cut_39 cp n v119 (k .ret (fr_span_Cut_41 v119)) from by kernel_rfl))))
def fr_span_Cut_43 (v121 : (List SSpan)) (v122 : Int) : FF := [dT 4 ((.row false (.rSpan v121)) :: (tL v122) :: (dT 10 [])), dc, dc, dc, dc, dc]
def fr_span_Cut_45 (p0 : (List SSpan)) (p1 : SSpan) : FF := [(.row false (.rSpan p0)) :: (.agg (eSpan p1)) :: (dT 14 []), dc, dc, dc, dc, dc]
theorem s_span_Cut_44_t {R : Type} (cp : Nat → Nat → Bool) (n : Nat) (p0 : (List SSpan)) (p1 : SSpan) (k : Ex → FF → Option R) : X cp n i_span_Cut_13 (fr_span_Cut_45 p0 p1) k = s_span_Cut_44 cp n p0 p1 (fun v121 v122 => k .ret (fr_span_Cut_43 v121 v122)) := ((fun c => (show X cp n (.seq (.fin (.reg g_span_Cut_0) [1, 4, 5] []) (.seq (.seq (.fin (.reg g_span_Cut_1) [12, 13, 14] []) (.seq (.fin (.reg g_span_Cut_2) [15] []) (.fin (.cond (.s 16) (.seq (.fin (.reg g_span_Cut_3) [0, 3, 6, 16, 17] [(73, 2)]) (.ret)) (.skip)) [6, 16] []))) (.seq (.seq (.fin (.reg g_span_Cut_4) [18, 19, 20, 21] []) (.fin (.cond (.s 22) (.seq (.fin (.reg g_span_Cut_5) [0, 3, 22, 23, 24] [(73, 2)]) (.ret)) (.skip)) [22] [])) (.seq (.reg g_span_Cut_6) (.seq (.skip) c))))) (fr_span_Cut_45 p0 p1) k = s_span_Cut_1 cp n p0 p1 (X cp n c (fr_span_Cut_2 p0 p1) k) (fun v95 v96 => k .ret (fr_span_Cut_43 v95 v96)) from by kernel_rfl)) i_span_Cut_12).trans (congrArg (fun q => s_span_Cut_1 cp n p0 p1 q (fun v95 v96 => k .ret (fr_span_Cut_43 v95 v96))) ((s_span_Cut_42_t cp n p0 p1 k).trans (show s_span_Cut_42 cp n p0 p1 (fun v120 => k .ret (fr_span_Cut_41 v120)) = s_span_Cut_42 cp n p0 p1 (fun v120 => k .ret (fr_span_Cut_43 v120 0)) from by kernel_rfl)))
theorem run_span_Cut {R : Type} (cp : Nat → Nat → Bool) (n : Nat) (p0 : (List SSpan)) (p1 : SSpan) (k : Ret2 RW → Option R) : G_span_Cut cp (n + 1) p0 p1 (fun r0 r1 => k ⟨.tup [.row false (.rSpan r0), (tL r1)], [], []⟩) = run2 U cp (callP cp n) n fn_span_Cut [.row false (.rSpan p0), .agg (eSpan p1)] [] k := ((X_run (f := fn_span_Cut) (av := [.row false (.rSpan p0), .agg (eSpan p1)]) (cells := []) (code := i_span_Cut_13) (fr := (fr_span_Cut_45 p0 p1)) (k := k) (by kernel_rfl) (fun K => by kernel_rfl)).trans ((s_span_Cut_44_t cp n p0 p1 (finK2 fn_span_Cut k)).trans (by kernel_rfl))).symm
/-! tideway/tidewayref06.Cut -/
def fr_ref06_Cut_2 (p0 : (List SSpan)) (p1 : SSpan) : FF := [(.row false (.rSpan p0)) :: (dT 2 ((.ptr 81 0) :: (dT 2 ((.row true (.rSpan [])) :: (dT 9 []))))), dc, dc, dc, dc, dT 1 ((.hdr 2) :: ((eSpan p1) ++ (dT 12 [])))]
def fr_ref06_Cut_3 (v130 : Int) : FF := [dT 4 ((.row false (.rSpan [])) :: (tL v130) :: (dT 10 [])), dc, dc, dc, dc, dc]
def fr_ref06_Cut_5 (p0 : (List SSpan)) (p1 : SSpan) : FF := [(.row false (.rSpan p0)) :: (dT 2 ((.ptr 81 0) :: (dT 2 ((.row true (.rSpan [])) :: (tL 0) :: (dT 8 []))))), dc, dc, dc, dc, dT 1 ((.hdr 2) :: ((eSpan p1) ++ (dT 12 [])))]
def fr_ref06_Cut_7 (p0 : (List SSpan)) (p1 : SSpan) (v133 : (List SSpan)) (v134 : Int) : FF := [(.row false (.rSpan p0)) :: (dT 2 ((.ptr 81 0) :: (dT 2 ((.row true (.rSpan v133)) :: (tL v134) :: (dT 8 []))))), dc, dc, dc, dc, dT 1 ((.hdr 2) :: ((eSpan p1) ++ (dT 12 [])))]
def fr_ref06_Cut_8 (v131 : (List SSpan)) : FF := [dT 6 ((.row true (.rSpan v131)) :: (dT 9 [])), dc, dc, dc, dc, dc]
def fr_ref06_Cut_9 (p0 : (List SSpan)) (p1 : SSpan) (v131 : (List SSpan)) (v132 : Int) : FF := [(.row false (.rSpan p0)) :: (dT 2 ((.ptr 81 0) :: (dT 2 ((.row true (.rSpan v131)) :: (tL v132) :: (dT 8 []))))), dc, dc, dc, dc, dT 1 ((.hdr 2) :: ((eSpan p1) ++ (dT 12 [])))]
theorem s_ref06_Cut_6_t {R : Type} (cp : Nat → Nat → Bool) (n : Nat) (p0 : (List SSpan)) (p1 : SSpan) (v131 : (List SSpan)) (v132 : Int) (k : Ex → FF → Option R) : X cp n i_ref06_Cut_0 (fr_ref06_Cut_9 p0 p1 v131 v132) k = s_ref06_Cut_6 cp n p0 p1 v131 v132 (fun v133 v134 => k .norm (fr_ref06_Cut_7 p0 p1 v133 v134)) (k (.exit 0) (fr_ref06_Cut_8 v131)) := by kernel_rfl
def fr_ref06_Cut_10 (v135 : (List SSpan)) : FF := [dT 6 ((.row true (.rSpan v135)) :: (dT 9 [])), dc, dc, dc, dc, dc]
theorem l_ref06_Cut_11_t {R : Type} (cp : Nat → Nat → Bool) (n : Nat) : ∀ (m : Nat) (p0 : (List SSpan)) (p1 : SSpan) (v131 : (List SSpan)) (v132 : Int) (k : Ex → FF → Option R), loopN2 (X cp n i_ref06_Cut_0) m (fr_ref06_Cut_9 p0 p1 v131 v132) k = l_ref06_Cut_11 cp n m p0 p1 v131 v132 (fun v135 => k (.exit 0) (fr_ref06_Cut_10 v135))
  | 0, _, _, _, _, _ => rfl
  | m + 1, p0, p1, v131, v132, k => (loopN2_succ (X cp n i_ref06_Cut_0) m (fr_ref06_Cut_9 p0 p1 v131 v132) k).trans ((s_ref06_Cut_6_t cp n p0 p1 v131 v132 (loopT (X cp n i_ref06_Cut_0) m k)).trans ((show s_ref06_Cut_6 cp n p0 p1 v131 v132 (fun v133 v134 => loopT (X cp n i_ref06_Cut_0) m k .norm (fr_ref06_Cut_7 p0 p1 v133 v134)) (loopT (X cp n i_ref06_Cut_0) m k (.exit 0) (fr_ref06_Cut_8 v131)) = s_ref06_Cut_6 cp n p0 p1 v131 v132 (fun v133 v134 => loopN2 (X cp n i_ref06_Cut_0) m (fr_ref06_Cut_9 p0 p1 v133 v134) k) (k (.exit 0) (fr_ref06_Cut_10 v131)) from by kernel_rfl).trans (congrArg (fun q => s_ref06_Cut_6 cp n p0 p1 v131 v132 q (k (.exit 0) (fr_ref06_Cut_10 v131))) (funext fun v133 => funext fun v134 => l_ref06_Cut_11_t cp n m p0 p1 v133 v134 k))))
theorem s_ref06_Cut_12_t {R : Type} (cp : Nat → Nat → Bool) (n : Nat) (p0 : (List SSpan)) (p1 : SSpan) (k : Ex → FF → Option R) : X cp n i_ref06_Cut_1 (fr_ref06_Cut_5 p0 p1) k = s_ref06_Cut_12 cp n p0 p1 (fun v135 => k (.exit 0) (fr_ref06_Cut_10 v135)) := (show X cp n i_ref06_Cut_1 (fr_ref06_Cut_5 p0 p1) k = loopN2 (X cp n i_ref06_Cut_0) n (fr_ref06_Cut_9 p0 p1 [] 0) k from by kernel_rfl).trans (l_ref06_Cut_11_t cp n n p0 p1 [] 0 k)
def fr_ref06_Cut_13 (v136 : (List SSpan)) : FF := [dT 6 ((.row true (.rSpan v136)) :: (dT 9 [])), dc, dc, dc, dc, dc]
theorem s_ref06_Cut_14_t {R : Type} (cp : Nat → Nat → Bool) (n : Nat) (p0 : (List SSpan)) (p1 : SSpan) (k : Ex → FF → Option R) : X cp n i_ref06_Cut_2 (fr_ref06_Cut_5 p0 p1) k = s_ref06_Cut_14 cp n p0 p1 (fun v136 => k .norm (fr_ref06_Cut_13 v136)) := (show X cp n i_ref06_Cut_2 (fr_ref06_Cut_5 p0 p1) k = X cp n i_ref06_Cut_1 (fr_ref06_Cut_5 p0 p1) (blkT 0 k) from by kernel_rfl).trans ((s_ref06_Cut_12_t cp n p0 p1 (blkT 0 k)).trans (by kernel_rfl))
def fr_ref06_Cut_15 (v137 : (List SSpan)) : FF := [dT 6 ((.row true (.rSpan v137)) :: (dT 9 [])), dc, dc, dc, dc, dc]
theorem s_ref06_Cut_16_t {R : Type} (cp : Nat → Nat → Bool) (n : Nat) (p0 : (List SSpan)) (p1 : SSpan) (k : Ex → FF → Option R) : X cp n i_ref06_Cut_3 (fr_ref06_Cut_2 p0 p1) k = s_ref06_Cut_16 cp n p0 p1 (fun v137 => k .norm (fr_ref06_Cut_15 v137)) := ((fun c => (show X cp n (.seq (.reg g_ref06_Cut_6) c) (fr_ref06_Cut_2 p0 p1) k = s_ref06_Cut_4 cp n p0 p1 (X cp n c (fr_ref06_Cut_5 p0 p1) k) from by kernel_rfl)) i_ref06_Cut_2).trans (congrArg (fun q => s_ref06_Cut_4 cp n p0 p1 q) ((s_ref06_Cut_14_t cp n p0 p1 k).trans (show s_ref06_Cut_14 cp n p0 p1 (fun v136 => k .norm (fr_ref06_Cut_13 v136)) = s_ref06_Cut_14 cp n p0 p1 (fun v136 => k .norm (fr_ref06_Cut_15 v136)) from by kernel_rfl)))
def fr_ref06_Cut_18 (v137 : (List SSpan)) : FF := [dT 4 ((.row false (.rSpan v137)) :: (tL 0) :: (dT 10 [])), dc, dc, dc, dc, dc]
theorem s_ref06_Cut_17_t {R : Type} (cp : Nat → Nat → Bool) (n : Nat) (v137 : (List SSpan)) (k : Ex → FF → Option R) : X cp n i_ref06_Cut_4 (fr_ref06_Cut_15 v137) k = s_ref06_Cut_17 cp n v137 (k .ret (fr_ref06_Cut_18 v137)) := by kernel_rfl
def fr_ref06_Cut_19 (v138 : (List SSpan)) : FF := [dT 4 ((.row false (.rSpan v138)) :: (tL 0) :: (dT 10 [])), dc, dc, dc, dc, dc]
theorem s_ref06_Cut_20_t {R : Type} (cp : Nat → Nat → Bool) (n : Nat) (p0 : (List SSpan)) (p1 : SSpan) (k : Ex → FF → Option R) : X cp n i_ref06_Cut_5 (fr_ref06_Cut_2 p0 p1) k = s_ref06_Cut_20 cp n p0 p1 (fun v138 => k .ret (fr_ref06_Cut_19 v138)) := (show X cp n i_ref06_Cut_5 (fr_ref06_Cut_2 p0 p1) k = X cp n i_ref06_Cut_3 (fr_ref06_Cut_2 p0 p1) (seqT (X cp n) i_ref06_Cut_4 k) from by kernel_rfl).trans ((show X cp n i_ref06_Cut_3 (fr_ref06_Cut_2 p0 p1) (seqT (X cp n) i_ref06_Cut_4 k) = s_ref06_Cut_16 cp n p0 p1 (fun v137 => X cp n i_ref06_Cut_4 (fr_ref06_Cut_15 v137) k) from (s_ref06_Cut_16_t cp n p0 p1 (seqT (X cp n) i_ref06_Cut_4 k)).trans (by kernel_rfl)).trans (congrArg (fun q => s_ref06_Cut_16 cp n p0 p1 q) (funext fun v137 => (s_ref06_Cut_17_t cp n v137 k).trans (show s_ref06_Cut_17 cp n v137 (k .ret (fr_ref06_Cut_18 v137)) = s_ref06_Cut_17 cp n v137 (k .ret (fr_ref06_Cut_19 v137)) from by kernel_rfl))))
def fr_ref06_Cut_21 (v139 : (List SSpan)) (v140 : Int) : FF := [dT 4 ((.row false (.rSpan v139)) :: (tL v140) :: (dT 10 [])), dc, dc, dc, dc, dc]
def fr_ref06_Cut_23 (p0 : (List SSpan)) (p1 : SSpan) : FF := [(.row false (.rSpan p0)) :: (.agg (eSpan p1)) :: (dT 14 []), dc, dc, dc, dc, dc]
theorem s_ref06_Cut_22_t {R : Type} (cp : Nat → Nat → Bool) (n : Nat) (p0 : (List SSpan)) (p1 : SSpan) (k : Ex → FF → Option R) : X cp n i_ref06_Cut_6 (fr_ref06_Cut_23 p0 p1) k = s_ref06_Cut_22 cp n p0 p1 (fun v139 v140 => k .ret (fr_ref06_Cut_21 v139 v140)) := ((fun c => (show X cp n (.seq (.fin (.reg g_ref06_Cut_0) [1, 4, 5] []) (.seq (.seq (.fin (.reg g_ref06_Cut_1) [10, 11] []) (.fin (.cond (.s 12) (.seq (.fin (.reg g_ref06_Cut_2) [0, 3, 12] [(81, 2)]) (.ret)) (.skip)) [12] [])) (.seq (.seq (.fin (.reg g_ref06_Cut_3) [13, 14] []) (.fin (.cond (.s 15) (.seq (.fin (.reg g_ref06_Cut_4) [0, 3, 15] [(81, 2)]) (.ret)) (.skip)) [15] [])) (.seq (.reg g_ref06_Cut_5) c)))) (fr_ref06_Cut_23 p0 p1) k = s_ref06_Cut_1 cp n p0 p1 (X cp n c (fr_ref06_Cut_2 p0 p1) k) (fun v130 => k .ret (fr_ref06_Cut_21 [] v130)) from by kernel_rfl)) i_ref06_Cut_5).trans (congrArg (fun q => s_ref06_Cut_1 cp n p0 p1 q (fun v130 => k .ret (fr_ref06_Cut_21 [] v130))) ((s_ref06_Cut_20_t cp n p0 p1 k).trans (show s_ref06_Cut_20 cp n p0 p1 (fun v138 => k .ret (fr_ref06_Cut_19 v138)) = s_ref06_Cut_20 cp n p0 p1 (fun v138 => k .ret (fr_ref06_Cut_21 v138 0)) from by kernel_rfl)))
theorem run_ref06_Cut {R : Type} (cp : Nat → Nat → Bool) (n : Nat) (p0 : (List SSpan)) (p1 : SSpan) (k : Ret2 RW → Option R) : G_ref06_Cut cp (n + 1) p0 p1 (fun r0 r1 => k ⟨.tup [.row false (.rSpan r0), (tL r1)], [], []⟩) = run2 U cp (callP cp n) n fn_ref06_Cut [.row false (.rSpan p0), .agg (eSpan p1)] [] k := ((X_run (f := fn_ref06_Cut) (av := [.row false (.rSpan p0), .agg (eSpan p1)]) (cells := []) (code := i_ref06_Cut_6) (fr := (fr_ref06_Cut_23 p0 p1)) (k := k) (by kernel_rfl) (fun K => by kernel_rfl)).trans ((s_ref06_Cut_22_t cp n p0 p1 (finK2 fn_ref06_Cut k)).trans (by kernel_rfl))).symm
/-! tideway/tidewayref06.Same -/
def fr_ref06_Same_2 (p0 p1 : (List SSpan)) : FF := [(.row false (.rSpan p0)) :: (.row false (.rSpan p1)) :: (dT 14 []), dc]
def fr_ref06_Same_3 : FF := [dT 4 ((tB false) :: (dT 11 [])), dc]
def fr_ref06_Same_5 (p0 p1 : (List SSpan)) : FF := [(.row false (.rSpan p0)) :: (.row false (.rSpan p1)) :: (dT 3 ((tL 0) :: (dT 10 []))), dc]
def fr_ref06_Same_7 (p0 p1 : (List SSpan)) (v144 : Int) : FF := [(.row false (.rSpan p0)) :: (.row false (.rSpan p1)) :: (dT 3 ((tL v144) :: (dT 10 []))), dc]
def fr_ref06_Same_8 : FF := [dc, dc]
def fr_ref06_Same_9 (p0 p1 : (List SSpan)) (v143 : Int) : FF := [(.row false (.rSpan p0)) :: (.row false (.rSpan p1)) :: (dT 3 ((tL v143) :: (dT 10 []))), dc]
theorem s_ref06_Same_6_t {R : Type} (cp : Nat → Nat → Bool) (n : Nat) (p0 p1 : (List SSpan)) (v143 : Int) (k : Ex → FF → Option R) : X cp n i_ref06_Same_0 (fr_ref06_Same_9 p0 p1 v143) k = s_ref06_Same_6 cp n p0 p1 v143 (fun v144 => k .norm (fr_ref06_Same_7 p0 p1 v144)) (k .ret fr_ref06_Same_3) (k (.exit 0) fr_ref06_Same_8) := by kernel_rfl
theorem l_ref06_Same_10_t {R : Type} (cp : Nat → Nat → Bool) (n : Nat) : ∀ (m : Nat) (p0 p1 : (List SSpan)) (v143 : Int) (k : Ex → FF → Option R), loopN2 (X cp n i_ref06_Same_0) m (fr_ref06_Same_9 p0 p1 v143) k = l_ref06_Same_10 cp n m p0 p1 v143 (k .ret fr_ref06_Same_3) (k (.exit 0) fr_ref06_Same_8)
  | 0, _, _, _, _ => rfl
  | m + 1, p0, p1, v143, k => (loopN2_succ (X cp n i_ref06_Same_0) m (fr_ref06_Same_9 p0 p1 v143) k).trans ((s_ref06_Same_6_t cp n p0 p1 v143 (loopT (X cp n i_ref06_Same_0) m k)).trans ((show s_ref06_Same_6 cp n p0 p1 v143 (fun v144 => loopT (X cp n i_ref06_Same_0) m k .norm (fr_ref06_Same_7 p0 p1 v144)) (loopT (X cp n i_ref06_Same_0) m k .ret fr_ref06_Same_3) (loopT (X cp n i_ref06_Same_0) m k (.exit 0) fr_ref06_Same_8) = s_ref06_Same_6 cp n p0 p1 v143 (fun v144 => loopN2 (X cp n i_ref06_Same_0) m (fr_ref06_Same_9 p0 p1 v144) k) (k .ret fr_ref06_Same_3) (k (.exit 0) fr_ref06_Same_8) from by kernel_rfl).trans (congrArg (fun q => s_ref06_Same_6 cp n p0 p1 v143 q (k .ret fr_ref06_Same_3) (k (.exit 0) fr_ref06_Same_8)) (funext fun v144 => l_ref06_Same_10_t cp n m p0 p1 v144 k))))
theorem s_ref06_Same_11_t {R : Type} (cp : Nat → Nat → Bool) (n : Nat) (p0 p1 : (List SSpan)) (k : Ex → FF → Option R) : X cp n i_ref06_Same_1 (fr_ref06_Same_5 p0 p1) k = s_ref06_Same_11 cp n p0 p1 (k .ret fr_ref06_Same_3) (k (.exit 0) fr_ref06_Same_8) := (show X cp n i_ref06_Same_1 (fr_ref06_Same_5 p0 p1) k = loopN2 (X cp n i_ref06_Same_0) n (fr_ref06_Same_9 p0 p1 0) k from by kernel_rfl).trans (l_ref06_Same_10_t cp n n p0 p1 0 k)
theorem s_ref06_Same_12_t {R : Type} (cp : Nat → Nat → Bool) (n : Nat) (p0 p1 : (List SSpan)) (k : Ex → FF → Option R) : X cp n i_ref06_Same_2 (fr_ref06_Same_5 p0 p1) k = s_ref06_Same_12 cp n p0 p1 (k .norm fr_ref06_Same_8) (k .ret fr_ref06_Same_3) := (show X cp n i_ref06_Same_2 (fr_ref06_Same_5 p0 p1) k = X cp n i_ref06_Same_1 (fr_ref06_Same_5 p0 p1) (blkT 0 k) from by kernel_rfl).trans ((s_ref06_Same_11_t cp n p0 p1 (blkT 0 k)).trans (by kernel_rfl))
theorem s_ref06_Same_13_t {R : Type} (cp : Nat → Nat → Bool) (n : Nat) (p0 p1 : (List SSpan)) (k : Ex → FF → Option R) : X cp n i_ref06_Same_3 (fr_ref06_Same_2 p0 p1) k = s_ref06_Same_13 cp n p0 p1 (k .norm fr_ref06_Same_8) (k .ret fr_ref06_Same_3) := ((fun c => (show X cp n (.seq (.reg g_ref06_Same_3) c) (fr_ref06_Same_2 p0 p1) k = s_ref06_Same_4 cp n p0 p1 (X cp n c (fr_ref06_Same_5 p0 p1) k) from by kernel_rfl)) i_ref06_Same_2).trans (congrArg (fun q => s_ref06_Same_4 cp n p0 p1 q) (s_ref06_Same_12_t cp n p0 p1 k))
def fr_ref06_Same_15 : FF := [dT 4 ((tB true) :: (dT 11 [])), dc]
theorem s_ref06_Same_14_t {R : Type} (cp : Nat → Nat → Bool) (n : Nat) (k : Ex → FF → Option R) : X cp n i_ref06_Same_4 fr_ref06_Same_8 k = s_ref06_Same_14 cp n (k .ret fr_ref06_Same_15) := by kernel_rfl
def fr_ref06_Same_16 (v145 : Bool) : FF := [dT 4 ((tB v145) :: (dT 11 [])), dc]
theorem s_ref06_Same_17_t {R : Type} (cp : Nat → Nat → Bool) (n : Nat) (p0 p1 : (List SSpan)) (k : Ex → FF → Option R) : X cp n i_ref06_Same_5 (fr_ref06_Same_2 p0 p1) k = s_ref06_Same_17 cp n p0 p1 (fun v145 => k .ret (fr_ref06_Same_16 v145)) := (show X cp n i_ref06_Same_5 (fr_ref06_Same_2 p0 p1) k = X cp n i_ref06_Same_3 (fr_ref06_Same_2 p0 p1) (seqT (X cp n) i_ref06_Same_4 k) from by kernel_rfl).trans ((show X cp n i_ref06_Same_3 (fr_ref06_Same_2 p0 p1) (seqT (X cp n) i_ref06_Same_4 k) = s_ref06_Same_13 cp n p0 p1 (X cp n i_ref06_Same_4 fr_ref06_Same_8 k) (k .ret (fr_ref06_Same_16 false)) from (s_ref06_Same_13_t cp n p0 p1 (seqT (X cp n) i_ref06_Same_4 k)).trans (by kernel_rfl)).trans (congrArg (fun q => s_ref06_Same_13 cp n p0 p1 q (k .ret (fr_ref06_Same_16 false))) ((s_ref06_Same_14_t cp n  k).trans (show s_ref06_Same_14 cp n (k .ret fr_ref06_Same_15) = s_ref06_Same_14 cp n (k .ret (fr_ref06_Same_16 true)) from by kernel_rfl))))
def fr_ref06_Same_18 (v146 : Bool) : FF := [dT 4 ((tB v146) :: (dT 11 [])), dc]
theorem s_ref06_Same_19_t {R : Type} (cp : Nat → Nat → Bool) (n : Nat) (p0 p1 : (List SSpan)) (k : Ex → FF → Option R) : X cp n i_ref06_Same_6 (fr_ref06_Same_2 p0 p1) k = s_ref06_Same_19 cp n p0 p1 (fun v146 => k .ret (fr_ref06_Same_18 v146)) := ((fun c => (show X cp n (.seq (.fin (.reg g_ref06_Same_0) [4] []) (.seq (.seq (.fin (.reg g_ref06_Same_1) [6, 7, 8, 9] []) (.fin (.cond (.s 10) (.seq (.fin (.reg g_ref06_Same_2) [0, 1, 10] []) (.ret)) (.skip)) [10] [])) c)) (fr_ref06_Same_2 p0 p1) k = s_ref06_Same_1 cp n p0 p1 (X cp n c (fr_ref06_Same_2 p0 p1) k) (k .ret (fr_ref06_Same_18 false)) from by kernel_rfl)) i_ref06_Same_5).trans (congrArg (fun q => s_ref06_Same_1 cp n p0 p1 q (k .ret (fr_ref06_Same_18 false))) ((s_ref06_Same_17_t cp n p0 p1 k).trans (show s_ref06_Same_17 cp n p0 p1 (fun v145 => k .ret (fr_ref06_Same_16 v145)) = s_ref06_Same_17 cp n p0 p1 (fun v145 => k .ret (fr_ref06_Same_18 v145)) from by kernel_rfl)))
theorem run_ref06_Same {R : Type} (cp : Nat → Nat → Bool) (n : Nat) (p0 p1 : (List SSpan)) (k : Ret2 RW → Option R) : G_ref06_Same cp (n + 1) p0 p1 (fun r0 => k ⟨(tB r0), [], []⟩) = run2 U cp (callP cp n) n fn_ref06_Same [.row false (.rSpan p0), .row false (.rSpan p1)] [] k := ((X_run (f := fn_ref06_Same) (av := [.row false (.rSpan p0), .row false (.rSpan p1)]) (cells := []) (code := i_ref06_Same_6) (fr := (fr_ref06_Same_2 p0 p1)) (k := k) (by kernel_rfl) (fun K => by kernel_rfl)).trans ((s_ref06_Same_19_t cp n p0 p1 (finK2 fn_ref06_Same k)).trans (by kernel_rfl))).symm
/-! tideway/span.within -/
theorem run_span_within {R : Type} (cp : Nat → Nat → Bool) (n : Nat) (p0 : (List SSpan)) (p1 : SSpan) (k : Ret2 RW → Option R) : G_span_within cp (n + 1) p0 p1 (fun r0 r1 => k ⟨.clo 22 [(6, 0), (8, 0)], [], [[.row false (.rSpan r0)], (eSpan r1)]⟩) = run2 U cp (callP cp n) n fn_span_within [.row false (.rSpan p0), .agg (eSpan p1)] [] k := by kernel_rfl
/-! tideway/span.Gaps -/
def fr_span_Gaps_2 (p0 : (List SSpan)) (p1 : SSpan) : FF := [(.row false (.rSpan p0)) :: (dT 2 ((.ptr 64 0) :: (dT 1 ((.ptr 67 0) :: (.ptr 69 0) :: (dT 9 []))))), dc, dc, dc, (.hdr 2) :: ((eSpan p1) ++ ((.hdr 1) :: (.row true (.rSpan [])) :: (.hdr 1) :: (tL p1.xFrom) :: (dT 9 []))), dc]
def fr_span_Gaps_3 : FF := [dT 4 ((.row false (.rSpan [])) :: (dT 11 [])), dc, dc, dc, dc, dc]
def fr_span_Gaps_5 (p1 : SSpan) (v42 : (List SSpan)) (v43 v44 : Int) : FF := [dT 3 ((.ptr 64 0) :: (dT 1 ((.ptr 67 0) :: (.ptr 69 0) :: (dT 9 [])))), dT 6 ((.clo 22 [(74, 0), (76, 0)]) :: (dT 9 [])), dc, dc, (.hdr 2) :: ((eSpan p1) ++ ((.hdr 1) :: (.row true (.rSpan [])) :: (.hdr 1) :: (tL p1.xFrom) :: (dT 3 ((.hdr 1) :: (.row false (.rSpan v42)) :: (.hdr 2) :: (tL v43) :: (tL v44) :: (dT 1 []))))), dc]
def fr_span_Gaps_7 : FF := [dT 3 ((.ptr 64 0) :: (dT 1 ((.ptr 67 0) :: (.ptr 69 0) :: (dT 9 [])))), dT 6 ((.clo 22 [(74, 0), (76, 0)]) :: (dT 9 [])), dc, dc, dc, dc]
def y_span_Gaps_6 {R : Type} (cp : Nat → Nat → Bool) (n : Nat) : List (TV RW) → FF → (FF → Option R) → Option R := rndT 4 [23] [64, 67, 69, 74, 76, 79, 82] fr_span_Gaps_7 (X cp n i_span_Gaps_2)
def fr_span_Gaps_9 (p1 : SSpan) (v42 : (List SSpan)) (v43 v44 v45 : Int) : FF := [.yld :: (dT 1 ((.ptr 76 0) :: (dT 4 ((.row false (.rSpan v42)) :: (tL v45) :: (tL 0) :: (dT 6 []))))), dc, dc, dc, (.hdr 2) :: ((eSpan p1) ++ ((.hdr 1) :: (.row true (.rSpan [])) :: (.hdr 1) :: (tL p1.xFrom) :: (dT 3 ((.hdr 1) :: (.row false (.rSpan v42)) :: (.hdr 2) :: (tL v43) :: (tL v44) :: (dT 1 []))))), dc]
def fr_span_Gaps_11 (p1 : SSpan) (v42 : (List SSpan)) (v43 v44 v45 v46 : Int) (v47 : (List SSpan)) (v48 : Int) : FF := [.yld :: (dT 1 ((.ptr 76 0) :: (dT 4 ((.row false (.rSpan v42)) :: (tL v45) :: (tL v46) :: (dT 6 []))))), dc, dc, dc, (.hdr 2) :: ((eSpan p1) ++ ((.hdr 1) :: (.row true (.rSpan v47)) :: (.hdr 1) :: (tL v48) :: (dT 3 ((.hdr 1) :: (.row false (.rSpan v42)) :: (.hdr 2) :: (tL v43) :: (tL v44) :: (dT 1 []))))), dc]
def fr_span_Gaps_12 (p1 : SSpan) (v42 : (List SSpan)) (v43 v44 : Int) (v47 : (List SSpan)) (v48 : Int) : FF := [dc, dc, dc, dc, (.hdr 2) :: ((eSpan p1) ++ ((.hdr 1) :: (.row true (.rSpan v47)) :: (.hdr 1) :: (tL v48) :: (dT 3 ((.hdr 1) :: (.row false (.rSpan v42)) :: (.hdr 2) :: (tL v43) :: (tL v44) :: (dT 1 []))))), dc]
def fr_span_Gaps_14 (p1 : SSpan) (v42 : (List SSpan)) (v43 v44 v45 v46 : Int) (v47 : (List SSpan)) (v48 v49 v50 : Int) : FF := [.yld :: (dT 1 ((.ptr 76 0) :: (dT 3 ((.ptr 82 0) :: (.row false (.rSpan v42)) :: (tL v45) :: (tL v46) :: (dT 6 []))))), dc, dc, dc, (.hdr 2) :: ((eSpan p1) ++ ((.hdr 1) :: (.row true (.rSpan v47)) :: (.hdr 1) :: (tL v48) :: (dT 3 ((.hdr 1) :: (.row false (.rSpan v42)) :: (.hdr 2) :: (tL v43) :: (tL v44) :: (dT 1 []))))), dT 2 ((.hdr 2) :: (tL v49) :: (tL v50) :: (dT 11 []))]
def fr_span_Gaps_16 (p1 : SSpan) (v42 : (List SSpan)) (v43 v44 v45 v46 : Int) (v47 : (List SSpan)) (v48 v49 v50 : Int) (v51 : Bool) : FF := [.yld :: (dT 1 ((.ptr 76 0) :: (dT 3 ((.ptr 82 0) :: (.row false (.rSpan v42)) :: (tL v45) :: (tL v46) :: (dT 6 []))))), dT 8 ([.ptr 82 0, (tL v49), .ptr 82 1, (tL v50), (tB v51), (tB true), .yld, .agg [(tL v49), (tL v50)]]), dc, dc, (.hdr 2) :: ((eSpan p1) ++ ((.hdr 1) :: (.row true (.rSpan v47)) :: (.hdr 1) :: (tL v48) :: (dT 3 ((.hdr 1) :: (.row false (.rSpan v42)) :: (.hdr 2) :: (tL v43) :: (tL v44) :: (dT 1 []))))), dT 2 ((.hdr 2) :: (tL v49) :: (tL v50) :: (dT 11 []))]
def fr_span_Gaps_17 (p1 : SSpan) (v42 : (List SSpan)) (v43 v44 v45 v46 : Int) (v47 : (List SSpan)) (v48 v49 v50 : Int) (v52 : Bool) : FF := [.yld :: (dT 1 ((.ptr 76 0) :: (dT 3 ((.ptr 82 0) :: (.row false (.rSpan v42)) :: (tL v45) :: (tL v46) :: (dT 6 []))))), dT 8 ([.ptr 82 0, (tL v49), .ptr 82 1, (tL v50), (tB v52), (tB false), .tup [], .tup []]), dc, dc, (.hdr 2) :: ((eSpan p1) ++ ((.hdr 1) :: (.row true (.rSpan v47)) :: (.hdr 1) :: (tL v48) :: (dT 3 ((.hdr 1) :: (.row false (.rSpan v42)) :: (.hdr 2) :: (tL v43) :: (tL v44) :: (dT 1 []))))), dT 2 ((.hdr 2) :: (tL v49) :: (tL v50) :: (dT 11 []))]
theorem s_span_Gaps_15_t {R : Type} (cp : Nat → Nat → Bool) (n : Nat) (p1 : SSpan) (v42 : (List SSpan)) (v43 v44 v45 v46 : Int) (v47 : (List SSpan)) (v48 v49 v50 : Int) (A B : FF → Option R) : (gF (fr_span_Gaps_14 p1 v42 v43 v44 v45 v46 v47 v48 v49 v50) fun l => steps2 U cp (callP cp n) g_span_Gaps_10041 l fun l1 => yGuard2 (some (29, true)) l1 (A l1) (B l1)) = s_span_Gaps_15 cp n p1 v42 v43 v44 v45 v46 v47 v48 v49 v50 (fun v51 => A (fr_span_Gaps_16 p1 v42 v43 v44 v45 v46 v47 v48 v49 v50 v51)) (fun v52 => B (fr_span_Gaps_17 p1 v42 v43 v44 v45 v46 v47 v48 v49 v50 v52)) := by kernel_rfl
def fr_span_Gaps_19 (p1 : SSpan) (v42 : (List SSpan)) (v43 v44 v49 v50 : Int) (v53 : (List SSpan)) : FF := [dT 3 ((.ptr 64 0) :: (dT 1 ((.ptr 67 0) :: (.ptr 69 0) :: (dT 9 [])))), dT 6 ((.clo 22 [(74, 0), (76, 0)]) :: (dT 9 [])), dc, dc, (.hdr 2) :: ((eSpan p1) ++ ((.hdr 1) :: (.row true (.rSpan v53)) :: (.hdr 1) :: (tL v50) :: (dT 3 ((.hdr 1) :: (.row false (.rSpan v42)) :: (.hdr 2) :: (tL v43) :: (tL v44) :: (dT 1 []))))), dT 2 ((.hdr 2) :: (tL v49) :: (tL v50) :: (dT 11 []))]
def fr_span_Gaps_20 (p1 : SSpan) (v42 : (List SSpan)) (v43 v44 : Int) (v47 : (List SSpan)) (v48 v49 v50 : Int) : FF := [dT 3 ((.ptr 64 0) :: (dT 1 ((.ptr 67 0) :: (.ptr 69 0) :: (dT 9 [])))), dT 6 ((.clo 22 [(74, 0), (76, 0)]) :: (.agg [(tL v49), (tL v50)]) :: (dT 8 [])), dc, dc, (.hdr 2) :: ((eSpan p1) ++ ((.hdr 1) :: (.row true (.rSpan v47)) :: (.hdr 1) :: (tL v48) :: (dT 3 ((.hdr 1) :: (.row false (.rSpan v42)) :: (.hdr 2) :: (tL v43) :: (tL v44) :: (dT 1 []))))), dT 2 ((.hdr 2) :: (tL v49) :: (tL v50) :: (dT 11 []))]
theorem s_span_Gaps_18_t {R : Type} (cp : Nat → Nat → Bool) (n : Nat) (p1 : SSpan) (v42 : (List SSpan)) (v43 v44 : Int) (v47 : (List SSpan)) (v48 v49 v50 : Int) (k : Ex → FF → Option R) : X cp n i_span_Gaps_2 (fr_span_Gaps_20 p1 v42 v43 v44 v47 v48 v49 v50) k = s_span_Gaps_18 cp n p1 v42 v43 v44 v47 v48 v49 v50 (fun v53 => k .norm (fr_span_Gaps_19 p1 v42 v43 v44 v49 v50 v53)) := by kernel_rfl
def fr_span_Gaps_22 (p1 : SSpan) (v42 : (List SSpan)) (v43 v44 v45 v46 v49 v50 : Int) (v51 : Bool) (v53 : (List SSpan)) : FF := [.yld :: (dT 1 ((.ptr 76 0) :: (dT 3 ((.ptr 82 0) :: (.row false (.rSpan v42)) :: (tL v45) :: (tL v46) :: (dT 6 []))))), dT 8 ([.ptr 82 0, (tL v49), .ptr 82 1, (tL v50), (tB v51), (tB true), .yld, .agg [(tL v49), (tL v50)]]), (tB true) :: (dT 15 []), dc, (.hdr 2) :: ((eSpan p1) ++ ((.hdr 1) :: (.row true (.rSpan v53)) :: (.hdr 1) :: (tL v50) :: (dT 3 ((.hdr 1) :: (.row false (.rSpan v42)) :: (.hdr 2) :: (tL v43) :: (tL v44) :: (dT 1 []))))), dT 2 ((.hdr 2) :: (tL v49) :: (tL v50) :: (dT 11 []))]
theorem q_span_Gaps_21_t {R : Type} (cp : Nat → Nat → Bool) (n : Nat) (p1 : SSpan) (v42 : (List SSpan)) (v43 v44 v45 v46 : Int) (v47 : (List SSpan)) (v48 v49 v50 : Int) (v51 : Bool) (K : FF → Option R) : yRun2 (y_span_Gaps_6 cp n) (.s 30) [.s 31] 32 (fr_span_Gaps_16 p1 v42 v43 v44 v45 v46 v47 v48 v49 v50 v51) K = s_span_Gaps_18 cp n p1 v42 v43 v44 v47 v48 v49 v50 (fun v53 => K (fr_span_Gaps_22 p1 v42 v43 v44 v45 v46 v49 v50 v51 v53)) := ((fun x => (show yRun2 (rndT 4 [23] [64, 67, 69, 74, 76, 79, 82] fr_span_Gaps_7 x) (.s 30) [.s 31] 32 (fr_span_Gaps_16 p1 v42 v43 v44 v45 v46 v47 v48 v49 v50 v51) K = x (fr_span_Gaps_20 p1 v42 v43 v44 v47 v48 v49 v50) (roundT 4 (fr_span_Gaps_16 p1 v42 v43 v44 v45 v46 v47 v48 v49 v50 v51) (fun l2 => putO l2 (some 32) (.sc (.bool true)) K)) from by kernel_rfl)) (X cp n i_span_Gaps_2)).trans ((s_span_Gaps_18_t cp n p1 v42 v43 v44 v47 v48 v49 v50 (roundT 4 (fr_span_Gaps_16 p1 v42 v43 v44 v45 v46 v47 v48 v49 v50 v51) (fun l2 => putO l2 (some 32) (.sc (.bool true)) K))).trans (by kernel_rfl))
def fr_span_Gaps_23 (p1 : SSpan) (v42 : (List SSpan)) (v43 v44 v45 v46 : Int) (v54 : (List SSpan)) (v55 : Int) : FF := [.yld :: (dT 1 ((.ptr 76 0) :: (dT 4 ((.row false (.rSpan v42)) :: (tL v45) :: (tL v46) :: (dT 6 []))))), dc, dT 2 ((tB false) :: (dT 13 [])), dc, (.hdr 2) :: ((eSpan p1) ++ ((.hdr 1) :: (.row true (.rSpan v54)) :: (.hdr 1) :: (tL v55) :: (dT 3 ((.hdr 1) :: (.row false (.rSpan v42)) :: (.hdr 2) :: (tL v43) :: (tL v44) :: (dT 1 []))))), dc]
theorem s_span_Gaps_24_t {R : Type} (cp : Nat → Nat → Bool) (n : Nat) (p1 : SSpan) (v42 : (List SSpan)) (v43 v44 v45 v46 : Int) (v47 : (List SSpan)) (v48 v49 v50 : Int) (k : Ex → FF → Option R) : XI cp n (y_span_Gaps_6 cp n) i_span_Gaps_4 (fr_span_Gaps_14 p1 v42 v43 v44 v45 v46 v47 v48 v49 v50) k = s_span_Gaps_24 cp n p1 v42 v43 v44 v45 v46 v47 v48 v49 v50 (fun v54 v55 => k .norm (fr_span_Gaps_23 p1 v42 v43 v44 v45 v46 v54 v55)) := (show XI cp n (y_span_Gaps_6 cp n) i_span_Gaps_4 (fr_span_Gaps_14 p1 v42 v43 v44 v45 v46 v47 v48 v49 v50) k = gF (fr_span_Gaps_14 p1 v42 v43 v44 v45 v46 v47 v48 v49 v50) fun l => steps2 U cp (callP cp n) g_span_Gaps_10041 l fun l1 => yGuard2 (some (29, true)) l1 ((fun l1 => yRun2 (y_span_Gaps_6 cp n) (.s 30) [.s 31] 32 l1 (fun l2 => steps2 U cp (callP cp n) g_span_Gaps_10042 l2 ((clrT [6, 24, 25, 26, 27, 28, 29, 30, 31, 32, 33] [(82, 2)] k) .norm))) l1) ((fun l1 => putO l1 (some 32) (.tup []) fun l2 => steps2 U cp (callP cp n) g_span_Gaps_10042 l2 ((clrT [6, 24, 25, 26, 27, 28, 29, 30, 31, 32, 33] [(82, 2)] k) .norm)) l1) from by kernel_rfl).trans ((s_span_Gaps_15_t cp n p1 v42 v43 v44 v45 v46 v47 v48 v49 v50 (fun l1 => yRun2 (y_span_Gaps_6 cp n) (.s 30) [.s 31] 32 l1 (fun l2 => steps2 U cp (callP cp n) g_span_Gaps_10042 l2 ((clrT [6, 24, 25, 26, 27, 28, 29, 30, 31, 32, 33] [(82, 2)] k) .norm))) (fun l1 => putO l1 (some 32) (.tup []) fun l2 => steps2 U cp (callP cp n) g_span_Gaps_10042 l2 ((clrT [6, 24, 25, 26, 27, 28, 29, 30, 31, 32, 33] [(82, 2)] k) .norm))).trans (cg2 (f := s_span_Gaps_15 cp n p1 v42 v43 v44 v45 v46 v47 v48 v49 v50) (funext fun v51 => (q_span_Gaps_21_t cp n p1 v42 v43 v44 v45 v46 v47 v48 v49 v50 v51 (fun l2 => steps2 U cp (callP cp n) g_span_Gaps_10042 l2 ((clrT [6, 24, 25, 26, 27, 28, 29, 30, 31, 32, 33] [(82, 2)] k) .norm))).trans (show s_span_Gaps_18 cp n p1 v42 v43 v44 v47 v48 v49 v50 (fun v53 => (fun l2 => steps2 U cp (callP cp n) g_span_Gaps_10042 l2 ((clrT [6, 24, 25, 26, 27, 28, 29, 30, 31, 32, 33] [(82, 2)] k) .norm)) (fr_span_Gaps_22 p1 v42 v43 v44 v45 v46 v49 v50 v51 v53)) = s_span_Gaps_18 cp n p1 v42 v43 v44 v47 v48 v49 v50 (fun v53 => k .norm (fr_span_Gaps_23 p1 v42 v43 v44 v45 v46 v53 v50)) from by kernel_rfl)) (funext fun v52 => (show (fun l1 => putO l1 (some 32) (.tup []) fun l2 => steps2 U cp (callP cp n) g_span_Gaps_10042 l2 ((clrT [6, 24, 25, 26, 27, 28, 29, 30, 31, 32, 33] [(82, 2)] k) .norm)) (fr_span_Gaps_17 p1 v42 v43 v44 v45 v46 v47 v48 v49 v50 v52) = k .norm (fr_span_Gaps_23 p1 v42 v43 v44 v45 v46 v47 v48) from by kernel_rfl))))
def fr_span_Gaps_26 (p1 : SSpan) (v42 : (List SSpan)) (v43 v44 v45 v46 : Int) (v54 : (List SSpan)) (v55 : Int) : FF := [.yld :: (dT 1 ((.ptr 76 0) :: (dT 4 ((.row false (.rSpan v42)) :: (tL v45) :: (tL v46) :: (dT 6 []))))), dc, dc, dc, (.hdr 2) :: ((eSpan p1) ++ ((.hdr 1) :: (.row true (.rSpan v54)) :: (.hdr 1) :: (tL v55) :: (dT 3 ((.hdr 1) :: (.row false (.rSpan v42)) :: (.hdr 2) :: (tL v43) :: (tL v44) :: (dT 1 []))))), dc]
theorem s_span_Gaps_25_t {R : Type} (cp : Nat → Nat → Bool) (n : Nat) (p1 : SSpan) (v42 : (List SSpan)) (v43 v44 v45 v46 : Int) (v54 : (List SSpan)) (v55 : Int) (k : Ex → FF → Option R) : XI cp n (y_span_Gaps_6 cp n) i_span_Gaps_5 (fr_span_Gaps_23 p1 v42 v43 v44 v45 v46 v54 v55) k = s_span_Gaps_25 cp n p1 v42 v43 v44 v45 v46 v54 v55 (k .norm (fr_span_Gaps_26 p1 v42 v43 v44 v45 v46 v54 v55)) := by kernel_rfl
def fr_span_Gaps_27 (p1 : SSpan) (v42 : (List SSpan)) (v43 v44 v45 v46 : Int) (v56 : (List SSpan)) (v57 : Int) : FF := [.yld :: (dT 1 ((.ptr 76 0) :: (dT 4 ((.row false (.rSpan v42)) :: (tL v45) :: (tL v46) :: (dT 6 []))))), dc, dc, dc, (.hdr 2) :: ((eSpan p1) ++ ((.hdr 1) :: (.row true (.rSpan v56)) :: (.hdr 1) :: (tL v57) :: (dT 3 ((.hdr 1) :: (.row false (.rSpan v42)) :: (.hdr 2) :: (tL v43) :: (tL v44) :: (dT 1 []))))), dc]
theorem s_span_Gaps_28_t {R : Type} (cp : Nat → Nat → Bool) (n : Nat) (p1 : SSpan) (v42 : (List SSpan)) (v43 v44 v45 v46 : Int) (v47 : (List SSpan)) (v48 v49 v50 : Int) (k : Ex → FF → Option R) : XI cp n (y_span_Gaps_6 cp n) i_span_Gaps_6 (fr_span_Gaps_14 p1 v42 v43 v44 v45 v46 v47 v48 v49 v50) k = s_span_Gaps_28 cp n p1 v42 v43 v44 v45 v46 v47 v48 v49 v50 (fun v56 v57 => k .norm (fr_span_Gaps_27 p1 v42 v43 v44 v45 v46 v56 v57)) := (show XI cp n (y_span_Gaps_6 cp n) i_span_Gaps_6 (fr_span_Gaps_14 p1 v42 v43 v44 v45 v46 v47 v48 v49 v50) k = XI cp n (y_span_Gaps_6 cp n) i_span_Gaps_4 (fr_span_Gaps_14 p1 v42 v43 v44 v45 v46 v47 v48 v49 v50) (seqT (XI cp n (y_span_Gaps_6 cp n)) i_span_Gaps_5 k) from by kernel_rfl).trans ((show XI cp n (y_span_Gaps_6 cp n) i_span_Gaps_4 (fr_span_Gaps_14 p1 v42 v43 v44 v45 v46 v47 v48 v49 v50) (seqT (XI cp n (y_span_Gaps_6 cp n)) i_span_Gaps_5 k) = s_span_Gaps_24 cp n p1 v42 v43 v44 v45 v46 v47 v48 v49 v50 (fun v54 v55 => XI cp n (y_span_Gaps_6 cp n) i_span_Gaps_5 (fr_span_Gaps_23 p1 v42 v43 v44 v45 v46 v54 v55) k) from (s_span_Gaps_24_t cp n p1 v42 v43 v44 v45 v46 v47 v48 v49 v50 (seqT (XI cp n (y_span_Gaps_6 cp n)) i_span_Gaps_5 k)).trans (by kernel_rfl)).trans (congrArg (fun q => s_span_Gaps_24 cp n p1 v42 v43 v44 v45 v46 v47 v48 v49 v50 q) (funext fun v54 => funext fun v55 => (s_span_Gaps_25_t cp n p1 v42 v43 v44 v45 v46 v54 v55 k).trans (show s_span_Gaps_25 cp n p1 v42 v43 v44 v45 v46 v54 v55 (k .norm (fr_span_Gaps_26 p1 v42 v43 v44 v45 v46 v54 v55)) = s_span_Gaps_25 cp n p1 v42 v43 v44 v45 v46 v54 v55 (k .norm (fr_span_Gaps_27 p1 v42 v43 v44 v45 v46 v54 v55)) from by kernel_rfl))))
def fr_span_Gaps_29 (p1 : SSpan) (v42 : (List SSpan)) (v43 v44 v45 v46 : Int) (v58 : (List SSpan)) (v59 : Int) : FF := [.yld :: (dT 1 ((.ptr 76 0) :: (dT 4 ((.row false (.rSpan v42)) :: (tL v45) :: (tL v46) :: (dT 6 []))))), dc, dc, dc, (.hdr 2) :: ((eSpan p1) ++ ((.hdr 1) :: (.row true (.rSpan v58)) :: (.hdr 1) :: (tL v59) :: (dT 3 ((.hdr 1) :: (.row false (.rSpan v42)) :: (.hdr 2) :: (tL v43) :: (tL v44) :: (dT 1 []))))), dc]
theorem s_span_Gaps_30_t {R : Type} (cp : Nat → Nat → Bool) (n : Nat) (p1 : SSpan) (v42 : (List SSpan)) (v43 v44 v45 v46 : Int) (v47 : (List SSpan)) (v48 : Int) (k : Ex → FF → Option R) : XI cp n (y_span_Gaps_6 cp n) i_span_Gaps_7 (fr_span_Gaps_11 p1 v42 v43 v44 v45 v46 v47 v48) k = s_span_Gaps_30 cp n p1 v42 v43 v44 v45 v46 v47 v48 (fun v58 v59 => k .norm (fr_span_Gaps_29 p1 v42 v43 v44 v45 v46 v58 v59)) := ((fun c => (show XI cp n (y_span_Gaps_6 cp n) (.seq (.fin (.reg g_span_Gaps_1002) [11, 12] []) (.seq (.fin (.reg g_span_Gaps_1003) [5, 13, 14, 15, 16, 17, 18, 19, 20, 21, 22, 23] [(79, 2)]) c)) (fr_span_Gaps_11 p1 v42 v43 v44 v45 v46 v47 v48) k = s_span_Gaps_13 cp n p1 v42 v43 v44 v45 v46 v47 v48 (fun v49 v50 => XI cp n (y_span_Gaps_6 cp n) c (fr_span_Gaps_14 p1 v42 v43 v44 v45 v46 v47 v48 v49 v50) k) from by kernel_rfl)) i_span_Gaps_6).trans (congrArg (fun q => s_span_Gaps_13 cp n p1 v42 v43 v44 v45 v46 v47 v48 q) (funext fun v49 => funext fun v50 => (s_span_Gaps_28_t cp n p1 v42 v43 v44 v45 v46 v47 v48 v49 v50 k).trans (show s_span_Gaps_28 cp n p1 v42 v43 v44 v45 v46 v47 v48 v49 v50 (fun v56 v57 => k .norm (fr_span_Gaps_27 p1 v42 v43 v44 v45 v46 v56 v57)) = s_span_Gaps_28 cp n p1 v42 v43 v44 v45 v46 v47 v48 v49 v50 (fun v56 v57 => k .norm (fr_span_Gaps_29 p1 v42 v43 v44 v45 v46 v56 v57)) from by kernel_rfl)))
def fr_span_Gaps_31 (p1 : SSpan) (v42 : (List SSpan)) (v43 v44 v45 v46 : Int) (v60 : (List SSpan)) (v61 : Int) : FF := [.yld :: (dT 1 ((.ptr 76 0) :: (dT 4 ((.row false (.rSpan v42)) :: (tL v45) :: (tL v46) :: (dT 6 []))))), dc, dc, dc, (.hdr 2) :: ((eSpan p1) ++ ((.hdr 1) :: (.row true (.rSpan v60)) :: (.hdr 1) :: (tL v61) :: (dT 3 ((.hdr 1) :: (.row false (.rSpan v42)) :: (.hdr 2) :: (tL v43) :: (tL v44) :: (dT 1 []))))), dc]
theorem s_span_Gaps_32_t {R : Type} (cp : Nat → Nat → Bool) (n : Nat) (p1 : SSpan) (v42 : (List SSpan)) (v43 v44 v45 v46 : Int) (v47 : (List SSpan)) (v48 : Int) (k : Ex → FF → Option R) : XI cp n (y_span_Gaps_6 cp n) i_span_Gaps_8 (fr_span_Gaps_11 p1 v42 v43 v44 v45 v46 v47 v48) k = s_span_Gaps_32 cp n p1 v42 v43 v44 v45 v46 v47 v48 (fun v60 v61 => k .norm (fr_span_Gaps_31 p1 v42 v43 v44 v45 v46 v60 v61)) := (show XI cp n (y_span_Gaps_6 cp n) i_span_Gaps_8 (fr_span_Gaps_11 p1 v42 v43 v44 v45 v46 v47 v48) k = XI cp n (y_span_Gaps_6 cp n) i_span_Gaps_7 (fr_span_Gaps_11 p1 v42 v43 v44 v45 v46 v47 v48) (blkT 1 k) from by kernel_rfl).trans ((s_span_Gaps_30_t cp n p1 v42 v43 v44 v45 v46 v47 v48 (blkT 1 k)).trans (by kernel_rfl))
def fr_span_Gaps_34 (p1 : SSpan) (v42 : (List SSpan)) (v43 v44 v45 : Int) (v60 : (List SSpan)) (v61 v62 : Int) : FF := [.yld :: (dT 1 ((.ptr 76 0) :: (dT 4 ((.row false (.rSpan v42)) :: (tL v45) :: (tL v62) :: (dT 6 []))))), dc, dc, dc, (.hdr 2) :: ((eSpan p1) ++ ((.hdr 1) :: (.row true (.rSpan v60)) :: (.hdr 1) :: (tL v61) :: (dT 3 ((.hdr 1) :: (.row false (.rSpan v42)) :: (.hdr 2) :: (tL v43) :: (tL v44) :: (dT 1 []))))), dc]
theorem s_span_Gaps_33_t {R : Type} (cp : Nat → Nat → Bool) (n : Nat) (p1 : SSpan) (v42 : (List SSpan)) (v43 v44 v45 v46 : Int) (v60 : (List SSpan)) (v61 : Int) (k : Ex → FF → Option R) : XI cp n (y_span_Gaps_6 cp n) i_span_Gaps_9 (fr_span_Gaps_31 p1 v42 v43 v44 v45 v46 v60 v61) k = s_span_Gaps_33 cp n p1 v42 v43 v44 v45 v46 v60 v61 (fun v62 => k .norm (fr_span_Gaps_34 p1 v42 v43 v44 v45 v60 v61 v62)) := by kernel_rfl
def fr_span_Gaps_35 (p1 : SSpan) (v42 : (List SSpan)) (v43 v44 v45 v63 : Int) (v64 : (List SSpan)) (v65 : Int) : FF := [.yld :: (dT 1 ((.ptr 76 0) :: (dT 4 ((.row false (.rSpan v42)) :: (tL v45) :: (tL v63) :: (dT 6 []))))), dc, dc, dc, (.hdr 2) :: ((eSpan p1) ++ ((.hdr 1) :: (.row true (.rSpan v64)) :: (.hdr 1) :: (tL v65) :: (dT 3 ((.hdr 1) :: (.row false (.rSpan v42)) :: (.hdr 2) :: (tL v43) :: (tL v44) :: (dT 1 []))))), dc]
theorem s_span_Gaps_36_t {R : Type} (cp : Nat → Nat → Bool) (n : Nat) (p1 : SSpan) (v42 : (List SSpan)) (v43 v44 v45 v46 : Int) (v47 : (List SSpan)) (v48 : Int) (k : Ex → FF → Option R) : XI cp n (y_span_Gaps_6 cp n) i_span_Gaps_10 (fr_span_Gaps_11 p1 v42 v43 v44 v45 v46 v47 v48) k = s_span_Gaps_36 cp n p1 v42 v43 v44 v45 v46 v47 v48 (fun v63 v64 v65 => k .norm (fr_span_Gaps_35 p1 v42 v43 v44 v45 v63 v64 v65)) := (show XI cp n (y_span_Gaps_6 cp n) i_span_Gaps_10 (fr_span_Gaps_11 p1 v42 v43 v44 v45 v46 v47 v48) k = XI cp n (y_span_Gaps_6 cp n) i_span_Gaps_8 (fr_span_Gaps_11 p1 v42 v43 v44 v45 v46 v47 v48) (seqT (XI cp n (y_span_Gaps_6 cp n)) i_span_Gaps_9 k) from by kernel_rfl).trans ((show XI cp n (y_span_Gaps_6 cp n) i_span_Gaps_8 (fr_span_Gaps_11 p1 v42 v43 v44 v45 v46 v47 v48) (seqT (XI cp n (y_span_Gaps_6 cp n)) i_span_Gaps_9 k) = s_span_Gaps_32 cp n p1 v42 v43 v44 v45 v46 v47 v48 (fun v60 v61 => XI cp n (y_span_Gaps_6 cp n) i_span_Gaps_9 (fr_span_Gaps_31 p1 v42 v43 v44 v45 v46 v60 v61) k) from (s_span_Gaps_32_t cp n p1 v42 v43 v44 v45 v46 v47 v48 (seqT (XI cp n (y_span_Gaps_6 cp n)) i_span_Gaps_9 k)).trans (by kernel_rfl)).trans (congrArg (fun q => s_span_Gaps_32 cp n p1 v42 v43 v44 v45 v46 v47 v48 q) (funext fun v60 => funext fun v61 => (s_span_Gaps_33_t cp n p1 v42 v43 v44 v45 v46 v60 v61 k).trans (show s_span_Gaps_33 cp n p1 v42 v43 v44 v45 v46 v60 v61 (fun v62 => k .norm (fr_span_Gaps_34 p1 v42 v43 v44 v45 v60 v61 v62)) = s_span_Gaps_33 cp n p1 v42 v43 v44 v45 v46 v60 v61 (fun v62 => k .norm (fr_span_Gaps_35 p1 v42 v43 v44 v45 v62 v60 v61)) from by kernel_rfl))))
def fr_span_Gaps_37 (p1 : SSpan) (v42 : (List SSpan)) (v43 v44 v45 v66 : Int) (v67 : (List SSpan)) (v68 : Int) : FF := [.yld :: (dT 1 ((.ptr 76 0) :: (dT 4 ((.row false (.rSpan v42)) :: (tL v45) :: (tL v66) :: (dT 6 []))))), dc, dc, dc, (.hdr 2) :: ((eSpan p1) ++ ((.hdr 1) :: (.row true (.rSpan v67)) :: (.hdr 1) :: (tL v68) :: (dT 3 ((.hdr 1) :: (.row false (.rSpan v42)) :: (.hdr 2) :: (tL v43) :: (tL v44) :: (dT 1 []))))), dc]
theorem s_span_Gaps_38_t {R : Type} (cp : Nat → Nat → Bool) (n : Nat) (p1 : SSpan) (v42 : (List SSpan)) (v43 v44 v45 v46 : Int) (v47 : (List SSpan)) (v48 : Int) (k : Ex → FF → Option R) : XI cp n (y_span_Gaps_6 cp n) i_span_Gaps_11 (fr_span_Gaps_11 p1 v42 v43 v44 v45 v46 v47 v48) k = s_span_Gaps_38 cp n p1 v42 v43 v44 v45 v46 v47 v48 (fun v66 v67 v68 => k .norm (fr_span_Gaps_37 p1 v42 v43 v44 v45 v66 v67 v68)) (k (.exit 0) (fr_span_Gaps_12 p1 v42 v43 v44 v47 v48)) := ((fun c => (show XI cp n (y_span_Gaps_6 cp n) (.seq (.reg g_span_Gaps_1001) (.seq (.fin (.cond (.s 10) (.skip) (.clr [0, 2, 7, 8, 9, 10] [] (.exit 0))) [10] []) c)) (fr_span_Gaps_11 p1 v42 v43 v44 v45 v46 v47 v48) k = s_span_Gaps_10 cp n p1 v42 v43 v44 v45 v46 v47 v48 (XI cp n (y_span_Gaps_6 cp n) c (fr_span_Gaps_11 p1 v42 v43 v44 v45 v46 v47 v48) k) (k (.exit 0) (fr_span_Gaps_12 p1 v42 v43 v44 v47 v48)) from by kernel_rfl)) i_span_Gaps_10).trans (congrArg (fun q => s_span_Gaps_10 cp n p1 v42 v43 v44 v45 v46 v47 v48 q (k (.exit 0) (fr_span_Gaps_12 p1 v42 v43 v44 v47 v48))) ((s_span_Gaps_36_t cp n p1 v42 v43 v44 v45 v46 v47 v48 k).trans (show s_span_Gaps_36 cp n p1 v42 v43 v44 v45 v46 v47 v48 (fun v63 v64 v65 => k .norm (fr_span_Gaps_35 p1 v42 v43 v44 v45 v63 v64 v65)) = s_span_Gaps_36 cp n p1 v42 v43 v44 v45 v46 v47 v48 (fun v63 v64 v65 => k .norm (fr_span_Gaps_37 p1 v42 v43 v44 v45 v63 v64 v65)) from by kernel_rfl)))
def fr_span_Gaps_39 (p1 : SSpan) (v42 : (List SSpan)) (v43 v44 : Int) (v69 : (List SSpan)) (v70 : Int) : FF := [dc, dc, dc, dc, (.hdr 2) :: ((eSpan p1) ++ ((.hdr 1) :: (.row true (.rSpan v69)) :: (.hdr 1) :: (tL v70) :: (dT 3 ((.hdr 1) :: (.row false (.rSpan v42)) :: (.hdr 2) :: (tL v43) :: (tL v44) :: (dT 1 []))))), dc]
theorem l_span_Gaps_40_t {R : Type} (cp : Nat → Nat → Bool) (n : Nat) : ∀ (m : Nat) (p1 : SSpan) (v42 : (List SSpan)) (v43 v44 v45 v46 : Int) (v47 : (List SSpan)) (v48 : Int) (k : Ex → FF → Option R), loopN2 (XI cp n (y_span_Gaps_6 cp n) i_span_Gaps_11) m (fr_span_Gaps_11 p1 v42 v43 v44 v45 v46 v47 v48) k = l_span_Gaps_40 cp n m p1 v42 v43 v44 v45 v46 v47 v48 (fun v69 v70 => k (.exit 0) (fr_span_Gaps_39 p1 v42 v43 v44 v69 v70))
  | 0, _, _, _, _, _, _, _, _, _ => rfl
  | m + 1, p1, v42, v43, v44, v45, v46, v47, v48, k => (loopN2_succ (XI cp n (y_span_Gaps_6 cp n) i_span_Gaps_11) m (fr_span_Gaps_11 p1 v42 v43 v44 v45 v46 v47 v48) k).trans ((s_span_Gaps_38_t cp n p1 v42 v43 v44 v45 v46 v47 v48 (loopT (XI cp n (y_span_Gaps_6 cp n) i_span_Gaps_11) m k)).trans ((show s_span_Gaps_38 cp n p1 v42 v43 v44 v45 v46 v47 v48 (fun v66 v67 v68 => loopT (XI cp n (y_span_Gaps_6 cp n) i_span_Gaps_11) m k .norm (fr_span_Gaps_37 p1 v42 v43 v44 v45 v66 v67 v68)) (loopT (XI cp n (y_span_Gaps_6 cp n) i_span_Gaps_11) m k (.exit 0) (fr_span_Gaps_12 p1 v42 v43 v44 v47 v48)) = s_span_Gaps_38 cp n p1 v42 v43 v44 v45 v46 v47 v48 (fun v66 v67 v68 => loopN2 (XI cp n (y_span_Gaps_6 cp n) i_span_Gaps_11) m (fr_span_Gaps_11 p1 v42 v43 v44 v45 v66 v67 v68) k) (k (.exit 0) (fr_span_Gaps_39 p1 v42 v43 v44 v47 v48)) from by kernel_rfl).trans (congrArg (fun q => s_span_Gaps_38 cp n p1 v42 v43 v44 v45 v46 v47 v48 q (k (.exit 0) (fr_span_Gaps_39 p1 v42 v43 v44 v47 v48))) (funext fun v66 => funext fun v67 => funext fun v68 => l_span_Gaps_40_t cp n m p1 v42 v43 v44 v45 v66 v67 v68 k))))
theorem s_span_Gaps_41_t {R : Type} (cp : Nat → Nat → Bool) (n : Nat) (p1 : SSpan) (v42 : (List SSpan)) (v43 v44 v45 : Int) (k : Ex → FF → Option R) : XI cp n (y_span_Gaps_6 cp n) i_span_Gaps_12 (fr_span_Gaps_9 p1 v42 v43 v44 v45) k = s_span_Gaps_41 cp n p1 v42 v43 v44 v45 (fun v69 v70 => k (.exit 0) (fr_span_Gaps_39 p1 v42 v43 v44 v69 v70)) := (show XI cp n (y_span_Gaps_6 cp n) i_span_Gaps_12 (fr_span_Gaps_9 p1 v42 v43 v44 v45) k = loopN2 (XI cp n (y_span_Gaps_6 cp n) i_span_Gaps_11) n (fr_span_Gaps_11 p1 v42 v43 v44 v45 0 [] p1.xFrom) k from by kernel_rfl).trans (l_span_Gaps_40_t cp n n p1 v42 v43 v44 v45 0 [] p1.xFrom k)
def fr_span_Gaps_42 (p1 : SSpan) (v42 : (List SSpan)) (v43 v44 : Int) (v71 : (List SSpan)) (v72 : Int) : FF := [dc, dc, dc, dc, (.hdr 2) :: ((eSpan p1) ++ ((.hdr 1) :: (.row true (.rSpan v71)) :: (.hdr 1) :: (tL v72) :: (dT 3 ((.hdr 1) :: (.row false (.rSpan v42)) :: (.hdr 2) :: (tL v43) :: (tL v44) :: (dT 1 []))))), dc]
theorem s_span_Gaps_43_t {R : Type} (cp : Nat → Nat → Bool) (n : Nat) (p1 : SSpan) (v42 : (List SSpan)) (v43 v44 v45 : Int) (k : Ex → FF → Option R) : XI cp n (y_span_Gaps_6 cp n) i_span_Gaps_13 (fr_span_Gaps_9 p1 v42 v43 v44 v45) k = s_span_Gaps_43 cp n p1 v42 v43 v44 v45 (fun v71 v72 => k .norm (fr_span_Gaps_42 p1 v42 v43 v44 v71 v72)) := (show XI cp n (y_span_Gaps_6 cp n) i_span_Gaps_13 (fr_span_Gaps_9 p1 v42 v43 v44 v45) k = XI cp n (y_span_Gaps_6 cp n) i_span_Gaps_12 (fr_span_Gaps_9 p1 v42 v43 v44 v45) (blkT 0 k) from by kernel_rfl).trans ((s_span_Gaps_41_t cp n p1 v42 v43 v44 v45 (blkT 0 k)).trans (by kernel_rfl))
def fr_span_Gaps_44 (p1 : SSpan) (v42 : (List SSpan)) (v43 v44 : Int) (v73 : (List SSpan)) (v74 : Int) : FF := [dc, dc, dc, dc, (.hdr 2) :: ((eSpan p1) ++ ((.hdr 1) :: (.row true (.rSpan v73)) :: (.hdr 1) :: (tL v74) :: (dT 3 ((.hdr 1) :: (.row false (.rSpan v42)) :: (.hdr 2) :: (tL v43) :: (tL v44) :: (dT 1 []))))), dc]
def fr_span_Gaps_46 (p1 : SSpan) (v42 : (List SSpan)) (v43 v44 : Int) : FF := [.yld :: (.ptr 74 0) :: (.ptr 76 0) :: (dT 13 []), dc, dc, dc, (.hdr 2) :: ((eSpan p1) ++ ((.hdr 1) :: (.row true (.rSpan [])) :: (.hdr 1) :: (tL p1.xFrom) :: (dT 3 ((.hdr 1) :: (.row false (.rSpan v42)) :: (.hdr 2) :: (tL v43) :: (tL v44) :: (dT 1 []))))), dc]
theorem s_span_Gaps_45_t {R : Type} (cp : Nat → Nat → Bool) (n : Nat) (p1 : SSpan) (v42 : (List SSpan)) (v43 v44 : Int) (k : Ex → FF → Option R) : XI cp n (y_span_Gaps_6 cp n) i_span_Gaps_3 (fr_span_Gaps_46 p1 v42 v43 v44) k = s_span_Gaps_45 cp n p1 v42 v43 v44 (fun v73 v74 => k .norm (fr_span_Gaps_44 p1 v42 v43 v44 v73 v74)) := ((fun c => (show XI cp n (y_span_Gaps_6 cp n) (.seq (.fin (.reg g_span_Gaps_1000) [1] []) c) (fr_span_Gaps_46 p1 v42 v43 v44) k = s_span_Gaps_8 cp n p1 v42 v43 v44 (fun v45 => XI cp n (y_span_Gaps_6 cp n) c (fr_span_Gaps_9 p1 v42 v43 v44 v45) k) from by kernel_rfl)) i_span_Gaps_13).trans (congrArg (fun q => s_span_Gaps_8 cp n p1 v42 v43 v44 q) (funext fun v45 => (s_span_Gaps_43_t cp n p1 v42 v43 v44 v45 k).trans (show s_span_Gaps_43 cp n p1 v42 v43 v44 v45 (fun v71 v72 => k .norm (fr_span_Gaps_42 p1 v42 v43 v44 v71 v72)) = s_span_Gaps_43 cp n p1 v42 v43 v44 v45 (fun v71 v72 => k .norm (fr_span_Gaps_44 p1 v42 v43 v44 v71 v72)) from by kernel_rfl)))
def fr_span_Gaps_47 (p1 : SSpan) (v75 : (List SSpan)) (v76 : Int) : FF := [dT 3 ((.ptr 64 0) :: (dT 1 ((.ptr 67 0) :: (.ptr 69 0) :: (dT 9 [])))), dc, dc, dc, (.hdr 2) :: ((eSpan p1) ++ ((.hdr 1) :: (.row true (.rSpan v75)) :: (.hdr 1) :: (tL v76) :: (dT 9 []))), dc]
theorem s_span_Gaps_48_t {R : Type} (cp : Nat → Nat → Bool) (n : Nat) (p1 : SSpan) (v42 : (List SSpan)) (v43 v44 : Int) (k : Ex → FF → Option R) : X cp n i_span_Gaps_14 (fr_span_Gaps_5 p1 v42 v43 v44) k = s_span_Gaps_48 cp n p1 v42 v43 v44 (fun v75 v76 => k .norm (fr_span_Gaps_47 p1 v75 v76)) := (show X cp n i_span_Gaps_14 (fr_span_Gaps_5 p1 v42 v43 v44) k = XI cp n (roundK2 4 [23] [64, 67, 69, 74, 76, 79, 82] (fr_span_Gaps_5 p1 v42 v43 v44) (X cp n i_span_Gaps_0) (X cp n i_span_Gaps_1)) i_span_Gaps_3 (fr_span_Gaps_46 p1 v42 v43 v44) (rfnT 4 (fr_span_Gaps_5 p1 v42 v43 v44) (clrT [22] [(74, 1), (76, 2)] k)) from by kernel_rfl).trans ((congrArg (fun Y => XI cp n Y i_span_Gaps_3 (fr_span_Gaps_46 p1 v42 v43 v44) (rfnT 4 (fr_span_Gaps_5 p1 v42 v43 v44) (clrT [22] [(74, 1), (76, 2)] k))) ((rnd_eq 4 [23] [64, 67, 69, 74, 76, 79, 82] (fr_span_Gaps_5 p1 v42 v43 v44) i_span_Gaps_0 i_span_Gaps_1).trans (show rndT 4 [23] [64, 67, 69, 74, 76, 79, 82] (fr_span_Gaps_5 p1 v42 v43 v44) (X cp n i_span_Gaps_2) = (y_span_Gaps_6 cp n) from by kernel_rfl))).trans ((s_span_Gaps_45_t cp n p1 v42 v43 v44 (rfnT 4 (fr_span_Gaps_5 p1 v42 v43 v44) (clrT [22] [(74, 1), (76, 2)] k))).trans (by kernel_rfl)))
def fr_span_Gaps_49 (p1 : SSpan) (v77 : (List SSpan)) (v78 : Int) : FF := [dT 3 ((.ptr 64 0) :: (dT 1 ((.ptr 67 0) :: (.ptr 69 0) :: (dT 9 [])))), dc, dc, dc, (.hdr 2) :: ((eSpan p1) ++ ((.hdr 1) :: (.row true (.rSpan v77)) :: (.hdr 1) :: (tL v78) :: (dT 9 []))), dc]
theorem s_span_Gaps_50_t {R : Type} (cp : Nat → Nat → Bool) (n : Nat) (p1 : SSpan) (v42 : (List SSpan)) (v43 v44 : Int) (k : Ex → FF → Option R) : X cp n i_span_Gaps_15 (fr_span_Gaps_5 p1 v42 v43 v44) k = s_span_Gaps_50 cp n p1 v42 v43 v44 (fun v77 v78 => k .norm (fr_span_Gaps_49 p1 v77 v78)) := (show X cp n i_span_Gaps_15 (fr_span_Gaps_5 p1 v42 v43 v44) k = X cp n i_span_Gaps_14 (fr_span_Gaps_5 p1 v42 v43 v44) (blkT 0 k) from by kernel_rfl).trans ((s_span_Gaps_48_t cp n p1 v42 v43 v44 (blkT 0 k)).trans (by kernel_rfl))
def fr_span_Gaps_51 (p1 : SSpan) (v79 : (List SSpan)) (v80 : Int) : FF := [dT 3 ((.ptr 64 0) :: (dT 1 ((.ptr 67 0) :: (.ptr 69 0) :: (dT 9 [])))), dc, dc, dc, (.hdr 2) :: ((eSpan p1) ++ ((.hdr 1) :: (.row true (.rSpan v79)) :: (.hdr 1) :: (tL v80) :: (dT 9 []))), dc]
theorem s_span_Gaps_52_t {R : Type} (cp : Nat → Nat → Bool) (n : Nat) (p0 : (List SSpan)) (p1 : SSpan) (k : Ex → FF → Option R) : X cp n i_span_Gaps_16 (fr_span_Gaps_2 p0 p1) k = s_span_Gaps_52 cp n p0 p1 (fun v79 v80 => k .norm (fr_span_Gaps_51 p1 v79 v80)) := ((fun c => (show X cp n (.seq (.fin (.reg g_span_Gaps_5) [0, 20, 21] []) c) (fr_span_Gaps_2 p0 p1) k = s_span_Gaps_4 cp n p0 p1 (fun v42 v43 v44 => X cp n c (fr_span_Gaps_5 p1 v42 v43 v44) k) from by kernel_rfl)) i_span_Gaps_15).trans (congrArg (fun q => s_span_Gaps_4 cp n p0 p1 q) (funext fun v42 => funext fun v43 => funext fun v44 => (s_span_Gaps_50_t cp n p1 v42 v43 v44 k).trans (show s_span_Gaps_50 cp n p1 v42 v43 v44 (fun v77 v78 => k .norm (fr_span_Gaps_49 p1 v77 v78)) = s_span_Gaps_50 cp n p1 v42 v43 v44 (fun v77 v78 => k .norm (fr_span_Gaps_51 p1 v77 v78)) from by kernel_rfl)))
def fr_span_Gaps_54 (v81 : (List SSpan)) : FF := [dT 4 ((.row false (.rSpan v81)) :: (dT 11 [])), dc, dc, dc, dc, dc]
theorem s_span_Gaps_53_t {R : Type} (cp : Nat → Nat → Bool) (n : Nat) (p1 : SSpan) (v79 : (List SSpan)) (v80 : Int) (k : Ex → FF → Option R) : X cp n i_span_Gaps_17 (fr_span_Gaps_51 p1 v79 v80) k = s_span_Gaps_53 cp n p1 v79 v80 (fun v81 => k .ret (fr_span_Gaps_54 v81)) := by kernel_rfl
def fr_span_Gaps_55 (v82 : (List SSpan)) : FF := [dT 4 ((.row false (.rSpan v82)) :: (dT 11 [])), dc, dc, dc, dc, dc]
theorem s_span_Gaps_56_t {R : Type} (cp : Nat → Nat → Bool) (n : Nat) (p0 : (List SSpan)) (p1 : SSpan) (k : Ex → FF → Option R) : X cp n i_span_Gaps_18 (fr_span_Gaps_2 p0 p1) k = s_span_Gaps_56 cp n p0 p1 (fun v82 => k .ret (fr_span_Gaps_55 v82)) := (show X cp n i_span_Gaps_18 (fr_span_Gaps_2 p0 p1) k = X cp n i_span_Gaps_16 (fr_span_Gaps_2 p0 p1) (seqT (X cp n) i_span_Gaps_17 k) from by kernel_rfl).trans ((show X cp n i_span_Gaps_16 (fr_span_Gaps_2 p0 p1) (seqT (X cp n) i_span_Gaps_17 k) = s_span_Gaps_52 cp n p0 p1 (fun v79 v80 => X cp n i_span_Gaps_17 (fr_span_Gaps_51 p1 v79 v80) k) from (s_span_Gaps_52_t cp n p0 p1 (seqT (X cp n) i_span_Gaps_17 k)).trans (by kernel_rfl)).trans (congrArg (fun q => s_span_Gaps_52 cp n p0 p1 q) (funext fun v79 => funext fun v80 => (s_span_Gaps_53_t cp n p1 v79 v80 k).trans (show s_span_Gaps_53 cp n p1 v79 v80 (fun v81 => k .ret (fr_span_Gaps_54 v81)) = s_span_Gaps_53 cp n p1 v79 v80 (fun v81 => k .ret (fr_span_Gaps_55 v81)) from by kernel_rfl))))
def fr_span_Gaps_57 (v83 : (List SSpan)) : FF := [dT 4 ((.row false (.rSpan v83)) :: (dT 11 [])), dc, dc, dc, dc, dc]
def fr_span_Gaps_59 (p0 : (List SSpan)) (p1 : SSpan) : FF := [(.row false (.rSpan p0)) :: (.agg (eSpan p1)) :: (dT 14 []), dc, dc, dc, dc, dc]
theorem s_span_Gaps_58_t {R : Type} (cp : Nat → Nat → Bool) (n : Nat) (p0 : (List SSpan)) (p1 : SSpan) (k : Ex → FF → Option R) : X cp n i_span_Gaps_19 (fr_span_Gaps_59 p0 p1) k = s_span_Gaps_58 cp n p0 p1 (fun v83 => k .ret (fr_span_Gaps_57 v83)) := ((fun c => (show X cp n (.seq (.fin (.reg g_span_Gaps_0) [1, 4] []) (.seq (.seq (.fin (.reg g_span_Gaps_1) [8, 9, 10, 11, 12, 13, 14, 15, 16] []) (.fin (.cond (.s 17) (.seq (.fin (.reg g_span_Gaps_2) [0, 3, 17] [(64, 2)]) (.ret)) (.skip)) [17] [])) (.seq (.reg g_span_Gaps_3) (.seq (.fin (.reg g_span_Gaps_4) [18, 19] []) c)))) (fr_span_Gaps_59 p0 p1) k = s_span_Gaps_1 cp n p0 p1 (X cp n c (fr_span_Gaps_2 p0 p1) k) (k .ret (fr_span_Gaps_57 [])) from by kernel_rfl)) i_span_Gaps_18).trans (congrArg (fun q => s_span_Gaps_1 cp n p0 p1 q (k .ret (fr_span_Gaps_57 []))) ((s_span_Gaps_56_t cp n p0 p1 k).trans (show s_span_Gaps_56 cp n p0 p1 (fun v82 => k .ret (fr_span_Gaps_55 v82)) = s_span_Gaps_56 cp n p0 p1 (fun v82 => k .ret (fr_span_Gaps_57 v82)) from by kernel_rfl)))
theorem run_span_Gaps {R : Type} (cp : Nat → Nat → Bool) (n : Nat) (p0 : (List SSpan)) (p1 : SSpan) (k : Ret2 RW → Option R) : G_span_Gaps cp (n + 1) p0 p1 (fun r0 => k ⟨.row false (.rSpan r0), [], []⟩) = run2 U cp (callP cp n) n fn_span_Gaps [.row false (.rSpan p0), .agg (eSpan p1)] [] k := ((X_run (f := fn_span_Gaps) (av := [.row false (.rSpan p0), .agg (eSpan p1)]) (cells := []) (code := i_span_Gaps_19) (fr := (fr_span_Gaps_59 p0 p1)) (k := k) (by kernel_rfl) (fun K => by kernel_rfl)).trans ((s_span_Gaps_58_t cp n p0 p1 (finK2 fn_span_Gaps k)).trans (by kernel_rfl))).symm
/-! tideway/span.Size -/
def fr_span_Size_2 (p0 : (List SSpan)) : FF := [(.row false (.rSpan p0)) :: (dT 2 ((tL 0) :: (dT 12 []))), dc]
def fr_span_Size_3 : FF := [dT 2 ((tL 0) :: (dT 13 [])), dc]
def fr_span_Size_5 (p0 : (List SSpan)) (v53 : Int) : FF := [dT 3 ((tL 0) :: (dT 5 ((.row false (.rSpan p0)) :: (tL v53) :: (tL 0) :: (dT 4 [])))), dc]
def fr_span_Size_7 (p0 : (List SSpan)) (v53 v56 v57 : Int) : FF := [dT 3 ((tL v56) :: (dT 5 ((.row false (.rSpan p0)) :: (tL v53) :: (tL v57) :: (dT 4 [])))), dc]
def fr_span_Size_8 (v54 : Int) : FF := [dT 3 ((tL v54) :: (dT 12 [])), dc]
def fr_span_Size_9 (p0 : (List SSpan)) (v53 v54 v55 : Int) : FF := [dT 3 ((tL v54) :: (dT 5 ((.row false (.rSpan p0)) :: (tL v53) :: (tL v55) :: (dT 4 [])))), dc]
theorem s_span_Size_6_t {R : Type} (cp : Nat → Nat → Bool) (n : Nat) (p0 : (List SSpan)) (v53 v54 v55 : Int) (k : Ex → FF → Option R) : X cp n i_span_Size_0 (fr_span_Size_9 p0 v53 v54 v55) k = s_span_Size_6 cp n p0 v53 v54 v55 (fun v56 v57 => k .norm (fr_span_Size_7 p0 v53 v56 v57)) (k (.exit 0) (fr_span_Size_8 v54)) := by kernel_rfl
def fr_span_Size_10 (v58 : Int) : FF := [dT 3 ((tL v58) :: (dT 12 [])), dc]
theorem l_span_Size_11_t {R : Type} (cp : Nat → Nat → Bool) (n : Nat) : ∀ (m : Nat) (p0 : (List SSpan)) (v53 v54 v55 : Int) (k : Ex → FF → Option R), loopN2 (X cp n i_span_Size_0) m (fr_span_Size_9 p0 v53 v54 v55) k = l_span_Size_11 cp n m p0 v53 v54 v55 (fun v58 => k (.exit 0) (fr_span_Size_10 v58))
  | 0, _, _, _, _, _ => rfl
  | m + 1, p0, v53, v54, v55, k => (loopN2_succ (X cp n i_span_Size_0) m (fr_span_Size_9 p0 v53 v54 v55) k).trans ((s_span_Size_6_t cp n p0 v53 v54 v55 (loopT (X cp n i_span_Size_0) m k)).trans ((show s_span_Size_6 cp n p0 v53 v54 v55 (fun v56 v57 => loopT (X cp n i_span_Size_0) m k .norm (fr_span_Size_7 p0 v53 v56 v57)) (loopT (X cp n i_span_Size_0) m k (.exit 0) (fr_span_Size_8 v54)) = s_span_Size_6 cp n p0 v53 v54 v55 (fun v56 v57 => loopN2 (X cp n i_span_Size_0) m (fr_span_Size_9 p0 v53 v56 v57) k) (k (.exit 0) (fr_span_Size_10 v54)) from by kernel_rfl).trans (congrArg (fun q => s_span_Size_6 cp n p0 v53 v54 v55 q (k (.exit 0) (fr_span_Size_10 v54))) (funext fun v56 => funext fun v57 => l_span_Size_11_t cp n m p0 v53 v56 v57 k))))
theorem s_span_Size_12_t {R : Type} (cp : Nat → Nat → Bool) (n : Nat) (p0 : (List SSpan)) (v53 : Int) (k : Ex → FF → Option R) : X cp n i_span_Size_1 (fr_span_Size_5 p0 v53) k = s_span_Size_12 cp n p0 v53 (fun v58 => k (.exit 0) (fr_span_Size_10 v58)) := (show X cp n i_span_Size_1 (fr_span_Size_5 p0 v53) k = loopN2 (X cp n i_span_Size_0) n (fr_span_Size_9 p0 v53 0 0) k from by kernel_rfl).trans (l_span_Size_11_t cp n n p0 v53 0 0 k)
def fr_span_Size_13 (v59 : Int) : FF := [dT 3 ((tL v59) :: (dT 12 [])), dc]
theorem s_span_Size_14_t {R : Type} (cp : Nat → Nat → Bool) (n : Nat) (p0 : (List SSpan)) (v53 : Int) (k : Ex → FF → Option R) : X cp n i_span_Size_2 (fr_span_Size_5 p0 v53) k = s_span_Size_14 cp n p0 v53 (fun v59 => k .norm (fr_span_Size_13 v59)) := (show X cp n i_span_Size_2 (fr_span_Size_5 p0 v53) k = X cp n i_span_Size_1 (fr_span_Size_5 p0 v53) (blkT 0 k) from by kernel_rfl).trans ((s_span_Size_12_t cp n p0 v53 (blkT 0 k)).trans (by kernel_rfl))
def fr_span_Size_15 (v60 : Int) : FF := [dT 3 ((tL v60) :: (dT 12 [])), dc]
theorem s_span_Size_16_t {R : Type} (cp : Nat → Nat → Bool) (n : Nat) (p0 : (List SSpan)) (k : Ex → FF → Option R) : X cp n i_span_Size_3 (fr_span_Size_2 p0) k = s_span_Size_16 cp n p0 (fun v60 => k .norm (fr_span_Size_15 v60)) := ((fun c => (show X cp n (.seq (.fin (.reg g_span_Size_4) [0] []) c) (fr_span_Size_2 p0) k = s_span_Size_4 cp n p0 (fun v53 => X cp n c (fr_span_Size_5 p0 v53) k) from by kernel_rfl)) i_span_Size_2).trans (congrArg (fun q => s_span_Size_4 cp n p0 q) (funext fun v53 => (s_span_Size_14_t cp n p0 v53 k).trans (show s_span_Size_14 cp n p0 v53 (fun v59 => k .norm (fr_span_Size_13 v59)) = s_span_Size_14 cp n p0 v53 (fun v59 => k .norm (fr_span_Size_15 v59)) from by kernel_rfl)))
def fr_span_Size_18 (v60 : Int) : FF := [dT 2 ((tL v60) :: (dT 13 [])), dc]
theorem s_span_Size_17_t {R : Type} (cp : Nat → Nat → Bool) (n : Nat) (v60 : Int) (k : Ex → FF → Option R) : X cp n i_span_Size_4 (fr_span_Size_15 v60) k = s_span_Size_17 cp n v60 (k .ret (fr_span_Size_18 v60)) := by kernel_rfl
def fr_span_Size_19 (v61 : Int) : FF := [dT 2 ((tL v61) :: (dT 13 [])), dc]
theorem s_span_Size_20_t {R : Type} (cp : Nat → Nat → Bool) (n : Nat) (p0 : (List SSpan)) (k : Ex → FF → Option R) : X cp n i_span_Size_5 (fr_span_Size_2 p0) k = s_span_Size_20 cp n p0 (fun v61 => k .ret (fr_span_Size_19 v61)) := (show X cp n i_span_Size_5 (fr_span_Size_2 p0) k = X cp n i_span_Size_3 (fr_span_Size_2 p0) (seqT (X cp n) i_span_Size_4 k) from by kernel_rfl).trans ((show X cp n i_span_Size_3 (fr_span_Size_2 p0) (seqT (X cp n) i_span_Size_4 k) = s_span_Size_16 cp n p0 (fun v60 => X cp n i_span_Size_4 (fr_span_Size_15 v60) k) from (s_span_Size_16_t cp n p0 (seqT (X cp n) i_span_Size_4 k)).trans (by kernel_rfl)).trans (congrArg (fun q => s_span_Size_16 cp n p0 q) (funext fun v60 => (s_span_Size_17_t cp n v60 k).trans (show s_span_Size_17 cp n v60 (k .ret (fr_span_Size_18 v60)) = s_span_Size_17 cp n v60 (k .ret (fr_span_Size_19 v60)) from by kernel_rfl))))
def fr_span_Size_21 (v62 : Int) : FF := [dT 2 ((tL v62) :: (dT 13 [])), dc]
def fr_span_Size_23 (p0 : (List SSpan)) : FF := [(.row false (.rSpan p0)) :: (dT 15 []), dc]
theorem s_span_Size_22_t {R : Type} (cp : Nat → Nat → Bool) (n : Nat) (p0 : (List SSpan)) (k : Ex → FF → Option R) : X cp n i_span_Size_6 (fr_span_Size_23 p0) k = s_span_Size_22 cp n p0 (fun v62 => k .ret (fr_span_Size_21 v62)) := ((fun c => (show X cp n (.seq (.fin (.reg g_span_Size_0) [2] []) (.seq (.seq (.fin (.reg g_span_Size_1) [6, 7] []) (.fin (.cond (.s 8) (.seq (.fin (.reg g_span_Size_2) [0, 8] []) (.ret)) (.skip)) [8] [])) (.seq (.reg g_span_Size_3) c))) (fr_span_Size_23 p0) k = s_span_Size_1 cp n p0 (X cp n c (fr_span_Size_2 p0) k) (k .ret (fr_span_Size_21 0)) from by kernel_rfl)) i_span_Size_5).trans (congrArg (fun q => s_span_Size_1 cp n p0 q (k .ret (fr_span_Size_21 0))) ((s_span_Size_20_t cp n p0 k).trans (show s_span_Size_20 cp n p0 (fun v61 => k .ret (fr_span_Size_19 v61)) = s_span_Size_20 cp n p0 (fun v61 => k .ret (fr_span_Size_21 v61)) from by kernel_rfl)))
theorem run_span_Size {R : Type} (cp : Nat → Nat → Bool) (n : Nat) (p0 : (List SSpan)) (k : Ret2 RW → Option R) : G_span_Size cp (n + 1) p0 (fun r0 => k ⟨(tL r0), [], []⟩) = run2 U cp (callP cp n) n fn_span_Size [.row false (.rSpan p0)] [] k := ((X_run (f := fn_span_Size) (av := [.row false (.rSpan p0)]) (cells := []) (code := i_span_Size_6) (fr := (fr_span_Size_23 p0)) (k := k) (by kernel_rfl) (fun K => by kernel_rfl)).trans ((s_span_Size_22_t cp n p0 (finK2 fn_span_Size k)).trans (by kernel_rfl))).symm
/-! tideway/span.Find$1 -/
theorem run_span_Find_1 {R : Type} (cp : Nat → Nat → Bool) (n : Nat) (p0 : SSpan) (q0 : Int) (k : Ret2 RW → Option R) : G_span_Find_1 cp (n + 1) p0 q0 (fun r0 r1 => k ⟨(tB r0), [[(tL r1)]], []⟩) = run2 U cp (callP cp n) n fn_span_Find_1 [.agg (eSpan p0), .ptr 14 0] [[(tL q0)]] k := by kernel_rfl
/-! slices.IndexFunc[[]tideway/api.Span,tideway/api.Span] -/
def fr_slices_IndexFunc_Span_2 (p0 : (List SSpan)) (q0 : Int) : FF := [(.row false (.rSpan p0)) :: (.clo 24 [(19, 0)]) :: (dT 14 []), dT 3 ((.hdr 1) :: (tL q0) :: (dT 11 []))]
def fr_slices_IndexFunc_Span_4 (p0 : (List SSpan)) (q0 v65 : Int) : FF := [(.row false (.rSpan p0)) :: (.clo 24 [(19, 0)]) :: (dT 5 ((tL v65) :: (tL 0) :: (dT 7 []))), dT 3 ((.hdr 1) :: (tL q0) :: (dT 11 []))]
def fr_slices_IndexFunc_Span_6 (p0 : (List SSpan)) (v65 v70 v71 : Int) : FF := [(.row false (.rSpan p0)) :: (.clo 24 [(19, 0)]) :: (dT 5 ((tL v65) :: (tL v70) :: (dT 7 []))), dT 3 ((.hdr 1) :: (tL v71) :: (dT 11 []))]
def fr_slices_IndexFunc_Span_7 (v66 v72 : Int) : FF := [dT 4 ((tL v66) :: (dT 11 [])), dT 3 ((.hdr 1) :: (tL v72) :: (dT 11 []))]
def fr_slices_IndexFunc_Span_8 (v67 : Int) : FF := [dc, dT 3 ((.hdr 1) :: (tL v67) :: (dT 11 []))]
def fr_slices_IndexFunc_Span_9 (p0 : (List SSpan)) (v65 v66 v67 : Int) : FF := [(.row false (.rSpan p0)) :: (.clo 24 [(19, 0)]) :: (dT 5 ((tL v65) :: (tL v66) :: (dT 7 []))), dT 3 ((.hdr 1) :: (tL v67) :: (dT 11 []))]
theorem s_slices_IndexFunc_Span_5_t {R : Type} (cp : Nat → Nat → Bool) (n : Nat) (p0 : (List SSpan)) (v65 v66 v67 : Int) (k : Ex → FF → Option R) : X cp n i_slices_IndexFunc_Span_0 (fr_slices_IndexFunc_Span_9 p0 v65 v66 v67) k = s_slices_IndexFunc_Span_5 cp n p0 v65 v66 v67 (fun v70 v71 => k .norm (fr_slices_IndexFunc_Span_6 p0 v65 v70 v71)) (fun v72 => k .ret (fr_slices_IndexFunc_Span_7 v66 v72)) (k (.exit 0) (fr_slices_IndexFunc_Span_8 v67)) := by kernel_rfl
def fr_slices_IndexFunc_Span_10 (v73 v74 : Int) : FF := [dT 4 ((tL v73) :: (dT 11 [])), dT 3 ((.hdr 1) :: (tL v74) :: (dT 11 []))]
def fr_slices_IndexFunc_Span_11 (v75 : Int) : FF := [dc, dT 3 ((.hdr 1) :: (tL v75) :: (dT 11 []))]
theorem l_slices_IndexFunc_Span_12_t {R : Type} (cp : Nat → Nat → Bool) (n : Nat) : ∀ (m : Nat) (p0 : (List SSpan)) (v65 v66 v67 : Int) (k : Ex → FF → Option R), loopN2 (X cp n i_slices_IndexFunc_Span_0) m (fr_slices_IndexFunc_Span_9 p0 v65 v66 v67) k = l_slices_IndexFunc_Span_12 cp n m p0 v65 v66 v67 (fun v73 v74 => k .ret (fr_slices_IndexFunc_Span_10 v73 v74)) (fun v75 => k (.exit 0) (fr_slices_IndexFunc_Span_11 v75))
  | 0, _, _, _, _, _ => rfl
  | m + 1, p0, v65, v66, v67, k => (loopN2_succ (X cp n i_slices_IndexFunc_Span_0) m (fr_slices_IndexFunc_Span_9 p0 v65 v66 v67) k).trans ((s_slices_IndexFunc_Span_5_t cp n p0 v65 v66 v67 (loopT (X cp n i_slices_IndexFunc_Span_0) m k)).trans ((show s_slices_IndexFunc_Span_5 cp n p0 v65 v66 v67 (fun v70 v71 => loopT (X cp n i_slices_IndexFunc_Span_0) m k .norm (fr_slices_IndexFunc_Span_6 p0 v65 v70 v71)) (fun v72 => loopT (X cp n i_slices_IndexFunc_Span_0) m k .ret (fr_slices_IndexFunc_Span_7 v66 v72)) (loopT (X cp n i_slices_IndexFunc_Span_0) m k (.exit 0) (fr_slices_IndexFunc_Span_8 v67)) = s_slices_IndexFunc_Span_5 cp n p0 v65 v66 v67 (fun v70 v71 => loopN2 (X cp n i_slices_IndexFunc_Span_0) m (fr_slices_IndexFunc_Span_9 p0 v65 v70 v71) k) (fun v72 => k .ret (fr_slices_IndexFunc_Span_10 v66 v72)) (k (.exit 0) (fr_slices_IndexFunc_Span_11 v67)) from by kernel_rfl).trans (congrArg (fun q => s_slices_IndexFunc_Span_5 cp n p0 v65 v66 v67 q (fun v72 => k .ret (fr_slices_IndexFunc_Span_10 v66 v72)) (k (.exit 0) (fr_slices_IndexFunc_Span_11 v67))) (funext fun v70 => funext fun v71 => l_slices_IndexFunc_Span_12_t cp n m p0 v65 v70 v71 k))))
theorem s_slices_IndexFunc_Span_13_t {R : Type} (cp : Nat → Nat → Bool) (n : Nat) (p0 : (List SSpan)) (q0 v65 : Int) (k : Ex → FF → Option R) : X cp n i_slices_IndexFunc_Span_1 (fr_slices_IndexFunc_Span_4 p0 q0 v65) k = s_slices_IndexFunc_Span_13 cp n p0 q0 v65 (fun v73 v74 => k .ret (fr_slices_IndexFunc_Span_10 v73 v74)) (fun v75 => k (.exit 0) (fr_slices_IndexFunc_Span_11 v75)) := (show X cp n i_slices_IndexFunc_Span_1 (fr_slices_IndexFunc_Span_4 p0 q0 v65) k = loopN2 (X cp n i_slices_IndexFunc_Span_0) n (fr_slices_IndexFunc_Span_9 p0 v65 0 q0) k from by kernel_rfl).trans (l_slices_IndexFunc_Span_12_t cp n n p0 v65 0 q0 k)
def fr_slices_IndexFunc_Span_14 (v76 : Int) : FF := [dc, dT 3 ((.hdr 1) :: (tL v76) :: (dT 11 []))]
def fr_slices_IndexFunc_Span_15 (v77 v78 : Int) : FF := [dT 4 ((tL v77) :: (dT 11 [])), dT 3 ((.hdr 1) :: (tL v78) :: (dT 11 []))]
theorem s_slices_IndexFunc_Span_16_t {R : Type} (cp : Nat → Nat → Bool) (n : Nat) (p0 : (List SSpan)) (q0 v65 : Int) (k : Ex → FF → Option R) : X cp n i_slices_IndexFunc_Span_2 (fr_slices_IndexFunc_Span_4 p0 q0 v65) k = s_slices_IndexFunc_Span_16 cp n p0 q0 v65 (fun v76 => k .norm (fr_slices_IndexFunc_Span_14 v76)) (fun v77 v78 => k .ret (fr_slices_IndexFunc_Span_15 v77 v78)) := (show X cp n i_slices_IndexFunc_Span_2 (fr_slices_IndexFunc_Span_4 p0 q0 v65) k = X cp n i_slices_IndexFunc_Span_1 (fr_slices_IndexFunc_Span_4 p0 q0 v65) (blkT 0 k) from by kernel_rfl).trans ((s_slices_IndexFunc_Span_13_t cp n p0 q0 v65 (blkT 0 k)).trans (by kernel_rfl))
def fr_slices_IndexFunc_Span_17 (v79 : Int) : FF := [dc, dT 3 ((.hdr 1) :: (tL v79) :: (dT 11 []))]
def fr_slices_IndexFunc_Span_18 (v80 v81 : Int) : FF := [dT 4 ((tL v80) :: (dT 11 [])), dT 3 ((.hdr 1) :: (tL v81) :: (dT 11 []))]
theorem s_slices_IndexFunc_Span_19_t {R : Type} (cp : Nat → Nat → Bool) (n : Nat) (p0 : (List SSpan)) (q0 : Int) (k : Ex → FF → Option R) : X cp n i_slices_IndexFunc_Span_3 (fr_slices_IndexFunc_Span_2 p0 q0) k = s_slices_IndexFunc_Span_19 cp n p0 q0 (fun v79 => k .norm (fr_slices_IndexFunc_Span_17 v79)) (fun v80 v81 => k .ret (fr_slices_IndexFunc_Span_18 v80 v81)) := ((fun c => (show X cp n (.seq (.fin (.reg g_slices_IndexFunc_Span_1) [6] []) c) (fr_slices_IndexFunc_Span_2 p0 q0) k = s_slices_IndexFunc_Span_3 cp n p0 q0 (fun v65 => X cp n c (fr_slices_IndexFunc_Span_4 p0 q0 v65) k) from by kernel_rfl)) i_slices_IndexFunc_Span_2).trans (congrArg (fun q => s_slices_IndexFunc_Span_3 cp n p0 q0 q) (funext fun v65 => (s_slices_IndexFunc_Span_16_t cp n p0 q0 v65 k).trans (show s_slices_IndexFunc_Span_16 cp n p0 q0 v65 (fun v76 => k .norm (fr_slices_IndexFunc_Span_14 v76)) (fun v77 v78 => k .ret (fr_slices_IndexFunc_Span_15 v77 v78)) = s_slices_IndexFunc_Span_16 cp n p0 q0 v65 (fun v76 => k .norm (fr_slices_IndexFunc_Span_17 v76)) (fun v77 v78 => k .ret (fr_slices_IndexFunc_Span_18 v77 v78)) from by kernel_rfl)))
def fr_slices_IndexFunc_Span_21 (v79 : Int) : FF := [dT 4 ((tL (-1)) :: (dT 11 [])), dT 3 ((.hdr 1) :: (tL v79) :: (dT 11 []))]
theorem s_slices_IndexFunc_Span_20_t {R : Type} (cp : Nat → Nat → Bool) (n : Nat) (v79 : Int) (k : Ex → FF → Option R) : X cp n i_slices_IndexFunc_Span_4 (fr_slices_IndexFunc_Span_17 v79) k = s_slices_IndexFunc_Span_20 cp n v79 (k .ret (fr_slices_IndexFunc_Span_21 v79)) := by kernel_rfl
def fr_slices_IndexFunc_Span_22 (v82 v83 : Int) : FF := [dT 4 ((tL v82) :: (dT 11 [])), dT 3 ((.hdr 1) :: (tL v83) :: (dT 11 []))]
theorem s_slices_IndexFunc_Span_23_t {R : Type} (cp : Nat → Nat → Bool) (n : Nat) (p0 : (List SSpan)) (q0 : Int) (k : Ex → FF → Option R) : X cp n i_slices_IndexFunc_Span_5 (fr_slices_IndexFunc_Span_2 p0 q0) k = s_slices_IndexFunc_Span_23 cp n p0 q0 (fun v82 v83 => k .ret (fr_slices_IndexFunc_Span_22 v82 v83)) := (show X cp n i_slices_IndexFunc_Span_5 (fr_slices_IndexFunc_Span_2 p0 q0) k = X cp n i_slices_IndexFunc_Span_3 (fr_slices_IndexFunc_Span_2 p0 q0) (seqT (X cp n) i_slices_IndexFunc_Span_4 k) from by kernel_rfl).trans ((show X cp n i_slices_IndexFunc_Span_3 (fr_slices_IndexFunc_Span_2 p0 q0) (seqT (X cp n) i_slices_IndexFunc_Span_4 k) = s_slices_IndexFunc_Span_19 cp n p0 q0 (fun v79 => X cp n i_slices_IndexFunc_Span_4 (fr_slices_IndexFunc_Span_17 v79) k) (fun v80 v81 => k .ret (fr_slices_IndexFunc_Span_22 v80 v81)) from (s_slices_IndexFunc_Span_19_t cp n p0 q0 (seqT (X cp n) i_slices_IndexFunc_Span_4 k)).trans (by kernel_rfl)).trans (congrArg (fun q => s_slices_IndexFunc_Span_19 cp n p0 q0 q (fun v80 v81 => k .ret (fr_slices_IndexFunc_Span_22 v80 v81))) (funext fun v79 => (s_slices_IndexFunc_Span_20_t cp n v79 k).trans (show s_slices_IndexFunc_Span_20 cp n v79 (k .ret (fr_slices_IndexFunc_Span_21 v79)) = s_slices_IndexFunc_Span_20 cp n v79 (k .ret (fr_slices_IndexFunc_Span_22 (-1) v79)) from by kernel_rfl))))
def fr_slices_IndexFunc_Span_24 (v84 v85 : Int) : FF := [dT 4 ((tL v84) :: (dT 11 [])), dT 3 ((.hdr 1) :: (tL v85) :: (dT 11 []))]
theorem s_slices_IndexFunc_Span_25_t {R : Type} (cp : Nat → Nat → Bool) (n : Nat) (p0 : (List SSpan)) (q0 : Int) (k : Ex → FF → Option R) : X cp n i_slices_IndexFunc_Span_6 (fr_slices_IndexFunc_Span_2 p0 q0) k = s_slices_IndexFunc_Span_25 cp n p0 q0 (fun v84 v85 => k .ret (fr_slices_IndexFunc_Span_24 v84 v85)) := ((fun c => (show X cp n (.seq (.fin (.reg g_slices_IndexFunc_Span_0) [4] []) c) (fr_slices_IndexFunc_Span_2 p0 q0) k = s_slices_IndexFunc_Span_1 cp n p0 q0 (X cp n c (fr_slices_IndexFunc_Span_2 p0 q0) k) from by kernel_rfl)) i_slices_IndexFunc_Span_5).trans (congrArg (fun q => s_slices_IndexFunc_Span_1 cp n p0 q0 q) ((s_slices_IndexFunc_Span_23_t cp n p0 q0 k).trans (show s_slices_IndexFunc_Span_23 cp n p0 q0 (fun v82 v83 => k .ret (fr_slices_IndexFunc_Span_22 v82 v83)) = s_slices_IndexFunc_Span_23 cp n p0 q0 (fun v82 v83 => k .ret (fr_slices_IndexFunc_Span_24 v82 v83)) from by kernel_rfl)))
theorem run_slices_IndexFunc_Span {R : Type} (cp : Nat → Nat → Bool) (n : Nat) (p0 : (List SSpan)) (q0 : Int) (k : Ret2 RW → Option R) : G_slices_IndexFunc_Span cp (n + 1) p0 q0 (fun r0 r1 => k ⟨(tL r0), [[(tL r1)]], []⟩) = run2 U cp (callP cp n) n fn_slices_IndexFunc_Span [.row false (.rSpan p0), .clo 24 [(19, 0)]] [[(tL q0)]] k := ((X_run (f := fn_slices_IndexFunc_Span) (av := [.row false (.rSpan p0), .clo 24 [(19, 0)]]) (cells := [[(tL q0)]]) (code := i_slices_IndexFunc_Span_6) (fr := (fr_slices_IndexFunc_Span_2 p0 q0)) (k := k) (by kernel_rfl) (fun K => by kernel_rfl)).trans ((s_slices_IndexFunc_Span_25_t cp n p0 q0 (finK2 fn_slices_IndexFunc_Span k)).trans (by kernel_rfl))).symm
/-! tideway/span.Find -/
theorem run_span_Find {R : Type} (cp : Nat → Nat → Bool) (n : Nat) (p0 : (List SSpan)) (p1 : Int) (k : Ret2 RW → Option R) : G_span_Find cp (n + 1) p0 p1 (fun r0 r1 => k ⟨.tup [.agg (eSpan r0), (tB r1)], [], []⟩) = run2 U cp (callP cp n) n fn_span_Find [.row false (.rSpan p0), (tL p1)] [] k := by kernel_rfl
/-! tideway/span.Has -/
theorem run_span_Has {R : Type} (cp : Nat → Nat → Bool) (n : Nat) (p0 : (List SSpan)) (p1 : Int) (k : Ret2 RW → Option R) : G_span_Has cp (n + 1) p0 p1 (fun r0 => k ⟨(tB r0), [], []⟩) = run2 U cp (callP cp n) n fn_span_Has [.row false (.rSpan p0), (tL p1)] [] k := by kernel_rfl
/-! tideway/tidewaylaw06.heads -/
def fr_law06_heads_2 (v45 : (List SSpan)) (v46 : Int) (v47 : (List SSpan)) (v48 : Int) : FF := [dT 2 ((.row false (.rSpan v45)) :: (tL v46) :: (.row false (.rSpan v47)) :: (dT 1 ((tL v48) :: (dT 9 [])))), dc, dc, dc]
def fr_law06_heads_4 (v54 : Bool) : FF := [(tB v54) :: (dT 15 []), dc, dc, dc]
theorem s_law06_heads_3_t {R : Type} (cp : Nat → Nat → Bool) (n : Nat) (v45 : (List SSpan)) (v46 : Int) (v47 : (List SSpan)) (v48 : Int) (k : Ex → FF → Option R) : X cp n i_law06_heads_0 (fr_law06_heads_2 v45 v46 v47 v48) k = s_law06_heads_3 cp n v45 v46 v47 v48 (fun v54 => k .norm (fr_law06_heads_4 v54)) := by kernel_rfl
theorem s_law06_heads_5_t {R : Type} (cp : Nat → Nat → Bool) (n : Nat) (v54 : Bool) (k : Ex → FF → Option R) : X cp n i_law06_heads_1 (fr_law06_heads_4 v54) k = s_law06_heads_5 cp n v54 (k .ret (fr_law06_heads_4 v54)) := by kernel_rfl
def fr_law06_heads_6 (v55 : Bool) : FF := [(tB v55) :: (dT 15 []), dc, dc, dc]
theorem s_law06_heads_7_t {R : Type} (cp : Nat → Nat → Bool) (n : Nat) (v45 : (List SSpan)) (v46 : Int) (v47 : (List SSpan)) (v48 : Int) (k : Ex → FF → Option R) : X cp n i_law06_heads_2 (fr_law06_heads_2 v45 v46 v47 v48) k = s_law06_heads_7 cp n v45 v46 v47 v48 (fun v55 => k .ret (fr_law06_heads_6 v55)) := (show X cp n i_law06_heads_2 (fr_law06_heads_2 v45 v46 v47 v48) k = X cp n i_law06_heads_0 (fr_law06_heads_2 v45 v46 v47 v48) (seqT (X cp n) i_law06_heads_1 k) from by kernel_rfl).trans ((show X cp n i_law06_heads_0 (fr_law06_heads_2 v45 v46 v47 v48) (seqT (X cp n) i_law06_heads_1 k) = s_law06_heads_3 cp n v45 v46 v47 v48 (fun v54 => X cp n i_law06_heads_1 (fr_law06_heads_4 v54) k) from (s_law06_heads_3_t cp n v45 v46 v47 v48 (seqT (X cp n) i_law06_heads_1 k)).trans (by kernel_rfl)).trans (congrArg (fun q => s_law06_heads_3 cp n v45 v46 v47 v48 q) (funext fun v54 => (s_law06_heads_5_t cp n v54 k).trans (show s_law06_heads_5 cp n v54 (k .ret (fr_law06_heads_4 v54)) = s_law06_heads_5 cp n v54 (k .ret (fr_law06_heads_6 v54)) from by kernel_rfl))))
def fr_law06_heads_8 (v56 : Bool) : FF := [(tB v56) :: (dT 15 []), dc, dc, dc]
def fr_law06_heads_10 : FF := [dc, dc, dc, dc]
theorem s_law06_heads_9_t {R : Type} (cp : Nat → Nat → Bool) (n : Nat) (k : Ex → FF → Option R) : X cp n i_law06_heads_3 fr_law06_heads_10 k = s_law06_heads_9 cp n (fun v56 => k .ret (fr_law06_heads_8 v56)) := ((fun c => (show X cp n (.seq (.fin (.reg g_law06_heads_0) [0] []) (.seq (.fin (.reg g_law06_heads_1) [7, 8, 9] []) (.seq (.fin (.reg g_law06_heads_2) [1, 10, 11, 12, 13, 14, 15] []) (.seq (.fin (.reg g_law06_heads_3) [16, 17, 18] []) (.seq (.fin (.reg g_law06_heads_4) [5, 19, 20, 21, 22, 23, 24, 25] []) c))))) fr_law06_heads_10 k = s_law06_heads_1 cp n (fun v45 v46 v47 v48 => X cp n c (fr_law06_heads_2 v45 v46 v47 v48) k) from by kernel_rfl)) i_law06_heads_2).trans (congrArg (fun q => s_law06_heads_1 cp n q) (funext fun v45 => funext fun v46 => funext fun v47 => funext fun v48 => (s_law06_heads_7_t cp n v45 v46 v47 v48 k).trans (show s_law06_heads_7 cp n v45 v46 v47 v48 (fun v55 => k .ret (fr_law06_heads_6 v55)) = s_law06_heads_7 cp n v45 v46 v47 v48 (fun v55 => k .ret (fr_law06_heads_8 v55)) from by kernel_rfl)))
theorem run_law06_heads {R : Type} (cp : Nat → Nat → Bool) (n : Nat) (k : Ret2 RW → Option R) : G_law06_heads cp (n + 1) (fun r0 => k ⟨(tB r0), [], []⟩) = run2 U cp (callP cp n) n fn_law06_heads [] [] k := ((X_run (f := fn_law06_heads) (av := []) (cells := []) (code := i_law06_heads_3) (fr := fr_law06_heads_10) (k := k) (by kernel_rfl) (fun K => by kernel_rfl)).trans ((s_law06_heads_9_t cp n  (finK2 fn_law06_heads k)).trans (by kernel_rfl))).symm
/-! tideway/tidewaylaw06.SpanChanges -/
def fr_law06_SpanChanges_2 (p0 v21 v22 : (List SSpan)) (v23 : Int) (v24 : (List SSpan)) (v25 : Int) (v26 : (List SSpan)) (v27 : Int) (v28 : (List SSpan)) (v29 : Int) : FF := [(.row false (.rSpan p0)) :: (dT 4 ((.row false (.rSpan v21)) :: (.row false (.rSpan v22)) :: (tL v23) :: (.row false (.rSpan v24)) :: (tL v25) :: (.row false (.rSpan v26)) :: (tL v27) :: (.row false (.rSpan v28)) :: (tL v29) :: (dT 2 []))), dc, dc, dc, dc]
def fr_law06_SpanChanges_4 (v58 : Bool) : FF := [dT 4 ((tB v58) :: (dT 11 [])), dc, dc, dc, dc]
theorem s_law06_SpanChanges_3_t {R : Type} (cp : Nat → Nat → Bool) (n : Nat) (p0 v21 v22 : (List SSpan)) (v23 : Int) (v24 : (List SSpan)) (v25 : Int) (v26 : (List SSpan)) (v27 : Int) (v28 : (List SSpan)) (v29 : Int) (k : Ex → FF → Option R) : X cp n i_law06_SpanChanges_0 (fr_law06_SpanChanges_2 p0 v21 v22 v23 v24 v25 v26 v27 v28 v29) k = s_law06_SpanChanges_3 cp n p0 v21 v22 v23 v24 v25 v26 v27 v28 v29 (fun v58 => k .norm (fr_law06_SpanChanges_4 v58)) := by kernel_rfl
theorem s_law06_SpanChanges_5_t {R : Type} (cp : Nat → Nat → Bool) (n : Nat) (v58 : Bool) (k : Ex → FF → Option R) : X cp n i_law06_SpanChanges_1 (fr_law06_SpanChanges_4 v58) k = s_law06_SpanChanges_5 cp n v58 (k .ret (fr_law06_SpanChanges_4 v58)) := by kernel_rfl
def fr_law06_SpanChanges_6 (v59 : Bool) : FF := [dT 4 ((tB v59) :: (dT 11 [])), dc, dc, dc, dc]
theorem s_law06_SpanChanges_7_t {R : Type} (cp : Nat → Nat → Bool) (n : Nat) (p0 v21 v22 : (List SSpan)) (v23 : Int) (v24 : (List SSpan)) (v25 : Int) (v26 : (List SSpan)) (v27 : Int) (v28 : (List SSpan)) (v29 : Int) (k : Ex → FF → Option R) : X cp n i_law06_SpanChanges_2 (fr_law06_SpanChanges_2 p0 v21 v22 v23 v24 v25 v26 v27 v28 v29) k = s_law06_SpanChanges_7 cp n p0 v21 v22 v23 v24 v25 v26 v27 v28 v29 (fun v59 => k .ret (fr_law06_SpanChanges_6 v59)) := (show X cp n i_law06_SpanChanges_2 (fr_law06_SpanChanges_2 p0 v21 v22 v23 v24 v25 v26 v27 v28 v29) k = X cp n i_law06_SpanChanges_0 (fr_law06_SpanChanges_2 p0 v21 v22 v23 v24 v25 v26 v27 v28 v29) (seqT (X cp n) i_law06_SpanChanges_1 k) from by kernel_rfl).trans ((show X cp n i_law06_SpanChanges_0 (fr_law06_SpanChanges_2 p0 v21 v22 v23 v24 v25 v26 v27 v28 v29) (seqT (X cp n) i_law06_SpanChanges_1 k) = s_law06_SpanChanges_3 cp n p0 v21 v22 v23 v24 v25 v26 v27 v28 v29 (fun v58 => X cp n i_law06_SpanChanges_1 (fr_law06_SpanChanges_4 v58) k) from (s_law06_SpanChanges_3_t cp n p0 v21 v22 v23 v24 v25 v26 v27 v28 v29 (seqT (X cp n) i_law06_SpanChanges_1 k)).trans (by kernel_rfl)).trans (congrArg (fun q => s_law06_SpanChanges_3 cp n p0 v21 v22 v23 v24 v25 v26 v27 v28 v29 q) (funext fun v58 => (s_law06_SpanChanges_5_t cp n v58 k).trans (show s_law06_SpanChanges_5 cp n v58 (k .ret (fr_law06_SpanChanges_4 v58)) = s_law06_SpanChanges_5 cp n v58 (k .ret (fr_law06_SpanChanges_6 v58)) from by kernel_rfl))))
def fr_law06_SpanChanges_8 (v60 : Bool) : FF := [dT 4 ((tB v60) :: (dT 11 [])), dc, dc, dc, dc]
def fr_law06_SpanChanges_10 (p0 : (List SSpan)) (p1 : SSpan) : FF := [(.row false (.rSpan p0)) :: (.agg (eSpan p1)) :: (dT 14 []), dc, dc, dc, dc]
theorem s_law06_SpanChanges_9_t {R : Type} (cp : Nat → Nat → Bool) (n : Nat) (p0 : (List SSpan)) (p1 : SSpan) (k : Ex → FF → Option R) : X cp n i_law06_SpanChanges_3 (fr_law06_SpanChanges_10 p0 p1) k = s_law06_SpanChanges_9 cp n p0 p1 (fun v60 => k .ret (fr_law06_SpanChanges_8 v60)) := ((fun c => (show X cp n (.seq (.fin (.reg g_law06_SpanChanges_0) [1, 4] []) (.seq (.fin (.reg g_law06_SpanChanges_1) [14, 15, 16] []) (.seq (.fin (.reg g_law06_SpanChanges_2) [17, 18, 19, 20, 21, 22] []) (.seq (.fin (.reg g_law06_SpanChanges_3) [23, 24, 25, 26, 27, 28] []) (.seq (.fin (.reg g_law06_SpanChanges_4) [29, 30, 31, 32, 33, 34] []) (.seq (.fin (.reg g_law06_SpanChanges_5) [3, 35, 36, 37, 38, 39, 40] [(74, 2)]) c)))))) (fr_law06_SpanChanges_10 p0 p1) k = s_law06_SpanChanges_1 cp n p0 p1 (fun v21 v22 v23 v24 v25 v26 v27 v28 v29 => X cp n c (fr_law06_SpanChanges_2 p0 v21 v22 v23 v24 v25 v26 v27 v28 v29) k) from by kernel_rfl)) i_law06_SpanChanges_2).trans (congrArg (fun q => s_law06_SpanChanges_1 cp n p0 p1 q) (funext fun v21 => funext fun v22 => funext fun v23 => funext fun v24 => funext fun v25 => funext fun v26 => funext fun v27 => funext fun v28 => funext fun v29 => (s_law06_SpanChanges_7_t cp n p0 v21 v22 v23 v24 v25 v26 v27 v28 v29 k).trans (show s_law06_SpanChanges_7 cp n p0 v21 v22 v23 v24 v25 v26 v27 v28 v29 (fun v59 => k .ret (fr_law06_SpanChanges_6 v59)) = s_law06_SpanChanges_7 cp n p0 v21 v22 v23 v24 v25 v26 v27 v28 v29 (fun v59 => k .ret (fr_law06_SpanChanges_8 v59)) from by kernel_rfl)))
theorem run_law06_SpanChanges {R : Type} (cp : Nat → Nat → Bool) (n : Nat) (p0 : (List SSpan)) (p1 : SSpan) (k : Ret2 RW → Option R) : G_law06_SpanChanges cp (n + 1) p0 p1 (fun r0 => k ⟨(tB r0), [], []⟩) = run2 U cp (callP cp n) n fn_law06_SpanChanges [.row false (.rSpan p0), .agg (eSpan p1)] [] k := ((X_run (f := fn_law06_SpanChanges) (av := [.row false (.rSpan p0), .agg (eSpan p1)]) (cells := []) (code := i_law06_SpanChanges_3) (fr := (fr_law06_SpanChanges_10 p0 p1)) (k := k) (by kernel_rfl) (fun K => by kernel_rfl)).trans ((s_law06_SpanChanges_9_t cp n p0 p1 (finK2 fn_law06_SpanChanges k)).trans (by kernel_rfl))).symm
def tbl : Nat → Option IFn
  | 19 => some (fn_span_may.lo U)
  | 11 => some (fn_span_Check.lo U)
  | 13 => some (fn_span_right.lo U)
  | 14 => some fn_slices_Clone_Span
  | 5 => some (fn_span_Add.lo U)
  | 12 => some (fn_ref06_Check.lo U)
  | 18 => some (fn_ref06_right.lo U)
  | 8 => some (fn_ref06_Add.lo U)
  | 9 => some (fn_span_Cut.lo U)
  | 10 => some (fn_ref06_Cut.lo U)
  | 7 => some (fn_ref06_Same.lo U)
  | 20 => some (fn_span_within.lo U)
  | 15 => some (fn_span_Gaps.lo U)
  | 16 => some (fn_span_Size.lo U)
  | 1019 => some (fn_span_Find_1.lo U)
  | 1018 => some (fn_slices_IndexFunc_Span.lo U)
  | 21 => some (fn_span_Find.lo U)
  | 17 => some (fn_span_Has.lo U)
  | 6 => some (fn_law06_heads.lo U)
  | 4 => some (fn_law06_SpanChanges.lo U)
  | _ => none
theorem chk_span_may : chkFn Try.prog tbl (fn_span_may.lo U) = true := by kernel_rfl
theorem chk_span_Check : chkFn Try.prog tbl (fn_span_Check.lo U) = true := by kernel_rfl
theorem chk_span_right : chkFn Try.prog tbl (fn_span_right.lo U) = true := by kernel_rfl
theorem chk_slices_Clone_Span : chkFn Try.prog tbl fn_slices_Clone_Span = true := by kernel_rfl
theorem chk_span_Add : chkFn Try.prog tbl (fn_span_Add.lo U) = true := by kernel_rfl
theorem chk_ref06_Check : chkFn Try.prog tbl (fn_ref06_Check.lo U) = true := by kernel_rfl
theorem chk_ref06_right : chkFn Try.prog tbl (fn_ref06_right.lo U) = true := by kernel_rfl
theorem chk_ref06_Add : chkFn Try.prog tbl (fn_ref06_Add.lo U) = true := by kernel_rfl
theorem chk_span_Cut : chkFn Try.prog tbl (fn_span_Cut.lo U) = true := by kernel_rfl
theorem chk_ref06_Cut : chkFn Try.prog tbl (fn_ref06_Cut.lo U) = true := by kernel_rfl
theorem chk_ref06_Same : chkFn Try.prog tbl (fn_ref06_Same.lo U) = true := by kernel_rfl
theorem chk_span_within : chkFn Try.prog tbl (fn_span_within.lo U) = true := by kernel_rfl
theorem chk_span_Gaps : chkFn Try.prog tbl (fn_span_Gaps.lo U) = true := by kernel_rfl
theorem chk_span_Size : chkFn Try.prog tbl (fn_span_Size.lo U) = true := by kernel_rfl
theorem chk_span_Find_1 : chkFn Try.prog tbl (fn_span_Find_1.lo U) = true := by kernel_rfl
theorem chk_slices_IndexFunc_Span : chkFn Try.prog tbl (fn_slices_IndexFunc_Span.lo U) = true := by kernel_rfl
theorem chk_span_Find : chkFn Try.prog tbl (fn_span_Find.lo U) = true := by kernel_rfl
theorem chk_span_Has : chkFn Try.prog tbl (fn_span_Has.lo U) = true := by kernel_rfl
theorem chk_law06_heads : chkFn Try.prog tbl (fn_law06_heads.lo U) = true := by kernel_rfl
theorem chk_law06_SpanChanges : chkFn Try.prog tbl (fn_law06_SpanChanges.lo U) = true := by kernel_rfl
theorem chkAll : ∀ (id : Nat) (f : IFn), tbl id = some f → chkFn Try.prog tbl f = true := by
  intro id f h
  unfold tbl at h
  split at h
  · cases h; exact chk_span_may
  · cases h; exact chk_span_Check
  · cases h; exact chk_span_right
  · cases h; exact chk_slices_Clone_Span
  · cases h; exact chk_span_Add
  · cases h; exact chk_ref06_Check
  · cases h; exact chk_ref06_right
  · cases h; exact chk_ref06_Add
  · cases h; exact chk_span_Cut
  · cases h; exact chk_ref06_Cut
  · cases h; exact chk_ref06_Same
  · cases h; exact chk_span_within
  · cases h; exact chk_span_Gaps
  · cases h; exact chk_span_Size
  · cases h; exact chk_span_Find_1
  · cases h; exact chk_slices_IndexFunc_Span
  · cases h; exact chk_span_Find
  · cases h; exact chk_span_Has
  · cases h; exact chk_law06_heads
  · cases h; exact chk_law06_SpanChanges
  · cases h
theorem clone_slices_Clone_Span (n : Nat) (xs : (List SSpan)) (hc : capB (0 + xs.length) 16 = true) : runF tbl (n + 1) 14 [.row false 2 xs.length (rg cSpan zSpan xs)] [] = some ⟨.row true 2 xs.length (rg cSpan zSpan xs), [], []⟩ :=
  clone_fin (F := fun m g => runF tbl (n + 1) 14 [.row false 2 m g] []) (fun g => show runF tbl (n + 1) 14 [.row false 2 0 g] [] = both (some ⟨.row true 2 0 (fun _ => [.sc (.int .i64 0), .sc (.int .i64 0)]), [], []⟩) (cond (capB (0 + 0) 16) (some ⟨.row true 2 (0 + 0) (appGet 0 0 (litGet 2 0 [.sc (.int .i64 0), .sc (.int .i64 0)] []) g), [], []⟩) none) from by kernel_rfl) (fun m g => show runF tbl (n + 1) 14 [.row false 2 (m + 1) g] [] = (cond (capB (0 + (m + 1)) 16) (some ⟨.row true 2 (0 + (m + 1)) (appGet 0 (m + 1) (litGet 2 0 [.sc (.int .i64 0), .sc (.int .i64 0)] []) g), [], []⟩) none) from by kernel_rfl) (show cSpan zSpan = [.sc (.int .i64 0), .sc (.int .i64 0)] from by kernel_rfl) xs hc
theorem dI_ok {kd : IntKind} {y : TV RW} {a : Int} (h : dI kd y = some a) : y = .sc (.int kd a) := by
  unfold dI at h
  split at h
  · obtain ⟨h1, h2⟩ := cond_some h
    cases h2
    rw [of_decide_eq_true h1]
  · cases h
theorem dB_ok {y : TV RW} {a : Bool} (h : dB y = some a) : y = .sc (.bool a) := by
  unfold dB at h
  split at h <;> cases h
  rfl
theorem dS_ok {y : TV RW} {a : ByteArray} (h : dS y = some a) : y = .sc (.string a) := by
  unfold dS at h
  split at h <;> cases h
  rfl
theorem dA_ok {y : TV RW} {a : Fr} (h : dA y = some a) : y = .agg a := by
  unfold dA at h
  split at h <;> cases h
  rfl
theorem dOne_ok {y : Fr} {a : TV RW} (h : dOne y = some a) : y = [a] := by
  unfold dOne at h
  split at h <;> cases h
  rfl
theorem dP_ok {a b : Nat} {y : TV RW} {u : Unit} (h : dP a b y = some u) : y = .ptr a b := by
  unfold dP at h
  split at h
  · obtain ⟨h1, h2⟩ := cond_some h
    simp only [Bool.and_eq_true] at h1
    rw [nbeq h1.1, nbeq h1.2]
  · cases h
theorem dC_ok {a : Nat} {b : List (Nat × Nat)} {y : TV RW} {u : Unit} (h : dC a b y = some u) : y = .clo a b := by
  unfold dC at h
  split at h
  · obtain ⟨h1, h2⟩ := cond_some h
    simp only [Bool.and_eq_true] at h1
    rw [nbeq h1.1, of_decide_eq_true h1.2]
  · cases h
theorem dRSpan_ok {fl : Bool} {y : TV RW} {a : List SSpan} (h : dRSpan fl y = some a) : y = .row fl (.rSpan a) := by
  unfold dRSpan at h
  split at h
  · obtain ⟨h1, h2⟩ := cond_some h
    cases h2
    rw [eq_of_beq h1]
  · cases h
theorem dSpan_ok {L : Fr} {a : SSpan} (h : dSpan L = some a) : L = eSpan a := by
  unfold dSpan at h
  split at h
  · simp only [Option.bind_eq_some_iff] at h
    obtain ⟨a0, h0, a1, h1, h⟩ := h
    cases h
    obtain rfl := dI_ok h0
    obtain rfl := dI_ok h1
    rfl
  · cases h
theorem pSpan_ok : ∀ {L : Fr} {xs : List SSpan}, pSpan_ L = some xs → TV.los U L = (xs.map cSpan).flatten
  | [], xs, h => by cases h; rfl
  | [_], xs, h => by cases h
  | y0 :: y1 :: r, xs, h => by
    simp only [pSpan_, Option.bind_eq_some_iff] at h
    obtain ⟨a0, h0, a1, h1, xs', h', h⟩ := h
    cases h
    have ih := pSpan_ok h'
    obtain rfl := dI_ok h0
    obtain rfl := dI_ok h1
    show _ :: _ :: TV.los U r = _
    rw [ih]; rfl
theorem UOk : UniOk U where
  get := fun r i => match r with
    | .rSpan xs => by kernel_rfl
  app := fun r q x h => by cases r <;> cases q <;> first | (cases h; done) | (cases h; exact ⟨rfl, rfl, List.length_append, (rg_app (c := cSpan) (z := zSpan)).symm⟩)
  sub := fun lo n r h => by cases r <;> first | exact ⟨rfl, sub_len h, (rg_sub (c := cSpan) (z := zSpan) h).symm⟩
  lit := fun t n L r h => by
    unfold U at h
    dsimp only at h
    split at h
    · obtain ⟨xs, h1, rfl, rfl⟩ := bind_lit h
      have e := pSpan_ok h1
      exact ⟨rfl, rfl, by rw [e]; exact (rg_lit (c := cSpan) (sz := 2) (z := zSpan) (fun _ => rfl)).symm, by rw [e]; exact all_flat (fun _ => rfl) xs⟩
    · cases h
theorem ok_span_may {R : Type} {r : R} : ∀ {n : Nat}, (∀ m, n = m + 1 → CallOk2 (R := R) U (callP capB m) (runF tbl m)) → ∀ {av : Fr} {cs : List Fr} {k : Ret2 RW → Option R}, ca_span_may capB n av cs k = some r → ∃ q : Ret2 RW, runF tbl n 19 (TV.los U av) (cs.map (TV.los U)) = some (q.lo U) ∧ k q = some r := by
  intro n ih av cs k h
  unfold ca_span_may at h
  split at h
  · simp only [Option.bind_eq_some_iff] at h
    obtain ⟨c0_, h0, p0, g0, h⟩ := h
    obtain rfl := dA_ok h0
    obtain rfl := dSpan_ok g0
    cases n with
    | zero => cases h
    | succ n =>
      exact run2_ok UOk (ih n rfl) (f := fn_span_may) rfl ((run_span_may capB n p0 k).symm.trans h)
  · cases h
theorem ok_span_Check {R : Type} {r : R} : ∀ {n : Nat}, (∀ m, n = m + 1 → CallOk2 (R := R) U (callP capB m) (runF tbl m)) → ∀ {av : Fr} {cs : List Fr} {k : Ret2 RW → Option R}, ca_span_Check capB n av cs k = some r → ∃ q : Ret2 RW, runF tbl n 11 (TV.los U av) (cs.map (TV.los U)) = some (q.lo U) ∧ k q = some r := by
  intro n ih av cs k h
  unfold ca_span_Check at h
  split at h
  · simp only [Option.bind_eq_some_iff] at h
    obtain ⟨p0, h0, h⟩ := h
    obtain rfl := dRSpan_ok h0
    cases n with
    | zero => cases h
    | succ n =>
      exact run2_ok UOk (ih n rfl) (f := fn_span_Check) rfl ((run_span_Check capB n p0 k).symm.trans h)
  · cases h
theorem ok_span_right {R : Type} {r : R} : ∀ {n : Nat}, (∀ m, n = m + 1 → CallOk2 (R := R) U (callP capB m) (runF tbl m)) → ∀ {av : Fr} {cs : List Fr} {k : Ret2 RW → Option R}, ca_span_right capB n av cs k = some r → ∃ q : Ret2 RW, runF tbl n 13 (TV.los U av) (cs.map (TV.los U)) = some (q.lo U) ∧ k q = some r := by
  intro n ih av cs k h
  unfold ca_span_right at h
  split at h
  · simp only [Option.bind_eq_some_iff] at h
    obtain ⟨p0, h0, c1_, h1, p1, g1, h⟩ := h
    obtain rfl := dRSpan_ok h0
    obtain rfl := dA_ok h1
    obtain rfl := dSpan_ok g1
    cases n with
    | zero => cases h
    | succ n =>
      exact run2_ok UOk (ih n rfl) (f := fn_span_right) rfl ((run_span_right capB n p0 p1 k).symm.trans h)
  · cases h
theorem ok_slices_Clone_Span {R : Type} {r : R} : ∀ {n : Nat}, (∀ m, n = m + 1 → CallOk2 (R := R) U (callP capB m) (runF tbl m)) → ∀ {av : Fr} {cs : List Fr} {k : Ret2 RW → Option R}, ca_slices_Clone_Span capB n av cs k = some r → ∃ q : Ret2 RW, runF tbl n 14 (TV.los U av) (cs.map (TV.los U)) = some (q.lo U) ∧ k q = some r := by
  intro n ih av cs k h
  unfold ca_slices_Clone_Span at h
  split at h
  · simp only [Option.bind_eq_some_iff] at h
    obtain ⟨p0, h0, h⟩ := h
    obtain rfl := dRSpan_ok h0
    cases n with
    | zero => cases h
    | succ n =>
      obtain ⟨h1, h2⟩ := cond_some h
      exact ⟨⟨.row true (.rSpan p0), [], []⟩, clone_slices_Clone_Span n p0 h1, h2⟩
  · cases h
theorem ok_span_Add {R : Type} {r : R} : ∀ {n : Nat}, (∀ m, n = m + 1 → CallOk2 (R := R) U (callP capB m) (runF tbl m)) → ∀ {av : Fr} {cs : List Fr} {k : Ret2 RW → Option R}, ca_span_Add capB n av cs k = some r → ∃ q : Ret2 RW, runF tbl n 5 (TV.los U av) (cs.map (TV.los U)) = some (q.lo U) ∧ k q = some r := by
  intro n ih av cs k h
  unfold ca_span_Add at h
  split at h
  · simp only [Option.bind_eq_some_iff] at h
    obtain ⟨p0, h0, c1_, h1, p1, g1, h⟩ := h
    obtain rfl := dRSpan_ok h0
    obtain rfl := dA_ok h1
    obtain rfl := dSpan_ok g1
    cases n with
    | zero => cases h
    | succ n =>
      exact run2_ok UOk (ih n rfl) (f := fn_span_Add) rfl ((run_span_Add capB n p0 p1 k).symm.trans h)
  · cases h
theorem ok_ref06_Check {R : Type} {r : R} : ∀ {n : Nat}, (∀ m, n = m + 1 → CallOk2 (R := R) U (callP capB m) (runF tbl m)) → ∀ {av : Fr} {cs : List Fr} {k : Ret2 RW → Option R}, ca_ref06_Check capB n av cs k = some r → ∃ q : Ret2 RW, runF tbl n 12 (TV.los U av) (cs.map (TV.los U)) = some (q.lo U) ∧ k q = some r := by
  intro n ih av cs k h
  unfold ca_ref06_Check at h
  split at h
  · simp only [Option.bind_eq_some_iff] at h
    obtain ⟨p0, h0, h⟩ := h
    obtain rfl := dRSpan_ok h0
    cases n with
    | zero => cases h
    | succ n =>
      exact run2_ok UOk (ih n rfl) (f := fn_ref06_Check) rfl ((run_ref06_Check capB n p0 k).symm.trans h)
  · cases h
theorem ok_ref06_right {R : Type} {r : R} : ∀ {n : Nat}, (∀ m, n = m + 1 → CallOk2 (R := R) U (callP capB m) (runF tbl m)) → ∀ {av : Fr} {cs : List Fr} {k : Ret2 RW → Option R}, ca_ref06_right capB n av cs k = some r → ∃ q : Ret2 RW, runF tbl n 18 (TV.los U av) (cs.map (TV.los U)) = some (q.lo U) ∧ k q = some r := by
  intro n ih av cs k h
  unfold ca_ref06_right at h
  split at h
  · simp only [Option.bind_eq_some_iff] at h
    obtain ⟨c0_, h0, p0, g0, h⟩ := h
    obtain rfl := dA_ok h0
    obtain rfl := dSpan_ok g0
    cases n with
    | zero => cases h
    | succ n =>
      exact run2_ok UOk (ih n rfl) (f := fn_ref06_right) rfl ((run_ref06_right capB n p0 k).symm.trans h)
  · cases h
theorem ok_ref06_Add {R : Type} {r : R} : ∀ {n : Nat}, (∀ m, n = m + 1 → CallOk2 (R := R) U (callP capB m) (runF tbl m)) → ∀ {av : Fr} {cs : List Fr} {k : Ret2 RW → Option R}, ca_ref06_Add capB n av cs k = some r → ∃ q : Ret2 RW, runF tbl n 8 (TV.los U av) (cs.map (TV.los U)) = some (q.lo U) ∧ k q = some r := by
  intro n ih av cs k h
  unfold ca_ref06_Add at h
  split at h
  · simp only [Option.bind_eq_some_iff] at h
    obtain ⟨p0, h0, c1_, h1, p1, g1, h⟩ := h
    obtain rfl := dRSpan_ok h0
    obtain rfl := dA_ok h1
    obtain rfl := dSpan_ok g1
    cases n with
    | zero => cases h
    | succ n =>
      exact run2_ok UOk (ih n rfl) (f := fn_ref06_Add) rfl ((run_ref06_Add capB n p0 p1 k).symm.trans h)
  · cases h
theorem ok_span_Cut {R : Type} {r : R} : ∀ {n : Nat}, (∀ m, n = m + 1 → CallOk2 (R := R) U (callP capB m) (runF tbl m)) → ∀ {av : Fr} {cs : List Fr} {k : Ret2 RW → Option R}, ca_span_Cut capB n av cs k = some r → ∃ q : Ret2 RW, runF tbl n 9 (TV.los U av) (cs.map (TV.los U)) = some (q.lo U) ∧ k q = some r := by
  intro n ih av cs k h
  unfold ca_span_Cut at h
  split at h
  · simp only [Option.bind_eq_some_iff] at h
    obtain ⟨p0, h0, c1_, h1, p1, g1, h⟩ := h
    obtain rfl := dRSpan_ok h0
    obtain rfl := dA_ok h1
    obtain rfl := dSpan_ok g1
    cases n with
    | zero => cases h
    | succ n =>
      exact run2_ok UOk (ih n rfl) (f := fn_span_Cut) rfl ((run_span_Cut capB n p0 p1 k).symm.trans h)
  · cases h
theorem ok_ref06_Cut {R : Type} {r : R} : ∀ {n : Nat}, (∀ m, n = m + 1 → CallOk2 (R := R) U (callP capB m) (runF tbl m)) → ∀ {av : Fr} {cs : List Fr} {k : Ret2 RW → Option R}, ca_ref06_Cut capB n av cs k = some r → ∃ q : Ret2 RW, runF tbl n 10 (TV.los U av) (cs.map (TV.los U)) = some (q.lo U) ∧ k q = some r := by
  intro n ih av cs k h
  unfold ca_ref06_Cut at h
  split at h
  · simp only [Option.bind_eq_some_iff] at h
    obtain ⟨p0, h0, c1_, h1, p1, g1, h⟩ := h
    obtain rfl := dRSpan_ok h0
    obtain rfl := dA_ok h1
    obtain rfl := dSpan_ok g1
    cases n with
    | zero => cases h
    | succ n =>
      exact run2_ok UOk (ih n rfl) (f := fn_ref06_Cut) rfl ((run_ref06_Cut capB n p0 p1 k).symm.trans h)
  · cases h
theorem ok_ref06_Same {R : Type} {r : R} : ∀ {n : Nat}, (∀ m, n = m + 1 → CallOk2 (R := R) U (callP capB m) (runF tbl m)) → ∀ {av : Fr} {cs : List Fr} {k : Ret2 RW → Option R}, ca_ref06_Same capB n av cs k = some r → ∃ q : Ret2 RW, runF tbl n 7 (TV.los U av) (cs.map (TV.los U)) = some (q.lo U) ∧ k q = some r := by
  intro n ih av cs k h
  unfold ca_ref06_Same at h
  split at h
  · simp only [Option.bind_eq_some_iff] at h
    obtain ⟨p0, h0, p1, h1, h⟩ := h
    obtain rfl := dRSpan_ok h0
    obtain rfl := dRSpan_ok h1
    cases n with
    | zero => cases h
    | succ n =>
      exact run2_ok UOk (ih n rfl) (f := fn_ref06_Same) rfl ((run_ref06_Same capB n p0 p1 k).symm.trans h)
  · cases h
theorem ok_span_within {R : Type} {r : R} : ∀ {n : Nat}, (∀ m, n = m + 1 → CallOk2 (R := R) U (callP capB m) (runF tbl m)) → ∀ {av : Fr} {cs : List Fr} {k : Ret2 RW → Option R}, ca_span_within capB n av cs k = some r → ∃ q : Ret2 RW, runF tbl n 20 (TV.los U av) (cs.map (TV.los U)) = some (q.lo U) ∧ k q = some r := by
  intro n ih av cs k h
  unfold ca_span_within at h
  split at h
  · simp only [Option.bind_eq_some_iff] at h
    obtain ⟨p0, h0, c1_, h1, p1, g1, h⟩ := h
    obtain rfl := dRSpan_ok h0
    obtain rfl := dA_ok h1
    obtain rfl := dSpan_ok g1
    cases n with
    | zero => cases h
    | succ n =>
      exact run2_ok UOk (ih n rfl) (f := fn_span_within) rfl ((run_span_within capB n p0 p1 k).symm.trans h)
  · cases h
theorem ok_span_Gaps {R : Type} {r : R} : ∀ {n : Nat}, (∀ m, n = m + 1 → CallOk2 (R := R) U (callP capB m) (runF tbl m)) → ∀ {av : Fr} {cs : List Fr} {k : Ret2 RW → Option R}, ca_span_Gaps capB n av cs k = some r → ∃ q : Ret2 RW, runF tbl n 15 (TV.los U av) (cs.map (TV.los U)) = some (q.lo U) ∧ k q = some r := by
  intro n ih av cs k h
  unfold ca_span_Gaps at h
  split at h
  · simp only [Option.bind_eq_some_iff] at h
    obtain ⟨p0, h0, c1_, h1, p1, g1, h⟩ := h
    obtain rfl := dRSpan_ok h0
    obtain rfl := dA_ok h1
    obtain rfl := dSpan_ok g1
    cases n with
    | zero => cases h
    | succ n =>
      exact run2_ok UOk (ih n rfl) (f := fn_span_Gaps) rfl ((run_span_Gaps capB n p0 p1 k).symm.trans h)
  · cases h
theorem ok_span_Size {R : Type} {r : R} : ∀ {n : Nat}, (∀ m, n = m + 1 → CallOk2 (R := R) U (callP capB m) (runF tbl m)) → ∀ {av : Fr} {cs : List Fr} {k : Ret2 RW → Option R}, ca_span_Size capB n av cs k = some r → ∃ q : Ret2 RW, runF tbl n 16 (TV.los U av) (cs.map (TV.los U)) = some (q.lo U) ∧ k q = some r := by
  intro n ih av cs k h
  unfold ca_span_Size at h
  split at h
  · simp only [Option.bind_eq_some_iff] at h
    obtain ⟨p0, h0, h⟩ := h
    obtain rfl := dRSpan_ok h0
    cases n with
    | zero => cases h
    | succ n =>
      exact run2_ok UOk (ih n rfl) (f := fn_span_Size) rfl ((run_span_Size capB n p0 k).symm.trans h)
  · cases h
theorem ok_span_Find_1 {R : Type} {r : R} : ∀ {n : Nat}, (∀ m, n = m + 1 → CallOk2 (R := R) U (callP capB m) (runF tbl m)) → ∀ {av : Fr} {cs : List Fr} {k : Ret2 RW → Option R}, ca_span_Find_1 capB n av cs k = some r → ∃ q : Ret2 RW, runF tbl n 1019 (TV.los U av) (cs.map (TV.los U)) = some (q.lo U) ∧ k q = some r := by
  intro n ih av cs k h
  unfold ca_span_Find_1 at h
  split at h
  · simp only [Option.bind_eq_some_iff] at h
    obtain ⟨c0_, h0, p0, g0, u1, h1, u_0, j0, q0, i0, h⟩ := h
    obtain rfl := dA_ok h0
    obtain rfl := dSpan_ok g0
    obtain rfl := dP_ok h1
    obtain rfl := dOne_ok j0
    obtain rfl := dI_ok i0
    cases n with
    | zero => cases h
    | succ n =>
      exact run2_ok UOk (ih n rfl) (f := fn_span_Find_1) rfl ((run_span_Find_1 capB n p0 q0 k).symm.trans h)
  · cases h
theorem ok_slices_IndexFunc_Span {R : Type} {r : R} : ∀ {n : Nat}, (∀ m, n = m + 1 → CallOk2 (R := R) U (callP capB m) (runF tbl m)) → ∀ {av : Fr} {cs : List Fr} {k : Ret2 RW → Option R}, ca_slices_IndexFunc_Span capB n av cs k = some r → ∃ q : Ret2 RW, runF tbl n 1018 (TV.los U av) (cs.map (TV.los U)) = some (q.lo U) ∧ k q = some r := by
  intro n ih av cs k h
  unfold ca_slices_IndexFunc_Span at h
  split at h
  · simp only [Option.bind_eq_some_iff] at h
    obtain ⟨p0, h0, u1, h1, u_0, j0, q0, i0, h⟩ := h
    obtain rfl := dRSpan_ok h0
    obtain rfl := dC_ok h1
    obtain rfl := dOne_ok j0
    obtain rfl := dI_ok i0
    cases n with
    | zero => cases h
    | succ n =>
      exact run2_ok UOk (ih n rfl) (f := fn_slices_IndexFunc_Span) rfl ((run_slices_IndexFunc_Span capB n p0 q0 k).symm.trans h)
  · cases h
theorem ok_span_Find {R : Type} {r : R} : ∀ {n : Nat}, (∀ m, n = m + 1 → CallOk2 (R := R) U (callP capB m) (runF tbl m)) → ∀ {av : Fr} {cs : List Fr} {k : Ret2 RW → Option R}, ca_span_Find capB n av cs k = some r → ∃ q : Ret2 RW, runF tbl n 21 (TV.los U av) (cs.map (TV.los U)) = some (q.lo U) ∧ k q = some r := by
  intro n ih av cs k h
  unfold ca_span_Find at h
  split at h
  · simp only [Option.bind_eq_some_iff] at h
    obtain ⟨p0, h0, p1, h1, h⟩ := h
    obtain rfl := dRSpan_ok h0
    obtain rfl := dI_ok h1
    cases n with
    | zero => cases h
    | succ n =>
      exact run2_ok UOk (ih n rfl) (f := fn_span_Find) rfl ((run_span_Find capB n p0 p1 k).symm.trans h)
  · cases h
theorem ok_span_Has {R : Type} {r : R} : ∀ {n : Nat}, (∀ m, n = m + 1 → CallOk2 (R := R) U (callP capB m) (runF tbl m)) → ∀ {av : Fr} {cs : List Fr} {k : Ret2 RW → Option R}, ca_span_Has capB n av cs k = some r → ∃ q : Ret2 RW, runF tbl n 17 (TV.los U av) (cs.map (TV.los U)) = some (q.lo U) ∧ k q = some r := by
  intro n ih av cs k h
  unfold ca_span_Has at h
  split at h
  · simp only [Option.bind_eq_some_iff] at h
    obtain ⟨p0, h0, p1, h1, h⟩ := h
    obtain rfl := dRSpan_ok h0
    obtain rfl := dI_ok h1
    cases n with
    | zero => cases h
    | succ n =>
      exact run2_ok UOk (ih n rfl) (f := fn_span_Has) rfl ((run_span_Has capB n p0 p1 k).symm.trans h)
  · cases h
theorem ok_law06_heads {R : Type} {r : R} : ∀ {n : Nat}, (∀ m, n = m + 1 → CallOk2 (R := R) U (callP capB m) (runF tbl m)) → ∀ {av : Fr} {cs : List Fr} {k : Ret2 RW → Option R}, ca_law06_heads capB n av cs k = some r → ∃ q : Ret2 RW, runF tbl n 6 (TV.los U av) (cs.map (TV.los U)) = some (q.lo U) ∧ k q = some r := by
  intro n ih av cs k h
  unfold ca_law06_heads at h
  split at h
  · cases n with
    | zero => cases h
    | succ n =>
      exact run2_ok UOk (ih n rfl) (f := fn_law06_heads) rfl ((run_law06_heads capB n  k).symm.trans h)
  · cases h
theorem ok_law06_SpanChanges {R : Type} {r : R} : ∀ {n : Nat}, (∀ m, n = m + 1 → CallOk2 (R := R) U (callP capB m) (runF tbl m)) → ∀ {av : Fr} {cs : List Fr} {k : Ret2 RW → Option R}, ca_law06_SpanChanges capB n av cs k = some r → ∃ q : Ret2 RW, runF tbl n 4 (TV.los U av) (cs.map (TV.los U)) = some (q.lo U) ∧ k q = some r := by
  intro n ih av cs k h
  unfold ca_law06_SpanChanges at h
  split at h
  · simp only [Option.bind_eq_some_iff] at h
    obtain ⟨p0, h0, c1_, h1, p1, g1, h⟩ := h
    obtain rfl := dRSpan_ok h0
    obtain rfl := dA_ok h1
    obtain rfl := dSpan_ok g1
    cases n with
    | zero => cases h
    | succ n =>
      exact run2_ok UOk (ih n rfl) (f := fn_law06_SpanChanges) rfl ((run_law06_SpanChanges capB n p0 p1 k).symm.trans h)
  · cases h
theorem callOk {R : Type} : ∀ n, CallOk2 (R := R) U (callP capB n) (runF tbl n)
  | n => fun id av cells k r h => by
    have ih : ∀ m, n = m + 1 → CallOk2 (R := R) U (callP capB m) (runF tbl m) := fun m e => callOk m
    unfold callP at h
    split at h
    · exact ok_span_may ih h
    · exact ok_span_Check ih h
    · exact ok_span_right ih h
    · exact ok_slices_Clone_Span ih h
    · exact ok_span_Add ih h
    · exact ok_ref06_Check ih h
    · exact ok_ref06_right ih h
    · exact ok_ref06_Add ih h
    · exact ok_span_Cut ih h
    · exact ok_ref06_Cut ih h
    · exact ok_ref06_Same ih h
    · exact ok_span_within ih h
    · exact ok_span_Gaps ih h
    · exact ok_span_Size ih h
    · exact ok_span_Find_1 ih h
    · exact ok_slices_IndexFunc_Span ih h
    · exact ok_span_Find ih h
    · exact ok_span_Has ih h
    · exact ok_law06_heads ih h
    · exact ok_law06_SpanChanges ih h
    · cases h
termination_by n => n
decreasing_by omega
end
end Go.Proofs.Ytapelpfcflgjkaa.M
