/- The machine's code of the functions, and that it computes them. -/
import Derived.Test.YtilmdmjhdidoiaaTG0
import Derived.Test.YtilmdmjhdidoiaaProg
import Derived.KernelRfl
set_option maxRecDepth 100000
set_option linter.unusedVariables false
set_option linter.unusedSimpArgs false
namespace Go.Proofs.Ytilmdmjhdidoiaa.M
open Go
noncomputable section
variable {R : Type}
abbrev KX (R : Type) := Ex → FF → Option R
abbrev LS := List (IStep2 RW)
abbrev CW := IC2 RW
def X (cp : CP) (n : Nat) (c : IC2 RW) (l : FF) (k : KX R) : Option R := exec2 U cp (callP cp n) n c l k
theorem X_run {R : Type} {cp : Nat → Nat → Bool} {n : Nat} {f : IFn2 RW} {av : Fr} {cells : List Fr} {code : IC2 RW} {fr : FF} {k : Ret2 RW → Option R} (hb : f.body = code) (h : ∀ K : FF → Option R, start2 f av cells K = K fr) : run2 U cp (callP cp n) n f av cells k = X cp n code fr (finK2 f k) := by
  subst hb
  exact h _
def XI (cp : CP) (n : Nat) (Y : List (TV RW) → FF → (FF → Option R) → Option R) (c : IC2 RW) (l : FF) (k : KX R) : Option R := execI2 U cp (callP cp n) n Y c l k
def o0 (op : IOp2 RW) : IStep2 RW := ⟨none, op, none, false⟩
def o1 (d : Nat) (op : IOp2 RW) : IStep2 RW := ⟨some d, op, none, false⟩
def o2 (d : Nat) (op : IOp2 RW) : IStep2 RW := ⟨some d, op, none, true⟩
def o3 (d g : Nat) (b : Bool) (op : IOp2 RW) : IStep2 RW := ⟨some d, op, some (g, b), false⟩
def g27_0 : LS := [o1 1 (.box 12 15 false (.s 0)),
  o1 2 (.mv false (.k (.sc (.int .i64 0))))]
def g27_1 : LS := [o1 3 (.fld 0 (.s 1)),
  o1 4 (.load 12 0 1 false false 3),
  o1 5 (.fld 1 (.s 1)),
  o1 6 (.load 12 1 1 false false 5),
  o1 7 (.len false (.s 6)),
  o1 8 (.bin .sub (.s 4) (.s 7)),
  o1 9 (.fld 3 (.s 1)),
  o1 10 (.load 12 3 1 false false 9),
  o1 11 (.bin .add (.s 8) (.s 10)),
  o1 2 (.mv false (.s 11))]
def i27_0 : CW := .seq (.fin (.reg g27_0) [0, 2] []) (.seq (.fin (.reg g27_1) [1, 3, 4, 5, 6, 7, 8, 9, 10, 11] [(12, 15)]) (.ret))
def fn27 : IFn2 RW := ⟨27, 1, 12, 32, [(12, 15)], [], [], [.slot 2], i27_0⟩
def g53_0 : LS := [o1 1 (.box 6 15 false (.s 0)),
  o1 2 (.mv false (.k (.sc (.int .i64 0))))]
def g53_1 : LS := [o1 3 (.load 6 0 15 true false 1),
  o1 4 (.call 27 [(false, .s 3)] [] []),
  o1 5 (.mnmx false [.s 4, .k (.sc (.int .i64 562949953421312))]),
  o1 2 (.mv false (.s 5))]
def i53_0 : CW := .seq (.fin (.reg g53_0) [0, 2] []) (.seq (.fin (.reg g53_1) [1, 3, 4, 5] [(6, 15)]) (.ret))
def fn53 : IFn2 RW := ⟨53, 1, 6, 32, [(6, 15)], [], [], [.slot 2], i53_0⟩
def g55_0 : LS := [o1 1 (.box 4 15 false (.s 0)),
  o1 2 (.mv false (.k (.sc .nilFunc)))]
def g55_1 : LS := [o1 3 (.mkclo 70 [.s 1]),
  o1 2 (.mv false (.s 3))]
def i55_0 : CW := .seq (.fin (.reg g55_0) [0, 2] []) (.seq (.fin (.reg g55_1) [1, 3] []) (.ret))
def fn55 : IFn2 RW := ⟨55, 1, 4, 32, [(4, 15)], [], [(4, 15)], [.slot 2], i55_0⟩
def g71_0 : LS := [o1 1 (.box 12 2 false (.s 0)),
  o1 2 (.alloc 15 [.sc (.int .i64 0), .sc (.int .i64 0)])]
def g71_1 : LS := [o1 3 (.fld 0 (.s 1)),
  o1 4 (.load 12 0 1 false false 3),
  o1 5 (.fld 0 (.s 1)),
  o1 6 (.load 12 0 1 false false 5),
  o1 7 (.fld 1 (.s 1)),
  o1 8 (.load 12 1 1 false false 7),
  o1 9 (.len false (.s 8)),
  o1 10 (.bin .add (.s 6) (.s 9)),
  o1 11 (.build [.sc (.int .i64 0), .sc (.int .i64 0)] [(0, 1, .s 4), (1, 1, .s 10)]),
  o0 (.store 15 0 2 false 2 (.s 11))]
def i71_0 : CW := .seq (.fin (.reg g71_0) [0] []) (.seq (.fin (.reg g71_1) [1, 3, 4, 5, 6, 7, 8, 9, 10, 11] [(12, 2)]) (.ret))
def fn71 : IFn2 RW := ⟨71, 1, 12, 32, [(12, 2), (15, 2)], [], [], [.cell 2 15 2 true], i71_0⟩
def g1008_2 : LS := [o1 5 (.alloc 50 [.sc (.int .i64 0), .sc (.int .i64 0)]),
  o0 (.store 50 0 2 false 5 (.s 7))]
def i1008_0 : CW := .fin (.reg g1008_2) [7] []
def g1008_3 : LS := [o1 8 (.load 48 0 1 false true 2),
  o1 9 (.load 50 0 2 true false 5),
  o1 10 (.bslice 78 1 [(0, 2, .s 9)]),
  o1 11 (.app 2 16 true (.s 8) (.s 10)),
  o0 (.store 48 0 1 true 2 (.s 11))]
def i1008_1 : CW := .blk 1 (.fin (.reg g1008_3) [5, 8, 9, 10, 11] [(50, 2)])
def i1008_2 : CW := .seq i1008_0 i1008_1
def g1008_1000 : LS := [o1 5 (.fld 2 (.s 1)),
  o1 6 (.load 32 2 1 false false 5),
  o1 7 (.len false (.s 6)),
  o1 8 (.mv false (.k (.sc (.int .i64 0))))]
def g1008_1001 : LS := [o1 9 (.bin .lss (.s 8) (.s 7))]
def g1008_1002 : LS := [o1 10 (.idx 2 (.s 6) (.s 8)),
  o1 11 (.loade 2 true 10),
  o1 4 (.alloc 53 [.sc (.int .i64 0), .row false (.ruint8 [])]),
  o0 (.store 53 0 2 false 4 (.s 11))]
def g1008_10031 : LS := [o1 12 (.mv false (.s 0)),
  o1 13 (.load 53 0 2 true false 4),
  o1 14 (.call 71 [(false, .s 13)] [] [])]
def g1008_10032 : LS := [o1 16 (.un .not (.s 15))]
def g1008_1004 : LS := [o1 17 (.bin .add (.s 8) (.k (.sc (.int .i64 1)))),
  o1 8 (.mv false (.s 17))]
def i1008_3 : CW := .seq (.fin (.reg g1008_1000) [1, 5] []) (.blk 0 (.loop (.seq (.reg g1008_1001) (.seq (.fin (.cond (.s 9) (.skip) (.clr [0, 6, 7, 8, 9] [] (.exit 0))) [9] []) (.seq (.blk 1 (.seq (.fin (.reg g1008_1002) [10, 11] []) (.seq (.fin (.yreg g1008_10031 (.s 12) [.s 14] none 15 g1008_10032) [4, 12, 13, 14, 15] [(53, 2)]) (.fin (.cond (.s 16) (.clr [0, 6, 7, 8, 16] [] (.ret)) (.skip)) [16] [])))) (.fin (.reg g1008_1004) [17] []))))))
def i1008_4 : CW := .fin (.yreg g1008_10031 (.s 12) [.s 14] none 15 g1008_10032) [4, 12, 13, 14, 15] [(53, 2)]
def i1008_5 : CW := .fin (.cond (.s 16) (.clr [0, 6, 7, 8, 16] [] (.ret)) (.skip)) [16] []
def i1008_6 : CW := .seq i1008_4 i1008_5
def i1008_7 : CW := .seq (.fin (.reg g1008_1002) [10, 11] []) i1008_6
def i1008_8 : CW := .blk 1 i1008_7
def i1008_9 : CW := .fin (.reg g1008_1004) [17] []
def i1008_10 : CW := .seq i1008_8 i1008_9
def i1008_11 : CW := .seq (.reg g1008_1001) (.seq (.fin (.cond (.s 9) (.skip) (.clr [0, 6, 7, 8, 9] [] (.exit 0))) [9] []) i1008_10)
def i1008_12 : CW := .loop i1008_11
def i1008_13 : CW := .blk 0 i1008_12
def i1008_14 : CW := .fin (.rfn (.s 6) 70 2 18 [7] i1008_3 i1008_0 i1008_1 [32, 48] [32, 48, 53]) [6] []
def i1008_15 : CW := .blk 0 i1008_14
def g1008_1 : LS := [o1 6 (.mv false (.s 1))]
def i1008_16 : CW := .seq (.fin (.reg g1008_1) [1] []) i1008_15
def g1008_4 : LS := [o1 12 (.load 48 0 1 false false 2),
  o1 4 (.mv false (.s 12))]
def i1008_17 : CW := .seq (.fin (.reg g1008_4) [2, 12] [(48, 1)]) (.ret)
def i1008_18 : CW := .seq i1008_16 i1008_17
def g1008_0 : LS := [o1 2 (.box 48 1 true (.s 0)),
  o1 4 (.mv false (.k (.row false (.rSpan []))))]
def i1008_19 : CW := .seq (.fin (.reg g1008_0) [0, 4] []) i1008_18
def fn1008 : IFn2 RW := ⟨69, 2, 13, 64, [(32, 15), (48, 1), (50, 2), (53, 2)], [(32, 15)], [], [.slot 4], i1008_19⟩
def g1007_0 : LS := [o1 2 (.mv false (.k (.row false (.rSpan []))))]
def g1007_1 : LS := [o1 3 (.mv false (.s 0)),
  o1 4 (.call 1008 [(true, .k (.row true (.rSpan []))), (false, .s 3)] [(5, 15, 32)] []),
  o1 2 (.mv false (.s 4))]
def i1007_0 : CW := .seq (.fin (.reg g1007_0) [2] []) (.seq (.fin (.reg g1007_1) [0, 3, 4] []) (.ret))
def fn1007 : IFn2 RW := ⟨54, 1, 5, 32, [(5, 15)], [(5, 15)], [], [.slot 2], i1007_0⟩
def g72_2 : LS := [o1 9 (.bin .lss (.s 8) (.s 7))]
def g72_3 : LS := [o1 10 (.mv false (.s 8)),
  o1 5 (.mv false (.s 10))]
def g72_4 : LS := [o1 11 (.load 19 0 2 true false 3),
  o1 12 (.mv false (.s 0)),
  o1 13 (.mv false (.s 5)),
  o1 14 (.idx 2 (.s 12) (.s 13)),
  o1 15 (.loade 2 true 14),
  o1 16 (.eqs [true, true] false (.s 11) (.s 15))]
def g72_5 : LS := [o1 17 (.mv false (.s 5)),
  o1 4 (.mv false (.s 17))]
def g72_6 : LS := [o1 18 (.bin .add (.s 8) (.k (.sc (.int .i64 1)))),
  o1 8 (.mv false (.s 18))]
def i72_0 : CW := .seq (.reg g72_2) (.seq (.fin (.cond (.s 9) (.skip) (.clr [0, 3, 7, 8, 9] [(19, 2)] (.exit 0))) [9] []) (.seq (.blk 1 (.seq (.fin (.reg g72_3) [10] []) (.seq (.fin (.reg g72_4) [11, 12, 13, 14, 15] []) (.fin (.cond (.s 16) (.seq (.fin (.reg g72_5) [0, 3, 5, 7, 8, 16, 17] [(19, 2)]) (.ret)) (.skip)) [5, 16] [])))) (.fin (.reg g72_6) [18] [])))
def i72_1 : CW := .loop i72_0
def i72_2 : CW := .blk 0 i72_1
def g72_1 : LS := [o1 6 (.mv false (.s 0)),
  o1 7 (.len false (.s 6)),
  o1 8 (.mv false (.k (.sc (.int .i64 0))))]
def i72_3 : CW := .seq (.fin (.reg g72_1) [6] []) i72_2
def g72_7 : LS := [o1 4 (.mv false (.k (.sc (.int .i64 (-1)))))]
def i72_4 : CW := .seq (.reg g72_7) (.ret)
def i72_5 : CW := .seq i72_3 i72_4
def g72_0 : LS := [o1 3 (.box 19 2 false (.s 1)),
  o1 4 (.mv false (.k (.sc (.int .i64 0))))]
def i72_6 : CW := .seq (.fin (.reg g72_0) [1, 4] []) i72_5
def fn72 : IFn2 RW := ⟨72, 2, 19, 32, [(19, 2)], [], [], [.slot 4], i72_6⟩
def g56_0 : LS := [o1 3 (.box 9 2 false (.s 1)),
  o1 4 (.mv false (.k (.sc (.bool false))))]
def g56_1 : LS := [o1 5 (.mv false (.s 0)),
  o1 6 (.load 9 0 2 true false 3),
  o1 7 (.call 72 [(false, .s 5), (false, .s 6)] [] []),
  o1 8 (.bin .geq (.s 7) (.k (.sc (.int .i64 0)))),
  o1 4 (.mv false (.s 8))]
def i56_0 : CW := .seq (.fin (.reg g56_0) [1, 4] []) (.seq (.fin (.reg g56_1) [0, 3, 5, 6, 7, 8] [(9, 2)]) (.ret))
def fn56 : IFn2 RW := ⟨56, 2, 9, 16, [(9, 2)], [], [], [.slot 4], i56_0⟩
def g28_3 : LS := [o1 16 (.bin .lss (.s 15) (.s 14))]
def g28_4 : LS := [o1 17 (.idx 2 (.s 13) (.s 15)),
  o1 18 (.loade 2 true 17),
  o1 5 (.alloc 98 [.sc (.int .i64 0), .row false (.ruint8 [])]),
  o0 (.store 98 0 2 false 5 (.s 18))]
def g28_5 : LS := [o1 19 (.fld 1 (.s 5)),
  o1 20 (.load 98 1 1 false false 19),
  o1 21 (.len false (.s 20)),
  o1 6 (.mv false (.s 21))]
def g28_6 : LS := [o1 22 (.mv false (.s 6)),
  o1 23 (.bin .eql (.s 22) (.k (.sc (.int .i64 0)))),
  o2 24 (.mv false (.s 23)),
  o3 25 24 false (.fld 0 (.s 5)),
  o3 26 24 false (.load 98 0 1 false false 25),
  o3 27 24 false (.mv false (.s 3)),
  o3 28 24 false (.bin .leq (.s 26) (.s 27)),
  o1 29 (.pick (.s 24) (.k (.sc (.bool true))) (.s 28)),
  o2 30 (.mv false (.s 29)),
  o3 31 30 false (.fld 0 (.s 5)),
  o3 32 30 false (.load 98 0 1 false false 31),
  o3 33 30 false (.load 82 0 15 true false 1),
  o3 34 30 false (.call 53 [(false, .s 33)] [] []),
  o3 35 30 false (.mv false (.s 6)),
  o3 36 30 false (.bin .sub (.s 34) (.s 35)),
  o3 37 30 false (.bin .gtr (.s 32) (.s 36)),
  o1 38 (.pick (.s 30) (.k (.sc (.bool true))) (.s 37)),
  o2 39 (.mv false (.s 38)),
  o3 40 39 false (.fld 9 (.s 1)),
  o3 41 39 false (.load 82 9 1 false false 40),
  o3 42 39 false (.bin .geq (.s 41) (.k (.sc (.int .i64 0)))),
  ⟨some 43, .mv false (.s 42), (some (39, false)), true⟩,
  o3 44 43 true (.fld 0 (.s 5)),
  o3 45 43 true (.load 98 0 1 false false 44),
  o3 46 43 true (.fld 9 (.s 1)),
  o3 47 43 true (.load 82 9 1 false false 46),
  o3 48 43 true (.mv false (.s 6)),
  o3 49 43 true (.bin .sub (.s 47) (.s 48)),
  o3 50 43 true (.bin .gtr (.s 45) (.s 49)),
  o3 51 39 false (.pick (.s 43) (.s 50) (.k (.sc (.bool false)))),
  o1 52 (.pick (.s 39) (.k (.sc (.bool true))) (.s 51))]
def g28_7 : LS := [o1 2 (.mv false (.k (.sc (.bool false))))]
def g28_8 : LS := [o1 53 (.fld 0 (.s 5)),
  o1 54 (.load 98 0 1 false false 53),
  o1 55 (.mv false (.s 6)),
  o1 56 (.bin .add (.s 54) (.s 55)),
  o1 3 (.mv false (.s 56))]
def g28_9 : LS := [o1 57 (.bin .add (.s 15) (.k (.sc (.int .i64 1)))),
  o1 15 (.mv false (.s 57))]
def i28_0 : CW := .seq (.reg g28_3) (.seq (.fin (.cond (.s 16) (.skip) (.clr [3, 13, 14, 15, 16] [] (.exit 0))) [16] []) (.seq (.blk 1 (.seq (.fin (.reg g28_4) [17, 18] []) (.seq (.fin (.reg g28_5) [19, 20, 21] []) (.seq (.seq (.fin (.reg g28_6) [3, 22, 23, 24, 25, 26, 27, 28, 29, 30, 31, 32, 33, 34, 35, 36, 37, 38, 39, 40, 41, 42, 43, 44, 45, 46, 47, 48, 49, 50, 51] []) (.fin (.cond (.s 52) (.seq (.fin (.reg g28_7) [1, 5, 6, 13, 14, 15, 52] [(82, 15), (98, 2)]) (.ret)) (.skip)) [52] [])) (.fin (.reg g28_8) [5, 6, 53, 54, 55, 56] [(98, 2)]))))) (.fin (.reg g28_9) [57] [])))
def i28_1 : CW := .loop i28_0
def i28_2 : CW := .blk 0 i28_1
def g28_2 : LS := [o1 12 (.fld 2 (.s 1)),
  o1 13 (.load 82 2 1 false false 12),
  o1 14 (.len false (.s 13)),
  o1 15 (.mv false (.k (.sc (.int .i64 0))))]
def i28_3 : CW := .seq (.fin (.reg g28_2) [12] []) i28_2
def g28_12 : LS := [o1 65 (.bin .lss (.s 64) (.s 63))]
def g28_13 : LS := [o1 66 (.mv false (.s 64)),
  o1 67 (.idx 2 (.s 62) (.s 64)),
  o1 68 (.loade 2 true 67),
  o1 9 (.alloc 101 [.sc (.int .i64 0), .sc (.int .i64 0)]),
  o1 8 (.mv false (.s 66)),
  o0 (.store 101 0 2 false 9 (.s 68))]
def g28_14 : LS := [o1 69 (.mv false (.s 7)),
  o1 70 (.load 101 0 2 true false 9),
  o1 71 (.call 56 [(false, .s 69), (false, .s 70)] [] []),
  o1 72 (.un .not (.s 71)),
  o2 73 (.mv false (.s 72)),
  o3 74 73 false (.fld 11 (.s 1)),
  o3 75 73 false (.load 82 11 1 false false 74),
  o3 76 73 false (.mv false (.s 8)),
  o3 77 73 false (.slice 2 (.s 75) none (some (.s 76)) none),
  o3 78 73 false (.load 101 0 2 true false 9),
  o3 79 73 false (.call 56 [(false, .s 77), (false, .s 78)] [] []),
  o1 80 (.pick (.s 73) (.k (.sc (.bool true))) (.s 79))]
def g28_15 : LS := [o1 2 (.mv false (.k (.sc (.bool false))))]
def g28_16 : LS := [o1 81 (.bin .add (.s 64) (.k (.sc (.int .i64 1)))),
  o1 64 (.mv false (.s 81))]
def i28_4 : CW := .seq (.reg g28_12) (.seq (.fin (.cond (.s 65) (.skip) (.clr [1, 7, 62, 63, 64, 65] [(82, 15)] (.exit 2))) [65] []) (.seq (.blk 3 (.seq (.fin (.reg g28_13) [66, 67, 68] []) (.seq (.fin (.reg g28_14) [8, 9, 69, 70, 71, 72, 73, 74, 75, 76, 77, 78, 79] [(101, 2)]) (.fin (.cond (.s 80) (.seq (.fin (.reg g28_15) [1, 7, 62, 63, 64, 80] [(82, 15)]) (.ret)) (.skip)) [80] [])))) (.fin (.reg g28_16) [81] [])))
def i28_5 : CW := .loop i28_4
def i28_6 : CW := .blk 2 i28_5
def g28_11 : LS := [o1 61 (.fld 11 (.s 1)),
  o1 62 (.load 82 11 1 false false 61),
  o1 63 (.len false (.s 62)),
  o1 64 (.mv false (.k (.sc (.int .i64 0))))]
def i28_7 : CW := .seq (.fin (.reg g28_11) [61] []) i28_6
def g28_17 : LS := [o1 2 (.mv false (.k (.sc (.bool true))))]
def i28_8 : CW := .seq (.reg g28_17) (.ret)
def i28_9 : CW := .seq i28_7 i28_8
def g28_10 : LS := [o1 58 (.load 82 0 15 true false 1),
  o1 59 (.call 55 [(false, .s 58)] [] [(4, 15, 104)]),
  o1 60 (.call 1007 [(false, .s 59)] [(104, 15, 5)] []),
  o1 7 (.mv false (.s 60))]
def i28_10 : CW := .seq (.fin (.reg g28_10) [58, 59, 60] [(104, 15)]) i28_9
def i28_11 : CW := .seq i28_3 i28_10
def g28_0 : LS := [o1 1 (.box 82 15 false (.s 0)),
  o1 2 (.mv false (.k (.sc (.bool false))))]
def g28_1 : LS := [o1 10 (.fld 0 (.s 1)),
  o1 11 (.load 82 0 1 false false 10),
  o1 3 (.mv false (.s 11))]
def i28_12 : CW := .seq (.fin (.reg g28_0) [0, 2] []) (.seq (.fin (.reg g28_1) [10, 11] []) i28_11)
def fn28 : IFn2 RW := ⟨28, 1, 82, 128, [(82, 15), (98, 2), (101, 2), (104, 15)], [], [], [.slot 2], i28_12⟩
def g10_4 : LS := [o1 79 (.load 102 0 15 true false 1),
  o1 80 (.call 28 [(false, .s 79)] [] []),
  o1 81 (.un .not (.s 80)),
  o2 82 (.mv false (.s 81)),
  o3 83 82 false (.fld 10 (.s 1)),
  o3 84 82 false (.load 102 10 1 false false 83),
  o3 85 82 false (.fld 9 (.s 1)),
  o3 86 82 false (.load 102 9 1 false false 85),
  o3 87 82 false (.fld 0 (.s 1)),
  o3 88 82 false (.load 102 0 1 false false 87),
  o3 89 82 false (.bin .eql (.s 86) (.s 88)),
  o3 90 82 false (.eqb true (.s 84) (.s 89)),
  o1 91 (.pick (.s 82) (.k (.sc (.bool true))) (.s 90)),
  o2 92 (.mv false (.s 91)),
  o3 93 92 false (.fld 10 (.s 1)),
  o3 94 92 false (.load 102 10 1 false false 93),
  ⟨some 95, .mv false (.s 94), (some (92, false)), true⟩,
  o3 96 95 true (.fld 2 (.s 1)),
  o3 97 95 true (.load 102 2 1 false false 96),
  o3 98 95 true (.len false (.s 97)),
  o3 99 95 true (.bin .gtr (.s 98) (.k (.sc (.int .i64 0)))),
  o3 100 92 false (.pick (.s 95) (.s 99) (.k (.sc (.bool false)))),
  o1 101 (.pick (.s 92) (.k (.sc (.bool true))) (.s 100))]
def g10_5 : LS := [o1 2 (.mv false (.k (.sc (.int .i64 230))))]
def g10_6 : LS := [o1 2 (.mv false (.k (.sc (.int .i64 0))))]
def i10_0 : CW := .seq (.seq (.fin (.reg g10_4) [1, 79, 80, 81, 82, 83, 84, 85, 86, 87, 88, 89, 90, 91, 92, 93, 94, 95, 96, 97, 98, 99, 100] [(102, 15)]) (.fin (.cond (.s 101) (.seq (.fin (.reg g10_5) [101] []) (.ret)) (.skip)) [101] [])) (.seq (.reg g10_6) (.ret))
def g10_1 : LS := [o1 4 (.fld 0 (.s 1)),
  o1 5 (.load 102 0 1 false false 4),
  o1 6 (.bin .geq (.s 5) (.k (.sc (.int .i64 0)))),
  o2 7 (.mv false (.s 6)),
  o3 8 7 true (.fld 0 (.s 1)),
  o3 9 7 true (.load 102 0 1 false false 8),
  o3 10 7 true (.bin .leq (.s 9) (.k (.sc (.int .i64 562949953421312)))),
  o1 11 (.pick (.s 7) (.s 10) (.k (.sc (.bool false)))),
  o2 12 (.mv false (.s 11)),
  o3 13 12 true (.fld 3 (.s 1)),
  o3 14 12 true (.load 102 3 1 false false 13),
  o3 15 12 true (.bin .geq (.s 14) (.k (.sc (.int .i64 1)))),
  o1 16 (.pick (.s 12) (.s 15) (.k (.sc (.bool false)))),
  o2 17 (.mv false (.s 16)),
  o3 18 17 true (.fld 3 (.s 1)),
  o3 19 17 true (.load 102 3 1 false false 18),
  o3 20 17 true (.bin .leq (.s 19) (.k (.sc (.int .i64 1073741824)))),
  o1 21 (.pick (.s 17) (.s 20) (.k (.sc (.bool false)))),
  o2 22 (.mv false (.s 21)),
  o3 23 22 true (.fld 4 (.s 1)),
  o3 24 22 true (.load 102 4 1 false false 23),
  o3 25 22 true (.bin .geq (.s 24) (.k (.sc (.int .i64 0)))),
  o1 26 (.pick (.s 22) (.s 25) (.k (.sc (.bool false)))),
  o2 27 (.mv false (.s 26)),
  o3 28 27 true (.fld 4 (.s 1)),
  o3 29 27 true (.load 102 4 1 false false 28),
  o3 30 27 true (.bin .leq (.s 29) (.k (.sc (.int .i64 14)))),
  o1 31 (.pick (.s 27) (.s 30) (.k (.sc (.bool false)))),
  o2 32 (.mv false (.s 31)),
  o3 33 32 true (.fld 1 (.s 1)),
  o3 34 32 true (.load 102 1 1 false false 33),
  o3 35 32 true (.len false (.s 34)),
  o3 36 32 true (.fld 3 (.s 1)),
  o3 37 32 true (.load 102 3 1 false false 36),
  o3 38 32 true (.fld 0 (.s 1)),
  o3 39 32 true (.load 102 0 1 false false 38),
  o3 40 32 true (.mnmx false [.s 37, .s 39]),
  o3 41 32 true (.bin .leq (.s 35) (.s 40)),
  o1 42 (.pick (.s 32) (.s 41) (.k (.sc (.bool false)))),
  o1 3 (.mv false (.s 42))]
def g10_2 : LS := [o1 43 (.mv false (.s 3)),
  o1 44 (.un .not (.s 43)),
  o2 45 (.mv false (.s 44)),
  o3 46 45 false (.fld 5 (.s 1)),
  o3 47 45 false (.load 102 5 1 false false 46),
  o3 48 45 false (.bin .lss (.s 47) (.k (.sc (.int .i64 0)))),
  o1 49 (.pick (.s 45) (.k (.sc (.bool true))) (.s 48)),
  o2 50 (.mv false (.s 49)),
  o3 51 50 false (.fld 5 (.s 1)),
  o3 52 50 false (.load 102 5 1 false false 51),
  o3 53 50 false (.load 102 0 15 true false 1),
  o3 54 50 false (.call 27 [(false, .s 53)] [] []),
  o3 55 50 false (.bin .gtr (.s 52) (.s 54)),
  o1 56 (.pick (.s 50) (.k (.sc (.bool true))) (.s 55)),
  o2 57 (.mv false (.s 56)),
  o3 58 57 false (.fld 9 (.s 1)),
  o3 59 57 false (.load 102 9 1 false false 58),
  o3 60 57 false (.bin .lss (.s 59) (.k (.sc (.int .i64 (-1))))),
  o1 61 (.pick (.s 57) (.k (.sc (.bool true))) (.s 60)),
  o2 62 (.mv false (.s 61)),
  o3 63 62 false (.fld 9 (.s 1)),
  o3 64 62 false (.load 102 9 1 false false 63),
  o3 65 62 false (.bin .geq (.s 64) (.k (.sc (.int .i64 0)))),
  ⟨some 66, .mv false (.s 65), (some (62, false)), true⟩,
  o3 67 66 true (.fld 9 (.s 1)),
  o3 68 66 true (.load 102 9 1 false false 67),
  o3 69 66 true (.fld 0 (.s 1)),
  o3 70 66 true (.load 102 0 1 false false 69),
  o3 71 66 true (.bin .lss (.s 68) (.s 70)),
  o3 72 62 false (.pick (.s 66) (.s 71) (.k (.sc (.bool false)))),
  o1 73 (.pick (.s 62) (.k (.sc (.bool true))) (.s 72)),
  o2 74 (.mv false (.s 73)),
  o3 75 74 false (.fld 9 (.s 1)),
  o3 76 74 false (.load 102 9 1 false false 75),
  o3 77 74 false (.bin .gtr (.s 76) (.k (.sc (.int .i64 562949953421312)))),
  o1 78 (.pick (.s 74) (.k (.sc (.bool true))) (.s 77))]
def g10_3 : LS := [o1 2 (.mv false (.k (.sc (.int .i64 230))))]
def i10_1 : CW := .seq (.fin (.reg g10_1) [4, 5, 6, 7, 8, 9, 10, 11, 12, 13, 14, 15, 16, 17, 18, 19, 20, 21, 22, 23, 24, 25, 26, 27, 28, 29, 30, 31, 32, 33, 34, 35, 36, 37, 38, 39, 40, 41, 42] []) (.seq (.seq (.fin (.reg g10_2) [3, 43, 44, 45, 46, 47, 48, 49, 50, 51, 52, 53, 54, 55, 56, 57, 58, 59, 60, 61, 62, 63, 64, 65, 66, 67, 68, 69, 70, 71, 72, 73, 74, 75, 76, 77] []) (.fin (.cond (.s 78) (.seq (.fin (.reg g10_3) [1, 78] [(102, 15)]) (.ret)) (.skip)) [78] [])) i10_0)
def g10_0 : LS := [o1 1 (.box 102 15 false (.s 0)),
  o1 2 (.mv false (.k (.sc (.int .i64 0))))]
def i10_2 : CW := .seq (.fin (.reg g10_0) [0, 2] []) i10_1
def fn10 : IFn2 RW := ⟨10, 1, 102, 128, [(102, 15)], [], [], [.slot 2], i10_2⟩
/-! slices.Clone[[]tideway/api.Span,tideway/api.Span] -/
def g57_0 : List IStep := [⟨(some 2), .mv true (.k (.row true 2 0 (fun _ => [.sc (.int .i64 0), .sc (.int .i64 0)]))), none, false⟩]
def g57_1 : List IStep := [⟨(some 3), .mv false (.s 0), none, false⟩,
  ⟨(some 4), .nilq false (.s 3), none, false⟩]
def g57_2 : List IStep := [⟨(some 2), .mv true (.k (.row true 2 0 (fun _ => [.sc (.int .i64 0), .sc (.int .i64 0)]))), none, false⟩]
def g57_3 : List IStep := [⟨(some 5), .bslice 2 0 [.sc (.int .i64 0), .sc (.int .i64 0)] [], none, false⟩,
  ⟨(some 6), .mv false (.s 0), none, false⟩,
  ⟨(some 7), .app 2 16 true (.s 5) (.s 6), none, false⟩,
  ⟨(some 2), .mv true (.s 7), none, false⟩]
def fn57 : IFn := ⟨57, 1, 8, 8, [], [], [], [.slot 2],
  .seq (.fin (.reg g57_0) [2] []) (.seq (.seq (.fin (.reg g57_1) [3] []) (.fin (.cond (.s 4) (.seq (.fin (.reg g57_2) [0, 4] []) (.ret)) (.skip)) [4] [])) (.seq (.fin (.reg g57_3) [0, 5, 6, 7] []) (.ret)))⟩

/-! bytes.Clone -/
def g52_0 : List IStep := [⟨(some 2), .mv true (.k (.row true 1 0 (fun _ => [.sc (.int .u8 0)]))), none, false⟩]
def g52_1 : List IStep := [⟨(some 3), .mv false (.s 0), none, false⟩,
  ⟨(some 4), .nilq false (.s 3), none, false⟩]
def g52_2 : List IStep := [⟨(some 2), .mv true (.k (.row true 1 0 (fun _ => [.sc (.int .u8 0)]))), none, false⟩]
def g52_3 : List IStep := [⟨(some 5), .bslice 1 0 [.sc (.int .u8 0)] [], none, false⟩,
  ⟨(some 6), .mv false (.s 0), none, false⟩,
  ⟨(some 7), .app 1 1 true (.s 5) (.s 6), none, false⟩,
  ⟨(some 2), .mv true (.s 7), none, false⟩]
def fn52 : IFn := ⟨52, 1, 8, 8, [], [], [], [.slot 2],
  .seq (.fin (.reg g52_0) [2] []) (.seq (.seq (.fin (.reg g52_1) [3] []) (.fin (.cond (.s 4) (.seq (.fin (.reg g52_2) [0, 4] []) (.ret)) (.skip)) [4] [])) (.seq (.fin (.reg g52_3) [0, 5, 6, 7] []) (.ret)))⟩

def g29_6 : LS := [o1 21 (.bin .lss (.s 20) (.s 19))]
def g29_7 : LS := [o1 22 (.idx 2 (.s 18) (.s 20)),
  o1 23 (.loade 2 true 22),
  o1 5 (.alloc 69 [.sc (.int .i64 0), .row false (.ruint8 [])]),
  o0 (.store 69 0 2 false 5 (.s 23))]
def g29_8 : LS := [o1 24 (.fld 2 (.s 1)),
  o1 25 (.load 37 2 1 false true 24),
  o1 26 (.fld 0 (.s 5)),
  o1 27 (.load 69 0 1 false false 26),
  o1 28 (.fld 1 (.s 5)),
  o1 29 (.load 69 1 1 false false 28),
  o1 30 (.call 52 [(false, .s 29)] [] []),
  o1 31 (.build [.sc (.int .i64 0), .row false (.ruint8 [])] [(0, 1, .s 27), (1, 1, .s 30)]),
  o1 32 (.bslice 74 1 [(0, 2, .s 31)]),
  o1 33 (.app 2 32 true (.s 25) (.s 32)),
  o1 34 (.fld 2 (.s 1)),
  o0 (.store 37 2 1 true 34 (.s 33))]
def g29_9 : LS := [o1 35 (.bin .add (.s 20) (.k (.sc (.int .i64 1)))),
  o1 20 (.mv false (.s 35))]
def i29_0 : CW := .seq (.reg g29_6) (.seq (.fin (.cond (.s 21) (.skip) (.clr [18, 19, 20, 21] [] (.exit 0))) [21] []) (.seq (.blk 1 (.seq (.fin (.reg g29_7) [22, 23] []) (.fin (.reg g29_8) [5, 24, 25, 26, 27, 28, 29, 30, 31, 32, 33, 34] [(69, 2)]))) (.fin (.reg g29_9) [35] [])))
def i29_1 : CW := .loop i29_0
def i29_2 : CW := .blk 0 i29_1
def g29_5 : LS := [o1 18 (.mv false (.s 3)),
  o1 19 (.len false (.s 18)),
  o1 20 (.mv false (.k (.sc (.int .i64 0))))]
def i29_3 : CW := .seq (.fin (.reg g29_5) [3] []) i29_2
def g29_10 : LS := [o1 36 (.load 37 0 15 true true 1),
  o0 (.store 53 0 15 true 2 (.s 36))]
def i29_4 : CW := .seq (.fin (.reg g29_10) [1, 36] [(37, 15)]) (.ret)
def i29_5 : CW := .seq i29_3 i29_4
def g29_0 : LS := [o1 1 (.box 37 15 true (.s 0)),
  o1 2 (.alloc 53 [.sc (.int .i64 0), .row true (.ruint8 []), .row true (.rPiece []), .sc (.int .i64 0), .sc (.int .i64 0), .sc (.int .i64 0), .sc (.int .u32 0), .sc (.bool false), .sc (.bool false), .sc (.int .i64 0), .sc (.bool false), .row true (.rSpan []), .sc (.int .u32 0), .sc (.int .u32 0), .sc (.bool false)])]
def g29_1 : LS := [o1 6 (.bslice 5 0 []),
  o1 7 (.fld 1 (.s 1)),
  o1 8 (.load 37 1 1 false false 7),
  o1 9 (.app 1 1 true (.s 6) (.s 8)),
  o1 10 (.fld 1 (.s 1)),
  o0 (.store 37 1 1 true 10 (.s 9))]
def g29_2 : LS := [o1 11 (.fld 11 (.s 1)),
  o1 12 (.load 37 11 1 false false 11),
  o1 13 (.call 57 [(false, .s 12)] [] []),
  o1 14 (.fld 11 (.s 1)),
  o0 (.store 37 11 1 true 14 (.s 13))]
def g29_3 : LS := [o1 15 (.fld 2 (.s 1)),
  o1 16 (.load 37 2 1 false false 15),
  o1 3 (.mv false (.s 16))]
def g29_4 : LS := [o1 17 (.fld 2 (.s 1)),
  o0 (.store 37 2 1 true 17 (.k (.row true (.rPiece []))))]
def i29_6 : CW := .seq (.fin (.reg g29_0) [0] []) (.seq (.fin (.reg g29_1) [6, 7, 8, 9, 10] []) (.seq (.fin (.reg g29_2) [11, 12, 13, 14] []) (.seq (.fin (.reg g29_3) [15, 16] []) (.seq (.fin (.reg g29_4) [17] []) i29_5))))
def fn29 : IFn2 RW := ⟨29, 1, 37, 80, [(37, 15), (53, 15), (69, 2)], [], [], [.cell 2 53 15 true], i29_6⟩
def g31_0 : LS := [o1 4 (.mv false (.k (.sc (.int .i64 0))))]
def g31_1 : LS := [o1 5 (.mv false (.s 1)),
  o1 6 (.mv false (.s 0)),
  o1 7 (.bin .sub (.s 5) (.s 6)),
  o1 8 (.conv .i32 (.s 7)),
  o1 9 (.conv .i64 (.s 8)),
  o1 4 (.mv false (.s 9))]
def i31_0 : CW := .seq (.fin (.reg g31_0) [4] []) (.seq (.fin (.reg g31_1) [0, 1, 5, 6, 7, 8, 9] []) (.ret))
def fn31 : IFn2 RW := ⟨31, 2, 10, 16, [], [], [], [.slot 4], i31_0⟩
def g58_0 : LS := [o1 4 (.mv false (.k (.sc (.int .i64 0))))]
def g58_1 : LS := [o1 6 (.mv false (.s 0)),
  o1 7 (.mv false (.s 1)),
  o1 8 (.bin .add (.s 6) (.s 7)),
  o1 5 (.mv false (.s 8))]
def g58_2 : LS := [o1 10 (.mv false (.s 0)),
  o1 11 (.bin .gtr (.s 10) (.k (.sc (.int .i64 0)))),
  o2 12 (.mv false (.s 11)),
  o3 13 12 true (.mv false (.s 1)),
  o3 14 12 true (.bin .gtr (.s 13) (.k (.sc (.int .i64 0)))),
  o1 15 (.pick (.s 12) (.s 14) (.k (.sc (.bool false)))),
  o2 16 (.mv false (.s 15)),
  o3 17 16 true (.mv false (.s 5)),
  o3 18 16 true (.bin .lss (.s 17) (.k (.sc (.int .i64 0)))),
  o1 19 (.pick (.s 16) (.s 18) (.k (.sc (.bool false)))),
  o1 9 (.mv false (.s 19))]
def g58_3 : LS := [o1 4 (.mv false (.k (.sc (.int .i64 9223372036854775807))))]
def g58_4 : LS := [o1 21 (.mv false (.s 0)),
  o1 22 (.bin .lss (.s 21) (.k (.sc (.int .i64 0)))),
  o2 23 (.mv false (.s 22)),
  o3 24 23 true (.mv false (.s 1)),
  o3 25 23 true (.bin .lss (.s 24) (.k (.sc (.int .i64 0)))),
  o1 26 (.pick (.s 23) (.s 25) (.k (.sc (.bool false)))),
  o2 27 (.mv false (.s 26)),
  o3 28 27 true (.mv false (.s 5)),
  o3 29 27 true (.bin .geq (.s 28) (.k (.sc (.int .i64 0)))),
  o1 30 (.pick (.s 27) (.s 29) (.k (.sc (.bool false)))),
  o1 20 (.mv false (.s 30))]
def g58_5 : LS := [o1 4 (.mv false (.k (.sc (.int .i64 (-9223372036854775808)))))]
def g58_6 : LS := [o1 31 (.mv false (.s 5)),
  o1 4 (.mv false (.s 31))]
def i58_0 : CW := .seq (.fin (.reg g58_0) [4] []) (.seq (.fin (.reg g58_1) [6, 7, 8] []) (.seq (.blk 0 (.seq (.fin (.reg g58_2) [10, 11, 12, 13, 14, 15, 16, 17, 18, 19] []) (.cond (.s 9) (.seq (.fin (.reg g58_3) [0, 1, 5, 9] []) (.ret)) (.seq (.fin (.reg g58_4) [0, 1, 9, 21, 22, 23, 24, 25, 26, 27, 28, 29, 30] []) (.fin (.cond (.s 20) (.seq (.fin (.reg g58_5) [5, 20] []) (.ret)) (.skip)) [20] []))))) (.seq (.fin (.reg g58_6) [5, 31] []) (.ret))))
def fn58 : IFn2 RW := ⟨58, 2, 32, 32, [], [], [], [.slot 4], i58_0⟩
def g30_0 : LS := [o1 4 (.mv false (.k (.sc (.int .i64 0))))]
def g30_1 : LS := [o1 5 (.mv false (.s 0)),
  o1 6 (.mv false (.s 0)),
  o1 7 (.conv .u32 (.s 6)),
  o1 8 (.mv false (.s 1)),
  o1 9 (.call 31 [(false, .s 7), (false, .s 8)] [] []),
  o1 10 (.call 58 [(false, .s 5), (false, .s 9)] [] []),
  o1 4 (.mv false (.s 10))]
def i30_0 : CW := .seq (.fin (.reg g30_0) [4] []) (.seq (.fin (.reg g30_1) [0, 1, 5, 6, 7, 8, 9, 10] []) (.ret))
def fn30 : IFn2 RW := ⟨30, 2, 11, 16, [], [], [], [.slot 4], i30_0⟩
def g36_0 : LS := [o1 4 (.mv false (.k (.sc (.int .u32 0))))]
def g36_1 : LS := [o1 5 (.mv false (.s 0)),
  o1 6 (.mv false (.s 1)),
  o1 7 (.conv .u32 (.s 6)),
  o1 8 (.bin .add (.s 5) (.s 7)),
  o1 4 (.mv false (.s 8))]
def i36_0 : CW := .seq (.fin (.reg g36_0) [4] []) (.seq (.fin (.reg g36_1) [0, 1, 5, 6, 7, 8] []) (.ret))
def fn36 : IFn2 RW := ⟨36, 2, 9, 16, [], [], [], [.slot 4], i36_0⟩
def g49_0 : LS := [o1 1 (.box 16 15 false (.s 0)),
  o1 2 (.mv false (.k (.sc (.int .i64 0))))]
def g49_1 : LS := [o1 3 (.fld 3 (.s 1)),
  o1 4 (.load 16 3 1 false false 3),
  o1 5 (.fld 1 (.s 1)),
  o1 6 (.load 16 1 1 false false 5),
  o1 7 (.len false (.s 6)),
  o1 8 (.bin .sub (.s 4) (.s 7)),
  o1 9 (.fld 4 (.s 1)),
  o1 10 (.load 16 4 1 false false 9),
  o1 11 (.bin .shr (.s 8) (.s 10)),
  o1 12 (.mnmx false [.s 11, .k (.sc (.int .i64 65535))]),
  o1 13 (.fld 4 (.s 1)),
  o1 14 (.load 16 4 1 false false 13),
  o1 15 (.bin .shl (.s 12) (.s 14)),
  o1 2 (.mv false (.s 15))]
def i49_0 : CW := .seq (.fin (.reg g49_0) [0, 2] []) (.seq (.fin (.reg g49_1) [1, 3, 4, 5, 6, 7, 8, 9, 10, 11, 12, 13, 14, 15] [(16, 15)]) (.ret))
def fn49 : IFn2 RW := ⟨49, 1, 16, 32, [(16, 15)], [], [], [.slot 2], i49_0⟩
def g32_10 : LS := [o1 42 (.bin .lss (.s 41) (.s 40))]
def g32_11 : LS := [o1 43 (.idx 2 (.s 39) (.s 41)),
  o1 44 (.loade 2 true 43),
  o1 10 (.alloc 146 [.sc (.int .i64 0), .sc (.int .i64 0)]),
  o0 (.store 146 0 2 false 10 (.s 44))]
def g32_12 : LS := [o1 45 (.fld 8 (.s 2)),
  o1 46 (.load 82 8 1 false false 45),
  o2 47 (.mv false (.s 46)),
  o3 48 47 true (.fld 13 (.s 7)),
  o3 49 47 true (.load 130 13 1 false false 48),
  o3 50 47 true (.len false (.s 49)),
  o3 51 47 true (.mv false (.s 8)),
  o3 52 47 true (.bin .lss (.s 50) (.s 51)),
  o1 53 (.pick (.s 47) (.s 52) (.k (.sc (.bool false))))]
def g32_13 : LS := [o1 54 (.fld 13 (.s 7)),
  o1 55 (.load 130 13 1 false true 54),
  o1 56 (.fld 12 (.s 2)),
  o1 57 (.load 82 12 1 false false 56),
  o1 58 (.fld 0 (.s 10)),
  o1 59 (.load 146 0 1 false false 58),
  o1 60 (.call 36 [(false, .s 57), (false, .s 59)] [] []),
  o1 61 (.fld 12 (.s 2)),
  o1 62 (.load 82 12 1 false false 61),
  o1 63 (.fld 1 (.s 10)),
  o1 64 (.load 146 1 1 false false 63),
  o1 65 (.call 36 [(false, .s 62), (false, .s 64)] [] []),
  o1 66 (.build [.sc (.int .u32 0), .sc (.int .u32 0)] [(0, 1, .s 60), (1, 1, .s 65)]),
  o1 67 (.bslice 62 1 [(0, 2, .s 66)]),
  o1 68 (.app 2 8 true (.s 55) (.s 67)),
  o1 69 (.fld 13 (.s 7)),
  o0 (.store 130 13 1 true 69 (.s 68))]
def g32_14 : LS := [o1 70 (.bin .add (.s 41) (.k (.sc (.int .i64 1)))),
  o1 41 (.mv false (.s 70))]
def i32_0 : CW := .seq (.reg g32_10) (.seq (.fin (.cond (.s 42) (.skip) (.clr [8, 39, 40, 41, 42] [] (.exit 0))) [42] []) (.seq (.blk 1 (.seq (.fin (.reg g32_11) [43, 44] []) (.seq (.fin (.reg g32_12) [45, 46, 47, 48, 49, 50, 51, 52] []) (.fin (.cond (.s 53) (.fin (.reg g32_13) [10, 53, 54, 55, 56, 57, 58, 59, 60, 61, 62, 63, 64, 65, 66, 67, 68, 69] [(146, 2)]) (.skip)) [10, 53] [(146, 2)])))) (.fin (.reg g32_14) [70] [])))
def i32_1 : CW := .loop i32_0
def i32_2 : CW := .blk 0 i32_1
def g32_9 : LS := [o1 38 (.fld 11 (.s 2)),
  o1 39 (.load 82 11 1 false false 38),
  o1 40 (.len false (.s 39)),
  o1 41 (.mv false (.k (.sc (.int .i64 0))))]
def i32_3 : CW := .seq (.fin (.reg g32_9) [38] []) i32_2
def g32_15 : LS := [o1 71 (.fld 5 (.s 2)),
  o1 72 (.load 82 5 1 false false 71),
  o1 73 (.fld 0 (.s 2)),
  o1 74 (.load 82 0 1 false false 73),
  o1 75 (.load 82 0 15 true false 2),
  o1 76 (.call 49 [(false, .s 75)] [] []),
  o1 77 (.bin .add (.s 74) (.s 76)),
  o1 78 (.mnmx true [.s 72, .s 77]),
  o1 79 (.fld 5 (.s 2)),
  o0 (.store 82 5 1 false 79 (.s 78))]
def g32_16 : LS := [o1 80 (.load 82 0 15 true true 2),
  o1 81 (.load 130 0 15 true true 7),
  o0 (.store 98 0 15 true 4 (.s 80)),
  o0 (.store 114 0 15 true 5 (.s 81))]
def i32_4 : CW := .seq (.fin (.reg g32_15) [71, 72, 73, 74, 75, 76, 77, 78, 79] []) (.seq (.fin (.reg g32_16) [2, 7, 80, 81] [(82, 15), (130, 15)]) (.ret))
def i32_5 : CW := .seq i32_3 i32_4
def g32_0 : LS := [o1 2 (.box 82 15 true (.s 0)),
  o1 4 (.alloc 98 [.sc (.int .i64 0), .row true (.ruint8 []), .row true (.rPiece []), .sc (.int .i64 0), .sc (.int .i64 0), .sc (.int .i64 0), .sc (.int .u32 0), .sc (.bool false), .sc (.bool false), .sc (.int .i64 0), .sc (.bool false), .row true (.rSpan []), .sc (.int .u32 0), .sc (.int .u32 0), .sc (.bool false)]),
  o1 5 (.alloc 114 [.sc (.int .i64 0), .sc (.int .i64 0), .sc (.int .u32 0), .sc (.int .u32 0), .sc (.int .i64 0), .sc (.int .i64 0), .sc (.int .i64 0), .sc (.int .i64 0), .sc (.int .i64 0), .sc (.bool false), .sc (.bool false), .sc (.int .u32 0), .sc (.int .u32 0), .row true (.rBlock []), .row true (.ruint8 [])])]
def g32_1 : LS := [o1 11 (.fld 0 (.s 2)),
  o1 12 (.load 82 0 1 false false 11),
  o1 6 (.mv false (.s 12))]
def g32_2 : LS := [o1 13 (.fld 10 (.s 2)),
  o1 14 (.load 82 10 1 false false 13)]
def g32_3 : LS := [o1 15 (.mv false (.s 6)),
  o1 16 (.bin .add (.s 15) (.k (.sc (.int .i64 1)))),
  o1 6 (.mv false (.s 16))]
def g32_4 : LS := [o1 17 (.fld 13 (.s 2)),
  o1 18 (.load 82 13 1 false false 17),
  o1 19 (.fld 12 (.s 2)),
  o1 20 (.load 82 12 1 false false 19),
  o1 21 (.mv false (.s 6)),
  o1 22 (.call 36 [(false, .s 20), (false, .s 21)] [] []),
  o1 23 (.load 82 0 15 true false 2),
  o1 24 (.call 49 [(false, .s 23)] [] []),
  o1 25 (.fld 4 (.s 2)),
  o1 26 (.load 82 4 1 false false 25),
  o1 27 (.bin .shr (.s 24) (.s 26)),
  o1 28 (.mv true (.s 1)),
  o1 29 (.buildl [.sc (.int .i64 0), .sc (.int .i64 0), .sc (.int .u32 0), .sc (.int .u32 0), .sc (.int .i64 0), .sc (.int .i64 0), .sc (.int .i64 0), .sc (.int .i64 0), .sc (.int .i64 0), .sc (.bool false), .sc (.bool false), .sc (.int .u32 0), .sc (.int .u32 0), .row false (.rBlock []), .row false (.ruint8 [])] [(2, 1, .s 18), (3, 1, .s 22), (4, 1, .k (.sc (.int .i64 16))), (5, 1, .s 27), (7, 1, .k (.sc (.int .i64 (-1)))), (8, 1, .k (.sc (.int .i64 (-1)))), (13, 1, .s 28)] 13 28),
  o1 7 (.alloc 130 [.sc (.int .i64 0), .sc (.int .i64 0), .sc (.int .u32 0), .sc (.int .u32 0), .sc (.int .i64 0), .sc (.int .i64 0), .sc (.int .i64 0), .sc (.int .i64 0), .sc (.int .i64 0), .sc (.bool false), .sc (.bool false), .sc (.int .u32 0), .sc (.int .u32 0), .row true (.rBlock []), .row true (.ruint8 [])]),
  o0 (.store 130 0 15 true 7 (.s 29))]
def g32_5 : LS := [o1 8 (.mv false (.k (.sc (.int .i64 4))))]
def g32_6 : LS := [o1 30 (.fld 7 (.s 2)),
  o1 31 (.load 82 7 1 false false 30)]
def g32_7 : LS := [o1 32 (.fld 6 (.s 2)),
  o1 33 (.load 82 6 1 false false 32),
  o1 34 (.fld 10 (.s 7)),
  o0 (.store 130 10 1 false 34 (.k (.sc (.bool true)))),
  o1 35 (.fld 12 (.s 7)),
  o0 (.store 130 12 1 false 35 (.s 33))]
def g32_8 : LS := [o1 36 (.mv false (.s 8)),
  o1 37 (.bin .sub (.s 36) (.k (.sc (.int .i64 1)))),
  o1 8 (.mv false (.s 37))]
def i32_6 : CW := .seq (.fin (.reg g32_0) [0] []) (.seq (.fin (.reg g32_1) [11, 12] []) (.seq (.seq (.fin (.reg g32_2) [13] []) (.fin (.cond (.s 14) (.fin (.reg g32_3) [14, 15, 16] []) (.skip)) [14] [])) (.seq (.fin (.reg g32_4) [1, 6, 17, 18, 19, 20, 21, 22, 23, 24, 25, 26, 27, 28, 29] []) (.seq (.reg g32_5) (.seq (.seq (.fin (.reg g32_6) [30] []) (.fin (.cond (.s 31) (.seq (.fin (.reg g32_7) [31, 32, 33, 34, 35] []) (.fin (.reg g32_8) [36, 37] [])) (.skip)) [31] [])) i32_5)))))
def fn32 : IFn2 RW := ⟨32, 2, 82, 160, [(82, 15), (98, 15), (114, 15), (130, 15), (146, 2)], [], [], [.cell 4 98 15 true, .cell 5 114 15 true], i32_6⟩
def g33_3 : LS := [o1 6 (.alloc 50 [.sc (.int .i64 0), .sc (.int .i64 0)]),
  o0 (.store 50 0 2 false 6 (.s 11))]
def i33_0 : CW := .fin (.reg g33_3) [11] []
def g33_4 : LS := [o1 12 (.fld 1 (.s 6)),
  o1 13 (.load 50 1 1 false false 12),
  o0 (.store 48 0 1 false 5 (.s 13))]
def i33_1 : CW := .blk 1 (.fin (.reg g33_4) [6, 12, 13] [(50, 2)])
def i33_2 : CW := .seq i33_0 i33_1
def g33_1000 : LS := [o1 5 (.fld 2 (.s 1)),
  o1 6 (.load 53 2 1 false false 5),
  o1 7 (.len false (.s 6)),
  o1 8 (.mv false (.k (.sc (.int .i64 0))))]
def g33_1001 : LS := [o1 9 (.bin .lss (.s 8) (.s 7))]
def g33_1002 : LS := [o1 10 (.idx 2 (.s 6) (.s 8)),
  o1 11 (.loade 2 true 10),
  o1 4 (.alloc 69 [.sc (.int .i64 0), .row false (.ruint8 [])]),
  o0 (.store 69 0 2 false 4 (.s 11))]
def g33_10031 : LS := [o1 12 (.mv false (.s 0)),
  o1 13 (.load 69 0 2 true false 4),
  o1 14 (.call 71 [(false, .s 13)] [] [])]
def g33_10032 : LS := [o1 16 (.un .not (.s 15))]
def g33_1004 : LS := [o1 17 (.bin .add (.s 8) (.k (.sc (.int .i64 1)))),
  o1 8 (.mv false (.s 17))]
def i33_3 : CW := .seq (.fin (.reg g33_1000) [1, 5] []) (.blk 0 (.loop (.seq (.reg g33_1001) (.seq (.fin (.cond (.s 9) (.skip) (.clr [0, 6, 7, 8, 9] [] (.exit 0))) [9] []) (.seq (.blk 1 (.seq (.fin (.reg g33_1002) [10, 11] []) (.seq (.fin (.yreg g33_10031 (.s 12) [.s 14] none 15 g33_10032) [4, 12, 13, 14, 15] [(69, 2)]) (.fin (.cond (.s 16) (.clr [0, 6, 7, 8, 16] [] (.ret)) (.skip)) [16] [])))) (.fin (.reg g33_1004) [17] []))))))
def i33_4 : CW := .fin (.yreg g33_10031 (.s 12) [.s 14] none 15 g33_10032) [4, 12, 13, 14, 15] [(69, 2)]
def i33_5 : CW := .fin (.cond (.s 16) (.clr [0, 6, 7, 8, 16] [] (.ret)) (.skip)) [16] []
def i33_6 : CW := .seq i33_4 i33_5
def i33_7 : CW := .seq (.fin (.reg g33_1002) [10, 11] []) i33_6
def i33_8 : CW := .blk 1 i33_7
def i33_9 : CW := .fin (.reg g33_1004) [17] []
def i33_10 : CW := .seq i33_8 i33_9
def i33_11 : CW := .seq (.reg g33_1001) (.seq (.fin (.cond (.s 9) (.skip) (.clr [0, 6, 7, 8, 9] [] (.exit 0))) [9] []) i33_10)
def i33_12 : CW := .loop i33_11
def i33_13 : CW := .blk 0 i33_12
def i33_14 : CW := .fin (.rfn (.s 10) 70 2 18 [11] i33_3 i33_0 i33_1 [32, 48, 53] [32, 48, 53, 69]) [10] [(53, 15)]
def i33_15 : CW := .blk 0 i33_14
def g33_2 : LS := [o1 9 (.load 32 0 15 true false 2),
  o1 10 (.call 55 [(false, .s 9)] [] [(4, 15, 53)])]
def i33_16 : CW := .seq (.fin (.reg g33_2) [9] []) i33_15
def g33_5 : LS := [o1 14 (.fld 9 (.s 2)),
  o1 15 (.load 32 9 1 false false 14),
  o1 16 (.bin .lss (.s 15) (.k (.sc (.int .i64 0)))),
  o2 17 (.mv false (.s 16)),
  o3 18 17 true (.mv false (.s 1)),
  o3 19 17 true (.load 48 0 1 false false 5),
  o3 20 17 true (.bin .geq (.s 18) (.s 19)),
  o1 21 (.pick (.s 17) (.s 20) (.k (.sc (.bool false)))),
  o2 22 (.mv false (.s 21)),
  o3 23 22 true (.mv false (.s 1)),
  o3 24 22 true (.load 32 0 15 true false 2),
  o3 25 22 true (.call 53 [(false, .s 24)] [] []),
  o3 26 22 true (.bin .leq (.s 23) (.s 25)),
  o1 27 (.pick (.s 22) (.s 26) (.k (.sc (.bool false))))]
def g33_6 : LS := [o1 28 (.mv false (.s 1)),
  o1 4 (.mv false (.s 28))]
def g33_7 : LS := [o1 29 (.fld 9 (.s 2)),
  o1 30 (.load 32 9 1 false false 29),
  o1 4 (.mv false (.s 30))]
def i33_17 : CW := .seq (.seq (.fin (.reg g33_5) [5, 14, 15, 16, 17, 18, 19, 20, 21, 22, 23, 24, 25, 26] [(48, 1)]) (.fin (.cond (.s 27) (.seq (.fin (.reg g33_6) [1, 2, 27, 28] [(32, 15)]) (.ret)) (.skip)) [1, 27] [])) (.seq (.fin (.reg g33_7) [2, 29, 30] [(32, 15)]) (.ret))
def i33_18 : CW := .seq i33_16 i33_17
def g33_0 : LS := [o1 2 (.box 32 15 false (.s 0)),
  o1 4 (.mv false (.k (.sc (.int .i64 0))))]
def g33_1 : LS := [o1 7 (.fld 0 (.s 2)),
  o1 8 (.load 32 0 1 false false 7),
  o1 5 (.alloc 48 [.sc (.int .i64 0)]),
  o0 (.store 48 0 1 false 5 (.s 8))]
def i33_19 : CW := .seq (.fin (.reg g33_0) [0, 4] []) (.seq (.fin (.reg g33_1) [7, 8] []) i33_18)
def fn33 : IFn2 RW := ⟨33, 2, 31, 80, [(32, 15), (48, 1), (50, 2), (53, 15), (69, 2)], [], [], [.slot 4], i33_19⟩
def g82_0 : LS := [o1 1 (.box 18 2 false (.s 0)),
  o1 2 (.mv false (.k (.sc (.bool false))))]
def g82_1 : LS := [o1 3 (.fld 0 (.s 1)),
  o1 4 (.load 18 0 1 false false 3),
  o1 5 (.bin .geq (.s 4) (.k (.sc (.int .i64 0)))),
  o2 6 (.mv false (.s 5)),
  o3 7 6 true (.fld 0 (.s 1)),
  o3 8 6 true (.load 18 0 1 false false 7),
  o3 9 6 true (.fld 1 (.s 1)),
  o3 10 6 true (.load 18 1 1 false false 9),
  o3 11 6 true (.bin .leq (.s 8) (.s 10)),
  o1 12 (.pick (.s 6) (.s 11) (.k (.sc (.bool false)))),
  o2 13 (.mv false (.s 12)),
  o3 14 13 true (.fld 1 (.s 1)),
  o3 15 13 true (.load 18 1 1 false false 14),
  o3 16 13 true (.bin .leq (.s 15) (.k (.sc (.int .i64 1125899906842624)))),
  o1 17 (.pick (.s 13) (.s 16) (.k (.sc (.bool false)))),
  o1 2 (.mv false (.s 17))]
def i82_0 : CW := .seq (.fin (.reg g82_0) [0, 2] []) (.seq (.fin (.reg g82_1) [1, 3, 4, 5, 6, 7, 8, 9, 10, 11, 12, 13, 14, 15, 16, 17] [(18, 2)]) (.ret))
def fn82 : IFn2 RW := ⟨82, 1, 18, 32, [(18, 2)], [], [], [.slot 2], i82_0⟩
def g78_2 : LS := [o1 8 (.bin .lss (.s 7) (.s 6))]
def g78_3 : LS := [o1 9 (.mv false (.s 7)),
  o1 10 (.idx 2 (.s 5) (.s 7)),
  o1 11 (.loade 2 true 10),
  o1 4 (.alloc 38 [.sc (.int .i64 0), .sc (.int .i64 0)]),
  o1 3 (.mv false (.s 9)),
  o0 (.store 38 0 2 false 4 (.s 11))]
def g78_4 : LS := [o1 12 (.load 38 0 2 true false 4),
  o1 13 (.call 82 [(false, .s 12)] [] []),
  o1 14 (.un .not (.s 13)),
  o2 15 (.mv false (.s 14)),
  o3 16 15 false (.fld 0 (.s 4)),
  o3 17 15 false (.load 38 0 1 false false 16),
  o3 18 15 false (.fld 1 (.s 4)),
  o3 19 15 false (.load 38 1 1 false false 18),
  o3 20 15 false (.bin .eql (.s 17) (.s 19)),
  o1 21 (.pick (.s 15) (.k (.sc (.bool true))) (.s 20)),
  o2 22 (.mv false (.s 21)),
  o3 23 22 false (.mv false (.s 3)),
  o3 24 22 false (.bin .gtr (.s 23) (.k (.sc (.int .i64 0)))),
  ⟨some 25, .mv false (.s 24), (some (22, false)), true⟩,
  o3 26 25 true (.mv false (.s 0)),
  o3 27 25 true (.mv false (.s 3)),
  o3 28 25 true (.bin .sub (.s 27) (.k (.sc (.int .i64 1)))),
  o3 29 25 true (.idx 2 (.s 26) (.s 28)),
  o3 30 25 true (.fld 1 (.s 29)),
  o3 31 25 true (.loade 1 false 30),
  o3 32 25 true (.fld 0 (.s 4)),
  o3 33 25 true (.load 38 0 1 false false 32),
  o3 34 25 true (.bin .geq (.s 31) (.s 33)),
  o3 35 22 false (.pick (.s 25) (.s 34) (.k (.sc (.bool false)))),
  o1 36 (.pick (.s 22) (.k (.sc (.bool true))) (.s 35))]
def g78_5 : LS := [o1 2 (.mv false (.k (.sc (.int .i64 60))))]
def g78_6 : LS := [o1 37 (.bin .add (.s 7) (.k (.sc (.int .i64 1)))),
  o1 7 (.mv false (.s 37))]
def i78_0 : CW := .seq (.reg g78_2) (.seq (.fin (.cond (.s 8) (.skip) (.clr [0, 5, 6, 7, 8] [] (.exit 0))) [8] []) (.seq (.blk 1 (.seq (.fin (.reg g78_3) [9, 10, 11] []) (.seq (.fin (.reg g78_4) [3, 4, 12, 13, 14, 15, 16, 17, 18, 19, 20, 21, 22, 23, 24, 25, 26, 27, 28, 29, 30, 31, 32, 33, 34, 35] [(38, 2)]) (.fin (.cond (.s 36) (.seq (.fin (.reg g78_5) [0, 5, 6, 7, 36] []) (.ret)) (.skip)) [36] [])))) (.fin (.reg g78_6) [37] [])))
def i78_1 : CW := .loop i78_0
def i78_2 : CW := .blk 0 i78_1
def g78_1 : LS := [o1 5 (.mv false (.s 0)),
  o1 6 (.len false (.s 5)),
  o1 7 (.mv false (.k (.sc (.int .i64 0))))]
def i78_3 : CW := .seq (.reg g78_1) i78_2
def g78_7 : LS := [o1 2 (.mv false (.k (.sc (.int .i64 0))))]
def i78_4 : CW := .seq (.reg g78_7) (.ret)
def i78_5 : CW := .seq i78_3 i78_4
def g78_0 : LS := [o1 2 (.mv false (.k (.sc (.int .i64 0))))]
def i78_6 : CW := .seq (.fin (.reg g78_0) [2] []) i78_5
def fn78 : IFn2 RW := ⟨78, 1, 38, 48, [(38, 2)], [], [], [.slot 2], i78_6⟩
def g79_0 : LS := [o1 2 (.box 6 1 false (.s 0)),
  o1 3 (.box 8 2 false (.s 1)),
  o1 4 (.mv false (.k (.sc .nilFunc)))]
def g79_1 : LS := [o1 5 (.mkclo 83 [.s 2, .s 3]),
  o1 4 (.mv false (.s 5))]
def i79_0 : CW := .seq (.fin (.reg g79_0) [0, 1, 4] []) (.seq (.fin (.reg g79_1) [2, 3, 5] []) (.ret))
def fn79 : IFn2 RW := ⟨79, 2, 6, 16, [(6, 1), (8, 2)], [], [(6, 1), (8, 2)], [.slot 4], i79_0⟩
def g61_6 : LS := [o1 7 (.alloc 71 [.sc (.int .i64 0), .sc (.int .i64 0)]),
  o0 (.store 71 0 2 false 7 (.s 23))]
def i61_0 : CW := .fin (.reg g61_6) [23] []
def g61_7 : LS := [o1 24 (.load 69 0 1 false false 6),
  o1 25 (.fld 0 (.s 7)),
  o1 26 (.load 71 0 1 false false 25),
  o1 27 (.bin .lss (.s 24) (.s 26))]
def g61_8 : LS := [o1 28 (.load 67 0 1 false true 5),
  o1 29 (.load 69 0 1 false false 6),
  o1 30 (.fld 0 (.s 7)),
  o1 31 (.load 71 0 1 false false 30),
  o1 32 (.build [.sc (.int .i64 0), .sc (.int .i64 0)] [(0, 1, .s 29), (1, 1, .s 31)]),
  o1 33 (.bslice 78 1 [(0, 2, .s 32)]),
  o1 34 (.app 2 16 true (.s 28) (.s 33)),
  o0 (.store 67 0 1 true 5 (.s 34))]
def g61_9 : LS := [o1 35 (.fld 1 (.s 7)),
  o1 36 (.load 71 1 1 false false 35),
  o0 (.store 69 0 1 false 6 (.s 36))]
def i61_1 : CW := .blk 1 (.seq (.seq (.fin (.reg g61_7) [24, 25, 26] []) (.fin (.cond (.s 27) (.fin (.reg g61_8) [27, 28, 29, 30, 31, 32, 33, 34] []) (.skip)) [27] [])) (.fin (.reg g61_9) [7, 35, 36] [(71, 2)]))
def i61_2 : CW := .seq i61_0 i61_1
def g61_1000 : LS := [o1 7 (.load 74 0 1 false false 1),
  o1 8 (.len false (.s 7)),
  o1 9 (.mv false (.k (.sc (.int .i64 0))))]
def g61_1001 : LS := [o1 10 (.bin .lss (.s 9) (.s 8))]
def g61_1002 : LS := [o1 11 (.idx 2 (.s 7) (.s 9)),
  o1 12 (.loade 2 true 11),
  o1 5 (.alloc 79 [.sc (.int .i64 0), .sc (.int .i64 0)]),
  o0 (.store 79 0 2 false 5 (.s 12))]
def g61_1003 : LS := [o1 13 (.fld 0 (.s 5)),
  o1 14 (.load 79 0 1 false false 13),
  o1 15 (.fld 0 (.s 2)),
  o1 16 (.load 76 0 1 false false 15),
  o1 17 (.mnmx true [.s 14, .s 16]),
  o1 18 (.fld 1 (.s 5)),
  o1 19 (.load 79 1 1 false false 18),
  o1 20 (.fld 1 (.s 2)),
  o1 21 (.load 76 1 1 false false 20),
  o1 22 (.mnmx false [.s 19, .s 21]),
  o1 23 (.build [.sc (.int .i64 0), .sc (.int .i64 0)] [(0, 1, .s 17), (1, 1, .s 22)]),
  o1 6 (.alloc 82 [.sc (.int .i64 0), .sc (.int .i64 0)]),
  o0 (.store 82 0 2 false 6 (.s 23))]
def g61_10041 : LS := [o1 24 (.fld 0 (.s 6)),
  o1 25 (.load 82 0 1 false false 24),
  o1 26 (.fld 1 (.s 6)),
  o1 27 (.load 82 1 1 false false 26),
  o1 28 (.bin .lss (.s 25) (.s 27)),
  o2 29 (.mv false (.s 28)),
  o3 30 29 true (.mv false (.s 0)),
  o3 31 29 true (.load 82 0 2 true false 6)]
def g61_10042 : LS := [o3 33 29 true (.un .not (.s 32)),
  o1 34 (.pick (.s 29) (.s 33) (.k (.sc (.bool false))))]
def g61_1005 : LS := [o1 35 (.bin .add (.s 9) (.k (.sc (.int .i64 1)))),
  o1 9 (.mv false (.s 35))]
def i61_3 : CW := .seq (.fin (.reg g61_1000) [1] []) (.blk 0 (.loop (.seq (.reg g61_1001) (.seq (.fin (.cond (.s 10) (.skip) (.clr [0, 2, 7, 8, 9, 10] [] (.exit 0))) [10] []) (.seq (.blk 1 (.seq (.fin (.reg g61_1002) [11, 12] []) (.seq (.fin (.reg g61_1003) [5, 13, 14, 15, 16, 17, 18, 19, 20, 21, 22, 23] [(79, 2)]) (.seq (.fin (.yreg g61_10041 (.s 30) [.s 31] (some (29, true)) 32 g61_10042) [6, 24, 25, 26, 27, 28, 29, 30, 31, 32, 33] [(82, 2)]) (.fin (.cond (.s 34) (.clr [0, 2, 7, 8, 9, 34] [] (.ret)) (.skip)) [34] []))))) (.fin (.reg g61_1005) [35] []))))))
def i61_4 : CW := .fin (.yreg g61_10041 (.s 30) [.s 31] (some (29, true)) 32 g61_10042) [6, 24, 25, 26, 27, 28, 29, 30, 31, 32, 33] [(82, 2)]
def i61_5 : CW := .fin (.cond (.s 34) (.clr [0, 2, 7, 8, 9, 34] [] (.ret)) (.skip)) [34] []
def i61_6 : CW := .seq i61_4 i61_5
def i61_7 : CW := .seq (.fin (.reg g61_1002) [11, 12] []) (.seq (.fin (.reg g61_1003) [5, 13, 14, 15, 16, 17, 18, 19, 20, 21, 22, 23] [(79, 2)]) i61_6)
def i61_8 : CW := .blk 1 i61_7
def i61_9 : CW := .fin (.reg g61_1005) [35] []
def i61_10 : CW := .seq i61_8 i61_9
def i61_11 : CW := .seq (.reg g61_1001) (.seq (.fin (.cond (.s 10) (.skip) (.clr [0, 2, 7, 8, 9, 10] [] (.exit 0))) [10] []) i61_10)
def i61_12 : CW := .loop i61_11
def i61_13 : CW := .blk 0 i61_12
def i61_14 : CW := .fin (.rfn (.s 22) 83 4 36 [23] i61_3 i61_0 i61_1 [64, 67, 69, 74, 76] [64, 67, 69, 74, 76, 79, 82]) [22] [(74, 1), (76, 2)]
def i61_15 : CW := .blk 0 i61_14
def g61_5 : LS := [o1 20 (.mv false (.s 0)),
  o1 21 (.load 64 0 2 true false 3),
  o1 22 (.call 79 [(false, .s 20), (false, .s 21)] [] [(6, 1, 74), (8, 2, 76)])]
def i61_16 : CW := .seq (.fin (.reg g61_5) [0, 20, 21] []) i61_15
def g61_10 : LS := [o1 37 (.load 69 0 1 false false 6),
  o1 38 (.fld 1 (.s 3)),
  o1 39 (.load 64 1 1 false false 38),
  o1 40 (.bin .lss (.s 37) (.s 39))]
def g61_11 : LS := [o1 41 (.load 67 0 1 false true 5),
  o1 42 (.load 69 0 1 false false 6),
  o1 43 (.fld 1 (.s 3)),
  o1 44 (.load 64 1 1 false false 43),
  o1 45 (.build [.sc (.int .i64 0), .sc (.int .i64 0)] [(0, 1, .s 42), (1, 1, .s 44)]),
  o1 46 (.bslice 78 1 [(0, 2, .s 45)]),
  o1 47 (.app 2 16 true (.s 41) (.s 46)),
  o0 (.store 67 0 1 true 5 (.s 47))]
def g61_12 : LS := [o1 48 (.load 67 0 1 false false 5),
  o1 4 (.mv false (.s 48))]
def i61_17 : CW := .seq (.seq (.fin (.reg g61_10) [37, 38, 39] []) (.fin (.cond (.s 40) (.fin (.reg g61_11) [3, 6, 40, 41, 42, 43, 44, 45, 46, 47] [(64, 2), (69, 1)]) (.skip)) [3, 6, 40] [(64, 2), (69, 1)])) (.seq (.fin (.reg g61_12) [5, 48] [(67, 1)]) (.ret))
def i61_18 : CW := .seq i61_16 i61_17
def g61_0 : LS := [o1 3 (.box 64 2 false (.s 1)),
  o1 4 (.mv false (.k (.row false (.rSpan []))))]
def g61_1 : LS := [o1 8 (.mv false (.s 0)),
  o1 9 (.call 78 [(false, .s 8)] [] []),
  o1 10 (.bin .neq (.s 9) (.k (.sc (.int .i64 0)))),
  o2 11 (.mv false (.s 10)),
  o3 12 11 false (.fld 0 (.s 3)),
  o3 13 11 false (.load 64 0 1 false false 12),
  o3 14 11 false (.fld 1 (.s 3)),
  o3 15 11 false (.load 64 1 1 false false 14),
  o3 16 11 false (.bin .geq (.s 13) (.s 15)),
  o1 17 (.pick (.s 11) (.k (.sc (.bool true))) (.s 16))]
def g61_2 : LS := [o1 4 (.mv false (.k (.row false (.rSpan []))))]
def g61_3 : LS := [o1 5 (.alloc 67 [.row true (.rSpan [])])]
def g61_4 : LS := [o1 18 (.fld 0 (.s 3)),
  o1 19 (.load 64 0 1 false false 18),
  o1 6 (.alloc 69 [.sc (.int .i64 0)]),
  o0 (.store 69 0 1 false 6 (.s 19))]
def i61_19 : CW := .seq (.fin (.reg g61_0) [1, 4] []) (.seq (.seq (.fin (.reg g61_1) [8, 9, 10, 11, 12, 13, 14, 15, 16] []) (.fin (.cond (.s 17) (.seq (.fin (.reg g61_2) [0, 3, 17] [(64, 2)]) (.ret)) (.skip)) [17] [])) (.seq (.reg g61_3) (.seq (.fin (.reg g61_4) [18, 19] []) i61_18)))
def fn61 : IFn2 RW := ⟨61, 2, 49, 96, [(64, 2), (67, 1), (69, 1), (71, 2), (74, 1), (76, 2), (79, 2), (82, 2)], [], [], [.slot 4], i61_19⟩
def g74_0 : LS := [o1 2 (.box 9 2 false (.s 0)),
  o1 4 (.mv false (.k (.sc (.int .i64 0))))]
def g74_1 : LS := [o1 5 (.fld 0 (.s 2)),
  o1 6 (.load 9 0 1 false false 5),
  o1 7 (.mv false (.s 1)),
  o1 8 (.bin .sub (.s 6) (.s 7)),
  o1 4 (.mv false (.s 8))]
def i74_0 : CW := .seq (.fin (.reg g74_0) [0, 4] []) (.seq (.fin (.reg g74_1) [1, 2, 5, 6, 7, 8] [(9, 2)]) (.ret))
def fn74 : IFn2 RW := ⟨74, 2, 9, 16, [(9, 2)], [], [], [.slot 4], i74_0⟩
def g1029_3 : LS := [o1 15 (.mv false (.s 9)),
  o1 16 (.mv false (.s 10)),
  o1 17 (.bin .lss (.s 15) (.s 16))]
def g1029_4 : LS := [o1 18 (.mv false (.s 9)),
  o1 19 (.mv false (.s 10)),
  o1 20 (.bin .add (.s 18) (.s 19)),
  o1 21 (.conv .u64 (.s 20)),
  o1 22 (.bin .shr (.s 21) (.k (.sc (.int .u64 1)))),
  o1 23 (.conv .i64 (.s 22)),
  o1 11 (.mv false (.s 23))]
def g1029_5 : LS := [o1 24 (.mv false (.s 2)),
  o1 25 (.mv false (.s 0)),
  o1 26 (.mv false (.s 11)),
  o1 27 (.idx 2 (.s 25) (.s 26)),
  o1 28 (.loade 2 true 27),
  o1 29 (.mv false (.s 1)),
  o1 30 (.callv (.s 24) 74 74 [(false, .s 28), (false, .s 29)] [] []),
  o1 31 (.bin .lss (.s 30) (.k (.sc (.int .i64 0))))]
def g1029_6 : LS := [o1 32 (.mv false (.s 11)),
  o1 33 (.bin .add (.s 32) (.k (.sc (.int .i64 1)))),
  o1 9 (.mv false (.s 33))]
def g1029_7 : LS := [o1 34 (.mv false (.s 11)),
  o1 10 (.mv false (.s 34))]
def i1029_0 : CW := .seq (.seq (.fin (.reg g1029_3) [15, 16] []) (.fin (.cond (.s 17) (.skip) (.clr [10, 17] [] (.exit 0))) [17] [])) (.blk 1 (.seq (.fin (.reg g1029_4) [18, 19, 20, 21, 22, 23] []) (.seq (.fin (.reg g1029_5) [24, 25, 26, 27, 28, 29, 30] []) (.cond (.s 31) (.fin (.reg g1029_6) [11, 31, 32, 33] []) (.fin (.reg g1029_7) [11, 31, 34] [])))))
def i1029_1 : CW := .loop i1029_0
def i1029_2 : CW := .blk 0 i1029_1
def g1029_8 : LS := [o1 35 (.mv false (.s 9)),
  o1 36 (.mv false (.s 9)),
  o1 37 (.mv false (.s 8)),
  o1 38 (.bin .lss (.s 36) (.s 37)),
  o2 39 (.mv false (.s 38)),
  o3 40 39 true (.mv false (.s 2)),
  o3 41 39 true (.mv false (.s 0)),
  o3 42 39 true (.mv false (.s 9)),
  o3 43 39 true (.idx 2 (.s 41) (.s 42)),
  o3 44 39 true (.loade 2 true 43),
  o3 45 39 true (.mv false (.s 1)),
  o3 46 39 true (.callv (.s 40) 74 74 [(false, .s 44), (false, .s 45)] [] []),
  o3 47 39 true (.bin .eql (.s 46) (.k (.sc (.int .i64 0)))),
  o1 48 (.pick (.s 39) (.s 47) (.k (.sc (.bool false)))),
  o1 6 (.mv false (.s 35)),
  o1 7 (.mv false (.s 48))]
def i1029_3 : CW := .seq (.fin (.reg g1029_8) [0, 1, 2, 8, 9, 35, 36, 37, 38, 39, 40, 41, 42, 43, 44, 45, 46, 47, 48] []) (.ret)
def i1029_4 : CW := .seq i1029_2 i1029_3
def g1029_0 : LS := [o1 6 (.mv false (.k (.sc (.int .i64 0)))),
  o1 7 (.mv false (.k (.sc (.bool false))))]
def g1029_1 : LS := [o1 12 (.mv false (.s 0)),
  o1 13 (.len false (.s 12)),
  o1 8 (.mv false (.s 13))]
def g1029_2 : LS := [o1 14 (.mv false (.s 8)),
  o1 9 (.mv false (.k (.sc (.int .i64 0)))),
  o1 10 (.mv false (.s 14))]
def i1029_5 : CW := .seq (.fin (.reg g1029_0) [6, 7] []) (.seq (.fin (.reg g1029_1) [12, 13] []) (.seq (.fin (.reg g1029_2) [14] []) i1029_4))
def fn1029 : IFn2 RW := ⟨73, 3, 49, 64, [], [], [], [.slot 6, .slot 7], i1029_5⟩
/-! slices.Clone[[]tideway/api.Piece,tideway/api.Piece] -/
def g1031_0 : List IStep := [⟨(some 2), .unew (.un none 2 0 (fun _ => [.sc (.int .i64 0), .row false 1 0 (fun _ => [.sc (.int .u8 0)])])), none, false⟩]
def g1031_1 : List IStep := [⟨(some 3), .mv false (.s 0), none, false⟩,
  ⟨(some 4), .nilq false (.s 3), none, false⟩]
def g1031_2 : List IStep := [⟨(some 2), .unew (.un none 2 0 (fun _ => [.sc (.int .i64 0), .row false 1 0 (fun _ => [.sc (.int .u8 0)])])), none, false⟩]
def g1031_3 : List IStep := [⟨(some 5), .bslice 2 0 [.sc (.int .i64 0), .row false 1 0 (fun _ => [.sc (.int .u8 0)])] [], none, false⟩,
  ⟨(some 6), .mv false (.s 0), none, false⟩,
  ⟨(some 7), .uapp 2 32 (.s 5) (.s 6), none, false⟩,
  ⟨(some 2), .mv true (.s 7), none, false⟩]
def fn1031 : IFn := ⟨76, 1, 8, 8, [], [], [], [.slot 2],
  .seq (.fin (.reg g1031_0) [2] []) (.seq (.seq (.fin (.reg g1031_1) [3] []) (.fin (.cond (.s 4) (.seq (.fin (.reg g1031_2) [0, 4] []) (.ret)) (.skip)) [4] [])) (.seq (.fin (.reg g1031_3) [0, 5, 6, 7] []) (.ret)))⟩

def fn75 : IFn := ⟨75, 3, 95, 3, [], [], [], [], .plug 2 32⟩
def g77_0 : LS := [o1 2 (.mv true (.k (.row true (.ruint8 []))))]
def g77_1 : LS := [o1 3 (.mv false (.s 0)),
  o1 4 (.mv false (.s 0)),
  o1 5 (.len false (.s 4)),
  o1 6 (.mv false (.s 0)),
  o1 7 (.len false (.s 6)),
  o1 8 (.slice 1 (.s 3) none (some (.s 5)) (some (.s 7))),
  o1 2 (.mv true (.s 8))]
def i77_0 : CW := .seq (.fin (.reg g77_0) [2] []) (.seq (.fin (.reg g77_1) [0, 3, 4, 5, 6, 7, 8] []) (.ret))
def fn77 : IFn2 RW := ⟨77, 1, 9, 16, [], [], [], [.slot 2], i77_0⟩
def g60_5 : LS := [o1 32 (.bin .lss (.s 31) (.s 30))]
def g60_6 : LS := [o1 33 (.idx 2 (.s 29) (.s 31)),
  o1 34 (.loade 2 true 33),
  o1 9 (.alloc 75 [.sc (.int .i64 0), .row false (.ruint8 [])]),
  o0 (.store 75 0 2 false 9 (.s 34))]
def g60_7 : LS := [o1 35 (.ualias (.s 7)),
  o1 36 (.len false (.s 35)),
  o1 10 (.mv false (.s 36))]
def g60_8 : LS := [o1 37 (.mv false (.s 10)),
  o1 38 (.bin .gtr (.s 37) (.k (.sc (.int .i64 0)))),
  o2 39 (.mv false (.s 38)),
  o3 40 39 true (.ualias (.s 7)),
  o3 41 39 true (.mv false (.s 10)),
  o3 42 39 true (.bin .sub (.s 41) (.k (.sc (.int .i64 1)))),
  o3 43 39 true (.uidx 2 (.s 40) (.s 42)),
  o3 44 39 true (.uload 7 2 true 43),
  o3 45 39 true (.call 71 [(false, .s 44)] [] []),
  o3 46 39 true (.fieldv 1 1 false (.s 45)),
  o3 47 39 true (.fld 0 (.s 9)),
  o3 48 39 true (.load 75 0 1 false false 47),
  o3 49 39 true (.bin .eql (.s 46) (.s 48)),
  o1 50 (.pick (.s 39) (.s 49) (.k (.sc (.bool false))))]
def g60_9 : LS := [o1 51 (.ualias (.s 7)),
  o1 52 (.mv false (.s 10)),
  o1 53 (.bin .sub (.s 52) (.k (.sc (.int .i64 1)))),
  o1 54 (.ualias (.s 7)),
  o1 55 (.mv false (.s 10)),
  o1 56 (.bin .sub (.s 55) (.k (.sc (.int .i64 1)))),
  o1 57 (.uidx 2 (.s 54) (.s 56)),
  o1 58 (.fld 1 (.s 57)),
  o1 59 (.uload 7 1 false 58),
  o1 60 (.call 77 [(false, .s 59)] [] []),
  o1 61 (.fld 1 (.s 9)),
  o1 62 (.load 75 1 1 false false 61),
  o1 63 (.app 1 1 true (.s 60) (.s 62)),
  o1 64 (.uidx 2 (.s 51) (.s 53)),
  o1 65 (.fld 1 (.s 64)),
  o0 (.ustore 7 1 65 (.s 63))]
def g60_10 : LS := [o1 66 (.mv true (.s 7)),
  o1 67 (.load 75 0 2 true false 9),
  o1 68 (.bslice 74 1 [(0, 2, .s 67)]),
  o1 69 (.uapp 2 32 (.s 66) (.s 68)),
  o1 7 (.mv true (.s 69))]
def g60_11 : LS := [o1 70 (.bin .add (.s 31) (.k (.sc (.int .i64 1)))),
  o1 31 (.mv false (.s 70))]
def i60_0 : CW := .seq (.reg g60_5) (.seq (.fin (.cond (.s 32) (.skip) (.clr [29, 30, 31, 32] [] (.exit 0))) [32] []) (.seq (.blk 1 (.seq (.fin (.reg g60_6) [33, 34] []) (.seq (.seq (.brw 7 (.fin (.reg g60_7) [35, 36] [])) (.seq (.brw 7 (.fin (.reg g60_8) [37, 38, 39, 40, 41, 42, 43, 44, 45, 46, 47, 48, 49] [])) (.fin (.cond (.s 50) (.seq (.brw 7 (.fin (.reg g60_9) [9, 10, 50, 51, 52, 53, 54, 55, 56, 57, 58, 59, 60, 61, 62, 63, 64, 65] [(75, 2)])) (.exit 1)) (.skip)) [10, 50] []))) (.fin (.reg g60_10) [9, 66, 67, 68, 69] [(75, 2)])))) (.fin (.reg g60_11) [70] [])))
def i60_1 : CW := .loop i60_0
def i60_2 : CW := .blk 0 i60_1
def g60_4 : LS := [o1 29 (.mv false (.s 0)),
  o1 30 (.len false (.s 29)),
  o1 31 (.mv false (.k (.sc (.int .i64 0))))]
def i60_3 : CW := .seq (.fin (.reg g60_4) [0] []) i60_2
def g60_12 : LS := [o1 71 (.mv true (.s 7)),
  o1 4 (.ufrz (.s 71))]
def i60_4 : CW := .seq (.fin (.reg g60_12) [7, 71] []) (.ret)
def i60_5 : CW := .seq i60_3 i60_4
def g60_0 : LS := [o1 3 (.box 72 2 false (.s 1)),
  o1 4 (.mv true (.k (.row true (.rPiece []))))]
def g60_1 : LS := [o1 12 (.mv false (.s 0)),
  o1 13 (.fld 0 (.s 3)),
  o1 14 (.load 72 0 1 false false 13),
  o1 15 (.call 1029 [(false, .s 12), (false, .s 14), (false, .k (.clo 74 []))] [] []),
  o1 11 (.mv false (.s 15)),
  o1 16 (.ext false 0 (.s 11)),
  o1 17 (.ext false 1 (.s 11)),
  o1 5 (.mv false (.s 16)),
  o1 6 (.mv false (.s 17))]
def g60_2 : LS := [o1 18 (.mv false (.s 0)),
  o1 19 (.call 1031 [(false, .s 18)] [] []),
  o1 20 (.mv false (.s 5)),
  o1 21 (.fld 0 (.s 3)),
  o1 22 (.load 72 0 1 false false 21),
  o1 23 (.fld 1 (.s 3)),
  o1 24 (.load 72 1 1 false false 23),
  o1 25 (.call 52 [(false, .s 24)] [] []),
  o1 26 (.build [.sc (.int .i64 0), .row false (.ruint8 [])] [(0, 1, .s 22), (1, 1, .s 25)]),
  o1 27 (.bslice 74 1 [(0, 2, .s 26)]),
  o1 28 (.call 75 [(true, .s 19), (false, .s 20), (false, .s 27)] [] []),
  o1 0 (.ufrz (.s 28))]
def g60_3 : LS := [o1 7 (.unew (.un none (.rPiece [])))]
def i60_6 : CW := .seq (.fin (.reg g60_0) [1, 4] []) (.seq (.fin (.reg g60_1) [6, 11, 12, 13, 14, 15, 16, 17] []) (.seq (.fin (.reg g60_2) [3, 5, 18, 19, 20, 21, 22, 23, 24, 25, 26, 27, 28] [(72, 2)]) (.seq (.reg g60_3) (.seq (.skip) i60_5))))
def fn60 : IFn2 RW := ⟨60, 2, 72, 80, [(72, 2), (75, 2)], [], [], [.slot 4], i60_6⟩
def g1027_0 : LS := [o1 5 (.box 45 2 false (.s 0))]
def g1027_1 : LS := [o0 (.store 43 0 1 false 1 (.k (.sc (.bool true))))]
def g1027_2 : LS := [o1 6 (.fld 2 (.s 2)),
  o1 7 (.load 23 2 1 false false 6),
  o1 8 (.fld 0 (.s 5)),
  o1 9 (.load 45 0 1 false false 8),
  o1 10 (.load 41 0 1 false false 3),
  o1 11 (.fld 0 (.s 5)),
  o1 12 (.load 45 0 1 false false 11),
  o1 13 (.load 39 0 1 false false 4),
  o1 14 (.bin .sub (.s 12) (.s 13)),
  o1 15 (.fld 1 (.s 5)),
  o1 16 (.load 45 1 1 false false 15),
  o1 17 (.load 39 0 1 false false 4),
  o1 18 (.bin .sub (.s 16) (.s 17)),
  o1 19 (.slice 1 (.s 10) (some (.s 14)) (some (.s 18)) none),
  o1 20 (.build [.sc (.int .i64 0), .row false (.ruint8 [])] [(0, 1, .s 9), (1, 1, .s 19)]),
  o1 21 (.call 60 [(false, .s 7), (false, .s 20)] [] []),
  o1 22 (.fld 2 (.s 2)),
  o0 (.store 23 2 1 true 22 (.s 21))]
def i1027_0 : CW := .seq (.fin (.reg g1027_0) [0] []) (.seq (.fin (.reg g1027_1) [1] []) (.fin (.reg g1027_2) [2, 3, 4, 5, 6, 7, 8, 9, 10, 11, 12, 13, 14, 15, 16, 17, 18, 19, 20, 21, 22] [(45, 2)]))
def fn1027 : IFn2 RW := ⟨59, 5, 23, 48, [(23, 15), (39, 1), (41, 1), (43, 1), (45, 2)], [(23, 15), (39, 1), (41, 1), (43, 1)], [], [], i1027_0⟩
def g34_6 : LS := [o1 10 (.alloc 150 [.sc (.int .i64 0), .sc (.int .i64 0)]),
  o0 (.store 150 0 2 false 10 (.s 32))]
def i34_0 : CW := .fin (.reg g34_6) [32] []
def g34_7 : LS := [o1 33 (.load 148 0 1 false true 9),
  o1 34 (.load 150 0 2 true false 10),
  o1 35 (.bslice 78 1 [(0, 2, .s 34)]),
  o1 36 (.app 2 16 true (.s 33) (.s 35)),
  o0 (.store 148 0 1 true 9 (.s 36))]
def i34_1 : CW := .blk 1 (.fin (.reg g34_7) [10, 33, 34, 35, 36] [(150, 2)])
def i34_2 : CW := .seq (.fin (.reg g34_6) [32] []) (.blk 1 (.fin (.reg g34_7) [10, 33, 34, 35, 36] [(150, 2)]))
def g34_1000 : LS := [o1 5 (.fld 2 (.s 1)),
  o1 6 (.load 158 2 1 false false 5),
  o1 7 (.len false (.s 6)),
  o1 8 (.mv false (.k (.sc (.int .i64 0))))]
def g34_1001 : LS := [o1 9 (.bin .lss (.s 8) (.s 7))]
def g34_1002 : LS := [o1 10 (.idx 2 (.s 6) (.s 8)),
  o1 11 (.loade 2 true 10),
  o1 4 (.alloc 174 [.sc (.int .i64 0), .row false (.ruint8 [])]),
  o0 (.store 174 0 2 false 4 (.s 11))]
def g34_10031 : LS := [o1 12 (.mv false (.s 0)),
  o1 13 (.load 174 0 2 true false 4),
  o1 14 (.call 71 [(false, .s 13)] [] [])]
def g34_10032 : LS := [o1 16 (.un .not (.s 15))]
def g34_1004 : LS := [o1 17 (.bin .add (.s 8) (.k (.sc (.int .i64 1)))),
  o1 8 (.mv false (.s 17))]
def i34_3 : CW := .seq (.fin (.reg g34_1000) [1, 5] []) (.blk 0 (.loop (.seq (.reg g34_1001) (.seq (.fin (.cond (.s 9) (.skip) (.clr [0, 6, 7, 8, 9] [] (.exit 0))) [9] []) (.seq (.blk 1 (.seq (.fin (.reg g34_1002) [10, 11] []) (.seq (.fin (.yreg g34_10031 (.s 12) [.s 14] none 15 g34_10032) [4, 12, 13, 14, 15] [(174, 2)]) (.fin (.cond (.s 16) (.clr [0, 6, 7, 8, 16] [] (.ret)) (.skip)) [16] [])))) (.fin (.reg g34_1004) [17] []))))))
def i34_4 : CW := .fin (.yreg g34_10031 (.s 12) [.s 14] none 15 g34_10032) [4, 12, 13, 14, 15] [(174, 2)]
def i34_5 : CW := .fin (.cond (.s 16) (.clr [0, 6, 7, 8, 16] [] (.ret)) (.skip)) [16] []
def i34_6 : CW := .seq i34_4 i34_5
def i34_7 : CW := .seq (.fin (.reg g34_1002) [10, 11] []) i34_6
def i34_8 : CW := .blk 1 i34_7
def i34_9 : CW := .fin (.reg g34_1004) [17] []
def i34_10 : CW := .seq i34_8 i34_9
def i34_11 : CW := .seq (.reg g34_1001) (.seq (.fin (.cond (.s 9) (.skip) (.clr [0, 6, 7, 8, 9] [] (.exit 0))) [9] []) i34_10)
def i34_12 : CW := .loop i34_11
def i34_13 : CW := .blk 0 i34_12
def i34_14 : CW := .fin (.rfn (.s 31) 70 7 18 [32] i34_3 i34_0 i34_1 [112, 128, 130, 132, 148, 158] [112, 128, 130, 132, 148, 158, 174]) [31] [(158, 15)]
def i34_15 : CW := .blk 0 i34_14
def g34_5 : LS := [o1 30 (.load 112 0 15 true false 3),
  o1 31 (.call 55 [(false, .s 30)] [] [(4, 15, 158)])]
def i34_16 : CW := .seq (.fin (.reg g34_5) [30] []) i34_15
def g34_13 : LS := [o1 52 (.bin .lss (.s 51) (.s 50))]
def g34_14 : LS := [o1 53 (.idx 2 (.s 49) (.s 51)),
  o1 54 (.loade 2 true 53),
  o1 15 (.alloc 155 [.sc (.int .i64 0), .sc (.int .i64 0)]),
  o0 (.store 155 0 2 false 15 (.s 54))]
def g34_15 : LS := [o1 55 (.mv false (.s 12)),
  o1 56 (.load 155 0 2 true false 15),
  o1 57 (.callv (.s 55) 59 1027 [(false, .s 56)] [(112, 15, 23), (128, 1, 39), (130, 1, 41), (153, 1, 43)] [])]
def g34_16 : LS := [o1 58 (.bin .add (.s 51) (.k (.sc (.int .i64 1)))),
  o1 51 (.mv false (.s 58))]
def i34_17 : CW := .seq (.reg g34_13) (.seq (.fin (.cond (.s 52) (.skip) (.clr [12, 49, 50, 51, 52] [(128, 1), (130, 1)] (.exit 2))) [52] []) (.seq (.blk 3 (.seq (.fin (.reg g34_14) [53, 54] []) (.fin (.reg g34_15) [15, 55, 56, 57] [(155, 2)]))) (.fin (.reg g34_16) [58] [])))
def i34_18 : CW := .loop i34_17
def i34_19 : CW := .blk 2 i34_18
def g34_12 : LS := [o1 45 (.load 148 0 1 false false 9),
  o1 46 (.mv false (.s 13)),
  o1 47 (.mv false (.s 8)),
  o1 48 (.build [.sc (.int .i64 0), .sc (.int .i64 0)] [(0, 1, .s 46), (1, 1, .s 47)]),
  o1 49 (.call 61 [(false, .s 45), (false, .s 48)] [] []),
  o1 50 (.len false (.s 49)),
  o1 51 (.mv false (.k (.sc (.int .i64 0))))]
def i34_20 : CW := .seq (.fin (.reg g34_12) [8, 9, 13, 44, 45, 46, 47, 48] [(148, 1)]) i34_19
def i34_21 : CW := .skip
def i34_22 : CW := .fin (.cond (.s 44) i34_20 i34_21) [8, 9, 12, 13, 44] [(128, 1), (130, 1), (148, 1)]
def g34_10 : LS := [o1 38 (.load 128 0 1 false false 4),
  o1 39 (.fld 0 (.s 3)),
  o1 40 (.load 112 0 1 false false 39),
  o1 41 (.mnmx true [.s 38, .s 40]),
  o1 13 (.mv false (.s 41))]
def g34_11 : LS := [o1 42 (.mv false (.s 13)),
  o1 43 (.mv false (.s 8)),
  o1 44 (.bin .lss (.s 42) (.s 43))]
def i34_23 : CW := .seq (.fin (.reg g34_10) [4, 38, 39, 40, 41] []) (.seq (.fin (.reg g34_11) [42, 43] []) i34_22)
def g34_17 : LS := [o1 59 (.fld 2 (.s 3)),
  o1 60 (.load 112 2 1 false false 59),
  o1 61 (.len false (.s 60)),
  o1 62 (.bin .gtr (.s 61) (.k (.sc (.int .i64 0)))),
  o2 63 (.mv false (.s 62)),
  o3 64 63 true (.fld 2 (.s 3)),
  o3 65 63 true (.load 112 2 1 false false 64),
  o3 66 63 true (.idx 2 (.s 65) (.k (.sc (.int .i64 0)))),
  o3 67 63 true (.fld 0 (.s 66)),
  o3 68 63 true (.loade 1 false 67),
  o3 69 63 true (.fld 0 (.s 3)),
  o3 70 63 true (.load 112 0 1 false false 69),
  o3 71 63 true (.bin .eql (.s 68) (.s 70)),
  o1 72 (.pick (.s 63) (.s 71) (.k (.sc (.bool false))))]
def g34_18 : LS := [o1 73 (.fld 1 (.s 3)),
  o1 74 (.load 112 1 1 false true 73),
  o1 75 (.fld 2 (.s 3)),
  o1 76 (.load 112 2 1 false false 75),
  o1 77 (.idx 2 (.s 76) (.k (.sc (.int .i64 0)))),
  o1 78 (.fld 1 (.s 77)),
  o1 79 (.loade 1 false 78),
  o1 80 (.app 1 1 true (.s 74) (.s 79)),
  o1 81 (.fld 1 (.s 3)),
  o0 (.store 112 1 1 true 81 (.s 80))]
def g34_19 : LS := [o1 82 (.fld 0 (.s 3)),
  o1 83 (.load 112 0 1 false false 82),
  o1 84 (.fld 2 (.s 3)),
  o1 85 (.load 112 2 1 false false 84),
  o1 86 (.idx 2 (.s 85) (.k (.sc (.int .i64 0)))),
  o1 87 (.fld 1 (.s 86)),
  o1 88 (.loade 1 false 87),
  o1 89 (.len false (.s 88)),
  o1 90 (.bin .add (.s 83) (.s 89)),
  o1 91 (.fld 0 (.s 3)),
  o0 (.store 112 0 1 false 91 (.s 90))]
def g34_20 : LS := [o1 92 (.fld 2 (.s 3)),
  o1 93 (.load 112 2 1 false false 92),
  o1 94 (.slice 2 (.s 93) (some (.k (.sc (.int .i64 1)))) none none),
  o1 95 (.fld 2 (.s 3)),
  o0 (.store 112 2 1 true 95 (.s 94))]
def i34_24 : CW := .seq (.seq (.fin (.reg g34_17) [59, 60, 61, 62, 63, 64, 65, 66, 67, 68, 69, 70, 71] []) (.fin (.cond (.s 72) i34_21 (.clr [72] [] (.exit 4))) [72] [])) (.blk 5 (.seq (.fin (.reg g34_18) [73, 74, 75, 76, 77, 78, 79, 80, 81] []) (.seq (.fin (.reg g34_19) [82, 83, 84, 85, 86, 87, 88, 89, 90, 91] []) (.fin (.reg g34_20) [92, 93, 94, 95] []))))
def i34_25 : CW := .loop i34_24
def i34_26 : CW := .wk [115] i34_25
def i34_27 : CW := .blk 4 i34_26
def g34_21 : LS := [o1 96 (.load 112 0 15 true true 3),
  o1 97 (.load 153 0 1 false false 11),
  o0 (.store 132 0 15 true 6 (.s 96)),
  o1 7 (.mv false (.s 97))]
def i34_28 : CW := .seq (.fin (.reg g34_21) [3, 11, 96, 97] [(112, 15), (153, 1)]) (.ret)
def i34_29 : CW := .seq i34_27 i34_28
def i34_30 : CW := .seq i34_23 i34_29
def g34_8 : LS := [o1 11 (.alloc 153 [.sc (.bool false)]),
  o0 (.store 153 0 1 false 11 (.k (.sc (.bool false))))]
def g34_9 : LS := [o1 37 (.mkclo 59 [.s 11, .s 3, .s 5, .s 4]),
  o1 12 (.mv false (.s 37))]
def i34_31 : CW := .seq (.reg g34_8) (.seq (.fin (.reg g34_9) [5, 37] []) i34_30)
def i34_32 : CW := .seq i34_16 i34_31
def g34_0 : LS := [o1 3 (.box 112 15 true (.s 0)),
  o1 4 (.box 128 1 false (.s 1)),
  o1 5 (.box 130 1 false (.s 2)),
  o1 6 (.alloc 132 [.sc (.int .i64 0), .row true (.ruint8 []), .row true (.rPiece []), .sc (.int .i64 0), .sc (.int .i64 0), .sc (.int .i64 0), .sc (.int .u32 0), .sc (.bool false), .sc (.bool false), .sc (.int .i64 0), .sc (.bool false), .row true (.rSpan []), .sc (.int .u32 0), .sc (.int .u32 0), .sc (.bool false)]),
  o1 7 (.mv false (.k (.sc (.bool false))))]
def g34_1 : LS := [o1 16 (.load 128 0 1 false false 4),
  o1 17 (.load 130 0 1 false false 5),
  o1 18 (.len false (.s 17)),
  o1 19 (.bin .add (.s 16) (.s 18)),
  o1 20 (.load 112 0 15 true false 3),
  o1 21 (.call 53 [(false, .s 20)] [] []),
  o1 22 (.mnmx false [.s 19, .s 21]),
  o1 8 (.mv false (.s 22))]
def g34_2 : LS := [o1 23 (.fld 9 (.s 3)),
  o1 24 (.load 112 9 1 false false 23),
  o1 25 (.bin .geq (.s 24) (.k (.sc (.int .i64 0))))]
def g34_3 : LS := [o1 26 (.mv false (.s 8)),
  o1 27 (.fld 9 (.s 3)),
  o1 28 (.load 112 9 1 false false 27),
  o1 29 (.mnmx false [.s 26, .s 28]),
  o1 8 (.mv false (.s 29))]
def g34_4 : LS := [o1 9 (.alloc 148 [.row true (.rSpan [])])]
def i34_33 : CW := .seq (.fin (.reg g34_0) [0, 1, 2, 7] []) (.seq (.fin (.reg g34_1) [16, 17, 18, 19, 20, 21, 22] []) (.seq (.seq (.fin (.reg g34_2) [23, 24] []) (.fin (.cond (.s 25) (.fin (.reg g34_3) [25, 26, 27, 28, 29] []) i34_21) [25] [])) (.seq (.reg g34_4) i34_32)))
def fn34 : IFn2 RW := ⟨34, 3, 98, 192, [(112, 15), (128, 1), (130, 1), (132, 15), (148, 1), (150, 2), (153, 1), (155, 2), (158, 15), (174, 2)], [], [], [.cell 6 132 15 true, .slot 7], i34_33⟩
def g1036_0 : LS := [o1 2 (.box 19 2 false (.s 0)),
  o1 3 (.mv false (.k (.sc (.bool false))))]
def g1036_1 : LS := [o1 4 (.fld 0 (.s 2)),
  o1 5 (.load 19 0 1 false false 4),
  o1 6 (.fld 0 (.s 1)),
  o1 7 (.load 16 0 1 false false 6),
  o1 8 (.bin .leq (.s 5) (.s 7)),
  o2 9 (.mv false (.s 8)),
  o3 10 9 true (.fld 1 (.s 1)),
  o3 11 9 true (.load 16 1 1 false false 10),
  o3 12 9 true (.fld 1 (.s 2)),
  o3 13 9 true (.load 19 1 1 false false 12),
  o3 14 9 true (.bin .leq (.s 11) (.s 13)),
  o1 15 (.pick (.s 9) (.s 14) (.k (.sc (.bool false)))),
  o1 3 (.mv false (.s 15))]
def i1036_0 : CW := .seq (.fin (.reg g1036_0) [0, 3] []) (.seq (.fin (.reg g1036_1) [1, 2, 4, 5, 6, 7, 8, 9, 10, 11, 12, 13, 14, 15] [(19, 2)]) (.ret))
def fn1036 : IFn2 RW := ⟨63, 2, 16, 32, [(16, 2), (19, 2)], [(16, 2)], [], [.slot 3], i1036_0⟩
def g1035_2 : LS := [o1 9 (.bin .lss (.s 8) (.s 7))]
def g1035_3 : LS := [o1 10 (.mv false (.s 8)),
  o1 5 (.mv false (.s 10))]
def g1035_4 : LS := [o1 11 (.mv false (.s 1)),
  o1 12 (.mv false (.s 0)),
  o1 13 (.mv false (.s 5)),
  o1 14 (.idx 2 (.s 12) (.s 13)),
  o1 15 (.loade 2 true 14),
  o1 16 (.callv (.s 11) 63 1036 [(false, .s 15)] [(19, 2, 16)] [])]
def g1035_5 : LS := [o1 17 (.mv false (.s 5)),
  o1 4 (.mv false (.s 17))]
def g1035_6 : LS := [o1 18 (.bin .add (.s 8) (.k (.sc (.int .i64 1)))),
  o1 8 (.mv false (.s 18))]
def i1035_0 : CW := .seq (.reg g1035_2) (.seq (.fin (.cond (.s 9) (.skip) (.clr [0, 1, 7, 8, 9] [] (.exit 0))) [9] []) (.seq (.blk 1 (.seq (.fin (.reg g1035_3) [10] []) (.seq (.fin (.reg g1035_4) [11, 12, 13, 14, 15] []) (.fin (.cond (.s 16) (.seq (.fin (.reg g1035_5) [0, 1, 5, 7, 8, 16, 17] []) (.ret)) (.skip)) [5, 16] [])))) (.fin (.reg g1035_6) [18] [])))
def i1035_1 : CW := .loop i1035_0
def i1035_2 : CW := .blk 0 i1035_1
def g1035_1 : LS := [o1 6 (.mv false (.s 0)),
  o1 7 (.len false (.s 6)),
  o1 8 (.mv false (.k (.sc (.int .i64 0))))]
def i1035_3 : CW := .seq (.fin (.reg g1035_1) [6] []) i1035_2
def g1035_7 : LS := [o1 4 (.mv false (.k (.sc (.int .i64 (-1)))))]
def i1035_4 : CW := .seq (.reg g1035_7) (.ret)
def i1035_5 : CW := .seq i1035_3 i1035_4
def g1035_0 : LS := [o1 4 (.mv false (.k (.sc (.int .i64 0))))]
def i1035_6 : CW := .seq (.fin (.reg g1035_0) [4] []) i1035_5
def fn1035 : IFn2 RW := ⟨62, 2, 19, 32, [(19, 2)], [(19, 2)], [], [.slot 4], i1035_6⟩
def g35_4 : LS := [o1 22 (.mv false (.s 9)),
  o1 23 (.bin .geq (.s 22) (.k (.sc (.int .i64 0))))]
def g35_6 : LS := [o1 26 (.mv false (.s 7)),
  o1 27 (.mv false (.s 9)),
  o1 28 (.idx 2 (.s 26) (.s 27)),
  o1 29 (.fld 0 (.s 28)),
  o1 30 (.loade 1 false 29),
  o1 31 (.mv false (.s 1)),
  o1 32 (.mv false (.s 2)),
  o1 33 (.len false (.s 32)),
  o1 34 (.bin .add (.s 31) (.s 33)),
  o1 35 (.bin .lss (.s 30) (.s 34)),
  o2 36 (.mv false (.s 35)),
  o3 37 36 true (.mv false (.s 7)),
  o3 38 36 true (.mv false (.s 9)),
  o3 39 36 true (.idx 2 (.s 37) (.s 38)),
  o3 40 36 true (.fld 1 (.s 39)),
  o3 41 36 true (.loade 1 false 40),
  o3 42 36 true (.mv false (.s 1)),
  o3 43 36 true (.bin .gtr (.s 41) (.s 42)),
  o1 44 (.pick (.s 36) (.s 43) (.k (.sc (.bool false)))),
  o2 45 (.mv false (.s 44)),
  o3 46 45 true (.mv false (.s 2)),
  o3 47 45 true (.len false (.s 46)),
  o3 48 45 true (.bin .gtr (.s 47) (.k (.sc (.int .i64 0)))),
  o1 49 (.pick (.s 45) (.s 48) (.k (.sc (.bool false))))]
def g35_7 : LS := [o1 50 (.mv false (.s 7)),
  o1 51 (.mv false (.s 9)),
  o1 52 (.idx 2 (.s 50) (.s 51)),
  o1 53 (.loade 2 true 52),
  o1 54 (.bslice 78 1 [(0, 2, .s 53)]),
  o1 55 (.mv false (.s 8)),
  o1 56 (.app 2 16 true (.s 54) (.s 55)),
  o1 8 (.mv false (.s 56))]
def g35_5 : LS := [o1 24 (.mv false (.s 9)),
  o1 25 (.bin .sub (.s 24) (.k (.sc (.int .i64 1)))),
  o1 9 (.mv false (.s 25))]
def i35_0 : CW := .seq (.seq (.fin (.reg g35_4) [22] []) (.fin (.cond (.s 23) (.skip) (.clr [1, 2, 9, 23] [] (.exit 0))) [23] [])) (.seq (.blk 1 (.seq (.fin (.reg g35_6) [26, 27, 28, 29, 30, 31, 32, 33, 34, 35, 36, 37, 38, 39, 40, 41, 42, 43, 44, 45, 46, 47, 48] []) (.fin (.cond (.s 49) (.seq (.fin (.reg g35_7) [1, 2, 9, 49, 50, 51, 52, 53, 54, 55, 56] []) (.exit 0)) (.skip)) [49] []))) (.fin (.reg g35_5) [24, 25] []))
def i35_1 : CW := .loop i35_0
def i35_2 : CW := .blk 0 i35_1
def g35_3 : LS := [o1 19 (.mv false (.s 7)),
  o1 20 (.len false (.s 19)),
  o1 21 (.bin .sub (.s 20) (.k (.sc (.int .i64 1)))),
  o1 9 (.mv false (.s 21))]
def i35_3 : CW := .seq (.fin (.reg g35_3) [19, 20, 21] []) i35_2
def g35_10 : LS := [o1 60 (.bin .lss (.s 59) (.s 58))]
def g35_11 : LS := [o1 61 (.idx 2 (.s 57) (.s 59)),
  o1 62 (.loade 2 true 61),
  o1 12 (.alloc 102 [.sc (.int .i64 0), .sc (.int .i64 0)]),
  o0 (.store 102 0 2 false 12 (.s 62))]
def g35_12 : LS := [o1 63 (.mv false (.s 7)),
  o1 64 (.mkclo 63 [.s 12]),
  o1 65 (.call 1035 [(false, .s 63), (false, .s 64)] [(102, 2, 19)] []),
  o1 13 (.mv false (.s 65))]
def g35_13 : LS := [o1 66 (.mv false (.s 13)),
  o1 67 (.bin .geq (.s 66) (.k (.sc (.int .i64 0)))),
  o2 68 (.mv false (.s 67)),
  o3 69 68 true (.mv false (.s 10)),
  o3 70 68 true (.mv false (.s 7)),
  o3 71 68 true (.mv false (.s 13)),
  o3 72 68 true (.idx 2 (.s 70) (.s 71)),
  o3 73 68 true (.loade 2 true 72),
  o3 74 68 true (.call 56 [(false, .s 69), (false, .s 73)] [] []),
  o3 75 68 true (.un .not (.s 74)),
  o1 76 (.pick (.s 68) (.s 75) (.k (.sc (.bool false))))]
def g35_14 : LS := [o1 77 (.mv true (.s 10)),
  o1 78 (.mv false (.s 7)),
  o1 79 (.mv false (.s 13)),
  o1 80 (.idx 2 (.s 78) (.s 79)),
  o1 81 (.loade 2 true 80),
  o1 82 (.bslice 78 1 [(0, 2, .s 81)]),
  o1 83 (.app 2 16 true (.s 77) (.s 82)),
  o1 10 (.mv true (.s 83))]
def g35_15 : LS := [o1 84 (.bin .add (.s 59) (.k (.sc (.int .i64 1)))),
  o1 59 (.mv false (.s 84))]
def i35_4 : CW := .seq (.reg g35_10) (.seq (.fin (.cond (.s 60) (.skip) (.clr [7, 57, 58, 59, 60] [] (.exit 2))) [60] []) (.seq (.blk 3 (.seq (.fin (.reg g35_11) [61, 62] []) (.seq (.fin (.reg g35_12) [12, 63, 64, 65] [(102, 2)]) (.seq (.fin (.reg g35_13) [66, 67, 68, 69, 70, 71, 72, 73, 74, 75] []) (.fin (.cond (.s 76) (.fin (.reg g35_14) [13, 76, 77, 78, 79, 80, 81, 82, 83] []) (.skip)) [13, 76] []))))) (.fin (.reg g35_15) [84] [])))
def i35_5 : CW := .loop i35_4
def i35_6 : CW := .blk 2 i35_5
def g35_9 : LS := [o1 57 (.mv false (.s 8)),
  o1 58 (.len false (.s 57)),
  o1 59 (.mv false (.k (.sc (.int .i64 0))))]
def i35_7 : CW := .seq (.fin (.reg g35_9) [8] []) i35_6
def g35_16 : LS := [o1 85 (.mv true (.s 10)),
  o1 6 (.mv true (.s 85))]
def i35_8 : CW := .seq (.fin (.reg g35_16) [10, 85] []) (.ret)
def i35_9 : CW := .seq i35_7 i35_8
def g35_8 : LS := [o1 10 (.mv true (.k (.row true (.rSpan []))))]
def i35_10 : CW := .seq (.reg g35_8) i35_9
def i35_11 : CW := .seq i35_3 i35_10
def g35_0 : LS := [o1 3 (.box 86 15 false (.s 0)),
  o1 6 (.mv true (.k (.row true (.rSpan []))))]
def g35_1 : LS := [o1 14 (.load 86 0 15 true false 3),
  o1 15 (.call 55 [(false, .s 14)] [] [(4, 15, 105)]),
  o1 16 (.call 1007 [(false, .s 15)] [(105, 15, 5)] []),
  o1 7 (.mv false (.s 16))]
def g35_2 : LS := [o1 17 (.fld 11 (.s 3)),
  o1 18 (.load 86 11 1 false false 17),
  o1 8 (.mv false (.s 18))]
def i35_12 : CW := .seq (.fin (.reg g35_0) [0, 6] []) (.seq (.fin (.reg g35_1) [14, 15, 16] [(105, 15)]) (.seq (.fin (.reg g35_2) [3, 17, 18] [(86, 15)]) i35_11))
def fn35 : IFn2 RW := ⟨35, 3, 86, 128, [(86, 15), (102, 2), (105, 15)], [], [], [.slot 6], i35_12⟩
def g12_21 : LS := [o1 133 (.load 140 0 15 true false 2),
  o1 134 (.mv true (.s 13)),
  o1 135 (.call 32 [(false, .s 133), (true, .s 134)] [] []),
  o1 132 (.mv true (.s 135)),
  o1 136 (.ext true 0 (.s 132)),
  o1 137 (.ext false 1 (.s 132)),
  o1 14 (.alloc 236 [.sc (.int .i64 0), .sc (.int .i64 0), .sc (.int .u32 0), .sc (.int .u32 0), .sc (.int .i64 0), .sc (.int .i64 0), .sc (.int .i64 0), .sc (.int .i64 0), .sc (.int .i64 0), .sc (.bool false), .sc (.bool false), .sc (.int .u32 0), .sc (.int .u32 0), .row false (.rBlock []), .row false (.ruint8 [])]),
  o0 (.store 140 0 15 true 2 (.s 136)),
  o0 (.store 236 0 15 false 14 (.s 137))]
def g12_22 : LS := [o1 138 (.load 140 0 15 true false 2),
  o1 139 (.load 236 0 15 true false 14),
  o0 (.store 172 0 15 false 4 (.s 138)),
  o0 (.store 188 0 15 false 5 (.s 139)),
  o1 6 (.mv false (.k (.sc (.bool true)))),
  o1 7 (.mv false (.k (.sc (.int .i64 0))))]
def i12_0 : CW := .seq (.fin (.reg g12_21) [13, 132, 133, 134, 135, 136, 137] []) (.seq (.fin (.reg g12_22) [2, 14, 138, 139] [(140, 15), (236, 15)]) (.wk [6, 7] (.ret)))
def g12_19 : LS := [o1 106 (.fld 8 (.s 2)),
  o1 107 (.load 140 8 1 false false 106),
  o2 108 (.mv false (.s 107)),
  o3 109 108 true (.fld 14 (.s 3)),
  o3 110 108 true (.load 156 14 1 false false 109),
  o3 111 108 true (.len false (.s 110)),
  o3 112 108 true (.bin .gtr (.s 111) (.k (.sc (.int .i64 0)))),
  o1 113 (.pick (.s 108) (.s 112) (.k (.sc (.bool false)))),
  o2 114 (.mv false (.s 113)),
  o3 115 114 true (.mv false (.s 9)),
  o3 116 114 true (.bin .geq (.s 115) (.k (.sc (.int .i64 0)))),
  o1 117 (.pick (.s 114) (.s 116) (.k (.sc (.bool false)))),
  o2 118 (.mv false (.s 117)),
  o3 119 118 true (.mv false (.s 12)),
  o3 120 118 true (.un .not (.s 119)),
  o1 121 (.pick (.s 118) (.s 120) (.k (.sc (.bool false))))]
def g12_20 : LS := [o1 122 (.fld 2 (.s 3)),
  o1 123 (.load 156 2 1 false false 122),
  o1 124 (.fld 2 (.s 3)),
  o1 125 (.load 156 2 1 false false 124),
  o1 126 (.fld 14 (.s 3)),
  o1 127 (.load 156 14 1 false false 126),
  o1 128 (.len false (.s 127)),
  o1 129 (.call 36 [(false, .s 125), (false, .s 128)] [] []),
  o1 130 (.build [.sc (.int .u32 0), .sc (.int .u32 0)] [(0, 1, .s 123), (1, 1, .s 129)]),
  o1 131 (.bslice 62 1 [(0, 2, .s 130)]),
  o1 13 (.mv true (.s 131))]
def i12_1 : CW := .seq (.seq (.fin (.reg g12_19) [9, 12, 106, 107, 108, 109, 110, 111, 112, 113, 114, 115, 116, 117, 118, 119, 120] []) (.fin (.cond (.s 121) (.fin (.reg g12_20) [3, 121, 122, 123, 124, 125, 126, 127, 128, 129, 130, 131] [(156, 15)]) (.skip)) [3, 121] [(156, 15)])) i12_0
def g12_17 : LS := [o1 100 (.load 140 0 15 true false 2),
  o1 101 (.mv false (.s 9)),
  o1 102 (.fld 14 (.s 3)),
  o1 103 (.load 156 14 1 false false 102),
  o1 104 (.call 35 [(false, .s 100), (false, .s 101), (false, .s 103)] [] []),
  o1 105 (.fld 11 (.s 2)),
  o0 (.store 140 11 1 true 105 (.s 104))]
def g12_18 : LS := [o1 13 (.mv true (.k (.row true (.rBlock []))))]
def i12_2 : CW := .seq (.fin (.reg g12_17) [100, 101, 102, 103, 104, 105] []) (.seq (.reg g12_18) i12_1)
def g12_13 : LS := [o1 74 (.fld 4 (.s 3)),
  o1 75 (.load 156 4 1 false false 74),
  o1 76 (.bin .and (.s 75) (.k (.sc (.int .i64 1)))),
  o1 77 (.bin .gtr (.s 76) (.k (.sc (.int .i64 0))))]
def g12_14 : LS := [o1 78 (.load 140 0 15 true false 2),
  o1 79 (.mv false (.s 9)),
  o1 80 (.fld 14 (.s 3)),
  o1 81 (.load 156 14 1 false false 80),
  o1 82 (.len false (.s 81)),
  o1 83 (.bin .add (.s 79) (.s 82)),
  o1 84 (.call 33 [(false, .s 78), (false, .s 83)] [] []),
  o1 85 (.fld 9 (.s 2)),
  o0 (.store 140 9 1 false 85 (.s 84))]
def g12_15 : LS := [o1 87 (.load 140 0 15 true true 2),
  o1 88 (.mv false (.s 9)),
  o1 89 (.fld 14 (.s 3)),
  o1 90 (.load 156 14 1 false false 89),
  o1 91 (.call 34 [(true, .s 87), (false, .s 88), (false, .s 90)] [] []),
  o1 86 (.mv true (.s 91)),
  o1 92 (.ext true 0 (.s 86)),
  o1 93 (.ext false 1 (.s 86)),
  o0 (.store 140 0 15 true 2 (.s 92)),
  o1 12 (.mv false (.s 93))]
def g12_16 : LS := [o1 94 (.fld 9 (.s 2)),
  o1 95 (.load 140 9 1 false false 94),
  o1 96 (.fld 0 (.s 2)),
  o1 97 (.load 140 0 1 false false 96),
  o1 98 (.bin .eql (.s 95) (.s 97)),
  o1 99 (.fld 10 (.s 2)),
  o0 (.store 140 10 1 false 99 (.s 98))]
def i12_3 : CW := .seq (.seq (.fin (.reg g12_13) [74, 75, 76] []) (.fin (.cond (.s 77) (.fin (.reg g12_14) [77, 78, 79, 80, 81, 82, 83, 84, 85] []) (.skip)) [77] [])) (.seq (.fin (.reg g12_15) [86, 87, 88, 89, 90, 91, 92, 93] []) (.seq (.fin (.reg g12_16) [94, 95, 96, 97, 98, 99] []) i12_2))
def g12_11 : LS := [o1 62 (.fld 7 (.s 2)),
  o1 63 (.load 140 7 1 false false 62),
  o2 64 (.mv false (.s 63)),
  o3 65 64 true (.mv false (.s 9)),
  o3 66 64 true (.fld 0 (.s 2)),
  o3 67 64 true (.load 140 0 1 false false 66),
  o3 68 64 true (.bin .leq (.s 65) (.s 67)),
  o1 69 (.pick (.s 64) (.s 68) (.k (.sc (.bool false))))]
def g12_12 : LS := [o1 70 (.fld 11 (.s 3)),
  o1 71 (.load 156 11 1 false false 70),
  o1 72 (.fld 6 (.s 2)),
  o0 (.store 140 6 1 false 72 (.s 71)),
  o1 73 (.fld 14 (.s 2)),
  o0 (.store 140 14 1 false 73 (.k (.sc (.bool true))))]
def i12_4 : CW := .seq (.seq (.fin (.reg g12_11) [62, 63, 64, 65, 66, 67, 68] []) (.fin (.cond (.s 69) (.fin (.reg g12_12) [69, 70, 71, 72, 73] []) (.skip)) [69] [])) i12_3
def g12_8 : LS := [o1 41 (.fld 7 (.s 2)),
  o1 42 (.load 140 7 1 false false 41),
  o2 43 (.mv false (.s 42)),
  o3 44 43 true (.fld 14 (.s 2)),
  o3 45 43 true (.load 140 14 1 false false 44),
  o1 46 (.pick (.s 43) (.s 45) (.k (.sc (.bool false)))),
  o2 47 (.mv false (.s 46)),
  o3 48 47 true (.fld 6 (.s 2)),
  o3 49 47 true (.load 140 6 1 false false 48),
  o3 50 47 true (.fld 11 (.s 3)),
  o3 51 47 true (.load 156 11 1 false false 50),
  o3 52 47 true (.call 31 [(false, .s 49), (false, .s 51)] [] []),
  o3 53 47 true (.bin .lss (.s 52) (.k (.sc (.int .i64 0)))),
  o1 54 (.pick (.s 47) (.s 53) (.k (.sc (.bool false))))]
def g12_9 : LS := [o1 56 (.load 140 0 15 true false 2),
  o1 57 (.call 32 [(false, .s 56), (true, .k (.row true (.rBlock [])))] [] []),
  o1 55 (.mv false (.s 57)),
  o1 58 (.ext false 0 (.s 55)),
  o1 59 (.ext false 1 (.s 55)),
  o1 10 (.alloc 204 [.sc (.int .i64 0), .row false (.ruint8 []), .row false (.rPiece []), .sc (.int .i64 0), .sc (.int .i64 0), .sc (.int .i64 0), .sc (.int .u32 0), .sc (.bool false), .sc (.bool false), .sc (.int .i64 0), .sc (.bool false), .row false (.rSpan []), .sc (.int .u32 0), .sc (.int .u32 0), .sc (.bool false)]),
  o1 11 (.alloc 220 [.sc (.int .i64 0), .sc (.int .i64 0), .sc (.int .u32 0), .sc (.int .u32 0), .sc (.int .i64 0), .sc (.int .i64 0), .sc (.int .i64 0), .sc (.int .i64 0), .sc (.int .i64 0), .sc (.bool false), .sc (.bool false), .sc (.int .u32 0), .sc (.int .u32 0), .row false (.rBlock []), .row false (.ruint8 [])]),
  o0 (.store 204 0 15 false 10 (.s 58)),
  o0 (.store 220 0 15 false 11 (.s 59))]
def g12_10 : LS := [o1 60 (.load 204 0 15 true false 10),
  o1 61 (.load 220 0 15 true false 11),
  o0 (.store 172 0 15 false 4 (.s 60)),
  o0 (.store 188 0 15 false 5 (.s 61)),
  o1 6 (.mv false (.k (.sc (.bool true)))),
  o1 7 (.mv false (.k (.sc (.int .i64 0))))]
def i12_5 : CW := .seq (.seq (.fin (.reg g12_8) [41, 42, 43, 44, 45, 46, 47, 48, 49, 50, 51, 52, 53] []) (.fin (.cond (.s 54) (.seq (.fin (.reg g12_9) [2, 3, 9, 54, 55, 56, 57, 58, 59] [(140, 15), (156, 15)]) (.seq (.fin (.reg g12_10) [10, 11, 60, 61] [(204, 15), (220, 15)]) (.wk [6, 7] (.ret)))) (.skip)) [54] [])) i12_4
def g12_0 : LS := [o1 2 (.box 140 15 true (.s 0)),
  o1 3 (.box 156 15 false (.s 1)),
  o1 4 (.alloc 172 [.sc (.int .i64 0), .row false (.ruint8 []), .row false (.rPiece []), .sc (.int .i64 0), .sc (.int .i64 0), .sc (.int .i64 0), .sc (.int .u32 0), .sc (.bool false), .sc (.bool false), .sc (.int .i64 0), .sc (.bool false), .row false (.rSpan []), .sc (.int .u32 0), .sc (.int .u32 0), .sc (.bool false)]),
  o1 5 (.alloc 188 [.sc (.int .i64 0), .sc (.int .i64 0), .sc (.int .u32 0), .sc (.int .u32 0), .sc (.int .i64 0), .sc (.int .i64 0), .sc (.int .i64 0), .sc (.int .i64 0), .sc (.int .i64 0), .sc (.bool false), .sc (.bool false), .sc (.int .u32 0), .sc (.int .u32 0), .row false (.rBlock []), .row false (.ruint8 [])]),
  o1 6 (.mv false (.k (.sc (.bool false)))),
  o1 7 (.mv false (.k (.sc (.int .i64 0))))]
def g12_1 : LS := [o1 15 (.load 140 0 15 true false 2),
  o1 16 (.call 10 [(false, .s 15)] [] []),
  o1 8 (.mv false (.s 16))]
def g12_2 : LS := [o1 17 (.mv false (.s 8)),
  o1 18 (.bin .neq (.s 17) (.k (.sc (.int .i64 0))))]
def g12_3 : LS := [o1 19 (.build [.sc (.int .i64 0), .row false (.ruint8 []), .row false (.rPiece []), .sc (.int .i64 0), .sc (.int .i64 0), .sc (.int .i64 0), .sc (.int .u32 0), .sc (.bool false), .sc (.bool false), .sc (.int .i64 0), .sc (.bool false), .row false (.rSpan []), .sc (.int .u32 0), .sc (.int .u32 0), .sc (.bool false)] []),
  o1 20 (.build [.sc (.int .i64 0), .sc (.int .i64 0), .sc (.int .u32 0), .sc (.int .u32 0), .sc (.int .i64 0), .sc (.int .i64 0), .sc (.int .i64 0), .sc (.int .i64 0), .sc (.int .i64 0), .sc (.bool false), .sc (.bool false), .sc (.int .u32 0), .sc (.int .u32 0), .row false (.rBlock []), .row false (.ruint8 [])] []),
  o1 21 (.mv false (.s 8)),
  o0 (.store 172 0 15 false 4 (.s 19)),
  o0 (.store 188 0 15 false 5 (.s 20)),
  o1 6 (.mv false (.k (.sc (.bool false)))),
  o1 7 (.mv false (.s 21))]
def g12_4 : LS := [o1 22 (.load 140 0 15 true false 2),
  o1 23 (.call 29 [(false, .s 22)] [] []),
  o0 (.store 140 0 15 true 2 (.s 23))]
def g12_5 : LS := [o1 24 (.fld 7 (.s 2)),
  o1 25 (.load 140 7 1 false false 24),
  o2 26 (.mv false (.s 25)),
  o3 27 26 true (.fld 10 (.s 3)),
  o3 28 26 true (.load 156 10 1 false false 27),
  o3 29 26 true (.un .not (.s 28)),
  o1 30 (.pick (.s 26) (.s 29) (.k (.sc (.bool false))))]
def g12_6 : LS := [o1 31 (.load 140 0 15 true false 2),
  o1 32 (.build [.sc (.int .i64 0), .sc (.int .i64 0), .sc (.int .u32 0), .sc (.int .u32 0), .sc (.int .i64 0), .sc (.int .i64 0), .sc (.int .i64 0), .sc (.int .i64 0), .sc (.int .i64 0), .sc (.bool false), .sc (.bool false), .sc (.int .u32 0), .sc (.int .u32 0), .row false (.rBlock []), .row false (.ruint8 [])] []),
  o0 (.store 172 0 15 false 4 (.s 31)),
  o0 (.store 188 0 15 false 5 (.s 32)),
  o1 6 (.mv false (.k (.sc (.bool false)))),
  o1 7 (.mv false (.k (.sc (.int .i64 0))))]
def g12_7 : LS := [o1 33 (.fld 0 (.s 2)),
  o1 34 (.load 140 0 1 false false 33),
  o1 35 (.fld 2 (.s 3)),
  o1 36 (.load 156 2 1 false false 35),
  o1 37 (.fld 12 (.s 2)),
  o1 38 (.load 140 12 1 false false 37),
  o1 39 (.bin .sub (.s 36) (.s 38)),
  o1 40 (.call 30 [(false, .s 34), (false, .s 39)] [] []),
  o1 9 (.mv false (.s 40))]
def i12_6 : CW := .seq (.fin (.reg g12_0) [0, 1, 6, 7] []) (.seq (.seq (.fin (.reg g12_1) [15, 16] []) (.seq (.fin (.reg g12_2) [17] []) (.fin (.cond (.s 18) (.seq (.fin (.reg g12_3) [2, 3, 8, 18, 19, 20, 21] [(140, 15), (156, 15)]) (.wk [6, 7] (.ret))) (.skip)) [8, 18] []))) (.seq (.fin (.reg g12_4) [22, 23] []) (.seq (.seq (.fin (.reg g12_5) [24, 25, 26, 27, 28, 29] []) (.fin (.cond (.s 30) (.seq (.fin (.reg g12_6) [2, 3, 30, 31, 32] [(140, 15), (156, 15)]) (.wk [6, 7] (.ret))) (.skip)) [30] [])) (.seq (.fin (.reg g12_7) [33, 34, 35, 36, 37, 38, 39, 40] []) i12_5))))
def fn12 : IFn2 RW := ⟨12, 2, 140, 256, [(140, 15), (156, 15), (172, 15), (188, 15), (204, 15), (220, 15), (236, 15)], [], [], [.cell 4 172 15 true, .cell 5 188 15 true, .slot 6, .slot 7], i12_6⟩
def g17_0 : LS := [o1 12 (.alloc 41 [.sc (.int .i64 0), .row false (.ruint8 []), .row false (.rPiece []), .sc (.int .i64 0), .sc (.int .i64 0), .sc (.int .i64 0), .sc (.int .u32 0), .sc (.bool false), .sc (.bool false), .sc (.int .i64 0), .sc (.bool false), .row false (.rSpan []), .sc (.int .u32 0), .sc (.int .u32 0), .sc (.bool false)]),
  o1 13 (.mv false (.k (.sc (.int .i64 0))))]
def g17_1 : LS := [o1 15 (.mv false (.s 0)),
  o1 16 (.bin .lss (.s 15) (.k (.sc (.int .i64 1)))),
  o2 17 (.mv false (.s 16)),
  o3 18 17 false (.mv false (.s 0)),
  o3 19 17 false (.bin .gtr (.s 18) (.k (.sc (.int .i64 1073741824)))),
  o1 20 (.pick (.s 17) (.k (.sc (.bool true))) (.s 19)),
  o2 21 (.mv false (.s 20)),
  o3 22 21 false (.mv false (.s 1)),
  o3 23 21 false (.bin .lss (.s 22) (.k (.sc (.int .i64 0)))),
  o1 24 (.pick (.s 21) (.k (.sc (.bool true))) (.s 23)),
  o2 25 (.mv false (.s 24)),
  o3 26 25 false (.mv false (.s 1)),
  o3 27 25 false (.bin .gtr (.s 26) (.k (.sc (.int .i64 14)))),
  o1 28 (.pick (.s 25) (.k (.sc (.bool true))) (.s 27))]
def g17_2 : LS := [o1 29 (.build [.sc (.int .i64 0), .row false (.ruint8 []), .row false (.rPiece []), .sc (.int .i64 0), .sc (.int .i64 0), .sc (.int .i64 0), .sc (.int .u32 0), .sc (.bool false), .sc (.bool false), .sc (.int .i64 0), .sc (.bool false), .row false (.rSpan []), .sc (.int .u32 0), .sc (.int .u32 0), .sc (.bool false)] []),
  o0 (.store 41 0 15 false 12 (.s 29)),
  o1 13 (.mv false (.k (.sc (.int .i64 2))))]
def g17_3 : LS := [o1 30 (.mv false (.s 0)),
  o1 31 (.mv false (.s 1)),
  o1 32 (.mv false (.s 2)),
  o1 33 (.mv false (.s 3)),
  o1 34 (.mv false (.s 4)),
  o1 35 (.mv false (.s 5)),
  o1 36 (.build [.sc (.int .i64 0), .row false (.ruint8 []), .row false (.rPiece []), .sc (.int .i64 0), .sc (.int .i64 0), .sc (.int .i64 0), .sc (.int .u32 0), .sc (.bool false), .sc (.bool false), .sc (.int .i64 0), .sc (.bool false), .row false (.rSpan []), .sc (.int .u32 0), .sc (.int .u32 0), .sc (.bool false)] [(3, 1, .s 30), (4, 1, .s 31), (9, 1, .k (.sc (.int .i64 (-1)))), (12, 1, .s 32), (13, 1, .s 33), (7, 1, .s 34), (8, 1, .s 35)]),
  o1 14 (.alloc 57 [.sc (.int .i64 0), .row false (.ruint8 []), .row false (.rPiece []), .sc (.int .i64 0), .sc (.int .i64 0), .sc (.int .i64 0), .sc (.int .u32 0), .sc (.bool false), .sc (.bool false), .sc (.int .i64 0), .sc (.bool false), .row false (.rSpan []), .sc (.int .u32 0), .sc (.int .u32 0), .sc (.bool false)]),
  o0 (.store 57 0 15 false 14 (.s 36))]
def g17_4 : LS := [o1 37 (.load 57 0 15 true false 14),
  o1 38 (.call 49 [(false, .s 37)] [] []),
  o1 39 (.fld 5 (.s 14)),
  o0 (.store 57 5 1 false 39 (.s 38))]
def g17_5 : LS := [o1 40 (.load 57 0 15 true false 14),
  o0 (.store 41 0 15 false 12 (.s 40)),
  o1 13 (.mv false (.k (.sc (.int .i64 0))))]
def i17_0 : CW := .seq (.fin (.reg g17_0) [13] []) (.seq (.seq (.fin (.reg g17_1) [15, 16, 17, 18, 19, 20, 21, 22, 23, 24, 25, 26, 27] []) (.fin (.cond (.s 28) (.seq (.fin (.reg g17_2) [0, 1, 2, 3, 4, 5, 28, 29] []) (.ret)) (.skip)) [28] [])) (.seq (.fin (.reg g17_3) [0, 1, 2, 3, 4, 5, 30, 31, 32, 33, 34, 35, 36] []) (.seq (.fin (.reg g17_4) [37, 38, 39] []) (.seq (.fin (.reg g17_5) [14, 40] [(57, 15)]) (.ret)))))
def fn17 : IFn2 RW := ⟨17, 6, 41, 80, [(41, 15), (57, 15)], [], [], [.cell 12 41 15 true, .slot 13], i17_0⟩
def g51_0 : LS := [o1 6 (.mv false (.k (.sc (.int .i64 0))))]
def g51_1 : LS := [o1 7 (.mv false (.s 1)),
  o1 8 (.mv false (.s 0)),
  o1 9 (.mv false (.s 2)),
  o1 10 (.mnmx false [.s 8, .s 9]),
  o1 11 (.mnmx true [.s 7, .s 10]),
  o1 6 (.mv false (.s 11))]
def i51_0 : CW := .seq (.fin (.reg g51_0) [6] []) (.seq (.fin (.reg g51_1) [0, 1, 2, 7, 8, 9, 10, 11] []) (.ret))
def fn51 : IFn2 RW := ⟨51, 3, 12, 16, [], [], [], [.slot 6], i51_0⟩
def g20_8 : LS := [o1 36 (.fld 0 (.s 2)),
  o1 37 (.load 60 0 1 false false 36),
  o1 38 (.load 60 0 15 true false 2),
  o1 39 (.call 49 [(false, .s 38)] [] []),
  o1 40 (.bin .add (.s 37) (.s 39)),
  o1 41 (.fld 5 (.s 2)),
  o1 42 (.load 60 5 1 false false 41),
  o1 43 (.bin .sub (.s 40) (.s 42)),
  o1 44 (.fld 3 (.s 2)),
  o1 45 (.load 60 3 1 false false 44),
  o1 46 (.bin .quo (.s 45) (.k (.sc (.int .i64 2)))),
  o1 47 (.mnmx true [.s 46, .k (.sc (.int .i64 1))]),
  o1 48 (.bin .lss (.s 43) (.s 47))]
def g20_9 : LS := [o1 49 (.load 60 0 15 true false 2),
  o1 50 (.mv false (.s 10)),
  o1 51 (.build [.sc (.int .i64 0), .sc (.int .i64 0), .sc (.int .u32 0), .sc (.int .u32 0), .sc (.int .i64 0), .sc (.int .i64 0), .sc (.int .i64 0), .sc (.int .i64 0), .sc (.int .i64 0), .sc (.bool false), .sc (.bool false), .sc (.int .u32 0), .sc (.int .u32 0), .row false (.rBlock []), .row false (.ruint8 [])] []),
  o0 (.store 76 0 15 false 4 (.s 49)),
  o1 5 (.mv false (.s 50)),
  o0 (.store 92 0 15 false 6 (.s 51)),
  o1 7 (.mv false (.k (.sc (.bool false)))),
  o1 8 (.mv false (.k (.sc (.int .i64 0))))]
def g20_10 : LS := [o1 53 (.load 60 0 15 true false 2),
  o1 54 (.call 32 [(false, .s 53), (true, .k (.row true (.rBlock [])))] [] []),
  o1 52 (.mv false (.s 54)),
  o1 55 (.ext false 0 (.s 52)),
  o1 56 (.ext false 1 (.s 52)),
  o1 11 (.alloc 108 [.sc (.int .i64 0), .sc (.int .i64 0), .sc (.int .u32 0), .sc (.int .u32 0), .sc (.int .i64 0), .sc (.int .i64 0), .sc (.int .i64 0), .sc (.int .i64 0), .sc (.int .i64 0), .sc (.bool false), .sc (.bool false), .sc (.int .u32 0), .sc (.int .u32 0), .row false (.rBlock []), .row false (.ruint8 [])]),
  o0 (.store 60 0 15 false 2 (.s 55)),
  o0 (.store 108 0 15 false 11 (.s 56))]
def g20_11 : LS := [o1 57 (.load 60 0 15 true false 2),
  o1 58 (.mv false (.s 10)),
  o1 59 (.load 108 0 15 true false 11),
  o0 (.store 76 0 15 false 4 (.s 57)),
  o1 5 (.mv false (.s 58)),
  o0 (.store 92 0 15 false 6 (.s 59)),
  o1 7 (.mv false (.k (.sc (.bool true)))),
  o1 8 (.mv false (.k (.sc (.int .i64 0))))]
def i20_0 : CW := .seq (.seq (.fin (.reg g20_8) [36, 37, 38, 39, 40, 41, 42, 43, 44, 45, 46, 47] []) (.fin (.cond (.s 48) (.seq (.fin (.reg g20_9) [2, 10, 48, 49, 50, 51] [(60, 15)]) (.wk [5, 7, 8] (.ret))) (.skip)) [48] [])) (.seq (.fin (.reg g20_10) [52, 53, 54, 55, 56] []) (.seq (.fin (.reg g20_11) [2, 10, 11, 57, 58, 59] [(60, 15), (108, 15)]) (.wk [5, 7, 8] (.ret))))
def g20_0 : LS := [o1 2 (.box 60 15 false (.s 0)),
  o1 4 (.alloc 76 [.sc (.int .i64 0), .row false (.ruint8 []), .row false (.rPiece []), .sc (.int .i64 0), .sc (.int .i64 0), .sc (.int .i64 0), .sc (.int .u32 0), .sc (.bool false), .sc (.bool false), .sc (.int .i64 0), .sc (.bool false), .row false (.rSpan []), .sc (.int .u32 0), .sc (.int .u32 0), .sc (.bool false)]),
  o1 5 (.mv false (.k (.row false (.ruint8 [])))),
  o1 6 (.alloc 92 [.sc (.int .i64 0), .sc (.int .i64 0), .sc (.int .u32 0), .sc (.int .u32 0), .sc (.int .i64 0), .sc (.int .i64 0), .sc (.int .i64 0), .sc (.int .i64 0), .sc (.int .i64 0), .sc (.bool false), .sc (.bool false), .sc (.int .u32 0), .sc (.int .u32 0), .row false (.rBlock []), .row false (.ruint8 [])]),
  o1 7 (.mv false (.k (.sc (.bool false)))),
  o1 8 (.mv false (.k (.sc (.int .i64 0))))]
def g20_1 : LS := [o1 12 (.load 60 0 15 true false 2),
  o1 13 (.call 10 [(false, .s 12)] [] []),
  o1 9 (.mv false (.s 13))]
def g20_2 : LS := [o1 14 (.mv false (.s 9)),
  o1 15 (.bin .neq (.s 14) (.k (.sc (.int .i64 0))))]
def g20_3 : LS := [o1 16 (.build [.sc (.int .i64 0), .row false (.ruint8 []), .row false (.rPiece []), .sc (.int .i64 0), .sc (.int .i64 0), .sc (.int .i64 0), .sc (.int .u32 0), .sc (.bool false), .sc (.bool false), .sc (.int .i64 0), .sc (.bool false), .row false (.rSpan []), .sc (.int .u32 0), .sc (.int .u32 0), .sc (.bool false)] []),
  o1 17 (.build [.sc (.int .i64 0), .sc (.int .i64 0), .sc (.int .u32 0), .sc (.int .u32 0), .sc (.int .i64 0), .sc (.int .i64 0), .sc (.int .i64 0), .sc (.int .i64 0), .sc (.int .i64 0), .sc (.bool false), .sc (.bool false), .sc (.int .u32 0), .sc (.int .u32 0), .row false (.rBlock []), .row false (.ruint8 [])] []),
  o1 18 (.mv false (.s 9)),
  o0 (.store 76 0 15 false 4 (.s 16)),
  o1 5 (.mv false (.k (.row false (.ruint8 [])))),
  o0 (.store 92 0 15 false 6 (.s 17)),
  o1 7 (.mv false (.k (.sc (.bool false)))),
  o1 8 (.mv false (.s 18))]
def g20_4 : LS := [o1 19 (.load 60 0 15 true false 2),
  o1 20 (.call 29 [(false, .s 19)] [] []),
  o0 (.store 60 0 15 false 2 (.s 20))]
def g20_5 : LS := [o1 21 (.mv false (.s 1)),
  o1 22 (.fld 1 (.s 2)),
  o1 23 (.load 60 1 1 false false 22),
  o1 24 (.len false (.s 23)),
  o1 25 (.call 51 [(false, .s 21), (false, .k (.sc (.int .i64 0))), (false, .s 24)] [] []),
  o1 1 (.mv false (.s 25))]
def g20_6 : LS := [o1 26 (.fld 1 (.s 2)),
  o1 27 (.load 60 1 1 false false 26),
  o1 28 (.mv false (.s 1)),
  o1 29 (.slice 1 (.s 27) none (some (.s 28)) none),
  o1 30 (.call 52 [(false, .s 29)] [] []),
  o1 10 (.mv false (.s 30))]
def g20_7 : LS := [o1 31 (.fld 1 (.s 2)),
  o1 32 (.load 60 1 1 false false 31),
  o1 33 (.mv false (.s 1)),
  o1 34 (.slice 1 (.s 32) (some (.s 33)) none none),
  o1 35 (.fld 1 (.s 2)),
  o0 (.store 60 1 1 false 35 (.s 34))]
def i20_1 : CW := .seq (.fin (.reg g20_0) [0, 5, 7, 8] []) (.seq (.seq (.fin (.reg g20_1) [12, 13] []) (.seq (.fin (.reg g20_2) [14] []) (.fin (.cond (.s 15) (.seq (.fin (.reg g20_3) [1, 2, 9, 15, 16, 17, 18] [(60, 15)]) (.wk [5, 7, 8] (.ret))) (.skip)) [9, 15] []))) (.seq (.fin (.reg g20_4) [19, 20] []) (.seq (.fin (.reg g20_5) [21, 22, 23, 24, 25] []) (.seq (.fin (.reg g20_6) [26, 27, 28, 29, 30] []) (.seq (.fin (.reg g20_7) [1, 31, 32, 33, 34, 35] []) i20_0)))))
def fn20 : IFn2 RW := ⟨20, 2, 60, 128, [(60, 15), (76, 15), (92, 15), (108, 15)], [], [], [.cell 4 76 15 true, .slot 5, .cell 6 92 15 true, .slot 7, .slot 8], i20_1⟩
def g22_0 : LS := [o1 1 (.box 8 15 false (.s 0)),
  o1 2 (.mv false (.k (.sc (.int .i64 0))))]
def g22_1 : LS := [o1 3 (.load 8 0 15 true false 1),
  o1 4 (.call 10 [(false, .s 3)] [] []),
  o1 5 (.bin .neq (.s 4) (.k (.sc (.int .i64 0))))]
def g22_2 : LS := [o1 2 (.mv false (.k (.sc (.int .i64 0))))]
def g22_3 : LS := [o1 6 (.load 8 0 15 true false 1),
  o1 7 (.call 49 [(false, .s 6)] [] []),
  o1 2 (.mv false (.s 7))]
def i22_0 : CW := .seq (.fin (.reg g22_0) [0, 2] []) (.seq (.seq (.fin (.reg g22_1) [3, 4] []) (.fin (.cond (.s 5) (.seq (.fin (.reg g22_2) [1, 5] [(8, 15)]) (.ret)) (.skip)) [5] [])) (.seq (.fin (.reg g22_3) [1, 6, 7] [(8, 15)]) (.ret)))
def fn22 : IFn2 RW := ⟨22, 1, 8, 32, [(8, 15)], [], [], [.slot 2], i22_0⟩
def g11_5 : LS := [o1 51 (.call 17 [(false, .k (.sc (.int .i64 0))), (false, .k (.sc (.int .i64 0))), (false, .k (.sc (.int .u32 0))), (false, .k (.sc (.int .u32 0))), (false, .k (.sc (.bool false))), (false, .k (.sc (.bool false)))] [] []),
  o1 50 (.mv false (.s 51)),
  o1 52 (.ext false 0 (.s 50)),
  o1 53 (.ext false 1 (.s 50)),
  o1 16 (.alloc 236 [.sc (.int .i64 0), .row false (.ruint8 []), .row false (.rPiece []), .sc (.int .i64 0), .sc (.int .i64 0), .sc (.int .i64 0), .sc (.int .u32 0), .sc (.bool false), .sc (.bool false), .sc (.int .i64 0), .sc (.bool false), .row false (.rSpan []), .sc (.int .u32 0), .sc (.int .u32 0), .sc (.bool false)]),
  o0 (.store 236 0 15 false 16 (.s 52)),
  o1 17 (.mv false (.s 53))]
def g11_6 : LS := [o1 54 (.mv false (.s 2)),
  o1 55 (.bin .neq (.s 54) (.k (.sc (.int .i64 0)))),
  o2 56 (.mv false (.s 55)),
  o3 57 56 false (.mv false (.s 6)),
  o3 58 56 false (.bin .neq (.s 57) (.k (.sc (.int .i64 0)))),
  o1 59 (.pick (.s 56) (.k (.sc (.bool true))) (.s 58)),
  o2 60 (.mv false (.s 59)),
  o3 61 60 false (.mv false (.s 10)),
  o3 62 60 false (.bin .neq (.s 61) (.k (.sc (.int .i64 0)))),
  o1 63 (.pick (.s 60) (.k (.sc (.bool true))) (.s 62)),
  o2 64 (.mv false (.s 63)),
  o3 65 64 false (.mv false (.s 15)),
  o3 66 64 false (.bin .neq (.s 65) (.k (.sc (.int .i64 0)))),
  o1 67 (.pick (.s 64) (.k (.sc (.bool true))) (.s 66)),
  o2 68 (.mv false (.s 67)),
  o3 69 68 false (.mv false (.s 5)),
  o3 70 68 false (.un .not (.s 69)),
  o1 71 (.pick (.s 68) (.k (.sc (.bool true))) (.s 70)),
  o2 72 (.mv false (.s 71)),
  o3 73 72 false (.mv false (.s 9)),
  o3 74 72 false (.un .not (.s 73)),
  o1 75 (.pick (.s 72) (.k (.sc (.bool true))) (.s 74)),
  o2 76 (.mv false (.s 75)),
  o3 77 76 false (.mv false (.s 17)),
  o3 78 76 false (.bin .neq (.s 77) (.k (.sc (.int .i64 2)))),
  o1 79 (.pick (.s 76) (.k (.sc (.bool true))) (.s 78))]
def g11_7 : LS := [o1 0 (.mv false (.k (.sc (.bool false))))]
def g11_8 : LS := [o1 80 (.fld 3 (.s 4)),
  o1 81 (.load 156 3 1 false false 80),
  o1 82 (.bin .eql (.s 81) (.k (.sc (.int .u32 100)))),
  o2 83 (.mv false (.s 82)),
  o3 84 83 true (.fld 13 (.s 4)),
  o3 85 83 true (.load 156 13 1 false false 84),
  o3 86 83 true (.len false (.s 85)),
  o3 87 83 true (.bin .eql (.s 86) (.k (.sc (.int .i64 1)))),
  o1 88 (.pick (.s 83) (.s 87) (.k (.sc (.bool false)))),
  o2 89 (.mv false (.s 88)),
  o3 90 89 true (.fld 13 (.s 4)),
  o3 91 89 true (.load 156 13 1 false false 90),
  o3 92 89 true (.idx 2 (.s 91) (.k (.sc (.int .i64 0)))),
  o3 93 89 true (.loade 2 true 92),
  o3 94 89 true (.build [.sc (.int .u32 0), .sc (.int .u32 0)] [(0, 1, .k (.sc (.int .u32 102))), (1, 1, .k (.sc (.int .u32 104)))]),
  o3 95 89 true (.eqs [true, true] false (.s 93) (.s 94)),
  o1 96 (.pick (.s 89) (.s 95) (.k (.sc (.bool false)))),
  o2 97 (.mv false (.s 96)),
  o3 98 97 true (.fld 3 (.s 8)),
  o3 99 97 true (.load 188 3 1 false false 98),
  o3 100 97 true (.bin .eql (.s 99) (.k (.sc (.int .u32 104)))),
  o1 101 (.pick (.s 97) (.s 100) (.k (.sc (.bool false)))),
  o2 102 (.mv false (.s 101)),
  o3 103 102 true (.fld 1 (.s 7)),
  o3 104 102 true (.load 172 1 1 false false 103),
  o3 105 102 true (.cstr (.s 104)),
  o3 106 102 true (.eqt false (.s 105) (.k (.sc (.string str_abcd)))),
  o1 107 (.pick (.s 102) (.s 106) (.k (.sc (.bool false)))),
  o2 108 (.mv false (.s 107)),
  o3 109 108 true (.mv false (.s 12)),
  o3 110 108 true (.cstr (.s 109)),
  o3 111 108 true (.eqt false (.s 110) (.k (.sc (.string str_abc)))),
  o1 112 (.pick (.s 108) (.s 111) (.k (.sc (.bool false)))),
  o2 113 (.mv false (.s 112)),
  o3 114 113 true (.fld 1 (.s 11)),
  o3 115 113 true (.load 204 1 1 false false 114),
  o3 116 113 true (.cstr (.s 115)),
  o3 117 113 true (.eqt false (.s 116) (.k (.sc (.string str_d)))),
  o1 118 (.pick (.s 113) (.s 117) (.k (.sc (.bool false)))),
  o2 119 (.mv false (.s 118)),
  o3 120 119 true (.load 124 0 15 true false 1),
  o3 121 119 true (.call 22 [(false, .s 120)] [] []),
  o3 122 119 true (.bin .eql (.s 121) (.k (.sc (.int .i64 10)))),
  o1 123 (.pick (.s 119) (.s 122) (.k (.sc (.bool false)))),
  o1 0 (.mv false (.s 123))]
def i11_0 : CW := .seq (.fin (.reg g11_5) [16, 50, 51, 52, 53] [(236, 15)]) (.seq (.seq (.fin (.reg g11_6) [2, 5, 6, 9, 10, 15, 17, 54, 55, 56, 57, 58, 59, 60, 61, 62, 63, 64, 65, 66, 67, 68, 69, 70, 71, 72, 73, 74, 75, 76, 77, 78] []) (.fin (.cond (.s 79) (.seq (.fin (.reg g11_7) [1, 4, 7, 8, 11, 12, 79] [(124, 15), (156, 15), (172, 15), (188, 15), (204, 15)]) (.ret)) (.skip)) [79] [])) (.seq (.fin (.reg g11_8) [1, 4, 7, 8, 11, 12, 80, 81, 82, 83, 84, 85, 86, 87, 88, 89, 90, 91, 92, 93, 94, 95, 96, 97, 98, 99, 100, 101, 102, 103, 104, 105, 106, 107, 108, 109, 110, 111, 112, 113, 114, 115, 116, 117, 118, 119, 120, 121, 122, 123] [(124, 15), (156, 15), (172, 15), (188, 15), (204, 15)]) (.ret)))
def g11_0 : LS := [o1 0 (.mv false (.k (.sc (.bool false))))]
def g11_1 : LS := [o1 19 (.call 17 [(false, .k (.sc (.int .i64 10))), (false, .k (.sc (.int .i64 0))), (false, .k (.sc (.int .u32 100))), (false, .k (.sc (.int .u32 7))), (false, .k (.sc (.bool false))), (false, .k (.sc (.bool true)))] [] []),
  o1 18 (.mv false (.s 19)),
  o1 20 (.ext false 0 (.s 18)),
  o1 21 (.ext false 1 (.s 18)),
  o1 1 (.alloc 124 [.sc (.int .i64 0), .row false (.ruint8 []), .row false (.rPiece []), .sc (.int .i64 0), .sc (.int .i64 0), .sc (.int .i64 0), .sc (.int .u32 0), .sc (.bool false), .sc (.bool false), .sc (.int .i64 0), .sc (.bool false), .row false (.rSpan []), .sc (.int .u32 0), .sc (.int .u32 0), .sc (.bool false)]),
  o0 (.store 124 0 15 false 1 (.s 20)),
  o1 2 (.mv false (.s 21))]
def g11_2 : LS := [o1 23 (.load 124 0 15 true false 1),
  o1 24 (.ubs 5 2 [(0, 1, .k (.sc (.int .u8 99))), (1, 1, .k (.sc (.int .u8 100)))]),
  o1 25 (.uconv (.s 24)),
  o1 26 (.build [.sc (.int .i64 0), .sc (.int .i64 0), .sc (.int .u32 0), .sc (.int .u32 0), .sc (.int .i64 0), .sc (.int .i64 0), .sc (.int .i64 0), .sc (.int .i64 0), .sc (.int .i64 0), .sc (.bool false), .sc (.bool false), .sc (.int .u32 0), .sc (.int .u32 0), .row false (.rBlock []), .row false (.ruint8 [])] [(2, 1, .k (.sc (.int .u32 102))), (14, 1, .s 25)]),
  o1 27 (.call 12 [(false, .s 23), (false, .s 26)] [] []),
  o1 22 (.mv false (.s 27)),
  o1 28 (.ext false 0 (.s 22)),
  o1 29 (.ext false 1 (.s 22)),
  o1 30 (.ext false 2 (.s 22)),
  o1 31 (.ext false 3 (.s 22)),
  o1 3 (.alloc 140 [.sc (.int .i64 0), .row false (.ruint8 []), .row false (.rPiece []), .sc (.int .i64 0), .sc (.int .i64 0), .sc (.int .i64 0), .sc (.int .u32 0), .sc (.bool false), .sc (.bool false), .sc (.int .i64 0), .sc (.bool false), .row false (.rSpan []), .sc (.int .u32 0), .sc (.int .u32 0), .sc (.bool false)]),
  o1 4 (.alloc 156 [.sc (.int .i64 0), .sc (.int .i64 0), .sc (.int .u32 0), .sc (.int .u32 0), .sc (.int .i64 0), .sc (.int .i64 0), .sc (.int .i64 0), .sc (.int .i64 0), .sc (.int .i64 0), .sc (.bool false), .sc (.bool false), .sc (.int .u32 0), .sc (.int .u32 0), .row false (.rBlock []), .row false (.ruint8 [])]),
  o0 (.store 140 0 15 false 3 (.s 28)),
  o0 (.store 156 0 15 false 4 (.s 29)),
  o1 5 (.mv false (.s 30)),
  o1 6 (.mv false (.s 31))]
def g11_3 : LS := [o1 33 (.load 140 0 15 true false 3),
  o1 34 (.ubs 5 2 [(0, 1, .k (.sc (.int .u8 97))), (1, 1, .k (.sc (.int .u8 98)))]),
  o1 35 (.uconv (.s 34)),
  o1 36 (.build [.sc (.int .i64 0), .sc (.int .i64 0), .sc (.int .u32 0), .sc (.int .u32 0), .sc (.int .i64 0), .sc (.int .i64 0), .sc (.int .i64 0), .sc (.int .i64 0), .sc (.int .i64 0), .sc (.bool false), .sc (.bool false), .sc (.int .u32 0), .sc (.int .u32 0), .row false (.rBlock []), .row false (.ruint8 [])] [(2, 1, .k (.sc (.int .u32 100))), (14, 1, .s 35)]),
  o1 37 (.call 12 [(false, .s 33), (false, .s 36)] [] []),
  o1 32 (.mv false (.s 37)),
  o1 38 (.ext false 0 (.s 32)),
  o1 39 (.ext false 1 (.s 32)),
  o1 40 (.ext false 2 (.s 32)),
  o1 41 (.ext false 3 (.s 32)),
  o1 7 (.alloc 172 [.sc (.int .i64 0), .row false (.ruint8 []), .row false (.rPiece []), .sc (.int .i64 0), .sc (.int .i64 0), .sc (.int .i64 0), .sc (.int .u32 0), .sc (.bool false), .sc (.bool false), .sc (.int .i64 0), .sc (.bool false), .row false (.rSpan []), .sc (.int .u32 0), .sc (.int .u32 0), .sc (.bool false)]),
  o1 8 (.alloc 188 [.sc (.int .i64 0), .sc (.int .i64 0), .sc (.int .u32 0), .sc (.int .u32 0), .sc (.int .i64 0), .sc (.int .i64 0), .sc (.int .i64 0), .sc (.int .i64 0), .sc (.int .i64 0), .sc (.bool false), .sc (.bool false), .sc (.int .u32 0), .sc (.int .u32 0), .row false (.rBlock []), .row false (.ruint8 [])]),
  o0 (.store 172 0 15 false 7 (.s 38)),
  o0 (.store 188 0 15 false 8 (.s 39)),
  o1 9 (.mv false (.s 40)),
  o1 10 (.mv false (.s 41))]
def g11_4 : LS := [o1 43 (.load 172 0 15 true false 7),
  o1 44 (.call 20 [(false, .s 43), (false, .k (.sc (.int .i64 3)))] [] []),
  o1 42 (.mv false (.s 44)),
  o1 45 (.ext false 0 (.s 42)),
  o1 46 (.ext false 1 (.s 42)),
  o1 47 (.ext false 2 (.s 42)),
  o1 48 (.ext false 3 (.s 42)),
  o1 49 (.ext false 4 (.s 42)),
  o1 11 (.alloc 204 [.sc (.int .i64 0), .row false (.ruint8 []), .row false (.rPiece []), .sc (.int .i64 0), .sc (.int .i64 0), .sc (.int .i64 0), .sc (.int .u32 0), .sc (.bool false), .sc (.bool false), .sc (.int .i64 0), .sc (.bool false), .row false (.rSpan []), .sc (.int .u32 0), .sc (.int .u32 0), .sc (.bool false)]),
  o1 13 (.alloc 220 [.sc (.int .i64 0), .sc (.int .i64 0), .sc (.int .u32 0), .sc (.int .u32 0), .sc (.int .i64 0), .sc (.int .i64 0), .sc (.int .i64 0), .sc (.int .i64 0), .sc (.int .i64 0), .sc (.bool false), .sc (.bool false), .sc (.int .u32 0), .sc (.int .u32 0), .row false (.rBlock []), .row false (.ruint8 [])]),
  o0 (.store 204 0 15 false 11 (.s 45)),
  o1 12 (.mv false (.s 46)),
  o0 (.store 220 0 15 false 13 (.s 47)),
  o1 14 (.mv false (.s 48)),
  o1 15 (.mv false (.s 49))]
def i11_1 : CW := .seq (.fin (.reg g11_0) [0] []) (.seq (.fin (.reg g11_1) [18, 19, 20, 21] []) (.seq (.fin (.reg g11_2) [22, 23, 24, 25, 26, 27, 28, 29, 30, 31] []) (.seq (.fin (.reg g11_3) [3, 32, 33, 34, 35, 36, 37, 38, 39, 40, 41] [(140, 15)]) (.seq (.fin (.reg g11_4) [13, 14, 42, 43, 44, 45, 46, 47, 48, 49] [(220, 15)]) i11_0))))
def fn11 : IFn2 RW := ⟨11, 0, 124, 256, [(124, 15), (140, 15), (156, 15), (172, 15), (188, 15), (204, 15), (220, 15), (236, 15)], [], [], [.slot 0], i11_1⟩
def g21_0 : LS := [o1 4 (.mv false (.k (.sc (.bool false))))]
def g21_1 : LS := [o1 5 (.mv false (.s 0)),
  o1 6 (.cstr (.s 5)),
  o1 7 (.mv false (.s 1)),
  o1 8 (.cstr (.s 7)),
  o1 9 (.eqt false (.s 6) (.s 8)),
  o1 4 (.mv false (.s 9))]
def i21_0 : CW := .seq (.fin (.reg g21_0) [4] []) (.seq (.fin (.reg g21_1) [0, 1, 5, 6, 7, 8, 9] []) (.ret))
def fn21 : IFn2 RW := ⟨21, 2, 10, 16, [], [], [], [.slot 4], i21_0⟩
def g7_5 : LS := [o1 38 (.mv false (.s 12)),
  o1 39 (.bin .eql (.s 38) (.k (.sc (.int .i64 0)))),
  o2 40 (.mv false (.s 39)),
  o3 41 40 true (.mv false (.s 7)),
  o3 42 40 true (.mv false (.s 11)),
  o3 43 40 true (.eqb false (.s 41) (.s 42)),
  o1 44 (.pick (.s 40) (.s 43) (.k (.sc (.bool false)))),
  o2 45 (.mv false (.s 44)),
  o3 46 45 true (.fld 0 (.s 5)),
  o3 47 45 true (.load 136 0 1 false false 46),
  o3 48 45 true (.fld 0 (.s 9)),
  o3 49 45 true (.load 168 0 1 false false 48),
  o3 50 45 true (.bin .eql (.s 47) (.s 49)),
  o1 51 (.pick (.s 45) (.s 50) (.k (.sc (.bool false)))),
  o2 52 (.mv false (.s 51)),
  o3 53 52 true (.fld 1 (.s 5)),
  o3 54 52 true (.load 136 1 1 false false 53),
  o3 55 52 true (.fld 1 (.s 9)),
  o3 56 52 true (.load 168 1 1 false false 55),
  o3 57 52 true (.call 21 [(false, .s 54), (false, .s 56)] [] []),
  o1 58 (.pick (.s 52) (.s 57) (.k (.sc (.bool false)))),
  o2 59 (.mv false (.s 58)),
  o3 60 59 true (.fld 9 (.s 5)),
  o3 61 59 true (.load 136 9 1 false false 60),
  o3 62 59 true (.fld 9 (.s 9)),
  o3 63 59 true (.load 168 9 1 false false 62),
  o3 64 59 true (.bin .eql (.s 61) (.s 63)),
  o1 65 (.pick (.s 59) (.s 64) (.k (.sc (.bool false)))),
  o2 66 (.mv false (.s 65)),
  o3 67 66 true (.fld 10 (.s 5)),
  o3 68 66 true (.load 136 10 1 false false 67),
  o3 69 66 true (.fld 10 (.s 9)),
  o3 70 66 true (.load 168 10 1 false false 69),
  o3 71 66 true (.eqb false (.s 68) (.s 70)),
  o1 72 (.pick (.s 66) (.s 71) (.k (.sc (.bool false)))),
  o2 73 (.mv false (.s 72)),
  o3 74 73 true (.fld 2 (.s 5)),
  o3 75 73 true (.load 136 2 1 false false 74),
  o3 76 73 true (.len false (.s 75)),
  o3 77 73 true (.fld 2 (.s 9)),
  o3 78 73 true (.load 168 2 1 false false 77),
  o3 79 73 true (.len false (.s 78)),
  o3 80 73 true (.bin .eql (.s 76) (.s 79)),
  o1 81 (.pick (.s 73) (.s 80) (.k (.sc (.bool false)))),
  o2 82 (.mv false (.s 81)),
  o3 83 82 true (.fld 0 (.s 5)),
  o3 84 82 true (.load 136 0 1 false false 83),
  o3 85 82 true (.fld 0 (.s 2)),
  o3 86 82 true (.load 104 0 1 false false 85),
  o3 87 82 true (.bin .geq (.s 84) (.s 86)),
  o1 88 (.pick (.s 82) (.s 87) (.k (.sc (.bool false)))),
  o2 89 (.mv false (.s 88)),
  o3 90 89 true (.fld 5 (.s 5)),
  o3 91 89 true (.load 136 5 1 false false 90),
  o3 92 89 true (.fld 5 (.s 2)),
  o3 93 89 true (.load 104 5 1 false false 92),
  o3 94 89 true (.bin .geq (.s 91) (.s 93)),
  o1 95 (.pick (.s 89) (.s 94) (.k (.sc (.bool false)))),
  o2 96 (.mv false (.s 95)),
  o3 97 96 true (.load 136 0 15 true false 5),
  o3 98 96 true (.call 10 [(false, .s 97)] [] []),
  o3 99 96 true (.bin .eql (.s 98) (.k (.sc (.int .i64 0)))),
  o1 100 (.pick (.s 96) (.s 99) (.k (.sc (.bool false)))),
  o2 101 (.mv false (.s 100)),
  o3 102 101 true (.call 11 [] [] []),
  o1 103 (.pick (.s 101) (.s 102) (.k (.sc (.bool false)))),
  o1 4 (.mv false (.s 103))]
def i7_0 : CW := .seq (.fin (.reg g7_5) [2, 5, 7, 9, 11, 12, 38, 39, 40, 41, 42, 43, 44, 45, 46, 47, 48, 49, 50, 51, 52, 53, 54, 55, 56, 57, 58, 59, 60, 61, 62, 63, 64, 65, 66, 67, 68, 69, 70, 71, 72, 73, 74, 75, 76, 77, 78, 79, 80, 81, 82, 83, 84, 85, 86, 87, 88, 89, 90, 91, 92, 93, 94, 95, 96, 97, 98, 99, 100, 101, 102, 103] [(104, 15), (136, 15), (168, 15)]) (.ret)
def g7_0 : LS := [o1 2 (.box 104 15 false (.s 0)),
  o1 3 (.box 120 15 false (.s 1)),
  o1 4 (.mv false (.k (.sc (.bool false))))]
def g7_1 : LS := [o1 14 (.load 104 0 15 true false 2),
  o1 15 (.load 120 0 15 true false 3),
  o1 16 (.call 12 [(false, .s 14), (false, .s 15)] [] []),
  o1 13 (.mv false (.s 16)),
  o1 17 (.ext false 0 (.s 13)),
  o1 18 (.ext false 1 (.s 13)),
  o1 19 (.ext false 2 (.s 13)),
  o1 20 (.ext false 3 (.s 13)),
  o1 5 (.alloc 136 [.sc (.int .i64 0), .row false (.ruint8 []), .row false (.rPiece []), .sc (.int .i64 0), .sc (.int .i64 0), .sc (.int .i64 0), .sc (.int .u32 0), .sc (.bool false), .sc (.bool false), .sc (.int .i64 0), .sc (.bool false), .row false (.rSpan []), .sc (.int .u32 0), .sc (.int .u32 0), .sc (.bool false)]),
  o1 6 (.alloc 152 [.sc (.int .i64 0), .sc (.int .i64 0), .sc (.int .u32 0), .sc (.int .u32 0), .sc (.int .i64 0), .sc (.int .i64 0), .sc (.int .i64 0), .sc (.int .i64 0), .sc (.int .i64 0), .sc (.bool false), .sc (.bool false), .sc (.int .u32 0), .sc (.int .u32 0), .row false (.rBlock []), .row false (.ruint8 [])]),
  o0 (.store 136 0 15 false 5 (.s 17)),
  o0 (.store 152 0 15 false 6 (.s 18)),
  o1 7 (.mv false (.s 19)),
  o1 8 (.mv false (.s 20))]
def g7_2 : LS := [o1 21 (.mv false (.s 8)),
  o1 22 (.bin .neq (.s 21) (.k (.sc (.int .i64 0)))),
  o2 23 (.mv false (.s 22)),
  o3 24 23 false (.fld 14 (.s 3)),
  o3 25 23 false (.load 120 14 1 false false 24),
  o3 26 23 false (.len false (.s 25)),
  o3 27 23 false (.bin .gtr (.s 26) (.k (.sc (.int .i64 500)))),
  o1 28 (.pick (.s 23) (.k (.sc (.bool true))) (.s 27))]
def g7_3 : LS := [o1 29 (.call 11 [] [] []),
  o1 4 (.mv false (.s 29))]
def g7_4 : LS := [o1 31 (.load 136 0 15 true false 5),
  o1 32 (.load 120 0 15 true false 3),
  o1 33 (.call 12 [(false, .s 31), (false, .s 32)] [] []),
  o1 30 (.mv false (.s 33)),
  o1 34 (.ext false 0 (.s 30)),
  o1 35 (.ext false 1 (.s 30)),
  o1 36 (.ext false 2 (.s 30)),
  o1 37 (.ext false 3 (.s 30)),
  o1 9 (.alloc 168 [.sc (.int .i64 0), .row false (.ruint8 []), .row false (.rPiece []), .sc (.int .i64 0), .sc (.int .i64 0), .sc (.int .i64 0), .sc (.int .u32 0), .sc (.bool false), .sc (.bool false), .sc (.int .i64 0), .sc (.bool false), .row false (.rSpan []), .sc (.int .u32 0), .sc (.int .u32 0), .sc (.bool false)]),
  o1 10 (.alloc 184 [.sc (.int .i64 0), .sc (.int .i64 0), .sc (.int .u32 0), .sc (.int .u32 0), .sc (.int .i64 0), .sc (.int .i64 0), .sc (.int .i64 0), .sc (.int .i64 0), .sc (.int .i64 0), .sc (.bool false), .sc (.bool false), .sc (.int .u32 0), .sc (.int .u32 0), .row false (.rBlock []), .row false (.ruint8 [])]),
  o0 (.store 168 0 15 false 9 (.s 34)),
  o0 (.store 184 0 15 false 10 (.s 35)),
  o1 11 (.mv false (.s 36)),
  o1 12 (.mv false (.s 37))]
def i7_1 : CW := .seq (.fin (.reg g7_0) [0, 1, 4] []) (.seq (.fin (.reg g7_1) [6, 13, 14, 15, 16, 17, 18, 19, 20] [(152, 15)]) (.seq (.seq (.fin (.reg g7_2) [8, 21, 22, 23, 24, 25, 26, 27] []) (.fin (.cond (.s 28) (.seq (.fin (.reg g7_3) [2, 3, 5, 7, 28, 29] [(104, 15), (120, 15), (136, 15)]) (.ret)) (.skip)) [28] [])) (.seq (.fin (.reg g7_4) [3, 10, 30, 31, 32, 33, 34, 35, 36, 37] [(120, 15), (184, 15)]) i7_0)))
def fn7 : IFn2 RW := ⟨7, 2, 104, 208, [(104, 15), (120, 15), (136, 15), (152, 15), (168, 15), (184, 15)], [], [], [.slot 4], i7_1⟩
/-! tideway/recv.reach -/
theorem run27 (cp : CP) (n : Nat) (p0 : SRecv) (k : Ret2 RW → Option R) : G27 cp (n + 1) p0 (fun r0 => k ⟨(tL r0), [], []⟩) = run2 U cp (callP cp n) n fn27 [.agg (eRecv p0)] [] k := by kernel_rfl
/-! tideway/recv.limit -/
theorem run53 (cp : CP) (n : Nat) (p0 : SRecv) (k : Ret2 RW → Option R) : G53 cp (n + 1) p0 (fun r0 => k ⟨(tL r0), [], []⟩) = run2 U cp (callP cp n) n fn53 [.agg (eRecv p0)] [] k := by kernel_rfl
/-! tideway/recv.late -/
theorem run55 (cp : CP) (n : Nat) (p0 : SRecv) (k : Ret2 RW → Option R) : G55 cp (n + 1) p0 (fun r0 => k ⟨.clo 70 [(4, 0)], [], [(eRecv r0)]⟩) = run2 U cp (callP cp n) n fn55 [.agg (eRecv p0)] [] k := by kernel_rfl
/-! tideway/recv.of -/
theorem run71 (cp : CP) (n : Nat) (p0 : SPiece) (k : Ret2 RW → Option R) : G71 cp (n + 1) p0 (fun r0 => k ⟨.agg (eSpan r0), [], []⟩) = run2 U cp (callP cp n) n fn71 [.agg (ePiece p0)] [] k := by kernel_rfl
/-! slices.AppendSeq[[]tideway/api.Span,tideway/api.Span] -/
def fr1008_2 (p0 : (List SSpan)) (q0 : SRecv) : FF := [dT 1 ((.clo 70 [(32, 0)]) :: (.ptr 48 0) :: (dT 13 [])), dc, (.hdr 15) :: (eRecv q0), (.hdr 1) :: (.row true (.rSpan p0)) :: (dT 14 [])]
def fr1008_4 (p0 : (List SSpan)) (q0 : SRecv) : FF := [dT 2 ((.ptr 48 0) :: (dT 3 ((.clo 70 [(32, 0)]) :: (dT 9 [])))), dc, (.hdr 15) :: (eRecv q0), (.hdr 1) :: (.row true (.rSpan p0)) :: (dT 14 [])]
def fr1008_6 : FF := [dT 2 ((.ptr 48 0) :: (dT 3 ((.clo 70 [(32, 0)]) :: (dT 9 [])))), dc, dc, dc]
def y1008_5 (cp : CP) (n : Nat) : List (TV RW) → FF → (FF → Option R) → Option R := rndT 2 [7] [32, 48, 53] fr1008_6 (X cp n i1008_2)
def fr1008_8 (p0 : (List SSpan)) (q0 : SRecv) (v9 : Int) : FF := [.yld :: (dT 5 ((.row false (.rPiece q0.xLate)) :: (tL v9) :: (tL 0) :: (dT 7 []))), dc, (.hdr 15) :: (eRecv q0), (.hdr 1) :: (.row true (.rSpan p0)) :: (dT 14 [])]
def fr1008_10 (q0 : SRecv) (v9 v10 : Int) (v11 : (List SSpan)) : FF := [.yld :: (dT 5 ((.row false (.rPiece q0.xLate)) :: (tL v9) :: (tL v10) :: (dT 7 []))), dc, (.hdr 15) :: (eRecv q0), (.hdr 1) :: (.row true (.rSpan v11)) :: (dT 14 [])]
def fr1008_11 (q0 : SRecv) (v11 : (List SSpan)) : FF := [dc, dc, (.hdr 15) :: (eRecv q0), (.hdr 1) :: (.row true (.rSpan v11)) :: (dT 14 [])]
def fr1008_13 (q0 : SRecv) (v9 v10 : Int) (v11 : (List SSpan)) (v12 : Int) (v13 : (List Int)) : FF := [.yld :: (dT 3 ((.ptr 53 0) :: (dT 1 ((.row false (.rPiece q0.xLate)) :: (tL v9) :: (tL v10) :: (dT 7 []))))), dc, (.hdr 15) :: (eRecv q0), (.hdr 1) :: (.row true (.rSpan v11)) :: (dT 3 ((.hdr 2) :: (tL v12) :: (.row false (.ruint8 v13)) :: (dT 8 [])))]
def fr1008_15 (q0 : SRecv) (v9 v10 : Int) (v11 : (List SSpan)) (v12 : Int) (v13 : (List Int)) (v15 v16 : Int) : FF := [.yld :: (dT 3 ((.ptr 53 0) :: (dT 1 ((.row false (.rPiece q0.xLate)) :: (tL v9) :: (tL v10) :: (dT 3 (.yld :: (.agg [(tL v12), .row false (.ruint8 v13)]) :: (.agg [(tL v15), (tL v16)]) :: (dT 1 []))))))), dc, (.hdr 15) :: (eRecv q0), (.hdr 1) :: (.row true (.rSpan v11)) :: (dT 3 ((.hdr 2) :: (tL v12) :: (.row false (.ruint8 v13)) :: (dT 8 [])))]
theorem s1008_14_t (cp : CP) (n : Nat) (q0 : SRecv) (v9 v10 : Int) (v11 : (List SSpan)) (v12 : Int) (v13 : (List Int)) (A B : FF → Option R) : (gF (fr1008_13 q0 v9 v10 v11 v12 v13) fun l => steps2 U cp (callP cp n) g1008_10031 l fun l1 => yGuard2 none l1 (A l1) (B l1)) = s1008_14 cp n q0 v9 v10 v11 v12 v13 (fun v15 v16 => A (fr1008_15 q0 v9 v10 v11 v12 v13 v15 v16)) := by kernel_rfl
def fr1008_17 (q0 : SRecv) (v12 : Int) (v13 : (List Int)) (v17 : (List SSpan)) : FF := [dT 2 ((.ptr 48 0) :: (dT 3 ((.clo 70 [(32, 0)]) :: (dT 9 [])))), dc, (.hdr 15) :: (eRecv q0), (.hdr 1) :: (.row true (.rSpan v17)) :: (dT 3 ((.hdr 2) :: (tL v12) :: (.row false (.ruint8 v13)) :: (dT 8 [])))]
def fr1008_18 (q0 : SRecv) (v11 : (List SSpan)) (v12 : Int) (v13 : (List Int)) (v15 v16 : Int) : FF := [dT 2 ((.ptr 48 0) :: (dT 3 ((.clo 70 [(32, 0)]) :: (.agg [(tL v15), (tL v16)]) :: (dT 8 [])))), dc, (.hdr 15) :: (eRecv q0), (.hdr 1) :: (.row true (.rSpan v11)) :: (dT 3 ((.hdr 2) :: (tL v12) :: (.row false (.ruint8 v13)) :: (dT 8 [])))]
theorem s1008_16_t (cp : CP) (n : Nat) (q0 : SRecv) (v11 : (List SSpan)) (v12 : Int) (v13 : (List Int)) (v15 v16 : Int) (k : KX R) : X cp n i1008_2 (fr1008_18 q0 v11 v12 v13 v15 v16) k = s1008_16 cp n q0 v11 v12 v13 v15 v16 (fun v17 => k .norm (fr1008_17 q0 v12 v13 v17)) := by kernel_rfl
def fr1008_20 (q0 : SRecv) (v9 v10 v12 : Int) (v13 : (List Int)) (v15 v16 : Int) (v17 : (List SSpan)) : FF := [.yld :: (dT 3 ((.ptr 53 0) :: (dT 1 ((.row false (.rPiece q0.xLate)) :: (tL v9) :: (tL v10) :: (dT 3 ([.yld, .agg [(tL v12), .row false (.ruint8 v13)], .agg [(tL v15), (tL v16)], (tB true)])))))), dc, (.hdr 15) :: (eRecv q0), (.hdr 1) :: (.row true (.rSpan v17)) :: (dT 3 ((.hdr 2) :: (tL v12) :: (.row false (.ruint8 v13)) :: (dT 8 [])))]
theorem q1008_19_t (cp : CP) (n : Nat) (q0 : SRecv) (v9 v10 : Int) (v11 : (List SSpan)) (v12 : Int) (v13 : (List Int)) (v15 v16 : Int) (K : FF → Option R) : yRun2 (y1008_5 cp n) (.s 12) [.s 14] 15 (fr1008_15 q0 v9 v10 v11 v12 v13 v15 v16) K = s1008_16 cp n q0 v11 v12 v13 v15 v16 (fun v17 => K (fr1008_20 q0 v9 v10 v12 v13 v15 v16 v17)) := ((fun x => (show yRun2 (rndT 2 [7] [32, 48, 53] fr1008_6 x) (.s 12) [.s 14] 15 (fr1008_15 q0 v9 v10 v11 v12 v13 v15 v16) K = x (fr1008_18 q0 v11 v12 v13 v15 v16) (roundT 2 (fr1008_15 q0 v9 v10 v11 v12 v13 v15 v16) (fun l2 => putO l2 (some 15) (.sc (.bool true)) K)) from by kernel_rfl)) (X cp n i1008_2)).trans ((s1008_16_t cp n q0 v11 v12 v13 v15 v16 (roundT 2 (fr1008_15 q0 v9 v10 v11 v12 v13 v15 v16) (fun l2 => putO l2 (some 15) (.sc (.bool true)) K))).trans (by kernel_rfl))
def fr1008_21 (q0 : SRecv) (v9 v10 : Int) (v18 : (List SSpan)) : FF := [.yld :: (dT 5 ((.row false (.rPiece q0.xLate)) :: (tL v9) :: (tL v10) :: (dT 7 []))), (tB false) :: (dT 15 []), (.hdr 15) :: (eRecv q0), (.hdr 1) :: (.row true (.rSpan v18)) :: (dT 14 [])]
theorem s1008_22_t (cp : CP) (n : Nat) (q0 : SRecv) (v9 v10 : Int) (v11 : (List SSpan)) (v12 : Int) (v13 : (List Int)) (k : KX R) : XI cp n (y1008_5 cp n) i1008_4 (fr1008_13 q0 v9 v10 v11 v12 v13) k = s1008_22 cp n q0 v9 v10 v11 v12 v13 (fun v18 => k .norm (fr1008_21 q0 v9 v10 v18)) := (show XI cp n (y1008_5 cp n) i1008_4 (fr1008_13 q0 v9 v10 v11 v12 v13) k = gF (fr1008_13 q0 v9 v10 v11 v12 v13) fun l => steps2 U cp (callP cp n) g1008_10031 l fun l1 => yGuard2 none l1 ((fun l1 => yRun2 (y1008_5 cp n) (.s 12) [.s 14] 15 l1 (fun l2 => steps2 U cp (callP cp n) g1008_10032 l2 ((clrT [4, 12, 13, 14, 15] [(53, 2)] k) .norm))) l1) ((fun l1 => putO l1 (some 15) (.tup []) fun l2 => steps2 U cp (callP cp n) g1008_10032 l2 ((clrT [4, 12, 13, 14, 15] [(53, 2)] k) .norm)) l1) from by kernel_rfl).trans ((s1008_14_t cp n q0 v9 v10 v11 v12 v13 (fun l1 => yRun2 (y1008_5 cp n) (.s 12) [.s 14] 15 l1 (fun l2 => steps2 U cp (callP cp n) g1008_10032 l2 ((clrT [4, 12, 13, 14, 15] [(53, 2)] k) .norm))) (fun l1 => putO l1 (some 15) (.tup []) fun l2 => steps2 U cp (callP cp n) g1008_10032 l2 ((clrT [4, 12, 13, 14, 15] [(53, 2)] k) .norm))).trans (congrArg (s1008_14 cp n q0 v9 v10 v11 v12 v13) (funext fun v15 => funext fun v16 => (q1008_19_t cp n q0 v9 v10 v11 v12 v13 v15 v16 (fun l2 => steps2 U cp (callP cp n) g1008_10032 l2 ((clrT [4, 12, 13, 14, 15] [(53, 2)] k) .norm))).trans (show s1008_16 cp n q0 v11 v12 v13 v15 v16 (fun v17 => (fun l2 => steps2 U cp (callP cp n) g1008_10032 l2 ((clrT [4, 12, 13, 14, 15] [(53, 2)] k) .norm)) (fr1008_20 q0 v9 v10 v12 v13 v15 v16 v17)) = s1008_16 cp n q0 v11 v12 v13 v15 v16 (fun v17 => k .norm (fr1008_21 q0 v9 v10 v17)) from by kernel_rfl))))
def fr1008_24 (q0 : SRecv) (v9 v10 : Int) (v18 : (List SSpan)) : FF := [.yld :: (dT 5 ((.row false (.rPiece q0.xLate)) :: (tL v9) :: (tL v10) :: (dT 7 []))), dc, (.hdr 15) :: (eRecv q0), (.hdr 1) :: (.row true (.rSpan v18)) :: (dT 14 [])]
theorem s1008_23_t (cp : CP) (n : Nat) (q0 : SRecv) (v9 v10 : Int) (v18 : (List SSpan)) (k : KX R) : XI cp n (y1008_5 cp n) i1008_5 (fr1008_21 q0 v9 v10 v18) k = s1008_23 cp n q0 v9 v10 v18 (k .norm (fr1008_24 q0 v9 v10 v18)) := by kernel_rfl
def fr1008_25 (q0 : SRecv) (v9 v10 : Int) (v19 : (List SSpan)) : FF := [.yld :: (dT 5 ((.row false (.rPiece q0.xLate)) :: (tL v9) :: (tL v10) :: (dT 7 []))), dc, (.hdr 15) :: (eRecv q0), (.hdr 1) :: (.row true (.rSpan v19)) :: (dT 14 [])]
theorem s1008_26_t (cp : CP) (n : Nat) (q0 : SRecv) (v9 v10 : Int) (v11 : (List SSpan)) (v12 : Int) (v13 : (List Int)) (k : KX R) : XI cp n (y1008_5 cp n) i1008_6 (fr1008_13 q0 v9 v10 v11 v12 v13) k = s1008_26 cp n q0 v9 v10 v11 v12 v13 (fun v19 => k .norm (fr1008_25 q0 v9 v10 v19)) := (show XI cp n (y1008_5 cp n) i1008_6 (fr1008_13 q0 v9 v10 v11 v12 v13) k = XI cp n (y1008_5 cp n) i1008_4 (fr1008_13 q0 v9 v10 v11 v12 v13) (seqT (XI cp n (y1008_5 cp n)) i1008_5 k) from by kernel_rfl).trans ((show XI cp n (y1008_5 cp n) i1008_4 (fr1008_13 q0 v9 v10 v11 v12 v13) (seqT (XI cp n (y1008_5 cp n)) i1008_5 k) = s1008_22 cp n q0 v9 v10 v11 v12 v13 (fun v18 => XI cp n (y1008_5 cp n) i1008_5 (fr1008_21 q0 v9 v10 v18) k) from (s1008_22_t cp n q0 v9 v10 v11 v12 v13 (seqT (XI cp n (y1008_5 cp n)) i1008_5 k)).trans (by kernel_rfl)).trans (congrArg (fun q => s1008_22 cp n q0 v9 v10 v11 v12 v13 q) (funext fun v18 => (s1008_23_t cp n q0 v9 v10 v18 k).trans (show s1008_23 cp n q0 v9 v10 v18 (k .norm (fr1008_24 q0 v9 v10 v18)) = s1008_23 cp n q0 v9 v10 v18 (k .norm (fr1008_25 q0 v9 v10 v18)) from by kernel_rfl))))
def fr1008_27 (q0 : SRecv) (v9 v10 : Int) (v20 : (List SSpan)) : FF := [.yld :: (dT 5 ((.row false (.rPiece q0.xLate)) :: (tL v9) :: (tL v10) :: (dT 7 []))), dc, (.hdr 15) :: (eRecv q0), (.hdr 1) :: (.row true (.rSpan v20)) :: (dT 14 [])]
theorem s1008_28_t (cp : CP) (n : Nat) (q0 : SRecv) (v9 v10 : Int) (v11 : (List SSpan)) (k : KX R) : XI cp n (y1008_5 cp n) i1008_7 (fr1008_10 q0 v9 v10 v11) k = s1008_28 cp n q0 v9 v10 v11 (fun v20 => k .norm (fr1008_27 q0 v9 v10 v20)) := ((fun c => (show XI cp n (y1008_5 cp n) (.seq (.fin (.reg g1008_1002) [10, 11] []) c) (fr1008_10 q0 v9 v10 v11) k = s1008_12 cp n q0 v9 v10 v11 (fun v12 v13 => XI cp n (y1008_5 cp n) c (fr1008_13 q0 v9 v10 v11 v12 v13) k) from by kernel_rfl)) i1008_6).trans (congrArg (fun q => s1008_12 cp n q0 v9 v10 v11 q) (funext fun v12 => funext fun v13 => (s1008_26_t cp n q0 v9 v10 v11 v12 v13 k).trans (show s1008_26 cp n q0 v9 v10 v11 v12 v13 (fun v19 => k .norm (fr1008_25 q0 v9 v10 v19)) = s1008_26 cp n q0 v9 v10 v11 v12 v13 (fun v19 => k .norm (fr1008_27 q0 v9 v10 v19)) from by kernel_rfl)))
def fr1008_29 (q0 : SRecv) (v9 v10 : Int) (v21 : (List SSpan)) : FF := [.yld :: (dT 5 ((.row false (.rPiece q0.xLate)) :: (tL v9) :: (tL v10) :: (dT 7 []))), dc, (.hdr 15) :: (eRecv q0), (.hdr 1) :: (.row true (.rSpan v21)) :: (dT 14 [])]
theorem s1008_30_t (cp : CP) (n : Nat) (q0 : SRecv) (v9 v10 : Int) (v11 : (List SSpan)) (k : KX R) : XI cp n (y1008_5 cp n) i1008_8 (fr1008_10 q0 v9 v10 v11) k = s1008_30 cp n q0 v9 v10 v11 (fun v21 => k .norm (fr1008_29 q0 v9 v10 v21)) := (show XI cp n (y1008_5 cp n) i1008_8 (fr1008_10 q0 v9 v10 v11) k = XI cp n (y1008_5 cp n) i1008_7 (fr1008_10 q0 v9 v10 v11) (blkT 1 k) from by kernel_rfl).trans ((s1008_28_t cp n q0 v9 v10 v11 (blkT 1 k)).trans (by kernel_rfl))
def fr1008_32 (q0 : SRecv) (v9 : Int) (v21 : (List SSpan)) (v22 : Int) : FF := [.yld :: (dT 5 ((.row false (.rPiece q0.xLate)) :: (tL v9) :: (tL v22) :: (dT 7 []))), dc, (.hdr 15) :: (eRecv q0), (.hdr 1) :: (.row true (.rSpan v21)) :: (dT 14 [])]
theorem s1008_31_t (cp : CP) (n : Nat) (q0 : SRecv) (v9 v10 : Int) (v21 : (List SSpan)) (k : KX R) : XI cp n (y1008_5 cp n) i1008_9 (fr1008_29 q0 v9 v10 v21) k = s1008_31 cp n q0 v9 v10 v21 (fun v22 => k .norm (fr1008_32 q0 v9 v21 v22)) := by kernel_rfl
def fr1008_33 (q0 : SRecv) (v9 v23 : Int) (v24 : (List SSpan)) : FF := [.yld :: (dT 5 ((.row false (.rPiece q0.xLate)) :: (tL v9) :: (tL v23) :: (dT 7 []))), dc, (.hdr 15) :: (eRecv q0), (.hdr 1) :: (.row true (.rSpan v24)) :: (dT 14 [])]
theorem s1008_34_t (cp : CP) (n : Nat) (q0 : SRecv) (v9 v10 : Int) (v11 : (List SSpan)) (k : KX R) : XI cp n (y1008_5 cp n) i1008_10 (fr1008_10 q0 v9 v10 v11) k = s1008_34 cp n q0 v9 v10 v11 (fun v23 v24 => k .norm (fr1008_33 q0 v9 v23 v24)) := (show XI cp n (y1008_5 cp n) i1008_10 (fr1008_10 q0 v9 v10 v11) k = XI cp n (y1008_5 cp n) i1008_8 (fr1008_10 q0 v9 v10 v11) (seqT (XI cp n (y1008_5 cp n)) i1008_9 k) from by kernel_rfl).trans ((show XI cp n (y1008_5 cp n) i1008_8 (fr1008_10 q0 v9 v10 v11) (seqT (XI cp n (y1008_5 cp n)) i1008_9 k) = s1008_30 cp n q0 v9 v10 v11 (fun v21 => XI cp n (y1008_5 cp n) i1008_9 (fr1008_29 q0 v9 v10 v21) k) from (s1008_30_t cp n q0 v9 v10 v11 (seqT (XI cp n (y1008_5 cp n)) i1008_9 k)).trans (by kernel_rfl)).trans (congrArg (fun q => s1008_30 cp n q0 v9 v10 v11 q) (funext fun v21 => (s1008_31_t cp n q0 v9 v10 v21 k).trans (show s1008_31 cp n q0 v9 v10 v21 (fun v22 => k .norm (fr1008_32 q0 v9 v21 v22)) = s1008_31 cp n q0 v9 v10 v21 (fun v22 => k .norm (fr1008_33 q0 v9 v22 v21)) from by kernel_rfl))))
def fr1008_35 (q0 : SRecv) (v9 v25 : Int) (v26 : (List SSpan)) : FF := [.yld :: (dT 5 ((.row false (.rPiece q0.xLate)) :: (tL v9) :: (tL v25) :: (dT 7 []))), dc, (.hdr 15) :: (eRecv q0), (.hdr 1) :: (.row true (.rSpan v26)) :: (dT 14 [])]
theorem s1008_36_t (cp : CP) (n : Nat) (q0 : SRecv) (v9 v10 : Int) (v11 : (List SSpan)) (k : KX R) : XI cp n (y1008_5 cp n) i1008_11 (fr1008_10 q0 v9 v10 v11) k = s1008_36 cp n q0 v9 v10 v11 (fun v25 v26 => k .norm (fr1008_35 q0 v9 v25 v26)) (k (.exit 0) (fr1008_11 q0 v11)) := ((fun c => (show XI cp n (y1008_5 cp n) (.seq (.reg g1008_1001) (.seq (.fin (.cond (.s 9) (.skip) (.clr [0, 6, 7, 8, 9] [] (.exit 0))) [9] []) c)) (fr1008_10 q0 v9 v10 v11) k = s1008_9 cp n q0 v9 v10 v11 (XI cp n (y1008_5 cp n) c (fr1008_10 q0 v9 v10 v11) k) (k (.exit 0) (fr1008_11 q0 v11)) from by kernel_rfl)) i1008_10).trans (congrArg (fun q => s1008_9 cp n q0 v9 v10 v11 q (k (.exit 0) (fr1008_11 q0 v11))) ((s1008_34_t cp n q0 v9 v10 v11 k).trans (show s1008_34 cp n q0 v9 v10 v11 (fun v23 v24 => k .norm (fr1008_33 q0 v9 v23 v24)) = s1008_34 cp n q0 v9 v10 v11 (fun v23 v24 => k .norm (fr1008_35 q0 v9 v23 v24)) from by kernel_rfl)))
def fr1008_37 (q0 : SRecv) (v27 : (List SSpan)) : FF := [dc, dc, (.hdr 15) :: (eRecv q0), (.hdr 1) :: (.row true (.rSpan v27)) :: (dT 14 [])]
theorem l1008_38_t (cp : CP) (n : Nat) : ∀ (m : Nat) (q0 : SRecv) (v9 v10 : Int) (v11 : (List SSpan)) (k : KX R), loopN2 (XI cp n (y1008_5 cp n) i1008_11) m (fr1008_10 q0 v9 v10 v11) k = l1008_38 cp n m q0 v9 v10 v11 (fun v27 => k (.exit 0) (fr1008_37 q0 v27))
  | 0, _, _, _, _, _ => rfl
  | m + 1, q0, v9, v10, v11, k => (loopN2_succ (XI cp n (y1008_5 cp n) i1008_11) m (fr1008_10 q0 v9 v10 v11) k).trans ((s1008_36_t cp n q0 v9 v10 v11 (loopT (XI cp n (y1008_5 cp n) i1008_11) m k)).trans ((show s1008_36 cp n q0 v9 v10 v11 (fun v25 v26 => loopT (XI cp n (y1008_5 cp n) i1008_11) m k .norm (fr1008_35 q0 v9 v25 v26)) (loopT (XI cp n (y1008_5 cp n) i1008_11) m k (.exit 0) (fr1008_11 q0 v11)) = s1008_36 cp n q0 v9 v10 v11 (fun v25 v26 => loopN2 (XI cp n (y1008_5 cp n) i1008_11) m (fr1008_10 q0 v9 v25 v26) k) (k (.exit 0) (fr1008_37 q0 v11)) from by kernel_rfl).trans (congrArg (fun q => s1008_36 cp n q0 v9 v10 v11 q (k (.exit 0) (fr1008_37 q0 v11))) (funext fun v25 => funext fun v26 => l1008_38_t cp n m q0 v9 v25 v26 k))))
theorem s1008_39_t (cp : CP) (n : Nat) (p0 : (List SSpan)) (q0 : SRecv) (v9 : Int) (k : KX R) : XI cp n (y1008_5 cp n) i1008_12 (fr1008_8 p0 q0 v9) k = s1008_39 cp n p0 q0 v9 (fun v27 => k (.exit 0) (fr1008_37 q0 v27)) := (show XI cp n (y1008_5 cp n) i1008_12 (fr1008_8 p0 q0 v9) k = loopN2 (XI cp n (y1008_5 cp n) i1008_11) n (fr1008_10 q0 v9 0 p0) k from by kernel_rfl).trans (l1008_38_t cp n n q0 v9 0 p0 k)
def fr1008_40 (q0 : SRecv) (v28 : (List SSpan)) : FF := [dc, dc, (.hdr 15) :: (eRecv q0), (.hdr 1) :: (.row true (.rSpan v28)) :: (dT 14 [])]
theorem s1008_41_t (cp : CP) (n : Nat) (p0 : (List SSpan)) (q0 : SRecv) (v9 : Int) (k : KX R) : XI cp n (y1008_5 cp n) i1008_13 (fr1008_8 p0 q0 v9) k = s1008_41 cp n p0 q0 v9 (fun v28 => k .norm (fr1008_40 q0 v28)) := (show XI cp n (y1008_5 cp n) i1008_13 (fr1008_8 p0 q0 v9) k = XI cp n (y1008_5 cp n) i1008_12 (fr1008_8 p0 q0 v9) (blkT 0 k) from by kernel_rfl).trans ((s1008_39_t cp n p0 q0 v9 (blkT 0 k)).trans (by kernel_rfl))
def fr1008_42 (q0 : SRecv) (v29 : (List SSpan)) : FF := [dc, dc, (.hdr 15) :: (eRecv q0), (.hdr 1) :: (.row true (.rSpan v29)) :: (dT 14 [])]
def fr1008_44 (p0 : (List SSpan)) (q0 : SRecv) : FF := [.yld :: (.ptr 32 0) :: (dT 14 []), dc, (.hdr 15) :: (eRecv q0), (.hdr 1) :: (.row true (.rSpan p0)) :: (dT 14 [])]
theorem s1008_43_t (cp : CP) (n : Nat) (p0 : (List SSpan)) (q0 : SRecv) (k : KX R) : XI cp n (y1008_5 cp n) i1008_3 (fr1008_44 p0 q0) k = s1008_43 cp n p0 q0 (fun v29 => k .norm (fr1008_42 q0 v29)) := ((fun c => (show XI cp n (y1008_5 cp n) (.seq (.fin (.reg g1008_1000) [1, 5] []) c) (fr1008_44 p0 q0) k = s1008_7 cp n p0 q0 (fun v9 => XI cp n (y1008_5 cp n) c (fr1008_8 p0 q0 v9) k) from by kernel_rfl)) i1008_13).trans (congrArg (fun q => s1008_7 cp n p0 q0 q) (funext fun v9 => (s1008_41_t cp n p0 q0 v9 k).trans (show s1008_41 cp n p0 q0 v9 (fun v28 => k .norm (fr1008_40 q0 v28)) = s1008_41 cp n p0 q0 v9 (fun v28 => k .norm (fr1008_42 q0 v28)) from by kernel_rfl)))
def fr1008_45 (q0 : SRecv) (v30 : (List SSpan)) : FF := [dT 2 ((.ptr 48 0) :: (dT 13 [])), dc, (.hdr 15) :: (eRecv q0), (.hdr 1) :: (.row true (.rSpan v30)) :: (dT 14 [])]
theorem s1008_46_t (cp : CP) (n : Nat) (p0 : (List SSpan)) (q0 : SRecv) (k : KX R) : X cp n i1008_14 (fr1008_4 p0 q0) k = s1008_46 cp n p0 q0 (fun v30 => k .norm (fr1008_45 q0 v30)) := (show X cp n i1008_14 (fr1008_4 p0 q0) k = XI cp n (roundK2 2 [7] [32, 48, 53] (fr1008_4 p0 q0) (X cp n i1008_0) (X cp n i1008_1)) i1008_3 (fr1008_44 p0 q0) (rfnT 2 (fr1008_4 p0 q0) (clrT [6] [] k)) from rfn_eq (v := .clo 70 [(32, 0)]) (by kernel_rfl) (by kernel_rfl) (by kernel_rfl) _ _ _).trans ((congrArg (fun Y => XI cp n Y i1008_3 (fr1008_44 p0 q0) (rfnT 2 (fr1008_4 p0 q0) (clrT [6] [] k))) ((rnd_eq 2 [7] [32, 48, 53] (fr1008_4 p0 q0) i1008_0 i1008_1).trans (show rndT 2 [7] [32, 48, 53] (fr1008_4 p0 q0) (X cp n i1008_2) = (y1008_5 cp n) from by kernel_rfl))).trans ((s1008_43_t cp n p0 q0 (rfnT 2 (fr1008_4 p0 q0) (clrT [6] [] k))).trans (by kernel_rfl)))
def fr1008_47 (q0 : SRecv) (v31 : (List SSpan)) : FF := [dT 2 ((.ptr 48 0) :: (dT 13 [])), dc, (.hdr 15) :: (eRecv q0), (.hdr 1) :: (.row true (.rSpan v31)) :: (dT 14 [])]
theorem s1008_48_t (cp : CP) (n : Nat) (p0 : (List SSpan)) (q0 : SRecv) (k : KX R) : X cp n i1008_15 (fr1008_4 p0 q0) k = s1008_48 cp n p0 q0 (fun v31 => k .norm (fr1008_47 q0 v31)) := (show X cp n i1008_15 (fr1008_4 p0 q0) k = X cp n i1008_14 (fr1008_4 p0 q0) (blkT 0 k) from by kernel_rfl).trans ((s1008_46_t cp n p0 q0 (blkT 0 k)).trans (by kernel_rfl))
def fr1008_49 (q0 : SRecv) (v32 : (List SSpan)) : FF := [dT 2 ((.ptr 48 0) :: (dT 13 [])), dc, (.hdr 15) :: (eRecv q0), (.hdr 1) :: (.row true (.rSpan v32)) :: (dT 14 [])]
theorem s1008_50_t (cp : CP) (n : Nat) (p0 : (List SSpan)) (q0 : SRecv) (k : KX R) : X cp n i1008_16 (fr1008_2 p0 q0) k = s1008_50 cp n p0 q0 (fun v32 => k .norm (fr1008_49 q0 v32)) := ((fun c => (show X cp n (.seq (.fin (.reg g1008_1) [1] []) c) (fr1008_2 p0 q0) k = s1008_3 cp n p0 q0 (X cp n c (fr1008_4 p0 q0) k) from by kernel_rfl)) i1008_15).trans (congrArg (fun q => s1008_3 cp n p0 q0 q) ((s1008_48_t cp n p0 q0 k).trans (show s1008_48 cp n p0 q0 (fun v31 => k .norm (fr1008_47 q0 v31)) = s1008_48 cp n p0 q0 (fun v31 => k .norm (fr1008_49 q0 v31)) from by kernel_rfl)))
def fr1008_52 (q0 : SRecv) (v32 : (List SSpan)) : FF := [dT 4 ((.row false (.rSpan v32)) :: (dT 11 [])), dc, (.hdr 15) :: (eRecv q0), dc]
theorem s1008_51_t (cp : CP) (n : Nat) (q0 : SRecv) (v32 : (List SSpan)) (k : KX R) : X cp n i1008_17 (fr1008_49 q0 v32) k = s1008_51 cp n q0 v32 (k .ret (fr1008_52 q0 v32)) := by kernel_rfl
def fr1008_53 (q0 : SRecv) (v33 : (List SSpan)) : FF := [dT 4 ((.row false (.rSpan v33)) :: (dT 11 [])), dc, (.hdr 15) :: (eRecv q0), dc]
theorem s1008_54_t (cp : CP) (n : Nat) (p0 : (List SSpan)) (q0 : SRecv) (k : KX R) : X cp n i1008_18 (fr1008_2 p0 q0) k = s1008_54 cp n p0 q0 (fun v33 => k .ret (fr1008_53 q0 v33)) := (show X cp n i1008_18 (fr1008_2 p0 q0) k = X cp n i1008_16 (fr1008_2 p0 q0) (seqT (X cp n) i1008_17 k) from by kernel_rfl).trans ((show X cp n i1008_16 (fr1008_2 p0 q0) (seqT (X cp n) i1008_17 k) = s1008_50 cp n p0 q0 (fun v32 => X cp n i1008_17 (fr1008_49 q0 v32) k) from (s1008_50_t cp n p0 q0 (seqT (X cp n) i1008_17 k)).trans (by kernel_rfl)).trans (congrArg (fun q => s1008_50 cp n p0 q0 q) (funext fun v32 => (s1008_51_t cp n q0 v32 k).trans (show s1008_51 cp n q0 v32 (k .ret (fr1008_52 q0 v32)) = s1008_51 cp n q0 v32 (k .ret (fr1008_53 q0 v32)) from by kernel_rfl))))
def fr1008_55 (q0 : SRecv) (v34 : (List SSpan)) : FF := [dT 4 ((.row false (.rSpan v34)) :: (dT 11 [])), dc, (.hdr 15) :: (eRecv q0), dc]
def fr1008_57 (p0 : (List SSpan)) (q0 : SRecv) : FF := [(.row true (.rSpan p0)) :: (.clo 70 [(32, 0)]) :: (dT 14 []), dc, (.hdr 15) :: (eRecv q0), dc]
theorem s1008_56_t (cp : CP) (n : Nat) (p0 : (List SSpan)) (q0 : SRecv) (k : KX R) : X cp n i1008_19 (fr1008_57 p0 q0) k = s1008_56 cp n p0 q0 (fun v34 => k .ret (fr1008_55 q0 v34)) := ((fun c => (show X cp n (.seq (.fin (.reg g1008_0) [0, 4] []) c) (fr1008_57 p0 q0) k = s1008_1 cp n p0 q0 (X cp n c (fr1008_2 p0 q0) k) from by kernel_rfl)) i1008_18).trans (congrArg (fun q => s1008_1 cp n p0 q0 q) ((s1008_54_t cp n p0 q0 k).trans (show s1008_54 cp n p0 q0 (fun v33 => k .ret (fr1008_53 q0 v33)) = s1008_54 cp n p0 q0 (fun v33 => k .ret (fr1008_55 q0 v33)) from by kernel_rfl)))
theorem run1008 (cp : CP) (n : Nat) (p0 : (List SSpan)) (q0 : SRecv) (k : Ret2 RW → Option R) : G1008 cp (n + 1) p0 q0 (fun r0 r1 => k ⟨.row false (.rSpan r0), [(eRecv r1)], []⟩) = run2 U cp (callP cp n) n fn1008 [.row true (.rSpan p0), .clo 70 [(32, 0)]] [(eRecv q0)] k := ((X_run (f := fn1008) (av := [.row true (.rSpan p0), .clo 70 [(32, 0)]]) (cells := [(eRecv q0)]) (code := i1008_19) (fr := (fr1008_57 p0 q0)) (k := k) (by kernel_rfl) (fun K => by kernel_rfl)).trans ((s1008_56_t cp n p0 q0 (finK2 fn1008 k)).trans (by kernel_rfl))).symm
/-! slices.Collect[tideway/api.Span] -/
theorem run1007 (cp : CP) (n : Nat) (q0 : SRecv) (k : Ret2 RW → Option R) : G1007 cp (n + 1) q0 (fun r0 r1 => k ⟨.row false (.rSpan r0), [(eRecv r1)], []⟩) = run2 U cp (callP cp n) n fn1007 [.clo 70 [(5, 0)]] [(eRecv q0)] k := by kernel_rfl
/-! slices.Index[[]tideway/api.Span,tideway/api.Span] -/
def fr72_2 (p0 : (List SSpan)) (p1 : SSpan) : FF := [(.row false (.rSpan p0)) :: (dT 2 ((.ptr 19 0) :: (dT 12 []))), dT 3 ((.hdr 2) :: ((eSpan p1) ++ (dT 10 [])))]
def fr72_4 (p0 : (List SSpan)) (p1 : SSpan) (v41 : Int) : FF := [(.row false (.rSpan p0)) :: (dT 2 ((.ptr 19 0) :: (dT 3 ((tL v41) :: (tL 0) :: (dT 7 []))))), dT 3 ((.hdr 2) :: ((eSpan p1) ++ (dT 10 [])))]
def fr72_6 (p0 : (List SSpan)) (p1 : SSpan) (v41 v43 : Int) : FF := [(.row false (.rSpan p0)) :: (dT 2 ((.ptr 19 0) :: (dT 3 ((tL v41) :: (tL v43) :: (dT 7 []))))), dT 3 ((.hdr 2) :: ((eSpan p1) ++ (dT 10 [])))]
def fr72_7 (v42 : Int) : FF := [dT 4 ((tL v42) :: (dT 11 [])), dc]
def fr72_8 : FF := [dc, dc]
def fr72_9 (p0 : (List SSpan)) (p1 : SSpan) (v41 v42 : Int) : FF := [(.row false (.rSpan p0)) :: (dT 2 ((.ptr 19 0) :: (dT 3 ((tL v41) :: (tL v42) :: (dT 7 []))))), dT 3 ((.hdr 2) :: ((eSpan p1) ++ (dT 10 [])))]
theorem s72_5_t (cp : CP) (n : Nat) (p0 : (List SSpan)) (p1 : SSpan) (v41 v42 : Int) (k : KX R) : X cp n i72_0 (fr72_9 p0 p1 v41 v42) k = s72_5 cp n p0 p1 v41 v42 (fun v43 => k .norm (fr72_6 p0 p1 v41 v43)) (k .ret (fr72_7 v42)) (k (.exit 0) fr72_8) := by kernel_rfl
def fr72_10 (v44 : Int) : FF := [dT 4 ((tL v44) :: (dT 11 [])), dc]
theorem l72_11_t (cp : CP) (n : Nat) : ∀ (m : Nat) (p0 : (List SSpan)) (p1 : SSpan) (v41 v42 : Int) (k : KX R), loopN2 (X cp n i72_0) m (fr72_9 p0 p1 v41 v42) k = l72_11 cp n m p0 p1 v41 v42 (fun v44 => k .ret (fr72_10 v44)) (k (.exit 0) fr72_8)
  | 0, _, _, _, _, _ => rfl
  | m + 1, p0, p1, v41, v42, k => (loopN2_succ (X cp n i72_0) m (fr72_9 p0 p1 v41 v42) k).trans ((s72_5_t cp n p0 p1 v41 v42 (loopT (X cp n i72_0) m k)).trans ((show s72_5 cp n p0 p1 v41 v42 (fun v43 => loopT (X cp n i72_0) m k .norm (fr72_6 p0 p1 v41 v43)) (loopT (X cp n i72_0) m k .ret (fr72_7 v42)) (loopT (X cp n i72_0) m k (.exit 0) fr72_8) = s72_5 cp n p0 p1 v41 v42 (fun v43 => loopN2 (X cp n i72_0) m (fr72_9 p0 p1 v41 v43) k) (k .ret (fr72_10 v42)) (k (.exit 0) fr72_8) from by kernel_rfl).trans (congrArg (fun q => s72_5 cp n p0 p1 v41 v42 q (k .ret (fr72_10 v42)) (k (.exit 0) fr72_8)) (funext fun v43 => l72_11_t cp n m p0 p1 v41 v43 k))))
theorem s72_12_t (cp : CP) (n : Nat) (p0 : (List SSpan)) (p1 : SSpan) (v41 : Int) (k : KX R) : X cp n i72_1 (fr72_4 p0 p1 v41) k = s72_12 cp n p0 p1 v41 (fun v44 => k .ret (fr72_10 v44)) (k (.exit 0) fr72_8) := (show X cp n i72_1 (fr72_4 p0 p1 v41) k = loopN2 (X cp n i72_0) n (fr72_9 p0 p1 v41 0) k from by kernel_rfl).trans (l72_11_t cp n n p0 p1 v41 0 k)
def fr72_13 (v45 : Int) : FF := [dT 4 ((tL v45) :: (dT 11 [])), dc]
theorem s72_14_t (cp : CP) (n : Nat) (p0 : (List SSpan)) (p1 : SSpan) (v41 : Int) (k : KX R) : X cp n i72_2 (fr72_4 p0 p1 v41) k = s72_14 cp n p0 p1 v41 (k .norm fr72_8) (fun v45 => k .ret (fr72_13 v45)) := (show X cp n i72_2 (fr72_4 p0 p1 v41) k = X cp n i72_1 (fr72_4 p0 p1 v41) (blkT 0 k) from by kernel_rfl).trans ((s72_12_t cp n p0 p1 v41 (blkT 0 k)).trans (by kernel_rfl))
def fr72_15 (v46 : Int) : FF := [dT 4 ((tL v46) :: (dT 11 [])), dc]
theorem s72_16_t (cp : CP) (n : Nat) (p0 : (List SSpan)) (p1 : SSpan) (k : KX R) : X cp n i72_3 (fr72_2 p0 p1) k = s72_16 cp n p0 p1 (k .norm fr72_8) (fun v46 => k .ret (fr72_15 v46)) := ((fun c => (show X cp n (.seq (.fin (.reg g72_1) [6] []) c) (fr72_2 p0 p1) k = s72_3 cp n p0 p1 (fun v41 => X cp n c (fr72_4 p0 p1 v41) k) from by kernel_rfl)) i72_2).trans (congrArg (fun q => s72_3 cp n p0 p1 q) (funext fun v41 => (s72_14_t cp n p0 p1 v41 k).trans (show s72_14 cp n p0 p1 v41 (k .norm fr72_8) (fun v45 => k .ret (fr72_13 v45)) = s72_14 cp n p0 p1 v41 (k .norm fr72_8) (fun v45 => k .ret (fr72_15 v45)) from by kernel_rfl)))
def fr72_18 : FF := [dT 4 ((tL (-1)) :: (dT 11 [])), dc]
theorem s72_17_t (cp : CP) (n : Nat) (k : KX R) : X cp n i72_4 fr72_8 k = s72_17 cp n (k .ret fr72_18) := by kernel_rfl
def fr72_19 (v47 : Int) : FF := [dT 4 ((tL v47) :: (dT 11 [])), dc]
theorem s72_20_t (cp : CP) (n : Nat) (p0 : (List SSpan)) (p1 : SSpan) (k : KX R) : X cp n i72_5 (fr72_2 p0 p1) k = s72_20 cp n p0 p1 (fun v47 => k .ret (fr72_19 v47)) := (show X cp n i72_5 (fr72_2 p0 p1) k = X cp n i72_3 (fr72_2 p0 p1) (seqT (X cp n) i72_4 k) from by kernel_rfl).trans ((show X cp n i72_3 (fr72_2 p0 p1) (seqT (X cp n) i72_4 k) = s72_16 cp n p0 p1 (X cp n i72_4 fr72_8 k) (fun v46 => k .ret (fr72_19 v46)) from (s72_16_t cp n p0 p1 (seqT (X cp n) i72_4 k)).trans (by kernel_rfl)).trans (congrArg (fun q => s72_16 cp n p0 p1 q (fun v46 => k .ret (fr72_19 v46))) ((s72_17_t cp n  k).trans (show s72_17 cp n (k .ret fr72_18) = s72_17 cp n (k .ret (fr72_19 (-1))) from by kernel_rfl))))
def fr72_21 (v48 : Int) : FF := [dT 4 ((tL v48) :: (dT 11 [])), dc]
def fr72_23 (p0 : (List SSpan)) (p1 : SSpan) : FF := [(.row false (.rSpan p0)) :: (.agg (eSpan p1)) :: (dT 14 []), dc]
theorem s72_22_t (cp : CP) (n : Nat) (p0 : (List SSpan)) (p1 : SSpan) (k : KX R) : X cp n i72_6 (fr72_23 p0 p1) k = s72_22 cp n p0 p1 (fun v48 => k .ret (fr72_21 v48)) := ((fun c => (show X cp n (.seq (.fin (.reg g72_0) [1, 4] []) c) (fr72_23 p0 p1) k = s72_1 cp n p0 p1 (X cp n c (fr72_2 p0 p1) k) from by kernel_rfl)) i72_5).trans (congrArg (fun q => s72_1 cp n p0 p1 q) ((s72_20_t cp n p0 p1 k).trans (show s72_20 cp n p0 p1 (fun v47 => k .ret (fr72_19 v47)) = s72_20 cp n p0 p1 (fun v47 => k .ret (fr72_21 v47)) from by kernel_rfl)))
theorem run72 (cp : CP) (n : Nat) (p0 : (List SSpan)) (p1 : SSpan) (k : Ret2 RW → Option R) : G72 cp (n + 1) p0 p1 (fun r0 => k ⟨(tL r0), [], []⟩) = run2 U cp (callP cp n) n fn72 [.row false (.rSpan p0), .agg (eSpan p1)] [] k := ((X_run (f := fn72) (av := [.row false (.rSpan p0), .agg (eSpan p1)]) (cells := []) (code := i72_6) (fr := (fr72_23 p0 p1)) (k := k) (by kernel_rfl) (fun K => by kernel_rfl)).trans ((s72_22_t cp n p0 p1 (finK2 fn72 k)).trans (by kernel_rfl))).symm
/-! slices.Contains[[]tideway/api.Span,tideway/api.Span] -/
theorem run56 (cp : CP) (n : Nat) (p0 : (List SSpan)) (p1 : SSpan) (k : Ret2 RW → Option R) : G56 cp (n + 1) p0 p1 (fun r0 => k ⟨(tB r0), [], []⟩) = run2 U cp (callP cp n) n fn56 [.row false (.rSpan p0), .agg (eSpan p1)] [] k := by kernel_rfl
/-! tideway/recv.pieces -/
def fr28_2 (p0 : SRecv) : FF := [dT 1 ((.ptr 82 0) :: (dT 1 ((tL p0.xNext) :: (dT 12 [])))), dc, dc, dc, dc, dT 2 ((.hdr 15) :: (sl 0 13 (eRecv p0))), sl 13 2 (eRecv p0) ++ (dT 14 []), dc]
def fr28_4 (p0 : SRecv) (v2 : Int) : FF := [dT 1 ((.ptr 82 0) :: (dT 1 ((tL p0.xNext) :: (dT 9 ([.row false (.rPiece p0.xLate), (tL v2), (tL 0)]))))), dc, dc, dc, dc, dT 2 ((.hdr 15) :: (sl 0 13 (eRecv p0))), sl 13 2 (eRecv p0) ++ (dT 14 []), dc]
def fr28_6 (p0 : SRecv) (v2 v6 v7 : Int) : FF := [dT 1 ((.ptr 82 0) :: (dT 1 ((tL v6) :: (dT 9 ([.row false (.rPiece p0.xLate), (tL v2), (tL v7)]))))), dc, dc, dc, dc, dT 2 ((.hdr 15) :: (sl 0 13 (eRecv p0))), sl 13 2 (eRecv p0) ++ (dT 14 []), dc]
def fr28_7 : FF := [dT 2 ((tB false) :: (dT 13 [])), dc, dc, dc, dc, dc, dc, dc]
def fr28_8 (p0 : SRecv) : FF := [dT 1 ((.ptr 82 0) :: (dT 14 [])), dc, dc, dc, dc, dT 2 ((.hdr 15) :: (sl 0 13 (eRecv p0))), sl 13 2 (eRecv p0) ++ (dT 14 []), dc]
def fr28_9 (p0 : SRecv) (v2 v3 v4 : Int) : FF := [dT 1 ((.ptr 82 0) :: (dT 1 ((tL v3) :: (dT 9 ([.row false (.rPiece p0.xLate), (tL v2), (tL v4)]))))), dc, dc, dc, dc, dT 2 ((.hdr 15) :: (sl 0 13 (eRecv p0))), sl 13 2 (eRecv p0) ++ (dT 14 []), dc]
theorem s28_5_t (cp : CP) (n : Nat) (p0 : SRecv) (v2 v3 v4 : Int) (k : KX R) : X cp n i28_0 (fr28_9 p0 v2 v3 v4) k = s28_5 cp n p0 v2 v3 v4 (fun v6 v7 => k .norm (fr28_6 p0 v2 v6 v7)) (k .ret fr28_7) (k (.exit 0) (fr28_8 p0)) := by kernel_rfl
theorem l28_10_t (cp : CP) (n : Nat) : ∀ (m : Nat) (p0 : SRecv) (v2 v3 v4 : Int) (k : KX R), loopN2 (X cp n i28_0) m (fr28_9 p0 v2 v3 v4) k = l28_10 cp n m p0 v2 v3 v4 (k .ret fr28_7) (k (.exit 0) (fr28_8 p0))
  | 0, _, _, _, _, _ => rfl
  | m + 1, p0, v2, v3, v4, k => (loopN2_succ (X cp n i28_0) m (fr28_9 p0 v2 v3 v4) k).trans ((s28_5_t cp n p0 v2 v3 v4 (loopT (X cp n i28_0) m k)).trans ((show s28_5 cp n p0 v2 v3 v4 (fun v6 v7 => loopT (X cp n i28_0) m k .norm (fr28_6 p0 v2 v6 v7)) (loopT (X cp n i28_0) m k .ret fr28_7) (loopT (X cp n i28_0) m k (.exit 0) (fr28_8 p0)) = s28_5 cp n p0 v2 v3 v4 (fun v6 v7 => loopN2 (X cp n i28_0) m (fr28_9 p0 v2 v6 v7) k) (k .ret fr28_7) (k (.exit 0) (fr28_8 p0)) from by kernel_rfl).trans (congrArg (fun q => s28_5 cp n p0 v2 v3 v4 q (k .ret fr28_7) (k (.exit 0) (fr28_8 p0))) (funext fun v6 => funext fun v7 => l28_10_t cp n m p0 v2 v6 v7 k))))
theorem s28_11_t (cp : CP) (n : Nat) (p0 : SRecv) (v2 : Int) (k : KX R) : X cp n i28_1 (fr28_4 p0 v2) k = s28_11 cp n p0 v2 (k .ret fr28_7) (k (.exit 0) (fr28_8 p0)) := (show X cp n i28_1 (fr28_4 p0 v2) k = loopN2 (X cp n i28_0) n (fr28_9 p0 v2 p0.xNext 0) k from by kernel_rfl).trans (l28_10_t cp n n p0 v2 p0.xNext 0 k)
theorem s28_12_t (cp : CP) (n : Nat) (p0 : SRecv) (v2 : Int) (k : KX R) : X cp n i28_2 (fr28_4 p0 v2) k = s28_12 cp n p0 v2 (k .norm (fr28_8 p0)) (k .ret fr28_7) := (show X cp n i28_2 (fr28_4 p0 v2) k = X cp n i28_1 (fr28_4 p0 v2) (blkT 0 k) from by kernel_rfl).trans ((s28_11_t cp n p0 v2 (blkT 0 k)).trans (by kernel_rfl))
theorem s28_13_t (cp : CP) (n : Nat) (p0 : SRecv) (k : KX R) : X cp n i28_3 (fr28_2 p0) k = s28_13 cp n p0 (k .norm (fr28_8 p0)) (k .ret fr28_7) := ((fun c => (show X cp n (.seq (.fin (.reg g28_2) [12] []) c) (fr28_2 p0) k = s28_3 cp n p0 (fun v2 => X cp n c (fr28_4 p0 v2) k) from by kernel_rfl)) i28_2).trans (congrArg (fun q => s28_3 cp n p0 q) (funext fun v2 => s28_12_t cp n p0 v2 k))
def fr28_15 (p0 : SRecv) (v39 : (List SSpan)) : FF := [dT 1 ((.ptr 82 0) :: (dT 5 ((.row false (.rSpan v39)) :: (dT 8 [])))), dc, dc, dc, dc, dT 2 ((.hdr 15) :: (sl 0 13 (eRecv p0))), sl 13 2 (eRecv p0) ++ (dT 14 []), dc]
def fr28_17 (p0 : SRecv) (v39 : (List SSpan)) (v40 : Int) : FF := [dT 1 ((.ptr 82 0) :: (dT 5 ((.row false (.rSpan v39)) :: (dT 8 [])))), dc, dc, dT 14 ([.row false (.rSpan p0.xFirst), (tL v40)]), (tL 0) :: (dT 15 []), dT 2 ((.hdr 15) :: (sl 0 13 (eRecv p0))), sl 13 2 (eRecv p0) ++ (dT 14 []), dc]
def fr28_19 (p0 : SRecv) (v39 : (List SSpan)) (v40 v44 : Int) : FF := [dT 1 ((.ptr 82 0) :: (dT 5 ((.row false (.rSpan v39)) :: (dT 8 [])))), dc, dc, dT 14 ([.row false (.rSpan p0.xFirst), (tL v40)]), (tL v44) :: (dT 15 []), dT 2 ((.hdr 15) :: (sl 0 13 (eRecv p0))), sl 13 2 (eRecv p0) ++ (dT 14 []), dc]
def fr28_20 : FF := [dc, dc, dc, dc, dc, dc, dc, dc]
def fr28_21 (p0 : SRecv) (v39 : (List SSpan)) (v40 v41 : Int) : FF := [dT 1 ((.ptr 82 0) :: (dT 5 ((.row false (.rSpan v39)) :: (dT 8 [])))), dc, dc, dT 14 ([.row false (.rSpan p0.xFirst), (tL v40)]), (tL v41) :: (dT 15 []), dT 2 ((.hdr 15) :: (sl 0 13 (eRecv p0))), sl 13 2 (eRecv p0) ++ (dT 14 []), dc]
theorem s28_18_t (cp : CP) (n : Nat) (p0 : SRecv) (v39 : (List SSpan)) (v40 v41 : Int) (k : KX R) : X cp n i28_4 (fr28_21 p0 v39 v40 v41) k = s28_18 cp n p0 v39 v40 v41 (fun v44 => k .norm (fr28_19 p0 v39 v40 v44)) (k .ret fr28_7) (k (.exit 2) fr28_20) := by kernel_rfl
theorem l28_22_t (cp : CP) (n : Nat) : ∀ (m : Nat) (p0 : SRecv) (v39 : (List SSpan)) (v40 v41 : Int) (k : KX R), loopN2 (X cp n i28_4) m (fr28_21 p0 v39 v40 v41) k = l28_22 cp n m p0 v39 v40 v41 (k .ret fr28_7) (k (.exit 2) fr28_20)
  | 0, _, _, _, _, _ => rfl
  | m + 1, p0, v39, v40, v41, k => (loopN2_succ (X cp n i28_4) m (fr28_21 p0 v39 v40 v41) k).trans ((s28_18_t cp n p0 v39 v40 v41 (loopT (X cp n i28_4) m k)).trans ((show s28_18 cp n p0 v39 v40 v41 (fun v44 => loopT (X cp n i28_4) m k .norm (fr28_19 p0 v39 v40 v44)) (loopT (X cp n i28_4) m k .ret fr28_7) (loopT (X cp n i28_4) m k (.exit 2) fr28_20) = s28_18 cp n p0 v39 v40 v41 (fun v44 => loopN2 (X cp n i28_4) m (fr28_21 p0 v39 v40 v44) k) (k .ret fr28_7) (k (.exit 2) fr28_20) from by kernel_rfl).trans (congrArg (fun q => s28_18 cp n p0 v39 v40 v41 q (k .ret fr28_7) (k (.exit 2) fr28_20)) (funext fun v44 => l28_22_t cp n m p0 v39 v40 v44 k))))
theorem s28_23_t (cp : CP) (n : Nat) (p0 : SRecv) (v39 : (List SSpan)) (v40 : Int) (k : KX R) : X cp n i28_5 (fr28_17 p0 v39 v40) k = s28_23 cp n p0 v39 v40 (k .ret fr28_7) (k (.exit 2) fr28_20) := (show X cp n i28_5 (fr28_17 p0 v39 v40) k = loopN2 (X cp n i28_4) n (fr28_21 p0 v39 v40 0) k from by kernel_rfl).trans (l28_22_t cp n n p0 v39 v40 0 k)
theorem s28_24_t (cp : CP) (n : Nat) (p0 : SRecv) (v39 : (List SSpan)) (v40 : Int) (k : KX R) : X cp n i28_6 (fr28_17 p0 v39 v40) k = s28_24 cp n p0 v39 v40 (k .norm fr28_20) (k .ret fr28_7) := (show X cp n i28_6 (fr28_17 p0 v39 v40) k = X cp n i28_5 (fr28_17 p0 v39 v40) (blkT 2 k) from by kernel_rfl).trans ((s28_23_t cp n p0 v39 v40 (blkT 2 k)).trans (by kernel_rfl))
theorem s28_25_t (cp : CP) (n : Nat) (p0 : SRecv) (v39 : (List SSpan)) (k : KX R) : X cp n i28_7 (fr28_15 p0 v39) k = s28_25 cp n p0 v39 (k .norm fr28_20) (k .ret fr28_7) := ((fun c => (show X cp n (.seq (.fin (.reg g28_11) [61] []) c) (fr28_15 p0 v39) k = s28_16 cp n p0 v39 (fun v40 => X cp n c (fr28_17 p0 v39 v40) k) from by kernel_rfl)) i28_6).trans (congrArg (fun q => s28_16 cp n p0 v39 q) (funext fun v40 => s28_24_t cp n p0 v39 v40 k))
def fr28_27 : FF := [dT 2 ((tB true) :: (dT 13 [])), dc, dc, dc, dc, dc, dc, dc]
theorem s28_26_t (cp : CP) (n : Nat) (k : KX R) : X cp n i28_8 fr28_20 k = s28_26 cp n (k .ret fr28_27) := by kernel_rfl
def fr28_28 (v45 : Bool) : FF := [dT 2 ((tB v45) :: (dT 13 [])), dc, dc, dc, dc, dc, dc, dc]
theorem s28_29_t (cp : CP) (n : Nat) (p0 : SRecv) (v39 : (List SSpan)) (k : KX R) : X cp n i28_9 (fr28_15 p0 v39) k = s28_29 cp n p0 v39 (fun v45 => k .ret (fr28_28 v45)) := (show X cp n i28_9 (fr28_15 p0 v39) k = X cp n i28_7 (fr28_15 p0 v39) (seqT (X cp n) i28_8 k) from by kernel_rfl).trans ((show X cp n i28_7 (fr28_15 p0 v39) (seqT (X cp n) i28_8 k) = s28_25 cp n p0 v39 (X cp n i28_8 fr28_20 k) (k .ret (fr28_28 false)) from (s28_25_t cp n p0 v39 (seqT (X cp n) i28_8 k)).trans (by kernel_rfl)).trans (congrArg (fun q => s28_25 cp n p0 v39 q (k .ret (fr28_28 false))) ((s28_26_t cp n  k).trans (show s28_26 cp n (k .ret fr28_27) = s28_26 cp n (k .ret (fr28_28 true)) from by kernel_rfl))))
def fr28_30 (v46 : Bool) : FF := [dT 2 ((tB v46) :: (dT 13 [])), dc, dc, dc, dc, dc, dc, dc]
theorem s28_31_t (cp : CP) (n : Nat) (p0 : SRecv) (k : KX R) : X cp n i28_10 (fr28_8 p0) k = s28_31 cp n p0 (fun v46 => k .ret (fr28_30 v46)) := ((fun c => (show X cp n (.seq (.fin (.reg g28_10) [58, 59, 60] [(104, 15)]) c) (fr28_8 p0) k = s28_14 cp n p0 (fun v39 => X cp n c (fr28_15 p0 v39) k) from by kernel_rfl)) i28_9).trans (congrArg (fun q => s28_14 cp n p0 q) (funext fun v39 => (s28_29_t cp n p0 v39 k).trans (show s28_29 cp n p0 v39 (fun v45 => k .ret (fr28_28 v45)) = s28_29 cp n p0 v39 (fun v45 => k .ret (fr28_30 v45)) from by kernel_rfl)))
def fr28_32 (v47 : Bool) : FF := [dT 2 ((tB v47) :: (dT 13 [])), dc, dc, dc, dc, dc, dc, dc]
theorem s28_33_t (cp : CP) (n : Nat) (p0 : SRecv) (k : KX R) : X cp n i28_11 (fr28_2 p0) k = s28_33 cp n p0 (fun v47 => k .ret (fr28_32 v47)) := (show X cp n i28_11 (fr28_2 p0) k = X cp n i28_3 (fr28_2 p0) (seqT (X cp n) i28_10 k) from by kernel_rfl).trans ((show X cp n i28_3 (fr28_2 p0) (seqT (X cp n) i28_10 k) = s28_13 cp n p0 (X cp n i28_10 (fr28_8 p0) k) (k .ret (fr28_32 false)) from (s28_13_t cp n p0 (seqT (X cp n) i28_10 k)).trans (by kernel_rfl)).trans (congrArg (fun q => s28_13 cp n p0 q (k .ret (fr28_32 false))) ((s28_31_t cp n p0 k).trans (show s28_31 cp n p0 (fun v46 => k .ret (fr28_30 v46)) = s28_31 cp n p0 (fun v46 => k .ret (fr28_32 v46)) from by kernel_rfl))))
def fr28_34 (v48 : Bool) : FF := [dT 2 ((tB v48) :: (dT 13 [])), dc, dc, dc, dc, dc, dc, dc]
def fr28_36 (p0 : SRecv) : FF := [(.agg (eRecv p0)) :: (dT 15 []), dc, dc, dc, dc, dc, dc, dc]
theorem s28_35_t (cp : CP) (n : Nat) (p0 : SRecv) (k : KX R) : X cp n i28_12 (fr28_36 p0) k = s28_35 cp n p0 (fun v48 => k .ret (fr28_34 v48)) := ((fun c => (show X cp n (.seq (.fin (.reg g28_0) [0, 2] []) (.seq (.fin (.reg g28_1) [10, 11] []) c)) (fr28_36 p0) k = s28_1 cp n p0 (X cp n c (fr28_2 p0) k) from by kernel_rfl)) i28_11).trans (congrArg (fun q => s28_1 cp n p0 q) ((s28_33_t cp n p0 k).trans (show s28_33 cp n p0 (fun v47 => k .ret (fr28_32 v47)) = s28_33 cp n p0 (fun v47 => k .ret (fr28_34 v47)) from by kernel_rfl)))
theorem run28 (cp : CP) (n : Nat) (p0 : SRecv) (k : Ret2 RW → Option R) : G28 cp (n + 1) p0 (fun r0 => k ⟨(tB r0), [], []⟩) = run2 U cp (callP cp n) n fn28 [.agg (eRecv p0)] [] k := ((X_run (f := fn28) (av := [.agg (eRecv p0)]) (cells := []) (code := i28_12) (fr := (fr28_36 p0)) (k := k) (by kernel_rfl) (fun K => by kernel_rfl)).trans ((s28_35_t cp n p0 (finK2 fn28 k)).trans (by kernel_rfl))).symm
/-! tideway/recv.Check -/
def fr10_2 (p0 : SRecv) : FF := [dT 1 ((.ptr 102 0) :: (dT 14 [])), dc, dc, dc, dc, dc, dT 6 ((.hdr 15) :: (sl 0 9 (eRecv p0))), sl 9 6 (eRecv p0) ++ (dT 10 [])]
def fr10_4 : FF := [dT 2 ((tL 230) :: (dT 13 [])), dc, dc, dc, dc, dc, dc, dc]
def fr10_6 (v3 : Int) : FF := [dT 2 ((tL v3) :: (dT 13 [])), dc, dc, dc, dc, dc, dc, dc]
theorem s10_5_t (cp : CP) (n : Nat) (p0 : SRecv) (k : KX R) : X cp n i10_0 (fr10_2 p0) k = s10_5 cp n p0 (fun v3 => k .ret (fr10_6 v3)) := by kernel_rfl
def fr10_7 (v4 : Int) : FF := [dT 2 ((tL v4) :: (dT 13 [])), dc, dc, dc, dc, dc, dc, dc]
theorem s10_8_t (cp : CP) (n : Nat) (p0 : SRecv) (k : KX R) : X cp n i10_1 (fr10_2 p0) k = s10_8 cp n p0 (fun v4 => k .ret (fr10_7 v4)) := ((fun c => (show X cp n (.seq (.fin (.reg g10_1) [4, 5, 6, 7, 8, 9, 10, 11, 12, 13, 14, 15, 16, 17, 18, 19, 20, 21, 22, 23, 24, 25, 26, 27, 28, 29, 30, 31, 32, 33, 34, 35, 36, 37, 38, 39, 40, 41, 42] []) (.seq (.seq (.fin (.reg g10_2) [3, 43, 44, 45, 46, 47, 48, 49, 50, 51, 52, 53, 54, 55, 56, 57, 58, 59, 60, 61, 62, 63, 64, 65, 66, 67, 68, 69, 70, 71, 72, 73, 74, 75, 76, 77] []) (.fin (.cond (.s 78) (.seq (.fin (.reg g10_3) [1, 78] [(102, 15)]) (.ret)) (.skip)) [78] [])) c)) (fr10_2 p0) k = s10_3 cp n p0 (X cp n c (fr10_2 p0) k) (k .ret (fr10_7 230)) from by kernel_rfl)) i10_0).trans (congrArg (fun q => s10_3 cp n p0 q (k .ret (fr10_7 230))) ((s10_5_t cp n p0 k).trans (show s10_5 cp n p0 (fun v3 => k .ret (fr10_6 v3)) = s10_5 cp n p0 (fun v3 => k .ret (fr10_7 v3)) from by kernel_rfl)))
def fr10_9 (v5 : Int) : FF := [dT 2 ((tL v5) :: (dT 13 [])), dc, dc, dc, dc, dc, dc, dc]
def fr10_11 (p0 : SRecv) : FF := [(.agg (eRecv p0)) :: (dT 15 []), dc, dc, dc, dc, dc, dc, dc]
theorem s10_10_t (cp : CP) (n : Nat) (p0 : SRecv) (k : KX R) : X cp n i10_2 (fr10_11 p0) k = s10_10 cp n p0 (fun v5 => k .ret (fr10_9 v5)) := ((fun c => (show X cp n (.seq (.fin (.reg g10_0) [0, 2] []) c) (fr10_11 p0) k = s10_1 cp n p0 (X cp n c (fr10_2 p0) k) from by kernel_rfl)) i10_1).trans (congrArg (fun q => s10_1 cp n p0 q) ((s10_8_t cp n p0 k).trans (show s10_8 cp n p0 (fun v4 => k .ret (fr10_7 v4)) = s10_8 cp n p0 (fun v4 => k .ret (fr10_9 v4)) from by kernel_rfl)))
theorem run10 (cp : CP) (n : Nat) (p0 : SRecv) (k : Ret2 RW → Option R) : G10 cp (n + 1) p0 (fun r0 => k ⟨(tL r0), [], []⟩) = run2 U cp (callP cp n) n fn10 [.agg (eRecv p0)] [] k := ((X_run (f := fn10) (av := [.agg (eRecv p0)]) (cells := []) (code := i10_2) (fr := (fr10_11 p0)) (k := k) (by kernel_rfl) (fun K => by kernel_rfl)).trans ((s10_10_t cp n p0 (finK2 fn10 k)).trans (by kernel_rfl))).symm
/-! tideway/recv.copied -/
def fr29_2 (p0 : SRecv) (v10 : (List Int)) (v11 : (List SSpan)) : FF := [dT 1 ((.ptr 37 0) :: (.ptr 53 0) :: (.row false (.rPiece p0.xLate)) :: (dT 12 [])), dc, dT 5 ([.hdr 15, (tL p0.xNext), .row true (.ruint8 v10), .row true (.rPiece []), (tL p0.xCap), (tL p0.xShift), (tL p0.xEdge), (tI .u32 p0.xRecent), (tB p0.xStamps), (tB p0.xSacks), (tL p0.xFin)]), [(tB p0.xDone), .row true (.rSpan v11), (tI .u32 p0.xIrs), (tI .u32 p0.xOwn), (tB p0.xStamp), .hdr 15, (tL 0), .row true (.ruint8 []), .row true (.rPiece []), (tL 0), (tL 0), (tL 0), (tI .u32 0), (tB false), (tB false), (tL 0)], (tB false) :: (.row true (.rSpan [])) :: (tI .u32 0) :: (tI .u32 0) :: (tB false) :: (dT 11 [])]
def fr29_4 (p0 : SRecv) (v10 : (List Int)) (v11 : (List SSpan)) (v12 : Int) : FF := [dT 1 ((.ptr 37 0) :: (.ptr 53 0) :: (dT 13 [])), dT 2 ((.row false (.rPiece p0.xLate)) :: (tL v12) :: (tL 0) :: (dT 11 [])), dT 5 ([.hdr 15, (tL p0.xNext), .row true (.ruint8 v10), .row true (.rPiece []), (tL p0.xCap), (tL p0.xShift), (tL p0.xEdge), (tI .u32 p0.xRecent), (tB p0.xStamps), (tB p0.xSacks), (tL p0.xFin)]), [(tB p0.xDone), .row true (.rSpan v11), (tI .u32 p0.xIrs), (tI .u32 p0.xOwn), (tB p0.xStamp), .hdr 15, (tL 0), .row true (.ruint8 []), .row true (.rPiece []), (tL 0), (tL 0), (tL 0), (tI .u32 0), (tB false), (tB false), (tL 0)], (tB false) :: (.row true (.rSpan [])) :: (tI .u32 0) :: (tI .u32 0) :: (tB false) :: (dT 11 [])]
def fr29_6 (p0 : SRecv) (v10 : (List Int)) (v11 : (List SSpan)) (v12 v16 : Int) (v17 : (List SPiece)) : FF := [dT 1 ((.ptr 37 0) :: (.ptr 53 0) :: (dT 13 [])), dT 2 ((.row false (.rPiece p0.xLate)) :: (tL v12) :: (tL v16) :: (dT 11 [])), dT 5 ([.hdr 15, (tL p0.xNext), .row true (.ruint8 v10), .row true (.rPiece v17), (tL p0.xCap), (tL p0.xShift), (tL p0.xEdge), (tI .u32 p0.xRecent), (tB p0.xStamps), (tB p0.xSacks), (tL p0.xFin)]), [(tB p0.xDone), .row true (.rSpan v11), (tI .u32 p0.xIrs), (tI .u32 p0.xOwn), (tB p0.xStamp), .hdr 15, (tL 0), .row true (.ruint8 []), .row true (.rPiece []), (tL 0), (tL 0), (tL 0), (tI .u32 0), (tB false), (tB false), (tL 0)], (tB false) :: (.row true (.rSpan [])) :: (tI .u32 0) :: (tI .u32 0) :: (tB false) :: (dT 11 [])]
def fr29_7 (p0 : SRecv) (v10 : (List Int)) (v11 : (List SSpan)) (v14 : (List SPiece)) : FF := [dT 1 ((.ptr 37 0) :: (.ptr 53 0) :: (dT 13 [])), dc, dT 5 ([.hdr 15, (tL p0.xNext), .row true (.ruint8 v10), .row true (.rPiece v14), (tL p0.xCap), (tL p0.xShift), (tL p0.xEdge), (tI .u32 p0.xRecent), (tB p0.xStamps), (tB p0.xSacks), (tL p0.xFin)]), [(tB p0.xDone), .row true (.rSpan v11), (tI .u32 p0.xIrs), (tI .u32 p0.xOwn), (tB p0.xStamp), .hdr 15, (tL 0), .row true (.ruint8 []), .row true (.rPiece []), (tL 0), (tL 0), (tL 0), (tI .u32 0), (tB false), (tB false), (tL 0)], (tB false) :: (.row true (.rSpan [])) :: (tI .u32 0) :: (tI .u32 0) :: (tB false) :: (dT 11 [])]
def fr29_8 (p0 : SRecv) (v10 : (List Int)) (v11 : (List SSpan)) (v12 v13 : Int) (v14 : (List SPiece)) : FF := [dT 1 ((.ptr 37 0) :: (.ptr 53 0) :: (dT 13 [])), dT 2 ((.row false (.rPiece p0.xLate)) :: (tL v12) :: (tL v13) :: (dT 11 [])), dT 5 ([.hdr 15, (tL p0.xNext), .row true (.ruint8 v10), .row true (.rPiece v14), (tL p0.xCap), (tL p0.xShift), (tL p0.xEdge), (tI .u32 p0.xRecent), (tB p0.xStamps), (tB p0.xSacks), (tL p0.xFin)]), [(tB p0.xDone), .row true (.rSpan v11), (tI .u32 p0.xIrs), (tI .u32 p0.xOwn), (tB p0.xStamp), .hdr 15, (tL 0), .row true (.ruint8 []), .row true (.rPiece []), (tL 0), (tL 0), (tL 0), (tI .u32 0), (tB false), (tB false), (tL 0)], (tB false) :: (.row true (.rSpan [])) :: (tI .u32 0) :: (tI .u32 0) :: (tB false) :: (dT 11 [])]
theorem s29_5_t (cp : CP) (n : Nat) (p0 : SRecv) (v10 : (List Int)) (v11 : (List SSpan)) (v12 v13 : Int) (v14 : (List SPiece)) (k : KX R) : X cp n i29_0 (fr29_8 p0 v10 v11 v12 v13 v14) k = s29_5 cp n p0 v10 v11 v12 v13 v14 (fun v16 v17 => k .norm (fr29_6 p0 v10 v11 v12 v16 v17)) (k (.exit 0) (fr29_7 p0 v10 v11 v14)) := by kernel_rfl
def fr29_9 (p0 : SRecv) (v10 : (List Int)) (v11 : (List SSpan)) (v18 : (List SPiece)) : FF := [dT 1 ((.ptr 37 0) :: (.ptr 53 0) :: (dT 13 [])), dc, dT 5 ([.hdr 15, (tL p0.xNext), .row true (.ruint8 v10), .row true (.rPiece v18), (tL p0.xCap), (tL p0.xShift), (tL p0.xEdge), (tI .u32 p0.xRecent), (tB p0.xStamps), (tB p0.xSacks), (tL p0.xFin)]), [(tB p0.xDone), .row true (.rSpan v11), (tI .u32 p0.xIrs), (tI .u32 p0.xOwn), (tB p0.xStamp), .hdr 15, (tL 0), .row true (.ruint8 []), .row true (.rPiece []), (tL 0), (tL 0), (tL 0), (tI .u32 0), (tB false), (tB false), (tL 0)], (tB false) :: (.row true (.rSpan [])) :: (tI .u32 0) :: (tI .u32 0) :: (tB false) :: (dT 11 [])]
theorem l29_10_t (cp : CP) (n : Nat) : ∀ (m : Nat) (p0 : SRecv) (v10 : (List Int)) (v11 : (List SSpan)) (v12 v13 : Int) (v14 : (List SPiece)) (k : KX R), loopN2 (X cp n i29_0) m (fr29_8 p0 v10 v11 v12 v13 v14) k = l29_10 cp n m p0 v10 v11 v12 v13 v14 (fun v18 => k (.exit 0) (fr29_9 p0 v10 v11 v18))
  | 0, _, _, _, _, _, _, _ => rfl
  | m + 1, p0, v10, v11, v12, v13, v14, k => (loopN2_succ (X cp n i29_0) m (fr29_8 p0 v10 v11 v12 v13 v14) k).trans ((s29_5_t cp n p0 v10 v11 v12 v13 v14 (loopT (X cp n i29_0) m k)).trans ((show s29_5 cp n p0 v10 v11 v12 v13 v14 (fun v16 v17 => loopT (X cp n i29_0) m k .norm (fr29_6 p0 v10 v11 v12 v16 v17)) (loopT (X cp n i29_0) m k (.exit 0) (fr29_7 p0 v10 v11 v14)) = s29_5 cp n p0 v10 v11 v12 v13 v14 (fun v16 v17 => loopN2 (X cp n i29_0) m (fr29_8 p0 v10 v11 v12 v16 v17) k) (k (.exit 0) (fr29_9 p0 v10 v11 v14)) from by kernel_rfl).trans (congrArg (fun q => s29_5 cp n p0 v10 v11 v12 v13 v14 q (k (.exit 0) (fr29_9 p0 v10 v11 v14))) (funext fun v16 => funext fun v17 => l29_10_t cp n m p0 v10 v11 v12 v16 v17 k))))
theorem s29_11_t (cp : CP) (n : Nat) (p0 : SRecv) (v10 : (List Int)) (v11 : (List SSpan)) (v12 : Int) (k : KX R) : X cp n i29_1 (fr29_4 p0 v10 v11 v12) k = s29_11 cp n p0 v10 v11 v12 (fun v18 => k (.exit 0) (fr29_9 p0 v10 v11 v18)) := (show X cp n i29_1 (fr29_4 p0 v10 v11 v12) k = loopN2 (X cp n i29_0) n (fr29_8 p0 v10 v11 v12 0 []) k from by kernel_rfl).trans (l29_10_t cp n n p0 v10 v11 v12 0 [] k)
def fr29_12 (p0 : SRecv) (v10 : (List Int)) (v11 : (List SSpan)) (v19 : (List SPiece)) : FF := [dT 1 ((.ptr 37 0) :: (.ptr 53 0) :: (dT 13 [])), dc, dT 5 ([.hdr 15, (tL p0.xNext), .row true (.ruint8 v10), .row true (.rPiece v19), (tL p0.xCap), (tL p0.xShift), (tL p0.xEdge), (tI .u32 p0.xRecent), (tB p0.xStamps), (tB p0.xSacks), (tL p0.xFin)]), [(tB p0.xDone), .row true (.rSpan v11), (tI .u32 p0.xIrs), (tI .u32 p0.xOwn), (tB p0.xStamp), .hdr 15, (tL 0), .row true (.ruint8 []), .row true (.rPiece []), (tL 0), (tL 0), (tL 0), (tI .u32 0), (tB false), (tB false), (tL 0)], (tB false) :: (.row true (.rSpan [])) :: (tI .u32 0) :: (tI .u32 0) :: (tB false) :: (dT 11 [])]
theorem s29_13_t (cp : CP) (n : Nat) (p0 : SRecv) (v10 : (List Int)) (v11 : (List SSpan)) (v12 : Int) (k : KX R) : X cp n i29_2 (fr29_4 p0 v10 v11 v12) k = s29_13 cp n p0 v10 v11 v12 (fun v19 => k .norm (fr29_12 p0 v10 v11 v19)) := (show X cp n i29_2 (fr29_4 p0 v10 v11 v12) k = X cp n i29_1 (fr29_4 p0 v10 v11 v12) (blkT 0 k) from by kernel_rfl).trans ((s29_11_t cp n p0 v10 v11 v12 (blkT 0 k)).trans (by kernel_rfl))
def fr29_14 (p0 : SRecv) (v10 : (List Int)) (v11 : (List SSpan)) (v20 : (List SPiece)) : FF := [dT 1 ((.ptr 37 0) :: (.ptr 53 0) :: (dT 13 [])), dc, dT 5 ([.hdr 15, (tL p0.xNext), .row true (.ruint8 v10), .row true (.rPiece v20), (tL p0.xCap), (tL p0.xShift), (tL p0.xEdge), (tI .u32 p0.xRecent), (tB p0.xStamps), (tB p0.xSacks), (tL p0.xFin)]), [(tB p0.xDone), .row true (.rSpan v11), (tI .u32 p0.xIrs), (tI .u32 p0.xOwn), (tB p0.xStamp), .hdr 15, (tL 0), .row true (.ruint8 []), .row true (.rPiece []), (tL 0), (tL 0), (tL 0), (tI .u32 0), (tB false), (tB false), (tL 0)], (tB false) :: (.row true (.rSpan [])) :: (tI .u32 0) :: (tI .u32 0) :: (tB false) :: (dT 11 [])]
theorem s29_15_t (cp : CP) (n : Nat) (p0 : SRecv) (v10 : (List Int)) (v11 : (List SSpan)) (k : KX R) : X cp n i29_3 (fr29_2 p0 v10 v11) k = s29_15 cp n p0 v10 v11 (fun v20 => k .norm (fr29_14 p0 v10 v11 v20)) := ((fun c => (show X cp n (.seq (.fin (.reg g29_5) [3] []) c) (fr29_2 p0 v10 v11) k = s29_3 cp n p0 v10 v11 (fun v12 => X cp n c (fr29_4 p0 v10 v11 v12) k) from by kernel_rfl)) i29_2).trans (congrArg (fun q => s29_3 cp n p0 v10 v11 q) (funext fun v12 => (s29_13_t cp n p0 v10 v11 v12 k).trans (show s29_13 cp n p0 v10 v11 v12 (fun v19 => k .norm (fr29_12 p0 v10 v11 v19)) = s29_13 cp n p0 v10 v11 v12 (fun v19 => k .norm (fr29_14 p0 v10 v11 v19)) from by kernel_rfl)))
def fr29_17 (p0 : SRecv) (v10 : (List Int)) (v11 : (List SSpan)) (v20 : (List SPiece)) : FF := [dT 2 ((.ptr 53 0) :: (dT 13 [])), dc, dc, dT 5 ([.hdr 15, (tL p0.xNext), .row true (.ruint8 v10), .row true (.rPiece v20), (tL p0.xCap), (tL p0.xShift), (tL p0.xEdge), (tI .u32 p0.xRecent), (tB p0.xStamps), (tB p0.xSacks), (tL p0.xFin)]), (tB p0.xDone) :: (.row true (.rSpan v11)) :: (tI .u32 p0.xIrs) :: (tI .u32 p0.xOwn) :: (tB p0.xStamp) :: (dT 11 [])]
theorem s29_16_t (cp : CP) (n : Nat) (p0 : SRecv) (v10 : (List Int)) (v11 : (List SSpan)) (v20 : (List SPiece)) (k : KX R) : X cp n i29_4 (fr29_14 p0 v10 v11 v20) k = s29_16 cp n p0 v10 v11 v20 (k .ret (fr29_17 p0 v10 v11 v20)) := by kernel_rfl
def fr29_18 (p0 : SRecv) (v10 : (List Int)) (v11 : (List SSpan)) (v21 : (List SPiece)) : FF := [dT 2 ((.ptr 53 0) :: (dT 13 [])), dc, dc, dT 5 ([.hdr 15, (tL p0.xNext), .row true (.ruint8 v10), .row true (.rPiece v21), (tL p0.xCap), (tL p0.xShift), (tL p0.xEdge), (tI .u32 p0.xRecent), (tB p0.xStamps), (tB p0.xSacks), (tL p0.xFin)]), (tB p0.xDone) :: (.row true (.rSpan v11)) :: (tI .u32 p0.xIrs) :: (tI .u32 p0.xOwn) :: (tB p0.xStamp) :: (dT 11 [])]
theorem s29_19_t (cp : CP) (n : Nat) (p0 : SRecv) (v10 : (List Int)) (v11 : (List SSpan)) (k : KX R) : X cp n i29_5 (fr29_2 p0 v10 v11) k = s29_19 cp n p0 v10 v11 (fun v21 => k .ret (fr29_18 p0 v10 v11 v21)) := (show X cp n i29_5 (fr29_2 p0 v10 v11) k = X cp n i29_3 (fr29_2 p0 v10 v11) (seqT (X cp n) i29_4 k) from by kernel_rfl).trans ((show X cp n i29_3 (fr29_2 p0 v10 v11) (seqT (X cp n) i29_4 k) = s29_15 cp n p0 v10 v11 (fun v20 => X cp n i29_4 (fr29_14 p0 v10 v11 v20) k) from (s29_15_t cp n p0 v10 v11 (seqT (X cp n) i29_4 k)).trans (by kernel_rfl)).trans (congrArg (fun q => s29_15 cp n p0 v10 v11 q) (funext fun v20 => (s29_16_t cp n p0 v10 v11 v20 k).trans (show s29_16 cp n p0 v10 v11 v20 (k .ret (fr29_17 p0 v10 v11 v20)) = s29_16 cp n p0 v10 v11 v20 (k .ret (fr29_18 p0 v10 v11 v20)) from by kernel_rfl))))
def fr29_20 (v22 : SRecv) : FF := [dT 2 ((.ptr 53 0) :: (dT 13 [])), dc, dc, dT 5 ((.hdr 15) :: (sl 0 10 (eRecvt v22))), sl 10 5 (eRecvt v22) ++ (dT 11 [])]
def fr29_22 (p0 : SRecv) : FF := [(.agg (eRecv p0)) :: (dT 15 []), dc, dc, dc, dc]
theorem s29_21_t (cp : CP) (n : Nat) (p0 : SRecv) (k : KX R) : X cp n i29_6 (fr29_22 p0) k = s29_21 cp n p0 (fun v22 => k .ret (fr29_20 v22)) := ((fun c => (show X cp n (.seq (.fin (.reg g29_0) [0] []) (.seq (.fin (.reg g29_1) [6, 7, 8, 9, 10] []) (.seq (.fin (.reg g29_2) [11, 12, 13, 14] []) (.seq (.fin (.reg g29_3) [15, 16] []) (.seq (.fin (.reg g29_4) [17] []) c))))) (fr29_22 p0) k = s29_1 cp n p0 (fun v10 v11 => X cp n c (fr29_2 p0 v10 v11) k) from by kernel_rfl)) i29_5).trans (congrArg (fun q => s29_1 cp n p0 q) (funext fun v10 => funext fun v11 => (s29_19_t cp n p0 v10 v11 k).trans (show s29_19 cp n p0 v10 v11 (fun v21 => k .ret (fr29_18 p0 v10 v11 v21)) = s29_19 cp n p0 v10 v11 (fun v21 => k .ret (fr29_20 (SRecv.mk p0.xNext v10 v21 p0.xCap p0.xShift p0.xEdge p0.xRecent p0.xStamps p0.xSacks p0.xFin p0.xDone v11 p0.xIrs p0.xOwn p0.xStamp))) from by kernel_rfl)))
theorem run29 (cp : CP) (n : Nat) (p0 : SRecv) (k : Ret2 RW → Option R) : G29 cp (n + 1) p0 (fun r0 => k ⟨.agg (eRecvt r0), [], []⟩) = run2 U cp (callP cp n) n fn29 [.agg (eRecv p0)] [] k := ((X_run (f := fn29) (av := [.agg (eRecv p0)]) (cells := []) (code := i29_6) (fr := (fr29_22 p0)) (k := k) (by kernel_rfl) (fun K => by kernel_rfl)).trans ((s29_21_t cp n p0 (finK2 fn29 k)).trans (by kernel_rfl))).symm
/-! tideway/seq.Diff -/
theorem run31 (cp : CP) (n : Nat) (p0 p1 : Int) (k : Ret2 RW → Option R) : G31 cp (n + 1) p0 p1 (fun r0 => k ⟨(tL r0), [], []⟩) = run2 U cp (callP cp n) n fn31 [(tI .u32 p0), (tI .u32 p1)] [] k := by kernel_rfl
/-! tideway/seq.Sum -/
theorem run58 (cp : CP) (n : Nat) (p0 p1 : Int) (k : Ret2 RW → Option R) : G58 cp (n + 1) p0 p1 (fun r0 => k ⟨(tL r0), [], []⟩) = run2 U cp (callP cp n) n fn58 [(tL p0), (tL p1)] [] k := by kernel_rfl
/-! tideway/seq.Unwrap -/
theorem run30 (cp : CP) (n : Nat) (p0 p1 : Int) (k : Ret2 RW → Option R) : G30 cp (n + 1) p0 p1 (fun r0 => k ⟨(tL r0), [], []⟩) = run2 U cp (callP cp n) n fn30 [(tL p0), (tI .u32 p1)] [] k := by kernel_rfl
/-! tideway/seq.Add -/
theorem run36 (cp : CP) (n : Nat) (p0 p1 : Int) (k : Ret2 RW → Option R) : G36 cp (n + 1) p0 p1 (fun r0 => k ⟨(tI .u32 r0), [], []⟩) = run2 U cp (callP cp n) n fn36 [(tI .u32 p0), (tL p1)] [] k := by kernel_rfl
/-! tideway/recv.window -/
theorem run49 (cp : CP) (n : Nat) (p0 : SRecv) (k : Ret2 RW → Option R) : G49 cp (n + 1) p0 (fun r0 => k ⟨(tL r0), [], []⟩) = run2 U cp (callP cp n) n fn49 [.agg (eRecv p0)] [] k := by kernel_rfl
/-! tideway/recv.tell -/
def fr32_2 (p0 : SRecv) (v40 : Int) (v41 : SSegment) : FF := [dT 2 ((.ptr 82 0) :: (dT 1 ((.ptr 98 0) :: (.ptr 114 0) :: (dT 1 ((.ptr 130 0) :: (tL v40) :: (dT 7 [])))))), dc, dc, dc, dc, dT 2 ((.hdr 15) :: (sl 0 13 (eRecv p0))), sl 13 2 (eRecv p0) ++ [.hdr 15, (tL 0), .row true (.ruint8 []), .row true (.rPiece []), (tL 0), (tL 0), (tL 0), (tI .u32 0), (tB false), (tB false), (tL 0), (tB false), .row true (.rSpan []), (tI .u32 0)], [(tI .u32 0), (tB false), .hdr 15, (tL 0), (tL 0), (tI .u32 0), (tI .u32 0), (tL 0), (tL 0), (tL 0), (tL 0), (tL 0), (tB false), (tB false), (tI .u32 0), (tI .u32 0)], [.row true (.rBlock []), .row true (.ruint8 []), .hdr 15, (tL v41.xSrcPort), (tL v41.xDstPort), (tI .u32 v41.xSeq), (tI .u32 v41.xAck), (tL v41.xFlags), (tL v41.xWin), (tL v41.xUrg), (tL v41.xMss), (tL v41.xScale), (tB v41.xSackOk), (tB v41.xStamped), (tI .u32 v41.xVal), (tI .u32 v41.xEcr)], (.row true (.rBlock v41.xSacks)) :: (.row false (.ruint8 v41.xData)) :: (dT 14 [])]
def fr32_4 (p0 : SRecv) (v40 : Int) (v41 : SSegment) (v42 : Int) : FF := [dT 2 ((.ptr 82 0) :: (dT 1 ((.ptr 98 0) :: (.ptr 114 0) :: (dT 1 ((.ptr 130 0) :: (tL v40) :: (dT 7 [])))))), dc, dT 7 ((.row false (.rSpan p0.xFirst)) :: (tL v42) :: (tL 0) :: (dT 6 [])), dc, dc, dT 2 ((.hdr 15) :: (sl 0 13 (eRecv p0))), sl 13 2 (eRecv p0) ++ [.hdr 15, (tL 0), .row true (.ruint8 []), .row true (.rPiece []), (tL 0), (tL 0), (tL 0), (tI .u32 0), (tB false), (tB false), (tL 0), (tB false), .row true (.rSpan []), (tI .u32 0)], [(tI .u32 0), (tB false), .hdr 15, (tL 0), (tL 0), (tI .u32 0), (tI .u32 0), (tL 0), (tL 0), (tL 0), (tL 0), (tL 0), (tB false), (tB false), (tI .u32 0), (tI .u32 0)], [.row true (.rBlock []), .row true (.ruint8 []), .hdr 15, (tL v41.xSrcPort), (tL v41.xDstPort), (tI .u32 v41.xSeq), (tI .u32 v41.xAck), (tL v41.xFlags), (tL v41.xWin), (tL v41.xUrg), (tL v41.xMss), (tL v41.xScale), (tB v41.xSackOk), (tB v41.xStamped), (tI .u32 v41.xVal), (tI .u32 v41.xEcr)], (.row true (.rBlock v41.xSacks)) :: (.row false (.ruint8 v41.xData)) :: (dT 14 [])]
def fr32_6 (p0 : SRecv) (v40 : Int) (v41 : SSegment) (v42 v47 : Int) (v48 : (List SBlock)) : FF := [dT 2 ((.ptr 82 0) :: (dT 1 ((.ptr 98 0) :: (.ptr 114 0) :: (dT 1 ((.ptr 130 0) :: (tL v40) :: (dT 7 [])))))), dc, dT 7 ((.row false (.rSpan p0.xFirst)) :: (tL v42) :: (tL v47) :: (dT 6 [])), dc, dc, dT 2 ((.hdr 15) :: (sl 0 13 (eRecv p0))), sl 13 2 (eRecv p0) ++ [.hdr 15, (tL 0), .row true (.ruint8 []), .row true (.rPiece []), (tL 0), (tL 0), (tL 0), (tI .u32 0), (tB false), (tB false), (tL 0), (tB false), .row true (.rSpan []), (tI .u32 0)], [(tI .u32 0), (tB false), .hdr 15, (tL 0), (tL 0), (tI .u32 0), (tI .u32 0), (tL 0), (tL 0), (tL 0), (tL 0), (tL 0), (tB false), (tB false), (tI .u32 0), (tI .u32 0)], [.row true (.rBlock []), .row true (.ruint8 []), .hdr 15, (tL v41.xSrcPort), (tL v41.xDstPort), (tI .u32 v41.xSeq), (tI .u32 v41.xAck), (tL v41.xFlags), (tL v41.xWin), (tL v41.xUrg), (tL v41.xMss), (tL v41.xScale), (tB v41.xSackOk), (tB v41.xStamped), (tI .u32 v41.xVal), (tI .u32 v41.xEcr)], (.row true (.rBlock v48)) :: (.row false (.ruint8 v41.xData)) :: (dT 14 [])]
def fr32_7 (p0 : SRecv) (v41 : SSegment) (v44 : (List SBlock)) : FF := [dT 2 ((.ptr 82 0) :: (dT 1 ((.ptr 98 0) :: (.ptr 114 0) :: (dT 1 ((.ptr 130 0) :: (dT 8 [])))))), dc, dc, dc, dc, dT 2 ((.hdr 15) :: (sl 0 13 (eRecv p0))), sl 13 2 (eRecv p0) ++ [.hdr 15, (tL 0), .row true (.ruint8 []), .row true (.rPiece []), (tL 0), (tL 0), (tL 0), (tI .u32 0), (tB false), (tB false), (tL 0), (tB false), .row true (.rSpan []), (tI .u32 0)], [(tI .u32 0), (tB false), .hdr 15, (tL 0), (tL 0), (tI .u32 0), (tI .u32 0), (tL 0), (tL 0), (tL 0), (tL 0), (tL 0), (tB false), (tB false), (tI .u32 0), (tI .u32 0)], [.row true (.rBlock []), .row true (.ruint8 []), .hdr 15, (tL v41.xSrcPort), (tL v41.xDstPort), (tI .u32 v41.xSeq), (tI .u32 v41.xAck), (tL v41.xFlags), (tL v41.xWin), (tL v41.xUrg), (tL v41.xMss), (tL v41.xScale), (tB v41.xSackOk), (tB v41.xStamped), (tI .u32 v41.xVal), (tI .u32 v41.xEcr)], (.row true (.rBlock v44)) :: (.row false (.ruint8 v41.xData)) :: (dT 14 [])]
def fr32_8 (p0 : SRecv) (v40 : Int) (v41 : SSegment) (v42 v43 : Int) (v44 : (List SBlock)) : FF := [dT 2 ((.ptr 82 0) :: (dT 1 ((.ptr 98 0) :: (.ptr 114 0) :: (dT 1 ((.ptr 130 0) :: (tL v40) :: (dT 7 [])))))), dc, dT 7 ((.row false (.rSpan p0.xFirst)) :: (tL v42) :: (tL v43) :: (dT 6 [])), dc, dc, dT 2 ((.hdr 15) :: (sl 0 13 (eRecv p0))), sl 13 2 (eRecv p0) ++ [.hdr 15, (tL 0), .row true (.ruint8 []), .row true (.rPiece []), (tL 0), (tL 0), (tL 0), (tI .u32 0), (tB false), (tB false), (tL 0), (tB false), .row true (.rSpan []), (tI .u32 0)], [(tI .u32 0), (tB false), .hdr 15, (tL 0), (tL 0), (tI .u32 0), (tI .u32 0), (tL 0), (tL 0), (tL 0), (tL 0), (tL 0), (tB false), (tB false), (tI .u32 0), (tI .u32 0)], [.row true (.rBlock []), .row true (.ruint8 []), .hdr 15, (tL v41.xSrcPort), (tL v41.xDstPort), (tI .u32 v41.xSeq), (tI .u32 v41.xAck), (tL v41.xFlags), (tL v41.xWin), (tL v41.xUrg), (tL v41.xMss), (tL v41.xScale), (tB v41.xSackOk), (tB v41.xStamped), (tI .u32 v41.xVal), (tI .u32 v41.xEcr)], (.row true (.rBlock v44)) :: (.row false (.ruint8 v41.xData)) :: (dT 14 [])]
theorem s32_5_t (cp : CP) (n : Nat) (p0 : SRecv) (v40 : Int) (v41 : SSegment) (v42 v43 : Int) (v44 : (List SBlock)) (k : KX R) : X cp n i32_0 (fr32_8 p0 v40 v41 v42 v43 v44) k = s32_5 cp n p0 v40 v41 v42 v43 v44 (fun v47 v48 => k .norm (fr32_6 p0 v40 v41 v42 v47 v48)) (k (.exit 0) (fr32_7 p0 v41 v44)) := by kernel_rfl
def fr32_9 (p0 : SRecv) (v41 : SSegment) (v49 : (List SBlock)) : FF := [dT 2 ((.ptr 82 0) :: (dT 1 ((.ptr 98 0) :: (.ptr 114 0) :: (dT 1 ((.ptr 130 0) :: (dT 8 [])))))), dc, dc, dc, dc, dT 2 ((.hdr 15) :: (sl 0 13 (eRecv p0))), sl 13 2 (eRecv p0) ++ [.hdr 15, (tL 0), .row true (.ruint8 []), .row true (.rPiece []), (tL 0), (tL 0), (tL 0), (tI .u32 0), (tB false), (tB false), (tL 0), (tB false), .row true (.rSpan []), (tI .u32 0)], [(tI .u32 0), (tB false), .hdr 15, (tL 0), (tL 0), (tI .u32 0), (tI .u32 0), (tL 0), (tL 0), (tL 0), (tL 0), (tL 0), (tB false), (tB false), (tI .u32 0), (tI .u32 0)], [.row true (.rBlock []), .row true (.ruint8 []), .hdr 15, (tL v41.xSrcPort), (tL v41.xDstPort), (tI .u32 v41.xSeq), (tI .u32 v41.xAck), (tL v41.xFlags), (tL v41.xWin), (tL v41.xUrg), (tL v41.xMss), (tL v41.xScale), (tB v41.xSackOk), (tB v41.xStamped), (tI .u32 v41.xVal), (tI .u32 v41.xEcr)], (.row true (.rBlock v49)) :: (.row false (.ruint8 v41.xData)) :: (dT 14 [])]
theorem l32_10_t (cp : CP) (n : Nat) : ∀ (m : Nat) (p0 : SRecv) (v40 : Int) (v41 : SSegment) (v42 v43 : Int) (v44 : (List SBlock)) (k : KX R), loopN2 (X cp n i32_0) m (fr32_8 p0 v40 v41 v42 v43 v44) k = l32_10 cp n m p0 v40 v41 v42 v43 v44 (fun v49 => k (.exit 0) (fr32_9 p0 v41 v49))
  | 0, _, _, _, _, _, _, _ => rfl
  | m + 1, p0, v40, v41, v42, v43, v44, k => (loopN2_succ (X cp n i32_0) m (fr32_8 p0 v40 v41 v42 v43 v44) k).trans ((s32_5_t cp n p0 v40 v41 v42 v43 v44 (loopT (X cp n i32_0) m k)).trans ((show s32_5 cp n p0 v40 v41 v42 v43 v44 (fun v47 v48 => loopT (X cp n i32_0) m k .norm (fr32_6 p0 v40 v41 v42 v47 v48)) (loopT (X cp n i32_0) m k (.exit 0) (fr32_7 p0 v41 v44)) = s32_5 cp n p0 v40 v41 v42 v43 v44 (fun v47 v48 => loopN2 (X cp n i32_0) m (fr32_8 p0 v40 v41 v42 v47 v48) k) (k (.exit 0) (fr32_9 p0 v41 v44)) from by kernel_rfl).trans (congrArg (fun q => s32_5 cp n p0 v40 v41 v42 v43 v44 q (k (.exit 0) (fr32_9 p0 v41 v44))) (funext fun v47 => funext fun v48 => l32_10_t cp n m p0 v40 v41 v42 v47 v48 k))))
theorem s32_11_t (cp : CP) (n : Nat) (p0 : SRecv) (v40 : Int) (v41 : SSegment) (v42 : Int) (k : KX R) : X cp n i32_1 (fr32_4 p0 v40 v41 v42) k = s32_11 cp n p0 v40 v41 v42 (fun v49 => k (.exit 0) (fr32_9 p0 v41 v49)) := (show X cp n i32_1 (fr32_4 p0 v40 v41 v42) k = loopN2 (X cp n i32_0) n (fr32_8 p0 v40 v41 v42 0 v41.xSacks) k from by kernel_rfl).trans (l32_10_t cp n n p0 v40 v41 v42 0 v41.xSacks k)
def fr32_12 (p0 : SRecv) (v41 : SSegment) (v50 : (List SBlock)) : FF := [dT 2 ((.ptr 82 0) :: (dT 1 ((.ptr 98 0) :: (.ptr 114 0) :: (dT 1 ((.ptr 130 0) :: (dT 8 [])))))), dc, dc, dc, dc, dT 2 ((.hdr 15) :: (sl 0 13 (eRecv p0))), sl 13 2 (eRecv p0) ++ [.hdr 15, (tL 0), .row true (.ruint8 []), .row true (.rPiece []), (tL 0), (tL 0), (tL 0), (tI .u32 0), (tB false), (tB false), (tL 0), (tB false), .row true (.rSpan []), (tI .u32 0)], [(tI .u32 0), (tB false), .hdr 15, (tL 0), (tL 0), (tI .u32 0), (tI .u32 0), (tL 0), (tL 0), (tL 0), (tL 0), (tL 0), (tB false), (tB false), (tI .u32 0), (tI .u32 0)], [.row true (.rBlock []), .row true (.ruint8 []), .hdr 15, (tL v41.xSrcPort), (tL v41.xDstPort), (tI .u32 v41.xSeq), (tI .u32 v41.xAck), (tL v41.xFlags), (tL v41.xWin), (tL v41.xUrg), (tL v41.xMss), (tL v41.xScale), (tB v41.xSackOk), (tB v41.xStamped), (tI .u32 v41.xVal), (tI .u32 v41.xEcr)], (.row true (.rBlock v50)) :: (.row false (.ruint8 v41.xData)) :: (dT 14 [])]
theorem s32_13_t (cp : CP) (n : Nat) (p0 : SRecv) (v40 : Int) (v41 : SSegment) (v42 : Int) (k : KX R) : X cp n i32_2 (fr32_4 p0 v40 v41 v42) k = s32_13 cp n p0 v40 v41 v42 (fun v50 => k .norm (fr32_12 p0 v41 v50)) := (show X cp n i32_2 (fr32_4 p0 v40 v41 v42) k = X cp n i32_1 (fr32_4 p0 v40 v41 v42) (blkT 0 k) from by kernel_rfl).trans ((s32_11_t cp n p0 v40 v41 v42 (blkT 0 k)).trans (by kernel_rfl))
def fr32_14 (p0 : SRecv) (v41 : SSegment) (v51 : (List SBlock)) : FF := [dT 2 ((.ptr 82 0) :: (dT 1 ((.ptr 98 0) :: (.ptr 114 0) :: (dT 1 ((.ptr 130 0) :: (dT 8 [])))))), dc, dc, dc, dc, dT 2 ((.hdr 15) :: (sl 0 13 (eRecv p0))), sl 13 2 (eRecv p0) ++ [.hdr 15, (tL 0), .row true (.ruint8 []), .row true (.rPiece []), (tL 0), (tL 0), (tL 0), (tI .u32 0), (tB false), (tB false), (tL 0), (tB false), .row true (.rSpan []), (tI .u32 0)], [(tI .u32 0), (tB false), .hdr 15, (tL 0), (tL 0), (tI .u32 0), (tI .u32 0), (tL 0), (tL 0), (tL 0), (tL 0), (tL 0), (tB false), (tB false), (tI .u32 0), (tI .u32 0)], [.row true (.rBlock []), .row true (.ruint8 []), .hdr 15, (tL v41.xSrcPort), (tL v41.xDstPort), (tI .u32 v41.xSeq), (tI .u32 v41.xAck), (tL v41.xFlags), (tL v41.xWin), (tL v41.xUrg), (tL v41.xMss), (tL v41.xScale), (tB v41.xSackOk), (tB v41.xStamped), (tI .u32 v41.xVal), (tI .u32 v41.xEcr)], (.row true (.rBlock v51)) :: (.row false (.ruint8 v41.xData)) :: (dT 14 [])]
theorem s32_15_t (cp : CP) (n : Nat) (p0 : SRecv) (v40 : Int) (v41 : SSegment) (k : KX R) : X cp n i32_3 (fr32_2 p0 v40 v41) k = s32_15 cp n p0 v40 v41 (fun v51 => k .norm (fr32_14 p0 v41 v51)) := ((fun c => (show X cp n (.seq (.fin (.reg g32_9) [38] []) c) (fr32_2 p0 v40 v41) k = s32_3 cp n p0 v40 v41 (fun v42 => X cp n c (fr32_4 p0 v40 v41 v42) k) from by kernel_rfl)) i32_2).trans (congrArg (fun q => s32_3 cp n p0 v40 v41 q) (funext fun v42 => (s32_13_t cp n p0 v40 v41 v42 k).trans (show s32_13 cp n p0 v40 v41 v42 (fun v50 => k .norm (fr32_12 p0 v41 v50)) = s32_13 cp n p0 v40 v41 v42 (fun v50 => k .norm (fr32_14 p0 v41 v50)) from by kernel_rfl)))
def fr32_17 (p0 : SRecv) (v41 : SSegment) (v51 : (List SBlock)) (v53 : Int) : FF := [dT 4 ((.ptr 98 0) :: (.ptr 114 0) :: (dT 10 [])), dc, dc, dc, dc, dc, dT 2 ([.hdr 15, (tL p0.xNext), .row false (.ruint8 p0.xUnread), .row false (.rPiece p0.xLate), (tL p0.xCap), (tL p0.xShift), (tL v53), (tI .u32 p0.xRecent), (tB p0.xStamps), (tB p0.xSacks), (tL p0.xFin), (tB p0.xDone), .row false (.rSpan p0.xFirst), (tI .u32 p0.xIrs)]), [(tI .u32 p0.xOwn), (tB p0.xStamp), .hdr 15, (tL v41.xSrcPort), (tL v41.xDstPort), (tI .u32 v41.xSeq), (tI .u32 v41.xAck), (tL v41.xFlags), (tL v41.xWin), (tL v41.xUrg), (tL v41.xMss), (tL v41.xScale), (tB v41.xSackOk), (tB v41.xStamped), (tI .u32 v41.xVal), (tI .u32 v41.xEcr)], (.row true (.rBlock v51)) :: (.row false (.ruint8 v41.xData)) :: (dT 14 []), dc]
theorem s32_16_t (cp : CP) (n : Nat) (p0 : SRecv) (v41 : SSegment) (v51 : (List SBlock)) (k : KX R) : X cp n i32_4 (fr32_14 p0 v41 v51) k = s32_16 cp n p0 v41 v51 (fun v53 => k .ret (fr32_17 p0 v41 v51 v53)) := by kernel_rfl
def fr32_18 (p0 : SRecv) (v41 : SSegment) (v54 : Int) (v55 : (List SBlock)) : FF := [dT 4 ((.ptr 98 0) :: (.ptr 114 0) :: (dT 10 [])), dc, dc, dc, dc, dc, dT 2 ([.hdr 15, (tL p0.xNext), .row false (.ruint8 p0.xUnread), .row false (.rPiece p0.xLate), (tL p0.xCap), (tL p0.xShift), (tL v54), (tI .u32 p0.xRecent), (tB p0.xStamps), (tB p0.xSacks), (tL p0.xFin), (tB p0.xDone), .row false (.rSpan p0.xFirst), (tI .u32 p0.xIrs)]), [(tI .u32 p0.xOwn), (tB p0.xStamp), .hdr 15, (tL v41.xSrcPort), (tL v41.xDstPort), (tI .u32 v41.xSeq), (tI .u32 v41.xAck), (tL v41.xFlags), (tL v41.xWin), (tL v41.xUrg), (tL v41.xMss), (tL v41.xScale), (tB v41.xSackOk), (tB v41.xStamped), (tI .u32 v41.xVal), (tI .u32 v41.xEcr)], (.row true (.rBlock v55)) :: (.row false (.ruint8 v41.xData)) :: (dT 14 []), dc]
theorem s32_19_t (cp : CP) (n : Nat) (p0 : SRecv) (v40 : Int) (v41 : SSegment) (k : KX R) : X cp n i32_5 (fr32_2 p0 v40 v41) k = s32_19 cp n p0 v40 v41 (fun v54 v55 => k .ret (fr32_18 p0 v41 v54 v55)) := (show X cp n i32_5 (fr32_2 p0 v40 v41) k = X cp n i32_3 (fr32_2 p0 v40 v41) (seqT (X cp n) i32_4 k) from by kernel_rfl).trans ((show X cp n i32_3 (fr32_2 p0 v40 v41) (seqT (X cp n) i32_4 k) = s32_15 cp n p0 v40 v41 (fun v51 => X cp n i32_4 (fr32_14 p0 v41 v51) k) from (s32_15_t cp n p0 v40 v41 (seqT (X cp n) i32_4 k)).trans (by kernel_rfl)).trans (congrArg (fun q => s32_15 cp n p0 v40 v41 q) (funext fun v51 => (s32_16_t cp n p0 v41 v51 k).trans (show s32_16 cp n p0 v41 v51 (fun v53 => k .ret (fr32_17 p0 v41 v51 v53)) = s32_16 cp n p0 v41 v51 (fun v53 => k .ret (fr32_18 p0 v41 v53 v51)) from by kernel_rfl))))
def fr32_20 (p0 : SRecv) (v56 : Int) (v57 : SSegment) : FF := [dT 4 ((.ptr 98 0) :: (.ptr 114 0) :: (dT 10 [])), dc, dc, dc, dc, dc, dT 2 ([.hdr 15, (tL p0.xNext), .row false (.ruint8 p0.xUnread), .row false (.rPiece p0.xLate), (tL p0.xCap), (tL p0.xShift), (tL v56), (tI .u32 p0.xRecent), (tB p0.xStamps), (tB p0.xSacks), (tL p0.xFin), (tB p0.xDone), .row false (.rSpan p0.xFirst), (tI .u32 p0.xIrs)]), [(tI .u32 p0.xOwn), (tB p0.xStamp), .hdr 15, (tL v57.xSrcPort), (tL v57.xDstPort), (tI .u32 v57.xSeq), (tI .u32 v57.xAck), (tL v57.xFlags), (tL v57.xWin), (tL v57.xUrg), (tL v57.xMss), (tL v57.xScale), (tB v57.xSackOk), (tB v57.xStamped), (tI .u32 v57.xVal), (tI .u32 v57.xEcr)], (.row true (.rBlock v57.xSacks)) :: (.row false (.ruint8 v57.xData)) :: (dT 14 []), dc]
def fr32_22 (p0 : SRecv) (p1 : (List SBlock)) : FF := [(.agg (eRecv p0)) :: (.row true (.rBlock p1)) :: (dT 14 []), dc, dc, dc, dc, dc, dc, dc, dc, dc]
theorem s32_21_t (cp : CP) (n : Nat) (p0 : SRecv) (p1 : (List SBlock)) (k : KX R) : X cp n i32_6 (fr32_22 p0 p1) k = s32_21 cp n p0 p1 (fun v56 v57 => k .ret (fr32_20 p0 v56 v57)) := ((fun c => (show X cp n (.seq (.fin (.reg g32_0) [0] []) (.seq (.fin (.reg g32_1) [11, 12] []) (.seq (.seq (.fin (.reg g32_2) [13] []) (.fin (.cond (.s 14) (.fin (.reg g32_3) [14, 15, 16] []) (.skip)) [14] [])) (.seq (.fin (.reg g32_4) [1, 6, 17, 18, 19, 20, 21, 22, 23, 24, 25, 26, 27, 28, 29] []) (.seq (.reg g32_5) (.seq (.seq (.fin (.reg g32_6) [30] []) (.fin (.cond (.s 31) (.seq (.fin (.reg g32_7) [31, 32, 33, 34, 35] []) (.fin (.reg g32_8) [36, 37] [])) (.skip)) [31] [])) c)))))) (fr32_22 p0 p1) k = s32_1 cp n p0 p1 (fun v40 v41 => X cp n c (fr32_2 p0 v40 v41) k) from by kernel_rfl)) i32_5).trans (congrArg (fun q => s32_1 cp n p0 p1 q) (funext fun v40 => funext fun v41 => (s32_19_t cp n p0 v40 v41 k).trans (show s32_19 cp n p0 v40 v41 (fun v54 v55 => k .ret (fr32_18 p0 v41 v54 v55)) = s32_19 cp n p0 v40 v41 (fun v54 v55 => k .ret (fr32_20 p0 v54 (SSegment.mk v41.xSrcPort v41.xDstPort v41.xSeq v41.xAck v41.xFlags v41.xWin v41.xUrg v41.xMss v41.xScale v41.xSackOk v41.xStamped v41.xVal v41.xEcr v55 v41.xData))) from by kernel_rfl)))
theorem run32 (cp : CP) (n : Nat) (p0 : SRecv) (p1 : (List SBlock)) (k : Ret2 RW → Option R) : G32 cp (n + 1) p0 p1 (fun r0 r1 => k ⟨.tup [.agg (eRecv r0), .agg [(tL r1.xSrcPort), (tL r1.xDstPort), (tI .u32 r1.xSeq), (tI .u32 r1.xAck), (tL r1.xFlags), (tL r1.xWin), (tL r1.xUrg), (tL r1.xMss), (tL r1.xScale), (tB r1.xSackOk), (tB r1.xStamped), (tI .u32 r1.xVal), (tI .u32 r1.xEcr), .row true (.rBlock r1.xSacks), .row false (.ruint8 r1.xData)]], [], []⟩) = run2 U cp (callP cp n) n fn32 [.agg (eRecv p0), .row true (.rBlock p1)] [] k := ((X_run (f := fn32) (av := [.agg (eRecv p0), .row true (.rBlock p1)]) (cells := []) (code := i32_6) (fr := (fr32_22 p0 p1)) (k := k) (by kernel_rfl) (fun K => by kernel_rfl)).trans ((s32_21_t cp n p0 p1 (finK2 fn32 k)).trans (by kernel_rfl))).symm
/-! tideway/recv.end -/
def fr33_2 (p0 : SRecv) (p1 : Int) : FF := [dT 1 ((tL p1) :: (.ptr 32 0) :: (dT 2 ((.ptr 48 0) :: (dT 10 [])))), dc, (.hdr 15) :: (eRecv p0), (.hdr 1) :: (tL p0.xNext) :: (dT 14 []), dc]
def fr33_4 (p0 : SRecv) (p1 : Int) (v18 : SRecv) : FF := [dT 1 ((tL p1) :: (.ptr 32 0) :: (dT 2 ((.ptr 48 0) :: (dT 4 ((.clo 70 [(53, 0)]) :: (dT 5 [])))))), dc, (.hdr 15) :: (eRecv p0), (.hdr 1) :: (tL p0.xNext) :: (dT 3 ((.hdr 15) :: (sl 0 10 (eRecv v18)))), sl 10 5 (eRecv v18) ++ (dT 11 [])]
def fr33_6 (p1 : Int) : FF := [dT 1 ((tL p1) :: (.ptr 32 0) :: (dT 2 ((.ptr 48 0) :: (dT 4 ((.clo 70 [(53, 0)]) :: (dT 5 [])))))), dc, dc, dc, dc]
def y33_5 (cp : CP) (n : Nat) (p1 : Int) : List (TV RW) → FF → (FF → Option R) → Option R := rndT 2 [11] [32, 48, 53, 69] (fr33_6 p1) (X cp n i33_2)
def fr33_8 (p0 : SRecv) (p1 : Int) (v18 : SRecv) (v19 : Int) : FF := [.yld :: (dT 5 ((.row false (.rPiece v18.xLate)) :: (tL v19) :: (tL 0) :: (dT 7 []))), dc, (.hdr 15) :: (eRecv p0), (.hdr 1) :: (tL p0.xNext) :: (dT 3 ((.hdr 15) :: (sl 0 10 (eRecv v18)))), sl 10 5 (eRecv v18) ++ (dT 11 [])]
def fr33_10 (p0 : SRecv) (p1 : Int) (v18 : SRecv) (v19 v20 v21 : Int) : FF := [.yld :: (dT 5 ((.row false (.rPiece v18.xLate)) :: (tL v19) :: (tL v20) :: (dT 7 []))), dc, (.hdr 15) :: (eRecv p0), (.hdr 1) :: (tL v21) :: (dT 3 ((.hdr 15) :: (sl 0 10 (eRecv v18)))), sl 10 5 (eRecv v18) ++ (dT 11 [])]
def fr33_11 (p0 : SRecv) (p1 : Int) (v18 : SRecv) (v21 : Int) : FF := [dc, dc, (.hdr 15) :: (eRecv p0), (.hdr 1) :: (tL v21) :: (dT 3 ((.hdr 15) :: (sl 0 10 (eRecv v18)))), sl 10 5 (eRecv v18) ++ (dT 11 [])]
def fr33_13 (p0 : SRecv) (p1 : Int) (v18 : SRecv) (v19 v20 v21 v22 : Int) (v23 : (List Int)) : FF := [.yld :: (dT 3 ((.ptr 69 0) :: (dT 1 ((.row false (.rPiece v18.xLate)) :: (tL v19) :: (tL v20) :: (dT 7 []))))), dc, (.hdr 15) :: (eRecv p0), (.hdr 1) :: (tL v21) :: (dT 3 ((.hdr 15) :: (sl 0 10 (eRecv v18)))), sl 10 5 (eRecv v18) ++ ((.hdr 2) :: (tL v22) :: (.row false (.ruint8 v23)) :: (dT 8 []))]
def fr33_15 (p0 : SRecv) (p1 : Int) (v18 : SRecv) (v19 v20 v21 v22 : Int) (v23 : (List Int)) (v25 v26 : Int) : FF := [.yld :: (dT 3 ((.ptr 69 0) :: (dT 1 ((.row false (.rPiece v18.xLate)) :: (tL v19) :: (tL v20) :: (dT 3 (.yld :: (.agg [(tL v22), .row false (.ruint8 v23)]) :: (.agg [(tL v25), (tL v26)]) :: (dT 1 []))))))), dc, (.hdr 15) :: (eRecv p0), (.hdr 1) :: (tL v21) :: (dT 3 ((.hdr 15) :: (sl 0 10 (eRecv v18)))), sl 10 5 (eRecv v18) ++ ((.hdr 2) :: (tL v22) :: (.row false (.ruint8 v23)) :: (dT 8 []))]
theorem s33_14_t (cp : CP) (n : Nat) (p0 : SRecv) (p1 : Int) (v18 : SRecv) (v19 v20 v21 v22 : Int) (v23 : (List Int)) (A B : FF → Option R) : (gF (fr33_13 p0 p1 v18 v19 v20 v21 v22 v23) fun l => steps2 U cp (callP cp n) g33_10031 l fun l1 => yGuard2 none l1 (A l1) (B l1)) = s33_14 cp n p0 p1 v18 v19 v20 v21 v22 v23 (fun v25 v26 => A (fr33_15 p0 p1 v18 v19 v20 v21 v22 v23 v25 v26)) := by kernel_rfl
def fr33_17 (p0 : SRecv) (p1 : Int) (v18 : SRecv) (v22 : Int) (v23 : (List Int)) (v26 : Int) : FF := [dT 1 ((tL p1) :: (.ptr 32 0) :: (dT 2 ((.ptr 48 0) :: (dT 4 ((.clo 70 [(53, 0)]) :: (dT 5 [])))))), dc, (.hdr 15) :: (eRecv p0), (.hdr 1) :: (tL v26) :: (dT 3 ((.hdr 15) :: (sl 0 10 (eRecv v18)))), sl 10 5 (eRecv v18) ++ ((.hdr 2) :: (tL v22) :: (.row false (.ruint8 v23)) :: (dT 8 []))]
def fr33_18 (p0 : SRecv) (p1 : Int) (v18 : SRecv) (v21 v22 : Int) (v23 : (List Int)) (v25 v26 : Int) : FF := [dT 1 ((tL p1) :: (.ptr 32 0) :: (dT 2 ((.ptr 48 0) :: (dT 4 ((.clo 70 [(53, 0)]) :: (.agg [(tL v25), (tL v26)]) :: (dT 4 [])))))), dc, (.hdr 15) :: (eRecv p0), (.hdr 1) :: (tL v21) :: (dT 3 ((.hdr 15) :: (sl 0 10 (eRecv v18)))), sl 10 5 (eRecv v18) ++ ((.hdr 2) :: (tL v22) :: (.row false (.ruint8 v23)) :: (dT 8 []))]
theorem s33_16_t (cp : CP) (n : Nat) (p0 : SRecv) (p1 : Int) (v18 : SRecv) (v21 v22 : Int) (v23 : (List Int)) (v25 v26 : Int) (k : KX R) : X cp n i33_2 (fr33_18 p0 p1 v18 v21 v22 v23 v25 v26) k = s33_16 cp n p0 p1 v18 v21 v22 v23 v25 v26 (k .norm (fr33_17 p0 p1 v18 v22 v23 v26)) := by kernel_rfl
def fr33_20 (p0 : SRecv) (p1 : Int) (v18 : SRecv) (v19 v20 v22 : Int) (v23 : (List Int)) (v25 v26 : Int) : FF := [.yld :: (dT 3 ((.ptr 69 0) :: (dT 1 ((.row false (.rPiece v18.xLate)) :: (tL v19) :: (tL v20) :: (dT 3 ([.yld, .agg [(tL v22), .row false (.ruint8 v23)], .agg [(tL v25), (tL v26)], (tB true)])))))), dc, (.hdr 15) :: (eRecv p0), (.hdr 1) :: (tL v26) :: (dT 3 ((.hdr 15) :: (sl 0 10 (eRecv v18)))), sl 10 5 (eRecv v18) ++ ((.hdr 2) :: (tL v22) :: (.row false (.ruint8 v23)) :: (dT 8 []))]
theorem q33_19_t (cp : CP) (n : Nat) (p0 : SRecv) (p1 : Int) (v18 : SRecv) (v19 v20 v21 v22 : Int) (v23 : (List Int)) (v25 v26 : Int) (K : FF → Option R) : yRun2 (y33_5 cp n p1) (.s 12) [.s 14] 15 (fr33_15 p0 p1 v18 v19 v20 v21 v22 v23 v25 v26) K = s33_16 cp n p0 p1 v18 v21 v22 v23 v25 v26 (K (fr33_20 p0 p1 v18 v19 v20 v22 v23 v25 v26)) := ((fun x => (show yRun2 (rndT 2 [11] [32, 48, 53, 69] (fr33_6 p1) x) (.s 12) [.s 14] 15 (fr33_15 p0 p1 v18 v19 v20 v21 v22 v23 v25 v26) K = x (fr33_18 p0 p1 v18 v21 v22 v23 v25 v26) (roundT 2 (fr33_15 p0 p1 v18 v19 v20 v21 v22 v23 v25 v26) (fun l2 => putO l2 (some 15) (.sc (.bool true)) K)) from by kernel_rfl)) (X cp n i33_2)).trans ((s33_16_t cp n p0 p1 v18 v21 v22 v23 v25 v26 (roundT 2 (fr33_15 p0 p1 v18 v19 v20 v21 v22 v23 v25 v26) (fun l2 => putO l2 (some 15) (.sc (.bool true)) K))).trans (by kernel_rfl))
def fr33_21 (p0 : SRecv) (p1 : Int) (v18 : SRecv) (v19 v20 v27 : Int) : FF := [.yld :: (dT 5 ((.row false (.rPiece v18.xLate)) :: (tL v19) :: (tL v20) :: (dT 7 []))), (tB false) :: (dT 15 []), (.hdr 15) :: (eRecv p0), (.hdr 1) :: (tL v27) :: (dT 3 ((.hdr 15) :: (sl 0 10 (eRecv v18)))), sl 10 5 (eRecv v18) ++ (dT 11 [])]
theorem s33_22_t (cp : CP) (n : Nat) (p0 : SRecv) (p1 : Int) (v18 : SRecv) (v19 v20 v21 v22 : Int) (v23 : (List Int)) (k : KX R) : XI cp n (y33_5 cp n p1) i33_4 (fr33_13 p0 p1 v18 v19 v20 v21 v22 v23) k = s33_22 cp n p0 p1 v18 v19 v20 v21 v22 v23 (fun v27 => k .norm (fr33_21 p0 p1 v18 v19 v20 v27)) := (show XI cp n (y33_5 cp n p1) i33_4 (fr33_13 p0 p1 v18 v19 v20 v21 v22 v23) k = gF (fr33_13 p0 p1 v18 v19 v20 v21 v22 v23) fun l => steps2 U cp (callP cp n) g33_10031 l fun l1 => yGuard2 none l1 ((fun l1 => yRun2 (y33_5 cp n p1) (.s 12) [.s 14] 15 l1 (fun l2 => steps2 U cp (callP cp n) g33_10032 l2 ((clrT [4, 12, 13, 14, 15] [(69, 2)] k) .norm))) l1) ((fun l1 => putO l1 (some 15) (.tup []) fun l2 => steps2 U cp (callP cp n) g33_10032 l2 ((clrT [4, 12, 13, 14, 15] [(69, 2)] k) .norm)) l1) from by kernel_rfl).trans ((s33_14_t cp n p0 p1 v18 v19 v20 v21 v22 v23 (fun l1 => yRun2 (y33_5 cp n p1) (.s 12) [.s 14] 15 l1 (fun l2 => steps2 U cp (callP cp n) g33_10032 l2 ((clrT [4, 12, 13, 14, 15] [(69, 2)] k) .norm))) (fun l1 => putO l1 (some 15) (.tup []) fun l2 => steps2 U cp (callP cp n) g33_10032 l2 ((clrT [4, 12, 13, 14, 15] [(69, 2)] k) .norm))).trans (congrArg (s33_14 cp n p0 p1 v18 v19 v20 v21 v22 v23) (funext fun v25 => funext fun v26 => (q33_19_t cp n p0 p1 v18 v19 v20 v21 v22 v23 v25 v26 (fun l2 => steps2 U cp (callP cp n) g33_10032 l2 ((clrT [4, 12, 13, 14, 15] [(69, 2)] k) .norm))).trans (show s33_16 cp n p0 p1 v18 v21 v22 v23 v25 v26 ((fun l2 => steps2 U cp (callP cp n) g33_10032 l2 ((clrT [4, 12, 13, 14, 15] [(69, 2)] k) .norm)) (fr33_20 p0 p1 v18 v19 v20 v22 v23 v25 v26)) = s33_16 cp n p0 p1 v18 v21 v22 v23 v25 v26 (k .norm (fr33_21 p0 p1 v18 v19 v20 v26)) from by kernel_rfl))))
def fr33_24 (p0 : SRecv) (p1 : Int) (v18 : SRecv) (v19 v20 v27 : Int) : FF := [.yld :: (dT 5 ((.row false (.rPiece v18.xLate)) :: (tL v19) :: (tL v20) :: (dT 7 []))), dc, (.hdr 15) :: (eRecv p0), (.hdr 1) :: (tL v27) :: (dT 3 ((.hdr 15) :: (sl 0 10 (eRecv v18)))), sl 10 5 (eRecv v18) ++ (dT 11 [])]
theorem s33_23_t (cp : CP) (n : Nat) (p0 : SRecv) (p1 : Int) (v18 : SRecv) (v19 v20 v27 : Int) (k : KX R) : XI cp n (y33_5 cp n p1) i33_5 (fr33_21 p0 p1 v18 v19 v20 v27) k = s33_23 cp n p0 p1 v18 v19 v20 v27 (k .norm (fr33_24 p0 p1 v18 v19 v20 v27)) := by kernel_rfl
def fr33_25 (p0 : SRecv) (p1 : Int) (v18 : SRecv) (v19 v20 v28 : Int) : FF := [.yld :: (dT 5 ((.row false (.rPiece v18.xLate)) :: (tL v19) :: (tL v20) :: (dT 7 []))), dc, (.hdr 15) :: (eRecv p0), (.hdr 1) :: (tL v28) :: (dT 3 ((.hdr 15) :: (sl 0 10 (eRecv v18)))), sl 10 5 (eRecv v18) ++ (dT 11 [])]
theorem s33_26_t (cp : CP) (n : Nat) (p0 : SRecv) (p1 : Int) (v18 : SRecv) (v19 v20 v21 v22 : Int) (v23 : (List Int)) (k : KX R) : XI cp n (y33_5 cp n p1) i33_6 (fr33_13 p0 p1 v18 v19 v20 v21 v22 v23) k = s33_26 cp n p0 p1 v18 v19 v20 v21 v22 v23 (fun v28 => k .norm (fr33_25 p0 p1 v18 v19 v20 v28)) := (show XI cp n (y33_5 cp n p1) i33_6 (fr33_13 p0 p1 v18 v19 v20 v21 v22 v23) k = XI cp n (y33_5 cp n p1) i33_4 (fr33_13 p0 p1 v18 v19 v20 v21 v22 v23) (seqT (XI cp n (y33_5 cp n p1)) i33_5 k) from by kernel_rfl).trans ((show XI cp n (y33_5 cp n p1) i33_4 (fr33_13 p0 p1 v18 v19 v20 v21 v22 v23) (seqT (XI cp n (y33_5 cp n p1)) i33_5 k) = s33_22 cp n p0 p1 v18 v19 v20 v21 v22 v23 (fun v27 => XI cp n (y33_5 cp n p1) i33_5 (fr33_21 p0 p1 v18 v19 v20 v27) k) from (s33_22_t cp n p0 p1 v18 v19 v20 v21 v22 v23 (seqT (XI cp n (y33_5 cp n p1)) i33_5 k)).trans (by kernel_rfl)).trans (congrArg (fun q => s33_22 cp n p0 p1 v18 v19 v20 v21 v22 v23 q) (funext fun v27 => (s33_23_t cp n p0 p1 v18 v19 v20 v27 k).trans (show s33_23 cp n p0 p1 v18 v19 v20 v27 (k .norm (fr33_24 p0 p1 v18 v19 v20 v27)) = s33_23 cp n p0 p1 v18 v19 v20 v27 (k .norm (fr33_25 p0 p1 v18 v19 v20 v27)) from by kernel_rfl))))
def fr33_27 (p0 : SRecv) (p1 : Int) (v18 : SRecv) (v19 v20 v29 : Int) : FF := [.yld :: (dT 5 ((.row false (.rPiece v18.xLate)) :: (tL v19) :: (tL v20) :: (dT 7 []))), dc, (.hdr 15) :: (eRecv p0), (.hdr 1) :: (tL v29) :: (dT 3 ((.hdr 15) :: (sl 0 10 (eRecv v18)))), sl 10 5 (eRecv v18) ++ (dT 11 [])]
theorem s33_28_t (cp : CP) (n : Nat) (p0 : SRecv) (p1 : Int) (v18 : SRecv) (v19 v20 v21 : Int) (k : KX R) : XI cp n (y33_5 cp n p1) i33_7 (fr33_10 p0 p1 v18 v19 v20 v21) k = s33_28 cp n p0 p1 v18 v19 v20 v21 (fun v29 => k .norm (fr33_27 p0 p1 v18 v19 v20 v29)) := ((fun c => (show XI cp n (y33_5 cp n p1) (.seq (.fin (.reg g33_1002) [10, 11] []) c) (fr33_10 p0 p1 v18 v19 v20 v21) k = s33_12 cp n p0 p1 v18 v19 v20 v21 (fun v22 v23 => XI cp n (y33_5 cp n p1) c (fr33_13 p0 p1 v18 v19 v20 v21 v22 v23) k) from by kernel_rfl)) i33_6).trans (congrArg (fun q => s33_12 cp n p0 p1 v18 v19 v20 v21 q) (funext fun v22 => funext fun v23 => (s33_26_t cp n p0 p1 v18 v19 v20 v21 v22 v23 k).trans (show s33_26 cp n p0 p1 v18 v19 v20 v21 v22 v23 (fun v28 => k .norm (fr33_25 p0 p1 v18 v19 v20 v28)) = s33_26 cp n p0 p1 v18 v19 v20 v21 v22 v23 (fun v28 => k .norm (fr33_27 p0 p1 v18 v19 v20 v28)) from by kernel_rfl)))
def fr33_29 (p0 : SRecv) (p1 : Int) (v18 : SRecv) (v19 v20 v30 : Int) : FF := [.yld :: (dT 5 ((.row false (.rPiece v18.xLate)) :: (tL v19) :: (tL v20) :: (dT 7 []))), dc, (.hdr 15) :: (eRecv p0), (.hdr 1) :: (tL v30) :: (dT 3 ((.hdr 15) :: (sl 0 10 (eRecv v18)))), sl 10 5 (eRecv v18) ++ (dT 11 [])]
theorem s33_30_t (cp : CP) (n : Nat) (p0 : SRecv) (p1 : Int) (v18 : SRecv) (v19 v20 v21 : Int) (k : KX R) : XI cp n (y33_5 cp n p1) i33_8 (fr33_10 p0 p1 v18 v19 v20 v21) k = s33_30 cp n p0 p1 v18 v19 v20 v21 (fun v30 => k .norm (fr33_29 p0 p1 v18 v19 v20 v30)) := (show XI cp n (y33_5 cp n p1) i33_8 (fr33_10 p0 p1 v18 v19 v20 v21) k = XI cp n (y33_5 cp n p1) i33_7 (fr33_10 p0 p1 v18 v19 v20 v21) (blkT 1 k) from by kernel_rfl).trans ((s33_28_t cp n p0 p1 v18 v19 v20 v21 (blkT 1 k)).trans (by kernel_rfl))
def fr33_32 (p0 : SRecv) (p1 : Int) (v18 : SRecv) (v19 v30 v31 : Int) : FF := [.yld :: (dT 5 ((.row false (.rPiece v18.xLate)) :: (tL v19) :: (tL v31) :: (dT 7 []))), dc, (.hdr 15) :: (eRecv p0), (.hdr 1) :: (tL v30) :: (dT 3 ((.hdr 15) :: (sl 0 10 (eRecv v18)))), sl 10 5 (eRecv v18) ++ (dT 11 [])]
theorem s33_31_t (cp : CP) (n : Nat) (p0 : SRecv) (p1 : Int) (v18 : SRecv) (v19 v20 v30 : Int) (k : KX R) : XI cp n (y33_5 cp n p1) i33_9 (fr33_29 p0 p1 v18 v19 v20 v30) k = s33_31 cp n p0 p1 v18 v19 v20 v30 (fun v31 => k .norm (fr33_32 p0 p1 v18 v19 v30 v31)) := by kernel_rfl
def fr33_33 (p0 : SRecv) (p1 : Int) (v18 : SRecv) (v19 v32 v33 : Int) : FF := [.yld :: (dT 5 ((.row false (.rPiece v18.xLate)) :: (tL v19) :: (tL v32) :: (dT 7 []))), dc, (.hdr 15) :: (eRecv p0), (.hdr 1) :: (tL v33) :: (dT 3 ((.hdr 15) :: (sl 0 10 (eRecv v18)))), sl 10 5 (eRecv v18) ++ (dT 11 [])]
theorem s33_34_t (cp : CP) (n : Nat) (p0 : SRecv) (p1 : Int) (v18 : SRecv) (v19 v20 v21 : Int) (k : KX R) : XI cp n (y33_5 cp n p1) i33_10 (fr33_10 p0 p1 v18 v19 v20 v21) k = s33_34 cp n p0 p1 v18 v19 v20 v21 (fun v32 v33 => k .norm (fr33_33 p0 p1 v18 v19 v32 v33)) := (show XI cp n (y33_5 cp n p1) i33_10 (fr33_10 p0 p1 v18 v19 v20 v21) k = XI cp n (y33_5 cp n p1) i33_8 (fr33_10 p0 p1 v18 v19 v20 v21) (seqT (XI cp n (y33_5 cp n p1)) i33_9 k) from by kernel_rfl).trans ((show XI cp n (y33_5 cp n p1) i33_8 (fr33_10 p0 p1 v18 v19 v20 v21) (seqT (XI cp n (y33_5 cp n p1)) i33_9 k) = s33_30 cp n p0 p1 v18 v19 v20 v21 (fun v30 => XI cp n (y33_5 cp n p1) i33_9 (fr33_29 p0 p1 v18 v19 v20 v30) k) from (s33_30_t cp n p0 p1 v18 v19 v20 v21 (seqT (XI cp n (y33_5 cp n p1)) i33_9 k)).trans (by kernel_rfl)).trans (congrArg (fun q => s33_30 cp n p0 p1 v18 v19 v20 v21 q) (funext fun v30 => (s33_31_t cp n p0 p1 v18 v19 v20 v30 k).trans (show s33_31 cp n p0 p1 v18 v19 v20 v30 (fun v31 => k .norm (fr33_32 p0 p1 v18 v19 v30 v31)) = s33_31 cp n p0 p1 v18 v19 v20 v30 (fun v31 => k .norm (fr33_33 p0 p1 v18 v19 v31 v30)) from by kernel_rfl))))
def fr33_35 (p0 : SRecv) (p1 : Int) (v18 : SRecv) (v19 v34 v35 : Int) : FF := [.yld :: (dT 5 ((.row false (.rPiece v18.xLate)) :: (tL v19) :: (tL v34) :: (dT 7 []))), dc, (.hdr 15) :: (eRecv p0), (.hdr 1) :: (tL v35) :: (dT 3 ((.hdr 15) :: (sl 0 10 (eRecv v18)))), sl 10 5 (eRecv v18) ++ (dT 11 [])]
theorem s33_36_t (cp : CP) (n : Nat) (p0 : SRecv) (p1 : Int) (v18 : SRecv) (v19 v20 v21 : Int) (k : KX R) : XI cp n (y33_5 cp n p1) i33_11 (fr33_10 p0 p1 v18 v19 v20 v21) k = s33_36 cp n p0 p1 v18 v19 v20 v21 (fun v34 v35 => k .norm (fr33_35 p0 p1 v18 v19 v34 v35)) (k (.exit 0) (fr33_11 p0 p1 v18 v21)) := ((fun c => (show XI cp n (y33_5 cp n p1) (.seq (.reg g33_1001) (.seq (.fin (.cond (.s 9) (.skip) (.clr [0, 6, 7, 8, 9] [] (.exit 0))) [9] []) c)) (fr33_10 p0 p1 v18 v19 v20 v21) k = s33_9 cp n p0 p1 v18 v19 v20 v21 (XI cp n (y33_5 cp n p1) c (fr33_10 p0 p1 v18 v19 v20 v21) k) (k (.exit 0) (fr33_11 p0 p1 v18 v21)) from by kernel_rfl)) i33_10).trans (congrArg (fun q => s33_9 cp n p0 p1 v18 v19 v20 v21 q (k (.exit 0) (fr33_11 p0 p1 v18 v21))) ((s33_34_t cp n p0 p1 v18 v19 v20 v21 k).trans (show s33_34 cp n p0 p1 v18 v19 v20 v21 (fun v32 v33 => k .norm (fr33_33 p0 p1 v18 v19 v32 v33)) = s33_34 cp n p0 p1 v18 v19 v20 v21 (fun v32 v33 => k .norm (fr33_35 p0 p1 v18 v19 v32 v33)) from by kernel_rfl)))
def fr33_37 (p0 : SRecv) (p1 : Int) (v18 : SRecv) (v36 : Int) : FF := [dc, dc, (.hdr 15) :: (eRecv p0), (.hdr 1) :: (tL v36) :: (dT 3 ((.hdr 15) :: (sl 0 10 (eRecv v18)))), sl 10 5 (eRecv v18) ++ (dT 11 [])]
theorem l33_38_t (cp : CP) (n : Nat) : ∀ (m : Nat) (p0 : SRecv) (p1 : Int) (v18 : SRecv) (v19 v20 v21 : Int) (k : KX R), loopN2 (XI cp n (y33_5 cp n p1) i33_11) m (fr33_10 p0 p1 v18 v19 v20 v21) k = l33_38 cp n m p0 p1 v18 v19 v20 v21 (fun v36 => k (.exit 0) (fr33_37 p0 p1 v18 v36))
  | 0, _, _, _, _, _, _, _ => rfl
  | m + 1, p0, p1, v18, v19, v20, v21, k => (loopN2_succ (XI cp n (y33_5 cp n p1) i33_11) m (fr33_10 p0 p1 v18 v19 v20 v21) k).trans ((s33_36_t cp n p0 p1 v18 v19 v20 v21 (loopT (XI cp n (y33_5 cp n p1) i33_11) m k)).trans ((show s33_36 cp n p0 p1 v18 v19 v20 v21 (fun v34 v35 => loopT (XI cp n (y33_5 cp n p1) i33_11) m k .norm (fr33_35 p0 p1 v18 v19 v34 v35)) (loopT (XI cp n (y33_5 cp n p1) i33_11) m k (.exit 0) (fr33_11 p0 p1 v18 v21)) = s33_36 cp n p0 p1 v18 v19 v20 v21 (fun v34 v35 => loopN2 (XI cp n (y33_5 cp n p1) i33_11) m (fr33_10 p0 p1 v18 v19 v34 v35) k) (k (.exit 0) (fr33_37 p0 p1 v18 v21)) from by kernel_rfl).trans (congrArg (fun q => s33_36 cp n p0 p1 v18 v19 v20 v21 q (k (.exit 0) (fr33_37 p0 p1 v18 v21))) (funext fun v34 => funext fun v35 => l33_38_t cp n m p0 p1 v18 v19 v34 v35 k))))
theorem s33_39_t (cp : CP) (n : Nat) (p0 : SRecv) (p1 : Int) (v18 : SRecv) (v19 : Int) (k : KX R) : XI cp n (y33_5 cp n p1) i33_12 (fr33_8 p0 p1 v18 v19) k = s33_39 cp n p0 p1 v18 v19 (fun v36 => k (.exit 0) (fr33_37 p0 p1 v18 v36)) := (show XI cp n (y33_5 cp n p1) i33_12 (fr33_8 p0 p1 v18 v19) k = loopN2 (XI cp n (y33_5 cp n p1) i33_11) n (fr33_10 p0 p1 v18 v19 0 p0.xNext) k from by kernel_rfl).trans (l33_38_t cp n n p0 p1 v18 v19 0 p0.xNext k)
def fr33_40 (p0 : SRecv) (p1 : Int) (v18 : SRecv) (v37 : Int) : FF := [dc, dc, (.hdr 15) :: (eRecv p0), (.hdr 1) :: (tL v37) :: (dT 3 ((.hdr 15) :: (sl 0 10 (eRecv v18)))), sl 10 5 (eRecv v18) ++ (dT 11 [])]
theorem s33_41_t (cp : CP) (n : Nat) (p0 : SRecv) (p1 : Int) (v18 : SRecv) (v19 : Int) (k : KX R) : XI cp n (y33_5 cp n p1) i33_13 (fr33_8 p0 p1 v18 v19) k = s33_41 cp n p0 p1 v18 v19 (fun v37 => k .norm (fr33_40 p0 p1 v18 v37)) := (show XI cp n (y33_5 cp n p1) i33_13 (fr33_8 p0 p1 v18 v19) k = XI cp n (y33_5 cp n p1) i33_12 (fr33_8 p0 p1 v18 v19) (blkT 0 k) from by kernel_rfl).trans ((s33_39_t cp n p0 p1 v18 v19 (blkT 0 k)).trans (by kernel_rfl))
def fr33_42 (p0 : SRecv) (p1 : Int) (v18 : SRecv) (v38 : Int) : FF := [dc, dc, (.hdr 15) :: (eRecv p0), (.hdr 1) :: (tL v38) :: (dT 3 ((.hdr 15) :: (sl 0 10 (eRecv v18)))), sl 10 5 (eRecv v18) ++ (dT 11 [])]
def fr33_44 (p0 : SRecv) (p1 : Int) (v18 : SRecv) : FF := [.yld :: (.ptr 53 0) :: (dT 14 []), dc, (.hdr 15) :: (eRecv p0), (.hdr 1) :: (tL p0.xNext) :: (dT 3 ((.hdr 15) :: (sl 0 10 (eRecv v18)))), sl 10 5 (eRecv v18) ++ (dT 11 [])]
theorem s33_43_t (cp : CP) (n : Nat) (p0 : SRecv) (p1 : Int) (v18 : SRecv) (k : KX R) : XI cp n (y33_5 cp n p1) i33_3 (fr33_44 p0 p1 v18) k = s33_43 cp n p0 p1 v18 (fun v38 => k .norm (fr33_42 p0 p1 v18 v38)) := ((fun c => (show XI cp n (y33_5 cp n p1) (.seq (.fin (.reg g33_1000) [1, 5] []) c) (fr33_44 p0 p1 v18) k = s33_7 cp n p0 p1 v18 (fun v19 => XI cp n (y33_5 cp n p1) c (fr33_8 p0 p1 v18 v19) k) from by kernel_rfl)) i33_13).trans (congrArg (fun q => s33_7 cp n p0 p1 v18 q) (funext fun v19 => (s33_41_t cp n p0 p1 v18 v19 k).trans (show s33_41 cp n p0 p1 v18 v19 (fun v37 => k .norm (fr33_40 p0 p1 v18 v37)) = s33_41 cp n p0 p1 v18 v19 (fun v37 => k .norm (fr33_42 p0 p1 v18 v37)) from by kernel_rfl)))
def fr33_45 (p0 : SRecv) (p1 v39 : Int) : FF := [dT 1 ((tL p1) :: (.ptr 32 0) :: (dT 2 ((.ptr 48 0) :: (dT 10 [])))), dc, (.hdr 15) :: (eRecv p0), (.hdr 1) :: (tL v39) :: (dT 14 []), dc]
theorem s33_46_t (cp : CP) (n : Nat) (p0 : SRecv) (p1 : Int) (v18 : SRecv) (k : KX R) : X cp n i33_14 (fr33_4 p0 p1 v18) k = s33_46 cp n p0 p1 v18 (fun v39 => k .norm (fr33_45 p0 p1 v39)) := (show X cp n i33_14 (fr33_4 p0 p1 v18) k = XI cp n (roundK2 2 [11] [32, 48, 53, 69] (fr33_4 p0 p1 v18) (X cp n i33_0) (X cp n i33_1)) i33_3 (fr33_44 p0 p1 v18) (rfnT 2 (fr33_4 p0 p1 v18) (clrT [10] [(53, 15)] k)) from rfn_eq (v := .clo 70 [(53, 0)]) (by kernel_rfl) (by kernel_rfl) (by kernel_rfl) _ _ _).trans ((congrArg (fun Y => XI cp n Y i33_3 (fr33_44 p0 p1 v18) (rfnT 2 (fr33_4 p0 p1 v18) (clrT [10] [(53, 15)] k))) ((rnd_eq 2 [11] [32, 48, 53, 69] (fr33_4 p0 p1 v18) i33_0 i33_1).trans (show rndT 2 [11] [32, 48, 53, 69] (fr33_4 p0 p1 v18) (X cp n i33_2) = (y33_5 cp n p1) from by kernel_rfl))).trans ((s33_43_t cp n p0 p1 v18 (rfnT 2 (fr33_4 p0 p1 v18) (clrT [10] [(53, 15)] k))).trans (by kernel_rfl)))
def fr33_47 (p0 : SRecv) (p1 v40 : Int) : FF := [dT 1 ((tL p1) :: (.ptr 32 0) :: (dT 2 ((.ptr 48 0) :: (dT 10 [])))), dc, (.hdr 15) :: (eRecv p0), (.hdr 1) :: (tL v40) :: (dT 14 []), dc]
theorem s33_48_t (cp : CP) (n : Nat) (p0 : SRecv) (p1 : Int) (v18 : SRecv) (k : KX R) : X cp n i33_15 (fr33_4 p0 p1 v18) k = s33_48 cp n p0 p1 v18 (fun v40 => k .norm (fr33_47 p0 p1 v40)) := (show X cp n i33_15 (fr33_4 p0 p1 v18) k = X cp n i33_14 (fr33_4 p0 p1 v18) (blkT 0 k) from by kernel_rfl).trans ((s33_46_t cp n p0 p1 v18 (blkT 0 k)).trans (by kernel_rfl))
def fr33_49 (p0 : SRecv) (p1 v41 : Int) : FF := [dT 1 ((tL p1) :: (.ptr 32 0) :: (dT 2 ((.ptr 48 0) :: (dT 10 [])))), dc, (.hdr 15) :: (eRecv p0), (.hdr 1) :: (tL v41) :: (dT 14 []), dc]
theorem s33_50_t (cp : CP) (n : Nat) (p0 : SRecv) (p1 : Int) (k : KX R) : X cp n i33_16 (fr33_2 p0 p1) k = s33_50 cp n p0 p1 (fun v41 => k .norm (fr33_49 p0 p1 v41)) := ((fun c => (show X cp n (.seq (.fin (.reg g33_2) [9] []) c) (fr33_2 p0 p1) k = s33_3 cp n p0 p1 (fun v18 => X cp n c (fr33_4 p0 p1 v18) k) from by kernel_rfl)) i33_15).trans (congrArg (fun q => s33_3 cp n p0 p1 q) (funext fun v18 => (s33_48_t cp n p0 p1 v18 k).trans (show s33_48 cp n p0 p1 v18 (fun v40 => k .norm (fr33_47 p0 p1 v40)) = s33_48 cp n p0 p1 v18 (fun v40 => k .norm (fr33_49 p0 p1 v40)) from by kernel_rfl)))
def fr33_52 (v43 : Int) : FF := [dT 4 ((tL v43) :: (dT 11 [])), dc, dc, dc, dc]
theorem s33_51_t (cp : CP) (n : Nat) (p0 : SRecv) (p1 v41 : Int) (k : KX R) : X cp n i33_17 (fr33_49 p0 p1 v41) k = s33_51 cp n p0 p1 v41 (fun v43 => k .ret (fr33_52 v43)) := by kernel_rfl
def fr33_53 (v44 : Int) : FF := [dT 4 ((tL v44) :: (dT 11 [])), dc, dc, dc, dc]
theorem s33_54_t (cp : CP) (n : Nat) (p0 : SRecv) (p1 : Int) (k : KX R) : X cp n i33_18 (fr33_2 p0 p1) k = s33_54 cp n p0 p1 (fun v44 => k .ret (fr33_53 v44)) := (show X cp n i33_18 (fr33_2 p0 p1) k = X cp n i33_16 (fr33_2 p0 p1) (seqT (X cp n) i33_17 k) from by kernel_rfl).trans ((show X cp n i33_16 (fr33_2 p0 p1) (seqT (X cp n) i33_17 k) = s33_50 cp n p0 p1 (fun v41 => X cp n i33_17 (fr33_49 p0 p1 v41) k) from (s33_50_t cp n p0 p1 (seqT (X cp n) i33_17 k)).trans (by kernel_rfl)).trans (congrArg (fun q => s33_50 cp n p0 p1 q) (funext fun v41 => (s33_51_t cp n p0 p1 v41 k).trans (show s33_51 cp n p0 p1 v41 (fun v43 => k .ret (fr33_52 v43)) = s33_51 cp n p0 p1 v41 (fun v43 => k .ret (fr33_53 v43)) from by kernel_rfl))))
def fr33_55 (v45 : Int) : FF := [dT 4 ((tL v45) :: (dT 11 [])), dc, dc, dc, dc]
def fr33_57 (p0 : SRecv) (p1 : Int) : FF := [(.agg (eRecv p0)) :: (tL p1) :: (dT 14 []), dc, dc, dc, dc]
theorem s33_56_t (cp : CP) (n : Nat) (p0 : SRecv) (p1 : Int) (k : KX R) : X cp n i33_19 (fr33_57 p0 p1) k = s33_56 cp n p0 p1 (fun v45 => k .ret (fr33_55 v45)) := ((fun c => (show X cp n (.seq (.fin (.reg g33_0) [0, 4] []) (.seq (.fin (.reg g33_1) [7, 8] []) c)) (fr33_57 p0 p1) k = s33_1 cp n p0 p1 (X cp n c (fr33_2 p0 p1) k) from by kernel_rfl)) i33_18).trans (congrArg (fun q => s33_1 cp n p0 p1 q) ((s33_54_t cp n p0 p1 k).trans (show s33_54 cp n p0 p1 (fun v44 => k .ret (fr33_53 v44)) = s33_54 cp n p0 p1 (fun v44 => k .ret (fr33_55 v44)) from by kernel_rfl)))
theorem run33 (cp : CP) (n : Nat) (p0 : SRecv) (p1 : Int) (k : Ret2 RW → Option R) : G33 cp (n + 1) p0 p1 (fun r0 => k ⟨(tL r0), [], []⟩) = run2 U cp (callP cp n) n fn33 [.agg (eRecv p0), (tL p1)] [] k := ((X_run (f := fn33) (av := [.agg (eRecv p0), (tL p1)]) (cells := []) (code := i33_19) (fr := (fr33_57 p0 p1)) (k := k) (by kernel_rfl) (fun K => by kernel_rfl)).trans ((s33_56_t cp n p0 p1 (finK2 fn33 k)).trans (by kernel_rfl))).symm
/-! tideway/span.may -/
theorem run82 (cp : CP) (n : Nat) (p0 : SSpan) (k : Ret2 RW → Option R) : G82 cp (n + 1) p0 (fun r0 => k ⟨(tB r0), [], []⟩) = run2 U cp (callP cp n) n fn82 [.agg (eSpan p0)] [] k := by kernel_rfl
/-! tideway/span.Check -/
def fr78_2 (p0 : (List SSpan)) : FF := [(.row false (.rSpan p0)) :: (dT 15 []), dc, dc]
def fr78_4 (p0 : (List SSpan)) (v79 : Int) : FF := [(.row false (.rSpan p0)) :: (dT 4 ((.row false (.rSpan p0)) :: (tL v79) :: (tL 0) :: (dT 8 []))), dc, dc]
def fr78_6 (p0 : (List SSpan)) (v79 v82 : Int) : FF := [(.row false (.rSpan p0)) :: (dT 4 ((.row false (.rSpan p0)) :: (tL v79) :: (tL v82) :: (dT 8 []))), dc, dc]
def fr78_7 : FF := [dT 2 ((tL 60) :: (dT 13 [])), dc, dc]
def fr78_8 : FF := [dc, dc, dc]
def fr78_9 (p0 : (List SSpan)) (v79 v80 : Int) : FF := [(.row false (.rSpan p0)) :: (dT 4 ((.row false (.rSpan p0)) :: (tL v79) :: (tL v80) :: (dT 8 []))), dc, dc]
theorem s78_5_t (cp : CP) (n : Nat) (p0 : (List SSpan)) (v79 v80 : Int) (k : KX R) : X cp n i78_0 (fr78_9 p0 v79 v80) k = s78_5 cp n p0 v79 v80 (fun v82 => k .norm (fr78_6 p0 v79 v82)) (k .ret fr78_7) (k (.exit 0) fr78_8) := by kernel_rfl
theorem l78_10_t (cp : CP) (n : Nat) : ∀ (m : Nat) (p0 : (List SSpan)) (v79 v80 : Int) (k : KX R), loopN2 (X cp n i78_0) m (fr78_9 p0 v79 v80) k = l78_10 cp n m p0 v79 v80 (k .ret fr78_7) (k (.exit 0) fr78_8)
  | 0, _, _, _, _ => rfl
  | m + 1, p0, v79, v80, k => (loopN2_succ (X cp n i78_0) m (fr78_9 p0 v79 v80) k).trans ((s78_5_t cp n p0 v79 v80 (loopT (X cp n i78_0) m k)).trans ((show s78_5 cp n p0 v79 v80 (fun v82 => loopT (X cp n i78_0) m k .norm (fr78_6 p0 v79 v82)) (loopT (X cp n i78_0) m k .ret fr78_7) (loopT (X cp n i78_0) m k (.exit 0) fr78_8) = s78_5 cp n p0 v79 v80 (fun v82 => loopN2 (X cp n i78_0) m (fr78_9 p0 v79 v82) k) (k .ret fr78_7) (k (.exit 0) fr78_8) from by kernel_rfl).trans (congrArg (fun q => s78_5 cp n p0 v79 v80 q (k .ret fr78_7) (k (.exit 0) fr78_8)) (funext fun v82 => l78_10_t cp n m p0 v79 v82 k))))
theorem s78_11_t (cp : CP) (n : Nat) (p0 : (List SSpan)) (v79 : Int) (k : KX R) : X cp n i78_1 (fr78_4 p0 v79) k = s78_11 cp n p0 v79 (k .ret fr78_7) (k (.exit 0) fr78_8) := (show X cp n i78_1 (fr78_4 p0 v79) k = loopN2 (X cp n i78_0) n (fr78_9 p0 v79 0) k from by kernel_rfl).trans (l78_10_t cp n n p0 v79 0 k)
theorem s78_12_t (cp : CP) (n : Nat) (p0 : (List SSpan)) (v79 : Int) (k : KX R) : X cp n i78_2 (fr78_4 p0 v79) k = s78_12 cp n p0 v79 (k .norm fr78_8) (k .ret fr78_7) := (show X cp n i78_2 (fr78_4 p0 v79) k = X cp n i78_1 (fr78_4 p0 v79) (blkT 0 k) from by kernel_rfl).trans ((s78_11_t cp n p0 v79 (blkT 0 k)).trans (by kernel_rfl))
theorem s78_13_t (cp : CP) (n : Nat) (p0 : (List SSpan)) (k : KX R) : X cp n i78_3 (fr78_2 p0) k = s78_13 cp n p0 (k .norm fr78_8) (k .ret fr78_7) := ((fun c => (show X cp n (.seq (.reg g78_1) c) (fr78_2 p0) k = s78_3 cp n p0 (fun v79 => X cp n c (fr78_4 p0 v79) k) from by kernel_rfl)) i78_2).trans (congrArg (fun q => s78_3 cp n p0 q) (funext fun v79 => s78_12_t cp n p0 v79 k))
def fr78_15 : FF := [dT 2 ((tL 0) :: (dT 13 [])), dc, dc]
theorem s78_14_t (cp : CP) (n : Nat) (k : KX R) : X cp n i78_4 fr78_8 k = s78_14 cp n (k .ret fr78_15) := by kernel_rfl
def fr78_16 (v83 : Int) : FF := [dT 2 ((tL v83) :: (dT 13 [])), dc, dc]
theorem s78_17_t (cp : CP) (n : Nat) (p0 : (List SSpan)) (k : KX R) : X cp n i78_5 (fr78_2 p0) k = s78_17 cp n p0 (fun v83 => k .ret (fr78_16 v83)) := (show X cp n i78_5 (fr78_2 p0) k = X cp n i78_3 (fr78_2 p0) (seqT (X cp n) i78_4 k) from by kernel_rfl).trans ((show X cp n i78_3 (fr78_2 p0) (seqT (X cp n) i78_4 k) = s78_13 cp n p0 (X cp n i78_4 fr78_8 k) (k .ret (fr78_16 60)) from (s78_13_t cp n p0 (seqT (X cp n) i78_4 k)).trans (by kernel_rfl)).trans (congrArg (fun q => s78_13 cp n p0 q (k .ret (fr78_16 60))) ((s78_14_t cp n  k).trans (show s78_14 cp n (k .ret fr78_15) = s78_14 cp n (k .ret (fr78_16 0)) from by kernel_rfl))))
def fr78_18 (v84 : Int) : FF := [dT 2 ((tL v84) :: (dT 13 [])), dc, dc]
theorem s78_19_t (cp : CP) (n : Nat) (p0 : (List SSpan)) (k : KX R) : X cp n i78_6 (fr78_2 p0) k = s78_19 cp n p0 (fun v84 => k .ret (fr78_18 v84)) := ((fun c => (show X cp n (.seq (.fin (.reg g78_0) [2] []) c) (fr78_2 p0) k = s78_1 cp n p0 (X cp n c (fr78_2 p0) k) from by kernel_rfl)) i78_5).trans (congrArg (fun q => s78_1 cp n p0 q) ((s78_17_t cp n p0 k).trans (show s78_17 cp n p0 (fun v83 => k .ret (fr78_16 v83)) = s78_17 cp n p0 (fun v83 => k .ret (fr78_18 v83)) from by kernel_rfl)))
theorem run78 (cp : CP) (n : Nat) (p0 : (List SSpan)) (k : Ret2 RW → Option R) : G78 cp (n + 1) p0 (fun r0 => k ⟨(tL r0), [], []⟩) = run2 U cp (callP cp n) n fn78 [.row false (.rSpan p0)] [] k := ((X_run (f := fn78) (av := [.row false (.rSpan p0)]) (cells := []) (code := i78_6) (fr := (fr78_2 p0)) (k := k) (by kernel_rfl) (fun K => by kernel_rfl)).trans ((s78_19_t cp n p0 (finK2 fn78 k)).trans (by kernel_rfl))).symm
/-! tideway/span.within -/
theorem run79 (cp : CP) (n : Nat) (p0 : (List SSpan)) (p1 : SSpan) (k : Ret2 RW → Option R) : G79 cp (n + 1) p0 p1 (fun r0 r1 => k ⟨.clo 83 [(6, 0), (8, 0)], [], [[.row false (.rSpan r0)], (eSpan r1)]⟩) = run2 U cp (callP cp n) n fn79 [.row false (.rSpan p0), .agg (eSpan p1)] [] k := by kernel_rfl
/-! tideway/span.Gaps -/
def fr61_2 (p0 : (List SSpan)) (p1 : SSpan) : FF := [(.row false (.rSpan p0)) :: (dT 2 ((.ptr 64 0) :: (dT 1 ((.ptr 67 0) :: (.ptr 69 0) :: (dT 9 []))))), dc, dc, dc, (.hdr 2) :: ((eSpan p1) ++ ((.hdr 1) :: (.row true (.rSpan [])) :: (.hdr 1) :: (tL p1.xFrom) :: (dT 9 []))), dc]
def fr61_3 : FF := [dT 4 ((.row false (.rSpan [])) :: (dT 11 [])), dc, dc, dc, dc, dc]
def fr61_5 (p1 : SSpan) (v90 : (List SSpan)) (v91 v92 : Int) : FF := [dT 3 ((.ptr 64 0) :: (dT 1 ((.ptr 67 0) :: (.ptr 69 0) :: (dT 9 [])))), dT 6 ((.clo 83 [(74, 0), (76, 0)]) :: (dT 9 [])), dc, dc, (.hdr 2) :: ((eSpan p1) ++ ((.hdr 1) :: (.row true (.rSpan [])) :: (.hdr 1) :: (tL p1.xFrom) :: (dT 3 ((.hdr 1) :: (.row false (.rSpan v90)) :: (.hdr 2) :: (tL v91) :: (tL v92) :: (dT 1 []))))), dc]
def fr61_7 : FF := [dT 3 ((.ptr 64 0) :: (dT 1 ((.ptr 67 0) :: (.ptr 69 0) :: (dT 9 [])))), dT 6 ((.clo 83 [(74, 0), (76, 0)]) :: (dT 9 [])), dc, dc, dc, dc]
def y61_6 (cp : CP) (n : Nat) : List (TV RW) → FF → (FF → Option R) → Option R := rndT 4 [23] [64, 67, 69, 74, 76, 79, 82] fr61_7 (X cp n i61_2)
def fr61_9 (p1 : SSpan) (v90 : (List SSpan)) (v91 v92 v93 : Int) : FF := [.yld :: (dT 1 ((.ptr 76 0) :: (dT 4 ((.row false (.rSpan v90)) :: (tL v93) :: (tL 0) :: (dT 6 []))))), dc, dc, dc, (.hdr 2) :: ((eSpan p1) ++ ((.hdr 1) :: (.row true (.rSpan [])) :: (.hdr 1) :: (tL p1.xFrom) :: (dT 3 ((.hdr 1) :: (.row false (.rSpan v90)) :: (.hdr 2) :: (tL v91) :: (tL v92) :: (dT 1 []))))), dc]
def fr61_11 (p1 : SSpan) (v90 : (List SSpan)) (v91 v92 v93 v94 : Int) (v95 : (List SSpan)) (v96 : Int) : FF := [.yld :: (dT 1 ((.ptr 76 0) :: (dT 4 ((.row false (.rSpan v90)) :: (tL v93) :: (tL v94) :: (dT 6 []))))), dc, dc, dc, (.hdr 2) :: ((eSpan p1) ++ ((.hdr 1) :: (.row true (.rSpan v95)) :: (.hdr 1) :: (tL v96) :: (dT 3 ((.hdr 1) :: (.row false (.rSpan v90)) :: (.hdr 2) :: (tL v91) :: (tL v92) :: (dT 1 []))))), dc]
def fr61_12 (p1 : SSpan) (v90 : (List SSpan)) (v91 v92 : Int) (v95 : (List SSpan)) (v96 : Int) : FF := [dc, dc, dc, dc, (.hdr 2) :: ((eSpan p1) ++ ((.hdr 1) :: (.row true (.rSpan v95)) :: (.hdr 1) :: (tL v96) :: (dT 3 ((.hdr 1) :: (.row false (.rSpan v90)) :: (.hdr 2) :: (tL v91) :: (tL v92) :: (dT 1 []))))), dc]
def fr61_14 (p1 : SSpan) (v90 : (List SSpan)) (v91 v92 v93 v94 : Int) (v95 : (List SSpan)) (v96 v97 v98 : Int) : FF := [.yld :: (dT 1 ((.ptr 76 0) :: (dT 3 ((.ptr 82 0) :: (.row false (.rSpan v90)) :: (tL v93) :: (tL v94) :: (dT 6 []))))), dc, dc, dc, (.hdr 2) :: ((eSpan p1) ++ ((.hdr 1) :: (.row true (.rSpan v95)) :: (.hdr 1) :: (tL v96) :: (dT 3 ((.hdr 1) :: (.row false (.rSpan v90)) :: (.hdr 2) :: (tL v91) :: (tL v92) :: (dT 1 []))))), dT 2 ((.hdr 2) :: (tL v97) :: (tL v98) :: (dT 11 []))]
def fr61_16 (p1 : SSpan) (v90 : (List SSpan)) (v91 v92 v93 v94 : Int) (v95 : (List SSpan)) (v96 v97 v98 : Int) (v99 : Bool) : FF := [.yld :: (dT 1 ((.ptr 76 0) :: (dT 3 ((.ptr 82 0) :: (.row false (.rSpan v90)) :: (tL v93) :: (tL v94) :: (dT 6 []))))), dT 8 ([.ptr 82 0, (tL v97), .ptr 82 1, (tL v98), (tB v99), (tB true), .yld, .agg [(tL v97), (tL v98)]]), dc, dc, (.hdr 2) :: ((eSpan p1) ++ ((.hdr 1) :: (.row true (.rSpan v95)) :: (.hdr 1) :: (tL v96) :: (dT 3 ((.hdr 1) :: (.row false (.rSpan v90)) :: (.hdr 2) :: (tL v91) :: (tL v92) :: (dT 1 []))))), dT 2 ((.hdr 2) :: (tL v97) :: (tL v98) :: (dT 11 []))]
def fr61_17 (p1 : SSpan) (v90 : (List SSpan)) (v91 v92 v93 v94 : Int) (v95 : (List SSpan)) (v96 v97 v98 : Int) (v100 : Bool) : FF := [.yld :: (dT 1 ((.ptr 76 0) :: (dT 3 ((.ptr 82 0) :: (.row false (.rSpan v90)) :: (tL v93) :: (tL v94) :: (dT 6 []))))), dT 8 ([.ptr 82 0, (tL v97), .ptr 82 1, (tL v98), (tB v100), (tB false), .tup [], .tup []]), dc, dc, (.hdr 2) :: ((eSpan p1) ++ ((.hdr 1) :: (.row true (.rSpan v95)) :: (.hdr 1) :: (tL v96) :: (dT 3 ((.hdr 1) :: (.row false (.rSpan v90)) :: (.hdr 2) :: (tL v91) :: (tL v92) :: (dT 1 []))))), dT 2 ((.hdr 2) :: (tL v97) :: (tL v98) :: (dT 11 []))]
theorem s61_15_t (cp : CP) (n : Nat) (p1 : SSpan) (v90 : (List SSpan)) (v91 v92 v93 v94 : Int) (v95 : (List SSpan)) (v96 v97 v98 : Int) (A B : FF → Option R) : (gF (fr61_14 p1 v90 v91 v92 v93 v94 v95 v96 v97 v98) fun l => steps2 U cp (callP cp n) g61_10041 l fun l1 => yGuard2 (some (29, true)) l1 (A l1) (B l1)) = s61_15 cp n p1 v90 v91 v92 v93 v94 v95 v96 v97 v98 (fun v99 => A (fr61_16 p1 v90 v91 v92 v93 v94 v95 v96 v97 v98 v99)) (fun v100 => B (fr61_17 p1 v90 v91 v92 v93 v94 v95 v96 v97 v98 v100)) := by kernel_rfl
def fr61_19 (p1 : SSpan) (v90 : (List SSpan)) (v91 v92 v97 v98 : Int) (v101 : (List SSpan)) : FF := [dT 3 ((.ptr 64 0) :: (dT 1 ((.ptr 67 0) :: (.ptr 69 0) :: (dT 9 [])))), dT 6 ((.clo 83 [(74, 0), (76, 0)]) :: (dT 9 [])), dc, dc, (.hdr 2) :: ((eSpan p1) ++ ((.hdr 1) :: (.row true (.rSpan v101)) :: (.hdr 1) :: (tL v98) :: (dT 3 ((.hdr 1) :: (.row false (.rSpan v90)) :: (.hdr 2) :: (tL v91) :: (tL v92) :: (dT 1 []))))), dT 2 ((.hdr 2) :: (tL v97) :: (tL v98) :: (dT 11 []))]
def fr61_20 (p1 : SSpan) (v90 : (List SSpan)) (v91 v92 : Int) (v95 : (List SSpan)) (v96 v97 v98 : Int) : FF := [dT 3 ((.ptr 64 0) :: (dT 1 ((.ptr 67 0) :: (.ptr 69 0) :: (dT 9 [])))), dT 6 ((.clo 83 [(74, 0), (76, 0)]) :: (.agg [(tL v97), (tL v98)]) :: (dT 8 [])), dc, dc, (.hdr 2) :: ((eSpan p1) ++ ((.hdr 1) :: (.row true (.rSpan v95)) :: (.hdr 1) :: (tL v96) :: (dT 3 ((.hdr 1) :: (.row false (.rSpan v90)) :: (.hdr 2) :: (tL v91) :: (tL v92) :: (dT 1 []))))), dT 2 ((.hdr 2) :: (tL v97) :: (tL v98) :: (dT 11 []))]
theorem s61_18_t (cp : CP) (n : Nat) (p1 : SSpan) (v90 : (List SSpan)) (v91 v92 : Int) (v95 : (List SSpan)) (v96 v97 v98 : Int) (k : KX R) : X cp n i61_2 (fr61_20 p1 v90 v91 v92 v95 v96 v97 v98) k = s61_18 cp n p1 v90 v91 v92 v95 v96 v97 v98 (fun v101 => k .norm (fr61_19 p1 v90 v91 v92 v97 v98 v101)) := by kernel_rfl
def fr61_22 (p1 : SSpan) (v90 : (List SSpan)) (v91 v92 v93 v94 v97 v98 : Int) (v99 : Bool) (v101 : (List SSpan)) : FF := [.yld :: (dT 1 ((.ptr 76 0) :: (dT 3 ((.ptr 82 0) :: (.row false (.rSpan v90)) :: (tL v93) :: (tL v94) :: (dT 6 []))))), dT 8 ([.ptr 82 0, (tL v97), .ptr 82 1, (tL v98), (tB v99), (tB true), .yld, .agg [(tL v97), (tL v98)]]), (tB true) :: (dT 15 []), dc, (.hdr 2) :: ((eSpan p1) ++ ((.hdr 1) :: (.row true (.rSpan v101)) :: (.hdr 1) :: (tL v98) :: (dT 3 ((.hdr 1) :: (.row false (.rSpan v90)) :: (.hdr 2) :: (tL v91) :: (tL v92) :: (dT 1 []))))), dT 2 ((.hdr 2) :: (tL v97) :: (tL v98) :: (dT 11 []))]
theorem q61_21_t (cp : CP) (n : Nat) (p1 : SSpan) (v90 : (List SSpan)) (v91 v92 v93 v94 : Int) (v95 : (List SSpan)) (v96 v97 v98 : Int) (v99 : Bool) (K : FF → Option R) : yRun2 (y61_6 cp n) (.s 30) [.s 31] 32 (fr61_16 p1 v90 v91 v92 v93 v94 v95 v96 v97 v98 v99) K = s61_18 cp n p1 v90 v91 v92 v95 v96 v97 v98 (fun v101 => K (fr61_22 p1 v90 v91 v92 v93 v94 v97 v98 v99 v101)) := ((fun x => (show yRun2 (rndT 4 [23] [64, 67, 69, 74, 76, 79, 82] fr61_7 x) (.s 30) [.s 31] 32 (fr61_16 p1 v90 v91 v92 v93 v94 v95 v96 v97 v98 v99) K = x (fr61_20 p1 v90 v91 v92 v95 v96 v97 v98) (roundT 4 (fr61_16 p1 v90 v91 v92 v93 v94 v95 v96 v97 v98 v99) (fun l2 => putO l2 (some 32) (.sc (.bool true)) K)) from by kernel_rfl)) (X cp n i61_2)).trans ((s61_18_t cp n p1 v90 v91 v92 v95 v96 v97 v98 (roundT 4 (fr61_16 p1 v90 v91 v92 v93 v94 v95 v96 v97 v98 v99) (fun l2 => putO l2 (some 32) (.sc (.bool true)) K))).trans (by kernel_rfl))
def fr61_23 (p1 : SSpan) (v90 : (List SSpan)) (v91 v92 v93 v94 : Int) (v102 : (List SSpan)) (v103 : Int) : FF := [.yld :: (dT 1 ((.ptr 76 0) :: (dT 4 ((.row false (.rSpan v90)) :: (tL v93) :: (tL v94) :: (dT 6 []))))), dc, dT 2 ((tB false) :: (dT 13 [])), dc, (.hdr 2) :: ((eSpan p1) ++ ((.hdr 1) :: (.row true (.rSpan v102)) :: (.hdr 1) :: (tL v103) :: (dT 3 ((.hdr 1) :: (.row false (.rSpan v90)) :: (.hdr 2) :: (tL v91) :: (tL v92) :: (dT 1 []))))), dc]
theorem s61_24_t (cp : CP) (n : Nat) (p1 : SSpan) (v90 : (List SSpan)) (v91 v92 v93 v94 : Int) (v95 : (List SSpan)) (v96 v97 v98 : Int) (k : KX R) : XI cp n (y61_6 cp n) i61_4 (fr61_14 p1 v90 v91 v92 v93 v94 v95 v96 v97 v98) k = s61_24 cp n p1 v90 v91 v92 v93 v94 v95 v96 v97 v98 (fun v102 v103 => k .norm (fr61_23 p1 v90 v91 v92 v93 v94 v102 v103)) := (show XI cp n (y61_6 cp n) i61_4 (fr61_14 p1 v90 v91 v92 v93 v94 v95 v96 v97 v98) k = gF (fr61_14 p1 v90 v91 v92 v93 v94 v95 v96 v97 v98) fun l => steps2 U cp (callP cp n) g61_10041 l fun l1 => yGuard2 (some (29, true)) l1 ((fun l1 => yRun2 (y61_6 cp n) (.s 30) [.s 31] 32 l1 (fun l2 => steps2 U cp (callP cp n) g61_10042 l2 ((clrT [6, 24, 25, 26, 27, 28, 29, 30, 31, 32, 33] [(82, 2)] k) .norm))) l1) ((fun l1 => putO l1 (some 32) (.tup []) fun l2 => steps2 U cp (callP cp n) g61_10042 l2 ((clrT [6, 24, 25, 26, 27, 28, 29, 30, 31, 32, 33] [(82, 2)] k) .norm)) l1) from by kernel_rfl).trans ((s61_15_t cp n p1 v90 v91 v92 v93 v94 v95 v96 v97 v98 (fun l1 => yRun2 (y61_6 cp n) (.s 30) [.s 31] 32 l1 (fun l2 => steps2 U cp (callP cp n) g61_10042 l2 ((clrT [6, 24, 25, 26, 27, 28, 29, 30, 31, 32, 33] [(82, 2)] k) .norm))) (fun l1 => putO l1 (some 32) (.tup []) fun l2 => steps2 U cp (callP cp n) g61_10042 l2 ((clrT [6, 24, 25, 26, 27, 28, 29, 30, 31, 32, 33] [(82, 2)] k) .norm))).trans (cg2 (f := s61_15 cp n p1 v90 v91 v92 v93 v94 v95 v96 v97 v98) (funext fun v99 => (q61_21_t cp n p1 v90 v91 v92 v93 v94 v95 v96 v97 v98 v99 (fun l2 => steps2 U cp (callP cp n) g61_10042 l2 ((clrT [6, 24, 25, 26, 27, 28, 29, 30, 31, 32, 33] [(82, 2)] k) .norm))).trans (show s61_18 cp n p1 v90 v91 v92 v95 v96 v97 v98 (fun v101 => (fun l2 => steps2 U cp (callP cp n) g61_10042 l2 ((clrT [6, 24, 25, 26, 27, 28, 29, 30, 31, 32, 33] [(82, 2)] k) .norm)) (fr61_22 p1 v90 v91 v92 v93 v94 v97 v98 v99 v101)) = s61_18 cp n p1 v90 v91 v92 v95 v96 v97 v98 (fun v101 => k .norm (fr61_23 p1 v90 v91 v92 v93 v94 v101 v98)) from by kernel_rfl)) (funext fun v100 => (show (fun l1 => putO l1 (some 32) (.tup []) fun l2 => steps2 U cp (callP cp n) g61_10042 l2 ((clrT [6, 24, 25, 26, 27, 28, 29, 30, 31, 32, 33] [(82, 2)] k) .norm)) (fr61_17 p1 v90 v91 v92 v93 v94 v95 v96 v97 v98 v100) = k .norm (fr61_23 p1 v90 v91 v92 v93 v94 v95 v96) from by kernel_rfl))))
def fr61_26 (p1 : SSpan) (v90 : (List SSpan)) (v91 v92 v93 v94 : Int) (v102 : (List SSpan)) (v103 : Int) : FF := [.yld :: (dT 1 ((.ptr 76 0) :: (dT 4 ((.row false (.rSpan v90)) :: (tL v93) :: (tL v94) :: (dT 6 []))))), dc, dc, dc, (.hdr 2) :: ((eSpan p1) ++ ((.hdr 1) :: (.row true (.rSpan v102)) :: (.hdr 1) :: (tL v103) :: (dT 3 ((.hdr 1) :: (.row false (.rSpan v90)) :: (.hdr 2) :: (tL v91) :: (tL v92) :: (dT 1 []))))), dc]
theorem s61_25_t (cp : CP) (n : Nat) (p1 : SSpan) (v90 : (List SSpan)) (v91 v92 v93 v94 : Int) (v102 : (List SSpan)) (v103 : Int) (k : KX R) : XI cp n (y61_6 cp n) i61_5 (fr61_23 p1 v90 v91 v92 v93 v94 v102 v103) k = s61_25 cp n p1 v90 v91 v92 v93 v94 v102 v103 (k .norm (fr61_26 p1 v90 v91 v92 v93 v94 v102 v103)) := by kernel_rfl
def fr61_27 (p1 : SSpan) (v90 : (List SSpan)) (v91 v92 v93 v94 : Int) (v104 : (List SSpan)) (v105 : Int) : FF := [.yld :: (dT 1 ((.ptr 76 0) :: (dT 4 ((.row false (.rSpan v90)) :: (tL v93) :: (tL v94) :: (dT 6 []))))), dc, dc, dc, (.hdr 2) :: ((eSpan p1) ++ ((.hdr 1) :: (.row true (.rSpan v104)) :: (.hdr 1) :: (tL v105) :: (dT 3 ((.hdr 1) :: (.row false (.rSpan v90)) :: (.hdr 2) :: (tL v91) :: (tL v92) :: (dT 1 []))))), dc]
theorem s61_28_t (cp : CP) (n : Nat) (p1 : SSpan) (v90 : (List SSpan)) (v91 v92 v93 v94 : Int) (v95 : (List SSpan)) (v96 v97 v98 : Int) (k : KX R) : XI cp n (y61_6 cp n) i61_6 (fr61_14 p1 v90 v91 v92 v93 v94 v95 v96 v97 v98) k = s61_28 cp n p1 v90 v91 v92 v93 v94 v95 v96 v97 v98 (fun v104 v105 => k .norm (fr61_27 p1 v90 v91 v92 v93 v94 v104 v105)) := (show XI cp n (y61_6 cp n) i61_6 (fr61_14 p1 v90 v91 v92 v93 v94 v95 v96 v97 v98) k = XI cp n (y61_6 cp n) i61_4 (fr61_14 p1 v90 v91 v92 v93 v94 v95 v96 v97 v98) (seqT (XI cp n (y61_6 cp n)) i61_5 k) from by kernel_rfl).trans ((show XI cp n (y61_6 cp n) i61_4 (fr61_14 p1 v90 v91 v92 v93 v94 v95 v96 v97 v98) (seqT (XI cp n (y61_6 cp n)) i61_5 k) = s61_24 cp n p1 v90 v91 v92 v93 v94 v95 v96 v97 v98 (fun v102 v103 => XI cp n (y61_6 cp n) i61_5 (fr61_23 p1 v90 v91 v92 v93 v94 v102 v103) k) from (s61_24_t cp n p1 v90 v91 v92 v93 v94 v95 v96 v97 v98 (seqT (XI cp n (y61_6 cp n)) i61_5 k)).trans (by kernel_rfl)).trans (congrArg (fun q => s61_24 cp n p1 v90 v91 v92 v93 v94 v95 v96 v97 v98 q) (funext fun v102 => funext fun v103 => (s61_25_t cp n p1 v90 v91 v92 v93 v94 v102 v103 k).trans (show s61_25 cp n p1 v90 v91 v92 v93 v94 v102 v103 (k .norm (fr61_26 p1 v90 v91 v92 v93 v94 v102 v103)) = s61_25 cp n p1 v90 v91 v92 v93 v94 v102 v103 (k .norm (fr61_27 p1 v90 v91 v92 v93 v94 v102 v103)) from by kernel_rfl))))
def fr61_29 (p1 : SSpan) (v90 : (List SSpan)) (v91 v92 v93 v94 : Int) (v106 : (List SSpan)) (v107 : Int) : FF := [.yld :: (dT 1 ((.ptr 76 0) :: (dT 4 ((.row false (.rSpan v90)) :: (tL v93) :: (tL v94) :: (dT 6 []))))), dc, dc, dc, (.hdr 2) :: ((eSpan p1) ++ ((.hdr 1) :: (.row true (.rSpan v106)) :: (.hdr 1) :: (tL v107) :: (dT 3 ((.hdr 1) :: (.row false (.rSpan v90)) :: (.hdr 2) :: (tL v91) :: (tL v92) :: (dT 1 []))))), dc]
theorem s61_30_t (cp : CP) (n : Nat) (p1 : SSpan) (v90 : (List SSpan)) (v91 v92 v93 v94 : Int) (v95 : (List SSpan)) (v96 : Int) (k : KX R) : XI cp n (y61_6 cp n) i61_7 (fr61_11 p1 v90 v91 v92 v93 v94 v95 v96) k = s61_30 cp n p1 v90 v91 v92 v93 v94 v95 v96 (fun v106 v107 => k .norm (fr61_29 p1 v90 v91 v92 v93 v94 v106 v107)) := ((fun c => (show XI cp n (y61_6 cp n) (.seq (.fin (.reg g61_1002) [11, 12] []) (.seq (.fin (.reg g61_1003) [5, 13, 14, 15, 16, 17, 18, 19, 20, 21, 22, 23] [(79, 2)]) c)) (fr61_11 p1 v90 v91 v92 v93 v94 v95 v96) k = s61_13 cp n p1 v90 v91 v92 v93 v94 v95 v96 (fun v97 v98 => XI cp n (y61_6 cp n) c (fr61_14 p1 v90 v91 v92 v93 v94 v95 v96 v97 v98) k) from by kernel_rfl)) i61_6).trans (congrArg (fun q => s61_13 cp n p1 v90 v91 v92 v93 v94 v95 v96 q) (funext fun v97 => funext fun v98 => (s61_28_t cp n p1 v90 v91 v92 v93 v94 v95 v96 v97 v98 k).trans (show s61_28 cp n p1 v90 v91 v92 v93 v94 v95 v96 v97 v98 (fun v104 v105 => k .norm (fr61_27 p1 v90 v91 v92 v93 v94 v104 v105)) = s61_28 cp n p1 v90 v91 v92 v93 v94 v95 v96 v97 v98 (fun v104 v105 => k .norm (fr61_29 p1 v90 v91 v92 v93 v94 v104 v105)) from by kernel_rfl)))
def fr61_31 (p1 : SSpan) (v90 : (List SSpan)) (v91 v92 v93 v94 : Int) (v108 : (List SSpan)) (v109 : Int) : FF := [.yld :: (dT 1 ((.ptr 76 0) :: (dT 4 ((.row false (.rSpan v90)) :: (tL v93) :: (tL v94) :: (dT 6 []))))), dc, dc, dc, (.hdr 2) :: ((eSpan p1) ++ ((.hdr 1) :: (.row true (.rSpan v108)) :: (.hdr 1) :: (tL v109) :: (dT 3 ((.hdr 1) :: (.row false (.rSpan v90)) :: (.hdr 2) :: (tL v91) :: (tL v92) :: (dT 1 []))))), dc]
theorem s61_32_t (cp : CP) (n : Nat) (p1 : SSpan) (v90 : (List SSpan)) (v91 v92 v93 v94 : Int) (v95 : (List SSpan)) (v96 : Int) (k : KX R) : XI cp n (y61_6 cp n) i61_8 (fr61_11 p1 v90 v91 v92 v93 v94 v95 v96) k = s61_32 cp n p1 v90 v91 v92 v93 v94 v95 v96 (fun v108 v109 => k .norm (fr61_31 p1 v90 v91 v92 v93 v94 v108 v109)) := (show XI cp n (y61_6 cp n) i61_8 (fr61_11 p1 v90 v91 v92 v93 v94 v95 v96) k = XI cp n (y61_6 cp n) i61_7 (fr61_11 p1 v90 v91 v92 v93 v94 v95 v96) (blkT 1 k) from by kernel_rfl).trans ((s61_30_t cp n p1 v90 v91 v92 v93 v94 v95 v96 (blkT 1 k)).trans (by kernel_rfl))
def fr61_34 (p1 : SSpan) (v90 : (List SSpan)) (v91 v92 v93 : Int) (v108 : (List SSpan)) (v109 v110 : Int) : FF := [.yld :: (dT 1 ((.ptr 76 0) :: (dT 4 ((.row false (.rSpan v90)) :: (tL v93) :: (tL v110) :: (dT 6 []))))), dc, dc, dc, (.hdr 2) :: ((eSpan p1) ++ ((.hdr 1) :: (.row true (.rSpan v108)) :: (.hdr 1) :: (tL v109) :: (dT 3 ((.hdr 1) :: (.row false (.rSpan v90)) :: (.hdr 2) :: (tL v91) :: (tL v92) :: (dT 1 []))))), dc]
theorem s61_33_t (cp : CP) (n : Nat) (p1 : SSpan) (v90 : (List SSpan)) (v91 v92 v93 v94 : Int) (v108 : (List SSpan)) (v109 : Int) (k : KX R) : XI cp n (y61_6 cp n) i61_9 (fr61_31 p1 v90 v91 v92 v93 v94 v108 v109) k = s61_33 cp n p1 v90 v91 v92 v93 v94 v108 v109 (fun v110 => k .norm (fr61_34 p1 v90 v91 v92 v93 v108 v109 v110)) := by kernel_rfl
def fr61_35 (p1 : SSpan) (v90 : (List SSpan)) (v91 v92 v93 v111 : Int) (v112 : (List SSpan)) (v113 : Int) : FF := [.yld :: (dT 1 ((.ptr 76 0) :: (dT 4 ((.row false (.rSpan v90)) :: (tL v93) :: (tL v111) :: (dT 6 []))))), dc, dc, dc, (.hdr 2) :: ((eSpan p1) ++ ((.hdr 1) :: (.row true (.rSpan v112)) :: (.hdr 1) :: (tL v113) :: (dT 3 ((.hdr 1) :: (.row false (.rSpan v90)) :: (.hdr 2) :: (tL v91) :: (tL v92) :: (dT 1 []))))), dc]
theorem s61_36_t (cp : CP) (n : Nat) (p1 : SSpan) (v90 : (List SSpan)) (v91 v92 v93 v94 : Int) (v95 : (List SSpan)) (v96 : Int) (k : KX R) : XI cp n (y61_6 cp n) i61_10 (fr61_11 p1 v90 v91 v92 v93 v94 v95 v96) k = s61_36 cp n p1 v90 v91 v92 v93 v94 v95 v96 (fun v111 v112 v113 => k .norm (fr61_35 p1 v90 v91 v92 v93 v111 v112 v113)) := (show XI cp n (y61_6 cp n) i61_10 (fr61_11 p1 v90 v91 v92 v93 v94 v95 v96) k = XI cp n (y61_6 cp n) i61_8 (fr61_11 p1 v90 v91 v92 v93 v94 v95 v96) (seqT (XI cp n (y61_6 cp n)) i61_9 k) from by kernel_rfl).trans ((show XI cp n (y61_6 cp n) i61_8 (fr61_11 p1 v90 v91 v92 v93 v94 v95 v96) (seqT (XI cp n (y61_6 cp n)) i61_9 k) = s61_32 cp n p1 v90 v91 v92 v93 v94 v95 v96 (fun v108 v109 => XI cp n (y61_6 cp n) i61_9 (fr61_31 p1 v90 v91 v92 v93 v94 v108 v109) k) from (s61_32_t cp n p1 v90 v91 v92 v93 v94 v95 v96 (seqT (XI cp n (y61_6 cp n)) i61_9 k)).trans (by kernel_rfl)).trans (congrArg (fun q => s61_32 cp n p1 v90 v91 v92 v93 v94 v95 v96 q) (funext fun v108 => funext fun v109 => (s61_33_t cp n p1 v90 v91 v92 v93 v94 v108 v109 k).trans (show s61_33 cp n p1 v90 v91 v92 v93 v94 v108 v109 (fun v110 => k .norm (fr61_34 p1 v90 v91 v92 v93 v108 v109 v110)) = s61_33 cp n p1 v90 v91 v92 v93 v94 v108 v109 (fun v110 => k .norm (fr61_35 p1 v90 v91 v92 v93 v110 v108 v109)) from by kernel_rfl))))
def fr61_37 (p1 : SSpan) (v90 : (List SSpan)) (v91 v92 v93 v114 : Int) (v115 : (List SSpan)) (v116 : Int) : FF := [.yld :: (dT 1 ((.ptr 76 0) :: (dT 4 ((.row false (.rSpan v90)) :: (tL v93) :: (tL v114) :: (dT 6 []))))), dc, dc, dc, (.hdr 2) :: ((eSpan p1) ++ ((.hdr 1) :: (.row true (.rSpan v115)) :: (.hdr 1) :: (tL v116) :: (dT 3 ((.hdr 1) :: (.row false (.rSpan v90)) :: (.hdr 2) :: (tL v91) :: (tL v92) :: (dT 1 []))))), dc]
theorem s61_38_t (cp : CP) (n : Nat) (p1 : SSpan) (v90 : (List SSpan)) (v91 v92 v93 v94 : Int) (v95 : (List SSpan)) (v96 : Int) (k : KX R) : XI cp n (y61_6 cp n) i61_11 (fr61_11 p1 v90 v91 v92 v93 v94 v95 v96) k = s61_38 cp n p1 v90 v91 v92 v93 v94 v95 v96 (fun v114 v115 v116 => k .norm (fr61_37 p1 v90 v91 v92 v93 v114 v115 v116)) (k (.exit 0) (fr61_12 p1 v90 v91 v92 v95 v96)) := ((fun c => (show XI cp n (y61_6 cp n) (.seq (.reg g61_1001) (.seq (.fin (.cond (.s 10) (.skip) (.clr [0, 2, 7, 8, 9, 10] [] (.exit 0))) [10] []) c)) (fr61_11 p1 v90 v91 v92 v93 v94 v95 v96) k = s61_10 cp n p1 v90 v91 v92 v93 v94 v95 v96 (XI cp n (y61_6 cp n) c (fr61_11 p1 v90 v91 v92 v93 v94 v95 v96) k) (k (.exit 0) (fr61_12 p1 v90 v91 v92 v95 v96)) from by kernel_rfl)) i61_10).trans (congrArg (fun q => s61_10 cp n p1 v90 v91 v92 v93 v94 v95 v96 q (k (.exit 0) (fr61_12 p1 v90 v91 v92 v95 v96))) ((s61_36_t cp n p1 v90 v91 v92 v93 v94 v95 v96 k).trans (show s61_36 cp n p1 v90 v91 v92 v93 v94 v95 v96 (fun v111 v112 v113 => k .norm (fr61_35 p1 v90 v91 v92 v93 v111 v112 v113)) = s61_36 cp n p1 v90 v91 v92 v93 v94 v95 v96 (fun v111 v112 v113 => k .norm (fr61_37 p1 v90 v91 v92 v93 v111 v112 v113)) from by kernel_rfl)))
def fr61_39 (p1 : SSpan) (v90 : (List SSpan)) (v91 v92 : Int) (v117 : (List SSpan)) (v118 : Int) : FF := [dc, dc, dc, dc, (.hdr 2) :: ((eSpan p1) ++ ((.hdr 1) :: (.row true (.rSpan v117)) :: (.hdr 1) :: (tL v118) :: (dT 3 ((.hdr 1) :: (.row false (.rSpan v90)) :: (.hdr 2) :: (tL v91) :: (tL v92) :: (dT 1 []))))), dc]
theorem l61_40_t (cp : CP) (n : Nat) : ∀ (m : Nat) (p1 : SSpan) (v90 : (List SSpan)) (v91 v92 v93 v94 : Int) (v95 : (List SSpan)) (v96 : Int) (k : KX R), loopN2 (XI cp n (y61_6 cp n) i61_11) m (fr61_11 p1 v90 v91 v92 v93 v94 v95 v96) k = l61_40 cp n m p1 v90 v91 v92 v93 v94 v95 v96 (fun v117 v118 => k (.exit 0) (fr61_39 p1 v90 v91 v92 v117 v118))
  | 0, _, _, _, _, _, _, _, _, _ => rfl
  | m + 1, p1, v90, v91, v92, v93, v94, v95, v96, k => (loopN2_succ (XI cp n (y61_6 cp n) i61_11) m (fr61_11 p1 v90 v91 v92 v93 v94 v95 v96) k).trans ((s61_38_t cp n p1 v90 v91 v92 v93 v94 v95 v96 (loopT (XI cp n (y61_6 cp n) i61_11) m k)).trans ((show s61_38 cp n p1 v90 v91 v92 v93 v94 v95 v96 (fun v114 v115 v116 => loopT (XI cp n (y61_6 cp n) i61_11) m k .norm (fr61_37 p1 v90 v91 v92 v93 v114 v115 v116)) (loopT (XI cp n (y61_6 cp n) i61_11) m k (.exit 0) (fr61_12 p1 v90 v91 v92 v95 v96)) = s61_38 cp n p1 v90 v91 v92 v93 v94 v95 v96 (fun v114 v115 v116 => loopN2 (XI cp n (y61_6 cp n) i61_11) m (fr61_11 p1 v90 v91 v92 v93 v114 v115 v116) k) (k (.exit 0) (fr61_39 p1 v90 v91 v92 v95 v96)) from by kernel_rfl).trans (congrArg (fun q => s61_38 cp n p1 v90 v91 v92 v93 v94 v95 v96 q (k (.exit 0) (fr61_39 p1 v90 v91 v92 v95 v96))) (funext fun v114 => funext fun v115 => funext fun v116 => l61_40_t cp n m p1 v90 v91 v92 v93 v114 v115 v116 k))))
theorem s61_41_t (cp : CP) (n : Nat) (p1 : SSpan) (v90 : (List SSpan)) (v91 v92 v93 : Int) (k : KX R) : XI cp n (y61_6 cp n) i61_12 (fr61_9 p1 v90 v91 v92 v93) k = s61_41 cp n p1 v90 v91 v92 v93 (fun v117 v118 => k (.exit 0) (fr61_39 p1 v90 v91 v92 v117 v118)) := (show XI cp n (y61_6 cp n) i61_12 (fr61_9 p1 v90 v91 v92 v93) k = loopN2 (XI cp n (y61_6 cp n) i61_11) n (fr61_11 p1 v90 v91 v92 v93 0 [] p1.xFrom) k from by kernel_rfl).trans (l61_40_t cp n n p1 v90 v91 v92 v93 0 [] p1.xFrom k)
def fr61_42 (p1 : SSpan) (v90 : (List SSpan)) (v91 v92 : Int) (v119 : (List SSpan)) (v120 : Int) : FF := [dc, dc, dc, dc, (.hdr 2) :: ((eSpan p1) ++ ((.hdr 1) :: (.row true (.rSpan v119)) :: (.hdr 1) :: (tL v120) :: (dT 3 ((.hdr 1) :: (.row false (.rSpan v90)) :: (.hdr 2) :: (tL v91) :: (tL v92) :: (dT 1 []))))), dc]
theorem s61_43_t (cp : CP) (n : Nat) (p1 : SSpan) (v90 : (List SSpan)) (v91 v92 v93 : Int) (k : KX R) : XI cp n (y61_6 cp n) i61_13 (fr61_9 p1 v90 v91 v92 v93) k = s61_43 cp n p1 v90 v91 v92 v93 (fun v119 v120 => k .norm (fr61_42 p1 v90 v91 v92 v119 v120)) := (show XI cp n (y61_6 cp n) i61_13 (fr61_9 p1 v90 v91 v92 v93) k = XI cp n (y61_6 cp n) i61_12 (fr61_9 p1 v90 v91 v92 v93) (blkT 0 k) from by kernel_rfl).trans ((s61_41_t cp n p1 v90 v91 v92 v93 (blkT 0 k)).trans (by kernel_rfl))
def fr61_44 (p1 : SSpan) (v90 : (List SSpan)) (v91 v92 : Int) (v121 : (List SSpan)) (v122 : Int) : FF := [dc, dc, dc, dc, (.hdr 2) :: ((eSpan p1) ++ ((.hdr 1) :: (.row true (.rSpan v121)) :: (.hdr 1) :: (tL v122) :: (dT 3 ((.hdr 1) :: (.row false (.rSpan v90)) :: (.hdr 2) :: (tL v91) :: (tL v92) :: (dT 1 []))))), dc]
end
end Go.Proofs.Ytilmdmjhdidoiaa.M
