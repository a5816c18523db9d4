/- The machine's code of the functions, and that it computes them. -/
import Derived.Test.YtafnmkbehjbkdaaAG0
import Derived.Test.YtafnmkbehjbkdaaProg
import Derived.KernelRfl
set_option maxRecDepth 100000
set_option linter.unusedVariables false
set_option linter.unusedSimpArgs false
namespace Go.Proofs.Ytafnmkbehjbkdaa.M
open Go
noncomputable section
variable {R : Type}
theorem ch {R α : Type} {a d : Option R} (Q : α → Option R) (g : IC2 RW → α) (x : IC2 RW) {e : α} (C : IC2 RW → Option R) (h : ∀ c, C c = Q (g c)) (i : g x = e) (ha : a = C x) (hd : Q e = d) : a = d := by subst ha; rw [h x, i]; exact hd
theorem tq {R : Type} {a b c : Option R} (h2 : b = c) (h1 : a = b) : a = c := h1.trans h2
abbrev KX (R : Type) := Ex → FF → Option R
abbrev LS := List (IStep2 RW)
abbrev CW := IC2 RW
def mvS (x : Nat) : IOp2 RW := .mv false (.s x)
def fdS (j x : Nat) : IOp2 RW := .fld j (.s x)
def ldS (h j x : Nat) : IOp2 RW := .load h j 1 false false x
def lnS (x : Nat) : IOp2 RW := .len false (.s x)
def bnS (o : BinOp) (x y : Nat) : IOp2 RW := .bin o (.s x) (.s y)
def ntS (x : Nat) : IOp2 RW := .un .not (.s x)
def ixS (z x y : Nat) : IOp2 RW := .idx z (.s x) (.s y)
def X (cp : CP) (n : Nat) (c : IC2 RW) (l : FF) (k : KX R) : Option R := exec2 U cp (callP cp n) n c l k
theorem X_run {R : Type} {cp : Nat → Nat → Bool} {n : Nat} {f : IFn2 RW} {av : Fr} {cells : List Fr} {code : IC2 RW} {fr : FF} {k : Ret2 RW → Option R} (hb : f.body = code) (h : ∀ K : FF → Option R, start2 f av cells K = K fr) : run2 U cp (callP cp n) n f av cells k = X cp n code fr (finK2 f k) := by
  subst hb
  exact h _
def XI (cp : CP) (n : Nat) (Y : List (TV RW) → FF → (FF → Option R) → Option R) (c : IC2 RW) (l : FF) (k : KX R) : Option R := execI2 U cp (callP cp n) n Y c l k
def o0 (op : IOp2 RW) : IStep2 RW := ⟨none, op, none, false⟩
def o1 (d : Nat) (op : IOp2 RW) : IStep2 RW := ⟨some d, op, none, false⟩
def o2 (d : Nat) (op : IOp2 RW) : IStep2 RW := ⟨some d, op, none, true⟩
def o3 (d g : Nat) (b : Bool) (op : IOp2 RW) : IStep2 RW := ⟨some d, op, some (g, b), false⟩
def mvo (d x : Nat) := o1 d (mvS x)
def fdo (d j x : Nat) := o1 d (fdS j x)
def ldo (d h j x : Nat) := o1 d (ldS h j x)
def lno (d x : Nat) := o1 d (lnS x)
def bno (d : Nat) (o : BinOp) (x y : Nat) := o1 d (bnS o x y)
def nto (d x : Nat) := o1 d (ntS x)
def ixo (d z x y : Nat) := o1 d (ixS z x y)
def g13_0 : LS := [o1 4 (.mv false (.k (.sc (.int .i64 0))))]
def g13_1 : LS := [mvo 5 1,
 mvo 6 0,
 bno 7 .sub 5 6,
 o1 8 (.conv .i32 (.s 7)),
 o1 9 (.conv .i64 (.s 8)),
 mvo 4 9]
def i13_0 : CW := .seq (.fin (.reg g13_0) [4] []) (.seq (.fin (.reg g13_1) [0, 1, 5, 6, 7, 8, 9] []) (.ret))
def fn13 : IFn2 RW := ⟨13, 2, 10, 16, [], [], [], [.slot 4], i13_0⟩
def g29_0 : LS := [o1 4 (.mv false (.k (.sc (.int .i64 0))))]
def g29_1 : LS := [mvo 6 0,
 mvo 7 1,
 bno 8 .add 6 7,
 mvo 5 8]
def g29_2 : LS := [mvo 10 0,
 o1 11 (.bin .gtr (.s 10) (.k (.sc (.int .i64 0)))),
 o2 12 (mvS 11),
 o3 13 12 true (mvS 1),
 o3 14 12 true (.bin .gtr (.s 13) (.k (.sc (.int .i64 0)))),
 o1 15 (.pick (.s 12) (.s 14) (.k (.sc (.bool false)))),
 o2 16 (mvS 15),
 o3 17 16 true (mvS 5),
 o3 18 16 true (.bin .lss (.s 17) (.k (.sc (.int .i64 0)))),
 o1 19 (.pick (.s 16) (.s 18) (.k (.sc (.bool false)))),
 mvo 9 19]
def g29_3 : LS := [o1 4 (.mv false (.k (.sc (.int .i64 9223372036854775807))))]
def g29_4 : LS := [mvo 21 0,
 o1 22 (.bin .lss (.s 21) (.k (.sc (.int .i64 0)))),
 o2 23 (mvS 22),
 o3 24 23 true (mvS 1),
 o3 25 23 true (.bin .lss (.s 24) (.k (.sc (.int .i64 0)))),
 o1 26 (.pick (.s 23) (.s 25) (.k (.sc (.bool false)))),
 o2 27 (mvS 26),
 o3 28 27 true (mvS 5),
 o3 29 27 true (.bin .geq (.s 28) (.k (.sc (.int .i64 0)))),
 o1 30 (.pick (.s 27) (.s 29) (.k (.sc (.bool false)))),
 mvo 20 30]
def g29_5 : LS := [o1 4 (.mv false (.k (.sc (.int .i64 (-9223372036854775808)))))]
def g29_6 : LS := [mvo 31 5,
 mvo 4 31]
def i29_0 : CW := .seq (.fin (.reg g29_0) [4] []) (.seq (.fin (.reg g29_1) [6, 7, 8] []) (.seq (.blk 0 (.seq (.fin (.reg g29_2) [10, 11, 12, 13, 14, 15, 16, 17, 18, 19] []) (.cond (.s 9) (.seq (.fin (.reg g29_3) [0, 1, 5, 9] []) (.ret)) (.seq (.fin (.reg g29_4) [0, 1, 9, 21, 22, 23, 24, 25, 26, 27, 28, 29, 30] []) (.fin (.cond (.s 20) (.seq (.fin (.reg g29_5) [5, 20] []) (.ret)) (.skip)) [20] []))))) (.seq (.fin (.reg g29_6) [5, 31] []) (.ret))))
def fn29 : IFn2 RW := ⟨29, 2, 32, 32, [], [], [], [.slot 4], i29_0⟩
def g12_0 : LS := [o1 4 (.mv false (.k (.sc (.int .i64 0))))]
def g12_1 : LS := [mvo 5 0,
 mvo 6 0,
 o1 7 (.conv .u32 (.s 6)),
 mvo 8 1,
 o1 9 (.call 13 [(false, .s 7), (false, .s 8)] [] []),
 o1 10 (.call 29 [(false, .s 5), (false, .s 9)] [] []),
 mvo 4 10]
def i12_0 : CW := .seq (.fin (.reg g12_0) [4] []) (.seq (.fin (.reg g12_1) [0, 1, 5, 6, 7, 8, 9, 10] []) (.ret))
def fn12 : IFn2 RW := ⟨12, 2, 11, 16, [], [], [], [.slot 4], i12_0⟩
def g19_6 : LS := [mvo 51 6,
 fdo 52 3 2,
 ldo 53 73 3 52,
 fdo 54 2 3,
 ldo 55 83 2 54,
 fdo 56 4 2,
 ldo 57 73 4 56,
 bno 58 .sub 55 57,
 o1 59 (.call 12 [(false, .s 53), (false, .s 58)] [] []),
 fdo 60 3 2,
 ldo 61 73 3 60,
 bno 62 .eql 59 61,
 o2 63 (mvS 62),
 o3 64 63 true (mvS 6),
 o3 65 63 true (.bin .geq (.s 64) (.k (.sc (.int .i64 0)))),
 o1 66 (.pick (.s 63) (.s 65) (.k (.sc (.bool false)))),
 o2 67 (mvS 66),
 o3 68 67 true (mvS 6),
 o3 69 67 true (fdS 1 2),
 o3 70 67 true (ldS 73 1 69),
 o3 71 67 true (bnS .leq 68 70),
 o1 72 (.pick (.s 67) (.s 71) (.k (.sc (.bool false)))),
 mvo 4 51,
 mvo 5 72]
def i19_0 : CW := .seq (.fin (.reg g19_6) [2, 3, 6, 51, 52, 53, 54, 55, 56, 57, 58, 59, 60, 61, 62, 63, 64, 65, 66, 67, 68, 69, 70, 71, 72] [(73, 9), (83, 15)]) (.ret)
def g19_0 : LS := [o1 2 (.box 73 9 false (.s 0)),
 o1 3 (.box 83 15 false (.s 1)),
 o1 4 (.mv false (.k (.sc (.int .i64 0)))),
 o1 5 (.mv false (.k (.sc (.bool false))))]
def g19_1 : LS := [fdo 7 0 2,
 ldo 8 73 0 7,
 o1 9 (.bin .lss (.s 8) (.k (.sc (.int .i64 0)))),
 o2 10 (mvS 9),
 o3 11 10 false (fdS 0 2),
 o3 12 10 false (ldS 73 0 11),
 o3 13 10 false (fdS 1 2),
 o3 14 10 false (ldS 73 1 13),
 o3 15 10 false (bnS .gtr 12 14),
 o1 16 (.pick (.s 10) (.k (.sc (.bool true))) (.s 15)),
 o2 17 (mvS 16),
 o3 18 17 false (fdS 1 2),
 o3 19 17 false (ldS 73 1 18),
 o3 20 17 false (.bin .gtr (.s 19) (.k (.sc (.int .i64 1125899906842625)))),
 o1 21 (.pick (.s 17) (.k (.sc (.bool true))) (.s 20)),
 o2 22 (mvS 21),
 o3 23 22 false (fdS 4 3),
 o3 24 22 false (ldS 83 4 23),
 o3 25 22 false (.bin .and (.s 24) (.k (.sc (.int .i64 22)))),
 o3 26 22 false (.bin .neq (.s 25) (.k (.sc (.int .i64 16)))),
 o1 27 (.pick (.s 22) (.k (.sc (.bool true))) (.s 26))]
def g19_2 : LS := [o1 4 (.mv false (.k (.sc (.int .i64 0)))),
 o1 5 (.mv false (.k (.sc (.bool false))))]
def g19_3 : LS := [fdo 28 5 2,
 ldo 29 73 5 28,
 o2 30 (mvS 29),
 o3 31 30 true (fdS 10 3),
 o3 32 30 true (ldS 83 10 31),
 o3 33 30 true (ntS 32),
 ⟨some 34, .mv false (.s 33), (some (30, true)), true⟩,
 o3 35 34 false (fdS 6 2),
 o3 36 34 false (ldS 73 6 35),
 o3 37 34 false (fdS 11 3),
 o3 38 34 false (ldS 83 11 37),
 o3 39 34 false (.call 13 [(false, .s 36), (false, .s 38)] [] []),
 o3 40 34 false (.bin .lss (.s 39) (.k (.sc (.int .i64 0)))),
 o3 41 30 true (.pick (.s 34) (.k (.sc (.bool true))) (.s 40)),
 o1 42 (.pick (.s 30) (.s 41) (.k (.sc (.bool false))))]
def g19_4 : LS := [o1 4 (.mv false (.k (.sc (.int .i64 0)))),
 o1 5 (.mv false (.k (.sc (.bool false))))]
def g19_5 : LS := [fdo 43 0 2,
 ldo 44 73 0 43,
 fdo 45 3 3,
 ldo 46 83 3 45,
 fdo 47 2 2,
 ldo 48 73 2 47,
 bno 49 .sub 46 48,
 o1 50 (.call 12 [(false, .s 44), (false, .s 49)] [] []),
 mvo 6 50]
def i19_1 : CW := .seq (.fin (.reg g19_0) [0, 1, 4, 5] []) (.seq (.seq (.fin (.reg g19_1) [7, 8, 9, 10, 11, 12, 13, 14, 15, 16, 17, 18, 19, 20, 21, 22, 23, 24, 25, 26] []) (.fin (.cond (.s 27) (.seq (.fin (.reg g19_2) [2, 3, 27] [(73, 9), (83, 15)]) (.ret)) (.skip)) [27] [])) (.seq (.seq (.fin (.reg g19_3) [28, 29, 30, 31, 32, 33, 34, 35, 36, 37, 38, 39, 40, 41] []) (.fin (.cond (.s 42) (.seq (.fin (.reg g19_4) [2, 3, 42] [(73, 9), (83, 15)]) (.ret)) (.skip)) [42] [])) (.seq (.fin (.reg g19_5) [43, 44, 45, 46, 47, 48, 49, 50] []) i19_0)))
def fn19 : IFn2 RW := ⟨19, 2, 73, 112, [(73, 9), (83, 15)], [], [], [.slot 4, .slot 5], i19_1⟩
def g1008_0 : LS := [o1 3 (.mv false (.k (.sc (.int .i64 0))))]
def g1008_1 : LS := [fdo 4 0 1,
 ldo 5 11 0 4,
 mvo 6 0,
 fdo 7 2 1,
 ldo 8 11 2 7,
 bno 9 .sub 6 8,
 o1 10 (.call 12 [(false, .s 5), (false, .s 9)] [] []),
 mvo 3 10]
def i1008_0 : CW := .seq (.fin (.reg g1008_0) [3] []) (.seq (.fin (.reg g1008_1) [0, 1, 4, 5, 6, 7, 8, 9, 10] []) (.ret))
def fn1008 : IFn2 RW := ⟨21, 2, 11, 32, [(11, 9)], [(11, 9)], [], [.slot 3], i1008_0⟩
def g1007_3 : LS := [bno 12 .lss 11 10]
def g1007_4 : LS := [ixo 13 2 9 11,
 o1 14 (.loade 2 true 13),
 o1 7 (.alloc 44 [.sc (.int .u32 0), .sc (.int .u32 0)]),
 o0 (.store 44 0 2 false 7 (.s 14))]
def g1007_5 : LS := [mvo 15 1,
 fdo 16 0 7,
 ldo 17 44 0 16,
 o1 18 (.callv (.s 15) 21 1008 [(false, .s 17)] [(34, 9, 11)] []),
 mvo 19 1,
 fdo 20 1 7,
 ldo 21 44 1 20,
 o1 22 (.callv (.s 19) 21 1008 [(false, .s 21)] [(34, 9, 11)] []),
 o1 23 (.build [.sc (.int .i64 0), .sc (.int .i64 0)] [(0, 1, .s 18), (1, 1, .s 22)]),
 o1 8 (.alloc 47 [.sc (.int .i64 0), .sc (.int .i64 0)]),
 o0 (.store 47 0 2 false 8 (.s 23))]
def g1007_6 : LS := [o1 24 (.mv true (.s 5)),
 fdo 25 0 8,
 ldo 26 47 0 25,
 fdo 27 1 8,
 ldo 28 47 1 27,
 o1 29 (.build [.sc (.int .i64 0), .sc (.int .i64 0)] [(0, 1, .s 26), (1, 1, .s 28)]),
 o1 30 (.bslice 51 1 [(0, 2, .s 29)]),
 o1 31 (.app 2 16 true (.s 24) (.s 30)),
 o1 5 (.mv true (.s 31))]
def g1007_7 : LS := [o1 32 (.bin .add (.s 11) (.k (.sc (.int .i64 1)))),
 mvo 11 32]
def i1007_0 : CW := .seq (.reg g1007_3) (.seq (.fin (.cond (.s 12) (.skip) (.clr [1, 9, 10, 11, 12] [] (.exit 0))) [12] []) (.seq (.blk 1 (.seq (.fin (.reg g1007_4) [13, 14] []) (.seq (.fin (.reg g1007_5) [7, 15, 16, 17, 18, 19, 20, 21, 22, 23] [(44, 2)]) (.fin (.reg g1007_6) [8, 24, 25, 26, 27, 28, 29, 30, 31] [(47, 2)])))) (.fin (.reg g1007_7) [32] [])))
def i1007_1 : CW := .loop i1007_0
def i1007_2 : CW := .blk 0 i1007_1
def g1007_2 : LS := [mvo 9 0,
 lno 10 9,
 o1 11 (.mv false (.k (.sc (.int .i64 0))))]
def i1007_3 : CW := .seq (.fin (.reg g1007_2) [0] []) i1007_2
def g1007_8 : LS := [mvo 33 5,
 mvo 4 33]
def i1007_4 : CW := .seq (.fin (.reg g1007_8) [5, 33] []) (.ret)
def i1007_5 : CW := .seq i1007_3 i1007_4
def g1007_0 : LS := [o1 4 (.mv false (.k (.row false (.rSpan []))))]
def g1007_1 : LS := [o1 5 (.mv true (.k (.row true (.rSpan []))))]
def i1007_6 : CW := .seq (.fin (.reg g1007_0) [4] []) (.seq (.reg g1007_1) i1007_5)
def fn1007 : IFn2 RW := ⟨20, 2, 34, 64, [(34, 9), (44, 2), (47, 2)], [(34, 9)], [], [.slot 4], i1007_6⟩
def g22_0 : LS := [o1 4 (.mv false (.k (.sc (.bool false))))]
def g22_1 : LS := [mvo 5 0,
 lno 6 5,
 o1 7 (.bin .eql (.s 6) (.k (.sc (.int .i64 0)))),
 o2 8 (mvS 7),
 o3 9 8 false (mvS 0),
 o3 10 8 false (.idx 2 (.s 9) (.k (.sc (.int .i64 0)))),
 o3 11 8 false (fdS 0 10),
 o3 12 8 false (.loade 1 false 11),
 o3 13 8 false (mvS 0),
 o3 14 8 false (.idx 2 (.s 13) (.k (.sc (.int .i64 0)))),
 o3 15 8 false (fdS 1 14),
 o3 16 8 false (.loade 1 false 15),
 o3 17 8 false (bnS .geq 12 16),
 o1 18 (.pick (.s 8) (.k (.sc (.bool true))) (.s 17))]
def g22_2 : LS := [o1 4 (.mv false (.k (.sc (.bool false))))]
def g22_3 : LS := [mvo 19 0,
 o1 20 (.idx 2 (.s 19) (.k (.sc (.int .i64 0)))),
 fdo 21 1 20,
 o1 22 (.loade 1 false 21),
 mvo 23 1,
 bno 24 .leq 22 23,
 o2 25 (mvS 24),
 o3 26 25 false (mvS 0),
 o3 27 25 false (lnS 26),
 o3 28 25 false (.bin .gtr (.s 27) (.k (.sc (.int .i64 1)))),
 ⟨some 29, .mv false (.s 28), (some (25, false)), true⟩,
 o3 30 29 true (mvS 0),
 o3 31 29 true (.idx 2 (.s 30) (.k (.sc (.int .i64 1)))),
 o3 32 29 true (fdS 0 31),
 o3 33 29 true (.loade 1 false 32),
 o3 34 29 true (mvS 0),
 o3 35 29 true (.idx 2 (.s 34) (.k (.sc (.int .i64 0)))),
 o3 36 29 true (fdS 0 35),
 o3 37 29 true (.loade 1 false 36),
 o3 38 29 true (bnS .leq 33 37),
 o3 39 25 false (.pick (.s 29) (.s 38) (.k (.sc (.bool false)))),
 ⟨some 40, .mv false (.s 39), (some (25, false)), true⟩,
 o3 41 40 true (mvS 0),
 o3 42 40 true (.idx 2 (.s 41) (.k (.sc (.int .i64 0)))),
 o3 43 40 true (fdS 1 42),
 o3 44 40 true (.loade 1 false 43),
 o3 45 40 true (mvS 0),
 o3 46 40 true (.idx 2 (.s 45) (.k (.sc (.int .i64 1)))),
 o3 47 40 true (fdS 1 46),
 o3 48 40 true (.loade 1 false 47),
 o3 49 40 true (bnS .leq 44 48),
 o3 50 25 false (.pick (.s 40) (.s 49) (.k (.sc (.bool false)))),
 o1 51 (.pick (.s 25) (.k (.sc (.bool true))) (.s 50)),
 mvo 4 51]
def i22_0 : CW := .seq (.fin (.reg g22_0) [4] []) (.seq (.seq (.fin (.reg g22_1) [5, 6, 7, 8, 9, 10, 11, 12, 13, 14, 15, 16, 17] []) (.fin (.cond (.s 18) (.seq (.fin (.reg g22_2) [0, 1, 18] []) (.ret)) (.skip)) [18] [])) (.seq (.fin (.reg g22_3) [0, 1, 19, 20, 21, 22, 23, 24, 25, 26, 27, 28, 29, 30, 31, 32, 33, 34, 35, 36, 37, 38, 39, 40, 41, 42, 43, 44, 45, 46, 47, 48, 49, 50, 51] []) (.ret)))
def fn22 : IFn2 RW := ⟨22, 2, 52, 64, [], [], [], [.slot 4], i22_0⟩
def g40_0 : LS := [o1 1 (.box 18 2 false (.s 0)),
 o1 2 (.mv false (.k (.sc (.bool false))))]
def g40_1 : LS := [fdo 3 0 1,
 ldo 4 18 0 3,
 o1 5 (.bin .geq (.s 4) (.k (.sc (.int .i64 0)))),
 o2 6 (mvS 5),
 o3 7 6 true (fdS 0 1),
 o3 8 6 true (ldS 18 0 7),
 o3 9 6 true (fdS 1 1),
 o3 10 6 true (ldS 18 1 9),
 o3 11 6 true (bnS .leq 8 10),
 o1 12 (.pick (.s 6) (.s 11) (.k (.sc (.bool false)))),
 o2 13 (mvS 12),
 o3 14 13 true (fdS 1 1),
 o3 15 13 true (ldS 18 1 14),
 o3 16 13 true (.bin .leq (.s 15) (.k (.sc (.int .i64 1125899906842624)))),
 o1 17 (.pick (.s 13) (.s 16) (.k (.sc (.bool false)))),
 mvo 2 17]
def i40_0 : CW := .seq (.fin (.reg g40_0) [0, 2] []) (.seq (.fin (.reg g40_1) [1, 3, 4, 5, 6, 7, 8, 9, 10, 11, 12, 13, 14, 15, 16, 17] [(18, 2)]) (.ret))
def fn40 : IFn2 RW := ⟨40, 1, 18, 32, [(18, 2)], [], [], [.slot 2], i40_0⟩
def g24_2 : LS := [bno 8 .lss 7 6]
def g24_3 : LS := [mvo 9 7,
 ixo 10 2 5 7,
 o1 11 (.loade 2 true 10),
 o1 4 (.alloc 38 [.sc (.int .i64 0), .sc (.int .i64 0)]),
 mvo 3 9,
 o0 (.store 38 0 2 false 4 (.s 11))]
def g24_4 : LS := [o1 12 (.load 38 0 2 true false 4),
 o1 13 (.call 40 [(false, .s 12)] [] []),
 nto 14 13,
 o2 15 (mvS 14),
 o3 16 15 false (fdS 0 4),
 o3 17 15 false (ldS 38 0 16),
 o3 18 15 false (fdS 1 4),
 o3 19 15 false (ldS 38 1 18),
 o3 20 15 false (bnS .eql 17 19),
 o1 21 (.pick (.s 15) (.k (.sc (.bool true))) (.s 20)),
 o2 22 (mvS 21),
 o3 23 22 false (mvS 3),
 o3 24 22 false (.bin .gtr (.s 23) (.k (.sc (.int .i64 0)))),
 ⟨some 25, .mv false (.s 24), (some (22, false)), true⟩,
 o3 26 25 true (mvS 0),
 o3 27 25 true (mvS 3),
 o3 28 25 true (.bin .sub (.s 27) (.k (.sc (.int .i64 1)))),
 o3 29 25 true (ixS 2 26 28),
 o3 30 25 true (fdS 1 29),
 o3 31 25 true (.loade 1 false 30),
 o3 32 25 true (fdS 0 4),
 o3 33 25 true (ldS 38 0 32),
 o3 34 25 true (bnS .geq 31 33),
 o3 35 22 false (.pick (.s 25) (.s 34) (.k (.sc (.bool false)))),
 o1 36 (.pick (.s 22) (.k (.sc (.bool true))) (.s 35))]
def g24_5 : LS := [o1 2 (.mv false (.k (.sc (.int .i64 60))))]
def g24_6 : LS := [o1 37 (.bin .add (.s 7) (.k (.sc (.int .i64 1)))),
 mvo 7 37]
def i24_0 : CW := .seq (.reg g24_2) (.seq (.fin (.cond (.s 8) (.skip) (.clr [0, 5, 6, 7, 8] [] (.exit 0))) [8] []) (.seq (.blk 1 (.seq (.fin (.reg g24_3) [9, 10, 11] []) (.seq (.fin (.reg g24_4) [3, 4, 12, 13, 14, 15, 16, 17, 18, 19, 20, 21, 22, 23, 24, 25, 26, 27, 28, 29, 30, 31, 32, 33, 34, 35] [(38, 2)]) (.fin (.cond (.s 36) (.seq (.fin (.reg g24_5) [0, 5, 6, 7, 36] []) (.ret)) (.skip)) [36] [])))) (.fin (.reg g24_6) [37] [])))
def i24_1 : CW := .loop i24_0
def i24_2 : CW := .blk 0 i24_1
def g24_1 : LS := [mvo 5 0,
 lno 6 5,
 o1 7 (.mv false (.k (.sc (.int .i64 0))))]
def i24_3 : CW := .seq (.reg g24_1) i24_2
def g24_7 : LS := [o1 2 (.mv false (.k (.sc (.int .i64 0))))]
def i24_4 : CW := .seq (.reg g24_7) (.ret)
def i24_5 : CW := .seq i24_3 i24_4
def g24_0 : LS := [o1 2 (.mv false (.k (.sc (.int .i64 0))))]
def i24_6 : CW := .seq (.fin (.reg g24_0) [2] []) i24_5
def fn24 : IFn2 RW := ⟨24, 1, 38, 48, [(38, 2)], [], [], [.slot 2], i24_6⟩
def g39_0 : LS := [o1 3 (.box 14 2 false (.s 1)),
 o1 4 (.mv false (.k (.sc (.int .i64 0))))]
def g39_1 : LS := [mvo 6 0,
 o1 7 (.call 24 [(false, .s 6)] [] []),
 mvo 5 7]
def g39_2 : LS := [mvo 8 5,
 o1 9 (.bin .neq (.s 8) (.k (.sc (.int .i64 0))))]
def g39_3 : LS := [mvo 10 5,
 mvo 4 10]
def g39_4 : LS := [o1 11 (.load 14 0 2 true false 3),
 o1 12 (.call 40 [(false, .s 11)] [] []),
 nto 13 12]
def g39_5 : LS := [o1 4 (.mv false (.k (.sc (.int .i64 2))))]
def g39_6 : LS := [o1 4 (.mv false (.k (.sc (.int .i64 0))))]
def i39_0 : CW := .seq (.fin (.reg g39_0) [1, 4] []) (.seq (.seq (.fin (.reg g39_1) [0, 6, 7] []) (.seq (.fin (.reg g39_2) [8] []) (.fin (.cond (.s 9) (.seq (.fin (.reg g39_3) [3, 5, 9, 10] [(14, 2)]) (.ret)) (.skip)) [5, 9] []))) (.seq (.seq (.fin (.reg g39_4) [3, 11, 12] [(14, 2)]) (.fin (.cond (.s 13) (.seq (.fin (.reg g39_5) [13] []) (.ret)) (.skip)) [13] [])) (.seq (.reg g39_6) (.ret))))
def fn39 : IFn2 RW := ⟨39, 2, 14, 32, [(14, 2)], [], [], [.slot 4], i39_0⟩
/-! slices.Clone[[]tideway/api.Span,tideway/api.Span] -/
section
variable (cp : CP) (n : Nat) (k : KX R)
def g27_0 : List IStep := [⟨(some 2), .mv true (.k (.row true 2 0 (fun _ => [.sc (.int .i64 0), .sc (.int .i64 0)]))), none, false⟩]
def g27_1 : List IStep := [⟨(some 3), .mv false (.s 0), none, false⟩,
 ⟨(some 4), .nilq false (.s 3), none, false⟩]
def g27_2 : List IStep := [⟨(some 2), .mv true (.k (.row true 2 0 (fun _ => [.sc (.int .i64 0), .sc (.int .i64 0)]))), none, false⟩]
def g27_3 : List IStep := [⟨(some 5), .bslice 2 0 [.sc (.int .i64 0), .sc (.int .i64 0)] [], none, false⟩,
 ⟨(some 6), .mv false (.s 0), none, false⟩,
 ⟨(some 7), .app 2 16 true (.s 5) (.s 6), none, false⟩,
 ⟨(some 2), .mv true (.s 7), none, false⟩]
def fn27 : IFn := ⟨27, 1, 8, 8, [], [], [], [.slot 2],
  .seq (.fin (.reg g27_0) [2] []) (.seq (.seq (.fin (.reg g27_1) [3] []) (.fin (.cond (.s 4) (.seq (.fin (.reg g27_2) [0, 4] []) (.ret)) (.skip)) [4] [])) (.seq (.fin (.reg g27_3) [0, 5, 6, 7] []) (.ret)))⟩

def g23_8 : LS := [mvo 22 8,
 mvo 23 0,
 lno 24 23,
 bno 25 .lss 22 24,
 o2 26 (mvS 25),
 o3 27 26 true (mvS 0),
 o3 28 26 true (mvS 8),
 o3 29 26 true (ixS 2 27 28),
 o3 30 26 true (fdS 1 29),
 o3 31 26 true (.loade 1 false 30),
 o3 32 26 true (fdS 0 3),
 o3 33 26 true (ldS 87 0 32),
 o3 34 26 true (bnS .lss 31 33),
 o1 35 (.pick (.s 26) (.s 34) (.k (.sc (.bool false))))]
def g23_10 : LS := [o1 38 (.mv true (.s 7)),
 mvo 39 0,
 mvo 40 8,
 ixo 41 2 39 40,
 o1 42 (.loade 2 true 41),
 o1 43 (.bslice 51 1 [(0, 2, .s 42)]),
 o1 44 (.app 2 16 true (.s 38) (.s 43)),
 o1 7 (.mv true (.s 44))]
def g23_9 : LS := [mvo 36 8,
 o1 37 (.bin .add (.s 36) (.k (.sc (.int .i64 1)))),
 mvo 8 37]
def i23_0 : CW := .seq (.seq (.fin (.reg g23_8) [22, 23, 24, 25, 26, 27, 28, 29, 30, 31, 32, 33, 34] []) (.fin (.cond (.s 35) (.skip) (.clr [35] [] (.exit 0))) [35] [])) (.seq (.blk 1 (.fin (.reg g23_10) [38, 39, 40, 41, 42, 43, 44] [])) (.fin (.reg g23_9) [36, 37] []))
def i23_1 : CW := .loop i23_0
def i23_2 : CW := .blk 0 i23_1
def g23_11 : LS := [mvo 45 8,
 mvo 46 0,
 lno 47 46,
 bno 48 .lss 45 47,
 o2 49 (mvS 48),
 o3 50 49 true (mvS 0),
 o3 51 49 true (mvS 8),
 o3 52 49 true (ixS 2 50 51),
 o3 53 49 true (fdS 0 52),
 o3 54 49 true (.loade 1 false 53),
 o3 55 49 true (fdS 1 3),
 o3 56 49 true (ldS 87 1 55),
 o3 57 49 true (bnS .leq 54 56),
 o1 58 (.pick (.s 49) (.s 57) (.k (.sc (.bool false))))]
def g23_13 : LS := [fdo 61 0 3,
 ldo 62 87 0 61,
 mvo 63 0,
 mvo 64 8,
 ixo 65 2 63 64,
 fdo 66 0 65,
 o1 67 (.loade 1 false 66),
 o1 68 (.mnmx false [.s 62, .s 67]),
 fdo 69 1 3,
 ldo 70 87 1 69,
 mvo 71 0,
 mvo 72 8,
 ixo 73 2 71 72,
 fdo 74 1 73,
 o1 75 (.loade 1 false 74),
 o1 76 (.mnmx true [.s 70, .s 75]),
 fdo 77 0 3,
 o0 (.store 87 0 1 false 77 (.s 68)),
 fdo 78 1 3,
 o0 (.store 87 1 1 false 78 (.s 76))]
def g23_12 : LS := [mvo 59 8,
 o1 60 (.bin .add (.s 59) (.k (.sc (.int .i64 1)))),
 mvo 8 60]
def i23_3 : CW := .seq (.seq (.fin (.reg g23_11) [45, 46, 47, 48, 49, 50, 51, 52, 53, 54, 55, 56, 57] []) (.fin (.cond (.s 58) (.skip) (.clr [58] [] (.exit 2))) [58] [])) (.seq (.blk 3 (.fin (.reg g23_13) [61, 62, 63, 64, 65, 66, 67, 68, 69, 70, 71, 72, 73, 74, 75, 76, 77, 78] [])) (.fin (.reg g23_12) [59, 60] []))
def i23_4 : CW := .loop i23_3
def i23_5 : CW := .blk 2 i23_4
def g23_14 : LS := [o1 79 (.mv true (.s 7)),
 o1 80 (.load 87 0 2 true false 3),
 o1 81 (.bslice 51 1 [(0, 2, .s 80)]),
 o1 82 (.app 2 16 true (.s 79) (.s 81)),
 mvo 83 0,
 mvo 84 8,
 o1 85 (.slice 2 (.s 83) (some (.s 84)) none none),
 o1 86 (.app 2 16 true (.s 82) (.s 85)),
 mvo 4 86,
 o1 5 (.mv false (.k (.sc (.int .i64 0))))]
def i23_6 : CW := .seq (.fin (.reg g23_14) [0, 3, 7, 8, 79, 80, 81, 82, 83, 84, 85, 86] [(87, 2)]) (.ret)
def i23_7 : CW := .seq i23_5 i23_6
def i23_8 : CW := .seq i23_2 i23_7
def g23_0 : LS := [o1 3 (.box 87 2 false (.s 1)),
 o1 4 (.mv false (.k (.row false (.rSpan [])))),
 o1 5 (.mv false (.k (.sc (.int .i64 0))))]
def g23_1 : LS := [mvo 9 0,
 o1 10 (.load 87 0 2 true false 3),
 o1 11 (.call 39 [(false, .s 9), (false, .s 10)] [] []),
 mvo 6 11]
def g23_2 : LS := [mvo 12 6,
 o1 13 (.bin .neq (.s 12) (.k (.sc (.int .i64 0))))]
def g23_3 : LS := [mvo 14 6,
 o1 4 (.mv false (.k (.row false (.rSpan [])))),
 mvo 5 14]
def g23_4 : LS := [fdo 15 0 3,
 ldo 16 87 0 15,
 fdo 17 1 3,
 ldo 18 87 1 17,
 bno 19 .eql 16 18]
def g23_5 : LS := [mvo 20 0,
 o1 21 (.call 27 [(false, .s 20)] [] []),
 mvo 4 21,
 o1 5 (.mv false (.k (.sc (.int .i64 0))))]
def g23_6 : LS := [o1 7 (.mv true (.k (.row true (.rSpan []))))]
def g23_7 : LS := [o1 8 (.mv false (.k (.sc (.int .i64 0))))]
def i23_9 : CW := .seq (.fin (.reg g23_0) [1, 4, 5] []) (.seq (.seq (.fin (.reg g23_1) [9, 10, 11] []) (.seq (.fin (.reg g23_2) [12] []) (.fin (.cond (.s 13) (.seq (.fin (.reg g23_3) [0, 3, 6, 13, 14] [(87, 2)]) (.ret)) (.skip)) [6, 13] []))) (.seq (.seq (.fin (.reg g23_4) [15, 16, 17, 18] []) (.fin (.cond (.s 19) (.seq (.fin (.reg g23_5) [0, 3, 19, 20, 21] [(87, 2)]) (.ret)) (.skip)) [19] [])) (.seq (.reg g23_6) (.seq (.reg g23_7) i23_8))))
def fn23 : IFn2 RW := ⟨23, 2, 87, 96, [(87, 2)], [], [], [.slot 4, .slot 5], i23_9⟩
def g7_14 : LS := [bno 68 .lss 67 66]
def g7_15 : LS := [mvo 69 67,
 ixo 70 2 65 67,
 o1 71 (.loade 2 true 70),
 o1 10 (.alloc 156 [.sc (.int .i64 0), .sc (.int .i64 0)]),
 mvo 9 69,
 o0 (.store 156 0 2 false 10 (.s 71))]
def g7_16 : LS := [mvo 72 9,
 o1 73 (.bin .eql (.s 72) (.k (.sc (.int .i64 0)))),
 o2 74 (mvS 73),
 o3 75 74 true (fdS 7 7),
 o3 76 74 true (ldS 146 7 75),
 o1 77 (.pick (.s 74) (.s 76) (.k (.sc (.bool false)))),
 o2 78 (mvS 77),
 o3 79 78 false (fdS 0 10),
 o3 80 78 false (ldS 156 0 79),
 o3 81 78 false (fdS 1 7),
 o3 82 78 false (ldS 146 1 81),
 o3 83 78 false (bnS .lss 80 82),
 o1 84 (.pick (.s 78) (.k (.sc (.bool true))) (.s 83)),
 o2 85 (mvS 84),
 o3 86 85 false (fdS 0 10),
 o3 87 85 false (ldS 156 0 86),
 o3 88 85 false (fdS 1 10),
 o3 89 85 false (ldS 156 1 88),
 o3 90 85 false (bnS .geq 87 89),
 o1 91 (.pick (.s 85) (.k (.sc (.bool true))) (.s 90)),
 o2 92 (mvS 91),
 o3 93 92 false (fdS 1 10),
 o3 94 92 false (ldS 156 1 93),
 o3 95 92 false (fdS 1 2),
 o3 96 92 false (ldS 110 1 95),
 o3 97 92 false (.mnmx false [.s 96, .k (.sc (.int .i64 1125899906842624))]),
 o3 98 92 false (bnS .gtr 94 97),
 o1 99 (.pick (.s 92) (.k (.sc (.bool true))) (.s 98))]
def g7_17 : LS := [fdo 101 8 7,
 ldo 102 146 8 101,
 o1 103 (.load 156 0 2 true false 10),
 o1 104 (.call 23 [(false, .s 102), (false, .s 103)] [] []),
 mvo 100 104,
 o1 105 (.ext false 0 (.s 100)),
 o1 106 (.ext false 1 (.s 100)),
 fdo 107 8 7,
 o0 (.store 146 8 1 false 107 (.s 105))]
def g7_18 : LS := [o1 108 (.bin .add (.s 67) (.k (.sc (.int .i64 1)))),
 mvo 67 108]
def i7_0 : CW := .seq (.reg g7_14) (.seq (.fin (.cond (.s 68) (.skip) (.clr [2, 65, 66, 67, 68] [(110, 9)] (.exit 0))) [68] []) (.seq (.blk 1 (.seq (.fin (.reg g7_15) [69, 70, 71] []) (.seq (.seq (.fin (.reg g7_16) [9, 72, 73, 74, 75, 76, 77, 78, 79, 80, 81, 82, 83, 84, 85, 86, 87, 88, 89, 90, 91, 92, 93, 94, 95, 96, 97, 98] []) (.fin (.cond (.s 99) (.clr [10, 99] [(156, 2)] (.exit 1)) (.skip)) [99] [])) (.fin (.reg g7_17) [10, 100, 101, 102, 103, 104, 105, 106, 107] [(156, 2)])))) (.fin (.reg g7_18) [108] [])))
def i7_1 : CW := .loop i7_0
def i7_2 : CW := .blk 0 i7_1
def g7_13 : LS := [mvo 65 8,
 lno 66 65,
 o1 67 (.mv false (.k (.sc (.int .i64 0))))]
def i7_3 : CW := .seq (.fin (.reg g7_13) [8] []) i7_2
def g7_19 : LS := [o1 109 (.load 146 0 9 true false 7),
 o0 (.store 136 0 9 false 4 (.s 109))]
def i7_4 : CW := .seq (.fin (.reg g7_19) [7, 109] [(146, 9)]) (.ret)
def i7_5 : CW := .seq i7_3 i7_4
def g7_12 : LS := [mvo 61 8,
 mvo 62 5,
 o1 63 (.call 22 [(false, .s 61), (false, .s 62)] [] []),
 fdo 64 7 7,
 o0 (.store 146 7 1 false 64 (.s 63))]
def i7_6 : CW := .seq (.fin (.reg g7_12) [5, 61, 62, 63, 64] []) (.seq (.skip) i7_5)
def g7_7 : LS := [fdo 38 5 2,
 ldo 39 110 5 38,
 o2 40 (mvS 39),
 o3 41 40 true (mvS 5),
 o3 42 40 true (fdS 0 2),
 o3 43 40 true (ldS 110 0 42),
 o3 44 40 true (bnS .gtr 41 43),
 o1 45 (.pick (.s 40) (.s 44) (.k (.sc (.bool false))))]
def g7_8 : LS := [fdo 46 12 3,
 ldo 47 120 12 46,
 fdo 48 7 2,
 ldo 49 110 7 48,
 o1 50 (.call 13 [(false, .s 47), (false, .s 49)] [] []),
 o1 51 (.mnmx true [.k (.sc (.int .i64 0)), .s 50]),
 fdo 52 6 7,
 o0 (.store 146 6 1 false 52 (.s 51))]
def g7_9 : LS := [fdo 53 8 2,
 ldo 54 110 8 53,
 nto 55 54]
def g7_10 : LS := [o1 56 (.load 146 0 9 true false 7),
 o0 (.store 136 0 9 false 4 (.s 56))]
def g7_11 : LS := [fdo 57 13 3,
 ldo 58 120 13 57,
 o1 59 (.mkclo 21 [.s 2]),
 o1 60 (.call 1007 [(false, .s 58), (false, .s 59)] [(110, 9, 34)] []),
 mvo 8 60]
def i7_7 : CW := .seq (.seq (.fin (.reg g7_7) [38, 39, 40, 41, 42, 43, 44] []) (.fin (.cond (.s 45) (.fin (.reg g7_8) [45, 46, 47, 48, 49, 50, 51, 52] []) (.skip)) [45] [])) (.seq (.seq (.fin (.reg g7_9) [53, 54] []) (.fin (.cond (.s 55) (.seq (.fin (.reg g7_10) [2, 3, 5, 7, 55, 56] [(110, 9), (120, 15), (146, 9)]) (.ret)) (.skip)) [55] [])) (.seq (.fin (.reg g7_11) [3, 57, 58, 59, 60] [(120, 15)]) i7_6))
def g7_0 : LS := [o1 2 (.box 110 9 false (.s 0)),
 o1 3 (.box 120 15 false (.s 1)),
 o1 4 (.alloc 136 [.sc (.bool false), .sc (.int .i64 0), .sc (.bool false), .sc (.int .i64 0), .sc (.int .i64 0), .sc (.int .u32 0), .sc (.int .i64 0), .sc (.bool false), .row false (.rSpan [])])]
def g7_1 : LS := [o1 12 (.load 110 0 9 true false 2),
 o1 13 (.load 120 0 15 true false 3),
 o1 14 (.call 19 [(false, .s 12), (false, .s 13)] [] []),
 mvo 11 14,
 o1 15 (.ext false 0 (.s 11)),
 o1 16 (.ext false 1 (.s 11)),
 mvo 5 15,
 mvo 6 16]
def g7_2 : LS := [mvo 17 6,
 nto 18 17]
def g7_3 : LS := [o1 19 (.build [.sc (.bool false), .sc (.int .i64 0), .sc (.bool false), .sc (.int .i64 0), .sc (.int .i64 0), .sc (.int .u32 0), .sc (.int .i64 0), .sc (.bool false), .row false (.rSpan [])] []),
 o0 (.store 136 0 9 false 4 (.s 19))]
def g7_4 : LS := [mvo 20 5,
 fdo 21 0 2,
 ldo 22 110 0 21,
 o1 23 (.mnmx true [.s 20, .s 22]),
 mvo 24 5,
 fdo 25 0 2,
 ldo 26 110 0 25,
 bno 27 .lss 24 26,
 fdo 28 3 2,
 ldo 29 110 3 28,
 fdo 30 5 3,
 ldo 31 120 5 30,
 o1 32 (.build [.sc (.bool false), .sc (.int .i64 0), .sc (.bool false), .sc (.int .i64 0), .sc (.int .i64 0), .sc (.int .u32 0), .sc (.int .i64 0), .sc (.bool false), .row false (.rSpan [])] [(0, 1, .k (.sc (.bool true))), (1, 1, .s 23), (2, 1, .s 27), (3, 1, .s 29), (4, 1, .s 31)]),
 o1 7 (.alloc 146 [.sc (.bool false), .sc (.int .i64 0), .sc (.bool false), .sc (.int .i64 0), .sc (.int .i64 0), .sc (.int .u32 0), .sc (.int .i64 0), .sc (.bool false), .row false (.rSpan [])]),
 o0 (.store 146 0 9 false 7 (.s 32))]
def g7_5 : LS := [fdo 33 5 2,
 ldo 34 110 5 33]
def g7_6 : LS := [fdo 35 11 3,
 ldo 36 120 11 35,
 fdo 37 5 7,
 o0 (.store 146 5 1 false 37 (.s 36))]
def i7_8 : CW := .seq (.fin (.reg g7_0) [0, 1] []) (.seq (.fin (.reg g7_1) [11, 12, 13, 14, 15, 16] []) (.seq (.seq (.fin (.reg g7_2) [6, 17] []) (.fin (.cond (.s 18) (.seq (.fin (.reg g7_3) [2, 3, 5, 18, 19] [(110, 9), (120, 15)]) (.ret)) (.skip)) [18] [])) (.seq (.fin (.reg g7_4) [20, 21, 22, 23, 24, 25, 26, 27, 28, 29, 30, 31, 32] []) (.seq (.seq (.fin (.reg g7_5) [33] []) (.fin (.cond (.s 34) (.fin (.reg g7_6) [34, 35, 36, 37] []) (.skip)) [34] [])) i7_7))))
def fn7 : IFn2 RW := ⟨7, 2, 110, 160, [(110, 9), (120, 15), (136, 9), (146, 9), (156, 2)], [], [], [.cell 4 136 9 true], i7_8⟩
def g4_0 : LS := [o1 0 (.mv false (.k (.sc (.bool false))))]
def g4_1 : LS := [o1 5 (.build [.sc (.int .i64 0), .sc (.int .i64 0), .sc (.int .u32 0), .sc (.int .i64 0), .sc (.int .u32 0), .sc (.bool false), .sc (.int .u32 0), .sc (.int .u32 0), .sc (.bool false)] [(0, 1, .k (.sc (.int .i64 5))), (1, 1, .k (.sc (.int .i64 10))), (2, 1, .k (.sc (.int .u32 100))), (8, 1, .k (.sc (.bool true)))]),
 o1 1 (.alloc 48 [.sc (.int .i64 0), .sc (.int .i64 0), .sc (.int .u32 0), .sc (.int .i64 0), .sc (.int .u32 0), .sc (.bool false), .sc (.int .u32 0), .sc (.int .u32 0), .sc (.bool false)]),
 o0 (.store 48 0 9 false 1 (.s 5))]
def g4_2 : LS := [o1 6 (.load 48 0 9 true false 1),
 o1 7 (.build [.sc (.int .u32 0), .sc (.int .u32 0)] [(0, 1, .k (.sc (.int .u32 108))), (1, 1, .k (.sc (.int .u32 110)))]),
 o1 8 (.bslice 49 1 [(0, 2, .s 7)]),
 o1 9 (.build [.sc (.int .i64 0), .sc (.int .i64 0), .sc (.int .u32 0), .sc (.int .u32 0), .sc (.int .i64 0), .sc (.int .i64 0), .sc (.int .i64 0), .sc (.int .i64 0), .sc (.int .i64 0), .sc (.bool false), .sc (.bool false), .sc (.int .u32 0), .sc (.int .u32 0), .row false (.rBlock []), .row false (.ruint8 [])] [(4, 1, .k (.sc (.int .i64 16))), (3, 1, .k (.sc (.int .u32 107))), (13, 1, .s 8)]),
 o1 10 (.call 7 [(false, .s 6), (false, .s 9)] [] []),
 o1 2 (.alloc 58 [.sc (.bool false), .sc (.int .i64 0), .sc (.bool false), .sc (.int .i64 0), .sc (.int .i64 0), .sc (.int .u32 0), .sc (.int .i64 0), .sc (.bool false), .row false (.rSpan [])]),
 o0 (.store 58 0 9 false 2 (.s 10))]
def g4_3 : LS := [o1 11 (.load 48 0 9 true false 1),
 o1 12 (.build [.sc (.int .i64 0), .sc (.int .i64 0), .sc (.int .u32 0), .sc (.int .u32 0), .sc (.int .i64 0), .sc (.int .i64 0), .sc (.int .i64 0), .sc (.int .i64 0), .sc (.int .i64 0), .sc (.bool false), .sc (.bool false), .sc (.int .u32 0), .sc (.int .u32 0), .row false (.rBlock []), .row false (.ruint8 [])] [(4, 1, .k (.sc (.int .i64 16))), (3, 1, .k (.sc (.int .u32 111)))]),
 o1 13 (.call 7 [(false, .s 11), (false, .s 12)] [] []),
 o1 3 (.alloc 68 [.sc (.bool false), .sc (.int .i64 0), .sc (.bool false), .sc (.int .i64 0), .sc (.int .i64 0), .sc (.int .u32 0), .sc (.int .i64 0), .sc (.bool false), .row false (.rSpan [])]),
 o0 (.store 68 0 9 false 3 (.s 13))]
def g4_4 : LS := [o1 14 (.load 48 0 9 true false 1),
 o1 15 (.build [.sc (.int .i64 0), .sc (.int .i64 0), .sc (.int .u32 0), .sc (.int .u32 0), .sc (.int .i64 0), .sc (.int .i64 0), .sc (.int .i64 0), .sc (.int .i64 0), .sc (.int .i64 0), .sc (.bool false), .sc (.bool false), .sc (.int .u32 0), .sc (.int .u32 0), .row false (.rBlock []), .row false (.ruint8 [])] [(3, 1, .k (.sc (.int .u32 107)))]),
 o1 16 (.call 7 [(false, .s 14), (false, .s 15)] [] []),
 o1 4 (.alloc 78 [.sc (.bool false), .sc (.int .i64 0), .sc (.bool false), .sc (.int .i64 0), .sc (.int .i64 0), .sc (.int .u32 0), .sc (.int .i64 0), .sc (.bool false), .row false (.rSpan [])]),
 o0 (.store 78 0 9 false 4 (.s 16))]
def g4_5 : LS := [fdo 17 0 2,
 ldo 18 58 0 17,
 o2 19 (mvS 18),
 o3 20 19 true (fdS 1 2),
 o3 21 19 true (ldS 58 1 20),
 o3 22 19 true (.bin .eql (.s 21) (.k (.sc (.int .i64 7)))),
 o1 23 (.pick (.s 19) (.s 22) (.k (.sc (.bool false)))),
 o2 24 (mvS 23),
 o3 25 24 true (fdS 8 2),
 o3 26 24 true (ldS 58 8 25),
 o3 27 24 true (lnS 26),
 o3 28 24 true (.bin .eql (.s 27) (.k (.sc (.int .i64 1)))),
 o1 29 (.pick (.s 24) (.s 28) (.k (.sc (.bool false)))),
 o2 30 (mvS 29),
 o3 31 30 true (fdS 8 2),
 o3 32 30 true (ldS 58 8 31),
 o3 33 30 true (.idx 2 (.s 32) (.k (.sc (.int .i64 0)))),
 o3 34 30 true (.loade 2 true 33),
 o3 35 30 true (.build [.sc (.int .i64 0), .sc (.int .i64 0)] [(0, 1, .k (.sc (.int .i64 8))), (1, 1, .k (.sc (.int .i64 10)))]),
 o3 36 30 true (.eqs [true, true] false (.s 34) (.s 35)),
 o1 37 (.pick (.s 30) (.s 36) (.k (.sc (.bool false)))),
 o2 38 (mvS 37),
 o3 39 38 true (fdS 0 3),
 o3 40 38 true (ldS 68 0 39),
 o3 41 38 true (ntS 40),
 o1 42 (.pick (.s 38) (.s 41) (.k (.sc (.bool false)))),
 o2 43 (mvS 42),
 o3 44 43 true (fdS 0 4),
 o3 45 43 true (ldS 78 0 44),
 o3 46 43 true (ntS 45),
 o1 47 (.pick (.s 43) (.s 46) (.k (.sc (.bool false)))),
 mvo 0 47]
def i4_0 : CW := .seq (.fin (.reg g4_0) [0] []) (.seq (.fin (.reg g4_1) [5] []) (.seq (.fin (.reg g4_2) [6, 7, 8, 9, 10] []) (.seq (.fin (.reg g4_3) [11, 12, 13] []) (.seq (.fin (.reg g4_4) [1, 14, 15, 16] [(48, 9)]) (.seq (.fin (.reg g4_5) [2, 3, 4, 17, 18, 19, 20, 21, 22, 23, 24, 25, 26, 27, 28, 29, 30, 31, 32, 33, 34, 35, 36, 37, 38, 39, 40, 41, 42, 43, 44, 45, 46, 47] [(58, 9), (68, 9), (78, 9)]) (.ret))))))
def fn4 : IFn2 RW := ⟨4, 0, 48, 96, [(48, 9), (58, 9), (68, 9), (78, 9)], [], [], [.slot 0], i4_0⟩
def g9_0 : LS := [o1 1 (.box 16 15 false (.s 0)),
 o1 2 (.mv false (.k (.sc (.int .i64 0))))]
def g9_1 : LS := [fdo 3 3 1,
 ldo 4 16 3 3,
 fdo 5 1 1,
 ldo 6 16 1 5,
 lno 7 6,
 bno 8 .sub 4 7,
 fdo 9 4 1,
 ldo 10 16 4 9,
 bno 11 .shr 8 10,
 o1 12 (.mnmx false [.s 11, .k (.sc (.int .i64 65535))]),
 fdo 13 4 1,
 ldo 14 16 4 13,
 bno 15 .shl 12 14,
 mvo 2 15]
def i9_0 : CW := .seq (.fin (.reg g9_0) [0, 2] []) (.seq (.fin (.reg g9_1) [1, 3, 4, 5, 6, 7, 8, 9, 10, 11, 12, 13, 14, 15] [(16, 15)]) (.ret))
def fn9 : IFn2 RW := ⟨9, 1, 16, 32, [(16, 15)], [], [], [.slot 2], i9_0⟩
def g5_0 : LS := [o1 12 (.alloc 41 [.sc (.int .i64 0), .row false (.ruint8 []), .row false (.rPiece []), .sc (.int .i64 0), .sc (.int .i64 0), .sc (.int .i64 0), .sc (.int .u32 0), .sc (.bool false), .sc (.bool false), .sc (.int .i64 0), .sc (.bool false), .row false (.rSpan []), .sc (.int .u32 0), .sc (.int .u32 0), .sc (.bool false)]),
 o1 13 (.mv false (.k (.sc (.int .i64 0))))]
def g5_1 : LS := [mvo 15 0,
 o1 16 (.bin .lss (.s 15) (.k (.sc (.int .i64 1)))),
 o2 17 (mvS 16),
 o3 18 17 false (mvS 0),
 o3 19 17 false (.bin .gtr (.s 18) (.k (.sc (.int .i64 1073741824)))),
 o1 20 (.pick (.s 17) (.k (.sc (.bool true))) (.s 19)),
 o2 21 (mvS 20),
 o3 22 21 false (mvS 1),
 o3 23 21 false (.bin .lss (.s 22) (.k (.sc (.int .i64 0)))),
 o1 24 (.pick (.s 21) (.k (.sc (.bool true))) (.s 23)),
 o2 25 (mvS 24),
 o3 26 25 false (mvS 1),
 o3 27 25 false (.bin .gtr (.s 26) (.k (.sc (.int .i64 14)))),
 o1 28 (.pick (.s 25) (.k (.sc (.bool true))) (.s 27))]
def g5_2 : LS := [o1 29 (.build [.sc (.int .i64 0), .row false (.ruint8 []), .row false (.rPiece []), .sc (.int .i64 0), .sc (.int .i64 0), .sc (.int .i64 0), .sc (.int .u32 0), .sc (.bool false), .sc (.bool false), .sc (.int .i64 0), .sc (.bool false), .row false (.rSpan []), .sc (.int .u32 0), .sc (.int .u32 0), .sc (.bool false)] []),
 o0 (.store 41 0 15 false 12 (.s 29)),
 o1 13 (.mv false (.k (.sc (.int .i64 2))))]
def g5_3 : LS := [mvo 30 0,
 mvo 31 1,
 mvo 32 2,
 mvo 33 3,
 mvo 34 4,
 mvo 35 5,
 o1 36 (.build [.sc (.int .i64 0), .row false (.ruint8 []), .row false (.rPiece []), .sc (.int .i64 0), .sc (.int .i64 0), .sc (.int .i64 0), .sc (.int .u32 0), .sc (.bool false), .sc (.bool false), .sc (.int .i64 0), .sc (.bool false), .row false (.rSpan []), .sc (.int .u32 0), .sc (.int .u32 0), .sc (.bool false)] [(3, 1, .s 30), (4, 1, .s 31), (9, 1, .k (.sc (.int .i64 (-1)))), (12, 1, .s 32), (13, 1, .s 33), (7, 1, .s 34), (8, 1, .s 35)]),
 o1 14 (.alloc 57 [.sc (.int .i64 0), .row false (.ruint8 []), .row false (.rPiece []), .sc (.int .i64 0), .sc (.int .i64 0), .sc (.int .i64 0), .sc (.int .u32 0), .sc (.bool false), .sc (.bool false), .sc (.int .i64 0), .sc (.bool false), .row false (.rSpan []), .sc (.int .u32 0), .sc (.int .u32 0), .sc (.bool false)]),
 o0 (.store 57 0 15 false 14 (.s 36))]
def g5_4 : LS := [o1 37 (.load 57 0 15 true false 14),
 o1 38 (.call 9 [(false, .s 37)] [] []),
 fdo 39 5 14,
 o0 (.store 57 5 1 false 39 (.s 38))]
def g5_5 : LS := [o1 40 (.load 57 0 15 true false 14),
 o0 (.store 41 0 15 false 12 (.s 40)),
 o1 13 (.mv false (.k (.sc (.int .i64 0))))]
def i5_0 : CW := .seq (.fin (.reg g5_0) [13] []) (.seq (.seq (.fin (.reg g5_1) [15, 16, 17, 18, 19, 20, 21, 22, 23, 24, 25, 26, 27] []) (.fin (.cond (.s 28) (.seq (.fin (.reg g5_2) [0, 1, 2, 3, 4, 5, 28, 29] []) (.ret)) (.skip)) [28] [])) (.seq (.fin (.reg g5_3) [0, 1, 2, 3, 4, 5, 30, 31, 32, 33, 34, 35, 36] []) (.seq (.fin (.reg g5_4) [37, 38, 39] []) (.seq (.fin (.reg g5_5) [14, 40] [(57, 15)]) (.ret)))))
def fn5 : IFn2 RW := ⟨5, 6, 41, 80, [(41, 15), (57, 15)], [], [], [.cell 12 41 15 true, .slot 13], i5_0⟩
def g25_0 : LS := [o1 1 (.box 12 15 false (.s 0)),
 o1 2 (.mv false (.k (.sc (.int .i64 0))))]
def g25_1 : LS := [fdo 3 0 1,
 ldo 4 12 0 3,
 fdo 5 1 1,
 ldo 6 12 1 5,
 lno 7 6,
 bno 8 .sub 4 7,
 fdo 9 3 1,
 ldo 10 12 3 9,
 bno 11 .add 8 10,
 mvo 2 11]
def i25_0 : CW := .seq (.fin (.reg g25_0) [0, 2] []) (.seq (.fin (.reg g25_1) [1, 3, 4, 5, 6, 7, 8, 9, 10, 11] [(12, 15)]) (.ret))
def fn25 : IFn2 RW := ⟨25, 1, 12, 32, [(12, 15)], [], [], [.slot 2], i25_0⟩
def g31_0 : LS := [o1 1 (.box 6 15 false (.s 0)),
 o1 2 (.mv false (.k (.sc (.int .i64 0))))]
def g31_1 : LS := [o1 3 (.load 6 0 15 true false 1),
 o1 4 (.call 25 [(false, .s 3)] [] []),
 o1 5 (.mnmx false [.s 4, .k (.sc (.int .i64 562949953421312))]),
 mvo 2 5]
def i31_0 : CW := .seq (.fin (.reg g31_0) [0, 2] []) (.seq (.fin (.reg g31_1) [1, 3, 4, 5] [(6, 15)]) (.ret))
def fn31 : IFn2 RW := ⟨31, 1, 6, 32, [(6, 15)], [], [], [.slot 2], i31_0⟩
def g30_0 : LS := [o1 1 (.box 4 15 false (.s 0)),
 o1 2 (.mv false (.k (.sc .nilFunc)))]
def g30_1 : LS := [o1 3 (.mkclo 41 [.s 1]),
 mvo 2 3]
def i30_0 : CW := .seq (.fin (.reg g30_0) [0, 2] []) (.seq (.fin (.reg g30_1) [1, 3] []) (.ret))
def fn30 : IFn2 RW := ⟨30, 1, 4, 32, [(4, 15)], [], [(4, 15)], [.slot 2], i30_0⟩
def g42_0 : LS := [o1 1 (.box 12 2 false (.s 0)),
 o1 2 (.alloc 15 [.sc (.int .i64 0), .sc (.int .i64 0)])]
def g42_1 : LS := [fdo 3 0 1,
 ldo 4 12 0 3,
 fdo 5 0 1,
 ldo 6 12 0 5,
 fdo 7 1 1,
 ldo 8 12 1 7,
 lno 9 8,
 bno 10 .add 6 9,
 o1 11 (.build [.sc (.int .i64 0), .sc (.int .i64 0)] [(0, 1, .s 4), (1, 1, .s 10)]),
 o0 (.store 15 0 2 false 2 (.s 11))]
def i42_0 : CW := .seq (.fin (.reg g42_0) [0] []) (.seq (.fin (.reg g42_1) [1, 3, 4, 5, 6, 7, 8, 9, 10, 11] [(12, 2)]) (.ret))
def fn42 : IFn2 RW := ⟨42, 1, 12, 32, [(12, 2), (15, 2)], [], [], [.cell 2 15 2 true], i42_0⟩
def g1024_2 : LS := [o1 5 (.alloc 50 [.sc (.int .i64 0), .sc (.int .i64 0)]),
 o0 (.store 50 0 2 false 5 (.s 7))]
def i1024_0 : CW := .fin (.reg g1024_2) [7] []
def g1024_3 : LS := [o1 8 (.load 48 0 1 false true 2),
 o1 9 (.load 50 0 2 true false 5),
 o1 10 (.bslice 51 1 [(0, 2, .s 9)]),
 o1 11 (.app 2 16 true (.s 8) (.s 10)),
 o0 (.store 48 0 1 true 2 (.s 11))]
def i1024_1 : CW := .blk 1 (.fin (.reg g1024_3) [5, 8, 9, 10, 11] [(50, 2)])
def i1024_2 : CW := .seq i1024_0 i1024_1
def g1024_1000 : LS := [fdo 5 2 1,
 ldo 6 32 2 5,
 lno 7 6,
 o1 8 (.mv false (.k (.sc (.int .i64 0))))]
def g1024_1001 : LS := [bno 9 .lss 8 7]
def g1024_1002 : LS := [ixo 10 2 6 8,
 o1 11 (.loade 2 true 10),
 o1 4 (.alloc 53 [.sc (.int .i64 0), .row false (.ruint8 [])]),
 o0 (.store 53 0 2 false 4 (.s 11))]
def g1024_10031 : LS := [mvo 12 0,
 o1 13 (.load 53 0 2 true false 4),
 o1 14 (.call 42 [(false, .s 13)] [] [])]
def g1024_10032 : LS := [nto 16 15]
def g1024_1004 : LS := [o1 17 (.bin .add (.s 8) (.k (.sc (.int .i64 1)))),
 mvo 8 17]
def i1024_3 : CW := .seq (.fin (.reg g1024_1000) [1, 5] []) (.blk 0 (.loop (.seq (.reg g1024_1001) (.seq (.fin (.cond (.s 9) (.skip) (.clr [0, 6, 7, 8, 9] [] (.exit 0))) [9] []) (.seq (.blk 1 (.seq (.fin (.reg g1024_1002) [10, 11] []) (.seq (.fin (.yreg g1024_10031 (.s 12) [.s 14] none 15 g1024_10032) [4, 12, 13, 14, 15] [(53, 2)]) (.fin (.cond (.s 16) (.clr [0, 6, 7, 8, 16] [] (.ret)) (.skip)) [16] [])))) (.fin (.reg g1024_1004) [17] []))))))
def i1024_4 : CW := .fin (.yreg g1024_10031 (.s 12) [.s 14] none 15 g1024_10032) [4, 12, 13, 14, 15] [(53, 2)]
def i1024_5 : CW := .fin (.cond (.s 16) (.clr [0, 6, 7, 8, 16] [] (.ret)) (.skip)) [16] []
def i1024_6 : CW := .seq i1024_4 i1024_5
def i1024_7 : CW := .seq (.fin (.reg g1024_1002) [10, 11] []) i1024_6
def i1024_8 : CW := .blk 1 i1024_7
def i1024_9 : CW := .fin (.reg g1024_1004) [17] []
def i1024_10 : CW := .seq i1024_8 i1024_9
def i1024_11 : CW := .seq (.reg g1024_1001) (.seq (.fin (.cond (.s 9) (.skip) (.clr [0, 6, 7, 8, 9] [] (.exit 0))) [9] []) i1024_10)
def i1024_12 : CW := .loop i1024_11
def i1024_13 : CW := .blk 0 i1024_12
def i1024_14 : CW := .fin (.rfn (.s 6) 41 2 18 [7] i1024_3 i1024_0 i1024_1 [32, 48] [32, 48, 53]) [6] []
def i1024_15 : CW := .blk 0 i1024_14
def g1024_1 : LS := [mvo 6 1]
def i1024_16 : CW := .seq (.fin (.reg g1024_1) [1] []) i1024_15
def g1024_4 : LS := [ldo 12 48 0 2,
 mvo 4 12]
def i1024_17 : CW := .seq (.fin (.reg g1024_4) [2, 12] [(48, 1)]) (.ret)
def i1024_18 : CW := .seq i1024_16 i1024_17
def g1024_0 : LS := [o1 2 (.box 48 1 true (.s 0)),
 o1 4 (.mv false (.k (.row false (.rSpan []))))]
def i1024_19 : CW := .seq (.fin (.reg g1024_0) [0, 4] []) i1024_18
def fn1024 : IFn2 RW := ⟨49, 2, 13, 64, [(32, 15), (48, 1), (50, 2), (53, 2)], [(32, 15)], [], [.slot 4], i1024_19⟩
def g1023_0 : LS := [o1 2 (.mv false (.k (.row false (.rSpan []))))]
def g1023_1 : LS := [mvo 3 0,
 o1 4 (.call 1024 [(true, .k (.row true (.rSpan []))), (false, .s 3)] [(5, 15, 32)] []),
 mvo 2 4]
def i1023_0 : CW := .seq (.fin (.reg g1023_0) [2] []) (.seq (.fin (.reg g1023_1) [0, 3, 4] []) (.ret))
def fn1023 : IFn2 RW := ⟨35, 1, 5, 32, [(5, 15)], [(5, 15)], [], [.slot 2], i1023_0⟩
def g50_2 : LS := [bno 9 .lss 8 7]
def g50_3 : LS := [mvo 10 8,
 mvo 5 10]
def g50_4 : LS := [o1 11 (.load 19 0 2 true false 3),
 mvo 12 0,
 mvo 13 5,
 ixo 14 2 12 13,
 o1 15 (.loade 2 true 14),
 o1 16 (.eqs [true, true] false (.s 11) (.s 15))]
def g50_5 : LS := [mvo 17 5,
 mvo 4 17]
def g50_6 : LS := [o1 18 (.bin .add (.s 8) (.k (.sc (.int .i64 1)))),
 mvo 8 18]
def i50_0 : CW := .seq (.reg g50_2) (.seq (.fin (.cond (.s 9) (.skip) (.clr [0, 3, 7, 8, 9] [(19, 2)] (.exit 0))) [9] []) (.seq (.blk 1 (.seq (.fin (.reg g50_3) [10] []) (.seq (.fin (.reg g50_4) [11, 12, 13, 14, 15] []) (.fin (.cond (.s 16) (.seq (.fin (.reg g50_5) [0, 3, 5, 7, 8, 16, 17] [(19, 2)]) (.ret)) (.skip)) [5, 16] [])))) (.fin (.reg g50_6) [18] [])))
def i50_1 : CW := .loop i50_0
def i50_2 : CW := .blk 0 i50_1
def g50_1 : LS := [mvo 6 0,
 lno 7 6,
 o1 8 (.mv false (.k (.sc (.int .i64 0))))]
def i50_3 : CW := .seq (.fin (.reg g50_1) [6] []) i50_2
def g50_7 : LS := [o1 4 (.mv false (.k (.sc (.int .i64 (-1)))))]
def i50_4 : CW := .seq (.reg g50_7) (.ret)
def i50_5 : CW := .seq i50_3 i50_4
def g50_0 : LS := [o1 3 (.box 19 2 false (.s 1)),
 o1 4 (.mv false (.k (.sc (.int .i64 0))))]
def i50_6 : CW := .seq (.fin (.reg g50_0) [1, 4] []) i50_5
def fn50 : IFn2 RW := ⟨50, 2, 19, 32, [(19, 2)], [], [], [.slot 4], i50_6⟩
def g38_0 : LS := [o1 3 (.box 9 2 false (.s 1)),
 o1 4 (.mv false (.k (.sc (.bool false))))]
def g38_1 : LS := [mvo 5 0,
 o1 6 (.load 9 0 2 true false 3),
 o1 7 (.call 50 [(false, .s 5), (false, .s 6)] [] []),
 o1 8 (.bin .geq (.s 7) (.k (.sc (.int .i64 0)))),
 mvo 4 8]
def i38_0 : CW := .seq (.fin (.reg g38_0) [1, 4] []) (.seq (.fin (.reg g38_1) [0, 3, 5, 6, 7, 8] [(9, 2)]) (.ret))
def fn38 : IFn2 RW := ⟨38, 2, 9, 16, [(9, 2)], [], [], [.slot 4], i38_0⟩
def g26_3 : LS := [bno 16 .lss 15 14]
def g26_4 : LS := [ixo 17 2 13 15,
 o1 18 (.loade 2 true 17),
 o1 5 (.alloc 98 [.sc (.int .i64 0), .row false (.ruint8 [])]),
 o0 (.store 98 0 2 false 5 (.s 18))]
def g26_5 : LS := [fdo 19 1 5,
 ldo 20 98 1 19,
 lno 21 20,
 mvo 6 21]
def g26_6 : LS := [mvo 22 6,
 o1 23 (.bin .eql (.s 22) (.k (.sc (.int .i64 0)))),
 o2 24 (mvS 23),
 o3 25 24 false (fdS 0 5),
 o3 26 24 false (ldS 98 0 25),
 o3 27 24 false (mvS 3),
 o3 28 24 false (bnS .leq 26 27),
 o1 29 (.pick (.s 24) (.k (.sc (.bool true))) (.s 28)),
 o2 30 (mvS 29),
 o3 31 30 false (fdS 0 5),
 o3 32 30 false (ldS 98 0 31),
 o3 33 30 false (.load 82 0 15 true false 1),
 o3 34 30 false (.call 31 [(false, .s 33)] [] []),
 o3 35 30 false (mvS 6),
 o3 36 30 false (bnS .sub 34 35),
 o3 37 30 false (bnS .gtr 32 36),
 o1 38 (.pick (.s 30) (.k (.sc (.bool true))) (.s 37)),
 o2 39 (mvS 38),
 o3 40 39 false (fdS 9 1),
 o3 41 39 false (ldS 82 9 40),
 o3 42 39 false (.bin .geq (.s 41) (.k (.sc (.int .i64 0)))),
 ⟨some 43, .mv false (.s 42), (some (39, false)), true⟩,
 o3 44 43 true (fdS 0 5),
 o3 45 43 true (ldS 98 0 44),
 o3 46 43 true (fdS 9 1),
 o3 47 43 true (ldS 82 9 46),
 o3 48 43 true (mvS 6),
 o3 49 43 true (bnS .sub 47 48),
 o3 50 43 true (bnS .gtr 45 49),
 o3 51 39 false (.pick (.s 43) (.s 50) (.k (.sc (.bool false)))),
 o1 52 (.pick (.s 39) (.k (.sc (.bool true))) (.s 51))]
def g26_7 : LS := [o1 2 (.mv false (.k (.sc (.bool false))))]
def g26_8 : LS := [fdo 53 0 5,
 ldo 54 98 0 53,
 mvo 55 6,
 bno 56 .add 54 55,
 mvo 3 56]
def g26_9 : LS := [o1 57 (.bin .add (.s 15) (.k (.sc (.int .i64 1)))),
 mvo 15 57]
def i26_0 : CW := .seq (.reg g26_3) (.seq (.fin (.cond (.s 16) (.skip) (.clr [3, 13, 14, 15, 16] [] (.exit 0))) [16] []) (.seq (.blk 1 (.seq (.fin (.reg g26_4) [17, 18] []) (.seq (.fin (.reg g26_5) [19, 20, 21] []) (.seq (.seq (.fin (.reg g26_6) [3, 22, 23, 24, 25, 26, 27, 28, 29, 30, 31, 32, 33, 34, 35, 36, 37, 38, 39, 40, 41, 42, 43, 44, 45, 46, 47, 48, 49, 50, 51] []) (.fin (.cond (.s 52) (.seq (.fin (.reg g26_7) [1, 5, 6, 13, 14, 15, 52] [(82, 15), (98, 2)]) (.ret)) (.skip)) [52] [])) (.fin (.reg g26_8) [5, 6, 53, 54, 55, 56] [(98, 2)]))))) (.fin (.reg g26_9) [57] [])))
def i26_1 : CW := .loop i26_0
def i26_2 : CW := .blk 0 i26_1
def g26_2 : LS := [fdo 12 2 1,
 ldo 13 82 2 12,
 lno 14 13,
 o1 15 (.mv false (.k (.sc (.int .i64 0))))]
def i26_3 : CW := .seq (.fin (.reg g26_2) [12] []) i26_2
def g26_12 : LS := [bno 65 .lss 64 63]
def g26_13 : LS := [mvo 66 64,
 ixo 67 2 62 64,
 o1 68 (.loade 2 true 67),
 o1 9 (.alloc 101 [.sc (.int .i64 0), .sc (.int .i64 0)]),
 mvo 8 66,
 o0 (.store 101 0 2 false 9 (.s 68))]
def g26_14 : LS := [mvo 69 7,
 o1 70 (.load 101 0 2 true false 9),
 o1 71 (.call 38 [(false, .s 69), (false, .s 70)] [] []),
 nto 72 71,
 o2 73 (mvS 72),
 o3 74 73 false (fdS 11 1),
 o3 75 73 false (ldS 82 11 74),
 o3 76 73 false (mvS 8),
 o3 77 73 false (.slice 2 (.s 75) none (some (.s 76)) none),
 o3 78 73 false (.load 101 0 2 true false 9),
 o3 79 73 false (.call 38 [(false, .s 77), (false, .s 78)] [] []),
 o1 80 (.pick (.s 73) (.k (.sc (.bool true))) (.s 79))]
def g26_15 : LS := [o1 2 (.mv false (.k (.sc (.bool false))))]
def g26_16 : LS := [o1 81 (.bin .add (.s 64) (.k (.sc (.int .i64 1)))),
 mvo 64 81]
def i26_4 : CW := .seq (.reg g26_12) (.seq (.fin (.cond (.s 65) (.skip) (.clr [1, 7, 62, 63, 64, 65] [(82, 15)] (.exit 2))) [65] []) (.seq (.blk 3 (.seq (.fin (.reg g26_13) [66, 67, 68] []) (.seq (.fin (.reg g26_14) [8, 9, 69, 70, 71, 72, 73, 74, 75, 76, 77, 78, 79] [(101, 2)]) (.fin (.cond (.s 80) (.seq (.fin (.reg g26_15) [1, 7, 62, 63, 64, 80] [(82, 15)]) (.ret)) (.skip)) [80] [])))) (.fin (.reg g26_16) [81] [])))
def i26_5 : CW := .loop i26_4
def i26_6 : CW := .blk 2 i26_5
def g26_11 : LS := [fdo 61 11 1,
 ldo 62 82 11 61,
 lno 63 62,
 o1 64 (.mv false (.k (.sc (.int .i64 0))))]
def i26_7 : CW := .seq (.fin (.reg g26_11) [61] []) i26_6
def g26_17 : LS := [o1 2 (.mv false (.k (.sc (.bool true))))]
def i26_8 : CW := .seq (.reg g26_17) (.ret)
def i26_9 : CW := .seq i26_7 i26_8
def g26_10 : LS := [o1 58 (.load 82 0 15 true false 1),
 o1 59 (.call 30 [(false, .s 58)] [] [(4, 15, 104)]),
 o1 60 (.call 1023 [(false, .s 59)] [(104, 15, 5)] []),
 mvo 7 60]
def i26_10 : CW := .seq (.fin (.reg g26_10) [58, 59, 60] [(104, 15)]) i26_9
def i26_11 : CW := .seq i26_3 i26_10
def g26_0 : LS := [o1 1 (.box 82 15 false (.s 0)),
 o1 2 (.mv false (.k (.sc (.bool false))))]
def g26_1 : LS := [fdo 10 0 1,
 ldo 11 82 0 10,
 mvo 3 11]
def i26_12 : CW := .seq (.fin (.reg g26_0) [0, 2] []) (.seq (.fin (.reg g26_1) [10, 11] []) i26_11)
def fn26 : IFn2 RW := ⟨26, 1, 82, 128, [(82, 15), (98, 2), (101, 2), (104, 15)], [], [], [.slot 2], i26_12⟩
def g10_4 : LS := [o1 79 (.load 102 0 15 true false 1),
 o1 80 (.call 26 [(false, .s 79)] [] []),
 nto 81 80,
 o2 82 (mvS 81),
 o3 83 82 false (fdS 10 1),
 o3 84 82 false (ldS 102 10 83),
 o3 85 82 false (fdS 9 1),
 o3 86 82 false (ldS 102 9 85),
 o3 87 82 false (fdS 0 1),
 o3 88 82 false (ldS 102 0 87),
 o3 89 82 false (bnS .eql 86 88),
 o3 90 82 false (.eqb true (.s 84) (.s 89)),
 o1 91 (.pick (.s 82) (.k (.sc (.bool true))) (.s 90)),
 o2 92 (mvS 91),
 o3 93 92 false (fdS 10 1),
 o3 94 92 false (ldS 102 10 93),
 ⟨some 95, .mv false (.s 94), (some (92, false)), true⟩,
 o3 96 95 true (fdS 2 1),
 o3 97 95 true (ldS 102 2 96),
 o3 98 95 true (lnS 97),
 o3 99 95 true (.bin .gtr (.s 98) (.k (.sc (.int .i64 0)))),
 o3 100 92 false (.pick (.s 95) (.s 99) (.k (.sc (.bool false)))),
 o1 101 (.pick (.s 92) (.k (.sc (.bool true))) (.s 100))]
def g10_5 : LS := [o1 2 (.mv false (.k (.sc (.int .i64 230))))]
def g10_6 : LS := [o1 2 (.mv false (.k (.sc (.int .i64 0))))]
def i10_0 : CW := .seq (.seq (.fin (.reg g10_4) [1, 79, 80, 81, 82, 83, 84, 85, 86, 87, 88, 89, 90, 91, 92, 93, 94, 95, 96, 97, 98, 99, 100] [(102, 15)]) (.fin (.cond (.s 101) (.seq (.fin (.reg g10_5) [101] []) (.ret)) (.skip)) [101] [])) (.seq (.reg g10_6) (.ret))
def g10_1 : LS := [fdo 4 0 1,
 ldo 5 102 0 4,
 o1 6 (.bin .geq (.s 5) (.k (.sc (.int .i64 0)))),
 o2 7 (mvS 6),
 o3 8 7 true (fdS 0 1),
 o3 9 7 true (ldS 102 0 8),
 o3 10 7 true (.bin .leq (.s 9) (.k (.sc (.int .i64 562949953421312)))),
 o1 11 (.pick (.s 7) (.s 10) (.k (.sc (.bool false)))),
 o2 12 (mvS 11),
 o3 13 12 true (fdS 3 1),
 o3 14 12 true (ldS 102 3 13),
 o3 15 12 true (.bin .geq (.s 14) (.k (.sc (.int .i64 1)))),
 o1 16 (.pick (.s 12) (.s 15) (.k (.sc (.bool false)))),
 o2 17 (mvS 16),
 o3 18 17 true (fdS 3 1),
 o3 19 17 true (ldS 102 3 18),
 o3 20 17 true (.bin .leq (.s 19) (.k (.sc (.int .i64 1073741824)))),
 o1 21 (.pick (.s 17) (.s 20) (.k (.sc (.bool false)))),
 o2 22 (mvS 21),
 o3 23 22 true (fdS 4 1),
 o3 24 22 true (ldS 102 4 23),
 o3 25 22 true (.bin .geq (.s 24) (.k (.sc (.int .i64 0)))),
 o1 26 (.pick (.s 22) (.s 25) (.k (.sc (.bool false)))),
 o2 27 (mvS 26),
 o3 28 27 true (fdS 4 1),
 o3 29 27 true (ldS 102 4 28),
 o3 30 27 true (.bin .leq (.s 29) (.k (.sc (.int .i64 14)))),
 o1 31 (.pick (.s 27) (.s 30) (.k (.sc (.bool false)))),
 o2 32 (mvS 31),
 o3 33 32 true (fdS 1 1),
 o3 34 32 true (ldS 102 1 33),
 o3 35 32 true (lnS 34),
 o3 36 32 true (fdS 3 1),
 o3 37 32 true (ldS 102 3 36),
 o3 38 32 true (fdS 0 1),
 o3 39 32 true (ldS 102 0 38),
 o3 40 32 true (.mnmx false [.s 37, .s 39]),
 o3 41 32 true (bnS .leq 35 40),
 o1 42 (.pick (.s 32) (.s 41) (.k (.sc (.bool false)))),
 mvo 3 42]
def g10_2 : LS := [mvo 43 3,
 nto 44 43,
 o2 45 (mvS 44),
 o3 46 45 false (fdS 5 1),
 o3 47 45 false (ldS 102 5 46),
 o3 48 45 false (.bin .lss (.s 47) (.k (.sc (.int .i64 0)))),
 o1 49 (.pick (.s 45) (.k (.sc (.bool true))) (.s 48)),
 o2 50 (mvS 49),
 o3 51 50 false (fdS 5 1),
 o3 52 50 false (ldS 102 5 51),
 o3 53 50 false (.load 102 0 15 true false 1),
 o3 54 50 false (.call 25 [(false, .s 53)] [] []),
 o3 55 50 false (bnS .gtr 52 54),
 o1 56 (.pick (.s 50) (.k (.sc (.bool true))) (.s 55)),
 o2 57 (mvS 56),
 o3 58 57 false (fdS 9 1),
 o3 59 57 false (ldS 102 9 58),
 o3 60 57 false (.bin .lss (.s 59) (.k (.sc (.int .i64 (-1))))),
 o1 61 (.pick (.s 57) (.k (.sc (.bool true))) (.s 60)),
 o2 62 (mvS 61),
 o3 63 62 false (fdS 9 1),
 o3 64 62 false (ldS 102 9 63),
 o3 65 62 false (.bin .geq (.s 64) (.k (.sc (.int .i64 0)))),
 ⟨some 66, .mv false (.s 65), (some (62, false)), true⟩,
 o3 67 66 true (fdS 9 1),
 o3 68 66 true (ldS 102 9 67),
 o3 69 66 true (fdS 0 1),
 o3 70 66 true (ldS 102 0 69),
 o3 71 66 true (bnS .lss 68 70),
 o3 72 62 false (.pick (.s 66) (.s 71) (.k (.sc (.bool false)))),
 o1 73 (.pick (.s 62) (.k (.sc (.bool true))) (.s 72)),
 o2 74 (mvS 73),
 o3 75 74 false (fdS 9 1),
 o3 76 74 false (ldS 102 9 75),
 o3 77 74 false (.bin .gtr (.s 76) (.k (.sc (.int .i64 562949953421312)))),
 o1 78 (.pick (.s 74) (.k (.sc (.bool true))) (.s 77))]
def g10_3 : LS := [o1 2 (.mv false (.k (.sc (.int .i64 230))))]
def i10_1 : CW := .seq (.fin (.reg g10_1) [4, 5, 6, 7, 8, 9, 10, 11, 12, 13, 14, 15, 16, 17, 18, 19, 20, 21, 22, 23, 24, 25, 26, 27, 28, 29, 30, 31, 32, 33, 34, 35, 36, 37, 38, 39, 40, 41, 42] []) (.seq (.seq (.fin (.reg g10_2) [3, 43, 44, 45, 46, 47, 48, 49, 50, 51, 52, 53, 54, 55, 56, 57, 58, 59, 60, 61, 62, 63, 64, 65, 66, 67, 68, 69, 70, 71, 72, 73, 74, 75, 76, 77] []) (.fin (.cond (.s 78) (.seq (.fin (.reg g10_3) [1, 78] [(102, 15)]) (.ret)) (.skip)) [78] [])) i10_0)
def g10_0 : LS := [o1 1 (.box 102 15 false (.s 0)),
 o1 2 (.mv false (.k (.sc (.int .i64 0))))]
def i10_2 : CW := .seq (.fin (.reg g10_0) [0, 2] []) i10_1
def fn10 : IFn2 RW := ⟨10, 1, 102, 128, [(102, 15)], [], [], [.slot 2], i10_2⟩
end
/-! bytes.Clone -/
section
variable (cp : CP) (n : Nat) (k : KX R)
def g28_0 : List IStep := [⟨(some 2), .mv true (.k (.row true 1 0 (fun _ => [.sc (.int .u8 0)]))), none, false⟩]
def g28_1 : List IStep := [⟨(some 3), .mv false (.s 0), none, false⟩,
 ⟨(some 4), .nilq false (.s 3), none, false⟩]
def g28_2 : List IStep := [⟨(some 2), .mv true (.k (.row true 1 0 (fun _ => [.sc (.int .u8 0)]))), none, false⟩]
def g28_3 : List IStep := [⟨(some 5), .bslice 1 0 [.sc (.int .u8 0)] [], none, false⟩,
 ⟨(some 6), .mv false (.s 0), none, false⟩,
 ⟨(some 7), .app 1 1 true (.s 5) (.s 6), none, false⟩,
 ⟨(some 2), .mv true (.s 7), none, false⟩]
def fn28 : IFn := ⟨28, 1, 8, 8, [], [], [], [.slot 2],
  .seq (.fin (.reg g28_0) [2] []) (.seq (.seq (.fin (.reg g28_1) [3] []) (.fin (.cond (.s 4) (.seq (.fin (.reg g28_2) [0, 4] []) (.ret)) (.skip)) [4] [])) (.seq (.fin (.reg g28_3) [0, 5, 6, 7] []) (.ret)))⟩

def g11_6 : LS := [bno 21 .lss 20 19]
def g11_7 : LS := [ixo 22 2 18 20,
 o1 23 (.loade 2 true 22),
 o1 5 (.alloc 69 [.sc (.int .i64 0), .row false (.ruint8 [])]),
 o0 (.store 69 0 2 false 5 (.s 23))]
def g11_8 : LS := [fdo 24 2 1,
 o1 25 (.load 37 2 1 false true 24),
 fdo 26 0 5,
 ldo 27 69 0 26,
 fdo 28 1 5,
 ldo 29 69 1 28,
 o1 30 (.call 28 [(false, .s 29)] [] []),
 o1 31 (.build [.sc (.int .i64 0), .row false (.ruint8 [])] [(0, 1, .s 27), (1, 1, .s 30)]),
 o1 32 (.bslice 45 1 [(0, 2, .s 31)]),
 o1 33 (.app 2 32 true (.s 25) (.s 32)),
 fdo 34 2 1,
 o0 (.store 37 2 1 true 34 (.s 33))]
def g11_9 : LS := [o1 35 (.bin .add (.s 20) (.k (.sc (.int .i64 1)))),
 mvo 20 35]
def i11_0 : CW := .seq (.reg g11_6) (.seq (.fin (.cond (.s 21) (.skip) (.clr [18, 19, 20, 21] [] (.exit 0))) [21] []) (.seq (.blk 1 (.seq (.fin (.reg g11_7) [22, 23] []) (.fin (.reg g11_8) [5, 24, 25, 26, 27, 28, 29, 30, 31, 32, 33, 34] [(69, 2)]))) (.fin (.reg g11_9) [35] [])))
def i11_1 : CW := .loop i11_0
def i11_2 : CW := .blk 0 i11_1
def g11_5 : LS := [mvo 18 3,
 lno 19 18,
 o1 20 (.mv false (.k (.sc (.int .i64 0))))]
def i11_3 : CW := .seq (.fin (.reg g11_5) [3] []) i11_2
def g11_10 : LS := [o1 36 (.load 37 0 15 true true 1),
 o0 (.store 53 0 15 true 2 (.s 36))]
def i11_4 : CW := .seq (.fin (.reg g11_10) [1, 36] [(37, 15)]) (.ret)
def i11_5 : CW := .seq i11_3 i11_4
def g11_0 : LS := [o1 1 (.box 37 15 true (.s 0)),
 o1 2 (.alloc 53 [.sc (.int .i64 0), .row true (.ruint8 []), .row true (.rPiece []), .sc (.int .i64 0), .sc (.int .i64 0), .sc (.int .i64 0), .sc (.int .u32 0), .sc (.bool false), .sc (.bool false), .sc (.int .i64 0), .sc (.bool false), .row true (.rSpan []), .sc (.int .u32 0), .sc (.int .u32 0), .sc (.bool false)])]
def g11_1 : LS := [o1 6 (.bslice 5 0 []),
 fdo 7 1 1,
 ldo 8 37 1 7,
 o1 9 (.app 1 1 true (.s 6) (.s 8)),
 fdo 10 1 1,
 o0 (.store 37 1 1 true 10 (.s 9))]
def g11_2 : LS := [fdo 11 11 1,
 ldo 12 37 11 11,
 o1 13 (.call 27 [(false, .s 12)] [] []),
 fdo 14 11 1,
 o0 (.store 37 11 1 true 14 (.s 13))]
def g11_3 : LS := [fdo 15 2 1,
 ldo 16 37 2 15,
 mvo 3 16]
def g11_4 : LS := [fdo 17 2 1,
 o0 (.store 37 2 1 true 17 (.k (.row true (.rPiece []))))]
def i11_6 : CW := .seq (.fin (.reg g11_0) [0] []) (.seq (.fin (.reg g11_1) [6, 7, 8, 9, 10] []) (.seq (.fin (.reg g11_2) [11, 12, 13, 14] []) (.seq (.fin (.reg g11_3) [15, 16] []) (.seq (.fin (.reg g11_4) [17] []) i11_5))))
def fn11 : IFn2 RW := ⟨11, 1, 37, 80, [(37, 15), (53, 15), (69, 2)], [], [], [.cell 2 53 15 true], i11_6⟩
def g18_0 : LS := [o1 4 (.mv false (.k (.sc (.int .u32 0))))]
def g18_1 : LS := [mvo 5 0,
 mvo 6 1,
 o1 7 (.conv .u32 (.s 6)),
 bno 8 .add 5 7,
 mvo 4 8]
def i18_0 : CW := .seq (.fin (.reg g18_0) [4] []) (.seq (.fin (.reg g18_1) [0, 1, 5, 6, 7, 8] []) (.ret))
def fn18 : IFn2 RW := ⟨18, 2, 9, 16, [], [], [], [.slot 4], i18_0⟩
def g14_10 : LS := [bno 42 .lss 41 40]
def g14_11 : LS := [ixo 43 2 39 41,
 o1 44 (.loade 2 true 43),
 o1 10 (.alloc 146 [.sc (.int .i64 0), .sc (.int .i64 0)]),
 o0 (.store 146 0 2 false 10 (.s 44))]
def g14_12 : LS := [fdo 45 8 2,
 ldo 46 82 8 45,
 o2 47 (mvS 46),
 o3 48 47 true (fdS 13 7),
 o3 49 47 true (ldS 130 13 48),
 o3 50 47 true (lnS 49),
 o3 51 47 true (mvS 8),
 o3 52 47 true (bnS .lss 50 51),
 o1 53 (.pick (.s 47) (.s 52) (.k (.sc (.bool false))))]
def g14_13 : LS := [fdo 54 13 7,
 o1 55 (.load 130 13 1 false true 54),
 fdo 56 12 2,
 ldo 57 82 12 56,
 fdo 58 0 10,
 ldo 59 146 0 58,
 o1 60 (.call 18 [(false, .s 57), (false, .s 59)] [] []),
 fdo 61 12 2,
 ldo 62 82 12 61,
 fdo 63 1 10,
 ldo 64 146 1 63,
 o1 65 (.call 18 [(false, .s 62), (false, .s 64)] [] []),
 o1 66 (.build [.sc (.int .u32 0), .sc (.int .u32 0)] [(0, 1, .s 60), (1, 1, .s 65)]),
 o1 67 (.bslice 49 1 [(0, 2, .s 66)]),
 o1 68 (.app 2 8 true (.s 55) (.s 67)),
 fdo 69 13 7,
 o0 (.store 130 13 1 true 69 (.s 68))]
def g14_14 : LS := [o1 70 (.bin .add (.s 41) (.k (.sc (.int .i64 1)))),
 mvo 41 70]
def i14_0 : CW := .seq (.reg g14_10) (.seq (.fin (.cond (.s 42) (.skip) (.clr [8, 39, 40, 41, 42] [] (.exit 0))) [42] []) (.seq (.blk 1 (.seq (.fin (.reg g14_11) [43, 44] []) (.seq (.fin (.reg g14_12) [45, 46, 47, 48, 49, 50, 51, 52] []) (.fin (.cond (.s 53) (.fin (.reg g14_13) [10, 53, 54, 55, 56, 57, 58, 59, 60, 61, 62, 63, 64, 65, 66, 67, 68, 69] [(146, 2)]) (.skip)) [10, 53] [(146, 2)])))) (.fin (.reg g14_14) [70] [])))
def i14_1 : CW := .loop i14_0
def i14_2 : CW := .blk 0 i14_1
def g14_9 : LS := [fdo 38 11 2,
 ldo 39 82 11 38,
 lno 40 39,
 o1 41 (.mv false (.k (.sc (.int .i64 0))))]
def i14_3 : CW := .seq (.fin (.reg g14_9) [38] []) i14_2
def g14_15 : LS := [fdo 71 5 2,
 ldo 72 82 5 71,
 fdo 73 0 2,
 ldo 74 82 0 73,
 o1 75 (.load 82 0 15 true false 2),
 o1 76 (.call 9 [(false, .s 75)] [] []),
 bno 77 .add 74 76,
 o1 78 (.mnmx true [.s 72, .s 77]),
 fdo 79 5 2,
 o0 (.store 82 5 1 false 79 (.s 78))]
def g14_16 : LS := [o1 80 (.load 82 0 15 true true 2),
 o1 81 (.load 130 0 15 true true 7),
 o0 (.store 98 0 15 true 4 (.s 80)),
 o0 (.store 114 0 15 true 5 (.s 81))]
def i14_4 : CW := .seq (.fin (.reg g14_15) [71, 72, 73, 74, 75, 76, 77, 78, 79] []) (.seq (.fin (.reg g14_16) [2, 7, 80, 81] [(82, 15), (130, 15)]) (.ret))
def i14_5 : CW := .seq i14_3 i14_4
def g14_0 : LS := [o1 2 (.box 82 15 true (.s 0)),
 o1 4 (.alloc 98 [.sc (.int .i64 0), .row true (.ruint8 []), .row true (.rPiece []), .sc (.int .i64 0), .sc (.int .i64 0), .sc (.int .i64 0), .sc (.int .u32 0), .sc (.bool false), .sc (.bool false), .sc (.int .i64 0), .sc (.bool false), .row true (.rSpan []), .sc (.int .u32 0), .sc (.int .u32 0), .sc (.bool false)]),
 o1 5 (.alloc 114 [.sc (.int .i64 0), .sc (.int .i64 0), .sc (.int .u32 0), .sc (.int .u32 0), .sc (.int .i64 0), .sc (.int .i64 0), .sc (.int .i64 0), .sc (.int .i64 0), .sc (.int .i64 0), .sc (.bool false), .sc (.bool false), .sc (.int .u32 0), .sc (.int .u32 0), .row true (.rBlock []), .row true (.ruint8 [])])]
def g14_1 : LS := [fdo 11 0 2,
 ldo 12 82 0 11,
 mvo 6 12]
def g14_2 : LS := [fdo 13 10 2,
 ldo 14 82 10 13]
def g14_3 : LS := [mvo 15 6,
 o1 16 (.bin .add (.s 15) (.k (.sc (.int .i64 1)))),
 mvo 6 16]
def g14_4 : LS := [fdo 17 13 2,
 ldo 18 82 13 17,
 fdo 19 12 2,
 ldo 20 82 12 19,
 mvo 21 6,
 o1 22 (.call 18 [(false, .s 20), (false, .s 21)] [] []),
 o1 23 (.load 82 0 15 true false 2),
 o1 24 (.call 9 [(false, .s 23)] [] []),
 fdo 25 4 2,
 ldo 26 82 4 25,
 bno 27 .shr 24 26,
 o1 28 (.mv true (.s 1)),
 o1 29 (.buildl [.sc (.int .i64 0), .sc (.int .i64 0), .sc (.int .u32 0), .sc (.int .u32 0), .sc (.int .i64 0), .sc (.int .i64 0), .sc (.int .i64 0), .sc (.int .i64 0), .sc (.int .i64 0), .sc (.bool false), .sc (.bool false), .sc (.int .u32 0), .sc (.int .u32 0), .row false (.rBlock []), .row false (.ruint8 [])] [(2, 1, .s 18), (3, 1, .s 22), (4, 1, .k (.sc (.int .i64 16))), (5, 1, .s 27), (7, 1, .k (.sc (.int .i64 (-1)))), (8, 1, .k (.sc (.int .i64 (-1)))), (13, 1, .s 28)] 13 28),
 o1 7 (.alloc 130 [.sc (.int .i64 0), .sc (.int .i64 0), .sc (.int .u32 0), .sc (.int .u32 0), .sc (.int .i64 0), .sc (.int .i64 0), .sc (.int .i64 0), .sc (.int .i64 0), .sc (.int .i64 0), .sc (.bool false), .sc (.bool false), .sc (.int .u32 0), .sc (.int .u32 0), .row true (.rBlock []), .row true (.ruint8 [])]),
 o0 (.store 130 0 15 true 7 (.s 29))]
def g14_5 : LS := [o1 8 (.mv false (.k (.sc (.int .i64 4))))]
def g14_6 : LS := [fdo 30 7 2,
 ldo 31 82 7 30]
def g14_7 : LS := [fdo 32 6 2,
 ldo 33 82 6 32,
 fdo 34 10 7,
 o0 (.store 130 10 1 false 34 (.k (.sc (.bool true)))),
 fdo 35 12 7,
 o0 (.store 130 12 1 false 35 (.s 33))]
def g14_8 : LS := [mvo 36 8,
 o1 37 (.bin .sub (.s 36) (.k (.sc (.int .i64 1)))),
 mvo 8 37]
def i14_6 : CW := .seq (.fin (.reg g14_0) [0] []) (.seq (.fin (.reg g14_1) [11, 12] []) (.seq (.seq (.fin (.reg g14_2) [13] []) (.fin (.cond (.s 14) (.fin (.reg g14_3) [14, 15, 16] []) (.skip)) [14] [])) (.seq (.fin (.reg g14_4) [1, 6, 17, 18, 19, 20, 21, 22, 23, 24, 25, 26, 27, 28, 29] []) (.seq (.reg g14_5) (.seq (.seq (.fin (.reg g14_6) [30] []) (.fin (.cond (.s 31) (.seq (.fin (.reg g14_7) [31, 32, 33, 34, 35] []) (.fin (.reg g14_8) [36, 37] [])) (.skip)) [31] [])) i14_5)))))
def fn14 : IFn2 RW := ⟨14, 2, 82, 160, [(82, 15), (98, 15), (114, 15), (130, 15), (146, 2)], [], [], [.cell 4 98 15 true, .cell 5 114 15 true], i14_6⟩
def g15_3 : LS := [o1 6 (.alloc 50 [.sc (.int .i64 0), .sc (.int .i64 0)]),
 o0 (.store 50 0 2 false 6 (.s 11))]
def i15_0 : CW := .fin (.reg g15_3) [11] []
def g15_4 : LS := [fdo 12 1 6,
 ldo 13 50 1 12,
 o0 (.store 48 0 1 false 5 (.s 13))]
def i15_1 : CW := .blk 1 (.fin (.reg g15_4) [6, 12, 13] [(50, 2)])
def i15_2 : CW := .seq i15_0 i15_1
def g15_1000 : LS := [fdo 5 2 1,
 ldo 6 53 2 5,
 lno 7 6,
 o1 8 (.mv false (.k (.sc (.int .i64 0))))]
def g15_1001 : LS := [bno 9 .lss 8 7]
def g15_1002 : LS := [ixo 10 2 6 8,
 o1 11 (.loade 2 true 10),
 o1 4 (.alloc 69 [.sc (.int .i64 0), .row false (.ruint8 [])]),
 o0 (.store 69 0 2 false 4 (.s 11))]
def g15_10031 : LS := [mvo 12 0,
 o1 13 (.load 69 0 2 true false 4),
 o1 14 (.call 42 [(false, .s 13)] [] [])]
def g15_10032 : LS := [nto 16 15]
def g15_1004 : LS := [o1 17 (.bin .add (.s 8) (.k (.sc (.int .i64 1)))),
 mvo 8 17]
def i15_3 : CW := .seq (.fin (.reg g15_1000) [1, 5] []) (.blk 0 (.loop (.seq (.reg g15_1001) (.seq (.fin (.cond (.s 9) (.skip) (.clr [0, 6, 7, 8, 9] [] (.exit 0))) [9] []) (.seq (.blk 1 (.seq (.fin (.reg g15_1002) [10, 11] []) (.seq (.fin (.yreg g15_10031 (.s 12) [.s 14] none 15 g15_10032) [4, 12, 13, 14, 15] [(69, 2)]) (.fin (.cond (.s 16) (.clr [0, 6, 7, 8, 16] [] (.ret)) (.skip)) [16] [])))) (.fin (.reg g15_1004) [17] []))))))
def i15_4 : CW := .fin (.yreg g15_10031 (.s 12) [.s 14] none 15 g15_10032) [4, 12, 13, 14, 15] [(69, 2)]
def i15_5 : CW := .fin (.cond (.s 16) (.clr [0, 6, 7, 8, 16] [] (.ret)) (.skip)) [16] []
def i15_6 : CW := .seq i15_4 i15_5
def i15_7 : CW := .seq (.fin (.reg g15_1002) [10, 11] []) i15_6
def i15_8 : CW := .blk 1 i15_7
def i15_9 : CW := .fin (.reg g15_1004) [17] []
def i15_10 : CW := .seq i15_8 i15_9
def i15_11 : CW := .seq (.reg g15_1001) (.seq (.fin (.cond (.s 9) (.skip) (.clr [0, 6, 7, 8, 9] [] (.exit 0))) [9] []) i15_10)
def i15_12 : CW := .loop i15_11
def i15_13 : CW := .blk 0 i15_12
def i15_14 : CW := .fin (.rfn (.s 10) 41 2 18 [11] i15_3 i15_0 i15_1 [32, 48, 53] [32, 48, 53, 69]) [10] [(53, 15)]
def i15_15 : CW := .blk 0 i15_14
def g15_2 : LS := [o1 9 (.load 32 0 15 true false 2),
 o1 10 (.call 30 [(false, .s 9)] [] [(4, 15, 53)])]
def i15_16 : CW := .seq (.fin (.reg g15_2) [9] []) i15_15
def g15_5 : LS := [fdo 14 9 2,
 ldo 15 32 9 14,
 o1 16 (.bin .lss (.s 15) (.k (.sc (.int .i64 0)))),
 o2 17 (mvS 16),
 o3 18 17 true (mvS 1),
 o3 19 17 true (ldS 48 0 5),
 o3 20 17 true (bnS .geq 18 19),
 o1 21 (.pick (.s 17) (.s 20) (.k (.sc (.bool false)))),
 o2 22 (mvS 21),
 o3 23 22 true (mvS 1),
 o3 24 22 true (.load 32 0 15 true false 2),
 o3 25 22 true (.call 31 [(false, .s 24)] [] []),
 o3 26 22 true (bnS .leq 23 25),
 o1 27 (.pick (.s 22) (.s 26) (.k (.sc (.bool false))))]
def g15_6 : LS := [mvo 28 1,
 mvo 4 28]
def g15_7 : LS := [fdo 29 9 2,
 ldo 30 32 9 29,
 mvo 4 30]
def i15_17 : CW := .seq (.seq (.fin (.reg g15_5) [5, 14, 15, 16, 17, 18, 19, 20, 21, 22, 23, 24, 25, 26] [(48, 1)]) (.fin (.cond (.s 27) (.seq (.fin (.reg g15_6) [1, 2, 27, 28] [(32, 15)]) (.ret)) (.skip)) [1, 27] [])) (.seq (.fin (.reg g15_7) [2, 29, 30] [(32, 15)]) (.ret))
def i15_18 : CW := .seq i15_16 i15_17
def g15_0 : LS := [o1 2 (.box 32 15 false (.s 0)),
 o1 4 (.mv false (.k (.sc (.int .i64 0))))]
def g15_1 : LS := [fdo 7 0 2,
 ldo 8 32 0 7,
 o1 5 (.alloc 48 [.sc (.int .i64 0)]),
 o0 (.store 48 0 1 false 5 (.s 8))]
def i15_19 : CW := .seq (.fin (.reg g15_0) [0, 4] []) (.seq (.fin (.reg g15_1) [7, 8] []) i15_18)
def fn15 : IFn2 RW := ⟨15, 2, 31, 80, [(32, 15), (48, 1), (50, 2), (53, 15), (69, 2)], [], [], [.slot 4], i15_19⟩
def g48_0 : LS := [o1 2 (.box 6 1 false (.s 0)),
 o1 3 (.box 8 2 false (.s 1)),
 o1 4 (.mv false (.k (.sc .nilFunc)))]
def g48_1 : LS := [o1 5 (.mkclo 53 [.s 2, .s 3]),
 mvo 4 5]
def i48_0 : CW := .seq (.fin (.reg g48_0) [0, 1, 4] []) (.seq (.fin (.reg g48_1) [2, 3, 5] []) (.ret))
def fn48 : IFn2 RW := ⟨48, 2, 6, 16, [(6, 1), (8, 2)], [], [(6, 1), (8, 2)], [.slot 4], i48_0⟩
def g34_6 : LS := [o1 7 (.alloc 71 [.sc (.int .i64 0), .sc (.int .i64 0)]),
 o0 (.store 71 0 2 false 7 (.s 23))]
def i34_0 : CW := .fin (.reg g34_6) [23] []
def g34_7 : LS := [ldo 24 69 0 6,
 fdo 25 0 7,
 ldo 26 71 0 25,
 bno 27 .lss 24 26]
def g34_8 : LS := [o1 28 (.load 67 0 1 false true 5),
 ldo 29 69 0 6,
 fdo 30 0 7,
 ldo 31 71 0 30,
 o1 32 (.build [.sc (.int .i64 0), .sc (.int .i64 0)] [(0, 1, .s 29), (1, 1, .s 31)]),
 o1 33 (.bslice 51 1 [(0, 2, .s 32)]),
 o1 34 (.app 2 16 true (.s 28) (.s 33)),
 o0 (.store 67 0 1 true 5 (.s 34))]
def g34_9 : LS := [fdo 35 1 7,
 ldo 36 71 1 35,
 o0 (.store 69 0 1 false 6 (.s 36))]
def i34_1 : CW := .blk 1 (.seq (.seq (.fin (.reg g34_7) [24, 25, 26] []) (.fin (.cond (.s 27) (.fin (.reg g34_8) [27, 28, 29, 30, 31, 32, 33, 34] []) (.skip)) [27] [])) (.fin (.reg g34_9) [7, 35, 36] [(71, 2)]))
def i34_2 : CW := .seq i34_0 i34_1
def g34_1000 : LS := [ldo 7 74 0 1,
 lno 8 7,
 o1 9 (.mv false (.k (.sc (.int .i64 0))))]
def g34_1001 : LS := [bno 10 .lss 9 8]
def g34_1002 : LS := [ixo 11 2 7 9,
 o1 12 (.loade 2 true 11),
 o1 5 (.alloc 79 [.sc (.int .i64 0), .sc (.int .i64 0)]),
 o0 (.store 79 0 2 false 5 (.s 12))]
def g34_1003 : LS := [fdo 13 0 5,
 ldo 14 79 0 13,
 fdo 15 0 2,
 ldo 16 76 0 15,
 o1 17 (.mnmx true [.s 14, .s 16]),
 fdo 18 1 5,
 ldo 19 79 1 18,
 fdo 20 1 2,
 ldo 21 76 1 20,
 o1 22 (.mnmx false [.s 19, .s 21]),
 o1 23 (.build [.sc (.int .i64 0), .sc (.int .i64 0)] [(0, 1, .s 17), (1, 1, .s 22)]),
 o1 6 (.alloc 82 [.sc (.int .i64 0), .sc (.int .i64 0)]),
 o0 (.store 82 0 2 false 6 (.s 23))]
def g34_10041 : LS := [fdo 24 0 6,
 ldo 25 82 0 24,
 fdo 26 1 6,
 ldo 27 82 1 26,
 bno 28 .lss 25 27,
 o2 29 (mvS 28),
 o3 30 29 true (mvS 0),
 o3 31 29 true (.load 82 0 2 true false 6)]
def g34_10042 : LS := [o3 33 29 true (ntS 32),
 o1 34 (.pick (.s 29) (.s 33) (.k (.sc (.bool false))))]
def g34_1005 : LS := [o1 35 (.bin .add (.s 9) (.k (.sc (.int .i64 1)))),
 mvo 9 35]
def i34_3 : CW := .seq (.fin (.reg g34_1000) [1] []) (.blk 0 (.loop (.seq (.reg g34_1001) (.seq (.fin (.cond (.s 10) (.skip) (.clr [0, 2, 7, 8, 9, 10] [] (.exit 0))) [10] []) (.seq (.blk 1 (.seq (.fin (.reg g34_1002) [11, 12] []) (.seq (.fin (.reg g34_1003) [5, 13, 14, 15, 16, 17, 18, 19, 20, 21, 22, 23] [(79, 2)]) (.seq (.fin (.yreg g34_10041 (.s 30) [.s 31] (some (29, true)) 32 g34_10042) [6, 24, 25, 26, 27, 28, 29, 30, 31, 32, 33] [(82, 2)]) (.fin (.cond (.s 34) (.clr [0, 2, 7, 8, 9, 34] [] (.ret)) (.skip)) [34] []))))) (.fin (.reg g34_1005) [35] []))))))
def i34_4 : CW := .fin (.yreg g34_10041 (.s 30) [.s 31] (some (29, true)) 32 g34_10042) [6, 24, 25, 26, 27, 28, 29, 30, 31, 32, 33] [(82, 2)]
def i34_5 : CW := .fin (.cond (.s 34) (.clr [0, 2, 7, 8, 9, 34] [] (.ret)) (.skip)) [34] []
def i34_6 : CW := .seq i34_4 i34_5
def i34_7 : CW := .seq (.fin (.reg g34_1002) [11, 12] []) (.seq (.fin (.reg g34_1003) [5, 13, 14, 15, 16, 17, 18, 19, 20, 21, 22, 23] [(79, 2)]) i34_6)
def i34_8 : CW := .blk 1 i34_7
def i34_9 : CW := .fin (.reg g34_1005) [35] []
def i34_10 : CW := .seq i34_8 i34_9
def i34_11 : CW := .seq (.reg g34_1001) (.seq (.fin (.cond (.s 10) (.skip) (.clr [0, 2, 7, 8, 9, 10] [] (.exit 0))) [10] []) i34_10)
def i34_12 : CW := .loop i34_11
def i34_13 : CW := .blk 0 i34_12
def i34_14 : CW := .fin (.rfn (.s 22) 53 4 36 [23] i34_3 i34_0 i34_1 [64, 67, 69, 74, 76] [64, 67, 69, 74, 76, 79, 82]) [22] [(74, 1), (76, 2)]
def i34_15 : CW := .blk 0 i34_14
def g34_5 : LS := [mvo 20 0,
 o1 21 (.load 64 0 2 true false 3),
 o1 22 (.call 48 [(false, .s 20), (false, .s 21)] [] [(6, 1, 74), (8, 2, 76)])]
def i34_16 : CW := .seq (.fin (.reg g34_5) [0, 20, 21] []) i34_15
def g34_10 : LS := [ldo 37 69 0 6,
 fdo 38 1 3,
 ldo 39 64 1 38,
 bno 40 .lss 37 39]
def g34_11 : LS := [o1 41 (.load 67 0 1 false true 5),
 ldo 42 69 0 6,
 fdo 43 1 3,
 ldo 44 64 1 43,
 o1 45 (.build [.sc (.int .i64 0), .sc (.int .i64 0)] [(0, 1, .s 42), (1, 1, .s 44)]),
 o1 46 (.bslice 51 1 [(0, 2, .s 45)]),
 o1 47 (.app 2 16 true (.s 41) (.s 46)),
 o0 (.store 67 0 1 true 5 (.s 47))]
def g34_12 : LS := [ldo 48 67 0 5,
 mvo 4 48]
def i34_17 : CW := .seq (.seq (.fin (.reg g34_10) [37, 38, 39] []) (.fin (.cond (.s 40) (.fin (.reg g34_11) [3, 6, 40, 41, 42, 43, 44, 45, 46, 47] [(64, 2), (69, 1)]) (.skip)) [3, 6, 40] [(64, 2), (69, 1)])) (.seq (.fin (.reg g34_12) [5, 48] [(67, 1)]) (.ret))
def i34_18 : CW := .seq i34_16 i34_17
def g34_0 : LS := [o1 3 (.box 64 2 false (.s 1)),
 o1 4 (.mv false (.k (.row false (.rSpan []))))]
def g34_1 : LS := [mvo 8 0,
 o1 9 (.call 24 [(false, .s 8)] [] []),
 o1 10 (.bin .neq (.s 9) (.k (.sc (.int .i64 0)))),
 o2 11 (mvS 10),
 o3 12 11 false (fdS 0 3),
 o3 13 11 false (ldS 64 0 12),
 o3 14 11 false (fdS 1 3),
 o3 15 11 false (ldS 64 1 14),
 o3 16 11 false (bnS .geq 13 15),
 o1 17 (.pick (.s 11) (.k (.sc (.bool true))) (.s 16))]
def g34_2 : LS := [o1 4 (.mv false (.k (.row false (.rSpan []))))]
def g34_3 : LS := [o1 5 (.alloc 67 [.row true (.rSpan [])])]
def g34_4 : LS := [fdo 18 0 3,
 ldo 19 64 0 18,
 o1 6 (.alloc 69 [.sc (.int .i64 0)]),
 o0 (.store 69 0 1 false 6 (.s 19))]
def i34_19 : CW := .seq (.fin (.reg g34_0) [1, 4] []) (.seq (.seq (.fin (.reg g34_1) [8, 9, 10, 11, 12, 13, 14, 15, 16] []) (.fin (.cond (.s 17) (.seq (.fin (.reg g34_2) [0, 3, 17] [(64, 2)]) (.ret)) (.skip)) [17] [])) (.seq (.reg g34_3) (.seq (.fin (.reg g34_4) [18, 19] []) i34_18)))
def fn34 : IFn2 RW := ⟨34, 2, 49, 96, [(64, 2), (67, 1), (69, 1), (71, 2), (74, 1), (76, 2), (79, 2), (82, 2)], [], [], [.slot 4], i34_19⟩
def g44_0 : LS := [o1 2 (.box 9 2 false (.s 0)),
 o1 4 (.mv false (.k (.sc (.int .i64 0))))]
def g44_1 : LS := [fdo 5 0 2,
 ldo 6 9 0 5,
 mvo 7 1,
 bno 8 .sub 6 7,
 mvo 4 8]
def i44_0 : CW := .seq (.fin (.reg g44_0) [0, 4] []) (.seq (.fin (.reg g44_1) [1, 2, 5, 6, 7, 8] [(9, 2)]) (.ret))
def fn44 : IFn2 RW := ⟨44, 2, 9, 16, [(9, 2)], [], [], [.slot 4], i44_0⟩
def g1038_3 : LS := [mvo 15 9,
 mvo 16 10,
 bno 17 .lss 15 16]
def g1038_4 : LS := [mvo 18 9,
 mvo 19 10,
 bno 20 .add 18 19,
 o1 21 (.conv .u64 (.s 20)),
 o1 22 (.bin .shr (.s 21) (.k (.sc (.int .u64 1)))),
 o1 23 (.conv .i64 (.s 22)),
 mvo 11 23]
def g1038_5 : LS := [mvo 24 2,
 mvo 25 0,
 mvo 26 11,
 ixo 27 2 25 26,
 o1 28 (.loade 2 true 27),
 mvo 29 1,
 o1 30 (.callv (.s 24) 44 44 [(false, .s 28), (false, .s 29)] [] []),
 o1 31 (.bin .lss (.s 30) (.k (.sc (.int .i64 0))))]
def g1038_6 : LS := [mvo 32 11,
 o1 33 (.bin .add (.s 32) (.k (.sc (.int .i64 1)))),
 mvo 9 33]
def g1038_7 : LS := [mvo 34 11,
 mvo 10 34]
def i1038_0 : CW := .seq (.seq (.fin (.reg g1038_3) [15, 16] []) (.fin (.cond (.s 17) (.skip) (.clr [10, 17] [] (.exit 0))) [17] [])) (.blk 1 (.seq (.fin (.reg g1038_4) [18, 19, 20, 21, 22, 23] []) (.seq (.fin (.reg g1038_5) [24, 25, 26, 27, 28, 29, 30] []) (.cond (.s 31) (.fin (.reg g1038_6) [11, 31, 32, 33] []) (.fin (.reg g1038_7) [11, 31, 34] [])))))
def i1038_1 : CW := .loop i1038_0
def i1038_2 : CW := .blk 0 i1038_1
def g1038_8 : LS := [mvo 35 9,
 mvo 36 9,
 mvo 37 8,
 bno 38 .lss 36 37,
 o2 39 (mvS 38),
 o3 40 39 true (mvS 2),
 o3 41 39 true (mvS 0),
 o3 42 39 true (mvS 9),
 o3 43 39 true (ixS 2 41 42),
 o3 44 39 true (.loade 2 true 43),
 o3 45 39 true (mvS 1),
 o3 46 39 true (.callv (.s 40) 44 44 [(false, .s 44), (false, .s 45)] [] []),
 o3 47 39 true (.bin .eql (.s 46) (.k (.sc (.int .i64 0)))),
 o1 48 (.pick (.s 39) (.s 47) (.k (.sc (.bool false)))),
 mvo 6 35,
 mvo 7 48]
def i1038_3 : CW := .seq (.fin (.reg g1038_8) [0, 1, 2, 8, 9, 35, 36, 37, 38, 39, 40, 41, 42, 43, 44, 45, 46, 47, 48] []) (.ret)
def i1038_4 : CW := .seq i1038_2 i1038_3
def g1038_0 : LS := [o1 6 (.mv false (.k (.sc (.int .i64 0)))),
 o1 7 (.mv false (.k (.sc (.bool false))))]
def g1038_1 : LS := [mvo 12 0,
 lno 13 12,
 mvo 8 13]
def g1038_2 : LS := [mvo 14 8,
 o1 9 (.mv false (.k (.sc (.int .i64 0)))),
 mvo 10 14]
def i1038_5 : CW := .seq (.fin (.reg g1038_0) [6, 7] []) (.seq (.fin (.reg g1038_1) [12, 13] []) (.seq (.fin (.reg g1038_2) [14] []) i1038_4))
def fn1038 : IFn2 RW := ⟨43, 3, 49, 64, [], [], [], [.slot 6, .slot 7], i1038_5⟩
end
/-! slices.Clone[[]tideway/api.Piece,tideway/api.Piece] -/
section
variable (cp : CP) (n : Nat) (k : KX R)
def g1040_0 : List IStep := [⟨(some 2), .unew (.un none 2 0 (fun _ => [.sc (.int .i64 0), .row false 1 0 (fun _ => [.sc (.int .u8 0)])])), none, false⟩]
def g1040_1 : List IStep := [⟨(some 3), .mv false (.s 0), none, false⟩,
 ⟨(some 4), .nilq false (.s 3), none, false⟩]
def g1040_2 : List IStep := [⟨(some 2), .unew (.un none 2 0 (fun _ => [.sc (.int .i64 0), .row false 1 0 (fun _ => [.sc (.int .u8 0)])])), none, false⟩]
def g1040_3 : List IStep := [⟨(some 5), .bslice 2 0 [.sc (.int .i64 0), .row false 1 0 (fun _ => [.sc (.int .u8 0)])] [], none, false⟩,
 ⟨(some 6), .mv false (.s 0), none, false⟩,
 ⟨(some 7), .uapp 2 32 (.s 5) (.s 6), none, false⟩,
 ⟨(some 2), .mv true (.s 7), none, false⟩]
def fn1040 : IFn := ⟨46, 1, 8, 8, [], [], [], [.slot 2],
  .seq (.fin (.reg g1040_0) [2] []) (.seq (.seq (.fin (.reg g1040_1) [3] []) (.fin (.cond (.s 4) (.seq (.fin (.reg g1040_2) [0, 4] []) (.ret)) (.skip)) [4] [])) (.seq (.fin (.reg g1040_3) [0, 5, 6, 7] []) (.ret)))⟩

def fn45 : IFn := ⟨45, 3, 95, 3, [], [], [], [], .plug 2 32⟩
def g47_0 : LS := [o1 2 (.mv true (.k (.row true (.ruint8 []))))]
def g47_1 : LS := [mvo 3 0,
 mvo 4 0,
 lno 5 4,
 mvo 6 0,
 lno 7 6,
 o1 8 (.slice 1 (.s 3) none (some (.s 5)) (some (.s 7))),
 o1 2 (.mv true (.s 8))]
def i47_0 : CW := .seq (.fin (.reg g47_0) [2] []) (.seq (.fin (.reg g47_1) [0, 3, 4, 5, 6, 7, 8] []) (.ret))
def fn47 : IFn2 RW := ⟨47, 1, 9, 16, [], [], [], [.slot 2], i47_0⟩
def g33_5 : LS := [bno 32 .lss 31 30]
def g33_6 : LS := [ixo 33 2 29 31,
 o1 34 (.loade 2 true 33),
 o1 9 (.alloc 75 [.sc (.int .i64 0), .row false (.ruint8 [])]),
 o0 (.store 75 0 2 false 9 (.s 34))]
def g33_7 : LS := [o1 35 (.ualias (.s 7)),
 lno 36 35,
 mvo 10 36]
def g33_8 : LS := [mvo 37 10,
 o1 38 (.bin .gtr (.s 37) (.k (.sc (.int .i64 0)))),
 o2 39 (mvS 38),
 o3 40 39 true (.ualias (.s 7)),
 o3 41 39 true (mvS 10),
 o3 42 39 true (.bin .sub (.s 41) (.k (.sc (.int .i64 1)))),
 o3 43 39 true (.uidx 2 (.s 40) (.s 42)),
 o3 44 39 true (.uload 7 2 true 43),
 o3 45 39 true (.call 42 [(false, .s 44)] [] []),
 o3 46 39 true (.fieldv 1 1 false (.s 45)),
 o3 47 39 true (fdS 0 9),
 o3 48 39 true (ldS 75 0 47),
 o3 49 39 true (bnS .eql 46 48),
 o1 50 (.pick (.s 39) (.s 49) (.k (.sc (.bool false))))]
def g33_9 : LS := [o1 51 (.ualias (.s 7)),
 mvo 52 10,
 o1 53 (.bin .sub (.s 52) (.k (.sc (.int .i64 1)))),
 o1 54 (.ualias (.s 7)),
 mvo 55 10,
 o1 56 (.bin .sub (.s 55) (.k (.sc (.int .i64 1)))),
 o1 57 (.uidx 2 (.s 54) (.s 56)),
 fdo 58 1 57,
 o1 59 (.uload 7 1 false 58),
 o1 60 (.call 47 [(false, .s 59)] [] []),
 fdo 61 1 9,
 ldo 62 75 1 61,
 o1 63 (.app 1 1 true (.s 60) (.s 62)),
 o1 64 (.uidx 2 (.s 51) (.s 53)),
 fdo 65 1 64,
 o0 (.ustore 7 1 65 (.s 63))]
def g33_10 : LS := [o1 66 (.mv true (.s 7)),
 o1 67 (.load 75 0 2 true false 9),
 o1 68 (.bslice 45 1 [(0, 2, .s 67)]),
 o1 69 (.uapp 2 32 (.s 66) (.s 68)),
 o1 7 (.mv true (.s 69))]
def g33_11 : LS := [o1 70 (.bin .add (.s 31) (.k (.sc (.int .i64 1)))),
 mvo 31 70]
def i33_0 : CW := .seq (.reg g33_5) (.seq (.fin (.cond (.s 32) (.skip) (.clr [29, 30, 31, 32] [] (.exit 0))) [32] []) (.seq (.blk 1 (.seq (.fin (.reg g33_6) [33, 34] []) (.seq (.seq (.brw 7 (.fin (.reg g33_7) [35, 36] [])) (.seq (.brw 7 (.fin (.reg g33_8) [37, 38, 39, 40, 41, 42, 43, 44, 45, 46, 47, 48, 49] [])) (.fin (.cond (.s 50) (.seq (.brw 7 (.fin (.reg g33_9) [9, 10, 50, 51, 52, 53, 54, 55, 56, 57, 58, 59, 60, 61, 62, 63, 64, 65] [(75, 2)])) (.exit 1)) (.skip)) [10, 50] []))) (.fin (.reg g33_10) [9, 66, 67, 68, 69] [(75, 2)])))) (.fin (.reg g33_11) [70] [])))
def i33_1 : CW := .loop i33_0
def i33_2 : CW := .blk 0 i33_1
def g33_4 : LS := [mvo 29 0,
 lno 30 29,
 o1 31 (.mv false (.k (.sc (.int .i64 0))))]
def i33_3 : CW := .seq (.fin (.reg g33_4) [0] []) i33_2
def g33_12 : LS := [o1 71 (.mv true (.s 7)),
 o1 4 (.ufrz (.s 71))]
def i33_4 : CW := .seq (.fin (.reg g33_12) [7, 71] []) (.ret)
def i33_5 : CW := .seq i33_3 i33_4
def g33_0 : LS := [o1 3 (.box 72 2 false (.s 1)),
 o1 4 (.mv true (.k (.row true (.rPiece []))))]
def g33_1 : LS := [mvo 12 0,
 fdo 13 0 3,
 ldo 14 72 0 13,
 o1 15 (.call 1038 [(false, .s 12), (false, .s 14), (false, .k (.clo 44 []))] [] []),
 mvo 11 15,
 o1 16 (.ext false 0 (.s 11)),
 o1 17 (.ext false 1 (.s 11)),
 mvo 5 16,
 mvo 6 17]
def g33_2 : LS := [mvo 18 0,
 o1 19 (.call 1040 [(false, .s 18)] [] []),
 mvo 20 5,
 fdo 21 0 3,
 ldo 22 72 0 21,
 fdo 23 1 3,
 ldo 24 72 1 23,
 o1 25 (.call 28 [(false, .s 24)] [] []),
 o1 26 (.build [.sc (.int .i64 0), .row false (.ruint8 [])] [(0, 1, .s 22), (1, 1, .s 25)]),
 o1 27 (.bslice 45 1 [(0, 2, .s 26)]),
 o1 28 (.call 45 [(true, .s 19), (false, .s 20), (false, .s 27)] [] []),
 o1 0 (.ufrz (.s 28))]
def g33_3 : LS := [o1 7 (.unew (.un none (.rPiece [])))]
def i33_6 : CW := .seq (.fin (.reg g33_0) [1, 4] []) (.seq (.fin (.reg g33_1) [6, 11, 12, 13, 14, 15, 16, 17] []) (.seq (.fin (.reg g33_2) [3, 5, 18, 19, 20, 21, 22, 23, 24, 25, 26, 27, 28] [(72, 2)]) (.seq (.reg g33_3) (.seq (.skip) i33_5))))
def fn33 : IFn2 RW := ⟨33, 2, 72, 80, [(72, 2), (75, 2)], [], [], [.slot 4], i33_6⟩
def g1036_0 : LS := [o1 5 (.box 45 2 false (.s 0))]
def g1036_1 : LS := [o0 (.store 43 0 1 false 1 (.k (.sc (.bool true))))]
def g1036_2 : LS := [fdo 6 2 2,
 ldo 7 23 2 6,
 fdo 8 0 5,
 ldo 9 45 0 8,
 ldo 10 41 0 3,
 fdo 11 0 5,
 ldo 12 45 0 11,
 ldo 13 39 0 4,
 bno 14 .sub 12 13,
 fdo 15 1 5,
 ldo 16 45 1 15,
 ldo 17 39 0 4,
 bno 18 .sub 16 17,
 o1 19 (.slice 1 (.s 10) (some (.s 14)) (some (.s 18)) none),
 o1 20 (.build [.sc (.int .i64 0), .row false (.ruint8 [])] [(0, 1, .s 9), (1, 1, .s 19)]),
 o1 21 (.call 33 [(false, .s 7), (false, .s 20)] [] []),
 fdo 22 2 2,
 o0 (.store 23 2 1 true 22 (.s 21))]
def i1036_0 : CW := .seq (.fin (.reg g1036_0) [0] []) (.seq (.fin (.reg g1036_1) [1] []) (.fin (.reg g1036_2) [2, 3, 4, 5, 6, 7, 8, 9, 10, 11, 12, 13, 14, 15, 16, 17, 18, 19, 20, 21, 22] [(45, 2)]))
def fn1036 : IFn2 RW := ⟨32, 5, 23, 48, [(23, 15), (39, 1), (41, 1), (43, 1), (45, 2)], [(23, 15), (39, 1), (41, 1), (43, 1)], [], [], i1036_0⟩
def g16_6 : LS := [o1 10 (.alloc 150 [.sc (.int .i64 0), .sc (.int .i64 0)]),
 o0 (.store 150 0 2 false 10 (.s 32))]
def i16_0 : CW := .fin (.reg g16_6) [32] []
def g16_7 : LS := [o1 33 (.load 148 0 1 false true 9),
 o1 34 (.load 150 0 2 true false 10),
 o1 35 (.bslice 51 1 [(0, 2, .s 34)]),
 o1 36 (.app 2 16 true (.s 33) (.s 35)),
 o0 (.store 148 0 1 true 9 (.s 36))]
def i16_1 : CW := .blk 1 (.fin (.reg g16_7) [10, 33, 34, 35, 36] [(150, 2)])
def i16_2 : CW := .seq (.fin (.reg g16_6) [32] []) (.blk 1 (.fin (.reg g16_7) [10, 33, 34, 35, 36] [(150, 2)]))
def g16_1000 : LS := [fdo 5 2 1,
 ldo 6 158 2 5,
 lno 7 6,
 o1 8 (.mv false (.k (.sc (.int .i64 0))))]
def g16_1001 : LS := [bno 9 .lss 8 7]
def g16_1002 : LS := [ixo 10 2 6 8,
 o1 11 (.loade 2 true 10),
 o1 4 (.alloc 174 [.sc (.int .i64 0), .row false (.ruint8 [])]),
 o0 (.store 174 0 2 false 4 (.s 11))]
def g16_10031 : LS := [mvo 12 0,
 o1 13 (.load 174 0 2 true false 4),
 o1 14 (.call 42 [(false, .s 13)] [] [])]
def g16_10032 : LS := [nto 16 15]
def g16_1004 : LS := [o1 17 (.bin .add (.s 8) (.k (.sc (.int .i64 1)))),
 mvo 8 17]
def i16_3 : CW := .seq (.fin (.reg g16_1000) [1, 5] []) (.blk 0 (.loop (.seq (.reg g16_1001) (.seq (.fin (.cond (.s 9) (.skip) (.clr [0, 6, 7, 8, 9] [] (.exit 0))) [9] []) (.seq (.blk 1 (.seq (.fin (.reg g16_1002) [10, 11] []) (.seq (.fin (.yreg g16_10031 (.s 12) [.s 14] none 15 g16_10032) [4, 12, 13, 14, 15] [(174, 2)]) (.fin (.cond (.s 16) (.clr [0, 6, 7, 8, 16] [] (.ret)) (.skip)) [16] [])))) (.fin (.reg g16_1004) [17] []))))))
def i16_4 : CW := .fin (.yreg g16_10031 (.s 12) [.s 14] none 15 g16_10032) [4, 12, 13, 14, 15] [(174, 2)]
def i16_5 : CW := .fin (.cond (.s 16) (.clr [0, 6, 7, 8, 16] [] (.ret)) (.skip)) [16] []
def i16_6 : CW := .seq i16_4 i16_5
def i16_7 : CW := .seq (.fin (.reg g16_1002) [10, 11] []) i16_6
def i16_8 : CW := .blk 1 i16_7
def i16_9 : CW := .fin (.reg g16_1004) [17] []
def i16_10 : CW := .seq i16_8 i16_9
def i16_11 : CW := .seq (.reg g16_1001) (.seq (.fin (.cond (.s 9) (.skip) (.clr [0, 6, 7, 8, 9] [] (.exit 0))) [9] []) i16_10)
def i16_12 : CW := .loop i16_11
def i16_13 : CW := .blk 0 i16_12
def i16_14 : CW := .fin (.rfn (.s 31) 41 7 18 [32] i16_3 i16_0 i16_1 [112, 128, 130, 132, 148, 158] [112, 128, 130, 132, 148, 158, 174]) [31] [(158, 15)]
def i16_15 : CW := .blk 0 i16_14
def g16_5 : LS := [o1 30 (.load 112 0 15 true false 3),
 o1 31 (.call 30 [(false, .s 30)] [] [(4, 15, 158)])]
def i16_16 : CW := .seq (.fin (.reg g16_5) [30] []) i16_15
def g16_13 : LS := [bno 52 .lss 51 50]
def g16_14 : LS := [ixo 53 2 49 51,
 o1 54 (.loade 2 true 53),
 o1 15 (.alloc 155 [.sc (.int .i64 0), .sc (.int .i64 0)]),
 o0 (.store 155 0 2 false 15 (.s 54))]
def g16_15 : LS := [mvo 55 12,
 o1 56 (.load 155 0 2 true false 15),
 o1 57 (.callv (.s 55) 32 1036 [(false, .s 56)] [(112, 15, 23), (128, 1, 39), (130, 1, 41), (153, 1, 43)] [])]
def g16_16 : LS := [o1 58 (.bin .add (.s 51) (.k (.sc (.int .i64 1)))),
 mvo 51 58]
def i16_17 : CW := .seq (.reg g16_13) (.seq (.fin (.cond (.s 52) (.skip) (.clr [12, 49, 50, 51, 52] [(128, 1), (130, 1)] (.exit 2))) [52] []) (.seq (.blk 3 (.seq (.fin (.reg g16_14) [53, 54] []) (.fin (.reg g16_15) [15, 55, 56, 57] [(155, 2)]))) (.fin (.reg g16_16) [58] [])))
def i16_18 : CW := .loop i16_17
def i16_19 : CW := .blk 2 i16_18
def g16_12 : LS := [ldo 45 148 0 9,
 mvo 46 13,
 mvo 47 8,
 o1 48 (.build [.sc (.int .i64 0), .sc (.int .i64 0)] [(0, 1, .s 46), (1, 1, .s 47)]),
 o1 49 (.call 34 [(false, .s 45), (false, .s 48)] [] []),
 lno 50 49,
 o1 51 (.mv false (.k (.sc (.int .i64 0))))]
def i16_20 : CW := .seq (.fin (.reg g16_12) [8, 9, 13, 44, 45, 46, 47, 48] [(148, 1)]) i16_19
def i16_21 : CW := .skip
def i16_22 : CW := .fin (.cond (.s 44) i16_20 i16_21) [8, 9, 12, 13, 44] [(128, 1), (130, 1), (148, 1)]
def g16_10 : LS := [ldo 38 128 0 4,
 fdo 39 0 3,
 ldo 40 112 0 39,
 o1 41 (.mnmx true [.s 38, .s 40]),
 mvo 13 41]
def g16_11 : LS := [mvo 42 13,
 mvo 43 8,
 bno 44 .lss 42 43]
def i16_23 : CW := .seq (.fin (.reg g16_10) [4, 38, 39, 40, 41] []) (.seq (.fin (.reg g16_11) [42, 43] []) i16_22)
def g16_17 : LS := [fdo 59 2 3,
 ldo 60 112 2 59,
 lno 61 60,
 o1 62 (.bin .gtr (.s 61) (.k (.sc (.int .i64 0)))),
 o2 63 (mvS 62),
 o3 64 63 true (fdS 2 3),
 o3 65 63 true (ldS 112 2 64),
 o3 66 63 true (.idx 2 (.s 65) (.k (.sc (.int .i64 0)))),
 o3 67 63 true (fdS 0 66),
 o3 68 63 true (.loade 1 false 67),
 o3 69 63 true (fdS 0 3),
 o3 70 63 true (ldS 112 0 69),
 o3 71 63 true (bnS .eql 68 70),
 o1 72 (.pick (.s 63) (.s 71) (.k (.sc (.bool false))))]
def g16_18 : LS := [fdo 73 1 3,
 o1 74 (.load 112 1 1 false true 73),
 fdo 75 2 3,
 ldo 76 112 2 75,
 o1 77 (.idx 2 (.s 76) (.k (.sc (.int .i64 0)))),
 fdo 78 1 77,
 o1 79 (.loade 1 false 78),
 o1 80 (.app 1 1 true (.s 74) (.s 79)),
 fdo 81 1 3,
 o0 (.store 112 1 1 true 81 (.s 80))]
def g16_19 : LS := [fdo 82 0 3,
 ldo 83 112 0 82,
 fdo 84 2 3,
 ldo 85 112 2 84,
 o1 86 (.idx 2 (.s 85) (.k (.sc (.int .i64 0)))),
 fdo 87 1 86,
 o1 88 (.loade 1 false 87),
 lno 89 88,
 bno 90 .add 83 89,
 fdo 91 0 3,
 o0 (.store 112 0 1 false 91 (.s 90))]
def g16_20 : LS := [fdo 92 2 3,
 ldo 93 112 2 92,
 o1 94 (.slice 2 (.s 93) (some (.k (.sc (.int .i64 1)))) none none),
 fdo 95 2 3,
 o0 (.store 112 2 1 true 95 (.s 94))]
def i16_24 : CW := .seq (.seq (.fin (.reg g16_17) [59, 60, 61, 62, 63, 64, 65, 66, 67, 68, 69, 70, 71] []) (.fin (.cond (.s 72) i16_21 (.clr [72] [] (.exit 4))) [72] [])) (.blk 5 (.seq (.fin (.reg g16_18) [73, 74, 75, 76, 77, 78, 79, 80, 81] []) (.seq (.fin (.reg g16_19) [82, 83, 84, 85, 86, 87, 88, 89, 90, 91] []) (.fin (.reg g16_20) [92, 93, 94, 95] []))))
def i16_25 : CW := .loop i16_24
def i16_26 : CW := .wk [115] i16_25
def i16_27 : CW := .blk 4 i16_26
def g16_21 : LS := [o1 96 (.load 112 0 15 true true 3),
 ldo 97 153 0 11,
 o0 (.store 132 0 15 true 6 (.s 96)),
 mvo 7 97]
def i16_28 : CW := .seq (.fin (.reg g16_21) [3, 11, 96, 97] [(112, 15), (153, 1)]) (.ret)
def i16_29 : CW := .seq i16_27 i16_28
def i16_30 : CW := .seq i16_23 i16_29
def g16_8 : LS := [o1 11 (.alloc 153 [.sc (.bool false)]),
 o0 (.store 153 0 1 false 11 (.k (.sc (.bool false))))]
def g16_9 : LS := [o1 37 (.mkclo 32 [.s 11, .s 3, .s 5, .s 4]),
 mvo 12 37]
def i16_31 : CW := .seq (.reg g16_8) (.seq (.fin (.reg g16_9) [5, 37] []) i16_30)
def i16_32 : CW := .seq i16_16 i16_31
def g16_0 : LS := [o1 3 (.box 112 15 true (.s 0)),
 o1 4 (.box 128 1 false (.s 1)),
 o1 5 (.box 130 1 false (.s 2)),
 o1 6 (.alloc 132 [.sc (.int .i64 0), .row true (.ruint8 []), .row true (.rPiece []), .sc (.int .i64 0), .sc (.int .i64 0), .sc (.int .i64 0), .sc (.int .u32 0), .sc (.bool false), .sc (.bool false), .sc (.int .i64 0), .sc (.bool false), .row true (.rSpan []), .sc (.int .u32 0), .sc (.int .u32 0), .sc (.bool false)]),
 o1 7 (.mv false (.k (.sc (.bool false))))]
def g16_1 : LS := [ldo 16 128 0 4,
 ldo 17 130 0 5,
 lno 18 17,
 bno 19 .add 16 18,
 o1 20 (.load 112 0 15 true false 3),
 o1 21 (.call 31 [(false, .s 20)] [] []),
 o1 22 (.mnmx false [.s 19, .s 21]),
 mvo 8 22]
def g16_2 : LS := [fdo 23 9 3,
 ldo 24 112 9 23,
 o1 25 (.bin .geq (.s 24) (.k (.sc (.int .i64 0))))]
def g16_3 : LS := [mvo 26 8,
 fdo 27 9 3,
 ldo 28 112 9 27,
 o1 29 (.mnmx false [.s 26, .s 28]),
 mvo 8 29]
def g16_4 : LS := [o1 9 (.alloc 148 [.row true (.rSpan [])])]
def i16_33 : CW := .seq (.fin (.reg g16_0) [0, 1, 2, 7] []) (.seq (.fin (.reg g16_1) [16, 17, 18, 19, 20, 21, 22] []) (.seq (.seq (.fin (.reg g16_2) [23, 24] []) (.fin (.cond (.s 25) (.fin (.reg g16_3) [25, 26, 27, 28, 29] []) i16_21) [25] [])) (.seq (.reg g16_4) i16_32)))
def fn16 : IFn2 RW := ⟨16, 3, 98, 192, [(112, 15), (128, 1), (130, 1), (132, 15), (148, 1), (150, 2), (153, 1), (155, 2), (158, 15), (174, 2)], [], [], [.cell 6 132 15 true, .slot 7], i16_33⟩
def g1045_0 : LS := [o1 2 (.box 19 2 false (.s 0)),
 o1 3 (.mv false (.k (.sc (.bool false))))]
def g1045_1 : LS := [fdo 4 0 2,
 ldo 5 19 0 4,
 fdo 6 0 1,
 ldo 7 16 0 6,
 bno 8 .leq 5 7,
 o2 9 (mvS 8),
 o3 10 9 true (fdS 1 1),
 o3 11 9 true (ldS 16 1 10),
 o3 12 9 true (fdS 1 2),
 o3 13 9 true (ldS 19 1 12),
 o3 14 9 true (bnS .leq 11 13),
 o1 15 (.pick (.s 9) (.s 14) (.k (.sc (.bool false)))),
 mvo 3 15]
def i1045_0 : CW := .seq (.fin (.reg g1045_0) [0, 3] []) (.seq (.fin (.reg g1045_1) [1, 2, 4, 5, 6, 7, 8, 9, 10, 11, 12, 13, 14, 15] [(19, 2)]) (.ret))
def fn1045 : IFn2 RW := ⟨37, 2, 16, 32, [(16, 2), (19, 2)], [(16, 2)], [], [.slot 3], i1045_0⟩
def g1044_2 : LS := [bno 9 .lss 8 7]
def g1044_3 : LS := [mvo 10 8,
 mvo 5 10]
def g1044_4 : LS := [mvo 11 1,
 mvo 12 0,
 mvo 13 5,
 ixo 14 2 12 13,
 o1 15 (.loade 2 true 14),
 o1 16 (.callv (.s 11) 37 1045 [(false, .s 15)] [(19, 2, 16)] [])]
def g1044_5 : LS := [mvo 17 5,
 mvo 4 17]
def g1044_6 : LS := [o1 18 (.bin .add (.s 8) (.k (.sc (.int .i64 1)))),
 mvo 8 18]
def i1044_0 : CW := .seq (.reg g1044_2) (.seq (.fin (.cond (.s 9) (.skip) (.clr [0, 1, 7, 8, 9] [] (.exit 0))) [9] []) (.seq (.blk 1 (.seq (.fin (.reg g1044_3) [10] []) (.seq (.fin (.reg g1044_4) [11, 12, 13, 14, 15] []) (.fin (.cond (.s 16) (.seq (.fin (.reg g1044_5) [0, 1, 5, 7, 8, 16, 17] []) (.ret)) (.skip)) [5, 16] [])))) (.fin (.reg g1044_6) [18] [])))
def i1044_1 : CW := .loop i1044_0
def i1044_2 : CW := .blk 0 i1044_1
def g1044_1 : LS := [mvo 6 0,
 lno 7 6,
 o1 8 (.mv false (.k (.sc (.int .i64 0))))]
def i1044_3 : CW := .seq (.fin (.reg g1044_1) [6] []) i1044_2
def g1044_7 : LS := [o1 4 (.mv false (.k (.sc (.int .i64 (-1)))))]
def i1044_4 : CW := .seq (.reg g1044_7) (.ret)
def i1044_5 : CW := .seq i1044_3 i1044_4
def g1044_0 : LS := [o1 4 (.mv false (.k (.sc (.int .i64 0))))]
def i1044_6 : CW := .seq (.fin (.reg g1044_0) [4] []) i1044_5
def fn1044 : IFn2 RW := ⟨36, 2, 19, 32, [(19, 2)], [(19, 2)], [], [.slot 4], i1044_6⟩
def g17_4 : LS := [mvo 22 9,
 o1 23 (.bin .geq (.s 22) (.k (.sc (.int .i64 0))))]
def g17_6 : LS := [mvo 26 7,
 mvo 27 9,
 ixo 28 2 26 27,
 fdo 29 0 28,
 o1 30 (.loade 1 false 29),
 mvo 31 1,
 mvo 32 2,
 lno 33 32,
 bno 34 .add 31 33,
 bno 35 .lss 30 34,
 o2 36 (mvS 35),
 o3 37 36 true (mvS 7),
 o3 38 36 true (mvS 9),
 o3 39 36 true (ixS 2 37 38),
 o3 40 36 true (fdS 1 39),
 o3 41 36 true (.loade 1 false 40),
 o3 42 36 true (mvS 1),
 o3 43 36 true (bnS .gtr 41 42),
 o1 44 (.pick (.s 36) (.s 43) (.k (.sc (.bool false)))),
 o2 45 (mvS 44),
 o3 46 45 true (mvS 2),
 o3 47 45 true (lnS 46),
 o3 48 45 true (.bin .gtr (.s 47) (.k (.sc (.int .i64 0)))),
 o1 49 (.pick (.s 45) (.s 48) (.k (.sc (.bool false))))]
def g17_7 : LS := [mvo 50 7,
 mvo 51 9,
 ixo 52 2 50 51,
 o1 53 (.loade 2 true 52),
 o1 54 (.bslice 51 1 [(0, 2, .s 53)]),
 mvo 55 8,
 o1 56 (.app 2 16 true (.s 54) (.s 55)),
 mvo 8 56]
def g17_5 : LS := [mvo 24 9,
 o1 25 (.bin .sub (.s 24) (.k (.sc (.int .i64 1)))),
 mvo 9 25]
def i17_0 : CW := .seq (.seq (.fin (.reg g17_4) [22] []) (.fin (.cond (.s 23) (.skip) (.clr [1, 2, 9, 23] [] (.exit 0))) [23] [])) (.seq (.blk 1 (.seq (.fin (.reg g17_6) [26, 27, 28, 29, 30, 31, 32, 33, 34, 35, 36, 37, 38, 39, 40, 41, 42, 43, 44, 45, 46, 47, 48] []) (.fin (.cond (.s 49) (.seq (.fin (.reg g17_7) [1, 2, 9, 49, 50, 51, 52, 53, 54, 55, 56] []) (.exit 0)) (.skip)) [49] []))) (.fin (.reg g17_5) [24, 25] []))
def i17_1 : CW := .loop i17_0
def i17_2 : CW := .blk 0 i17_1
def g17_3 : LS := [mvo 19 7,
 lno 20 19,
 o1 21 (.bin .sub (.s 20) (.k (.sc (.int .i64 1)))),
 mvo 9 21]
def i17_3 : CW := .seq (.fin (.reg g17_3) [19, 20, 21] []) i17_2
def g17_10 : LS := [bno 60 .lss 59 58]
def g17_11 : LS := [ixo 61 2 57 59,
 o1 62 (.loade 2 true 61),
 o1 12 (.alloc 102 [.sc (.int .i64 0), .sc (.int .i64 0)]),
 o0 (.store 102 0 2 false 12 (.s 62))]
def g17_12 : LS := [mvo 63 7,
 o1 64 (.mkclo 37 [.s 12]),
 o1 65 (.call 1044 [(false, .s 63), (false, .s 64)] [(102, 2, 19)] []),
 mvo 13 65]
def g17_13 : LS := [mvo 66 13,
 o1 67 (.bin .geq (.s 66) (.k (.sc (.int .i64 0)))),
 o2 68 (mvS 67),
 o3 69 68 true (mvS 10),
 o3 70 68 true (mvS 7),
 o3 71 68 true (mvS 13),
 o3 72 68 true (ixS 2 70 71),
 o3 73 68 true (.loade 2 true 72),
 o3 74 68 true (.call 38 [(false, .s 69), (false, .s 73)] [] []),
 o3 75 68 true (ntS 74),
 o1 76 (.pick (.s 68) (.s 75) (.k (.sc (.bool false))))]
def g17_14 : LS := [o1 77 (.mv true (.s 10)),
 mvo 78 7,
 mvo 79 13,
 ixo 80 2 78 79,
 o1 81 (.loade 2 true 80),
 o1 82 (.bslice 51 1 [(0, 2, .s 81)]),
 o1 83 (.app 2 16 true (.s 77) (.s 82)),
 o1 10 (.mv true (.s 83))]
def g17_15 : LS := [o1 84 (.bin .add (.s 59) (.k (.sc (.int .i64 1)))),
 mvo 59 84]
def i17_4 : CW := .seq (.reg g17_10) (.seq (.fin (.cond (.s 60) (.skip) (.clr [7, 57, 58, 59, 60] [] (.exit 2))) [60] []) (.seq (.blk 3 (.seq (.fin (.reg g17_11) [61, 62] []) (.seq (.fin (.reg g17_12) [12, 63, 64, 65] [(102, 2)]) (.seq (.fin (.reg g17_13) [66, 67, 68, 69, 70, 71, 72, 73, 74, 75] []) (.fin (.cond (.s 76) (.fin (.reg g17_14) [13, 76, 77, 78, 79, 80, 81, 82, 83] []) (.skip)) [13, 76] []))))) (.fin (.reg g17_15) [84] [])))
def i17_5 : CW := .loop i17_4
def i17_6 : CW := .blk 2 i17_5
def g17_9 : LS := [mvo 57 8,
 lno 58 57,
 o1 59 (.mv false (.k (.sc (.int .i64 0))))]
def i17_7 : CW := .seq (.fin (.reg g17_9) [8] []) i17_6
def g17_16 : LS := [o1 85 (.mv true (.s 10)),
 o1 6 (.mv true (.s 85))]
def i17_8 : CW := .seq (.fin (.reg g17_16) [10, 85] []) (.ret)
def i17_9 : CW := .seq i17_7 i17_8
def g17_8 : LS := [o1 10 (.mv true (.k (.row true (.rSpan []))))]
def i17_10 : CW := .seq (.reg g17_8) i17_9
def i17_11 : CW := .seq i17_3 i17_10
def g17_0 : LS := [o1 3 (.box 86 15 false (.s 0)),
 o1 6 (.mv true (.k (.row true (.rSpan []))))]
def g17_1 : LS := [o1 14 (.load 86 0 15 true false 3),
 o1 15 (.call 30 [(false, .s 14)] [] [(4, 15, 105)]),
 o1 16 (.call 1023 [(false, .s 15)] [(105, 15, 5)] []),
 mvo 7 16]
def g17_2 : LS := [fdo 17 11 3,
 ldo 18 86 11 17,
 mvo 8 18]
def i17_12 : CW := .seq (.fin (.reg g17_0) [0, 6] []) (.seq (.fin (.reg g17_1) [14, 15, 16] [(105, 15)]) (.seq (.fin (.reg g17_2) [3, 17, 18] [(86, 15)]) i17_11))
def fn17 : IFn2 RW := ⟨17, 3, 86, 128, [(86, 15), (102, 2), (105, 15)], [], [], [.slot 6], i17_12⟩
def g6_21 : LS := [o1 133 (.load 140 0 15 true false 2),
 o1 134 (.mv true (.s 13)),
 o1 135 (.call 14 [(false, .s 133), (true, .s 134)] [] []),
 o1 132 (.mv true (.s 135)),
 o1 136 (.ext true 0 (.s 132)),
 o1 137 (.ext false 1 (.s 132)),
 o1 14 (.alloc 236 [.sc (.int .i64 0), .sc (.int .i64 0), .sc (.int .u32 0), .sc (.int .u32 0), .sc (.int .i64 0), .sc (.int .i64 0), .sc (.int .i64 0), .sc (.int .i64 0), .sc (.int .i64 0), .sc (.bool false), .sc (.bool false), .sc (.int .u32 0), .sc (.int .u32 0), .row false (.rBlock []), .row false (.ruint8 [])]),
 o0 (.store 140 0 15 true 2 (.s 136)),
 o0 (.store 236 0 15 false 14 (.s 137))]
def g6_22 : LS := [o1 138 (.load 140 0 15 true false 2),
 o1 139 (.load 236 0 15 true false 14),
 o0 (.store 172 0 15 false 4 (.s 138)),
 o0 (.store 188 0 15 false 5 (.s 139)),
 o1 6 (.mv false (.k (.sc (.bool true)))),
 o1 7 (.mv false (.k (.sc (.int .i64 0))))]
def i6_0 : CW := .seq (.fin (.reg g6_21) [13, 132, 133, 134, 135, 136, 137] []) (.seq (.fin (.reg g6_22) [2, 14, 138, 139] [(140, 15), (236, 15)]) (.wk [6, 7] (.ret)))
def g6_19 : LS := [fdo 106 8 2,
 ldo 107 140 8 106,
 o2 108 (mvS 107),
 o3 109 108 true (fdS 14 3),
 o3 110 108 true (ldS 156 14 109),
 o3 111 108 true (lnS 110),
 o3 112 108 true (.bin .gtr (.s 111) (.k (.sc (.int .i64 0)))),
 o1 113 (.pick (.s 108) (.s 112) (.k (.sc (.bool false)))),
 o2 114 (mvS 113),
 o3 115 114 true (mvS 9),
 o3 116 114 true (.bin .geq (.s 115) (.k (.sc (.int .i64 0)))),
 o1 117 (.pick (.s 114) (.s 116) (.k (.sc (.bool false)))),
 o2 118 (mvS 117),
 o3 119 118 true (mvS 12),
 o3 120 118 true (ntS 119),
 o1 121 (.pick (.s 118) (.s 120) (.k (.sc (.bool false))))]
def g6_20 : LS := [fdo 122 2 3,
 ldo 123 156 2 122,
 fdo 124 2 3,
 ldo 125 156 2 124,
 fdo 126 14 3,
 ldo 127 156 14 126,
 lno 128 127,
 o1 129 (.call 18 [(false, .s 125), (false, .s 128)] [] []),
 o1 130 (.build [.sc (.int .u32 0), .sc (.int .u32 0)] [(0, 1, .s 123), (1, 1, .s 129)]),
 o1 131 (.bslice 49 1 [(0, 2, .s 130)]),
 o1 13 (.mv true (.s 131))]
def i6_1 : CW := .seq (.seq (.fin (.reg g6_19) [9, 12, 106, 107, 108, 109, 110, 111, 112, 113, 114, 115, 116, 117, 118, 119, 120] []) (.fin (.cond (.s 121) (.fin (.reg g6_20) [3, 121, 122, 123, 124, 125, 126, 127, 128, 129, 130, 131] [(156, 15)]) (.skip)) [3, 121] [(156, 15)])) i6_0
def g6_17 : LS := [o1 100 (.load 140 0 15 true false 2),
 mvo 101 9,
 fdo 102 14 3,
 ldo 103 156 14 102,
 o1 104 (.call 17 [(false, .s 100), (false, .s 101), (false, .s 103)] [] []),
 fdo 105 11 2,
 o0 (.store 140 11 1 true 105 (.s 104))]
def g6_18 : LS := [o1 13 (.mv true (.k (.row true (.rBlock []))))]
def i6_2 : CW := .seq (.fin (.reg g6_17) [100, 101, 102, 103, 104, 105] []) (.seq (.reg g6_18) i6_1)
def g6_13 : LS := [fdo 74 4 3,
 ldo 75 156 4 74,
 o1 76 (.bin .and (.s 75) (.k (.sc (.int .i64 1)))),
 o1 77 (.bin .gtr (.s 76) (.k (.sc (.int .i64 0))))]
def g6_14 : LS := [o1 78 (.load 140 0 15 true false 2),
 mvo 79 9,
 fdo 80 14 3,
 ldo 81 156 14 80,
 lno 82 81,
 bno 83 .add 79 82,
 o1 84 (.call 15 [(false, .s 78), (false, .s 83)] [] []),
 fdo 85 9 2,
 o0 (.store 140 9 1 false 85 (.s 84))]
def g6_15 : LS := [o1 87 (.load 140 0 15 true true 2),
 mvo 88 9,
 fdo 89 14 3,
 ldo 90 156 14 89,
 o1 91 (.call 16 [(true, .s 87), (false, .s 88), (false, .s 90)] [] []),
 o1 86 (.mv true (.s 91)),
 o1 92 (.ext true 0 (.s 86)),
 o1 93 (.ext false 1 (.s 86)),
 o0 (.store 140 0 15 true 2 (.s 92)),
 mvo 12 93]
def g6_16 : LS := [fdo 94 9 2,
 ldo 95 140 9 94,
 fdo 96 0 2,
 ldo 97 140 0 96,
 bno 98 .eql 95 97,
 fdo 99 10 2,
 o0 (.store 140 10 1 false 99 (.s 98))]
def i6_3 : CW := .seq (.seq (.fin (.reg g6_13) [74, 75, 76] []) (.fin (.cond (.s 77) (.fin (.reg g6_14) [77, 78, 79, 80, 81, 82, 83, 84, 85] []) (.skip)) [77] [])) (.seq (.fin (.reg g6_15) [86, 87, 88, 89, 90, 91, 92, 93] []) (.seq (.fin (.reg g6_16) [94, 95, 96, 97, 98, 99] []) i6_2))
def g6_11 : LS := [fdo 62 7 2,
 ldo 63 140 7 62,
 o2 64 (mvS 63),
 o3 65 64 true (mvS 9),
 o3 66 64 true (fdS 0 2),
 o3 67 64 true (ldS 140 0 66),
 o3 68 64 true (bnS .leq 65 67),
 o1 69 (.pick (.s 64) (.s 68) (.k (.sc (.bool false))))]
def g6_12 : LS := [fdo 70 11 3,
 ldo 71 156 11 70,
 fdo 72 6 2,
 o0 (.store 140 6 1 false 72 (.s 71)),
 fdo 73 14 2,
 o0 (.store 140 14 1 false 73 (.k (.sc (.bool true))))]
def i6_4 : CW := .seq (.seq (.fin (.reg g6_11) [62, 63, 64, 65, 66, 67, 68] []) (.fin (.cond (.s 69) (.fin (.reg g6_12) [69, 70, 71, 72, 73] []) (.skip)) [69] [])) i6_3
def g6_8 : LS := [fdo 41 7 2,
 ldo 42 140 7 41,
 o2 43 (mvS 42),
 o3 44 43 true (fdS 14 2),
 o3 45 43 true (ldS 140 14 44),
 o1 46 (.pick (.s 43) (.s 45) (.k (.sc (.bool false)))),
 o2 47 (mvS 46),
 o3 48 47 true (fdS 6 2),
 o3 49 47 true (ldS 140 6 48),
 o3 50 47 true (fdS 11 3),
 o3 51 47 true (ldS 156 11 50),
 o3 52 47 true (.call 13 [(false, .s 49), (false, .s 51)] [] []),
 o3 53 47 true (.bin .lss (.s 52) (.k (.sc (.int .i64 0)))),
 o1 54 (.pick (.s 47) (.s 53) (.k (.sc (.bool false))))]
def g6_9 : LS := [o1 56 (.load 140 0 15 true false 2),
 o1 57 (.call 14 [(false, .s 56), (true, .k (.row true (.rBlock [])))] [] []),
 mvo 55 57,
 o1 58 (.ext false 0 (.s 55)),
 o1 59 (.ext false 1 (.s 55)),
 o1 10 (.alloc 204 [.sc (.int .i64 0), .row false (.ruint8 []), .row false (.rPiece []), .sc (.int .i64 0), .sc (.int .i64 0), .sc (.int .i64 0), .sc (.int .u32 0), .sc (.bool false), .sc (.bool false), .sc (.int .i64 0), .sc (.bool false), .row false (.rSpan []), .sc (.int .u32 0), .sc (.int .u32 0), .sc (.bool false)]),
 o1 11 (.alloc 220 [.sc (.int .i64 0), .sc (.int .i64 0), .sc (.int .u32 0), .sc (.int .u32 0), .sc (.int .i64 0), .sc (.int .i64 0), .sc (.int .i64 0), .sc (.int .i64 0), .sc (.int .i64 0), .sc (.bool false), .sc (.bool false), .sc (.int .u32 0), .sc (.int .u32 0), .row false (.rBlock []), .row false (.ruint8 [])]),
 o0 (.store 204 0 15 false 10 (.s 58)),
 o0 (.store 220 0 15 false 11 (.s 59))]
def g6_10 : LS := [o1 60 (.load 204 0 15 true false 10),
 o1 61 (.load 220 0 15 true false 11),
 o0 (.store 172 0 15 false 4 (.s 60)),
 o0 (.store 188 0 15 false 5 (.s 61)),
 o1 6 (.mv false (.k (.sc (.bool true)))),
 o1 7 (.mv false (.k (.sc (.int .i64 0))))]
def i6_5 : CW := .seq (.seq (.fin (.reg g6_8) [41, 42, 43, 44, 45, 46, 47, 48, 49, 50, 51, 52, 53] []) (.fin (.cond (.s 54) (.seq (.fin (.reg g6_9) [2, 3, 9, 54, 55, 56, 57, 58, 59] [(140, 15), (156, 15)]) (.seq (.fin (.reg g6_10) [10, 11, 60, 61] [(204, 15), (220, 15)]) (.wk [6, 7] (.ret)))) (.skip)) [54] [])) i6_4
def g6_0 : LS := [o1 2 (.box 140 15 true (.s 0)),
 o1 3 (.box 156 15 false (.s 1)),
 o1 4 (.alloc 172 [.sc (.int .i64 0), .row false (.ruint8 []), .row false (.rPiece []), .sc (.int .i64 0), .sc (.int .i64 0), .sc (.int .i64 0), .sc (.int .u32 0), .sc (.bool false), .sc (.bool false), .sc (.int .i64 0), .sc (.bool false), .row false (.rSpan []), .sc (.int .u32 0), .sc (.int .u32 0), .sc (.bool false)]),
 o1 5 (.alloc 188 [.sc (.int .i64 0), .sc (.int .i64 0), .sc (.int .u32 0), .sc (.int .u32 0), .sc (.int .i64 0), .sc (.int .i64 0), .sc (.int .i64 0), .sc (.int .i64 0), .sc (.int .i64 0), .sc (.bool false), .sc (.bool false), .sc (.int .u32 0), .sc (.int .u32 0), .row false (.rBlock []), .row false (.ruint8 [])]),
 o1 6 (.mv false (.k (.sc (.bool false)))),
 o1 7 (.mv false (.k (.sc (.int .i64 0))))]
def g6_1 : LS := [o1 15 (.load 140 0 15 true false 2),
 o1 16 (.call 10 [(false, .s 15)] [] []),
 mvo 8 16]
def g6_2 : LS := [mvo 17 8,
 o1 18 (.bin .neq (.s 17) (.k (.sc (.int .i64 0))))]
def g6_3 : LS := [o1 19 (.build [.sc (.int .i64 0), .row false (.ruint8 []), .row false (.rPiece []), .sc (.int .i64 0), .sc (.int .i64 0), .sc (.int .i64 0), .sc (.int .u32 0), .sc (.bool false), .sc (.bool false), .sc (.int .i64 0), .sc (.bool false), .row false (.rSpan []), .sc (.int .u32 0), .sc (.int .u32 0), .sc (.bool false)] []),
 o1 20 (.build [.sc (.int .i64 0), .sc (.int .i64 0), .sc (.int .u32 0), .sc (.int .u32 0), .sc (.int .i64 0), .sc (.int .i64 0), .sc (.int .i64 0), .sc (.int .i64 0), .sc (.int .i64 0), .sc (.bool false), .sc (.bool false), .sc (.int .u32 0), .sc (.int .u32 0), .row false (.rBlock []), .row false (.ruint8 [])] []),
 mvo 21 8,
 o0 (.store 172 0 15 false 4 (.s 19)),
 o0 (.store 188 0 15 false 5 (.s 20)),
 o1 6 (.mv false (.k (.sc (.bool false)))),
 mvo 7 21]
def g6_4 : LS := [o1 22 (.load 140 0 15 true false 2),
 o1 23 (.call 11 [(false, .s 22)] [] []),
 o0 (.store 140 0 15 true 2 (.s 23))]
def g6_5 : LS := [fdo 24 7 2,
 ldo 25 140 7 24,
 o2 26 (mvS 25),
 o3 27 26 true (fdS 10 3),
 o3 28 26 true (ldS 156 10 27),
 o3 29 26 true (ntS 28),
 o1 30 (.pick (.s 26) (.s 29) (.k (.sc (.bool false))))]
def g6_6 : LS := [o1 31 (.load 140 0 15 true false 2),
 o1 32 (.build [.sc (.int .i64 0), .sc (.int .i64 0), .sc (.int .u32 0), .sc (.int .u32 0), .sc (.int .i64 0), .sc (.int .i64 0), .sc (.int .i64 0), .sc (.int .i64 0), .sc (.int .i64 0), .sc (.bool false), .sc (.bool false), .sc (.int .u32 0), .sc (.int .u32 0), .row false (.rBlock []), .row false (.ruint8 [])] []),
 o0 (.store 172 0 15 false 4 (.s 31)),
 o0 (.store 188 0 15 false 5 (.s 32)),
 o1 6 (.mv false (.k (.sc (.bool false)))),
 o1 7 (.mv false (.k (.sc (.int .i64 0))))]
def g6_7 : LS := [fdo 33 0 2,
 ldo 34 140 0 33,
 fdo 35 2 3,
 ldo 36 156 2 35,
 fdo 37 12 2,
 ldo 38 140 12 37,
 bno 39 .sub 36 38,
 o1 40 (.call 12 [(false, .s 34), (false, .s 39)] [] []),
 mvo 9 40]
def i6_6 : CW := .seq (.fin (.reg g6_0) [0, 1, 6, 7] []) (.seq (.seq (.fin (.reg g6_1) [15, 16] []) (.seq (.fin (.reg g6_2) [17] []) (.fin (.cond (.s 18) (.seq (.fin (.reg g6_3) [2, 3, 8, 18, 19, 20, 21] [(140, 15), (156, 15)]) (.wk [6, 7] (.ret))) (.skip)) [8, 18] []))) (.seq (.fin (.reg g6_4) [22, 23] []) (.seq (.seq (.fin (.reg g6_5) [24, 25, 26, 27, 28, 29] []) (.fin (.cond (.s 30) (.seq (.fin (.reg g6_6) [2, 3, 30, 31, 32] [(140, 15), (156, 15)]) (.wk [6, 7] (.ret))) (.skip)) [30] [])) (.seq (.fin (.reg g6_7) [33, 34, 35, 36, 37, 38, 39, 40] []) i6_5))))
def fn6 : IFn2 RW := ⟨6, 2, 140, 256, [(140, 15), (156, 15), (172, 15), (188, 15), (204, 15), (220, 15), (236, 15)], [], [], [.cell 4 172 15 true, .cell 5 188 15 true, .slot 6, .slot 7], i6_6⟩
def g8_5 : LS := [bno 12 .lss 11 10]
def g8_6 : LS := [ixo 13 2 9 11,
 o1 14 (.loade 2 true 13),
 o1 5 (.alloc 24 [.sc (.int .i64 0), .sc (.int .i64 0)]),
 o0 (.store 24 0 2 false 5 (.s 14))]
def g8_7 : LS := [mvo 15 3,
 fdo 16 1 5,
 ldo 17 24 1 16,
 fdo 18 0 5,
 ldo 19 24 0 18,
 bno 20 .sub 17 19,
 bno 21 .add 15 20,
 mvo 3 21]
def g8_8 : LS := [o1 22 (.bin .add (.s 11) (.k (.sc (.int .i64 1)))),
 mvo 11 22]
def i8_0 : CW := .seq (.reg g8_5) (.seq (.fin (.cond (.s 12) (.skip) (.clr [9, 10, 11, 12] [] (.exit 0))) [12] []) (.seq (.blk 1 (.seq (.fin (.reg g8_6) [13, 14] []) (.fin (.reg g8_7) [5, 15, 16, 17, 18, 19, 20, 21] [(24, 2)]))) (.fin (.reg g8_8) [22] [])))
def i8_1 : CW := .loop i8_0
def i8_2 : CW := .blk 0 i8_1
def g8_4 : LS := [mvo 9 0,
 lno 10 9,
 o1 11 (.mv false (.k (.sc (.int .i64 0))))]
def i8_3 : CW := .seq (.fin (.reg g8_4) [0] []) i8_2
def g8_9 : LS := [mvo 23 3,
 mvo 2 23]
def i8_4 : CW := .seq (.fin (.reg g8_9) [3, 23] []) (.ret)
def i8_5 : CW := .seq i8_3 i8_4
def g8_0 : LS := [o1 2 (.mv false (.k (.sc (.int .i64 0))))]
def g8_1 : LS := [mvo 6 0,
 o1 7 (.call 24 [(false, .s 6)] [] []),
 o1 8 (.bin .neq (.s 7) (.k (.sc (.int .i64 0))))]
def g8_2 : LS := [o1 2 (.mv false (.k (.sc (.int .i64 0))))]
def g8_3 : LS := [o1 3 (.mv false (.k (.sc (.int .i64 0))))]
def i8_6 : CW := .seq (.fin (.reg g8_0) [2] []) (.seq (.seq (.fin (.reg g8_1) [6, 7] []) (.fin (.cond (.s 8) (.seq (.fin (.reg g8_2) [0, 8] []) (.ret)) (.skip)) [8] [])) (.seq (.reg g8_3) i8_5))
def fn8 : IFn2 RW := ⟨8, 1, 24, 32, [(24, 2)], [], [], [.slot 2], i8_6⟩
def g3_21 : LS := [mvo 111 19,
 fdo 112 2 7,
 ldo 113 142 2 112,
 lno 114 113,
 bno 115 .lss 111 114]
def g3_23 : LS := [mvo 118 18,
 fdo 119 2 7,
 ldo 120 142 2 119,
 mvo 121 19,
 ixo 122 2 120 121,
 fdo 123 1 122,
 o1 124 (.loade 1 false 123),
 lno 125 124,
 bno 126 .add 118 125,
 mvo 18 126]
def g3_22 : LS := [mvo 116 19,
 o1 117 (.bin .add (.s 116) (.k (.sc (.int .i64 1)))),
 mvo 19 117]
def i3_0 : CW := .seq (.seq (.fin (.reg g3_21) [111, 112, 113, 114] []) (.fin (.cond (.s 115) (.skip) (.clr [19, 115] [] (.exit 2))) [115] [])) (.seq (.blk 3 (.fin (.reg g3_23) [118, 119, 120, 121, 122, 123, 124, 125, 126] [])) (.fin (.reg g3_22) [116, 117] []))
def i3_1 : CW := .loop i3_0
def i3_2 : CW := .blk 2 i3_1
def g3_20 : LS := [o1 19 (.mv false (.k (.sc (.int .i64 0))))]
def i3_3 : CW := .seq (.reg g3_20) i3_2
def g3_24 : LS := [fdo 127 2 7,
 ldo 128 142 2 127,
 lno 129 128,
 o1 130 (.bin .leq (.s 129) (.k (.sc (.int .i64 3)))),
 o2 131 (mvS 130),
 o3 132 131 true (fdS 8 17),
 o3 133 131 true (ldS 200 8 132),
 o3 134 131 true (.call 8 [(false, .s 133)] [] []),
 o3 135 131 true (mvS 18),
 o3 136 131 true (bnS .neq 134 135),
 o1 137 (.pick (.s 131) (.s 136) (.k (.sc (.bool false))))]
def g3_25 : LS := [o1 6 (.mv false (.k (.sc (.bool false))))]
def g3_26 : LS := [fdo 138 1 17,
 ldo 139 200 1 138,
 fdo 140 0 9,
 o0 (.store 158 0 1 false 140 (.s 139))]
def i3_4 : CW := .seq (.seq (.fin (.reg g3_24) [18, 127, 128, 129, 130, 131, 132, 133, 134, 135, 136] []) (.fin (.cond (.s 137) (.seq (.fin (.reg g3_25) [0, 1, 2, 7, 9, 10, 17, 137] [(142, 15), (158, 9), (200, 9)]) (.ret)) (.skip)) [137] [])) (.fin (.reg g3_26) [17, 138, 139, 140] [(200, 9)])
def i3_5 : CW := .seq i3_3 i3_4
def g3_10 : LS := [mvo 46 1,
 mvo 47 10,
 ixo 48 1 46 47,
 o1 49 (.loade 1 false 48),
 o1 50 (.conv .u64 (.s 49)),
 mvo 51 2,
 lno 52 51,
 o1 53 (.bin .add (.s 52) (.k (.sc (.int .i64 1)))),
 o1 54 (.conv .u64 (.s 53)),
 bno 55 .rem 50 54,
 o1 56 (.conv .i64 (.s 55)),
 mvo 11 56]
def g3_11 : LS := [mvo 57 2,
 lno 58 57,
 mvo 59 11,
 mvo 60 1,
 mvo 61 10,
 ixo 62 1 60 61,
 o1 63 (.loade 1 false 62),
 o1 64 (.conv .u64 (.s 63)),
 o1 65 (.bin .shr (.s 64) (.k (.sc (.int .u64 10)))),
 o1 66 (.bin .rem (.s 65) (.k (.sc (.int .u64 16)))),
 o1 67 (.conv .i64 (.s 66)),
 bno 68 .add 59 67,
 o1 69 (.bin .add (.s 68) (.k (.sc (.int .i64 1)))),
 o1 70 (.mnmx false [.s 58, .s 69]),
 mvo 12 70]
def g3_12 : LS := [o1 72 (.load 142 0 15 true false 7),
 mvo 73 0,
 mvo 74 11,
 o1 75 (.conv .u32 (.s 74)),
 bno 76 .add 73 75,
 mvo 77 2,
 mvo 78 11,
 mvo 79 12,
 o1 80 (.slice 1 (.s 77) (some (.s 78)) (some (.s 79)) none),
 o1 81 (.build [.sc (.int .i64 0), .sc (.int .i64 0), .sc (.int .u32 0), .sc (.int .u32 0), .sc (.int .i64 0), .sc (.int .i64 0), .sc (.int .i64 0), .sc (.int .i64 0), .sc (.int .i64 0), .sc (.bool false), .sc (.bool false), .sc (.int .u32 0), .sc (.int .u32 0), .row false (.rBlock []), .row false (.ruint8 [])] [(2, 1, .s 76), (14, 1, .s 80)]),
 o1 82 (.call 6 [(false, .s 72), (false, .s 81)] [] []),
 mvo 71 82,
 o1 83 (.ext false 0 (.s 71)),
 o1 84 (.ext false 1 (.s 71)),
 o1 85 (.ext false 2 (.s 71)),
 o1 86 (.ext false 3 (.s 71)),
 o1 13 (.alloc 168 [.sc (.int .i64 0), .row false (.ruint8 []), .row false (.rPiece []), .sc (.int .i64 0), .sc (.int .i64 0), .sc (.int .i64 0), .sc (.int .u32 0), .sc (.bool false), .sc (.bool false), .sc (.int .i64 0), .sc (.bool false), .row false (.rSpan []), .sc (.int .u32 0), .sc (.int .u32 0), .sc (.bool false)]),
 o1 14 (.alloc 184 [.sc (.int .i64 0), .sc (.int .i64 0), .sc (.int .u32 0), .sc (.int .u32 0), .sc (.int .i64 0), .sc (.int .i64 0), .sc (.int .i64 0), .sc (.int .i64 0), .sc (.int .i64 0), .sc (.bool false), .sc (.bool false), .sc (.int .u32 0), .sc (.int .u32 0), .row false (.rBlock []), .row false (.ruint8 [])]),
 o0 (.store 168 0 15 false 13 (.s 83)),
 o0 (.store 184 0 15 false 14 (.s 84)),
 mvo 15 85,
 mvo 16 86]
def g3_13 : LS := [mvo 87 16,
 o1 88 (.bin .neq (.s 87) (.k (.sc (.int .i64 0)))),
 o2 89 (mvS 88),
 o3 90 89 false (mvS 15),
 o3 91 89 false (ntS 90),
 o1 92 (.pick (.s 89) (.k (.sc (.bool true))) (.s 91))]
def g3_14 : LS := [o1 6 (.mv false (.k (.sc (.bool false))))]
def g3_15 : LS := [o1 93 (.load 168 0 15 true false 13),
 o0 (.store 142 0 15 false 7 (.s 93))]
def g3_16 : LS := [o1 94 (.load 158 0 9 true false 9),
 o1 95 (.load 184 0 15 true false 14),
 o1 96 (.call 7 [(false, .s 94), (false, .s 95)] [] []),
 o1 17 (.alloc 200 [.sc (.bool false), .sc (.int .i64 0), .sc (.bool false), .sc (.int .i64 0), .sc (.int .i64 0), .sc (.int .u32 0), .sc (.int .i64 0), .sc (.bool false), .row false (.rSpan [])]),
 o0 (.store 200 0 9 false 17 (.s 96))]
def g3_17 : LS := [fdo 97 0 17,
 ldo 98 200 0 97,
 nto 99 98,
 o2 100 (mvS 99),
 o3 101 100 false (fdS 2 17),
 o3 102 100 false (ldS 200 2 101),
 o1 103 (.pick (.s 100) (.k (.sc (.bool true))) (.s 102)),
 o2 104 (mvS 103),
 o3 105 104 false (fdS 1 17),
 o3 106 104 false (ldS 200 1 105),
 o3 107 104 false (fdS 0 7),
 o3 108 104 false (ldS 142 0 107),
 o3 109 104 false (bnS .neq 106 108),
 o1 110 (.pick (.s 104) (.k (.sc (.bool true))) (.s 109))]
def g3_18 : LS := [o1 6 (.mv false (.k (.sc (.bool false))))]
def g3_19 : LS := [o1 18 (.mv false (.k (.sc (.int .i64 0))))]
def i3_6 : CW := .seq (.fin (.reg g3_10) [46, 47, 48, 49, 50, 51, 52, 53, 54, 55, 56] []) (.seq (.fin (.reg g3_11) [57, 58, 59, 60, 61, 62, 63, 64, 65, 66, 67, 68, 69, 70] []) (.seq (.fin (.reg g3_12) [11, 12, 71, 72, 73, 74, 75, 76, 77, 78, 79, 80, 81, 82, 83, 84, 85, 86] []) (.seq (.seq (.fin (.reg g3_13) [15, 16, 87, 88, 89, 90, 91] []) (.fin (.cond (.s 92) (.seq (.fin (.reg g3_14) [0, 1, 2, 7, 9, 10, 13, 14, 92] [(142, 15), (158, 9), (168, 15), (184, 15)]) (.ret)) (.skip)) [92] [])) (.seq (.fin (.reg g3_15) [13, 93] [(168, 15)]) (.seq (.fin (.reg g3_16) [14, 94, 95, 96] [(184, 15)]) (.seq (.seq (.fin (.reg g3_17) [97, 98, 99, 100, 101, 102, 103, 104, 105, 106, 107, 108, 109] []) (.fin (.cond (.s 110) (.seq (.fin (.reg g3_18) [0, 1, 2, 7, 9, 10, 17, 110] [(142, 15), (158, 9), (200, 9)]) (.ret)) (.skip)) [110] [])) (.seq (.reg g3_19) i3_5)))))))
def i3_7 : CW := .blk 1 i3_6
def g3_9 : LS := [mvo 44 10,
 o1 45 (.bin .add (.s 44) (.k (.sc (.int .i64 1)))),
 mvo 10 45]
def i3_8 : CW := .fin (.reg g3_9) [44, 45] []
def i3_9 : CW := .seq i3_7 i3_8
def g3_8 : LS := [mvo 40 10,
 mvo 41 1,
 lno 42 41,
 bno 43 .lss 40 42]
def i3_10 : CW := .seq (.seq (.fin (.reg g3_8) [40, 41, 42] []) (.fin (.cond (.s 43) (.skip) (.clr [0, 1, 2, 7, 9, 10, 43] [(142, 15), (158, 9)] (.exit 0))) [43] [])) i3_9
def i3_11 : CW := .loop i3_10
def i3_12 : CW := .blk 0 i3_11
def g3_7 : LS := [o1 10 (.mv false (.k (.sc (.int .i64 0))))]
def i3_13 : CW := .seq (.reg g3_7) i3_12
def g3_27 : LS := [o1 141 (.call 4 [] [] []),
 mvo 6 141]
def i3_14 : CW := .seq (.fin (.reg g3_27) [141] []) (.ret)
def i3_15 : CW := .seq i3_13 i3_14
def g3_0 : LS := [o1 6 (.mv false (.k (.sc (.bool false))))]
def g3_1 : LS := [mvo 20 2,
 lno 21 20,
 o1 22 (.bin .gtr (.s 21) (.k (.sc (.int .i64 200)))),
 o2 23 (mvS 22),
 o3 24 23 false (mvS 1),
 o3 25 23 false (lnS 24),
 o3 26 23 false (.bin .gtr (.s 25) (.k (.sc (.int .i64 100)))),
 o1 27 (.pick (.s 23) (.k (.sc (.bool true))) (.s 26))]
def g3_2 : LS := [o1 28 (.call 4 [] [] []),
 mvo 6 28]
def g3_3 : LS := [mvo 30 0,
 o1 31 (.call 5 [(false, .k (.sc (.int .i64 1000))), (false, .k (.sc (.int .i64 0))), (false, .s 30), (false, .k (.sc (.int .u32 77))), (false, .k (.sc (.bool false))), (false, .k (.sc (.bool true)))] [] []),
 mvo 29 31,
 o1 32 (.ext false 0 (.s 29)),
 o1 33 (.ext false 1 (.s 29)),
 o1 7 (.alloc 142 [.sc (.int .i64 0), .row false (.ruint8 []), .row false (.rPiece []), .sc (.int .i64 0), .sc (.int .i64 0), .sc (.int .i64 0), .sc (.int .u32 0), .sc (.bool false), .sc (.bool false), .sc (.int .i64 0), .sc (.bool false), .row false (.rSpan []), .sc (.int .u32 0), .sc (.int .u32 0), .sc (.bool false)]),
 o0 (.store 142 0 15 false 7 (.s 32)),
 mvo 8 33]
def g3_4 : LS := [mvo 34 8,
 o1 35 (.bin .neq (.s 34) (.k (.sc (.int .i64 0))))]
def g3_5 : LS := [o1 6 (.mv false (.k (.sc (.bool false))))]
def g3_6 : LS := [mvo 36 2,
 lno 37 36,
 mvo 38 0,
 o1 39 (.build [.sc (.int .i64 0), .sc (.int .i64 0), .sc (.int .u32 0), .sc (.int .i64 0), .sc (.int .u32 0), .sc (.bool false), .sc (.int .u32 0), .sc (.int .u32 0), .sc (.bool false)] [(1, 1, .s 37), (2, 1, .s 38), (4, 1, .k (.sc (.int .u32 77))), (8, 1, .k (.sc (.bool true)))]),
 o1 9 (.alloc 158 [.sc (.int .i64 0), .sc (.int .i64 0), .sc (.int .u32 0), .sc (.int .i64 0), .sc (.int .u32 0), .sc (.bool false), .sc (.int .u32 0), .sc (.int .u32 0), .sc (.bool false)]),
 o0 (.store 158 0 9 false 9 (.s 39))]
def i3_16 : CW := .seq (.fin (.reg g3_0) [6] []) (.seq (.seq (.fin (.reg g3_1) [20, 21, 22, 23, 24, 25, 26] []) (.fin (.cond (.s 27) (.seq (.fin (.reg g3_2) [0, 1, 2, 27, 28] []) (.ret)) (.skip)) [27] [])) (.seq (.fin (.reg g3_3) [29, 30, 31, 32, 33] []) (.seq (.seq (.fin (.reg g3_4) [8, 34] []) (.fin (.cond (.s 35) (.seq (.fin (.reg g3_5) [0, 1, 2, 7, 35] [(142, 15)]) (.ret)) (.skip)) [35] [])) (.seq (.fin (.reg g3_6) [36, 37, 38, 39] []) i3_15))))
def fn3 : IFn2 RW := ⟨3, 3, 142, 224, [(142, 15), (158, 9), (168, 15), (184, 15), (200, 9)], [], [], [.slot 6], i3_16⟩
end
/-! tideway/seq.Diff -/
section
variable (cp : CP) (n : Nat) (k : KX R)
theorem run13 (cp : CP) (n : Nat) (p0 p1 : Int) (k : Ret2 RW → Option R) : G13 cp (n + 1) p0 p1 (fun r0 => k ⟨(tL r0), [], []⟩) = run2 U cp (callP cp n) n fn13 [(tI .u32 p0), (tI .u32 p1)] [] k := by kernel_rfl
end
/-! tideway/seq.Sum -/
section
variable (cp : CP) (n : Nat) (k : KX R)
theorem run29 (cp : CP) (n : Nat) (p0 p1 : Int) (k : Ret2 RW → Option R) : G29 cp (n + 1) p0 p1 (fun r0 => k ⟨(tL r0), [], []⟩) = run2 U cp (callP cp n) n fn29 [(tL p0), (tL p1)] [] k := by kernel_rfl
end
/-! tideway/seq.Unwrap -/
section
variable (cp : CP) (n : Nat) (k : KX R)
theorem run12 (cp : CP) (n : Nat) (p0 p1 : Int) (k : Ret2 RW → Option R) : G12 cp (n + 1) p0 p1 (fun r0 => k ⟨(tL r0), [], []⟩) = run2 U cp (callP cp n) n fn12 [(tL p0), (tI .u32 p1)] [] k := by kernel_rfl
end
/-! tideway/ack.counts -/
section
variable (cp : CP) (n : Nat) (p0 : SAsked) (p1 : SSegment) (v5 : Int) (v7 : Bool) (v8 : Int) (v9 : Bool) (k : KX R)
def fr19_2 : FF := [dT 2 ((.ptr 73 0) :: (.ptr 83 0) :: (dT 2 ((tL v5) :: (dT 9 [])))), dc, dc, dc, dT 9 ((.hdr 9) :: (sl 0 6 (eAsked p0))), sl 6 3 (eAsked p0) ++ ((.hdr 15) :: (sl 0 12 (eSegment p1))), sl 12 3 (eSegment p1) ++ (dT 13 [])]
def fr19_3 : FF := [dT 4 ((tL 0) :: (tB false) :: (dT 10 [])), dc, dc, dc, dc, dc, dc]
def fr19_5 : FF := [dT 4 ((tL v5) :: (tB v7) :: (dT 10 [])), dc, dc, dc, dc, dc, dc]
theorem s19_4_t : X cp n i19_0 (fr19_2 p0 p1 v5) k = s19_4 cp n p0 p1 v5 (fun v7 => k .ret (fr19_5 v5 v7)) := by kernel_rfl
def fr19_6 : FF := [dT 4 ((tL v8) :: (tB v9) :: (dT 10 [])), dc, dc, dc, dc, dc, dc]
def fr19_8 : FF := [(.agg (eAsked p0)) :: (.agg (eSegment p1)) :: (dT 14 []), dc, dc, dc, dc, dc, dc]
theorem s19_7_t : X cp n i19_1 (fr19_8 p0 p1) k = s19_7 cp n p0 p1 (fun v8 v9 => k .ret (fr19_6 v8 v9)) := ch (fun q => s19_1 cp n p0 p1 q (k .ret (fr19_6 0 false))) (fun c v5 => X cp n c (fr19_2 p0 p1 v5) k) i19_0 (fun c => X cp n (.seq (.fin (.reg g19_0) [0, 1, 4, 5] []) (.seq (.seq (.fin (.reg g19_1) [7, 8, 9, 10, 11, 12, 13, 14, 15, 16, 17, 18, 19, 20, 21, 22, 23, 24, 25, 26] []) (.fin (.cond (.s 27) (.seq (.fin (.reg g19_2) [2, 3, 27] [(73, 9), (83, 15)]) (.ret)) (.skip)) [27] [])) (.seq (.seq (.fin (.reg g19_3) [28, 29, 30, 31, 32, 33, 34, 35, 36, 37, 38, 39, 40, 41] []) (.fin (.cond (.s 42) (.seq (.fin (.reg g19_4) [2, 3, 42] [(73, 9), (83, 15)]) (.ret)) (.skip)) [42] [])) (.seq (.fin (.reg g19_5) [43, 44, 45, 46, 47, 48, 49, 50] []) c)))) (fr19_8 p0 p1) k) (fun c => by kernel_rfl) (funext fun v5 => (s19_4_t cp n p0 p1 v5 k).trans (show _ = s19_4 cp n p0 p1 v5 (fun v7 => k .ret (fr19_6 v5 v7)) from by kernel_rfl)) (by kernel_rfl) (by kernel_rfl)
theorem run19 (cp : CP) (n : Nat) (p0 : SAsked) (p1 : SSegment) (k : Ret2 RW → Option R) : G19 cp (n + 1) p0 p1 (fun r0 r1 => k ⟨.tup [(tL r0), (tB r1)], [], []⟩) = run2 U cp (callP cp n) n fn19 [.agg (eAsked p0), .agg (eSegment p1)] [] k := ((X_run (f := fn19) (av := [.agg (eAsked p0), .agg (eSegment p1)]) (cells := []) (code := i19_1) (fr := (fr19_8 p0 p1)) (k := k) (by kernel_rfl) (fun K => by kernel_rfl)).trans ((s19_7_t cp n p0 p1 (finK2 fn19 k)).trans (by kernel_rfl))).symm
end
/-! tideway/ack.Weigh$1 -/
section
variable (cp : CP) (n : Nat) (k : KX R)
theorem run1008 (cp : CP) (n : Nat) (p0 : Int) (q0 : SAsked) (k : Ret2 RW → Option R) : G1008 cp (n + 1) p0 q0 (fun r0 r1 => k ⟨(tL r0), [(eAsked r1)], []⟩) = run2 U cp (callP cp n) n fn1008 [(tI .u32 p0), .ptr 11 0] [(eAsked q0)] k := by kernel_rfl
end
/-! tideway/ack.offsets -/
section
variable (cp : CP) (n : Nat) (p0 : (List SBlock)) (q0 : SAsked) (v23 : Int) (v24 : (List SSpan)) (v25 : Int) (v26 : SAsked) (v31 : (List SSpan)) (v32 : Int) (v33 : SAsked) (v34 : (List SSpan)) (v35 : SAsked) (v36 : (List SSpan)) (v37 : SAsked) (v38 : (List SSpan)) (v39 : SAsked) (v40 : (List SSpan)) (v41 : SAsked) (v42 : (List SSpan)) (v43 : SAsked) (k : KX R)
def w1007_0 : Fr := dT 2 ((.hdr 9) :: ((eAsked q0) ++ (dT 4 [])))
def fr1007_2 : FF := [(.row false (.rBlock p0)) :: (.clo 21 [(34, 0)]) :: (dT 3 ((.row true (.rSpan [])) :: (dT 10 []))), dc, w1007_0 q0, dc]
def fr1007_4 : FF := [dT 1 ((.clo 21 [(34, 0)]) :: (dT 3 ((.row true (.rSpan [])) :: (dT 3 ((.row false (.rBlock p0)) :: (tL v23) :: (tL 0) :: (dT 4 [])))))), dc, w1007_0 q0, dc]
def fr1007_6 : FF := [dT 1 ((.clo 21 [(34, 0)]) :: (dT 3 ((.row true (.rSpan v31)) :: (dT 3 ((.row false (.rBlock p0)) :: (tL v23) :: (tL v32) :: (dT 4 [])))))), dc, dT 2 ((.hdr 9) :: ((eAsked v33) ++ (dT 4 []))), dc]
def w1007_1 : Fr := dT 2 ((.hdr 9) :: ((eAsked v26) ++ (dT 4 [])))
def fr1007_7 : FF := [dT 5 ((.row true (.rSpan v24)) :: (dT 10 [])), dc, w1007_1 v26, dc]
def fr1007_8 : FF := [dT 1 ((.clo 21 [(34, 0)]) :: (dT 3 ((.row true (.rSpan v24)) :: (dT 3 ((.row false (.rBlock p0)) :: (tL v23) :: (tL v25) :: (dT 4 [])))))), dc, w1007_1 v26, dc]
theorem s1007_5_t : X cp n i1007_0 (fr1007_8 p0 v23 v24 v25 v26) k = s1007_5 cp n p0 v23 v24 v25 v26 (fun v31 v32 v33 => k .norm (fr1007_6 p0 v23 v31 v32 v33)) (k (.exit 0) (fr1007_7 v24 v26)) := by kernel_rfl
def fr1007_9 : FF := [dT 5 ((.row true (.rSpan v34)) :: (dT 10 [])), dc, dT 2 ((.hdr 9) :: ((eAsked v35) ++ (dT 4 []))), dc]
theorem l1007_10_t (cp : CP) (n : Nat) : ∀ (m : Nat) (p0 : (List SBlock)) (v23 : Int) (v24 : (List SSpan)) (v25 : Int) (v26 : SAsked) (k : KX R), loopN2 (X cp n i1007_0) m (fr1007_8 p0 v23 v24 v25 v26) k = l1007_10 cp n m p0 v23 v24 v25 v26 (fun v34 v35 => k (.exit 0) (fr1007_9 v34 v35))
  | 0, _, _, _, _, _, _ => rfl
  | m + 1, p0, v23, v24, v25, v26, k => (loopN2_succ (X cp n i1007_0) m (fr1007_8 p0 v23 v24 v25 v26) k).trans ((s1007_5_t cp n p0 v23 v24 v25 v26 (loopT (X cp n i1007_0) m k)).trans (tq (congrArg (fun q => s1007_5 cp n p0 v23 v24 v25 v26 q (k (.exit 0) (fr1007_9 v24 v26))) (funext fun v31 => funext fun v32 => funext fun v33 => l1007_10_t cp n m p0 v23 v31 v32 v33 k)) (by kernel_rfl)))
theorem s1007_11_t : X cp n i1007_1 (fr1007_4 p0 q0 v23) k = s1007_11 cp n p0 q0 v23 (fun v34 v35 => k (.exit 0) (fr1007_9 v34 v35)) := tq (l1007_10_t cp n n p0 v23 [] 0 q0 k) (by kernel_rfl)
def fr1007_12 : FF := [dT 5 ((.row true (.rSpan v36)) :: (dT 10 [])), dc, dT 2 ((.hdr 9) :: ((eAsked v37) ++ (dT 4 []))), dc]
theorem s1007_13_t : X cp n i1007_2 (fr1007_4 p0 q0 v23) k = s1007_13 cp n p0 q0 v23 (fun v36 v37 => k .norm (fr1007_12 v36 v37)) := tq ((s1007_11_t cp n p0 q0 v23 (blkT 0 k)).trans (by kernel_rfl)) (by kernel_rfl)
def w1007_2 : Fr := dT 2 ((.hdr 9) :: ((eAsked v39) ++ (dT 4 [])))
def fr1007_14 : FF := [dT 5 ((.row true (.rSpan v38)) :: (dT 10 [])), dc, w1007_2 v39, dc]
theorem s1007_15_t : X cp n i1007_3 (fr1007_2 p0 q0) k = s1007_15 cp n p0 q0 (fun v38 v39 => k .norm (fr1007_14 v38 v39)) := ch (fun q => s1007_3 cp n p0 q0 q) (fun c v23 => X cp n c (fr1007_4 p0 q0 v23) k) i1007_2 (fun c => X cp n (.seq (.fin (.reg g1007_2) [0] []) c) (fr1007_2 p0 q0) k) (fun c => by kernel_rfl) (funext fun v23 => (s1007_13_t cp n p0 q0 v23 k).trans (show _ = s1007_13 cp n p0 q0 v23 (fun v36 v37 => k .norm (fr1007_14 v36 v37)) from by kernel_rfl)) (by kernel_rfl) (by kernel_rfl)
def fr1007_17 : FF := [dT 4 ((.row false (.rSpan v38)) :: (dT 11 [])), dc, w1007_2 v39, dc]
theorem s1007_16_t : X cp n i1007_4 (fr1007_14 v38 v39) k = s1007_16 cp n v38 v39 (k .ret (fr1007_17 v38 v39)) := by kernel_rfl
def fr1007_18 : FF := [dT 4 ((.row false (.rSpan v40)) :: (dT 11 [])), dc, dT 2 ((.hdr 9) :: ((eAsked v41) ++ (dT 4 []))), dc]
theorem s1007_19_t : X cp n i1007_5 (fr1007_2 p0 q0) k = s1007_19 cp n p0 q0 (fun v40 v41 => k .ret (fr1007_18 v40 v41)) := tq (tq (congrArg (fun q => s1007_15 cp n p0 q0 q) (funext fun v38 => funext fun v39 => (s1007_16_t cp n v38 v39 k).trans (show _ = s1007_16 cp n v38 v39 (k .ret (fr1007_18 v38 v39)) from by kernel_rfl))) ((s1007_15_t cp n p0 q0 (seqT (X cp n) i1007_4 k)).trans (by kernel_rfl))) (by kernel_rfl)
def fr1007_20 : FF := [dT 4 ((.row false (.rSpan v42)) :: (dT 11 [])), dc, dT 2 ((.hdr 9) :: ((eAsked v43) ++ (dT 4 []))), dc]
def fr1007_22 : FF := [(.row false (.rBlock p0)) :: (.clo 21 [(34, 0)]) :: (dT 14 []), dc, w1007_0 q0, dc]
theorem s1007_21_t : X cp n i1007_6 (fr1007_22 p0 q0) k = s1007_21 cp n p0 q0 (fun v42 v43 => k .ret (fr1007_20 v42 v43)) := ch (fun q => s1007_1 cp n p0 q0 q) (fun c => X cp n c (fr1007_2 p0 q0) k) i1007_5 (fun c => X cp n (.seq (.fin (.reg g1007_0) [4] []) (.seq (.reg g1007_1) c)) (fr1007_22 p0 q0) k) (fun c => by kernel_rfl) ((s1007_19_t cp n p0 q0 k).trans (show _ = s1007_19 cp n p0 q0 (fun v40 v41 => k .ret (fr1007_20 v40 v41)) from by kernel_rfl)) (by kernel_rfl) (by kernel_rfl)
theorem run1007 (cp : CP) (n : Nat) (p0 : (List SBlock)) (q0 : SAsked) (k : Ret2 RW → Option R) : G1007 cp (n + 1) p0 q0 (fun r0 r1 => k ⟨.row false (.rSpan r0), [(eAsked r1)], []⟩) = run2 U cp (callP cp n) n fn1007 [.row false (.rBlock p0), .clo 21 [(34, 0)]] [(eAsked q0)] k := ((X_run (f := fn1007) (av := [.row false (.rBlock p0), .clo 21 [(34, 0)]]) (cells := [(eAsked q0)]) (code := i1007_6) (fr := (fr1007_22 p0 q0)) (k := k) (by kernel_rfl) (fun K => by kernel_rfl)).trans ((s1007_21_t cp n p0 q0 (finK2 fn1007 k)).trans (by kernel_rfl))).symm
end
/-! tideway/ack.twice -/
section
variable (cp : CP) (n : Nat) (k : KX R)
theorem run22 (cp : CP) (n : Nat) (p0 : (List SSpan)) (p1 : Int) (k : Ret2 RW → Option R) : G22 cp (n + 1) p0 p1 (fun r0 => k ⟨(tB r0), [], []⟩) = run2 U cp (callP cp n) n fn22 [.row false (.rSpan p0), (tL p1)] [] k := by kernel_rfl
end
/-! tideway/span.may -/
section
variable (cp : CP) (n : Nat) (k : KX R)
theorem run40 (cp : CP) (n : Nat) (p0 : SSpan) (k : Ret2 RW → Option R) : G40 cp (n + 1) p0 (fun r0 => k ⟨(tB r0), [], []⟩) = run2 U cp (callP cp n) n fn40 [.agg (eSpan p0)] [] k := by kernel_rfl
end
/-! tideway/span.Check -/
section
variable (cp : CP) (n : Nat) (p0 : (List SSpan)) (v58 v59 v61 v62 v63 : Int) (k : KX R)
def fr24_2 : FF := [(.row false (.rSpan p0)) :: (dT 15 []), dc, dc]
def fr24_4 : FF := [(.row false (.rSpan p0)) :: (dT 4 ((.row false (.rSpan p0)) :: (tL v58) :: (tL 0) :: (dT 8 []))), dc, dc]
def fr24_6 : FF := [(.row false (.rSpan p0)) :: (dT 4 ((.row false (.rSpan p0)) :: (tL v58) :: (tL v61) :: (dT 8 []))), dc, dc]
def fr24_7 : FF := [dT 2 ((tL 60) :: (dT 13 [])), dc, dc]
def fr24_8 : FF := [dc, dc, dc]
def fr24_9 : FF := [(.row false (.rSpan p0)) :: (dT 4 ((.row false (.rSpan p0)) :: (tL v58) :: (tL v59) :: (dT 8 []))), dc, dc]
theorem s24_5_t : X cp n i24_0 (fr24_9 p0 v58 v59) k = s24_5 cp n p0 v58 v59 (fun v61 => k .norm (fr24_6 p0 v58 v61)) (k .ret fr24_7) (k (.exit 0) fr24_8) := by kernel_rfl
theorem l24_10_t (cp : CP) (n : Nat) : ∀ (m : Nat) (p0 : (List SSpan)) (v58 v59 : Int) (k : KX R), loopN2 (X cp n i24_0) m (fr24_9 p0 v58 v59) k = l24_10 cp n m p0 v58 v59 (k .ret fr24_7) (k (.exit 0) fr24_8)
  | 0, _, _, _, _ => rfl
  | m + 1, p0, v58, v59, k => (loopN2_succ (X cp n i24_0) m (fr24_9 p0 v58 v59) k).trans ((s24_5_t cp n p0 v58 v59 (loopT (X cp n i24_0) m k)).trans (tq (congrArg (fun q => s24_5 cp n p0 v58 v59 q (k .ret fr24_7) (k (.exit 0) fr24_8)) (funext fun v61 => l24_10_t cp n m p0 v58 v61 k)) (by kernel_rfl)))
theorem s24_11_t : X cp n i24_1 (fr24_4 p0 v58) k = s24_11 cp n p0 v58 (k .ret fr24_7) (k (.exit 0) fr24_8) := tq (l24_10_t cp n n p0 v58 0 k) (by kernel_rfl)
theorem s24_12_t : X cp n i24_2 (fr24_4 p0 v58) k = s24_12 cp n p0 v58 (k .norm fr24_8) (k .ret fr24_7) := tq ((s24_11_t cp n p0 v58 (blkT 0 k)).trans (by kernel_rfl)) (by kernel_rfl)
theorem s24_13_t : X cp n i24_3 (fr24_2 p0) k = s24_13 cp n p0 (k .norm fr24_8) (k .ret fr24_7) := ch (fun q => s24_3 cp n p0 q) (fun c v58 => X cp n c (fr24_4 p0 v58) k) i24_2 (fun c => X cp n (.seq (.reg g24_1) c) (fr24_2 p0) k) (fun c => by kernel_rfl) (funext fun v58 => s24_12_t cp n p0 v58 k) (by kernel_rfl) (by kernel_rfl)
def fr24_15 : FF := [dT 2 ((tL 0) :: (dT 13 [])), dc, dc]
theorem s24_14_t : X cp n i24_4 fr24_8 k = s24_14 cp n (k .ret fr24_15) := by kernel_rfl
def fr24_16 : FF := [dT 2 ((tL v62) :: (dT 13 [])), dc, dc]
theorem s24_17_t : X cp n i24_5 (fr24_2 p0) k = s24_17 cp n p0 (fun v62 => k .ret (fr24_16 v62)) := tq (tq (congrArg (fun q => s24_13 cp n p0 q (k .ret (fr24_16 60))) ((s24_14_t cp n  k).trans (show _ = s24_14 cp n (k .ret (fr24_16 0)) from by kernel_rfl))) ((s24_13_t cp n p0 (seqT (X cp n) i24_4 k)).trans (by kernel_rfl))) (by kernel_rfl)
def fr24_18 : FF := [dT 2 ((tL v63) :: (dT 13 [])), dc, dc]
theorem s24_19_t : X cp n i24_6 (fr24_2 p0) k = s24_19 cp n p0 (fun v63 => k .ret (fr24_18 v63)) := ch (fun q => s24_1 cp n p0 q) (fun c => X cp n c (fr24_2 p0) k) i24_5 (fun c => X cp n (.seq (.fin (.reg g24_0) [2] []) c) (fr24_2 p0) k) (fun c => by kernel_rfl) ((s24_17_t cp n p0 k).trans (show _ = s24_17 cp n p0 (fun v62 => k .ret (fr24_18 v62)) from by kernel_rfl)) (by kernel_rfl) (by kernel_rfl)
theorem run24 (cp : CP) (n : Nat) (p0 : (List SSpan)) (k : Ret2 RW → Option R) : G24 cp (n + 1) p0 (fun r0 => k ⟨(tL r0), [], []⟩) = run2 U cp (callP cp n) n fn24 [.row false (.rSpan p0)] [] k := ((X_run (f := fn24) (av := [.row false (.rSpan p0)]) (cells := []) (code := i24_6) (fr := (fr24_2 p0)) (k := k) (by kernel_rfl) (fun K => by kernel_rfl)).trans ((s24_19_t cp n p0 (finK2 fn24 k)).trans (by kernel_rfl))).symm
end
/-! tideway/span.right -/
section
variable (cp : CP) (n : Nat) (k : KX R)
theorem run39 (cp : CP) (n : Nat) (p0 : (List SSpan)) (p1 : SSpan) (k : Ret2 RW → Option R) : G39 cp (n + 1) p0 p1 (fun r0 => k ⟨(tL r0), [], []⟩) = run2 U cp (callP cp n) n fn39 [.row false (.rSpan p0), .agg (eSpan p1)] [] k := by kernel_rfl
end
/-! tideway/span.Add -/
section
variable (cp : CP) (n : Nat) (p0 : (List SSpan)) (p1 : SSpan) (v73 : (List SSpan)) (v74 : Int) (v75 : (List SSpan)) (v76 : Int) (v77 : (List SSpan)) (v78 : Int) (v79 : (List SSpan)) (v80 : Int) (v81 : (List SSpan)) (v82 v83 v84 v85 v86 v87 v88 v89 v90 v91 v92 v93 v94 : Int) (v95 v96 v97 v98 : (List SSpan)) (v99 : Int) (k : KX R)
def w23_0 : Fr := dT 7 ((.hdr 2) :: ((eSpan p1) ++ (dT 6 [])))
def fr23_2 : FF := [(.row false (.rSpan p0)) :: (dT 2 ((.ptr 87 0) :: (dT 3 ((.row true (.rSpan [])) :: (tL 0) :: (dT 7 []))))), dc, dc, dc, dc, w23_0 p1]
def fr23_3 : FF := [dT 4 ((.row false (.rSpan v73)) :: (tL v74) :: (dT 10 [])), dc, dc, dc, dc, dc]
def fr23_5 : FF := [(.row false (.rSpan p0)) :: (dT 2 ((.ptr 87 0) :: (dT 3 ((.row true (.rSpan v77)) :: (tL v78) :: (dT 7 []))))), dc, dc, dc, dc, w23_0 p1]
def fr23_6 : FF := [(.row false (.rSpan p0)) :: (dT 2 ((.ptr 87 0) :: (dT 3 ((.row true (.rSpan v75)) :: (tL v76) :: (dT 7 []))))), dc, dc, dc, dc, w23_0 p1]
theorem s23_4_t : X cp n i23_0 (fr23_6 p0 p1 v75 v76) k = s23_4 cp n p0 p1 v75 v76 (fun v77 v78 => k .norm (fr23_5 p0 p1 v77 v78)) (k (.exit 0) (fr23_6 p0 p1 v75 v76)) := by kernel_rfl
def fr23_7 : FF := [(.row false (.rSpan p0)) :: (dT 2 ((.ptr 87 0) :: (dT 3 ((.row true (.rSpan v79)) :: (tL v80) :: (dT 7 []))))), dc, dc, dc, dc, w23_0 p1]
theorem l23_8_t (cp : CP) (n : Nat) : ∀ (m : Nat) (p0 : (List SSpan)) (p1 : SSpan) (v75 : (List SSpan)) (v76 : Int) (k : KX R), loopN2 (X cp n i23_0) m (fr23_6 p0 p1 v75 v76) k = l23_8 cp n m p0 p1 v75 v76 (fun v79 v80 => k (.exit 0) (fr23_7 p0 p1 v79 v80))
  | 0, _, _, _, _, _ => rfl
  | m + 1, p0, p1, v75, v76, k => (loopN2_succ (X cp n i23_0) m (fr23_6 p0 p1 v75 v76) k).trans ((s23_4_t cp n p0 p1 v75 v76 (loopT (X cp n i23_0) m k)).trans (tq (congrArg (fun q => s23_4 cp n p0 p1 v75 v76 q (k (.exit 0) (fr23_7 p0 p1 v75 v76))) (funext fun v77 => funext fun v78 => l23_8_t cp n m p0 p1 v77 v78 k)) (by kernel_rfl)))
theorem s23_9_t : X cp n i23_1 (fr23_2 p0 p1) k = s23_9 cp n p0 p1 (fun v79 v80 => k (.exit 0) (fr23_7 p0 p1 v79 v80)) := tq (l23_8_t cp n n p0 p1 [] 0 k) (by kernel_rfl)
def fr23_10 : FF := [(.row false (.rSpan p0)) :: (dT 2 ((.ptr 87 0) :: (dT 3 ((.row true (.rSpan v81)) :: (tL v82) :: (dT 7 []))))), dc, dc, dc, dc, w23_0 p1]
theorem s23_11_t : X cp n i23_2 (fr23_2 p0 p1) k = s23_11 cp n p0 p1 (fun v81 v82 => k .norm (fr23_10 p0 p1 v81 v82)) := tq ((s23_9_t cp n p0 p1 (blkT 0 k)).trans (by kernel_rfl)) (by kernel_rfl)
def fr23_13 : FF := [(.row false (.rSpan p0)) :: (dT 2 ((.ptr 87 0) :: (dT 3 ((.row true (.rSpan v81)) :: (tL v86) :: (dT 7 []))))), dc, dc, dc, dc, dT 7 ((.hdr 2) :: (tL v87) :: (tL v88) :: (dT 6 []))]
def fr23_14 : FF := [(.row false (.rSpan p0)) :: (dT 2 ((.ptr 87 0) :: (dT 3 ((.row true (.rSpan v81)) :: (tL v83) :: (dT 7 []))))), dc, dc, dc, dc, dT 7 ((.hdr 2) :: (tL v84) :: (tL v85) :: (dT 6 []))]
theorem s23_12_t : X cp n i23_3 (fr23_14 p0 v81 v83 v84 v85) k = s23_12 cp n p0 v81 v83 v84 v85 (fun v86 v87 v88 => k .norm (fr23_13 p0 v81 v86 v87 v88)) (k (.exit 2) (fr23_14 p0 v81 v83 v84 v85)) := by kernel_rfl
def fr23_15 : FF := [(.row false (.rSpan p0)) :: (dT 2 ((.ptr 87 0) :: (dT 3 ((.row true (.rSpan v81)) :: (tL v89) :: (dT 7 []))))), dc, dc, dc, dc, dT 7 ((.hdr 2) :: (tL v90) :: (tL v91) :: (dT 6 []))]
theorem l23_16_t (cp : CP) (n : Nat) : ∀ (m : Nat) (p0 v81 : (List SSpan)) (v83 v84 v85 : Int) (k : KX R), loopN2 (X cp n i23_3) m (fr23_14 p0 v81 v83 v84 v85) k = l23_16 cp n m p0 v81 v83 v84 v85 (fun v89 v90 v91 => k (.exit 2) (fr23_15 p0 v81 v89 v90 v91))
  | 0, _, _, _, _, _, _ => rfl
  | m + 1, p0, v81, v83, v84, v85, k => (loopN2_succ (X cp n i23_3) m (fr23_14 p0 v81 v83 v84 v85) k).trans ((s23_12_t cp n p0 v81 v83 v84 v85 (loopT (X cp n i23_3) m k)).trans (tq (congrArg (fun q => s23_12 cp n p0 v81 v83 v84 v85 q (k (.exit 2) (fr23_15 p0 v81 v83 v84 v85))) (funext fun v86 => funext fun v87 => funext fun v88 => l23_16_t cp n m p0 v81 v86 v87 v88 k)) (by kernel_rfl)))
theorem s23_17_t : X cp n i23_4 (fr23_10 p0 p1 v81 v82) k = s23_17 cp n p0 p1 v81 v82 (fun v89 v90 v91 => k (.exit 2) (fr23_15 p0 v81 v89 v90 v91)) := tq (l23_16_t cp n n p0 v81 v82 p1.xFrom p1.xTo k) (by kernel_rfl)
def fr23_18 : FF := [(.row false (.rSpan p0)) :: (dT 2 ((.ptr 87 0) :: (dT 3 ((.row true (.rSpan v81)) :: (tL v92) :: (dT 7 []))))), dc, dc, dc, dc, dT 7 ((.hdr 2) :: (tL v93) :: (tL v94) :: (dT 6 []))]
theorem s23_19_t : X cp n i23_5 (fr23_10 p0 p1 v81 v82) k = s23_19 cp n p0 p1 v81 v82 (fun v92 v93 v94 => k .norm (fr23_18 p0 v81 v92 v93 v94)) := tq ((s23_17_t cp n p0 p1 v81 v82 (blkT 2 k)).trans (by kernel_rfl)) (by kernel_rfl)
def fr23_21 : FF := [dT 4 ((.row false (.rSpan v95)) :: (tL 0) :: (dT 10 [])), dc, dc, dc, dc, dc]
theorem s23_20_t : X cp n i23_6 (fr23_18 p0 v81 v92 v93 v94) k = s23_20 cp n p0 v81 v92 v93 v94 (fun v95 => k .ret (fr23_21 v95)) := by kernel_rfl
def fr23_22 : FF := [dT 4 ((.row false (.rSpan v96)) :: (tL 0) :: (dT 10 [])), dc, dc, dc, dc, dc]
theorem s23_23_t : X cp n i23_7 (fr23_10 p0 p1 v81 v82) k = s23_23 cp n p0 p1 v81 v82 (fun v96 => k .ret (fr23_22 v96)) := tq (tq (congrArg (fun q => s23_19 cp n p0 p1 v81 v82 q) (funext fun v92 => funext fun v93 => funext fun v94 => (s23_20_t cp n p0 v81 v92 v93 v94 k).trans (show _ = s23_20 cp n p0 v81 v92 v93 v94 (fun v95 => k .ret (fr23_22 v95)) from by kernel_rfl))) ((s23_19_t cp n p0 p1 v81 v82 (seqT (X cp n) i23_6 k)).trans (by kernel_rfl))) (by kernel_rfl)
def fr23_24 : FF := [dT 4 ((.row false (.rSpan v97)) :: (tL 0) :: (dT 10 [])), dc, dc, dc, dc, dc]
theorem s23_25_t : X cp n i23_8 (fr23_2 p0 p1) k = s23_25 cp n p0 p1 (fun v97 => k .ret (fr23_24 v97)) := tq (tq (congrArg (fun q => s23_11 cp n p0 p1 q) (funext fun v81 => funext fun v82 => (s23_23_t cp n p0 p1 v81 v82 k).trans (show _ = s23_23 cp n p0 p1 v81 v82 (fun v96 => k .ret (fr23_24 v96)) from by kernel_rfl))) ((s23_11_t cp n p0 p1 (seqT (X cp n) i23_7 k)).trans (by kernel_rfl))) (by kernel_rfl)
def fr23_26 : FF := [dT 4 ((.row false (.rSpan v98)) :: (tL v99) :: (dT 10 [])), dc, dc, dc, dc, dc]
def fr23_28 : FF := [(.row false (.rSpan p0)) :: (.agg (eSpan p1)) :: (dT 14 []), dc, dc, dc, dc, dc]
theorem s23_27_t : X cp n i23_9 (fr23_28 p0 p1) k = s23_27 cp n p0 p1 (fun v98 v99 => k .ret (fr23_26 v98 v99)) := ch (fun q => s23_1 cp n p0 p1 q (fun v73 v74 => k .ret (fr23_26 v73 v74))) (fun c => X cp n c (fr23_2 p0 p1) k) i23_8 (fun c => X cp n (.seq (.fin (.reg g23_0) [1, 4, 5] []) (.seq (.seq (.fin (.reg g23_1) [9, 10, 11] []) (.seq (.fin (.reg g23_2) [12] []) (.fin (.cond (.s 13) (.seq (.fin (.reg g23_3) [0, 3, 6, 13, 14] [(87, 2)]) (.ret)) (.skip)) [6, 13] []))) (.seq (.seq (.fin (.reg g23_4) [15, 16, 17, 18] []) (.fin (.cond (.s 19) (.seq (.fin (.reg g23_5) [0, 3, 19, 20, 21] [(87, 2)]) (.ret)) (.skip)) [19] [])) (.seq (.reg g23_6) (.seq (.reg g23_7) c))))) (fr23_28 p0 p1) k) (fun c => by kernel_rfl) ((s23_25_t cp n p0 p1 k).trans (show _ = s23_25 cp n p0 p1 (fun v97 => k .ret (fr23_26 v97 0)) from by kernel_rfl)) (by kernel_rfl) (by kernel_rfl)
theorem run23 (cp : CP) (n : Nat) (p0 : (List SSpan)) (p1 : SSpan) (k : Ret2 RW → Option R) : G23 cp (n + 1) p0 p1 (fun r0 r1 => k ⟨.tup [.row false (.rSpan r0), (tL r1)], [], []⟩) = run2 U cp (callP cp n) n fn23 [.row false (.rSpan p0), .agg (eSpan p1)] [] k := ((X_run (f := fn23) (av := [.row false (.rSpan p0), .agg (eSpan p1)]) (cells := []) (code := i23_9) (fr := (fr23_28 p0 p1)) (k := k) (by kernel_rfl) (fun K => by kernel_rfl)).trans ((s23_27_t cp n p0 p1 (finK2 fn23 k)).trans (by kernel_rfl))).symm
end
/-! tideway/ack.Weigh -/
section
variable (cp : CP) (n : Nat) (p0 : SAsked) (p1 : SSegment) (v18 : Int) (v19 : SHeard) (v50 : (List SSpan)) (v51 : SAsked) (v52 v53 : Int) (v56 : Bool) (v57 v58 : Int) (v59 : (List SSpan)) (v64 : Int) (v65 v66 v67 v68 v69 : (List SSpan)) (v70 : Bool) (v71 : (List SSpan)) (v72 v73 : SHeard) (k : KX R)
def fr7_2 : FF := [dT 2 ((.ptr 110 0) :: (.ptr 120 0) :: (.ptr 136 0) :: (tL v18) :: (dT 1 ((.ptr 146 0) :: (dT 8 [])))), dc, dc, dc, dc, dc, dT 14 ((.hdr 9) :: (sl 0 1 (eAsked p0))), sl 1 8 (eAsked p0) ++ ((.hdr 15) :: (sl 0 7 (eSegment p1))), sl 7 8 (eSegment p1) ++ [.hdr 9, (tB false), (tL 0), (tB false), (tL 0), (tL 0), (tI .u32 0), (tL 0)], (tB false) :: (.row false (.rSpan [])) :: (.hdr 9) :: ((eHeard v19) ++ (dT 4 []))]
def w7_0 : Fr := dT 4 ((.ptr 136 0) :: (dT 11 []))
def w7_1 : Fr := dT 8 ([.hdr 9, (tB false), (tL 0), (tB false), (tL 0), (tL 0), (tI .u32 0), (tL 0)])
def fr7_3 : FF := [w7_0, dc, dc, dc, dc, dc, dc, dc, w7_1, (tB false) :: (.row false (.rSpan [])) :: (dT 14 [])]
def w7_2 : Fr := dT 14 ((.hdr 9) :: (sl 0 1 (eAsked v51)))
def w7_3 : Fr := sl 1 8 (eAsked v51) ++ (dT 8 [])
def fr7_5 : FF := [dT 2 ((.ptr 110 0) :: (dT 1 ((.ptr 136 0) :: (tL v18) :: (dT 1 ((.ptr 146 0) :: (.row false (.rSpan v50)) :: (dT 7 [])))))), dc, dc, dc, dc, dc, w7_2 v51, w7_3 v51, w7_1, (tB false) :: (.row false (.rSpan [])) :: (.hdr 9) :: (tB v19.xCounts) :: (tL v19.xAck) :: (tB v19.xOld) :: (tL v19.xAt) :: (tL v19.xWin) :: (tI .u32 v19.xRecent) :: (tL v52) :: (tB v19.xTwice) :: (.row false (.rSpan v19.xSpans)) :: (dT 4 [])]
def fr7_6 : FF := [w7_0, dc, dc, dc, dc, dc, dc, dc, dT 8 ([.hdr 9, (tB v19.xCounts), (tL v19.xAck), (tB v19.xOld), (tL v19.xAt), (tL v19.xWin), (tI .u32 v19.xRecent), (tL v53)]), (tB v19.xTwice) :: (.row false (.rSpan v19.xSpans)) :: (dT 14 [])]
def w7_4 : Fr := (tB false) :: (.row false (.rSpan [])) :: (.hdr 9) :: (tB v19.xCounts) :: (tL v19.xAck) :: (tB v19.xOld) :: (tL v19.xAt) :: (tL v19.xWin) :: (tI .u32 v19.xRecent) :: (tL v52) :: (tB v56) :: (.row false (.rSpan v19.xSpans)) :: (dT 4 [])
def fr7_8 : FF := [dT 2 ((.ptr 110 0) :: (dT 1 ((.ptr 136 0) :: (dT 2 ((.ptr 146 0) :: (.row false (.rSpan v50)) :: (dT 7 [])))))), dc, dc, dc, dc, dc, w7_2 v51, w7_3 v51, w7_1, w7_4 v19 v52 v56]
def w7_5 : Fr := dT 2 ((.ptr 110 0) :: (dT 1 ((.ptr 136 0) :: (dT 2 ((.ptr 146 0) :: (dT 8 []))))))
def fr7_10 : FF := [w7_5, dc, dc, dc, dT 1 ((.row false (.rSpan v50)) :: (tL v57) :: (tL 0) :: (dT 12 [])), dc, w7_2 v51, w7_3 v51, w7_1, w7_4 v19 v52 v56]
def fr7_12 : FF := [w7_5, dc, dc, dc, dT 1 ((.row false (.rSpan v50)) :: (tL v57) :: (tL v64) :: (dT 12 [])), dc, w7_2 v51, w7_3 v51, w7_1, (tB false) :: (.row false (.rSpan [])) :: (.hdr 9) :: (tB v19.xCounts) :: (tL v19.xAck) :: (tB v19.xOld) :: (tL v19.xAt) :: (tL v19.xWin) :: (tI .u32 v19.xRecent) :: (tL v52) :: (tB v56) :: (.row false (.rSpan v65)) :: (dT 4 [])]
def w7_6 : Fr := dT 4 ((.ptr 136 0) :: (dT 2 ((.ptr 146 0) :: (dT 8 []))))
def w7_7 : Fr := (tB false) :: (.row false (.rSpan [])) :: (.hdr 9) :: (tB v19.xCounts) :: (tL v19.xAck) :: (tB v19.xOld) :: (tL v19.xAt) :: (tL v19.xWin) :: (tI .u32 v19.xRecent) :: (tL v52) :: (tB v56) :: (.row false (.rSpan v59)) :: (dT 4 [])
def fr7_13 : FF := [w7_6, dc, dc, dc, dc, dc, dc, dc, w7_1, w7_7 v19 v52 v56 v59]
def fr7_14 : FF := [w7_5, dc, dc, dc, dT 1 ((.row false (.rSpan v50)) :: (tL v57) :: (tL v58) :: (dT 12 [])), dc, w7_2 v51, w7_3 v51, w7_1, w7_7 v19 v52 v56 v59]
theorem s7_11_t : X cp n i7_0 (fr7_14 v19 v50 v51 v52 v56 v57 v58 v59) k = s7_11 cp n v19 v50 v51 v52 v56 v57 v58 v59 (fun v64 v65 => k .norm (fr7_12 v19 v50 v51 v52 v56 v57 v64 v65)) (k (.exit 0) (fr7_13 v19 v52 v56 v59)) := by kernel_rfl
def fr7_15 : FF := [w7_6, dc, dc, dc, dc, dc, dc, dc, w7_1, (tB false) :: (.row false (.rSpan [])) :: (.hdr 9) :: (tB v19.xCounts) :: (tL v19.xAck) :: (tB v19.xOld) :: (tL v19.xAt) :: (tL v19.xWin) :: (tI .u32 v19.xRecent) :: (tL v52) :: (tB v56) :: (.row false (.rSpan v66)) :: (dT 4 [])]
theorem l7_16_t (cp : CP) (n : Nat) : ∀ (m : Nat) (v19 : SHeard) (v50 : (List SSpan)) (v51 : SAsked) (v52 : Int) (v56 : Bool) (v57 v58 : Int) (v59 : (List SSpan)) (k : KX R), loopN2 (X cp n i7_0) m (fr7_14 v19 v50 v51 v52 v56 v57 v58 v59) k = l7_16 cp n m v19 v50 v51 v52 v56 v57 v58 v59 (fun v66 => k (.exit 0) (fr7_15 v19 v52 v56 v66))
  | 0, _, _, _, _, _, _, _, _, _ => rfl
  | m + 1, v19, v50, v51, v52, v56, v57, v58, v59, k => (loopN2_succ (X cp n i7_0) m (fr7_14 v19 v50 v51 v52 v56 v57 v58 v59) k).trans ((s7_11_t cp n v19 v50 v51 v52 v56 v57 v58 v59 (loopT (X cp n i7_0) m k)).trans (tq (congrArg (fun q => s7_11 cp n v19 v50 v51 v52 v56 v57 v58 v59 q (k (.exit 0) (fr7_15 v19 v52 v56 v59))) (funext fun v64 => funext fun v65 => l7_16_t cp n m v19 v50 v51 v52 v56 v57 v64 v65 k)) (by kernel_rfl)))
theorem s7_17_t : X cp n i7_1 (fr7_10 v19 v50 v51 v52 v56 v57) k = s7_17 cp n v19 v50 v51 v52 v56 v57 (fun v66 => k (.exit 0) (fr7_15 v19 v52 v56 v66)) := tq (l7_16_t cp n n v19 v50 v51 v52 v56 v57 0 v19.xSpans k) (by kernel_rfl)
def fr7_18 : FF := [w7_6, dc, dc, dc, dc, dc, dc, dc, w7_1, (tB false) :: (.row false (.rSpan [])) :: (.hdr 9) :: (tB v19.xCounts) :: (tL v19.xAck) :: (tB v19.xOld) :: (tL v19.xAt) :: (tL v19.xWin) :: (tI .u32 v19.xRecent) :: (tL v52) :: (tB v56) :: (.row false (.rSpan v67)) :: (dT 4 [])]
theorem s7_19_t : X cp n i7_2 (fr7_10 v19 v50 v51 v52 v56 v57) k = s7_19 cp n v19 v50 v51 v52 v56 v57 (fun v67 => k .norm (fr7_18 v19 v52 v56 v67)) := tq ((s7_17_t cp n v19 v50 v51 v52 v56 v57 (blkT 0 k)).trans (by kernel_rfl)) (by kernel_rfl)
def fr7_20 : FF := [w7_6, dc, dc, dc, dc, dc, dc, dc, w7_1, (tB false) :: (.row false (.rSpan [])) :: (.hdr 9) :: (tB v19.xCounts) :: (tL v19.xAck) :: (tB v19.xOld) :: (tL v19.xAt) :: (tL v19.xWin) :: (tI .u32 v19.xRecent) :: (tL v52) :: (tB v56) :: (.row false (.rSpan v68)) :: (dT 4 [])]
theorem s7_21_t : X cp n i7_3 (fr7_8 v19 v50 v51 v52 v56) k = s7_21 cp n v19 v50 v51 v52 v56 (fun v68 => k .norm (fr7_20 v19 v52 v56 v68)) := ch (fun q => s7_9 cp n v19 v50 v51 v52 v56 q) (fun c v57 => X cp n c (fr7_10 v19 v50 v51 v52 v56 v57) k) i7_2 (fun c => X cp n (.seq (.fin (.reg g7_13) [8] []) c) (fr7_8 v19 v50 v51 v52 v56) k) (fun c => by kernel_rfl) (funext fun v57 => (s7_19_t cp n v19 v50 v51 v52 v56 v57 k).trans (show _ = s7_19 cp n v19 v50 v51 v52 v56 v57 (fun v67 => k .norm (fr7_20 v19 v52 v56 v67)) from by kernel_rfl)) (by kernel_rfl) (by kernel_rfl)
def w7_8 : Fr := dT 8 ([.hdr 9, (tB v19.xCounts), (tL v19.xAck), (tB v19.xOld), (tL v19.xAt), (tL v19.xWin), (tI .u32 v19.xRecent), (tL v52)])
def fr7_23 : FF := [w7_0, dc, dc, dc, dc, dc, dc, dc, w7_8 v19 v52, (tB v56) :: (.row false (.rSpan v68)) :: (dT 14 [])]
theorem s7_22_t : X cp n i7_4 (fr7_20 v19 v52 v56 v68) k = s7_22 cp n v19 v52 v56 v68 (k .ret (fr7_23 v19 v52 v56 v68)) := by kernel_rfl
def fr7_24 : FF := [w7_0, dc, dc, dc, dc, dc, dc, dc, w7_8 v19 v52, (tB v56) :: (.row false (.rSpan v69)) :: (dT 14 [])]
theorem s7_25_t : X cp n i7_5 (fr7_8 v19 v50 v51 v52 v56) k = s7_25 cp n v19 v50 v51 v52 v56 (fun v69 => k .ret (fr7_24 v19 v52 v56 v69)) := tq (tq (congrArg (fun q => s7_21 cp n v19 v50 v51 v52 v56 q) (funext fun v68 => (s7_22_t cp n v19 v52 v56 v68 k).trans (show _ = s7_22 cp n v19 v52 v56 v68 (k .ret (fr7_24 v19 v52 v56 v68)) from by kernel_rfl))) ((s7_21_t cp n v19 v50 v51 v52 v56 (seqT (X cp n) i7_4 k)).trans (by kernel_rfl))) (by kernel_rfl)
def fr7_26 : FF := [w7_0, dc, dc, dc, dc, dc, dc, dc, w7_8 v19 v52, (tB v70) :: (.row false (.rSpan v71)) :: (dT 14 [])]
theorem s7_27_t : X cp n i7_6 (fr7_5 v18 v19 v50 v51 v52) k = s7_27 cp n v18 v19 v50 v51 v52 (fun v70 v71 => k .ret (fr7_26 v19 v52 v70 v71)) := ch (fun q => s7_7 cp n v18 v19 v50 v51 v52 q) (fun c v56 => X cp n c (fr7_8 v19 v50 v51 v52 v56) k) i7_5 (fun c => X cp n (.seq (.fin (.reg g7_12) [5, 61, 62, 63, 64] []) (.seq (.skip) c)) (fr7_5 v18 v19 v50 v51 v52) k) (fun c => by kernel_rfl) (funext fun v56 => (s7_25_t cp n v19 v50 v51 v52 v56 k).trans (show _ = s7_25 cp n v19 v50 v51 v52 v56 (fun v69 => k .ret (fr7_26 v19 v52 v56 v69)) from by kernel_rfl)) (by kernel_rfl) (by kernel_rfl)
def fr7_28 : FF := [w7_0, dc, dc, dc, dc, dc, dc, dc, dT 8 ((.hdr 9) :: (sl 0 7 (eHeard v72))), sl 7 2 (eHeard v72) ++ (dT 14 [])]
theorem s7_29_t : X cp n i7_7 (fr7_2 p0 p1 v18 v19) k = s7_29 cp n p0 p1 v18 v19 (fun v72 => k .ret (fr7_28 v72)) := ch (fun q => s7_4 cp n p0 p1 v18 v19 q (fun v53 => k .ret (fr7_28 (SHeard.mk v19.xCounts v19.xAck v19.xOld v19.xAt v19.xWin v19.xRecent v53 v19.xTwice v19.xSpans)))) (fun c v50 v51 v52 => X cp n c (fr7_5 v18 v19 v50 v51 v52) k) i7_6 (fun c => X cp n (.seq (.seq (.fin (.reg g7_7) [38, 39, 40, 41, 42, 43, 44] []) (.fin (.cond (.s 45) (.fin (.reg g7_8) [45, 46, 47, 48, 49, 50, 51, 52] []) (.skip)) [45] [])) (.seq (.seq (.fin (.reg g7_9) [53, 54] []) (.fin (.cond (.s 55) (.seq (.fin (.reg g7_10) [2, 3, 5, 7, 55, 56] [(110, 9), (120, 15), (146, 9)]) (.ret)) (.skip)) [55] [])) (.seq (.fin (.reg g7_11) [3, 57, 58, 59, 60] [(120, 15)]) c))) (fr7_2 p0 p1 v18 v19) k) (fun c => by kernel_rfl) (funext fun v50 => funext fun v51 => funext fun v52 => (s7_27_t cp n v18 v19 v50 v51 v52 k).trans (show _ = s7_27 cp n v18 v19 v50 v51 v52 (fun v70 v71 => k .ret (fr7_28 (SHeard.mk v19.xCounts v19.xAck v19.xOld v19.xAt v19.xWin v19.xRecent v52 v70 v71))) from by kernel_rfl)) (by kernel_rfl) (by kernel_rfl)
def fr7_30 : FF := [w7_0, dc, dc, dc, dc, dc, dc, dc, dT 8 ((.hdr 9) :: (sl 0 7 (eHeard v73))), sl 7 2 (eHeard v73) ++ (dT 14 [])]
def fr7_32 : FF := [(.agg (eAsked p0)) :: (.agg (eSegment p1)) :: (dT 14 []), dc, dc, dc, dc, dc, dc, dc, dc, dc]
theorem s7_31_t : X cp n i7_8 (fr7_32 p0 p1) k = s7_31 cp n p0 p1 (fun v73 => k .ret (fr7_30 v73)) := ch (fun q => s7_1 cp n p0 p1 q (k .ret (fr7_30 (SHeard.mk false 0 false 0 0 0 0 false [])))) (fun c v18 v19 => X cp n c (fr7_2 p0 p1 v18 v19) k) i7_7 (fun c => X cp n (.seq (.fin (.reg g7_0) [0, 1] []) (.seq (.fin (.reg g7_1) [11, 12, 13, 14, 15, 16] []) (.seq (.seq (.fin (.reg g7_2) [6, 17] []) (.fin (.cond (.s 18) (.seq (.fin (.reg g7_3) [2, 3, 5, 18, 19] [(110, 9), (120, 15)]) (.ret)) (.skip)) [18] [])) (.seq (.fin (.reg g7_4) [20, 21, 22, 23, 24, 25, 26, 27, 28, 29, 30, 31, 32] []) (.seq (.seq (.fin (.reg g7_5) [33] []) (.fin (.cond (.s 34) (.fin (.reg g7_6) [34, 35, 36, 37] []) (.skip)) [34] [])) c))))) (fr7_32 p0 p1) k) (fun c => by kernel_rfl) (funext fun v18 => funext fun v19 => (s7_29_t cp n p0 p1 v18 v19 k).trans (show _ = s7_29 cp n p0 p1 v18 v19 (fun v72 => k .ret (fr7_30 v72)) from by kernel_rfl)) (by kernel_rfl) (by kernel_rfl)
theorem run7 (cp : CP) (n : Nat) (p0 : SAsked) (p1 : SSegment) (k : Ret2 RW → Option R) : G7 cp (n + 1) p0 p1 (fun r0 => k ⟨.agg (eHeard r0), [], []⟩) = run2 U cp (callP cp n) n fn7 [.agg (eAsked p0), .agg (eSegment p1)] [] k := ((X_run (f := fn7) (av := [.agg (eAsked p0), .agg (eSegment p1)]) (cells := []) (code := i7_8) (fr := (fr7_32 p0 p1)) (k := k) (by kernel_rfl) (fun K => by kernel_rfl)).trans ((s7_31_t cp n p0 p1 (finK2 fn7 k)).trans (by kernel_rfl))).symm
end
/-! tideway/tidewaylaw22.heads -/
section
variable (cp : CP) (n : Nat) (k : KX R)
theorem run4 (cp : CP) (n : Nat) (k : Ret2 RW → Option R) : G4 cp (n + 1) (fun r0 => k ⟨(tB r0), [], []⟩) = run2 U cp (callP cp n) n fn4 [] [] k := by kernel_rfl
end
/-! tideway/recv.window -/
section
variable (cp : CP) (n : Nat) (k : KX R)
theorem run9 (cp : CP) (n : Nat) (p0 : SRecv) (k : Ret2 RW → Option R) : G9 cp (n + 1) p0 (fun r0 => k ⟨(tL r0), [], []⟩) = run2 U cp (callP cp n) n fn9 [.agg (eRecv p0)] [] k := by kernel_rfl
end
/-! tideway/recv.New -/
section
variable (cp : CP) (n : Nat) (k : KX R)
theorem run5 (cp : CP) (n : Nat) (p0 p1 p2 p3 : Int) (p4 p5 : Bool) (k : Ret2 RW → Option R) : G5 cp (n + 1) p0 p1 p2 p3 p4 p5 (fun r0 r1 => k ⟨.tup [.agg (eRecv r0), (tL r1)], [], []⟩) = run2 U cp (callP cp n) n fn5 [(tL p0), (tL p1), (tI .u32 p2), (tI .u32 p3), (tB p4), (tB p5)] [] k := by kernel_rfl
end
/-! tideway/recv.reach -/
section
variable (cp : CP) (n : Nat) (k : KX R)
theorem run25 (cp : CP) (n : Nat) (p0 : SRecv) (k : Ret2 RW → Option R) : G25 cp (n + 1) p0 (fun r0 => k ⟨(tL r0), [], []⟩) = run2 U cp (callP cp n) n fn25 [.agg (eRecv p0)] [] k := by kernel_rfl
end
/-! tideway/recv.limit -/
section
variable (cp : CP) (n : Nat) (k : KX R)
theorem run31 (cp : CP) (n : Nat) (p0 : SRecv) (k : Ret2 RW → Option R) : G31 cp (n + 1) p0 (fun r0 => k ⟨(tL r0), [], []⟩) = run2 U cp (callP cp n) n fn31 [.agg (eRecv p0)] [] k := by kernel_rfl
end
/-! tideway/recv.late -/
section
variable (cp : CP) (n : Nat) (k : KX R)
theorem run30 (cp : CP) (n : Nat) (p0 : SRecv) (k : Ret2 RW → Option R) : G30 cp (n + 1) p0 (fun r0 => k ⟨.clo 41 [(4, 0)], [], [(eRecv r0)]⟩) = run2 U cp (callP cp n) n fn30 [.agg (eRecv p0)] [] k := by kernel_rfl
end
/-! tideway/recv.of -/
section
variable (cp : CP) (n : Nat) (k : KX R)
theorem run42 (cp : CP) (n : Nat) (p0 : SPiece) (k : Ret2 RW → Option R) : G42 cp (n + 1) p0 (fun r0 => k ⟨.agg (eSpan r0), [], []⟩) = run2 U cp (callP cp n) n fn42 [.agg (ePiece p0)] [] k := by kernel_rfl
end
/-! slices.AppendSeq[[]tideway/api.Span,tideway/api.Span] -/
section
variable (cp : CP) (n : Nat) (p0 : (List SSpan)) (q0 : SRecv) (v103 v104 : Int) (v105 : (List SSpan)) (v106 : Int) (v107 : (List Int)) (v109 v110 : Int) (v111 v112 v113 v114 v115 : (List SSpan)) (v116 v117 : Int) (v118 : (List SSpan)) (v119 : Int) (v120 v121 v122 v123 v124 v125 v126 v127 v128 : (List SSpan)) (k : KX R)
def w1024_0 : Fr := (.hdr 15) :: (eRecv q0)
def w1024_1 : Fr := (.hdr 1) :: (.row true (.rSpan p0)) :: (dT 14 [])
def fr1024_2 : FF := [dT 1 ((.clo 41 [(32, 0)]) :: (.ptr 48 0) :: (dT 13 [])), dc, w1024_0 q0, w1024_1 p0]
def w1024_2 : Fr := dT 2 ((.ptr 48 0) :: (dT 3 ((.clo 41 [(32, 0)]) :: (dT 9 []))))
def fr1024_4 : FF := [w1024_2, dc, w1024_0 q0, w1024_1 p0]
def fr1024_6 : FF := [w1024_2, dc, dc, dc]
def y1024_5 (cp : CP) (n : Nat) : List (TV RW) → FF → (FF → Option R) → Option R := rndT 2 [7] [32, 48, 53] fr1024_6 (X cp n i1024_2)
def fr1024_8 : FF := [.yld :: (dT 5 ((.row false (.rPiece q0.xLate)) :: (tL v103) :: (tL 0) :: (dT 7 []))), dc, w1024_0 q0, w1024_1 p0]
def w1024_3 : Fr := .yld :: (dT 5 ((.row false (.rPiece q0.xLate)) :: (tL v103) :: (tL v104) :: (dT 7 [])))
def w1024_4 : Fr := (.hdr 1) :: (.row true (.rSpan v105)) :: (dT 14 [])
def fr1024_10 : FF := [w1024_3 q0 v103 v104, dc, w1024_0 q0, w1024_4 v105]
def fr1024_11 : FF := [dc, dc, w1024_0 q0, w1024_4 v105]
def w1024_5 : Fr := (.hdr 1) :: (.row true (.rSpan v105)) :: (dT 3 ((.hdr 2) :: (tL v106) :: (.row false (.ruint8 v107)) :: (dT 8 [])))
def fr1024_13 : FF := [.yld :: (dT 3 ((.ptr 53 0) :: (dT 1 ((.row false (.rPiece q0.xLate)) :: (tL v103) :: (tL v104) :: (dT 7 []))))), dc, w1024_0 q0, w1024_5 v105 v106 v107]
def fr1024_15 : FF := [.yld :: (dT 3 ((.ptr 53 0) :: (dT 1 ((.row false (.rPiece q0.xLate)) :: (tL v103) :: (tL v104) :: (dT 3 (.yld :: (.agg [(tL v106), .row false (.ruint8 v107)]) :: (.agg [(tL v109), (tL v110)]) :: (dT 1 []))))))), dc, w1024_0 q0, w1024_5 v105 v106 v107]
theorem s1024_14_t (cp : CP) (n : Nat) (q0 : SRecv) (v103 v104 : Int) (v105 : (List SSpan)) (v106 : Int) (v107 : (List Int)) (A B : FF → Option R) : (gF (fr1024_13 q0 v103 v104 v105 v106 v107) fun l => steps2 U cp (callP cp n) g1024_10031 l fun l1 => yGuard2 none l1 (A l1) (B l1)) = s1024_14 cp n q0 v103 v104 v105 v106 v107 (fun v109 v110 => A (fr1024_15 q0 v103 v104 v105 v106 v107 v109 v110)) := by kernel_rfl
def w1024_6 : Fr := (.hdr 1) :: (.row true (.rSpan v111)) :: (dT 3 ((.hdr 2) :: (tL v106) :: (.row false (.ruint8 v107)) :: (dT 8 [])))
def fr1024_17 : FF := [w1024_2, dc, w1024_0 q0, w1024_6 v106 v107 v111]
def fr1024_18 : FF := [dT 2 ((.ptr 48 0) :: (dT 3 ((.clo 41 [(32, 0)]) :: (.agg [(tL v109), (tL v110)]) :: (dT 8 [])))), dc, w1024_0 q0, w1024_5 v105 v106 v107]
theorem s1024_16_t : X cp n i1024_2 (fr1024_18 q0 v105 v106 v107 v109 v110) k = s1024_16 cp n q0 v105 v106 v107 v109 v110 (fun v111 => k .norm (fr1024_17 q0 v106 v107 v111)) := by kernel_rfl
def fr1024_20 : FF := [.yld :: (dT 3 ((.ptr 53 0) :: (dT 1 ((.row false (.rPiece q0.xLate)) :: (tL v103) :: (tL v104) :: (dT 3 ([.yld, .agg [(tL v106), .row false (.ruint8 v107)], .agg [(tL v109), (tL v110)], (tB true)])))))), dc, w1024_0 q0, w1024_6 v106 v107 v111]
theorem q1024_19_t (cp : CP) (n : Nat) (q0 : SRecv) (v103 v104 : Int) (v105 : (List SSpan)) (v106 : Int) (v107 : (List Int)) (v109 v110 : Int) (K : FF → Option R) : yRun2 (y1024_5 cp n) (.s 12) [.s 14] 15 (fr1024_15 q0 v103 v104 v105 v106 v107 v109 v110) K = s1024_16 cp n q0 v105 v106 v107 v109 v110 (fun v111 => K (fr1024_20 q0 v103 v104 v106 v107 v109 v110 v111)) := ((fun x => (show yRun2 (rndT 2 [7] [32, 48, 53] fr1024_6 x) (.s 12) [.s 14] 15 (fr1024_15 q0 v103 v104 v105 v106 v107 v109 v110) K = x (fr1024_18 q0 v105 v106 v107 v109 v110) (roundT 2 (fr1024_15 q0 v103 v104 v105 v106 v107 v109 v110) (fun l2 => putO l2 (some 15) (.sc (.bool true)) K)) from by kernel_rfl)) (X cp n i1024_2)).trans ((s1024_16_t cp n q0 v105 v106 v107 v109 v110 (roundT 2 (fr1024_15 q0 v103 v104 v105 v106 v107 v109 v110) (fun l2 => putO l2 (some 15) (.sc (.bool true)) K))).trans (by kernel_rfl))
def w1024_7 : Fr := (.hdr 1) :: (.row true (.rSpan v112)) :: (dT 14 [])
def fr1024_21 : FF := [w1024_3 q0 v103 v104, (tB false) :: (dT 15 []), w1024_0 q0, w1024_7 v112]
theorem s1024_22_t : XI cp n (y1024_5 cp n) i1024_4 (fr1024_13 q0 v103 v104 v105 v106 v107) k = s1024_22 cp n q0 v103 v104 v105 v106 v107 (fun v112 => k .norm (fr1024_21 q0 v103 v104 v112)) := (show XI cp n (y1024_5 cp n) i1024_4 (fr1024_13 q0 v103 v104 v105 v106 v107) k = gF (fr1024_13 q0 v103 v104 v105 v106 v107) fun l => steps2 U cp (callP cp n) g1024_10031 l fun l1 => yGuard2 none l1 ((fun l1 => yRun2 (y1024_5 cp n) (.s 12) [.s 14] 15 l1 (fun l2 => steps2 U cp (callP cp n) g1024_10032 l2 ((clrT [4, 12, 13, 14, 15] [(53, 2)] k) .norm))) l1) ((fun l1 => putO l1 (some 15) (.tup []) fun l2 => steps2 U cp (callP cp n) g1024_10032 l2 ((clrT [4, 12, 13, 14, 15] [(53, 2)] k) .norm)) l1) from by kernel_rfl).trans ((s1024_14_t cp n q0 v103 v104 v105 v106 v107 (fun l1 => yRun2 (y1024_5 cp n) (.s 12) [.s 14] 15 l1 (fun l2 => steps2 U cp (callP cp n) g1024_10032 l2 ((clrT [4, 12, 13, 14, 15] [(53, 2)] k) .norm))) (fun l1 => putO l1 (some 15) (.tup []) fun l2 => steps2 U cp (callP cp n) g1024_10032 l2 ((clrT [4, 12, 13, 14, 15] [(53, 2)] k) .norm))).trans (congrArg (s1024_14 cp n q0 v103 v104 v105 v106 v107) (funext fun v109 => funext fun v110 => (q1024_19_t cp n q0 v103 v104 v105 v106 v107 v109 v110 (fun l2 => steps2 U cp (callP cp n) g1024_10032 l2 ((clrT [4, 12, 13, 14, 15] [(53, 2)] k) .norm))).trans (show s1024_16 cp n q0 v105 v106 v107 v109 v110 (fun v111 => (fun l2 => steps2 U cp (callP cp n) g1024_10032 l2 ((clrT [4, 12, 13, 14, 15] [(53, 2)] k) .norm)) (fr1024_20 q0 v103 v104 v106 v107 v109 v110 v111)) = s1024_16 cp n q0 v105 v106 v107 v109 v110 (fun v111 => k .norm (fr1024_21 q0 v103 v104 v111)) from by kernel_rfl))))
def fr1024_24 : FF := [w1024_3 q0 v103 v104, dc, w1024_0 q0, w1024_7 v112]
theorem s1024_23_t : XI cp n (y1024_5 cp n) i1024_5 (fr1024_21 q0 v103 v104 v112) k = s1024_23 cp n q0 v103 v104 v112 (k .norm (fr1024_24 q0 v103 v104 v112)) := by kernel_rfl
def fr1024_25 : FF := [w1024_3 q0 v103 v104, dc, w1024_0 q0, (.hdr 1) :: (.row true (.rSpan v113)) :: (dT 14 [])]
theorem s1024_26_t : XI cp n (y1024_5 cp n) i1024_6 (fr1024_13 q0 v103 v104 v105 v106 v107) k = s1024_26 cp n q0 v103 v104 v105 v106 v107 (fun v113 => k .norm (fr1024_25 q0 v103 v104 v113)) := tq (tq (congrArg (fun q => s1024_22 cp n q0 v103 v104 v105 v106 v107 q) (funext fun v112 => (s1024_23_t cp n q0 v103 v104 v112 k).trans (show _ = s1024_23 cp n q0 v103 v104 v112 (k .norm (fr1024_25 q0 v103 v104 v112)) from by kernel_rfl))) ((s1024_22_t cp n q0 v103 v104 v105 v106 v107 (seqT (XI cp n (y1024_5 cp n)) i1024_5 k)).trans (by kernel_rfl))) (by kernel_rfl)
def fr1024_27 : FF := [w1024_3 q0 v103 v104, dc, w1024_0 q0, (.hdr 1) :: (.row true (.rSpan v114)) :: (dT 14 [])]
theorem s1024_28_t : XI cp n (y1024_5 cp n) i1024_7 (fr1024_10 q0 v103 v104 v105) k = s1024_28 cp n q0 v103 v104 v105 (fun v114 => k .norm (fr1024_27 q0 v103 v104 v114)) := ch (fun q => s1024_12 cp n q0 v103 v104 v105 q) (fun c v106 v107 => XI cp n (y1024_5 cp n) c (fr1024_13 q0 v103 v104 v105 v106 v107) k) i1024_6 (fun c => XI cp n (y1024_5 cp n) (.seq (.fin (.reg g1024_1002) [10, 11] []) c) (fr1024_10 q0 v103 v104 v105) k) (fun c => by kernel_rfl) (funext fun v106 => funext fun v107 => (s1024_26_t cp n q0 v103 v104 v105 v106 v107 k).trans (show _ = s1024_26 cp n q0 v103 v104 v105 v106 v107 (fun v113 => k .norm (fr1024_27 q0 v103 v104 v113)) from by kernel_rfl)) (by kernel_rfl) (by kernel_rfl)
def w1024_8 : Fr := (.hdr 1) :: (.row true (.rSpan v115)) :: (dT 14 [])
def fr1024_29 : FF := [w1024_3 q0 v103 v104, dc, w1024_0 q0, w1024_8 v115]
theorem s1024_30_t : XI cp n (y1024_5 cp n) i1024_8 (fr1024_10 q0 v103 v104 v105) k = s1024_30 cp n q0 v103 v104 v105 (fun v115 => k .norm (fr1024_29 q0 v103 v104 v115)) := tq ((s1024_28_t cp n q0 v103 v104 v105 (blkT 1 k)).trans (by kernel_rfl)) (by kernel_rfl)
def fr1024_32 : FF := [.yld :: (dT 5 ((.row false (.rPiece q0.xLate)) :: (tL v103) :: (tL v116) :: (dT 7 []))), dc, w1024_0 q0, w1024_8 v115]
theorem s1024_31_t : XI cp n (y1024_5 cp n) i1024_9 (fr1024_29 q0 v103 v104 v115) k = s1024_31 cp n q0 v103 v104 v115 (fun v116 => k .norm (fr1024_32 q0 v103 v115 v116)) := by kernel_rfl
def fr1024_33 : FF := [.yld :: (dT 5 ((.row false (.rPiece q0.xLate)) :: (tL v103) :: (tL v117) :: (dT 7 []))), dc, w1024_0 q0, (.hdr 1) :: (.row true (.rSpan v118)) :: (dT 14 [])]
theorem s1024_34_t : XI cp n (y1024_5 cp n) i1024_10 (fr1024_10 q0 v103 v104 v105) k = s1024_34 cp n q0 v103 v104 v105 (fun v117 v118 => k .norm (fr1024_33 q0 v103 v117 v118)) := tq (tq (congrArg (fun q => s1024_30 cp n q0 v103 v104 v105 q) (funext fun v115 => (s1024_31_t cp n q0 v103 v104 v115 k).trans (show _ = s1024_31 cp n q0 v103 v104 v115 (fun v116 => k .norm (fr1024_33 q0 v103 v116 v115)) from by kernel_rfl))) ((s1024_30_t cp n q0 v103 v104 v105 (seqT (XI cp n (y1024_5 cp n)) i1024_9 k)).trans (by kernel_rfl))) (by kernel_rfl)
def fr1024_35 : FF := [.yld :: (dT 5 ((.row false (.rPiece q0.xLate)) :: (tL v103) :: (tL v119) :: (dT 7 []))), dc, w1024_0 q0, (.hdr 1) :: (.row true (.rSpan v120)) :: (dT 14 [])]
theorem s1024_36_t : XI cp n (y1024_5 cp n) i1024_11 (fr1024_10 q0 v103 v104 v105) k = s1024_36 cp n q0 v103 v104 v105 (fun v119 v120 => k .norm (fr1024_35 q0 v103 v119 v120)) (k (.exit 0) (fr1024_11 q0 v105)) := ch (fun q => s1024_9 cp n q0 v103 v104 v105 q (k (.exit 0) (fr1024_11 q0 v105))) (fun c => XI cp n (y1024_5 cp n) c (fr1024_10 q0 v103 v104 v105) k) i1024_10 (fun c => XI cp n (y1024_5 cp n) (.seq (.reg g1024_1001) (.seq (.fin (.cond (.s 9) (.skip) (.clr [0, 6, 7, 8, 9] [] (.exit 0))) [9] []) c)) (fr1024_10 q0 v103 v104 v105) k) (fun c => by kernel_rfl) ((s1024_34_t cp n q0 v103 v104 v105 k).trans (show _ = s1024_34 cp n q0 v103 v104 v105 (fun v117 v118 => k .norm (fr1024_35 q0 v103 v117 v118)) from by kernel_rfl)) (by kernel_rfl) (by kernel_rfl)
def fr1024_37 : FF := [dc, dc, w1024_0 q0, (.hdr 1) :: (.row true (.rSpan v121)) :: (dT 14 [])]
theorem l1024_38_t (cp : CP) (n : Nat) : ∀ (m : Nat) (q0 : SRecv) (v103 v104 : Int) (v105 : (List SSpan)) (k : KX R), loopN2 (XI cp n (y1024_5 cp n) i1024_11) m (fr1024_10 q0 v103 v104 v105) k = l1024_38 cp n m q0 v103 v104 v105 (fun v121 => k (.exit 0) (fr1024_37 q0 v121))
  | 0, _, _, _, _, _ => rfl
  | m + 1, q0, v103, v104, v105, k => (loopN2_succ (XI cp n (y1024_5 cp n) i1024_11) m (fr1024_10 q0 v103 v104 v105) k).trans ((s1024_36_t cp n q0 v103 v104 v105 (loopT (XI cp n (y1024_5 cp n) i1024_11) m k)).trans (tq (congrArg (fun q => s1024_36 cp n q0 v103 v104 v105 q (k (.exit 0) (fr1024_37 q0 v105))) (funext fun v119 => funext fun v120 => l1024_38_t cp n m q0 v103 v119 v120 k)) (by kernel_rfl)))
theorem s1024_39_t : XI cp n (y1024_5 cp n) i1024_12 (fr1024_8 p0 q0 v103) k = s1024_39 cp n p0 q0 v103 (fun v121 => k (.exit 0) (fr1024_37 q0 v121)) := tq (l1024_38_t cp n n q0 v103 0 p0 k) (by kernel_rfl)
def fr1024_40 : FF := [dc, dc, w1024_0 q0, (.hdr 1) :: (.row true (.rSpan v122)) :: (dT 14 [])]
theorem s1024_41_t : XI cp n (y1024_5 cp n) i1024_13 (fr1024_8 p0 q0 v103) k = s1024_41 cp n p0 q0 v103 (fun v122 => k .norm (fr1024_40 q0 v122)) := tq ((s1024_39_t cp n p0 q0 v103 (blkT 0 k)).trans (by kernel_rfl)) (by kernel_rfl)
def fr1024_42 : FF := [dc, dc, w1024_0 q0, (.hdr 1) :: (.row true (.rSpan v123)) :: (dT 14 [])]
def fr1024_44 : FF := [.yld :: (.ptr 32 0) :: (dT 14 []), dc, w1024_0 q0, w1024_1 p0]
theorem s1024_43_t : XI cp n (y1024_5 cp n) i1024_3 (fr1024_44 p0 q0) k = s1024_43 cp n p0 q0 (fun v123 => k .norm (fr1024_42 q0 v123)) := ch (fun q => s1024_7 cp n p0 q0 q) (fun c v103 => XI cp n (y1024_5 cp n) c (fr1024_8 p0 q0 v103) k) i1024_13 (fun c => XI cp n (y1024_5 cp n) (.seq (.fin (.reg g1024_1000) [1, 5] []) c) (fr1024_44 p0 q0) k) (fun c => by kernel_rfl) (funext fun v103 => (s1024_41_t cp n p0 q0 v103 k).trans (show _ = s1024_41 cp n p0 q0 v103 (fun v122 => k .norm (fr1024_42 q0 v122)) from by kernel_rfl)) (by kernel_rfl) (by kernel_rfl)
def w1024_9 : Fr := dT 2 ((.ptr 48 0) :: (dT 13 []))
def fr1024_45 : FF := [w1024_9, dc, w1024_0 q0, (.hdr 1) :: (.row true (.rSpan v124)) :: (dT 14 [])]
theorem s1024_46_t : X cp n i1024_14 (fr1024_4 p0 q0) k = s1024_46 cp n p0 q0 (fun v124 => k .norm (fr1024_45 q0 v124)) := (show X cp n i1024_14 (fr1024_4 p0 q0) k = XI cp n (roundK2 2 [7] [32, 48, 53] (fr1024_4 p0 q0) (X cp n i1024_0) (X cp n i1024_1)) i1024_3 (fr1024_44 p0 q0) (rfnT 2 (fr1024_4 p0 q0) (clrT [6] [] k)) from rfn_eq (v := .clo 41 [(32, 0)]) (by kernel_rfl) (by kernel_rfl) (by kernel_rfl) _ _ _).trans ((congrArg (fun Y => XI cp n Y i1024_3 (fr1024_44 p0 q0) (rfnT 2 (fr1024_4 p0 q0) (clrT [6] [] k))) ((rnd_eq 2 [7] [32, 48, 53] (fr1024_4 p0 q0) i1024_0 i1024_1).trans (show rndT 2 [7] [32, 48, 53] (fr1024_4 p0 q0) (X cp n i1024_2) = (y1024_5 cp n) from by kernel_rfl))).trans ((s1024_43_t cp n p0 q0 (rfnT 2 (fr1024_4 p0 q0) (clrT [6] [] k))).trans (by kernel_rfl)))
def fr1024_47 : FF := [w1024_9, dc, w1024_0 q0, (.hdr 1) :: (.row true (.rSpan v125)) :: (dT 14 [])]
theorem s1024_48_t : X cp n i1024_15 (fr1024_4 p0 q0) k = s1024_48 cp n p0 q0 (fun v125 => k .norm (fr1024_47 q0 v125)) := tq ((s1024_46_t cp n p0 q0 (blkT 0 k)).trans (by kernel_rfl)) (by kernel_rfl)
def fr1024_49 : FF := [w1024_9, dc, w1024_0 q0, (.hdr 1) :: (.row true (.rSpan v126)) :: (dT 14 [])]
theorem s1024_50_t : X cp n i1024_16 (fr1024_2 p0 q0) k = s1024_50 cp n p0 q0 (fun v126 => k .norm (fr1024_49 q0 v126)) := ch (fun q => s1024_3 cp n p0 q0 q) (fun c => X cp n c (fr1024_4 p0 q0) k) i1024_15 (fun c => X cp n (.seq (.fin (.reg g1024_1) [1] []) c) (fr1024_2 p0 q0) k) (fun c => by kernel_rfl) ((s1024_48_t cp n p0 q0 k).trans (show _ = s1024_48 cp n p0 q0 (fun v125 => k .norm (fr1024_49 q0 v125)) from by kernel_rfl)) (by kernel_rfl) (by kernel_rfl)
def fr1024_52 : FF := [dT 4 ((.row false (.rSpan v126)) :: (dT 11 [])), dc, w1024_0 q0, dc]
theorem s1024_51_t : X cp n i1024_17 (fr1024_49 q0 v126) k = s1024_51 cp n q0 v126 (k .ret (fr1024_52 q0 v126)) := by kernel_rfl
def fr1024_53 : FF := [dT 4 ((.row false (.rSpan v127)) :: (dT 11 [])), dc, w1024_0 q0, dc]
theorem s1024_54_t : X cp n i1024_18 (fr1024_2 p0 q0) k = s1024_54 cp n p0 q0 (fun v127 => k .ret (fr1024_53 q0 v127)) := tq (tq (congrArg (fun q => s1024_50 cp n p0 q0 q) (funext fun v126 => (s1024_51_t cp n q0 v126 k).trans (show _ = s1024_51 cp n q0 v126 (k .ret (fr1024_53 q0 v126)) from by kernel_rfl))) ((s1024_50_t cp n p0 q0 (seqT (X cp n) i1024_17 k)).trans (by kernel_rfl))) (by kernel_rfl)
def fr1024_55 : FF := [dT 4 ((.row false (.rSpan v128)) :: (dT 11 [])), dc, w1024_0 q0, dc]
def fr1024_57 : FF := [(.row true (.rSpan p0)) :: (.clo 41 [(32, 0)]) :: (dT 14 []), dc, w1024_0 q0, dc]
theorem s1024_56_t : X cp n i1024_19 (fr1024_57 p0 q0) k = s1024_56 cp n p0 q0 (fun v128 => k .ret (fr1024_55 q0 v128)) := ch (fun q => s1024_1 cp n p0 q0 q) (fun c => X cp n c (fr1024_2 p0 q0) k) i1024_18 (fun c => X cp n (.seq (.fin (.reg g1024_0) [0, 4] []) c) (fr1024_57 p0 q0) k) (fun c => by kernel_rfl) ((s1024_54_t cp n p0 q0 k).trans (show _ = s1024_54 cp n p0 q0 (fun v127 => k .ret (fr1024_55 q0 v127)) from by kernel_rfl)) (by kernel_rfl) (by kernel_rfl)
theorem run1024 (cp : CP) (n : Nat) (p0 : (List SSpan)) (q0 : SRecv) (k : Ret2 RW → Option R) : G1024 cp (n + 1) p0 q0 (fun r0 r1 => k ⟨.row false (.rSpan r0), [(eRecv r1)], []⟩) = run2 U cp (callP cp n) n fn1024 [.row true (.rSpan p0), .clo 41 [(32, 0)]] [(eRecv q0)] k := ((X_run (f := fn1024) (av := [.row true (.rSpan p0), .clo 41 [(32, 0)]]) (cells := [(eRecv q0)]) (code := i1024_19) (fr := (fr1024_57 p0 q0)) (k := k) (by kernel_rfl) (fun K => by kernel_rfl)).trans ((s1024_56_t cp n p0 q0 (finK2 fn1024 k)).trans (by kernel_rfl))).symm
end
/-! slices.Collect[tideway/api.Span] -/
section
variable (cp : CP) (n : Nat) (k : KX R)
theorem run1023 (cp : CP) (n : Nat) (q0 : SRecv) (k : Ret2 RW → Option R) : G1023 cp (n + 1) q0 (fun r0 r1 => k ⟨.row false (.rSpan r0), [(eRecv r1)], []⟩) = run2 U cp (callP cp n) n fn1023 [.clo 41 [(5, 0)]] [(eRecv q0)] k := by kernel_rfl
end
/-! slices.Index[[]tideway/api.Span,tideway/api.Span] -/
section
variable (cp : CP) (n : Nat) (p0 : (List SSpan)) (p1 : SSpan) (v135 v136 v137 v138 v139 v140 v141 v142 : Int) (k : KX R)
def w50_0 : Fr := dT 3 ((.hdr 2) :: ((eSpan p1) ++ (dT 10 [])))
def fr50_2 : FF := [(.row false (.rSpan p0)) :: (dT 2 ((.ptr 19 0) :: (dT 12 []))), w50_0 p1]
def fr50_4 : FF := [(.row false (.rSpan p0)) :: (dT 2 ((.ptr 19 0) :: (dT 3 ((tL v135) :: (tL 0) :: (dT 7 []))))), w50_0 p1]
def fr50_6 : FF := [(.row false (.rSpan p0)) :: (dT 2 ((.ptr 19 0) :: (dT 3 ((tL v135) :: (tL v137) :: (dT 7 []))))), w50_0 p1]
def fr50_7 : FF := [dT 4 ((tL v136) :: (dT 11 [])), dc]
def fr50_8 : FF := [dc, dc]
def fr50_9 : FF := [(.row false (.rSpan p0)) :: (dT 2 ((.ptr 19 0) :: (dT 3 ((tL v135) :: (tL v136) :: (dT 7 []))))), w50_0 p1]
theorem s50_5_t : X cp n i50_0 (fr50_9 p0 p1 v135 v136) k = s50_5 cp n p0 p1 v135 v136 (fun v137 => k .norm (fr50_6 p0 p1 v135 v137)) (k .ret (fr50_7 v136)) (k (.exit 0) fr50_8) := by kernel_rfl
def fr50_10 : FF := [dT 4 ((tL v138) :: (dT 11 [])), dc]
theorem l50_11_t (cp : CP) (n : Nat) : ∀ (m : Nat) (p0 : (List SSpan)) (p1 : SSpan) (v135 v136 : Int) (k : KX R), loopN2 (X cp n i50_0) m (fr50_9 p0 p1 v135 v136) k = l50_11 cp n m p0 p1 v135 v136 (fun v138 => k .ret (fr50_10 v138)) (k (.exit 0) fr50_8)
  | 0, _, _, _, _, _ => rfl
  | m + 1, p0, p1, v135, v136, k => (loopN2_succ (X cp n i50_0) m (fr50_9 p0 p1 v135 v136) k).trans ((s50_5_t cp n p0 p1 v135 v136 (loopT (X cp n i50_0) m k)).trans (tq (congrArg (fun q => s50_5 cp n p0 p1 v135 v136 q (k .ret (fr50_10 v136)) (k (.exit 0) fr50_8)) (funext fun v137 => l50_11_t cp n m p0 p1 v135 v137 k)) (by kernel_rfl)))
theorem s50_12_t : X cp n i50_1 (fr50_4 p0 p1 v135) k = s50_12 cp n p0 p1 v135 (fun v138 => k .ret (fr50_10 v138)) (k (.exit 0) fr50_8) := tq (l50_11_t cp n n p0 p1 v135 0 k) (by kernel_rfl)
def fr50_13 : FF := [dT 4 ((tL v139) :: (dT 11 [])), dc]
theorem s50_14_t : X cp n i50_2 (fr50_4 p0 p1 v135) k = s50_14 cp n p0 p1 v135 (k .norm fr50_8) (fun v139 => k .ret (fr50_13 v139)) := tq ((s50_12_t cp n p0 p1 v135 (blkT 0 k)).trans (by kernel_rfl)) (by kernel_rfl)
def fr50_15 : FF := [dT 4 ((tL v140) :: (dT 11 [])), dc]
theorem s50_16_t : X cp n i50_3 (fr50_2 p0 p1) k = s50_16 cp n p0 p1 (k .norm fr50_8) (fun v140 => k .ret (fr50_15 v140)) := ch (fun q => s50_3 cp n p0 p1 q) (fun c v135 => X cp n c (fr50_4 p0 p1 v135) k) i50_2 (fun c => X cp n (.seq (.fin (.reg g50_1) [6] []) c) (fr50_2 p0 p1) k) (fun c => by kernel_rfl) (funext fun v135 => (s50_14_t cp n p0 p1 v135 k).trans (show _ = s50_14 cp n p0 p1 v135 (k .norm fr50_8) (fun v139 => k .ret (fr50_15 v139)) from by kernel_rfl)) (by kernel_rfl) (by kernel_rfl)
def fr50_18 : FF := [dT 4 ((tL (-1)) :: (dT 11 [])), dc]
theorem s50_17_t : X cp n i50_4 fr50_8 k = s50_17 cp n (k .ret fr50_18) := by kernel_rfl
def fr50_19 : FF := [dT 4 ((tL v141) :: (dT 11 [])), dc]
theorem s50_20_t : X cp n i50_5 (fr50_2 p0 p1) k = s50_20 cp n p0 p1 (fun v141 => k .ret (fr50_19 v141)) := tq (tq (congrArg (fun q => s50_16 cp n p0 p1 q (fun v140 => k .ret (fr50_19 v140))) ((s50_17_t cp n  k).trans (show _ = s50_17 cp n (k .ret (fr50_19 (-1))) from by kernel_rfl))) ((s50_16_t cp n p0 p1 (seqT (X cp n) i50_4 k)).trans (by kernel_rfl))) (by kernel_rfl)
def fr50_21 : FF := [dT 4 ((tL v142) :: (dT 11 [])), dc]
def fr50_23 : FF := [(.row false (.rSpan p0)) :: (.agg (eSpan p1)) :: (dT 14 []), dc]
theorem s50_22_t : X cp n i50_6 (fr50_23 p0 p1) k = s50_22 cp n p0 p1 (fun v142 => k .ret (fr50_21 v142)) := ch (fun q => s50_1 cp n p0 p1 q) (fun c => X cp n c (fr50_2 p0 p1) k) i50_5 (fun c => X cp n (.seq (.fin (.reg g50_0) [1, 4] []) c) (fr50_23 p0 p1) k) (fun c => by kernel_rfl) ((s50_20_t cp n p0 p1 k).trans (show _ = s50_20 cp n p0 p1 (fun v141 => k .ret (fr50_21 v141)) from by kernel_rfl)) (by kernel_rfl) (by kernel_rfl)
theorem run50 (cp : CP) (n : Nat) (p0 : (List SSpan)) (p1 : SSpan) (k : Ret2 RW → Option R) : G50 cp (n + 1) p0 p1 (fun r0 => k ⟨(tL r0), [], []⟩) = run2 U cp (callP cp n) n fn50 [.row false (.rSpan p0), .agg (eSpan p1)] [] k := ((X_run (f := fn50) (av := [.row false (.rSpan p0), .agg (eSpan p1)]) (cells := []) (code := i50_6) (fr := (fr50_23 p0 p1)) (k := k) (by kernel_rfl) (fun K => by kernel_rfl)).trans ((s50_22_t cp n p0 p1 (finK2 fn50 k)).trans (by kernel_rfl))).symm
end
/-! slices.Contains[[]tideway/api.Span,tideway/api.Span] -/
section
variable (cp : CP) (n : Nat) (k : KX R)
theorem run38 (cp : CP) (n : Nat) (p0 : (List SSpan)) (p1 : SSpan) (k : Ret2 RW → Option R) : G38 cp (n + 1) p0 p1 (fun r0 => k ⟨(tB r0), [], []⟩) = run2 U cp (callP cp n) n fn38 [.row false (.rSpan p0), .agg (eSpan p1)] [] k := by kernel_rfl
end
/-! tideway/recv.pieces -/
section
variable (cp : CP) (n : Nat) (p0 : SRecv) (v96 v97 v98 v100 v101 : Int) (v133 : (List SSpan)) (v134 v135 v138 : Int) (v139 v140 v141 v142 : Bool) (k : KX R)
def w26_0 : Fr := dT 2 ((.hdr 15) :: (sl 0 13 (eRecv p0)))
def w26_1 : Fr := sl 13 2 (eRecv p0) ++ (dT 14 [])
def fr26_2 : FF := [dT 1 ((.ptr 82 0) :: (dT 1 ((tL p0.xNext) :: (dT 12 [])))), dc, dc, dc, dc, w26_0 p0, w26_1 p0, dc]
def fr26_4 : FF := [dT 1 ((.ptr 82 0) :: (dT 1 ((tL p0.xNext) :: (dT 9 ([.row false (.rPiece p0.xLate), (tL v96), (tL 0)]))))), dc, dc, dc, dc, w26_0 p0, w26_1 p0, dc]
def fr26_6 : FF := [dT 1 ((.ptr 82 0) :: (dT 1 ((tL v100) :: (dT 9 ([.row false (.rPiece p0.xLate), (tL v96), (tL v101)]))))), dc, dc, dc, dc, w26_0 p0, w26_1 p0, dc]
def fr26_7 : FF := [dT 2 ((tB false) :: (dT 13 [])), dc, dc, dc, dc, dc, dc, dc]
def fr26_8 : FF := [dT 1 ((.ptr 82 0) :: (dT 14 [])), dc, dc, dc, dc, w26_0 p0, w26_1 p0, dc]
def fr26_9 : FF := [dT 1 ((.ptr 82 0) :: (dT 1 ((tL v97) :: (dT 9 ([.row false (.rPiece p0.xLate), (tL v96), (tL v98)]))))), dc, dc, dc, dc, w26_0 p0, w26_1 p0, dc]
theorem s26_5_t : X cp n i26_0 (fr26_9 p0 v96 v97 v98) k = s26_5 cp n p0 v96 v97 v98 (fun v100 v101 => k .norm (fr26_6 p0 v96 v100 v101)) (k .ret fr26_7) (k (.exit 0) (fr26_8 p0)) := by kernel_rfl
theorem l26_10_t (cp : CP) (n : Nat) : ∀ (m : Nat) (p0 : SRecv) (v96 v97 v98 : Int) (k : KX R), loopN2 (X cp n i26_0) m (fr26_9 p0 v96 v97 v98) k = l26_10 cp n m p0 v96 v97 v98 (k .ret fr26_7) (k (.exit 0) (fr26_8 p0))
  | 0, _, _, _, _, _ => rfl
  | m + 1, p0, v96, v97, v98, k => (loopN2_succ (X cp n i26_0) m (fr26_9 p0 v96 v97 v98) k).trans ((s26_5_t cp n p0 v96 v97 v98 (loopT (X cp n i26_0) m k)).trans (tq (congrArg (fun q => s26_5 cp n p0 v96 v97 v98 q (k .ret fr26_7) (k (.exit 0) (fr26_8 p0))) (funext fun v100 => funext fun v101 => l26_10_t cp n m p0 v96 v100 v101 k)) (by kernel_rfl)))
theorem s26_11_t : X cp n i26_1 (fr26_4 p0 v96) k = s26_11 cp n p0 v96 (k .ret fr26_7) (k (.exit 0) (fr26_8 p0)) := tq (l26_10_t cp n n p0 v96 p0.xNext 0 k) (by kernel_rfl)
theorem s26_12_t : X cp n i26_2 (fr26_4 p0 v96) k = s26_12 cp n p0 v96 (k .norm (fr26_8 p0)) (k .ret fr26_7) := tq ((s26_11_t cp n p0 v96 (blkT 0 k)).trans (by kernel_rfl)) (by kernel_rfl)
theorem s26_13_t : X cp n i26_3 (fr26_2 p0) k = s26_13 cp n p0 (k .norm (fr26_8 p0)) (k .ret fr26_7) := ch (fun q => s26_3 cp n p0 q) (fun c v96 => X cp n c (fr26_4 p0 v96) k) i26_2 (fun c => X cp n (.seq (.fin (.reg g26_2) [12] []) c) (fr26_2 p0) k) (fun c => by kernel_rfl) (funext fun v96 => s26_12_t cp n p0 v96 k) (by kernel_rfl) (by kernel_rfl)
def w26_2 : Fr := dT 1 ((.ptr 82 0) :: (dT 5 ((.row false (.rSpan v133)) :: (dT 8 []))))
def fr26_15 : FF := [w26_2 v133, dc, dc, dc, dc, w26_0 p0, w26_1 p0, dc]
def w26_3 : Fr := dT 14 ([.row false (.rSpan p0.xFirst), (tL v134)])
def fr26_17 : FF := [w26_2 v133, dc, dc, w26_3 p0 v134, (tL 0) :: (dT 15 []), w26_0 p0, w26_1 p0, dc]
def fr26_19 : FF := [w26_2 v133, dc, dc, w26_3 p0 v134, (tL v138) :: (dT 15 []), w26_0 p0, w26_1 p0, dc]
def fr26_20 : FF := [dc, dc, dc, dc, dc, dc, dc, dc]
def fr26_21 : FF := [w26_2 v133, dc, dc, w26_3 p0 v134, (tL v135) :: (dT 15 []), w26_0 p0, w26_1 p0, dc]
theorem s26_18_t : X cp n i26_4 (fr26_21 p0 v133 v134 v135) k = s26_18 cp n p0 v133 v134 v135 (fun v138 => k .norm (fr26_19 p0 v133 v134 v138)) (k .ret fr26_7) (k (.exit 2) fr26_20) := by kernel_rfl
theorem l26_22_t (cp : CP) (n : Nat) : ∀ (m : Nat) (p0 : SRecv) (v133 : (List SSpan)) (v134 v135 : Int) (k : KX R), loopN2 (X cp n i26_4) m (fr26_21 p0 v133 v134 v135) k = l26_22 cp n m p0 v133 v134 v135 (k .ret fr26_7) (k (.exit 2) fr26_20)
  | 0, _, _, _, _, _ => rfl
  | m + 1, p0, v133, v134, v135, k => (loopN2_succ (X cp n i26_4) m (fr26_21 p0 v133 v134 v135) k).trans ((s26_18_t cp n p0 v133 v134 v135 (loopT (X cp n i26_4) m k)).trans (tq (congrArg (fun q => s26_18 cp n p0 v133 v134 v135 q (k .ret fr26_7) (k (.exit 2) fr26_20)) (funext fun v138 => l26_22_t cp n m p0 v133 v134 v138 k)) (by kernel_rfl)))
theorem s26_23_t : X cp n i26_5 (fr26_17 p0 v133 v134) k = s26_23 cp n p0 v133 v134 (k .ret fr26_7) (k (.exit 2) fr26_20) := tq (l26_22_t cp n n p0 v133 v134 0 k) (by kernel_rfl)
theorem s26_24_t : X cp n i26_6 (fr26_17 p0 v133 v134) k = s26_24 cp n p0 v133 v134 (k .norm fr26_20) (k .ret fr26_7) := tq ((s26_23_t cp n p0 v133 v134 (blkT 2 k)).trans (by kernel_rfl)) (by kernel_rfl)
theorem s26_25_t : X cp n i26_7 (fr26_15 p0 v133) k = s26_25 cp n p0 v133 (k .norm fr26_20) (k .ret fr26_7) := ch (fun q => s26_16 cp n p0 v133 q) (fun c v134 => X cp n c (fr26_17 p0 v133 v134) k) i26_6 (fun c => X cp n (.seq (.fin (.reg g26_11) [61] []) c) (fr26_15 p0 v133) k) (fun c => by kernel_rfl) (funext fun v134 => s26_24_t cp n p0 v133 v134 k) (by kernel_rfl) (by kernel_rfl)
def fr26_27 : FF := [dT 2 ((tB true) :: (dT 13 [])), dc, dc, dc, dc, dc, dc, dc]
theorem s26_26_t : X cp n i26_8 fr26_20 k = s26_26 cp n (k .ret fr26_27) := by kernel_rfl
def fr26_28 : FF := [dT 2 ((tB v139) :: (dT 13 [])), dc, dc, dc, dc, dc, dc, dc]
theorem s26_29_t : X cp n i26_9 (fr26_15 p0 v133) k = s26_29 cp n p0 v133 (fun v139 => k .ret (fr26_28 v139)) := tq (tq (congrArg (fun q => s26_25 cp n p0 v133 q (k .ret (fr26_28 false))) ((s26_26_t cp n  k).trans (show _ = s26_26 cp n (k .ret (fr26_28 true)) from by kernel_rfl))) ((s26_25_t cp n p0 v133 (seqT (X cp n) i26_8 k)).trans (by kernel_rfl))) (by kernel_rfl)
def fr26_30 : FF := [dT 2 ((tB v140) :: (dT 13 [])), dc, dc, dc, dc, dc, dc, dc]
theorem s26_31_t : X cp n i26_10 (fr26_8 p0) k = s26_31 cp n p0 (fun v140 => k .ret (fr26_30 v140)) := ch (fun q => s26_14 cp n p0 q) (fun c v133 => X cp n c (fr26_15 p0 v133) k) i26_9 (fun c => X cp n (.seq (.fin (.reg g26_10) [58, 59, 60] [(104, 15)]) c) (fr26_8 p0) k) (fun c => by kernel_rfl) (funext fun v133 => (s26_29_t cp n p0 v133 k).trans (show _ = s26_29 cp n p0 v133 (fun v139 => k .ret (fr26_30 v139)) from by kernel_rfl)) (by kernel_rfl) (by kernel_rfl)
def fr26_32 : FF := [dT 2 ((tB v141) :: (dT 13 [])), dc, dc, dc, dc, dc, dc, dc]
theorem s26_33_t : X cp n i26_11 (fr26_2 p0) k = s26_33 cp n p0 (fun v141 => k .ret (fr26_32 v141)) := tq (tq (congrArg (fun q => s26_13 cp n p0 q (k .ret (fr26_32 false))) ((s26_31_t cp n p0 k).trans (show _ = s26_31 cp n p0 (fun v140 => k .ret (fr26_32 v140)) from by kernel_rfl))) ((s26_13_t cp n p0 (seqT (X cp n) i26_10 k)).trans (by kernel_rfl))) (by kernel_rfl)
def fr26_34 : FF := [dT 2 ((tB v142) :: (dT 13 [])), dc, dc, dc, dc, dc, dc, dc]
def fr26_36 : FF := [(.agg (eRecv p0)) :: (dT 15 []), dc, dc, dc, dc, dc, dc, dc]
theorem s26_35_t : X cp n i26_12 (fr26_36 p0) k = s26_35 cp n p0 (fun v142 => k .ret (fr26_34 v142)) := ch (fun q => s26_1 cp n p0 q) (fun c => X cp n c (fr26_2 p0) k) i26_11 (fun c => X cp n (.seq (.fin (.reg g26_0) [0, 2] []) (.seq (.fin (.reg g26_1) [10, 11] []) c)) (fr26_36 p0) k) (fun c => by kernel_rfl) ((s26_33_t cp n p0 k).trans (show _ = s26_33 cp n p0 (fun v141 => k .ret (fr26_34 v141)) from by kernel_rfl)) (by kernel_rfl) (by kernel_rfl)
theorem run26 (cp : CP) (n : Nat) (p0 : SRecv) (k : Ret2 RW → Option R) : G26 cp (n + 1) p0 (fun r0 => k ⟨(tB r0), [], []⟩) = run2 U cp (callP cp n) n fn26 [.agg (eRecv p0)] [] k := ((X_run (f := fn26) (av := [.agg (eRecv p0)]) (cells := []) (code := i26_12) (fr := (fr26_36 p0)) (k := k) (by kernel_rfl) (fun K => by kernel_rfl)).trans ((s26_35_t cp n p0 (finK2 fn26 k)).trans (by kernel_rfl))).symm
end
/-! tideway/recv.Check -/
section
variable (cp : CP) (n : Nat) (p0 : SRecv) (v97 v98 v99 : Int) (k : KX R)
def fr10_2 : FF := [dT 1 ((.ptr 102 0) :: (dT 14 [])), dc, dc, dc, dc, dc, dT 6 ((.hdr 15) :: (sl 0 9 (eRecv p0))), sl 9 6 (eRecv p0) ++ (dT 10 [])]
def fr10_4 : FF := [dT 2 ((tL 230) :: (dT 13 [])), dc, dc, dc, dc, dc, dc, dc]
def fr10_6 : FF := [dT 2 ((tL v97) :: (dT 13 [])), dc, dc, dc, dc, dc, dc, dc]
theorem s10_5_t : X cp n i10_0 (fr10_2 p0) k = s10_5 cp n p0 (fun v97 => k .ret (fr10_6 v97)) := by kernel_rfl
def fr10_7 : FF := [dT 2 ((tL v98) :: (dT 13 [])), dc, dc, dc, dc, dc, dc, dc]
theorem s10_8_t : X cp n i10_1 (fr10_2 p0) k = s10_8 cp n p0 (fun v98 => k .ret (fr10_7 v98)) := ch (fun q => s10_3 cp n p0 q (k .ret (fr10_7 230))) (fun c => X cp n c (fr10_2 p0) k) i10_0 (fun c => X cp n (.seq (.fin (.reg g10_1) [4, 5, 6, 7, 8, 9, 10, 11, 12, 13, 14, 15, 16, 17, 18, 19, 20, 21, 22, 23, 24, 25, 26, 27, 28, 29, 30, 31, 32, 33, 34, 35, 36, 37, 38, 39, 40, 41, 42] []) (.seq (.seq (.fin (.reg g10_2) [3, 43, 44, 45, 46, 47, 48, 49, 50, 51, 52, 53, 54, 55, 56, 57, 58, 59, 60, 61, 62, 63, 64, 65, 66, 67, 68, 69, 70, 71, 72, 73, 74, 75, 76, 77] []) (.fin (.cond (.s 78) (.seq (.fin (.reg g10_3) [1, 78] [(102, 15)]) (.ret)) (.skip)) [78] [])) c)) (fr10_2 p0) k) (fun c => by kernel_rfl) ((s10_5_t cp n p0 k).trans (show _ = s10_5 cp n p0 (fun v97 => k .ret (fr10_7 v97)) from by kernel_rfl)) (by kernel_rfl) (by kernel_rfl)
def fr10_9 : FF := [dT 2 ((tL v99) :: (dT 13 [])), dc, dc, dc, dc, dc, dc, dc]
def fr10_11 : FF := [(.agg (eRecv p0)) :: (dT 15 []), dc, dc, dc, dc, dc, dc, dc]
theorem s10_10_t : X cp n i10_2 (fr10_11 p0) k = s10_10 cp n p0 (fun v99 => k .ret (fr10_9 v99)) := ch (fun q => s10_1 cp n p0 q) (fun c => X cp n c (fr10_2 p0) k) i10_1 (fun c => X cp n (.seq (.fin (.reg g10_0) [0, 2] []) c) (fr10_11 p0) k) (fun c => by kernel_rfl) ((s10_8_t cp n p0 k).trans (show _ = s10_8 cp n p0 (fun v98 => k .ret (fr10_9 v98)) from by kernel_rfl)) (by kernel_rfl) (by kernel_rfl)
theorem run10 (cp : CP) (n : Nat) (p0 : SRecv) (k : Ret2 RW → Option R) : G10 cp (n + 1) p0 (fun r0 => k ⟨(tL r0), [], []⟩) = run2 U cp (callP cp n) n fn10 [.agg (eRecv p0)] [] k := ((X_run (f := fn10) (av := [.agg (eRecv p0)]) (cells := []) (code := i10_2) (fr := (fr10_11 p0)) (k := k) (by kernel_rfl) (fun K => by kernel_rfl)).trans ((s10_10_t cp n p0 (finK2 fn10 k)).trans (by kernel_rfl))).symm
end
/-! tideway/recv.copied -/
section
variable (cp : CP) (n : Nat) (p0 : SRecv) (v104 : (List Int)) (v105 : (List SSpan)) (v106 v107 : Int) (v108 : (List SPiece)) (v110 : Int) (v111 v112 v113 v114 v115 : (List SPiece)) (v116 : SRecv) (k : KX R)
def w11_0 : Fr := dT 5 ([.hdr 15, (tL p0.xNext), .row true (.ruint8 v104), .row true (.rPiece []), (tL p0.xCap), (tL p0.xShift), (tL p0.xEdge), (tI .u32 p0.xRecent), (tB p0.xStamps), (tB p0.xSacks), (tL p0.xFin)])
def w11_1 : Fr := [(tB p0.xDone), .row true (.rSpan v105), (tI .u32 p0.xIrs), (tI .u32 p0.xOwn), (tB p0.xStamp), .hdr 15, (tL 0), .row true (.ruint8 []), .row true (.rPiece []), (tL 0), (tL 0), (tL 0), (tI .u32 0), (tB false), (tB false), (tL 0)]
def w11_2 : Fr := (tB false) :: (.row true (.rSpan [])) :: (tI .u32 0) :: (tI .u32 0) :: (tB false) :: (dT 11 [])
def fr11_2 : FF := [dT 1 ((.ptr 37 0) :: (.ptr 53 0) :: (.row false (.rPiece p0.xLate)) :: (dT 12 [])), dc, w11_0 p0 v104, w11_1 p0 v105, w11_2]
def w11_3 : Fr := dT 1 ((.ptr 37 0) :: (.ptr 53 0) :: (dT 13 []))
def fr11_4 : FF := [w11_3, dT 2 ((.row false (.rPiece p0.xLate)) :: (tL v106) :: (tL 0) :: (dT 11 [])), w11_0 p0 v104, w11_1 p0 v105, w11_2]
def fr11_6 : FF := [w11_3, dT 2 ((.row false (.rPiece p0.xLate)) :: (tL v106) :: (tL v110) :: (dT 11 [])), dT 5 ([.hdr 15, (tL p0.xNext), .row true (.ruint8 v104), .row true (.rPiece v111), (tL p0.xCap), (tL p0.xShift), (tL p0.xEdge), (tI .u32 p0.xRecent), (tB p0.xStamps), (tB p0.xSacks), (tL p0.xFin)]), w11_1 p0 v105, w11_2]
def w11_4 : Fr := dT 5 ([.hdr 15, (tL p0.xNext), .row true (.ruint8 v104), .row true (.rPiece v108), (tL p0.xCap), (tL p0.xShift), (tL p0.xEdge), (tI .u32 p0.xRecent), (tB p0.xStamps), (tB p0.xSacks), (tL p0.xFin)])
def fr11_7 : FF := [w11_3, dc, w11_4 p0 v104 v108, w11_1 p0 v105, w11_2]
def fr11_8 : FF := [w11_3, dT 2 ((.row false (.rPiece p0.xLate)) :: (tL v106) :: (tL v107) :: (dT 11 [])), w11_4 p0 v104 v108, w11_1 p0 v105, w11_2]
theorem s11_5_t : X cp n i11_0 (fr11_8 p0 v104 v105 v106 v107 v108) k = s11_5 cp n p0 v104 v105 v106 v107 v108 (fun v110 v111 => k .norm (fr11_6 p0 v104 v105 v106 v110 v111)) (k (.exit 0) (fr11_7 p0 v104 v105 v108)) := by kernel_rfl
def fr11_9 : FF := [w11_3, dc, dT 5 ([.hdr 15, (tL p0.xNext), .row true (.ruint8 v104), .row true (.rPiece v112), (tL p0.xCap), (tL p0.xShift), (tL p0.xEdge), (tI .u32 p0.xRecent), (tB p0.xStamps), (tB p0.xSacks), (tL p0.xFin)]), w11_1 p0 v105, w11_2]
theorem l11_10_t (cp : CP) (n : Nat) : ∀ (m : Nat) (p0 : SRecv) (v104 : (List Int)) (v105 : (List SSpan)) (v106 v107 : Int) (v108 : (List SPiece)) (k : KX R), loopN2 (X cp n i11_0) m (fr11_8 p0 v104 v105 v106 v107 v108) k = l11_10 cp n m p0 v104 v105 v106 v107 v108 (fun v112 => k (.exit 0) (fr11_9 p0 v104 v105 v112))
  | 0, _, _, _, _, _, _, _ => rfl
  | m + 1, p0, v104, v105, v106, v107, v108, k => (loopN2_succ (X cp n i11_0) m (fr11_8 p0 v104 v105 v106 v107 v108) k).trans ((s11_5_t cp n p0 v104 v105 v106 v107 v108 (loopT (X cp n i11_0) m k)).trans (tq (congrArg (fun q => s11_5 cp n p0 v104 v105 v106 v107 v108 q (k (.exit 0) (fr11_9 p0 v104 v105 v108))) (funext fun v110 => funext fun v111 => l11_10_t cp n m p0 v104 v105 v106 v110 v111 k)) (by kernel_rfl)))
theorem s11_11_t : X cp n i11_1 (fr11_4 p0 v104 v105 v106) k = s11_11 cp n p0 v104 v105 v106 (fun v112 => k (.exit 0) (fr11_9 p0 v104 v105 v112)) := tq (l11_10_t cp n n p0 v104 v105 v106 0 [] k) (by kernel_rfl)
def fr11_12 : FF := [w11_3, dc, dT 5 ([.hdr 15, (tL p0.xNext), .row true (.ruint8 v104), .row true (.rPiece v113), (tL p0.xCap), (tL p0.xShift), (tL p0.xEdge), (tI .u32 p0.xRecent), (tB p0.xStamps), (tB p0.xSacks), (tL p0.xFin)]), w11_1 p0 v105, w11_2]
theorem s11_13_t : X cp n i11_2 (fr11_4 p0 v104 v105 v106) k = s11_13 cp n p0 v104 v105 v106 (fun v113 => k .norm (fr11_12 p0 v104 v105 v113)) := tq ((s11_11_t cp n p0 v104 v105 v106 (blkT 0 k)).trans (by kernel_rfl)) (by kernel_rfl)
def w11_5 : Fr := dT 5 ([.hdr 15, (tL p0.xNext), .row true (.ruint8 v104), .row true (.rPiece v114), (tL p0.xCap), (tL p0.xShift), (tL p0.xEdge), (tI .u32 p0.xRecent), (tB p0.xStamps), (tB p0.xSacks), (tL p0.xFin)])
def fr11_14 : FF := [w11_3, dc, w11_5 p0 v104 v114, w11_1 p0 v105, w11_2]
theorem s11_15_t : X cp n i11_3 (fr11_2 p0 v104 v105) k = s11_15 cp n p0 v104 v105 (fun v114 => k .norm (fr11_14 p0 v104 v105 v114)) := ch (fun q => s11_3 cp n p0 v104 v105 q) (fun c v106 => X cp n c (fr11_4 p0 v104 v105 v106) k) i11_2 (fun c => X cp n (.seq (.fin (.reg g11_5) [3] []) c) (fr11_2 p0 v104 v105) k) (fun c => by kernel_rfl) (funext fun v106 => (s11_13_t cp n p0 v104 v105 v106 k).trans (show _ = s11_13 cp n p0 v104 v105 v106 (fun v113 => k .norm (fr11_14 p0 v104 v105 v113)) from by kernel_rfl)) (by kernel_rfl) (by kernel_rfl)
def w11_6 : Fr := dT 2 ((.ptr 53 0) :: (dT 13 []))
def w11_7 : Fr := (tB p0.xDone) :: (.row true (.rSpan v105)) :: (tI .u32 p0.xIrs) :: (tI .u32 p0.xOwn) :: (tB p0.xStamp) :: (dT 11 [])
def fr11_17 : FF := [w11_6, dc, dc, w11_5 p0 v104 v114, w11_7 p0 v105]
theorem s11_16_t : X cp n i11_4 (fr11_14 p0 v104 v105 v114) k = s11_16 cp n p0 v104 v105 v114 (k .ret (fr11_17 p0 v104 v105 v114)) := by kernel_rfl
def fr11_18 : FF := [w11_6, dc, dc, dT 5 ([.hdr 15, (tL p0.xNext), .row true (.ruint8 v104), .row true (.rPiece v115), (tL p0.xCap), (tL p0.xShift), (tL p0.xEdge), (tI .u32 p0.xRecent), (tB p0.xStamps), (tB p0.xSacks), (tL p0.xFin)]), w11_7 p0 v105]
theorem s11_19_t : X cp n i11_5 (fr11_2 p0 v104 v105) k = s11_19 cp n p0 v104 v105 (fun v115 => k .ret (fr11_18 p0 v104 v105 v115)) := tq (tq (congrArg (fun q => s11_15 cp n p0 v104 v105 q) (funext fun v114 => (s11_16_t cp n p0 v104 v105 v114 k).trans (show _ = s11_16 cp n p0 v104 v105 v114 (k .ret (fr11_18 p0 v104 v105 v114)) from by kernel_rfl))) ((s11_15_t cp n p0 v104 v105 (seqT (X cp n) i11_4 k)).trans (by kernel_rfl))) (by kernel_rfl)
def fr11_20 : FF := [w11_6, dc, dc, dT 5 ((.hdr 15) :: (sl 0 10 (eRecvt v116))), sl 10 5 (eRecvt v116) ++ (dT 11 [])]
def fr11_22 : FF := [(.agg (eRecv p0)) :: (dT 15 []), dc, dc, dc, dc]
theorem s11_21_t : X cp n i11_6 (fr11_22 p0) k = s11_21 cp n p0 (fun v116 => k .ret (fr11_20 v116)) := ch (fun q => s11_1 cp n p0 q) (fun c v104 v105 => X cp n c (fr11_2 p0 v104 v105) k) i11_5 (fun c => X cp n (.seq (.fin (.reg g11_0) [0] []) (.seq (.fin (.reg g11_1) [6, 7, 8, 9, 10] []) (.seq (.fin (.reg g11_2) [11, 12, 13, 14] []) (.seq (.fin (.reg g11_3) [15, 16] []) (.seq (.fin (.reg g11_4) [17] []) c))))) (fr11_22 p0) k) (fun c => by kernel_rfl) (funext fun v104 => funext fun v105 => (s11_19_t cp n p0 v104 v105 k).trans (show _ = s11_19 cp n p0 v104 v105 (fun v115 => k .ret (fr11_20 (SRecv.mk p0.xNext v104 v115 p0.xCap p0.xShift p0.xEdge p0.xRecent p0.xStamps p0.xSacks p0.xFin p0.xDone v105 p0.xIrs p0.xOwn p0.xStamp))) from by kernel_rfl)) (by kernel_rfl) (by kernel_rfl)
theorem run11 (cp : CP) (n : Nat) (p0 : SRecv) (k : Ret2 RW → Option R) : G11 cp (n + 1) p0 (fun r0 => k ⟨.agg (eRecvt r0), [], []⟩) = run2 U cp (callP cp n) n fn11 [.agg (eRecv p0)] [] k := ((X_run (f := fn11) (av := [.agg (eRecv p0)]) (cells := []) (code := i11_6) (fr := (fr11_22 p0)) (k := k) (by kernel_rfl) (fun K => by kernel_rfl)).trans ((s11_21_t cp n p0 (finK2 fn11 k)).trans (by kernel_rfl))).symm
end
/-! tideway/seq.Add -/
section
variable (cp : CP) (n : Nat) (k : KX R)
theorem run18 (cp : CP) (n : Nat) (p0 p1 : Int) (k : Ret2 RW → Option R) : G18 cp (n + 1) p0 p1 (fun r0 => k ⟨(tI .u32 r0), [], []⟩) = run2 U cp (callP cp n) n fn18 [(tI .u32 p0), (tL p1)] [] k := by kernel_rfl
end
/-! tideway/recv.tell -/
section
variable (cp : CP) (n : Nat) (p0 : SRecv) (p1 : (List SBlock)) (v132 : Int) (v133 : SSegment) (v134 v135 : Int) (v136 : (List SBlock)) (v139 : Int) (v140 v141 v142 v143 : (List SBlock)) (v145 v146 : Int) (v147 : (List SBlock)) (v148 : Int) (v149 : SSegment) (k : KX R)
def w14_0 : Fr := dT 2 ((.ptr 82 0) :: (dT 1 ((.ptr 98 0) :: (.ptr 114 0) :: (dT 1 ((.ptr 130 0) :: (tL v132) :: (dT 7 []))))))
def w14_1 : Fr := dT 2 ((.hdr 15) :: (sl 0 13 (eRecv p0)))
def w14_2 : Fr := sl 13 2 (eRecv p0) ++ [.hdr 15, (tL 0), .row true (.ruint8 []), .row true (.rPiece []), (tL 0), (tL 0), (tL 0), (tI .u32 0), (tB false), (tB false), (tL 0), (tB false), .row true (.rSpan []), (tI .u32 0)]
def w14_3 : Fr := [(tI .u32 0), (tB false), .hdr 15, (tL 0), (tL 0), (tI .u32 0), (tI .u32 0), (tL 0), (tL 0), (tL 0), (tL 0), (tL 0), (tB false), (tB false), (tI .u32 0), (tI .u32 0)]
def w14_4 : Fr := [.row true (.rBlock []), .row true (.ruint8 []), .hdr 15, (tL v133.xSrcPort), (tL v133.xDstPort), (tI .u32 v133.xSeq), (tI .u32 v133.xAck), (tL v133.xFlags), (tL v133.xWin), (tL v133.xUrg), (tL v133.xMss), (tL v133.xScale), (tB v133.xSackOk), (tB v133.xStamped), (tI .u32 v133.xVal), (tI .u32 v133.xEcr)]
def w14_5 : Fr := (.row true (.rBlock v133.xSacks)) :: (.row false (.ruint8 v133.xData)) :: (dT 14 [])
def fr14_2 : FF := [w14_0 v132, dc, dc, dc, dc, w14_1 p0, w14_2 p0, w14_3, w14_4 v133, w14_5 v133]
def fr14_4 : FF := [w14_0 v132, dc, dT 7 ((.row false (.rSpan p0.xFirst)) :: (tL v134) :: (tL 0) :: (dT 6 [])), dc, dc, w14_1 p0, w14_2 p0, w14_3, w14_4 v133, w14_5 v133]
def fr14_6 : FF := [w14_0 v132, dc, dT 7 ((.row false (.rSpan p0.xFirst)) :: (tL v134) :: (tL v139) :: (dT 6 [])), dc, dc, w14_1 p0, w14_2 p0, w14_3, w14_4 v133, (.row true (.rBlock v140)) :: (.row false (.ruint8 v133.xData)) :: (dT 14 [])]
def w14_6 : Fr := dT 2 ((.ptr 82 0) :: (dT 1 ((.ptr 98 0) :: (.ptr 114 0) :: (dT 1 ((.ptr 130 0) :: (dT 8 []))))))
def w14_7 : Fr := (.row true (.rBlock v136)) :: (.row false (.ruint8 v133.xData)) :: (dT 14 [])
def fr14_7 : FF := [w14_6, dc, dc, dc, dc, w14_1 p0, w14_2 p0, w14_3, w14_4 v133, w14_7 v133 v136]
def fr14_8 : FF := [w14_0 v132, dc, dT 7 ((.row false (.rSpan p0.xFirst)) :: (tL v134) :: (tL v135) :: (dT 6 [])), dc, dc, w14_1 p0, w14_2 p0, w14_3, w14_4 v133, w14_7 v133 v136]
theorem s14_5_t : X cp n i14_0 (fr14_8 p0 v132 v133 v134 v135 v136) k = s14_5 cp n p0 v132 v133 v134 v135 v136 (fun v139 v140 => k .norm (fr14_6 p0 v132 v133 v134 v139 v140)) (k (.exit 0) (fr14_7 p0 v133 v136)) := by kernel_rfl
def fr14_9 : FF := [w14_6, dc, dc, dc, dc, w14_1 p0, w14_2 p0, w14_3, w14_4 v133, (.row true (.rBlock v141)) :: (.row false (.ruint8 v133.xData)) :: (dT 14 [])]
theorem l14_10_t (cp : CP) (n : Nat) : ∀ (m : Nat) (p0 : SRecv) (v132 : Int) (v133 : SSegment) (v134 v135 : Int) (v136 : (List SBlock)) (k : KX R), loopN2 (X cp n i14_0) m (fr14_8 p0 v132 v133 v134 v135 v136) k = l14_10 cp n m p0 v132 v133 v134 v135 v136 (fun v141 => k (.exit 0) (fr14_9 p0 v133 v141))
  | 0, _, _, _, _, _, _, _ => rfl
  | m + 1, p0, v132, v133, v134, v135, v136, k => (loopN2_succ (X cp n i14_0) m (fr14_8 p0 v132 v133 v134 v135 v136) k).trans ((s14_5_t cp n p0 v132 v133 v134 v135 v136 (loopT (X cp n i14_0) m k)).trans (tq (congrArg (fun q => s14_5 cp n p0 v132 v133 v134 v135 v136 q (k (.exit 0) (fr14_9 p0 v133 v136))) (funext fun v139 => funext fun v140 => l14_10_t cp n m p0 v132 v133 v134 v139 v140 k)) (by kernel_rfl)))
theorem s14_11_t : X cp n i14_1 (fr14_4 p0 v132 v133 v134) k = s14_11 cp n p0 v132 v133 v134 (fun v141 => k (.exit 0) (fr14_9 p0 v133 v141)) := tq (l14_10_t cp n n p0 v132 v133 v134 0 v133.xSacks k) (by kernel_rfl)
def fr14_12 : FF := [w14_6, dc, dc, dc, dc, w14_1 p0, w14_2 p0, w14_3, w14_4 v133, (.row true (.rBlock v142)) :: (.row false (.ruint8 v133.xData)) :: (dT 14 [])]
theorem s14_13_t : X cp n i14_2 (fr14_4 p0 v132 v133 v134) k = s14_13 cp n p0 v132 v133 v134 (fun v142 => k .norm (fr14_12 p0 v133 v142)) := tq ((s14_11_t cp n p0 v132 v133 v134 (blkT 0 k)).trans (by kernel_rfl)) (by kernel_rfl)
def w14_8 : Fr := (.row true (.rBlock v143)) :: (.row false (.ruint8 v133.xData)) :: (dT 14 [])
def fr14_14 : FF := [w14_6, dc, dc, dc, dc, w14_1 p0, w14_2 p0, w14_3, w14_4 v133, w14_8 v133 v143]
theorem s14_15_t : X cp n i14_3 (fr14_2 p0 v132 v133) k = s14_15 cp n p0 v132 v133 (fun v143 => k .norm (fr14_14 p0 v133 v143)) := ch (fun q => s14_3 cp n p0 v132 v133 q) (fun c v134 => X cp n c (fr14_4 p0 v132 v133 v134) k) i14_2 (fun c => X cp n (.seq (.fin (.reg g14_9) [38] []) c) (fr14_2 p0 v132 v133) k) (fun c => by kernel_rfl) (funext fun v134 => (s14_13_t cp n p0 v132 v133 v134 k).trans (show _ = s14_13 cp n p0 v132 v133 v134 (fun v142 => k .norm (fr14_14 p0 v133 v142)) from by kernel_rfl)) (by kernel_rfl) (by kernel_rfl)
def w14_9 : Fr := dT 4 ((.ptr 98 0) :: (.ptr 114 0) :: (dT 10 []))
def w14_10 : Fr := [(tI .u32 p0.xOwn), (tB p0.xStamp), .hdr 15, (tL v133.xSrcPort), (tL v133.xDstPort), (tI .u32 v133.xSeq), (tI .u32 v133.xAck), (tL v133.xFlags), (tL v133.xWin), (tL v133.xUrg), (tL v133.xMss), (tL v133.xScale), (tB v133.xSackOk), (tB v133.xStamped), (tI .u32 v133.xVal), (tI .u32 v133.xEcr)]
def fr14_17 : FF := [w14_9, dc, dc, dc, dc, dc, dT 2 ([.hdr 15, (tL p0.xNext), .row false (.ruint8 p0.xUnread), .row false (.rPiece p0.xLate), (tL p0.xCap), (tL p0.xShift), (tL v145), (tI .u32 p0.xRecent), (tB p0.xStamps), (tB p0.xSacks), (tL p0.xFin), (tB p0.xDone), .row false (.rSpan p0.xFirst), (tI .u32 p0.xIrs)]), w14_10 p0 v133, w14_8 v133 v143, dc]
theorem s14_16_t : X cp n i14_4 (fr14_14 p0 v133 v143) k = s14_16 cp n p0 v133 v143 (fun v145 => k .ret (fr14_17 p0 v133 v143 v145)) := by kernel_rfl
def fr14_18 : FF := [w14_9, dc, dc, dc, dc, dc, dT 2 ([.hdr 15, (tL p0.xNext), .row false (.ruint8 p0.xUnread), .row false (.rPiece p0.xLate), (tL p0.xCap), (tL p0.xShift), (tL v146), (tI .u32 p0.xRecent), (tB p0.xStamps), (tB p0.xSacks), (tL p0.xFin), (tB p0.xDone), .row false (.rSpan p0.xFirst), (tI .u32 p0.xIrs)]), w14_10 p0 v133, (.row true (.rBlock v147)) :: (.row false (.ruint8 v133.xData)) :: (dT 14 []), dc]
theorem s14_19_t : X cp n i14_5 (fr14_2 p0 v132 v133) k = s14_19 cp n p0 v132 v133 (fun v146 v147 => k .ret (fr14_18 p0 v133 v146 v147)) := tq (tq (congrArg (fun q => s14_15 cp n p0 v132 v133 q) (funext fun v143 => (s14_16_t cp n p0 v133 v143 k).trans (show _ = s14_16 cp n p0 v133 v143 (fun v145 => k .ret (fr14_18 p0 v133 v145 v143)) from by kernel_rfl))) ((s14_15_t cp n p0 v132 v133 (seqT (X cp n) i14_4 k)).trans (by kernel_rfl))) (by kernel_rfl)
def fr14_20 : FF := [w14_9, dc, dc, dc, dc, dc, dT 2 ([.hdr 15, (tL p0.xNext), .row false (.ruint8 p0.xUnread), .row false (.rPiece p0.xLate), (tL p0.xCap), (tL p0.xShift), (tL v148), (tI .u32 p0.xRecent), (tB p0.xStamps), (tB p0.xSacks), (tL p0.xFin), (tB p0.xDone), .row false (.rSpan p0.xFirst), (tI .u32 p0.xIrs)]), [(tI .u32 p0.xOwn), (tB p0.xStamp), .hdr 15, (tL v149.xSrcPort), (tL v149.xDstPort), (tI .u32 v149.xSeq), (tI .u32 v149.xAck), (tL v149.xFlags), (tL v149.xWin), (tL v149.xUrg), (tL v149.xMss), (tL v149.xScale), (tB v149.xSackOk), (tB v149.xStamped), (tI .u32 v149.xVal), (tI .u32 v149.xEcr)], (.row true (.rBlock v149.xSacks)) :: (.row false (.ruint8 v149.xData)) :: (dT 14 []), dc]
def fr14_22 : FF := [(.agg (eRecv p0)) :: (.row true (.rBlock p1)) :: (dT 14 []), dc, dc, dc, dc, dc, dc, dc, dc, dc]
theorem s14_21_t : X cp n i14_6 (fr14_22 p0 p1) k = s14_21 cp n p0 p1 (fun v148 v149 => k .ret (fr14_20 p0 v148 v149)) := ch (fun q => s14_1 cp n p0 p1 q) (fun c v132 v133 => X cp n c (fr14_2 p0 v132 v133) k) i14_5 (fun c => X cp n (.seq (.fin (.reg g14_0) [0] []) (.seq (.fin (.reg g14_1) [11, 12] []) (.seq (.seq (.fin (.reg g14_2) [13] []) (.fin (.cond (.s 14) (.fin (.reg g14_3) [14, 15, 16] []) (.skip)) [14] [])) (.seq (.fin (.reg g14_4) [1, 6, 17, 18, 19, 20, 21, 22, 23, 24, 25, 26, 27, 28, 29] []) (.seq (.reg g14_5) (.seq (.seq (.fin (.reg g14_6) [30] []) (.fin (.cond (.s 31) (.seq (.fin (.reg g14_7) [31, 32, 33, 34, 35] []) (.fin (.reg g14_8) [36, 37] [])) (.skip)) [31] [])) c)))))) (fr14_22 p0 p1) k) (fun c => by kernel_rfl) (funext fun v132 => funext fun v133 => (s14_19_t cp n p0 v132 v133 k).trans (show _ = s14_19 cp n p0 v132 v133 (fun v146 v147 => k .ret (fr14_20 p0 v146 (SSegment.mk v133.xSrcPort v133.xDstPort v133.xSeq v133.xAck v133.xFlags v133.xWin v133.xUrg v133.xMss v133.xScale v133.xSackOk v133.xStamped v133.xVal v133.xEcr v147 v133.xData))) from by kernel_rfl)) (by kernel_rfl) (by kernel_rfl)
theorem run14 (cp : CP) (n : Nat) (p0 : SRecv) (p1 : (List SBlock)) (k : Ret2 RW → Option R) : G14 cp (n + 1) p0 p1 (fun r0 r1 => k ⟨.tup [.agg (eRecv r0), .agg [(tL r1.xSrcPort), (tL r1.xDstPort), (tI .u32 r1.xSeq), (tI .u32 r1.xAck), (tL r1.xFlags), (tL r1.xWin), (tL r1.xUrg), (tL r1.xMss), (tL r1.xScale), (tB r1.xSackOk), (tB r1.xStamped), (tI .u32 r1.xVal), (tI .u32 r1.xEcr), .row true (.rBlock r1.xSacks), .row false (.ruint8 r1.xData)]], [], []⟩) = run2 U cp (callP cp n) n fn14 [.agg (eRecv p0), .row true (.rBlock p1)] [] k := ((X_run (f := fn14) (av := [.agg (eRecv p0), .row true (.rBlock p1)]) (cells := []) (code := i14_6) (fr := (fr14_22 p0 p1)) (k := k) (by kernel_rfl) (fun K => by kernel_rfl)).trans ((s14_21_t cp n p0 p1 (finK2 fn14 k)).trans (by kernel_rfl))).symm
end
/-! tideway/recv.end -/
section
variable (cp : CP) (n : Nat) (p0 : SRecv) (p1 : Int) (v112 : SRecv) (v113 v114 v115 v116 : Int) (v117 : (List Int)) (v119 v120 v121 v122 v123 v124 v125 v126 v127 v128 v129 v130 v131 v132 v133 v134 v135 v137 v138 v139 : Int) (k : KX R)
def w15_0 : Fr := dT 1 ((tL p1) :: (.ptr 32 0) :: (dT 2 ((.ptr 48 0) :: (dT 10 []))))
def w15_1 : Fr := (.hdr 15) :: (eRecv p0)
def fr15_2 : FF := [w15_0 p1, dc, w15_1 p0, (.hdr 1) :: (tL p0.xNext) :: (dT 14 []), dc]
def w15_2 : Fr := dT 1 ((tL p1) :: (.ptr 32 0) :: (dT 2 ((.ptr 48 0) :: (dT 4 ((.clo 41 [(53, 0)]) :: (dT 5 []))))))
def fr15_4 : FF := [w15_2 p1, dc, w15_1 p0, (.hdr 1) :: (tL p0.xNext) :: (dT 3 ((.hdr 15) :: (sl 0 10 (eRecv v112)))), sl 10 5 (eRecv v112) ++ (dT 11 [])]
def fr15_6 : FF := [w15_2 p1, dc, dc, dc, dc]
def y15_5 (cp : CP) (n : Nat) (p1 : Int) : List (TV RW) → FF → (FF → Option R) → Option R := rndT 2 [11] [32, 48, 53, 69] (fr15_6 p1) (X cp n i15_2)
def fr15_8 (p0 : SRecv) (p1 : Int) (v112 : SRecv) (v113 : Int) : FF := [.yld :: (dT 5 ((.row false (.rPiece v112.xLate)) :: (tL v113) :: (tL 0) :: (dT 7 []))), dc, (.hdr 15) :: (eRecv p0), (.hdr 1) :: (tL p0.xNext) :: (dT 3 ((.hdr 15) :: (sl 0 10 (eRecv v112)))), sl 10 5 (eRecv v112) ++ (dT 11 [])]
def fr15_10 (p0 : SRecv) (p1 : Int) (v112 : SRecv) (v113 v114 v115 : Int) : FF := [.yld :: (dT 5 ((.row false (.rPiece v112.xLate)) :: (tL v113) :: (tL v114) :: (dT 7 []))), dc, (.hdr 15) :: (eRecv p0), (.hdr 1) :: (tL v115) :: (dT 3 ((.hdr 15) :: (sl 0 10 (eRecv v112)))), sl 10 5 (eRecv v112) ++ (dT 11 [])]
def fr15_11 (p0 : SRecv) (p1 : Int) (v112 : SRecv) (v115 : Int) : FF := [dc, dc, (.hdr 15) :: (eRecv p0), (.hdr 1) :: (tL v115) :: (dT 3 ((.hdr 15) :: (sl 0 10 (eRecv v112)))), sl 10 5 (eRecv v112) ++ (dT 11 [])]
def fr15_13 (p0 : SRecv) (p1 : Int) (v112 : SRecv) (v113 v114 v115 v116 : Int) (v117 : (List Int)) : FF := [.yld :: (dT 3 ((.ptr 69 0) :: (dT 1 ((.row false (.rPiece v112.xLate)) :: (tL v113) :: (tL v114) :: (dT 7 []))))), dc, (.hdr 15) :: (eRecv p0), (.hdr 1) :: (tL v115) :: (dT 3 ((.hdr 15) :: (sl 0 10 (eRecv v112)))), sl 10 5 (eRecv v112) ++ ((.hdr 2) :: (tL v116) :: (.row false (.ruint8 v117)) :: (dT 8 []))]
def fr15_15 (p0 : SRecv) (p1 : Int) (v112 : SRecv) (v113 v114 v115 v116 : Int) (v117 : (List Int)) (v119 v120 : Int) : FF := [.yld :: (dT 3 ((.ptr 69 0) :: (dT 1 ((.row false (.rPiece v112.xLate)) :: (tL v113) :: (tL v114) :: (dT 3 (.yld :: (.agg [(tL v116), .row false (.ruint8 v117)]) :: (.agg [(tL v119), (tL v120)]) :: (dT 1 []))))))), dc, (.hdr 15) :: (eRecv p0), (.hdr 1) :: (tL v115) :: (dT 3 ((.hdr 15) :: (sl 0 10 (eRecv v112)))), sl 10 5 (eRecv v112) ++ ((.hdr 2) :: (tL v116) :: (.row false (.ruint8 v117)) :: (dT 8 []))]
theorem s15_14_t (cp : CP) (n : Nat) (p0 : SRecv) (p1 : Int) (v112 : SRecv) (v113 v114 v115 v116 : Int) (v117 : (List Int)) (A B : FF → Option R) : (gF (fr15_13 p0 p1 v112 v113 v114 v115 v116 v117) fun l => steps2 U cp (callP cp n) g15_10031 l fun l1 => yGuard2 none l1 (A l1) (B l1)) = s15_14 cp n p0 p1 v112 v113 v114 v115 v116 v117 (fun v119 v120 => A (fr15_15 p0 p1 v112 v113 v114 v115 v116 v117 v119 v120)) := by kernel_rfl
def w15_3 : Fr := sl 10 5 (eRecv v112) ++ ((.hdr 2) :: (tL v116) :: (.row false (.ruint8 v117)) :: (dT 8 []))
def fr15_17 : FF := [w15_2 p1, dc, w15_1 p0, (.hdr 1) :: (tL v120) :: (dT 3 ((.hdr 15) :: (sl 0 10 (eRecv v112)))), w15_3 v112 v116 v117]
def fr15_18 : FF := [dT 1 ((tL p1) :: (.ptr 32 0) :: (dT 2 ((.ptr 48 0) :: (dT 4 ((.clo 41 [(53, 0)]) :: (.agg [(tL v119), (tL v120)]) :: (dT 4 [])))))), dc, w15_1 p0, (.hdr 1) :: (tL v115) :: (dT 3 ((.hdr 15) :: (sl 0 10 (eRecv v112)))), w15_3 v112 v116 v117]
theorem s15_16_t : X cp n i15_2 (fr15_18 p0 p1 v112 v115 v116 v117 v119 v120) k = s15_16 cp n p0 p1 v112 v115 v116 v117 v119 v120 (k .norm (fr15_17 p0 p1 v112 v116 v117 v120)) := by kernel_rfl
def fr15_20 (p0 : SRecv) (p1 : Int) (v112 : SRecv) (v113 v114 v116 : Int) (v117 : (List Int)) (v119 v120 : Int) : FF := [.yld :: (dT 3 ((.ptr 69 0) :: (dT 1 ((.row false (.rPiece v112.xLate)) :: (tL v113) :: (tL v114) :: (dT 3 ([.yld, .agg [(tL v116), .row false (.ruint8 v117)], .agg [(tL v119), (tL v120)], (tB true)])))))), dc, (.hdr 15) :: (eRecv p0), (.hdr 1) :: (tL v120) :: (dT 3 ((.hdr 15) :: (sl 0 10 (eRecv v112)))), sl 10 5 (eRecv v112) ++ ((.hdr 2) :: (tL v116) :: (.row false (.ruint8 v117)) :: (dT 8 []))]
theorem q15_19_t (cp : CP) (n : Nat) (p0 : SRecv) (p1 : Int) (v112 : SRecv) (v113 v114 v115 v116 : Int) (v117 : (List Int)) (v119 v120 : Int) (K : FF → Option R) : yRun2 (y15_5 cp n p1) (.s 12) [.s 14] 15 (fr15_15 p0 p1 v112 v113 v114 v115 v116 v117 v119 v120) K = s15_16 cp n p0 p1 v112 v115 v116 v117 v119 v120 (K (fr15_20 p0 p1 v112 v113 v114 v116 v117 v119 v120)) := ((fun x => (show yRun2 (rndT 2 [11] [32, 48, 53, 69] (fr15_6 p1) x) (.s 12) [.s 14] 15 (fr15_15 p0 p1 v112 v113 v114 v115 v116 v117 v119 v120) K = x (fr15_18 p0 p1 v112 v115 v116 v117 v119 v120) (roundT 2 (fr15_15 p0 p1 v112 v113 v114 v115 v116 v117 v119 v120) (fun l2 => putO l2 (some 15) (.sc (.bool true)) K)) from by kernel_rfl)) (X cp n i15_2)).trans ((s15_16_t cp n p0 p1 v112 v115 v116 v117 v119 v120 (roundT 2 (fr15_15 p0 p1 v112 v113 v114 v115 v116 v117 v119 v120) (fun l2 => putO l2 (some 15) (.sc (.bool true)) K))).trans (by kernel_rfl))
def fr15_21 (p0 : SRecv) (p1 : Int) (v112 : SRecv) (v113 v114 v121 : Int) : FF := [.yld :: (dT 5 ((.row false (.rPiece v112.xLate)) :: (tL v113) :: (tL v114) :: (dT 7 []))), (tB false) :: (dT 15 []), (.hdr 15) :: (eRecv p0), (.hdr 1) :: (tL v121) :: (dT 3 ((.hdr 15) :: (sl 0 10 (eRecv v112)))), sl 10 5 (eRecv v112) ++ (dT 11 [])]
theorem s15_22_t : XI cp n (y15_5 cp n p1) i15_4 (fr15_13 p0 p1 v112 v113 v114 v115 v116 v117) k = s15_22 cp n p0 p1 v112 v113 v114 v115 v116 v117 (fun v121 => k .norm (fr15_21 p0 p1 v112 v113 v114 v121)) := (show XI cp n (y15_5 cp n p1) i15_4 (fr15_13 p0 p1 v112 v113 v114 v115 v116 v117) k = gF (fr15_13 p0 p1 v112 v113 v114 v115 v116 v117) fun l => steps2 U cp (callP cp n) g15_10031 l fun l1 => yGuard2 none l1 ((fun l1 => yRun2 (y15_5 cp n p1) (.s 12) [.s 14] 15 l1 (fun l2 => steps2 U cp (callP cp n) g15_10032 l2 ((clrT [4, 12, 13, 14, 15] [(69, 2)] k) .norm))) l1) ((fun l1 => putO l1 (some 15) (.tup []) fun l2 => steps2 U cp (callP cp n) g15_10032 l2 ((clrT [4, 12, 13, 14, 15] [(69, 2)] k) .norm)) l1) from by kernel_rfl).trans ((s15_14_t cp n p0 p1 v112 v113 v114 v115 v116 v117 (fun l1 => yRun2 (y15_5 cp n p1) (.s 12) [.s 14] 15 l1 (fun l2 => steps2 U cp (callP cp n) g15_10032 l2 ((clrT [4, 12, 13, 14, 15] [(69, 2)] k) .norm))) (fun l1 => putO l1 (some 15) (.tup []) fun l2 => steps2 U cp (callP cp n) g15_10032 l2 ((clrT [4, 12, 13, 14, 15] [(69, 2)] k) .norm))).trans (congrArg (s15_14 cp n p0 p1 v112 v113 v114 v115 v116 v117) (funext fun v119 => funext fun v120 => (q15_19_t cp n p0 p1 v112 v113 v114 v115 v116 v117 v119 v120 (fun l2 => steps2 U cp (callP cp n) g15_10032 l2 ((clrT [4, 12, 13, 14, 15] [(69, 2)] k) .norm))).trans (show s15_16 cp n p0 p1 v112 v115 v116 v117 v119 v120 ((fun l2 => steps2 U cp (callP cp n) g15_10032 l2 ((clrT [4, 12, 13, 14, 15] [(69, 2)] k) .norm)) (fr15_20 p0 p1 v112 v113 v114 v116 v117 v119 v120)) = s15_16 cp n p0 p1 v112 v115 v116 v117 v119 v120 (k .norm (fr15_21 p0 p1 v112 v113 v114 v120)) from by kernel_rfl))))
def fr15_24 (p0 : SRecv) (p1 : Int) (v112 : SRecv) (v113 v114 v121 : Int) : FF := [.yld :: (dT 5 ((.row false (.rPiece v112.xLate)) :: (tL v113) :: (tL v114) :: (dT 7 []))), dc, (.hdr 15) :: (eRecv p0), (.hdr 1) :: (tL v121) :: (dT 3 ((.hdr 15) :: (sl 0 10 (eRecv v112)))), sl 10 5 (eRecv v112) ++ (dT 11 [])]
theorem s15_23_t : XI cp n (y15_5 cp n p1) i15_5 (fr15_21 p0 p1 v112 v113 v114 v121) k = s15_23 cp n p0 p1 v112 v113 v114 v121 (k .norm (fr15_24 p0 p1 v112 v113 v114 v121)) := by kernel_rfl
def fr15_25 (p0 : SRecv) (p1 : Int) (v112 : SRecv) (v113 v114 v122 : Int) : FF := [.yld :: (dT 5 ((.row false (.rPiece v112.xLate)) :: (tL v113) :: (tL v114) :: (dT 7 []))), dc, (.hdr 15) :: (eRecv p0), (.hdr 1) :: (tL v122) :: (dT 3 ((.hdr 15) :: (sl 0 10 (eRecv v112)))), sl 10 5 (eRecv v112) ++ (dT 11 [])]
theorem s15_26_t : XI cp n (y15_5 cp n p1) i15_6 (fr15_13 p0 p1 v112 v113 v114 v115 v116 v117) k = s15_26 cp n p0 p1 v112 v113 v114 v115 v116 v117 (fun v122 => k .norm (fr15_25 p0 p1 v112 v113 v114 v122)) := tq (tq (congrArg (fun q => s15_22 cp n p0 p1 v112 v113 v114 v115 v116 v117 q) (funext fun v121 => (s15_23_t cp n p0 p1 v112 v113 v114 v121 k).trans (show _ = s15_23 cp n p0 p1 v112 v113 v114 v121 (k .norm (fr15_25 p0 p1 v112 v113 v114 v121)) from by kernel_rfl))) ((s15_22_t cp n p0 p1 v112 v113 v114 v115 v116 v117 (seqT (XI cp n (y15_5 cp n p1)) i15_5 k)).trans (by kernel_rfl))) (by kernel_rfl)
def fr15_27 (p0 : SRecv) (p1 : Int) (v112 : SRecv) (v113 v114 v123 : Int) : FF := [.yld :: (dT 5 ((.row false (.rPiece v112.xLate)) :: (tL v113) :: (tL v114) :: (dT 7 []))), dc, (.hdr 15) :: (eRecv p0), (.hdr 1) :: (tL v123) :: (dT 3 ((.hdr 15) :: (sl 0 10 (eRecv v112)))), sl 10 5 (eRecv v112) ++ (dT 11 [])]
theorem s15_28_t : XI cp n (y15_5 cp n p1) i15_7 (fr15_10 p0 p1 v112 v113 v114 v115) k = s15_28 cp n p0 p1 v112 v113 v114 v115 (fun v123 => k .norm (fr15_27 p0 p1 v112 v113 v114 v123)) := ch (fun q => s15_12 cp n p0 p1 v112 v113 v114 v115 q) (fun c v116 v117 => XI cp n (y15_5 cp n p1) c (fr15_13 p0 p1 v112 v113 v114 v115 v116 v117) k) i15_6 (fun c => XI cp n (y15_5 cp n p1) (.seq (.fin (.reg g15_1002) [10, 11] []) c) (fr15_10 p0 p1 v112 v113 v114 v115) k) (fun c => by kernel_rfl) (funext fun v116 => funext fun v117 => (s15_26_t cp n p0 p1 v112 v113 v114 v115 v116 v117 k).trans (show _ = s15_26 cp n p0 p1 v112 v113 v114 v115 v116 v117 (fun v122 => k .norm (fr15_27 p0 p1 v112 v113 v114 v122)) from by kernel_rfl)) (by kernel_rfl) (by kernel_rfl)
def fr15_29 (p0 : SRecv) (p1 : Int) (v112 : SRecv) (v113 v114 v124 : Int) : FF := [.yld :: (dT 5 ((.row false (.rPiece v112.xLate)) :: (tL v113) :: (tL v114) :: (dT 7 []))), dc, (.hdr 15) :: (eRecv p0), (.hdr 1) :: (tL v124) :: (dT 3 ((.hdr 15) :: (sl 0 10 (eRecv v112)))), sl 10 5 (eRecv v112) ++ (dT 11 [])]
theorem s15_30_t : XI cp n (y15_5 cp n p1) i15_8 (fr15_10 p0 p1 v112 v113 v114 v115) k = s15_30 cp n p0 p1 v112 v113 v114 v115 (fun v124 => k .norm (fr15_29 p0 p1 v112 v113 v114 v124)) := tq ((s15_28_t cp n p0 p1 v112 v113 v114 v115 (blkT 1 k)).trans (by kernel_rfl)) (by kernel_rfl)
def fr15_32 (p0 : SRecv) (p1 : Int) (v112 : SRecv) (v113 v124 v125 : Int) : FF := [.yld :: (dT 5 ((.row false (.rPiece v112.xLate)) :: (tL v113) :: (tL v125) :: (dT 7 []))), dc, (.hdr 15) :: (eRecv p0), (.hdr 1) :: (tL v124) :: (dT 3 ((.hdr 15) :: (sl 0 10 (eRecv v112)))), sl 10 5 (eRecv v112) ++ (dT 11 [])]
theorem s15_31_t : XI cp n (y15_5 cp n p1) i15_9 (fr15_29 p0 p1 v112 v113 v114 v124) k = s15_31 cp n p0 p1 v112 v113 v114 v124 (fun v125 => k .norm (fr15_32 p0 p1 v112 v113 v124 v125)) := by kernel_rfl
def fr15_33 (p0 : SRecv) (p1 : Int) (v112 : SRecv) (v113 v126 v127 : Int) : FF := [.yld :: (dT 5 ((.row false (.rPiece v112.xLate)) :: (tL v113) :: (tL v126) :: (dT 7 []))), dc, (.hdr 15) :: (eRecv p0), (.hdr 1) :: (tL v127) :: (dT 3 ((.hdr 15) :: (sl 0 10 (eRecv v112)))), sl 10 5 (eRecv v112) ++ (dT 11 [])]
theorem s15_34_t : XI cp n (y15_5 cp n p1) i15_10 (fr15_10 p0 p1 v112 v113 v114 v115) k = s15_34 cp n p0 p1 v112 v113 v114 v115 (fun v126 v127 => k .norm (fr15_33 p0 p1 v112 v113 v126 v127)) := tq (tq (congrArg (fun q => s15_30 cp n p0 p1 v112 v113 v114 v115 q) (funext fun v124 => (s15_31_t cp n p0 p1 v112 v113 v114 v124 k).trans (show _ = s15_31 cp n p0 p1 v112 v113 v114 v124 (fun v125 => k .norm (fr15_33 p0 p1 v112 v113 v125 v124)) from by kernel_rfl))) ((s15_30_t cp n p0 p1 v112 v113 v114 v115 (seqT (XI cp n (y15_5 cp n p1)) i15_9 k)).trans (by kernel_rfl))) (by kernel_rfl)
def fr15_35 (p0 : SRecv) (p1 : Int) (v112 : SRecv) (v113 v128 v129 : Int) : FF := [.yld :: (dT 5 ((.row false (.rPiece v112.xLate)) :: (tL v113) :: (tL v128) :: (dT 7 []))), dc, (.hdr 15) :: (eRecv p0), (.hdr 1) :: (tL v129) :: (dT 3 ((.hdr 15) :: (sl 0 10 (eRecv v112)))), sl 10 5 (eRecv v112) ++ (dT 11 [])]
theorem s15_36_t : XI cp n (y15_5 cp n p1) i15_11 (fr15_10 p0 p1 v112 v113 v114 v115) k = s15_36 cp n p0 p1 v112 v113 v114 v115 (fun v128 v129 => k .norm (fr15_35 p0 p1 v112 v113 v128 v129)) (k (.exit 0) (fr15_11 p0 p1 v112 v115)) := ch (fun q => s15_9 cp n p0 p1 v112 v113 v114 v115 q (k (.exit 0) (fr15_11 p0 p1 v112 v115))) (fun c => XI cp n (y15_5 cp n p1) c (fr15_10 p0 p1 v112 v113 v114 v115) k) i15_10 (fun c => XI cp n (y15_5 cp n p1) (.seq (.reg g15_1001) (.seq (.fin (.cond (.s 9) (.skip) (.clr [0, 6, 7, 8, 9] [] (.exit 0))) [9] []) c)) (fr15_10 p0 p1 v112 v113 v114 v115) k) (fun c => by kernel_rfl) ((s15_34_t cp n p0 p1 v112 v113 v114 v115 k).trans (show _ = s15_34 cp n p0 p1 v112 v113 v114 v115 (fun v126 v127 => k .norm (fr15_35 p0 p1 v112 v113 v126 v127)) from by kernel_rfl)) (by kernel_rfl) (by kernel_rfl)
def fr15_37 (p0 : SRecv) (p1 : Int) (v112 : SRecv) (v130 : Int) : FF := [dc, dc, (.hdr 15) :: (eRecv p0), (.hdr 1) :: (tL v130) :: (dT 3 ((.hdr 15) :: (sl 0 10 (eRecv v112)))), sl 10 5 (eRecv v112) ++ (dT 11 [])]
theorem l15_38_t (cp : CP) (n : Nat) : ∀ (m : Nat) (p0 : SRecv) (p1 : Int) (v112 : SRecv) (v113 v114 v115 : Int) (k : KX R), loopN2 (XI cp n (y15_5 cp n p1) i15_11) m (fr15_10 p0 p1 v112 v113 v114 v115) k = l15_38 cp n m p0 p1 v112 v113 v114 v115 (fun v130 => k (.exit 0) (fr15_37 p0 p1 v112 v130))
  | 0, _, _, _, _, _, _, _ => rfl
  | m + 1, p0, p1, v112, v113, v114, v115, k => (loopN2_succ (XI cp n (y15_5 cp n p1) i15_11) m (fr15_10 p0 p1 v112 v113 v114 v115) k).trans ((s15_36_t cp n p0 p1 v112 v113 v114 v115 (loopT (XI cp n (y15_5 cp n p1) i15_11) m k)).trans (tq (congrArg (fun q => s15_36 cp n p0 p1 v112 v113 v114 v115 q (k (.exit 0) (fr15_37 p0 p1 v112 v115))) (funext fun v128 => funext fun v129 => l15_38_t cp n m p0 p1 v112 v113 v128 v129 k)) (by kernel_rfl)))
theorem s15_39_t : XI cp n (y15_5 cp n p1) i15_12 (fr15_8 p0 p1 v112 v113) k = s15_39 cp n p0 p1 v112 v113 (fun v130 => k (.exit 0) (fr15_37 p0 p1 v112 v130)) := tq (l15_38_t cp n n p0 p1 v112 v113 0 p0.xNext k) (by kernel_rfl)
def fr15_40 (p0 : SRecv) (p1 : Int) (v112 : SRecv) (v131 : Int) : FF := [dc, dc, (.hdr 15) :: (eRecv p0), (.hdr 1) :: (tL v131) :: (dT 3 ((.hdr 15) :: (sl 0 10 (eRecv v112)))), sl 10 5 (eRecv v112) ++ (dT 11 [])]
theorem s15_41_t : XI cp n (y15_5 cp n p1) i15_13 (fr15_8 p0 p1 v112 v113) k = s15_41 cp n p0 p1 v112 v113 (fun v131 => k .norm (fr15_40 p0 p1 v112 v131)) := tq ((s15_39_t cp n p0 p1 v112 v113 (blkT 0 k)).trans (by kernel_rfl)) (by kernel_rfl)
def fr15_42 (p0 : SRecv) (p1 : Int) (v112 : SRecv) (v132 : Int) : FF := [dc, dc, (.hdr 15) :: (eRecv p0), (.hdr 1) :: (tL v132) :: (dT 3 ((.hdr 15) :: (sl 0 10 (eRecv v112)))), sl 10 5 (eRecv v112) ++ (dT 11 [])]
def fr15_44 (p0 : SRecv) (p1 : Int) (v112 : SRecv) : FF := [.yld :: (.ptr 53 0) :: (dT 14 []), dc, (.hdr 15) :: (eRecv p0), (.hdr 1) :: (tL p0.xNext) :: (dT 3 ((.hdr 15) :: (sl 0 10 (eRecv v112)))), sl 10 5 (eRecv v112) ++ (dT 11 [])]
theorem s15_43_t : XI cp n (y15_5 cp n p1) i15_3 (fr15_44 p0 p1 v112) k = s15_43 cp n p0 p1 v112 (fun v132 => k .norm (fr15_42 p0 p1 v112 v132)) := ch (fun q => s15_7 cp n p0 p1 v112 q) (fun c v113 => XI cp n (y15_5 cp n p1) c (fr15_8 p0 p1 v112 v113) k) i15_13 (fun c => XI cp n (y15_5 cp n p1) (.seq (.fin (.reg g15_1000) [1, 5] []) c) (fr15_44 p0 p1 v112) k) (fun c => by kernel_rfl) (funext fun v113 => (s15_41_t cp n p0 p1 v112 v113 k).trans (show _ = s15_41 cp n p0 p1 v112 v113 (fun v131 => k .norm (fr15_42 p0 p1 v112 v131)) from by kernel_rfl)) (by kernel_rfl) (by kernel_rfl)
def fr15_45 : FF := [w15_0 p1, dc, w15_1 p0, (.hdr 1) :: (tL v133) :: (dT 14 []), dc]
theorem s15_46_t : X cp n i15_14 (fr15_4 p0 p1 v112) k = s15_46 cp n p0 p1 v112 (fun v133 => k .norm (fr15_45 p0 p1 v133)) := (show X cp n i15_14 (fr15_4 p0 p1 v112) k = XI cp n (roundK2 2 [11] [32, 48, 53, 69] (fr15_4 p0 p1 v112) (X cp n i15_0) (X cp n i15_1)) i15_3 (fr15_44 p0 p1 v112) (rfnT 2 (fr15_4 p0 p1 v112) (clrT [10] [(53, 15)] k)) from rfn_eq (v := .clo 41 [(53, 0)]) (by kernel_rfl) (by kernel_rfl) (by kernel_rfl) _ _ _).trans ((congrArg (fun Y => XI cp n Y i15_3 (fr15_44 p0 p1 v112) (rfnT 2 (fr15_4 p0 p1 v112) (clrT [10] [(53, 15)] k))) ((rnd_eq 2 [11] [32, 48, 53, 69] (fr15_4 p0 p1 v112) i15_0 i15_1).trans (show rndT 2 [11] [32, 48, 53, 69] (fr15_4 p0 p1 v112) (X cp n i15_2) = (y15_5 cp n p1) from by kernel_rfl))).trans ((s15_43_t cp n p0 p1 v112 (rfnT 2 (fr15_4 p0 p1 v112) (clrT [10] [(53, 15)] k))).trans (by kernel_rfl)))
def fr15_47 : FF := [w15_0 p1, dc, w15_1 p0, (.hdr 1) :: (tL v134) :: (dT 14 []), dc]
theorem s15_48_t : X cp n i15_15 (fr15_4 p0 p1 v112) k = s15_48 cp n p0 p1 v112 (fun v134 => k .norm (fr15_47 p0 p1 v134)) := tq ((s15_46_t cp n p0 p1 v112 (blkT 0 k)).trans (by kernel_rfl)) (by kernel_rfl)
def fr15_49 : FF := [w15_0 p1, dc, w15_1 p0, (.hdr 1) :: (tL v135) :: (dT 14 []), dc]
theorem s15_50_t : X cp n i15_16 (fr15_2 p0 p1) k = s15_50 cp n p0 p1 (fun v135 => k .norm (fr15_49 p0 p1 v135)) := ch (fun q => s15_3 cp n p0 p1 q) (fun c v112 => X cp n c (fr15_4 p0 p1 v112) k) i15_15 (fun c => X cp n (.seq (.fin (.reg g15_2) [9] []) c) (fr15_2 p0 p1) k) (fun c => by kernel_rfl) (funext fun v112 => (s15_48_t cp n p0 p1 v112 k).trans (show _ = s15_48 cp n p0 p1 v112 (fun v134 => k .norm (fr15_49 p0 p1 v134)) from by kernel_rfl)) (by kernel_rfl) (by kernel_rfl)
def fr15_52 : FF := [dT 4 ((tL v137) :: (dT 11 [])), dc, dc, dc, dc]
theorem s15_51_t : X cp n i15_17 (fr15_49 p0 p1 v135) k = s15_51 cp n p0 p1 v135 (fun v137 => k .ret (fr15_52 v137)) := by kernel_rfl
def fr15_53 : FF := [dT 4 ((tL v138) :: (dT 11 [])), dc, dc, dc, dc]
theorem s15_54_t : X cp n i15_18 (fr15_2 p0 p1) k = s15_54 cp n p0 p1 (fun v138 => k .ret (fr15_53 v138)) := tq (tq (congrArg (fun q => s15_50 cp n p0 p1 q) (funext fun v135 => (s15_51_t cp n p0 p1 v135 k).trans (show _ = s15_51 cp n p0 p1 v135 (fun v137 => k .ret (fr15_53 v137)) from by kernel_rfl))) ((s15_50_t cp n p0 p1 (seqT (X cp n) i15_17 k)).trans (by kernel_rfl))) (by kernel_rfl)
def fr15_55 : FF := [dT 4 ((tL v139) :: (dT 11 [])), dc, dc, dc, dc]
def fr15_57 : FF := [(.agg (eRecv p0)) :: (tL p1) :: (dT 14 []), dc, dc, dc, dc]
theorem s15_56_t : X cp n i15_19 (fr15_57 p0 p1) k = s15_56 cp n p0 p1 (fun v139 => k .ret (fr15_55 v139)) := ch (fun q => s15_1 cp n p0 p1 q) (fun c => X cp n c (fr15_2 p0 p1) k) i15_18 (fun c => X cp n (.seq (.fin (.reg g15_0) [0, 4] []) (.seq (.fin (.reg g15_1) [7, 8] []) c)) (fr15_57 p0 p1) k) (fun c => by kernel_rfl) ((s15_54_t cp n p0 p1 k).trans (show _ = s15_54 cp n p0 p1 (fun v138 => k .ret (fr15_55 v138)) from by kernel_rfl)) (by kernel_rfl) (by kernel_rfl)
theorem run15 (cp : CP) (n : Nat) (p0 : SRecv) (p1 : Int) (k : Ret2 RW → Option R) : G15 cp (n + 1) p0 p1 (fun r0 => k ⟨(tL r0), [], []⟩) = run2 U cp (callP cp n) n fn15 [.agg (eRecv p0), (tL p1)] [] k := ((X_run (f := fn15) (av := [.agg (eRecv p0), (tL p1)]) (cells := []) (code := i15_19) (fr := (fr15_57 p0 p1)) (k := k) (by kernel_rfl) (fun K => by kernel_rfl)).trans ((s15_56_t cp n p0 p1 (finK2 fn15 k)).trans (by kernel_rfl))).symm
end
/-! tideway/span.within -/
section
variable (cp : CP) (n : Nat) (k : KX R)
theorem run48 (cp : CP) (n : Nat) (p0 : (List SSpan)) (p1 : SSpan) (k : Ret2 RW → Option R) : G48 cp (n + 1) p0 p1 (fun r0 r1 => k ⟨.clo 53 [(6, 0), (8, 0)], [], [[.row false (.rSpan r0)], (eSpan r1)]⟩) = run2 U cp (callP cp n) n fn48 [.row false (.rSpan p0), .agg (eSpan p1)] [] k := by kernel_rfl
end
/-! tideway/span.Gaps -/
section
variable (cp : CP) (n : Nat) (p0 : (List SSpan)) (p1 : SSpan) (v178 : (List SSpan)) (v179 v180 v181 v182 : Int) (v183 : (List SSpan)) (v184 v185 v186 : Int) (v187 v188 : Bool) (v189 v190 : (List SSpan)) (v191 : Int) (v192 : (List SSpan)) (v193 : Int) (v194 : (List SSpan)) (v195 : Int) (v196 : (List SSpan)) (v197 v198 v199 : Int) (v200 : (List SSpan)) (v201 v202 : Int) (v203 : (List SSpan)) (v204 : Int) (v205 : (List SSpan)) (v206 : Int) (v207 : (List SSpan)) (v208 : Int) (v209 : (List SSpan)) (v210 : Int) (v211 : (List SSpan)) (v212 : Int) (v213 : (List SSpan)) (v214 : Int) (v215 : (List SSpan)) (v216 : Int) (v217 v218 v219 : (List SSpan)) (k : KX R)
def fr34_2 : FF := [(.row false (.rSpan p0)) :: (dT 2 ((.ptr 64 0) :: (dT 1 ((.ptr 67 0) :: (.ptr 69 0) :: (dT 9 []))))), dc, dc, dc, (.hdr 2) :: ((eSpan p1) ++ ((.hdr 1) :: (.row true (.rSpan [])) :: (.hdr 1) :: (tL p1.xFrom) :: (dT 9 []))), dc]
def fr34_3 : FF := [dT 4 ((.row false (.rSpan [])) :: (dT 11 [])), dc, dc, dc, dc, dc]
def w34_0 : Fr := dT 3 ((.ptr 64 0) :: (dT 1 ((.ptr 67 0) :: (.ptr 69 0) :: (dT 9 []))))
def w34_1 : Fr := dT 6 ((.clo 53 [(74, 0), (76, 0)]) :: (dT 9 []))
def w34_2 : Fr := (.hdr 2) :: ((eSpan p1) ++ ((.hdr 1) :: (.row true (.rSpan [])) :: (.hdr 1) :: (tL p1.xFrom) :: (dT 3 ((.hdr 1) :: (.row false (.rSpan v178)) :: (.hdr 2) :: (tL v179) :: (tL v180) :: (dT 1 [])))))
def fr34_5 : FF := [w34_0, w34_1, dc, dc, w34_2 p1 v178 v179 v180, dc]
def fr34_7 : FF := [w34_0, w34_1, dc, dc, dc, dc]
def y34_6 (cp : CP) (n : Nat) : List (TV RW) → FF → (FF → Option R) → Option R := rndT 4 [23] [64, 67, 69, 74, 76, 79, 82] fr34_7 (X cp n i34_2)
def fr34_9 : FF := [.yld :: (dT 1 ((.ptr 76 0) :: (dT 4 ((.row false (.rSpan v178)) :: (tL v181) :: (tL 0) :: (dT 6 []))))), dc, dc, dc, w34_2 p1 v178 v179 v180, dc]
def w34_3 : Fr := .yld :: (dT 1 ((.ptr 76 0) :: (dT 4 ((.row false (.rSpan v178)) :: (tL v181) :: (tL v182) :: (dT 6 [])))))
def w34_4 : Fr := (.hdr 2) :: ((eSpan p1) ++ ((.hdr 1) :: (.row true (.rSpan v183)) :: (.hdr 1) :: (tL v184) :: (dT 3 ((.hdr 1) :: (.row false (.rSpan v178)) :: (.hdr 2) :: (tL v179) :: (tL v180) :: (dT 1 [])))))
def fr34_11 : FF := [w34_3 v178 v181 v182, dc, dc, dc, w34_4 p1 v178 v179 v180 v183 v184, dc]
def fr34_12 : FF := [dc, dc, dc, dc, w34_4 p1 v178 v179 v180 v183 v184, dc]
def w34_5 : Fr := .yld :: (dT 1 ((.ptr 76 0) :: (dT 3 ((.ptr 82 0) :: (.row false (.rSpan v178)) :: (tL v181) :: (tL v182) :: (dT 6 [])))))
def w34_6 : Fr := dT 2 ((.hdr 2) :: (tL v185) :: (tL v186) :: (dT 11 []))
def fr34_14 : FF := [w34_5 v178 v181 v182, dc, dc, dc, w34_4 p1 v178 v179 v180 v183 v184, w34_6 v185 v186]
def w34_7 : Fr := dT 8 ([.ptr 82 0, (tL v185), .ptr 82 1, (tL v186), (tB v187), (tB true), .yld, .agg [(tL v185), (tL v186)]])
def fr34_16 : FF := [w34_5 v178 v181 v182, w34_7 v185 v186 v187, dc, dc, w34_4 p1 v178 v179 v180 v183 v184, w34_6 v185 v186]
def fr34_17 : FF := [w34_5 v178 v181 v182, dT 8 ([.ptr 82 0, (tL v185), .ptr 82 1, (tL v186), (tB v188), (tB false), .tup [], .tup []]), dc, dc, w34_4 p1 v178 v179 v180 v183 v184, w34_6 v185 v186]
theorem s34_15_t (cp : CP) (n : Nat) (p1 : SSpan) (v178 : (List SSpan)) (v179 v180 v181 v182 : Int) (v183 : (List SSpan)) (v184 v185 v186 : Int) (A B : FF → Option R) : (gF (fr34_14 p1 v178 v179 v180 v181 v182 v183 v184 v185 v186) fun l => steps2 U cp (callP cp n) g34_10041 l fun l1 => yGuard2 (some (29, true)) l1 (A l1) (B l1)) = s34_15 cp n p1 v178 v179 v180 v181 v182 v183 v184 v185 v186 (fun v187 => A (fr34_16 p1 v178 v179 v180 v181 v182 v183 v184 v185 v186 v187)) (fun v188 => B (fr34_17 p1 v178 v179 v180 v181 v182 v183 v184 v185 v186 v188)) := by kernel_rfl
def w34_8 : Fr := (.hdr 2) :: ((eSpan p1) ++ ((.hdr 1) :: (.row true (.rSpan v189)) :: (.hdr 1) :: (tL v186) :: (dT 3 ((.hdr 1) :: (.row false (.rSpan v178)) :: (.hdr 2) :: (tL v179) :: (tL v180) :: (dT 1 [])))))
def fr34_19 : FF := [w34_0, w34_1, dc, dc, w34_8 p1 v178 v179 v180 v186 v189, w34_6 v185 v186]
def fr34_20 : FF := [w34_0, dT 6 ((.clo 53 [(74, 0), (76, 0)]) :: (.agg [(tL v185), (tL v186)]) :: (dT 8 [])), dc, dc, w34_4 p1 v178 v179 v180 v183 v184, w34_6 v185 v186]
theorem s34_18_t : X cp n i34_2 (fr34_20 p1 v178 v179 v180 v183 v184 v185 v186) k = s34_18 cp n p1 v178 v179 v180 v183 v184 v185 v186 (fun v189 => k .norm (fr34_19 p1 v178 v179 v180 v185 v186 v189)) := by kernel_rfl
def fr34_22 : FF := [w34_5 v178 v181 v182, w34_7 v185 v186 v187, (tB true) :: (dT 15 []), dc, w34_8 p1 v178 v179 v180 v186 v189, w34_6 v185 v186]
theorem q34_21_t (cp : CP) (n : Nat) (p1 : SSpan) (v178 : (List SSpan)) (v179 v180 v181 v182 : Int) (v183 : (List SSpan)) (v184 v185 v186 : Int) (v187 : Bool) (K : FF → Option R) : yRun2 (y34_6 cp n) (.s 30) [.s 31] 32 (fr34_16 p1 v178 v179 v180 v181 v182 v183 v184 v185 v186 v187) K = s34_18 cp n p1 v178 v179 v180 v183 v184 v185 v186 (fun v189 => K (fr34_22 p1 v178 v179 v180 v181 v182 v185 v186 v187 v189)) := ((fun x => (show yRun2 (rndT 4 [23] [64, 67, 69, 74, 76, 79, 82] fr34_7 x) (.s 30) [.s 31] 32 (fr34_16 p1 v178 v179 v180 v181 v182 v183 v184 v185 v186 v187) K = x (fr34_20 p1 v178 v179 v180 v183 v184 v185 v186) (roundT 4 (fr34_16 p1 v178 v179 v180 v181 v182 v183 v184 v185 v186 v187) (fun l2 => putO l2 (some 32) (.sc (.bool true)) K)) from by kernel_rfl)) (X cp n i34_2)).trans ((s34_18_t cp n p1 v178 v179 v180 v183 v184 v185 v186 (roundT 4 (fr34_16 p1 v178 v179 v180 v181 v182 v183 v184 v185 v186 v187) (fun l2 => putO l2 (some 32) (.sc (.bool true)) K))).trans (by kernel_rfl))
def w34_9 : Fr := (.hdr 2) :: ((eSpan p1) ++ ((.hdr 1) :: (.row true (.rSpan v190)) :: (.hdr 1) :: (tL v191) :: (dT 3 ((.hdr 1) :: (.row false (.rSpan v178)) :: (.hdr 2) :: (tL v179) :: (tL v180) :: (dT 1 [])))))
def fr34_23 : FF := [w34_3 v178 v181 v182, dc, dT 2 ((tB false) :: (dT 13 [])), dc, w34_9 p1 v178 v179 v180 v190 v191, dc]
theorem s34_24_t : XI cp n (y34_6 cp n) i34_4 (fr34_14 p1 v178 v179 v180 v181 v182 v183 v184 v185 v186) k = s34_24 cp n p1 v178 v179 v180 v181 v182 v183 v184 v185 v186 (fun v190 v191 => k .norm (fr34_23 p1 v178 v179 v180 v181 v182 v190 v191)) := (show XI cp n (y34_6 cp n) i34_4 (fr34_14 p1 v178 v179 v180 v181 v182 v183 v184 v185 v186) k = gF (fr34_14 p1 v178 v179 v180 v181 v182 v183 v184 v185 v186) fun l => steps2 U cp (callP cp n) g34_10041 l fun l1 => yGuard2 (some (29, true)) l1 ((fun l1 => yRun2 (y34_6 cp n) (.s 30) [.s 31] 32 l1 (fun l2 => steps2 U cp (callP cp n) g34_10042 l2 ((clrT [6, 24, 25, 26, 27, 28, 29, 30, 31, 32, 33] [(82, 2)] k) .norm))) l1) ((fun l1 => putO l1 (some 32) (.tup []) fun l2 => steps2 U cp (callP cp n) g34_10042 l2 ((clrT [6, 24, 25, 26, 27, 28, 29, 30, 31, 32, 33] [(82, 2)] k) .norm)) l1) from by kernel_rfl).trans ((s34_15_t cp n p1 v178 v179 v180 v181 v182 v183 v184 v185 v186 (fun l1 => yRun2 (y34_6 cp n) (.s 30) [.s 31] 32 l1 (fun l2 => steps2 U cp (callP cp n) g34_10042 l2 ((clrT [6, 24, 25, 26, 27, 28, 29, 30, 31, 32, 33] [(82, 2)] k) .norm))) (fun l1 => putO l1 (some 32) (.tup []) fun l2 => steps2 U cp (callP cp n) g34_10042 l2 ((clrT [6, 24, 25, 26, 27, 28, 29, 30, 31, 32, 33] [(82, 2)] k) .norm))).trans (cg2 (f := s34_15 cp n p1 v178 v179 v180 v181 v182 v183 v184 v185 v186) (funext fun v187 => (q34_21_t cp n p1 v178 v179 v180 v181 v182 v183 v184 v185 v186 v187 (fun l2 => steps2 U cp (callP cp n) g34_10042 l2 ((clrT [6, 24, 25, 26, 27, 28, 29, 30, 31, 32, 33] [(82, 2)] k) .norm))).trans (show s34_18 cp n p1 v178 v179 v180 v183 v184 v185 v186 (fun v189 => (fun l2 => steps2 U cp (callP cp n) g34_10042 l2 ((clrT [6, 24, 25, 26, 27, 28, 29, 30, 31, 32, 33] [(82, 2)] k) .norm)) (fr34_22 p1 v178 v179 v180 v181 v182 v185 v186 v187 v189)) = s34_18 cp n p1 v178 v179 v180 v183 v184 v185 v186 (fun v189 => k .norm (fr34_23 p1 v178 v179 v180 v181 v182 v189 v186)) from by kernel_rfl)) (funext fun v188 => (show (fun l1 => putO l1 (some 32) (.tup []) fun l2 => steps2 U cp (callP cp n) g34_10042 l2 ((clrT [6, 24, 25, 26, 27, 28, 29, 30, 31, 32, 33] [(82, 2)] k) .norm)) (fr34_17 p1 v178 v179 v180 v181 v182 v183 v184 v185 v186 v188) = k .norm (fr34_23 p1 v178 v179 v180 v181 v182 v183 v184) from by kernel_rfl))))
def fr34_26 : FF := [w34_3 v178 v181 v182, dc, dc, dc, w34_9 p1 v178 v179 v180 v190 v191, dc]
theorem s34_25_t : XI cp n (y34_6 cp n) i34_5 (fr34_23 p1 v178 v179 v180 v181 v182 v190 v191) k = s34_25 cp n p1 v178 v179 v180 v181 v182 v190 v191 (k .norm (fr34_26 p1 v178 v179 v180 v181 v182 v190 v191)) := by kernel_rfl
def fr34_27 : FF := [w34_3 v178 v181 v182, dc, dc, dc, (.hdr 2) :: ((eSpan p1) ++ ((.hdr 1) :: (.row true (.rSpan v192)) :: (.hdr 1) :: (tL v193) :: (dT 3 ((.hdr 1) :: (.row false (.rSpan v178)) :: (.hdr 2) :: (tL v179) :: (tL v180) :: (dT 1 []))))), dc]
theorem s34_28_t : XI cp n (y34_6 cp n) i34_6 (fr34_14 p1 v178 v179 v180 v181 v182 v183 v184 v185 v186) k = s34_28 cp n p1 v178 v179 v180 v181 v182 v183 v184 v185 v186 (fun v192 v193 => k .norm (fr34_27 p1 v178 v179 v180 v181 v182 v192 v193)) := tq (tq (congrArg (fun q => s34_24 cp n p1 v178 v179 v180 v181 v182 v183 v184 v185 v186 q) (funext fun v190 => funext fun v191 => (s34_25_t cp n p1 v178 v179 v180 v181 v182 v190 v191 k).trans (show _ = s34_25 cp n p1 v178 v179 v180 v181 v182 v190 v191 (k .norm (fr34_27 p1 v178 v179 v180 v181 v182 v190 v191)) from by kernel_rfl))) ((s34_24_t cp n p1 v178 v179 v180 v181 v182 v183 v184 v185 v186 (seqT (XI cp n (y34_6 cp n)) i34_5 k)).trans (by kernel_rfl))) (by kernel_rfl)
def fr34_29 : FF := [w34_3 v178 v181 v182, dc, dc, dc, (.hdr 2) :: ((eSpan p1) ++ ((.hdr 1) :: (.row true (.rSpan v194)) :: (.hdr 1) :: (tL v195) :: (dT 3 ((.hdr 1) :: (.row false (.rSpan v178)) :: (.hdr 2) :: (tL v179) :: (tL v180) :: (dT 1 []))))), dc]
theorem s34_30_t : XI cp n (y34_6 cp n) i34_7 (fr34_11 p1 v178 v179 v180 v181 v182 v183 v184) k = s34_30 cp n p1 v178 v179 v180 v181 v182 v183 v184 (fun v194 v195 => k .norm (fr34_29 p1 v178 v179 v180 v181 v182 v194 v195)) := ch (fun q => s34_13 cp n p1 v178 v179 v180 v181 v182 v183 v184 q) (fun c v185 v186 => XI cp n (y34_6 cp n) c (fr34_14 p1 v178 v179 v180 v181 v182 v183 v184 v185 v186) k) i34_6 (fun c => XI cp n (y34_6 cp n) (.seq (.fin (.reg g34_1002) [11, 12] []) (.seq (.fin (.reg g34_1003) [5, 13, 14, 15, 16, 17, 18, 19, 20, 21, 22, 23] [(79, 2)]) c)) (fr34_11 p1 v178 v179 v180 v181 v182 v183 v184) k) (fun c => by kernel_rfl) (funext fun v185 => funext fun v186 => (s34_28_t cp n p1 v178 v179 v180 v181 v182 v183 v184 v185 v186 k).trans (show _ = s34_28 cp n p1 v178 v179 v180 v181 v182 v183 v184 v185 v186 (fun v192 v193 => k .norm (fr34_29 p1 v178 v179 v180 v181 v182 v192 v193)) from by kernel_rfl)) (by kernel_rfl) (by kernel_rfl)
def w34_10 : Fr := (.hdr 2) :: ((eSpan p1) ++ ((.hdr 1) :: (.row true (.rSpan v196)) :: (.hdr 1) :: (tL v197) :: (dT 3 ((.hdr 1) :: (.row false (.rSpan v178)) :: (.hdr 2) :: (tL v179) :: (tL v180) :: (dT 1 [])))))
def fr34_31 : FF := [w34_3 v178 v181 v182, dc, dc, dc, w34_10 p1 v178 v179 v180 v196 v197, dc]
theorem s34_32_t : XI cp n (y34_6 cp n) i34_8 (fr34_11 p1 v178 v179 v180 v181 v182 v183 v184) k = s34_32 cp n p1 v178 v179 v180 v181 v182 v183 v184 (fun v196 v197 => k .norm (fr34_31 p1 v178 v179 v180 v181 v182 v196 v197)) := tq ((s34_30_t cp n p1 v178 v179 v180 v181 v182 v183 v184 (blkT 1 k)).trans (by kernel_rfl)) (by kernel_rfl)
def fr34_34 : FF := [.yld :: (dT 1 ((.ptr 76 0) :: (dT 4 ((.row false (.rSpan v178)) :: (tL v181) :: (tL v198) :: (dT 6 []))))), dc, dc, dc, w34_10 p1 v178 v179 v180 v196 v197, dc]
theorem s34_33_t : XI cp n (y34_6 cp n) i34_9 (fr34_31 p1 v178 v179 v180 v181 v182 v196 v197) k = s34_33 cp n p1 v178 v179 v180 v181 v182 v196 v197 (fun v198 => k .norm (fr34_34 p1 v178 v179 v180 v181 v196 v197 v198)) := by kernel_rfl
def fr34_35 : FF := [.yld :: (dT 1 ((.ptr 76 0) :: (dT 4 ((.row false (.rSpan v178)) :: (tL v181) :: (tL v199) :: (dT 6 []))))), dc, dc, dc, (.hdr 2) :: ((eSpan p1) ++ ((.hdr 1) :: (.row true (.rSpan v200)) :: (.hdr 1) :: (tL v201) :: (dT 3 ((.hdr 1) :: (.row false (.rSpan v178)) :: (.hdr 2) :: (tL v179) :: (tL v180) :: (dT 1 []))))), dc]
theorem s34_36_t : XI cp n (y34_6 cp n) i34_10 (fr34_11 p1 v178 v179 v180 v181 v182 v183 v184) k = s34_36 cp n p1 v178 v179 v180 v181 v182 v183 v184 (fun v199 v200 v201 => k .norm (fr34_35 p1 v178 v179 v180 v181 v199 v200 v201)) := tq (tq (congrArg (fun q => s34_32 cp n p1 v178 v179 v180 v181 v182 v183 v184 q) (funext fun v196 => funext fun v197 => (s34_33_t cp n p1 v178 v179 v180 v181 v182 v196 v197 k).trans (show _ = s34_33 cp n p1 v178 v179 v180 v181 v182 v196 v197 (fun v198 => k .norm (fr34_35 p1 v178 v179 v180 v181 v198 v196 v197)) from by kernel_rfl))) ((s34_32_t cp n p1 v178 v179 v180 v181 v182 v183 v184 (seqT (XI cp n (y34_6 cp n)) i34_9 k)).trans (by kernel_rfl))) (by kernel_rfl)
def fr34_37 : FF := [.yld :: (dT 1 ((.ptr 76 0) :: (dT 4 ((.row false (.rSpan v178)) :: (tL v181) :: (tL v202) :: (dT 6 []))))), dc, dc, dc, (.hdr 2) :: ((eSpan p1) ++ ((.hdr 1) :: (.row true (.rSpan v203)) :: (.hdr 1) :: (tL v204) :: (dT 3 ((.hdr 1) :: (.row false (.rSpan v178)) :: (.hdr 2) :: (tL v179) :: (tL v180) :: (dT 1 []))))), dc]
theorem s34_38_t : XI cp n (y34_6 cp n) i34_11 (fr34_11 p1 v178 v179 v180 v181 v182 v183 v184) k = s34_38 cp n p1 v178 v179 v180 v181 v182 v183 v184 (fun v202 v203 v204 => k .norm (fr34_37 p1 v178 v179 v180 v181 v202 v203 v204)) (k (.exit 0) (fr34_12 p1 v178 v179 v180 v183 v184)) := ch (fun q => s34_10 cp n p1 v178 v179 v180 v181 v182 v183 v184 q (k (.exit 0) (fr34_12 p1 v178 v179 v180 v183 v184))) (fun c => XI cp n (y34_6 cp n) c (fr34_11 p1 v178 v179 v180 v181 v182 v183 v184) k) i34_10 (fun c => XI cp n (y34_6 cp n) (.seq (.reg g34_1001) (.seq (.fin (.cond (.s 10) (.skip) (.clr [0, 2, 7, 8, 9, 10] [] (.exit 0))) [10] []) c)) (fr34_11 p1 v178 v179 v180 v181 v182 v183 v184) k) (fun c => by kernel_rfl) ((s34_36_t cp n p1 v178 v179 v180 v181 v182 v183 v184 k).trans (show _ = s34_36 cp n p1 v178 v179 v180 v181 v182 v183 v184 (fun v199 v200 v201 => k .norm (fr34_37 p1 v178 v179 v180 v181 v199 v200 v201)) from by kernel_rfl)) (by kernel_rfl) (by kernel_rfl)
def fr34_39 : FF := [dc, dc, dc, dc, (.hdr 2) :: ((eSpan p1) ++ ((.hdr 1) :: (.row true (.rSpan v205)) :: (.hdr 1) :: (tL v206) :: (dT 3 ((.hdr 1) :: (.row false (.rSpan v178)) :: (.hdr 2) :: (tL v179) :: (tL v180) :: (dT 1 []))))), dc]
theorem l34_40_t (cp : CP) (n : Nat) : ∀ (m : Nat) (p1 : SSpan) (v178 : (List SSpan)) (v179 v180 v181 v182 : Int) (v183 : (List SSpan)) (v184 : Int) (k : KX R), loopN2 (XI cp n (y34_6 cp n) i34_11) m (fr34_11 p1 v178 v179 v180 v181 v182 v183 v184) k = l34_40 cp n m p1 v178 v179 v180 v181 v182 v183 v184 (fun v205 v206 => k (.exit 0) (fr34_39 p1 v178 v179 v180 v205 v206))
  | 0, _, _, _, _, _, _, _, _, _ => rfl
  | m + 1, p1, v178, v179, v180, v181, v182, v183, v184, k => (loopN2_succ (XI cp n (y34_6 cp n) i34_11) m (fr34_11 p1 v178 v179 v180 v181 v182 v183 v184) k).trans ((s34_38_t cp n p1 v178 v179 v180 v181 v182 v183 v184 (loopT (XI cp n (y34_6 cp n) i34_11) m k)).trans (tq (congrArg (fun q => s34_38 cp n p1 v178 v179 v180 v181 v182 v183 v184 q (k (.exit 0) (fr34_39 p1 v178 v179 v180 v183 v184))) (funext fun v202 => funext fun v203 => funext fun v204 => l34_40_t cp n m p1 v178 v179 v180 v181 v202 v203 v204 k)) (by kernel_rfl)))
theorem s34_41_t : XI cp n (y34_6 cp n) i34_12 (fr34_9 p1 v178 v179 v180 v181) k = s34_41 cp n p1 v178 v179 v180 v181 (fun v205 v206 => k (.exit 0) (fr34_39 p1 v178 v179 v180 v205 v206)) := tq (l34_40_t cp n n p1 v178 v179 v180 v181 0 [] p1.xFrom k) (by kernel_rfl)
def fr34_42 : FF := [dc, dc, dc, dc, (.hdr 2) :: ((eSpan p1) ++ ((.hdr 1) :: (.row true (.rSpan v207)) :: (.hdr 1) :: (tL v208) :: (dT 3 ((.hdr 1) :: (.row false (.rSpan v178)) :: (.hdr 2) :: (tL v179) :: (tL v180) :: (dT 1 []))))), dc]
theorem s34_43_t : XI cp n (y34_6 cp n) i34_13 (fr34_9 p1 v178 v179 v180 v181) k = s34_43 cp n p1 v178 v179 v180 v181 (fun v207 v208 => k .norm (fr34_42 p1 v178 v179 v180 v207 v208)) := tq ((s34_41_t cp n p1 v178 v179 v180 v181 (blkT 0 k)).trans (by kernel_rfl)) (by kernel_rfl)
def fr34_44 : FF := [dc, dc, dc, dc, (.hdr 2) :: ((eSpan p1) ++ ((.hdr 1) :: (.row true (.rSpan v209)) :: (.hdr 1) :: (tL v210) :: (dT 3 ((.hdr 1) :: (.row false (.rSpan v178)) :: (.hdr 2) :: (tL v179) :: (tL v180) :: (dT 1 []))))), dc]
def fr34_46 : FF := [.yld :: (.ptr 74 0) :: (.ptr 76 0) :: (dT 13 []), dc, dc, dc, w34_2 p1 v178 v179 v180, dc]
theorem s34_45_t : XI cp n (y34_6 cp n) i34_3 (fr34_46 p1 v178 v179 v180) k = s34_45 cp n p1 v178 v179 v180 (fun v209 v210 => k .norm (fr34_44 p1 v178 v179 v180 v209 v210)) := ch (fun q => s34_8 cp n p1 v178 v179 v180 q) (fun c v181 => XI cp n (y34_6 cp n) c (fr34_9 p1 v178 v179 v180 v181) k) i34_13 (fun c => XI cp n (y34_6 cp n) (.seq (.fin (.reg g34_1000) [1] []) c) (fr34_46 p1 v178 v179 v180) k) (fun c => by kernel_rfl) (funext fun v181 => (s34_43_t cp n p1 v178 v179 v180 v181 k).trans (show _ = s34_43 cp n p1 v178 v179 v180 v181 (fun v207 v208 => k .norm (fr34_44 p1 v178 v179 v180 v207 v208)) from by kernel_rfl)) (by kernel_rfl) (by kernel_rfl)
def fr34_47 : FF := [w34_0, dc, dc, dc, (.hdr 2) :: ((eSpan p1) ++ ((.hdr 1) :: (.row true (.rSpan v211)) :: (.hdr 1) :: (tL v212) :: (dT 9 []))), dc]
theorem s34_48_t : X cp n i34_14 (fr34_5 p1 v178 v179 v180) k = s34_48 cp n p1 v178 v179 v180 (fun v211 v212 => k .norm (fr34_47 p1 v211 v212)) := (show X cp n i34_14 (fr34_5 p1 v178 v179 v180) k = XI cp n (roundK2 4 [23] [64, 67, 69, 74, 76, 79, 82] (fr34_5 p1 v178 v179 v180) (X cp n i34_0) (X cp n i34_1)) i34_3 (fr34_46 p1 v178 v179 v180) (rfnT 4 (fr34_5 p1 v178 v179 v180) (clrT [22] [(74, 1), (76, 2)] k)) from rfn_eq (v := .clo 53 [(74, 0), (76, 0)]) (by kernel_rfl) (by kernel_rfl) (by kernel_rfl) _ _ _).trans ((congrArg (fun Y => XI cp n Y i34_3 (fr34_46 p1 v178 v179 v180) (rfnT 4 (fr34_5 p1 v178 v179 v180) (clrT [22] [(74, 1), (76, 2)] k))) ((rnd_eq 4 [23] [64, 67, 69, 74, 76, 79, 82] (fr34_5 p1 v178 v179 v180) i34_0 i34_1).trans (show rndT 4 [23] [64, 67, 69, 74, 76, 79, 82] (fr34_5 p1 v178 v179 v180) (X cp n i34_2) = (y34_6 cp n) from by kernel_rfl))).trans ((s34_45_t cp n p1 v178 v179 v180 (rfnT 4 (fr34_5 p1 v178 v179 v180) (clrT [22] [(74, 1), (76, 2)] k))).trans (by kernel_rfl)))
def fr34_49 : FF := [w34_0, dc, dc, dc, (.hdr 2) :: ((eSpan p1) ++ ((.hdr 1) :: (.row true (.rSpan v213)) :: (.hdr 1) :: (tL v214) :: (dT 9 []))), dc]
theorem s34_50_t : X cp n i34_15 (fr34_5 p1 v178 v179 v180) k = s34_50 cp n p1 v178 v179 v180 (fun v213 v214 => k .norm (fr34_49 p1 v213 v214)) := tq ((s34_48_t cp n p1 v178 v179 v180 (blkT 0 k)).trans (by kernel_rfl)) (by kernel_rfl)
def fr34_51 : FF := [w34_0, dc, dc, dc, (.hdr 2) :: ((eSpan p1) ++ ((.hdr 1) :: (.row true (.rSpan v215)) :: (.hdr 1) :: (tL v216) :: (dT 9 []))), dc]
theorem s34_52_t : X cp n i34_16 (fr34_2 p0 p1) k = s34_52 cp n p0 p1 (fun v215 v216 => k .norm (fr34_51 p1 v215 v216)) := ch (fun q => s34_4 cp n p0 p1 q) (fun c v178 v179 v180 => X cp n c (fr34_5 p1 v178 v179 v180) k) i34_15 (fun c => X cp n (.seq (.fin (.reg g34_5) [0, 20, 21] []) c) (fr34_2 p0 p1) k) (fun c => by kernel_rfl) (funext fun v178 => funext fun v179 => funext fun v180 => (s34_50_t cp n p1 v178 v179 v180 k).trans (show _ = s34_50 cp n p1 v178 v179 v180 (fun v213 v214 => k .norm (fr34_51 p1 v213 v214)) from by kernel_rfl)) (by kernel_rfl) (by kernel_rfl)
def fr34_54 : FF := [dT 4 ((.row false (.rSpan v217)) :: (dT 11 [])), dc, dc, dc, dc, dc]
theorem s34_53_t : X cp n i34_17 (fr34_51 p1 v215 v216) k = s34_53 cp n p1 v215 v216 (fun v217 => k .ret (fr34_54 v217)) := by kernel_rfl
def fr34_55 : FF := [dT 4 ((.row false (.rSpan v218)) :: (dT 11 [])), dc, dc, dc, dc, dc]
theorem s34_56_t : X cp n i34_18 (fr34_2 p0 p1) k = s34_56 cp n p0 p1 (fun v218 => k .ret (fr34_55 v218)) := tq (tq (congrArg (fun q => s34_52 cp n p0 p1 q) (funext fun v215 => funext fun v216 => (s34_53_t cp n p1 v215 v216 k).trans (show _ = s34_53 cp n p1 v215 v216 (fun v217 => k .ret (fr34_55 v217)) from by kernel_rfl))) ((s34_52_t cp n p0 p1 (seqT (X cp n) i34_17 k)).trans (by kernel_rfl))) (by kernel_rfl)
def fr34_57 : FF := [dT 4 ((.row false (.rSpan v219)) :: (dT 11 [])), dc, dc, dc, dc, dc]
def fr34_59 : FF := [(.row false (.rSpan p0)) :: (.agg (eSpan p1)) :: (dT 14 []), dc, dc, dc, dc, dc]
theorem s34_58_t : X cp n i34_19 (fr34_59 p0 p1) k = s34_58 cp n p0 p1 (fun v219 => k .ret (fr34_57 v219)) := ch (fun q => s34_1 cp n p0 p1 q (k .ret (fr34_57 []))) (fun c => X cp n c (fr34_2 p0 p1) k) i34_18 (fun c => X cp n (.seq (.fin (.reg g34_0) [1, 4] []) (.seq (.seq (.fin (.reg g34_1) [8, 9, 10, 11, 12, 13, 14, 15, 16] []) (.fin (.cond (.s 17) (.seq (.fin (.reg g34_2) [0, 3, 17] [(64, 2)]) (.ret)) (.skip)) [17] [])) (.seq (.reg g34_3) (.seq (.fin (.reg g34_4) [18, 19] []) c)))) (fr34_59 p0 p1) k) (fun c => by kernel_rfl) ((s34_56_t cp n p0 p1 k).trans (show _ = s34_56 cp n p0 p1 (fun v218 => k .ret (fr34_57 v218)) from by kernel_rfl)) (by kernel_rfl) (by kernel_rfl)
theorem run34 (cp : CP) (n : Nat) (p0 : (List SSpan)) (p1 : SSpan) (k : Ret2 RW → Option R) : G34 cp (n + 1) p0 p1 (fun r0 => k ⟨.row false (.rSpan r0), [], []⟩) = run2 U cp (callP cp n) n fn34 [.row false (.rSpan p0), .agg (eSpan p1)] [] k := ((X_run (f := fn34) (av := [.row false (.rSpan p0), .agg (eSpan p1)]) (cells := []) (code := i34_19) (fr := (fr34_59 p0 p1)) (k := k) (by kernel_rfl) (fun K => by kernel_rfl)).trans ((s34_58_t cp n p0 p1 (finK2 fn34 k)).trans (by kernel_rfl))).symm
end
/-! tideway/recv.put$1 -/
section
variable (cp : CP) (n : Nat) (k : KX R)
theorem run44 (cp : CP) (n : Nat) (p0 : SPiece) (p1 : Int) (k : Ret2 RW → Option R) : G44 cp (n + 1) p0 p1 (fun r0 => k ⟨(tL r0), [], []⟩) = run2 U cp (callP cp n) n fn44 [.agg (ePiece p0), (tL p1)] [] k := by kernel_rfl
end
/-! slices.BinarySearchFunc[[]tideway/api.Piece,tideway/api.Piece,int] -/
section
variable (cp : CP) (n : Nat) (p0 : (List SPiece)) (p1 v223 v224 v225 v227 v228 v229 v230 : Int) (v232 : Bool) (v233 : Int) (v234 : Bool) (v235 : Int) (v236 : Bool) (k : KX R)
def fr1038_2 : FF := [(.row false (.rPiece p0)) :: (tL p1) :: (.clo 44 []) :: (dT 5 ((tL v223) :: (tL 0) :: (tL v223) :: (dT 5 []))), dc, dc, dc]
def fr1038_4 : FF := [(.row false (.rPiece p0)) :: (tL p1) :: (.clo 44 []) :: (dT 5 ((tL v223) :: (tL v227) :: (tL v228) :: (dT 5 []))), dc, dc, dc]
def fr1038_5 : FF := [(.row false (.rPiece p0)) :: (tL p1) :: (.clo 44 []) :: (dT 5 ((tL v223) :: (tL v224) :: (dT 6 []))), dc, dc, dc]
def fr1038_6 : FF := [(.row false (.rPiece p0)) :: (tL p1) :: (.clo 44 []) :: (dT 5 ((tL v223) :: (tL v224) :: (tL v225) :: (dT 5 []))), dc, dc, dc]
theorem s1038_3_t : X cp n i1038_0 (fr1038_6 p0 p1 v223 v224 v225) k = s1038_3 cp n p0 p1 v223 v224 v225 (fun v227 v228 => k .norm (fr1038_4 p0 p1 v223 v227 v228)) (k (.exit 0) (fr1038_5 p0 p1 v223 v224)) := by kernel_rfl
def fr1038_7 : FF := [(.row false (.rPiece p0)) :: (tL p1) :: (.clo 44 []) :: (dT 5 ((tL v223) :: (tL v229) :: (dT 6 []))), dc, dc, dc]
theorem l1038_8_t (cp : CP) (n : Nat) : ∀ (m : Nat) (p0 : (List SPiece)) (p1 v223 v224 v225 : Int) (k : KX R), loopN2 (X cp n i1038_0) m (fr1038_6 p0 p1 v223 v224 v225) k = l1038_8 cp n m p0 p1 v223 v224 v225 (fun v229 => k (.exit 0) (fr1038_7 p0 p1 v223 v229))
  | 0, _, _, _, _, _, _ => rfl
  | m + 1, p0, p1, v223, v224, v225, k => (loopN2_succ (X cp n i1038_0) m (fr1038_6 p0 p1 v223 v224 v225) k).trans ((s1038_3_t cp n p0 p1 v223 v224 v225 (loopT (X cp n i1038_0) m k)).trans (tq (congrArg (fun q => s1038_3 cp n p0 p1 v223 v224 v225 q (k (.exit 0) (fr1038_7 p0 p1 v223 v224))) (funext fun v227 => funext fun v228 => l1038_8_t cp n m p0 p1 v223 v227 v228 k)) (by kernel_rfl)))
theorem s1038_9_t : X cp n i1038_1 (fr1038_2 p0 p1 v223) k = s1038_9 cp n p0 p1 v223 (fun v229 => k (.exit 0) (fr1038_7 p0 p1 v223 v229)) := tq (l1038_8_t cp n n p0 p1 v223 0 v223 k) (by kernel_rfl)
def fr1038_10 : FF := [(.row false (.rPiece p0)) :: (tL p1) :: (.clo 44 []) :: (dT 5 ((tL v223) :: (tL v230) :: (dT 6 []))), dc, dc, dc]
theorem s1038_11_t : X cp n i1038_2 (fr1038_2 p0 p1 v223) k = s1038_11 cp n p0 p1 v223 (fun v230 => k .norm (fr1038_10 p0 p1 v223 v230)) := tq ((s1038_9_t cp n p0 p1 v223 (blkT 0 k)).trans (by kernel_rfl)) (by kernel_rfl)
def fr1038_13 : FF := [dT 6 ((tL v230) :: (tB v232) :: (dT 8 [])), dc, dc, dc]
theorem s1038_12_t : X cp n i1038_3 (fr1038_10 p0 p1 v223 v230) k = s1038_12 cp n p0 p1 v223 v230 (fun v232 => k .ret (fr1038_13 v230 v232)) := by kernel_rfl
def fr1038_14 : FF := [dT 6 ((tL v233) :: (tB v234) :: (dT 8 [])), dc, dc, dc]
theorem s1038_15_t : X cp n i1038_4 (fr1038_2 p0 p1 v223) k = s1038_15 cp n p0 p1 v223 (fun v233 v234 => k .ret (fr1038_14 v233 v234)) := tq (tq (congrArg (fun q => s1038_11 cp n p0 p1 v223 q) (funext fun v230 => (s1038_12_t cp n p0 p1 v223 v230 k).trans (show _ = s1038_12 cp n p0 p1 v223 v230 (fun v232 => k .ret (fr1038_14 v230 v232)) from by kernel_rfl))) ((s1038_11_t cp n p0 p1 v223 (seqT (X cp n) i1038_3 k)).trans (by kernel_rfl))) (by kernel_rfl)
def fr1038_16 : FF := [dT 6 ((tL v235) :: (tB v236) :: (dT 8 [])), dc, dc, dc]
def fr1038_18 : FF := [(.row false (.rPiece p0)) :: (tL p1) :: (.clo 44 []) :: (dT 13 []), dc, dc, dc]
theorem s1038_17_t : X cp n i1038_5 (fr1038_18 p0 p1) k = s1038_17 cp n p0 p1 (fun v235 v236 => k .ret (fr1038_16 v235 v236)) := ch (fun q => s1038_1 cp n p0 p1 q) (fun c v223 => X cp n c (fr1038_2 p0 p1 v223) k) i1038_4 (fun c => X cp n (.seq (.fin (.reg g1038_0) [6, 7] []) (.seq (.fin (.reg g1038_1) [12, 13] []) (.seq (.fin (.reg g1038_2) [14] []) c))) (fr1038_18 p0 p1) k) (fun c => by kernel_rfl) (funext fun v223 => (s1038_15_t cp n p0 p1 v223 k).trans (show _ = s1038_15 cp n p0 p1 v223 (fun v233 v234 => k .ret (fr1038_16 v233 v234)) from by kernel_rfl)) (by kernel_rfl) (by kernel_rfl)
theorem run1038 (cp : CP) (n : Nat) (p0 : (List SPiece)) (p1 : Int) (k : Ret2 RW → Option R) : G1038 cp (n + 1) p0 p1 (fun r0 r1 => k ⟨.tup [(tL r0), (tB r1)], [], []⟩) = run2 U cp (callP cp n) n fn1038 [.row false (.rPiece p0), (tL p1), .clo 44 []] [] k := ((X_run (f := fn1038) (av := [.row false (.rPiece p0), (tL p1), .clo 44 []]) (cells := []) (code := i1038_5) (fr := (fr1038_18 p0 p1)) (k := k) (by kernel_rfl) (fun K => by kernel_rfl)).trans ((s1038_17_t cp n p0 p1 (finK2 fn1038 k)).trans (by kernel_rfl))).symm
end
/-! slices.Clip[[]byte,byte] -/
section
variable (cp : CP) (n : Nat) (k : KX R)
theorem run47 (cp : CP) (n : Nat) (p0 : (List Int)) (k : Ret2 RW → Option R) : G47 cp (n + 1) p0 (fun r0 => k ⟨.row true (.ruint8 r0), [], []⟩) = run2 U cp (callP cp n) n fn47 [.row false (.ruint8 p0)] [] k := by kernel_rfl
end
/-! tideway/recv.put -/
section
variable (cp : CP) (n : Nat) (p0 : (List SPiece)) (p1 : SPiece) (v254 : (List SPiece)) (v255 : Int) (v256 : (List SPiece)) (v257 : Int) (v260 : (List SPiece)) (v261 : Int) (v262 v263 v264 v265 v266 : (List SPiece)) (k : KX R)
def fr33_2 : FF := [(.row true (.rPiece v254)) :: (dT 6 ((.un none (.rPiece [])) :: (dT 8 []))), dc, dc, dc, dc]
def fr33_4 : FF := [dT 7 ((.un none (.rPiece [])) :: (dT 8 [])), dT 13 ([.row false (.rPiece v254), (tL v255), (tL 0)]), dc, dc, dc]
def fr33_6 : FF := [dT 7 ((.un none (.rPiece v260)) :: (dT 8 [])), dT 13 ([.row false (.rPiece v254), (tL v255), (tL v261)]), dc, dc, dc]
def w33_0 : Fr := dT 7 ((.un none (.rPiece v256)) :: (dT 8 []))
def fr33_7 : FF := [w33_0 v256, dc, dc, dc, dc]
def fr33_8 : FF := [w33_0 v256, dT 13 ([.row false (.rPiece v254), (tL v255), (tL v257)]), dc, dc, dc]
theorem s33_5_t : X cp n i33_0 (fr33_8 v254 v255 v256 v257) k = s33_5 cp n v254 v255 v256 v257 (fun v260 v261 => k .norm (fr33_6 v254 v255 v260 v261)) (k (.exit 0) (fr33_7 v256)) := by kernel_rfl
def fr33_9 : FF := [dT 7 ((.un none (.rPiece v262)) :: (dT 8 [])), dc, dc, dc, dc]
theorem l33_10_t (cp : CP) (n : Nat) : ∀ (m : Nat) (v254 : (List SPiece)) (v255 : Int) (v256 : (List SPiece)) (v257 : Int) (k : KX R), loopN2 (X cp n i33_0) m (fr33_8 v254 v255 v256 v257) k = l33_10 cp n m v254 v255 v256 v257 (fun v262 => k (.exit 0) (fr33_9 v262))
  | 0, _, _, _, _, _ => rfl
  | m + 1, v254, v255, v256, v257, k => (loopN2_succ (X cp n i33_0) m (fr33_8 v254 v255 v256 v257) k).trans ((s33_5_t cp n v254 v255 v256 v257 (loopT (X cp n i33_0) m k)).trans (tq (congrArg (fun q => s33_5 cp n v254 v255 v256 v257 q (k (.exit 0) (fr33_9 v256))) (funext fun v260 => funext fun v261 => l33_10_t cp n m v254 v255 v260 v261 k)) (by kernel_rfl)))
theorem s33_11_t : X cp n i33_1 (fr33_4 v254 v255) k = s33_11 cp n v254 v255 (fun v262 => k (.exit 0) (fr33_9 v262)) := tq (l33_10_t cp n n v254 v255 [] 0 k) (by kernel_rfl)
def fr33_12 : FF := [dT 7 ((.un none (.rPiece v263)) :: (dT 8 [])), dc, dc, dc, dc]
theorem s33_13_t : X cp n i33_2 (fr33_4 v254 v255) k = s33_13 cp n v254 v255 (fun v263 => k .norm (fr33_12 v263)) := tq ((s33_11_t cp n v254 v255 (blkT 0 k)).trans (by kernel_rfl)) (by kernel_rfl)
def fr33_14 : FF := [dT 7 ((.un none (.rPiece v264)) :: (dT 8 [])), dc, dc, dc, dc]
theorem s33_15_t : X cp n i33_3 (fr33_2 v254) k = s33_15 cp n v254 (fun v264 => k .norm (fr33_14 v264)) := ch (fun q => s33_3 cp n v254 q) (fun c v255 => X cp n c (fr33_4 v254 v255) k) i33_2 (fun c => X cp n (.seq (.fin (.reg g33_4) [0] []) c) (fr33_2 v254) k) (fun c => by kernel_rfl) (funext fun v255 => (s33_13_t cp n v254 v255 k).trans (show _ = s33_13 cp n v254 v255 (fun v263 => k .norm (fr33_14 v263)) from by kernel_rfl)) (by kernel_rfl) (by kernel_rfl)
def fr33_17 : FF := [dT 4 ((.row true (.rPiece v264)) :: (dT 11 [])), dc, dc, dc, dc]
theorem s33_16_t : X cp n i33_4 (fr33_14 v264) k = s33_16 cp n v264 (k .ret (fr33_17 v264)) := by kernel_rfl
def fr33_18 : FF := [dT 4 ((.row true (.rPiece v265)) :: (dT 11 [])), dc, dc, dc, dc]
theorem s33_19_t : X cp n i33_5 (fr33_2 v254) k = s33_19 cp n v254 (fun v265 => k .ret (fr33_18 v265)) := tq (tq (congrArg (fun q => s33_15 cp n v254 q) (funext fun v264 => (s33_16_t cp n v264 k).trans (show _ = s33_16 cp n v264 (k .ret (fr33_18 v264)) from by kernel_rfl))) ((s33_15_t cp n v254 (seqT (X cp n) i33_4 k)).trans (by kernel_rfl))) (by kernel_rfl)
def fr33_20 : FF := [dT 4 ((.row true (.rPiece v266)) :: (dT 11 [])), dc, dc, dc, dc]
def fr33_22 : FF := [(.row false (.rPiece p0)) :: (.agg (ePiece p1)) :: (dT 14 []), dc, dc, dc, dc]
theorem s33_21_t : X cp n i33_6 (fr33_22 p0 p1) k = s33_21 cp n p0 p1 (fun v266 => k .ret (fr33_20 v266)) := ch (fun q => s33_1 cp n p0 p1 q) (fun c v254 => X cp n c (fr33_2 v254) k) i33_5 (fun c => X cp n (.seq (.fin (.reg g33_0) [1, 4] []) (.seq (.fin (.reg g33_1) [6, 11, 12, 13, 14, 15, 16, 17] []) (.seq (.fin (.reg g33_2) [3, 5, 18, 19, 20, 21, 22, 23, 24, 25, 26, 27, 28] [(72, 2)]) (.seq (.reg g33_3) (.seq (.skip) c))))) (fr33_22 p0 p1) k) (fun c => by kernel_rfl) (funext fun v254 => (s33_19_t cp n v254 k).trans (show _ = s33_19 cp n v254 (fun v265 => k .ret (fr33_20 v265)) from by kernel_rfl)) (by kernel_rfl) (by kernel_rfl)
theorem run33 (cp : CP) (n : Nat) (p0 : (List SPiece)) (p1 : SPiece) (k : Ret2 RW → Option R) : G33 cp (n + 1) p0 p1 (fun r0 => k ⟨.row true (.rPiece r0), [], []⟩) = run2 U cp (callP cp n) n fn33 [.row false (.rPiece p0), .agg (ePiece p1)] [] k := ((X_run (f := fn33) (av := [.row false (.rPiece p0), .agg (ePiece p1)]) (cells := []) (code := i33_6) (fr := (fr33_22 p0 p1)) (k := k) (by kernel_rfl) (fun K => by kernel_rfl)).trans ((s33_21_t cp n p0 p1 (finK2 fn33 k)).trans (by kernel_rfl))).symm
end
/-! tideway/recv.take$1 -/
section
variable (cp : CP) (n : Nat) (k : KX R)
theorem run1036 (cp : CP) (n : Nat) (p0 : SSpan) (q0 : SRecv) (q1 : Int) (q2 : (List Int)) (q3 : Bool) (k : Ret2 RW → Option R) : G1036 cp (n + 1) p0 q0 q1 q2 q3 (fun r0 r1 r2 r3 => k ⟨.tup [], [(eRecvt r0), [(tL r1)], [.row false (.ruint8 r2)], [(tB r3)]], []⟩) = run2 U cp (callP cp n) n fn1036 [.agg (eSpan p0), .ptr 43 0, .ptr 23 0, .ptr 41 0, .ptr 39 0] [(eRecvt q0), [(tL q1)], [.row false (.ruint8 q2)], [(tB q3)]] k := by kernel_rfl
end
end
end Go.Proofs.Ytafnmkbehjbkdaa.M
