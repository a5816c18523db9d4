/- The values of the program's functions, and the functions, plain. -/
import Derived.Test.YtgnoidblkenglaaMachX
set_option maxRecDepth 100000
set_option linter.unusedVariables false
namespace Go.Proofs.Ytgnoidblkenglaa.M
open Go
noncomputable section
def str_ : ByteArray := ⟨#[]⟩
def tab256_2793 : ByteArray := ⟨#[0, 1, 2, 2, 3, 3, 3, 3, 4, 4, 4, 4, 4, 4, 4, 4, 5, 5, 5, 5, 5, 5, 5, 5, 5, 5, 5, 5, 5, 5, 5, 5, 6, 6, 6, 6, 6, 6, 6, 6, 6, 6, 6, 6, 6, 6, 6, 6, 6, 6, 6, 6, 6, 6, 6, 6, 6, 6, 6, 6, 6, 6, 6, 6, 7, 7, 7, 7, 7, 7, 7, 7, 7, 7, 7, 7, 7, 7, 7, 7, 7, 7, 7, 7, 7, 7, 7, 7, 7, 7, 7, 7, 7, 7, 7, 7, 7, 7, 7, 7, 7, 7, 7, 7, 7, 7, 7, 7, 7, 7, 7, 7, 7, 7, 7, 7, 7, 7, 7, 7, 7, 7, 7, 7, 7, 7, 7, 7, 8, 8, 8, 8, 8, 8, 8, 8, 8, 8, 8, 8, 8, 8, 8, 8, 8, 8, 8, 8, 8, 8, 8, 8, 8, 8, 8, 8, 8, 8, 8, 8, 8, 8, 8, 8, 8, 8, 8, 8, 8, 8, 8, 8, 8, 8, 8, 8, 8, 8, 8, 8, 8, 8, 8, 8, 8, 8, 8, 8, 8, 8, 8, 8, 8, 8, 8, 8, 8, 8, 8, 8, 8, 8, 8, 8, 8, 8, 8, 8, 8, 8, 8, 8, 8, 8, 8, 8, 8, 8, 8, 8, 8, 8, 8, 8, 8, 8, 8, 8, 8, 8, 8, 8, 8, 8, 8, 8, 8, 8, 8, 8, 8, 8, 8, 8, 8, 8, 8, 8, 8, 8, 8, 8, 8, 8, 8, 8]⟩
structure SEntry where
  xAt : Int
  xV : Int
def zEntry : SEntry := ⟨0, 0⟩
structure SCc where
  xKind : Int
  xMss : Int
  xCwnd : Int
  xSsthresh : Int
  xAcc : Int
  xWmax : Int
  xEpoch : Int
  xK : Int
  xWest : Int
  xStart : Int
  xMode : Int
  xBw : (List SEntry)
  xMinRtt : Int
  xMinAt : Int
  xRound : Int
  xNextAt : Int
  xFull : Int
  xFullN : Int
  xPhase : Int
  xPhaseAt : Int
  xDoneAt : Int
  xPrior : Int
def zCc : SCc := ⟨0, 0, 0, 0, 0, 0, 0, 0, 0, 0, 0, [], 0, 0, 0, 0, 0, 0, 0, 0, 0, 0⟩
structure Sctl where
  xCc_Kind : Int
  xCc_Mss : Int
  xCc_Cwnd : Int
  xCc_Ssthresh : Int
  xCc_Acc : Int
  xCc_Wmax : Int
  xCc_Epoch : Int
  xCc_K : Int
  xCc_West : Int
  xCc_Start : Int
  xCc_Mode : Int
  xCc_Bw : (List SEntry)
  xCc_MinRtt : Int
  xCc_MinAt : Int
  xCc_Round : Int
  xCc_NextAt : Int
  xCc_Full : Int
  xCc_FullN : Int
  xCc_Phase : Int
  xCc_PhaseAt : Int
  xCc_DoneAt : Int
  xCc_Prior : Int
def zctl : Sctl := ⟨0, 0, 0, 0, 0, 0, 0, 0, 0, 0, 0, [], 0, 0, 0, 0, 0, 0, 0, 0, 0, 0⟩
def zint : Int := 0
structure ST68 where
  xCc_Kind : Int
  xCc_Mss : Int
  xCc_Cwnd : Int
  xCc_Ssthresh : Int
  xCc_Acc : Int
  xCc_Wmax : Int
  xCc_Epoch : Int
  xCc_K : Int
  xCc_West : Int
  xCc_Start : Int
  xCc_Mode : Int
  xCc_Bw : (List SEntry)
  xCc_MinRtt : Int
  xCc_MinAt : Int
  xCc_Round : Int
  xCc_NextAt : Int
  xCc_Full : Int
  xCc_FullN : Int
  xCc_Phase : Int
  xCc_PhaseAt : Int
  xCc_DoneAt : Int
  xCc_Prior : Int
def zT68 : ST68 := ⟨0, 0, 0, 0, 0, 0, 0, 0, 0, 0, 0, [], 0, 0, 0, 0, 0, 0, 0, 0, 0, 0⟩
inductive RW where
  | rEntry (xs : List SEntry)
  | rint (xs : List Int)

abbrev Fr := List (TV RW)
abbrev FF := FT RW
def tI (k : IntKind) (n : Int) : TV RW := .sc (.int k n)
def tL (n : Int) : TV RW := .sc (.int .i64 n)
def tB (b : Bool) : TV RW := .sc (.bool b)
def dT : Nat → Fr → Fr
  | 0, l => l
  | n + 1, l => .dead :: dT n l
def dc : Fr := dT 16 []
def eCc (x : SCc) : List (TV RW) := [(tL x.xKind), (tL x.xMss), (tL x.xCwnd), (tL x.xSsthresh), (tL x.xAcc), (tL x.xWmax), (tL x.xEpoch), (tL x.xK), (tL x.xWest), (tL x.xStart), (tL x.xMode), .row false (.rEntry x.xBw), (tL x.xMinRtt), (tL x.xMinAt), (tL x.xRound), (tL x.xNextAt), (tL x.xFull), (tL x.xFullN), (tL x.xPhase), (tL x.xPhaseAt), (tL x.xDoneAt), (tL x.xPrior)]
def eCct (x : SCc) : List (TV RW) := [(tL x.xKind), (tL x.xMss), (tL x.xCwnd), (tL x.xSsthresh), (tL x.xAcc), (tL x.xWmax), (tL x.xEpoch), (tL x.xK), (tL x.xWest), (tL x.xStart), (tL x.xMode), .row true (.rEntry x.xBw), (tL x.xMinRtt), (tL x.xMinAt), (tL x.xRound), (tL x.xNextAt), (tL x.xFull), (tL x.xFullN), (tL x.xPhase), (tL x.xPhaseAt), (tL x.xDoneAt), (tL x.xPrior)]
def eEntry (x : SEntry) : List (TV RW) := [(tL x.xAt), (tL x.xV)]
def ectl (x : Sctl) : List (TV RW) := [(tL x.xCc_Kind), (tL x.xCc_Mss), (tL x.xCc_Cwnd), (tL x.xCc_Ssthresh), (tL x.xCc_Acc), (tL x.xCc_Wmax), (tL x.xCc_Epoch), (tL x.xCc_K), (tL x.xCc_West), (tL x.xCc_Start), (tL x.xCc_Mode), .row false (.rEntry x.xCc_Bw), (tL x.xCc_MinRtt), (tL x.xCc_MinAt), (tL x.xCc_Round), (tL x.xCc_NextAt), (tL x.xCc_Full), (tL x.xCc_FullN), (tL x.xCc_Phase), (tL x.xCc_PhaseAt), (tL x.xCc_DoneAt), (tL x.xCc_Prior)]
def ectlt (x : Sctl) : List (TV RW) := [(tL x.xCc_Kind), (tL x.xCc_Mss), (tL x.xCc_Cwnd), (tL x.xCc_Ssthresh), (tL x.xCc_Acc), (tL x.xCc_Wmax), (tL x.xCc_Epoch), (tL x.xCc_K), (tL x.xCc_West), (tL x.xCc_Start), (tL x.xCc_Mode), .row true (.rEntry x.xCc_Bw), (tL x.xCc_MinRtt), (tL x.xCc_MinAt), (tL x.xCc_Round), (tL x.xCc_NextAt), (tL x.xCc_Full), (tL x.xCc_FullN), (tL x.xCc_Phase), (tL x.xCc_PhaseAt), (tL x.xCc_DoneAt), (tL x.xCc_Prior)]
def eT68 (x : ST68) : List (TV RW) := [(tL x.xCc_Kind), (tL x.xCc_Mss), (tL x.xCc_Cwnd), (tL x.xCc_Ssthresh), (tL x.xCc_Acc), (tL x.xCc_Wmax), (tL x.xCc_Epoch), (tL x.xCc_K), (tL x.xCc_West), (tL x.xCc_Start), (tL x.xCc_Mode), .row false (.rEntry x.xCc_Bw), (tL x.xCc_MinRtt), (tL x.xCc_MinAt), (tL x.xCc_Round), (tL x.xCc_NextAt), (tL x.xCc_Full), (tL x.xCc_FullN), (tL x.xCc_Phase), (tL x.xCc_PhaseAt), (tL x.xCc_DoneAt), (tL x.xCc_Prior)]
def eT68t (x : ST68) : List (TV RW) := [(tL x.xCc_Kind), (tL x.xCc_Mss), (tL x.xCc_Cwnd), (tL x.xCc_Ssthresh), (tL x.xCc_Acc), (tL x.xCc_Wmax), (tL x.xCc_Epoch), (tL x.xCc_K), (tL x.xCc_West), (tL x.xCc_Start), (tL x.xCc_Mode), .row true (.rEntry x.xCc_Bw), (tL x.xCc_MinRtt), (tL x.xCc_MinAt), (tL x.xCc_Round), (tL x.xCc_NextAt), (tL x.xCc_Full), (tL x.xCc_FullN), (tL x.xCc_Phase), (tL x.xCc_PhaseAt), (tL x.xCc_DoneAt), (tL x.xCc_Prior)]
def eint (x : Int) : List (TV RW) := [(tL x)]
def cEntry (x : SEntry) : List AV := [.sc (.int .i64 x.xAt), .sc (.int .i64 x.xV)]
def cint (x : Int) : List AV := [.sc (.int .i64 x)]
def dOne : Fr → Option (TV RW)
  | [x] => some x
  | _ => none
def dI (kd : IntKind) : TV RW → Option Int
  | .sc (.int k a) => cond (decide (k = kd)) (some a) none
  | _ => none
def dB : TV RW → Option Bool
  | .sc (.bool b) => some b
  | _ => none
def dS : TV RW → Option ByteArray
  | .sc (.string b) => some b
  | _ => none
def dA : TV RW → Option Fr
  | .agg cs => some cs
  | _ => none
def dP (h j : Nat) : TV RW → Option Unit
  | .ptr a b => cond (Nat.beq a h && Nat.beq b j) (some ()) none
  | _ => none
def dC (f : Nat) (cs : List (Nat × Nat)) : TV RW → Option Unit
  | .clo a b => cond (Nat.beq a f && decide (b = cs)) (some ()) none
  | _ => none
def dREntry (fl : Bool) : TV RW → Option (List SEntry)
  | .row a (.rEntry xs) => cond (a == fl) (some xs) none
  | _ => none
def dRint (fl : Bool) : TV RW → Option (List Int)
  | .row a (.rint xs) => cond (a == fl) (some xs) none
  | _ => none
def dCc : Fr → Option SCc
  | [y0, y1, y2, y3, y4, y5, y6, y7, y8, y9, y10, y11, y12, y13, y14, y15, y16, y17, y18, y19, y20, y21] => (dI .i64 y0).bind fun a0 => (dI .i64 y1).bind fun a1 => (dI .i64 y2).bind fun a2 => (dI .i64 y3).bind fun a3 => (dI .i64 y4).bind fun a4 => (dI .i64 y5).bind fun a5 => (dI .i64 y6).bind fun a6 => (dI .i64 y7).bind fun a7 => (dI .i64 y8).bind fun a8 => (dI .i64 y9).bind fun a9 => (dI .i64 y10).bind fun a10 => (dREntry false y11).bind fun a11 => (dI .i64 y12).bind fun a12 => (dI .i64 y13).bind fun a13 => (dI .i64 y14).bind fun a14 => (dI .i64 y15).bind fun a15 => (dI .i64 y16).bind fun a16 => (dI .i64 y17).bind fun a17 => (dI .i64 y18).bind fun a18 => (dI .i64 y19).bind fun a19 => (dI .i64 y20).bind fun a20 => (dI .i64 y21).bind fun a21 => some ⟨a0, a1, a2, a3, a4, a5, a6, a7, a8, a9, a10, a11, a12, a13, a14, a15, a16, a17, a18, a19, a20, a21⟩
  | _ => none
def dCct : Fr → Option SCc
  | [y0, y1, y2, y3, y4, y5, y6, y7, y8, y9, y10, y11, y12, y13, y14, y15, y16, y17, y18, y19, y20, y21] => (dI .i64 y0).bind fun a0 => (dI .i64 y1).bind fun a1 => (dI .i64 y2).bind fun a2 => (dI .i64 y3).bind fun a3 => (dI .i64 y4).bind fun a4 => (dI .i64 y5).bind fun a5 => (dI .i64 y6).bind fun a6 => (dI .i64 y7).bind fun a7 => (dI .i64 y8).bind fun a8 => (dI .i64 y9).bind fun a9 => (dI .i64 y10).bind fun a10 => (dREntry true y11).bind fun a11 => (dI .i64 y12).bind fun a12 => (dI .i64 y13).bind fun a13 => (dI .i64 y14).bind fun a14 => (dI .i64 y15).bind fun a15 => (dI .i64 y16).bind fun a16 => (dI .i64 y17).bind fun a17 => (dI .i64 y18).bind fun a18 => (dI .i64 y19).bind fun a19 => (dI .i64 y20).bind fun a20 => (dI .i64 y21).bind fun a21 => some ⟨a0, a1, a2, a3, a4, a5, a6, a7, a8, a9, a10, a11, a12, a13, a14, a15, a16, a17, a18, a19, a20, a21⟩
  | _ => none
def dEntry : Fr → Option SEntry
  | [y0, y1] => (dI .i64 y0).bind fun a0 => (dI .i64 y1).bind fun a1 => some ⟨a0, a1⟩
  | _ => none
def dctl : Fr → Option Sctl
  | [y0, y1, y2, y3, y4, y5, y6, y7, y8, y9, y10, y11, y12, y13, y14, y15, y16, y17, y18, y19, y20, y21] => (dI .i64 y0).bind fun a0 => (dI .i64 y1).bind fun a1 => (dI .i64 y2).bind fun a2 => (dI .i64 y3).bind fun a3 => (dI .i64 y4).bind fun a4 => (dI .i64 y5).bind fun a5 => (dI .i64 y6).bind fun a6 => (dI .i64 y7).bind fun a7 => (dI .i64 y8).bind fun a8 => (dI .i64 y9).bind fun a9 => (dI .i64 y10).bind fun a10 => (dREntry false y11).bind fun a11 => (dI .i64 y12).bind fun a12 => (dI .i64 y13).bind fun a13 => (dI .i64 y14).bind fun a14 => (dI .i64 y15).bind fun a15 => (dI .i64 y16).bind fun a16 => (dI .i64 y17).bind fun a17 => (dI .i64 y18).bind fun a18 => (dI .i64 y19).bind fun a19 => (dI .i64 y20).bind fun a20 => (dI .i64 y21).bind fun a21 => some ⟨a0, a1, a2, a3, a4, a5, a6, a7, a8, a9, a10, a11, a12, a13, a14, a15, a16, a17, a18, a19, a20, a21⟩
  | _ => none
def dctlt : Fr → Option Sctl
  | [y0, y1, y2, y3, y4, y5, y6, y7, y8, y9, y10, y11, y12, y13, y14, y15, y16, y17, y18, y19, y20, y21] => (dI .i64 y0).bind fun a0 => (dI .i64 y1).bind fun a1 => (dI .i64 y2).bind fun a2 => (dI .i64 y3).bind fun a3 => (dI .i64 y4).bind fun a4 => (dI .i64 y5).bind fun a5 => (dI .i64 y6).bind fun a6 => (dI .i64 y7).bind fun a7 => (dI .i64 y8).bind fun a8 => (dI .i64 y9).bind fun a9 => (dI .i64 y10).bind fun a10 => (dREntry true y11).bind fun a11 => (dI .i64 y12).bind fun a12 => (dI .i64 y13).bind fun a13 => (dI .i64 y14).bind fun a14 => (dI .i64 y15).bind fun a15 => (dI .i64 y16).bind fun a16 => (dI .i64 y17).bind fun a17 => (dI .i64 y18).bind fun a18 => (dI .i64 y19).bind fun a19 => (dI .i64 y20).bind fun a20 => (dI .i64 y21).bind fun a21 => some ⟨a0, a1, a2, a3, a4, a5, a6, a7, a8, a9, a10, a11, a12, a13, a14, a15, a16, a17, a18, a19, a20, a21⟩
  | _ => none
def dT68 : Fr → Option ST68
  | [y0, y1, y2, y3, y4, y5, y6, y7, y8, y9, y10, y11, y12, y13, y14, y15, y16, y17, y18, y19, y20, y21] => (dI .i64 y0).bind fun a0 => (dI .i64 y1).bind fun a1 => (dI .i64 y2).bind fun a2 => (dI .i64 y3).bind fun a3 => (dI .i64 y4).bind fun a4 => (dI .i64 y5).bind fun a5 => (dI .i64 y6).bind fun a6 => (dI .i64 y7).bind fun a7 => (dI .i64 y8).bind fun a8 => (dI .i64 y9).bind fun a9 => (dI .i64 y10).bind fun a10 => (dREntry false y11).bind fun a11 => (dI .i64 y12).bind fun a12 => (dI .i64 y13).bind fun a13 => (dI .i64 y14).bind fun a14 => (dI .i64 y15).bind fun a15 => (dI .i64 y16).bind fun a16 => (dI .i64 y17).bind fun a17 => (dI .i64 y18).bind fun a18 => (dI .i64 y19).bind fun a19 => (dI .i64 y20).bind fun a20 => (dI .i64 y21).bind fun a21 => some ⟨a0, a1, a2, a3, a4, a5, a6, a7, a8, a9, a10, a11, a12, a13, a14, a15, a16, a17, a18, a19, a20, a21⟩
  | _ => none
def dT68t : Fr → Option ST68
  | [y0, y1, y2, y3, y4, y5, y6, y7, y8, y9, y10, y11, y12, y13, y14, y15, y16, y17, y18, y19, y20, y21] => (dI .i64 y0).bind fun a0 => (dI .i64 y1).bind fun a1 => (dI .i64 y2).bind fun a2 => (dI .i64 y3).bind fun a3 => (dI .i64 y4).bind fun a4 => (dI .i64 y5).bind fun a5 => (dI .i64 y6).bind fun a6 => (dI .i64 y7).bind fun a7 => (dI .i64 y8).bind fun a8 => (dI .i64 y9).bind fun a9 => (dI .i64 y10).bind fun a10 => (dREntry true y11).bind fun a11 => (dI .i64 y12).bind fun a12 => (dI .i64 y13).bind fun a13 => (dI .i64 y14).bind fun a14 => (dI .i64 y15).bind fun a15 => (dI .i64 y16).bind fun a16 => (dI .i64 y17).bind fun a17 => (dI .i64 y18).bind fun a18 => (dI .i64 y19).bind fun a19 => (dI .i64 y20).bind fun a20 => (dI .i64 y21).bind fun a21 => some ⟨a0, a1, a2, a3, a4, a5, a6, a7, a8, a9, a10, a11, a12, a13, a14, a15, a16, a17, a18, a19, a20, a21⟩
  | _ => none
def pEntry_ : Fr → Option (List SEntry)
  | [] => some []
  | y0 :: y1 :: r => (dI .i64 y0).bind fun a0 => (dI .i64 y1).bind fun a1 => (pEntry_ r).bind fun xs => some (⟨a0, a1⟩ :: xs)
  | _ => none

def pint_ : Fr → Option (List Int)
  | [] => some []
  | y0 :: r => (dI .i64 y0).bind fun a0 => (pint_ r).bind fun xs => some (a0 :: xs)

def U : Uni RW where
  sz := fun r => match r with
    | .rEntry xs => 2
    | .rint xs => 1
  len := fun r => match r with
    | .rEntry xs => xs.length
    | .rint xs => xs.length
  getA := fun r => match r with
    | .rEntry xs => rg cEntry zEntry xs
    | .rint xs => rg cint zint xs
  get := fun r i => match r with
    | .rEntry xs => eEntry (xs.getD i zEntry)
    | .rint xs => eint (xs.getD i zint)
  app := fun r q => match r with
    | .rEntry xs => (match q with
      | .rEntry ys => some (.rEntry (xs ++ ys))
      | _ => none)
    | .rint xs => (match q with
      | .rint ys => some (.rint (xs ++ ys))
      | _ => none)
  sub := fun lo n r => match r with
    | .rEntry xs => .rEntry (List.take n (xs.drop lo))
    | .rint xs => .rint (List.take n (xs.drop lo))
  szt := fun t => match t with
    | 52 => 2
    | 3 => 1
    | _ => 0
  zt := fun t => match t with
    | 52 => eEntry zEntry
    | 3 => eint zint
    | _ => []
  lit := fun t n L => match t with
    | 52 => (pEntry_ L).bind fun xs => cond (Nat.beq xs.length n) (some (.rEntry xs)) none
    | 3 => (pint_ L).bind fun xs => cond (Nat.beq xs.length n) (some (.rint xs)) none
    | _ => none
/-! tideway/cc.time -/
def G_cc_time {R : Type} (cp : Nat → Nat → Bool) : Nat → Int → (Bool → Option R) → Option R
  | 0, _, _ => none
  | n + 1, p0, k =>
    cond (decide (0 ≤ p0)) (k (decide (p0 ≤ 1125899906842624))) (k false)
/-! tideway/cc.size -/
def G_cc_size {R : Type} (cp : Nat → Nat → Bool) : Nat → Int → (Bool → Option R) → Option R
  | 0, _, _ => none
  | n + 1, p0, k =>
    cond (decide (0 ≤ p0)) (k (decide (p0 ≤ 1073741824))) (k false)
/-! tideway/reno.size -/
def G_reno_size {R : Type} (cp : Nat → Nat → Bool) : Nat → Int → (Bool → Option R) → Option R
  | 0, _, _ => none
  | n + 1, p0, k =>
    cond (decide (0 ≤ p0)) (k (decide (p0 ≤ 1073741824))) (k false)
/-! (*tideway/reno.ctl).plain -/
def s_reno_ctl_plain_1 {R : Type} (cp : Nat → Nat → Bool) (n : Nat) (q0 : Sctl) (kn : Option R) : Option R :=
  kn
def s_reno_ctl_plain_3 {R : Type} (cp : Nat → Nat → Bool) (n : Nat) (q0 : Sctl) (kn : Bool → Option R) : Option R :=
  cond (decide (q0.xCc_Wmax = 0)) (cond (decide (q0.xCc_Epoch = 0)) (cond (decide (q0.xCc_K = 0)) (cond (decide (q0.xCc_West = 0)) (cond (decide (q0.xCc_Start = 0)) (cond (decide (q0.xCc_Mode = 0)) (cond (decide ((q0.xCc_Bw.length : Int) = 0)) (cond (decide (q0.xCc_MinRtt = 0)) (cond (decide (q0.xCc_MinAt = 0)) (cond (decide (q0.xCc_Round = 0)) (cond (decide (q0.xCc_NextAt = 0)) (cond (decide (q0.xCc_Full = 0)) (cond (decide (q0.xCc_FullN = 0)) (cond (decide (q0.xCc_Phase = 0)) (cond (decide (q0.xCc_PhaseAt = 0)) (cond (decide (q0.xCc_DoneAt = 0)) (kn (decide (q0.xCc_Prior = 0))) (kn false)) (kn false)) (kn false)) (kn false)) (kn false)) (kn false)) (kn false)) (kn false)) (kn false)) (kn false)) (kn false)) (kn false)) (kn false)) (kn false)) (kn false)) (kn false)
def s_reno_ctl_plain_5 {R : Type} (cp : Nat → Nat → Bool) (n : Nat) (q0 : Sctl) (v7 : Bool) (kr : Option R) : Option R :=
  kr
def s_reno_ctl_plain_7 {R : Type} (cp : Nat → Nat → Bool) (n : Nat) (q0 : Sctl) (kr : Bool → Option R) : Option R :=
  s_reno_ctl_plain_3 cp n q0 (fun v7 => s_reno_ctl_plain_5 cp n q0 v7 (kr v7))
def s_reno_ctl_plain_9 {R : Type} (cp : Nat → Nat → Bool) (n : Nat) (q0 : Sctl) (kr : Bool → Option R) : Option R :=
  s_reno_ctl_plain_1 cp n q0 (s_reno_ctl_plain_7 cp n q0 (fun v8 => (kr v8)))
def G_reno_ctl_plain {R : Type} (cp : Nat → Nat → Bool) : Nat → Sctl → (Bool → Sctl → Option R) → Option R
  | 0, _, _ => none
  | n + 1, q0, k =>
    s_reno_ctl_plain_9 cp n q0 (fun v9 => k v9 q0)
/-! tideway/reno.Check -/
def G_reno_Check {R : Type} (cp : Nat → Nat → Bool) : Nat → SCc → (Int → Option R) → Option R
  | 0, _, _ => none
  | n + 1, p0, k =>
    cond (!decide (p0.xKind = 1)) (k 230) (cond (decide (p0.xMss < 1)) (k 230) (cond (decide (65000 < p0.xMss)) (k 230) (cond (decide (p0.xCwnd < p0.xMss)) (k 230) (G_reno_size cp n p0.xCwnd (fun r4 => cond (!r4) (k 230) (cond (decide (p0.xSsthresh < (wr .i64 (2 * p0.xMss)))) (k 230) (G_reno_size cp n p0.xSsthresh (fun r5 => cond (!r5) (k 230) (G_reno_size cp n p0.xAcc (fun r6 => cond (!r6) (k 230) (G_reno_ctl_plain cp n (Sctl.mk p0.xKind p0.xMss p0.xCwnd p0.xSsthresh p0.xAcc p0.xWmax p0.xEpoch p0.xK p0.xWest p0.xStart p0.xMode p0.xBw p0.xMinRtt p0.xMinAt p0.xRound p0.xNextAt p0.xFull p0.xFullN p0.xPhase p0.xPhaseAt p0.xDoneAt p0.xPrior) (fun r10 r11 => cond (!r10) (k 230) (k 0)))))))))))))
/-! tideway/cubic.size -/
def s_cubic_size_1 {R : Type} (cp : Nat → Nat → Bool) (n : Nat) (p0 : (List Int)) (kn : Option R) : Option R :=
  kn
def s_cubic_size_3 {R : Type} (cp : Nat → Nat → Bool) (n : Nat) (p0 : (List Int)) (kn : Int → Option R) : Option R :=
  kn (p0.length : Int)
def s_cubic_size_5 {R : Type} (cp : Nat → Nat → Bool) (n : Nat) (p0 : (List Int)) (v14 v15 : Int) (kn : Int → Option R) (kr : Option R) (ke0 : Option R) : Option R :=
  cond (decide (v15 < v14)) (cond (decide (0 ≤ v15)) (cond (decide (v15 < (p0.length : Int))) (cond (decide ((p0.getD (Int.toNat v15) zint) < 0)) (kr) (cond (decide (1073741824 < (p0.getD (Int.toNat v15) zint))) (kr) (kn (wr .i64 (v15 + 1))))) (none)) (none)) (ke0)
def l_cubic_size_10 {R : Type} (cp : Nat → Nat → Bool) (n : Nat) : Nat → (List Int) → Int → Int → (Option R) → (Option R) → Option R
  | 0, _, _, _, _, _ => none
  | m + 1, p0, v14, v15, kr, ke0 =>
    s_cubic_size_5 cp n p0 v14 v15 (fun v16 => l_cubic_size_10 cp n m p0 v14 v16 kr ke0) kr ke0
def s_cubic_size_11 {R : Type} (cp : Nat → Nat → Bool) (n : Nat) (p0 : (List Int)) (v14 : Int) (kr : Option R) (ke0 : Option R) : Option R :=
  l_cubic_size_10 cp n n p0 v14 0 kr ke0
def s_cubic_size_12 {R : Type} (cp : Nat → Nat → Bool) (n : Nat) (p0 : (List Int)) (v14 : Int) (kn : Option R) (kr : Option R) : Option R :=
  s_cubic_size_11 cp n p0 v14 kr kn
def s_cubic_size_13 {R : Type} (cp : Nat → Nat → Bool) (n : Nat) (p0 : (List Int)) (kn : Option R) (kr : Option R) : Option R :=
  s_cubic_size_3 cp n p0 (fun v14 => s_cubic_size_12 cp n p0 v14 kn kr)
def s_cubic_size_14 {R : Type} (cp : Nat → Nat → Bool) (n : Nat) (kr : Option R) : Option R :=
  kr
def s_cubic_size_17 {R : Type} (cp : Nat → Nat → Bool) (n : Nat) (p0 : (List Int)) (kr : Bool → Option R) : Option R :=
  s_cubic_size_13 cp n p0 (s_cubic_size_14 cp n (kr true)) (kr false)
def s_cubic_size_19 {R : Type} (cp : Nat → Nat → Bool) (n : Nat) (p0 : (List Int)) (kr : Bool → Option R) : Option R :=
  s_cubic_size_1 cp n p0 (s_cubic_size_17 cp n p0 (fun v17 => (kr v17)))
def G_cubic_size {R : Type} (cp : Nat → Nat → Bool) : Nat → (List Int) → (Bool → Option R) → Option R
  | 0, _, _ => none
  | n + 1, p0, k =>
    s_cubic_size_19 cp n p0 (fun v18 => k v18)
/-! tideway/cubic.Check -/
def G_cubic_Check {R : Type} (cp : Nat → Nat → Bool) : Nat → SCc → (Int → Option R) → Option R
  | 0, _, _ => none
  | n + 1, p0, k =>
    cond (!decide (p0.xKind = 2)) (k 230) (G_reno_Check cp n (SCc.mk 1 p0.xMss p0.xCwnd p0.xSsthresh p0.xAcc 0 0 0 0 0 p0.xMode p0.xBw p0.xMinRtt p0.xMinAt p0.xRound p0.xNextAt p0.xFull p0.xFullN p0.xPhase p0.xPhaseAt p0.xDoneAt p0.xPrior) (fun r13 => cond (!decide (r13 = 0)) (k 230) (G_cubic_size cp n [p0.xWmax, p0.xWest, p0.xStart] (fun r19 => cond (!r19) (k 230) (cond (decide (p0.xK < 0)) (k 230) (cond (decide (2097151 < p0.xK)) (k 230) (cond (decide (p0.xEpoch < (-1))) (k 230) (cond (decide (1125899906842624 < p0.xEpoch)) (k 230) (k 0)))))))))
/-! tideway/bbr.within -/
def s_bbr_within_1 {R : Type} (cp : Nat → Nat → Bool) (n : Nat) (p0 : Int) (p1 : (List Int)) (kn : Option R) : Option R :=
  kn
def s_bbr_within_3 {R : Type} (cp : Nat → Nat → Bool) (n : Nat) (p0 : Int) (p1 : (List Int)) (kn : Int → Option R) : Option R :=
  kn (p1.length : Int)
def s_bbr_within_5 {R : Type} (cp : Nat → Nat → Bool) (n : Nat) (p0 : Int) (p1 : (List Int)) (v21 v22 : Int) (kn : Int → Option R) (kr : Option R) (ke0 : Option R) : Option R :=
  cond (decide (v22 < v21)) (cond (decide (0 ≤ v22)) (cond (decide (v22 < (p1.length : Int))) (cond (decide ((p1.getD (Int.toNat v22) zint) < 0)) (kr) (cond (decide (p0 < (p1.getD (Int.toNat v22) zint))) (kr) (kn (wr .i64 (v22 + 1))))) (none)) (none)) (ke0)
def l_bbr_within_10 {R : Type} (cp : Nat → Nat → Bool) (n : Nat) : Nat → Int → (List Int) → Int → Int → (Option R) → (Option R) → Option R
  | 0, _, _, _, _, _, _ => none
  | m + 1, p0, p1, v21, v22, kr, ke0 =>
    s_bbr_within_5 cp n p0 p1 v21 v22 (fun v23 => l_bbr_within_10 cp n m p0 p1 v21 v23 kr ke0) kr ke0
def s_bbr_within_11 {R : Type} (cp : Nat → Nat → Bool) (n : Nat) (p0 : Int) (p1 : (List Int)) (v21 : Int) (kr : Option R) (ke0 : Option R) : Option R :=
  l_bbr_within_10 cp n n p0 p1 v21 0 kr ke0
def s_bbr_within_12 {R : Type} (cp : Nat → Nat → Bool) (n : Nat) (p0 : Int) (p1 : (List Int)) (v21 : Int) (kn : Option R) (kr : Option R) : Option R :=
  s_bbr_within_11 cp n p0 p1 v21 kr kn
def s_bbr_within_13 {R : Type} (cp : Nat → Nat → Bool) (n : Nat) (p0 : Int) (p1 : (List Int)) (kn : Option R) (kr : Option R) : Option R :=
  s_bbr_within_3 cp n p0 p1 (fun v21 => s_bbr_within_12 cp n p0 p1 v21 kn kr)
def s_bbr_within_14 {R : Type} (cp : Nat → Nat → Bool) (n : Nat) (kr : Option R) : Option R :=
  kr
def s_bbr_within_17 {R : Type} (cp : Nat → Nat → Bool) (n : Nat) (p0 : Int) (p1 : (List Int)) (kr : Bool → Option R) : Option R :=
  s_bbr_within_13 cp n p0 p1 (s_bbr_within_14 cp n (kr true)) (kr false)
def s_bbr_within_19 {R : Type} (cp : Nat → Nat → Bool) (n : Nat) (p0 : Int) (p1 : (List Int)) (kr : Bool → Option R) : Option R :=
  s_bbr_within_1 cp n p0 p1 (s_bbr_within_17 cp n p0 p1 (fun v24 => (kr v24)))
def G_bbr_within {R : Type} (cp : Nat → Nat → Bool) : Nat → Int → (List Int) → (Bool → Option R) → Option R
  | 0, _, _, _ => none
  | n + 1, p0, p1, k =>
    s_bbr_within_19 cp n p0 p1 (fun v25 => k v25)
/-! tideway/filter.may -/
def G_filter_may {R : Type} (cp : Nat → Nat → Bool) : Nat → SEntry → (Bool → Option R) → Option R
  | 0, _, _ => none
  | n + 1, p0, k =>
    cond (decide (0 ≤ p0.xAt)) (cond (decide (p0.xAt ≤ 1125899906842624)) (cond (decide (0 ≤ p0.xV)) (k (decide (p0.xV ≤ 1152921504606846976))) (k false)) (k false)) (k false)
/-! tideway/filter.beats -/
def G_filter_beats {R : Type} (cp : Nat → Nat → Bool) : Nat → Int → Int → Bool → (Bool → Option R) → Option R
  | 0, _, _, _, _ => none
  | n + 1, p0, p1, p2, k =>
    cond (p2) (cond (decide (p1 ≤ p0)) (k true) (cond (!p2) (k (decide (p0 ≤ p1))) (k false))) (cond (!p2) (k (decide (p0 ≤ p1))) (k false))
/-! tideway/filter.Check -/
def s_filter_Check_1 {R : Type} (cp : Nat → Nat → Bool) (n : Nat) (p0 : (List SEntry)) (p1 : Bool) (kn : Option R) : Option R :=
  kn
def s_filter_Check_3 {R : Type} (cp : Nat → Nat → Bool) (n : Nat) (p0 : (List SEntry)) (p1 : Bool) (kn : Int → Option R) : Option R :=
  kn (p0.length : Int)
def s_filter_Check_5 {R : Type} (cp : Nat → Nat → Bool) (n : Nat) (p0 : (List SEntry)) (p1 : Bool) (v29 v30 : Int) (kn : Int → Option R) (kr : Option R) (ke0 : Option R) : Option R :=
  cond (decide (v30 < v29)) (cond (decide (0 ≤ v30)) (cond (decide (v30 < (p0.length : Int))) (G_filter_may cp n (p0.getD (Int.toNat v30) zEntry) (fun r31 => cond (!r31) (kr) (cond (decide (0 < v30)) (cond (decide (0 ≤ wr .i64 (v30 - 1))) (cond (decide (wr .i64 (v30 - 1) < (p0.length : Int))) (cond (decide (((p0.getD (Int.toNat v30) zEntry).xAt) ≤ ((p0.getD (Int.toNat (wr .i64 (v30 - 1))) zEntry).xAt))) (kr) (cond (decide (0 ≤ wr .i64 (v30 - 1))) (cond (decide (wr .i64 (v30 - 1) < (p0.length : Int))) (G_filter_beats cp n ((p0.getD (Int.toNat v30) zEntry).xV) ((p0.getD (Int.toNat (wr .i64 (v30 - 1))) zEntry).xV) p1 (fun r32 => cond (r32) (kr) (kn (wr .i64 (v30 + 1))))) (none)) (none))) (none)) (none)) (kn (wr .i64 (v30 + 1)))))) (none)) (none)) (ke0)
def l_filter_Check_10 {R : Type} (cp : Nat → Nat → Bool) (n : Nat) : Nat → (List SEntry) → Bool → Int → Int → (Option R) → (Option R) → Option R
  | 0, _, _, _, _, _, _ => none
  | m + 1, p0, p1, v29, v30, kr, ke0 =>
    s_filter_Check_5 cp n p0 p1 v29 v30 (fun v33 => l_filter_Check_10 cp n m p0 p1 v29 v33 kr ke0) kr ke0
def s_filter_Check_11 {R : Type} (cp : Nat → Nat → Bool) (n : Nat) (p0 : (List SEntry)) (p1 : Bool) (v29 : Int) (kr : Option R) (ke0 : Option R) : Option R :=
  l_filter_Check_10 cp n n p0 p1 v29 0 kr ke0
def s_filter_Check_12 {R : Type} (cp : Nat → Nat → Bool) (n : Nat) (p0 : (List SEntry)) (p1 : Bool) (v29 : Int) (kn : Option R) (kr : Option R) : Option R :=
  s_filter_Check_11 cp n p0 p1 v29 kr kn
def s_filter_Check_13 {R : Type} (cp : Nat → Nat → Bool) (n : Nat) (p0 : (List SEntry)) (p1 : Bool) (kn : Option R) (kr : Option R) : Option R :=
  s_filter_Check_3 cp n p0 p1 (fun v29 => s_filter_Check_12 cp n p0 p1 v29 kn kr)
def s_filter_Check_14 {R : Type} (cp : Nat → Nat → Bool) (n : Nat) (kr : Option R) : Option R :=
  kr
def s_filter_Check_17 {R : Type} (cp : Nat → Nat → Bool) (n : Nat) (p0 : (List SEntry)) (p1 : Bool) (kr : Int → Option R) : Option R :=
  s_filter_Check_13 cp n p0 p1 (s_filter_Check_14 cp n (kr 0)) (kr 2)
def s_filter_Check_19 {R : Type} (cp : Nat → Nat → Bool) (n : Nat) (p0 : (List SEntry)) (p1 : Bool) (kr : Int → Option R) : Option R :=
  s_filter_Check_1 cp n p0 p1 (s_filter_Check_17 cp n p0 p1 (fun v34 => (kr v34)))
def G_filter_Check {R : Type} (cp : Nat → Nat → Bool) : Nat → (List SEntry) → Bool → (Int → Option R) → Option R
  | 0, _, _, _ => none
  | n + 1, p0, p1, k =>
    s_filter_Check_19 cp n p0 p1 (fun v35 => k v35)
/-! (*tideway/bbr.ctl).entries -/
def s_bbr_ctl_entries_1 {R : Type} (cp : Nat → Nat → Bool) (n : Nat) (q0 : ST68) (kn : Option R) (kr : Option R) : Option R :=
  G_filter_Check cp n q0.xCc_Bw true (fun r36 => cond (!decide (r36 = 0)) (kr) (kn))
def s_bbr_ctl_entries_4 {R : Type} (cp : Nat → Nat → Bool) (n : Nat) (q0 : ST68) (kn : Int → Option R) : Option R :=
  kn (q0.xCc_Bw.length : Int)
def s_bbr_ctl_entries_6 {R : Type} (cp : Nat → Nat → Bool) (n : Nat) (q0 : ST68) (v37 v38 : Int) (kn : Int → Option R) (kr : Option R) (ke0 : Option R) : Option R :=
  cond (decide (v38 < v37)) (cond (decide (0 ≤ v38)) (cond (decide (v38 < (q0.xCc_Bw.length : Int))) (cond (decide (1099511627776 < ((q0.xCc_Bw.getD (Int.toNat v38) zEntry).xV))) (kr) (cond (decide (q0.xCc_Round < ((q0.xCc_Bw.getD (Int.toNat v38) zEntry).xAt))) (kr) (kn (wr .i64 (v38 + 1))))) (none)) (none)) (ke0)
def l_bbr_ctl_entries_10 {R : Type} (cp : Nat → Nat → Bool) (n : Nat) : Nat → ST68 → Int → Int → (Option R) → (Option R) → Option R
  | 0, _, _, _, _, _ => none
  | m + 1, q0, v37, v38, kr, ke0 =>
    s_bbr_ctl_entries_6 cp n q0 v37 v38 (fun v39 => l_bbr_ctl_entries_10 cp n m q0 v37 v39 kr ke0) kr ke0
def s_bbr_ctl_entries_11 {R : Type} (cp : Nat → Nat → Bool) (n : Nat) (q0 : ST68) (v37 : Int) (kr : Option R) (ke0 : Option R) : Option R :=
  l_bbr_ctl_entries_10 cp n n q0 v37 0 kr ke0
def s_bbr_ctl_entries_12 {R : Type} (cp : Nat → Nat → Bool) (n : Nat) (q0 : ST68) (v37 : Int) (kn : Option R) (kr : Option R) : Option R :=
  s_bbr_ctl_entries_11 cp n q0 v37 kr kn
def s_bbr_ctl_entries_13 {R : Type} (cp : Nat → Nat → Bool) (n : Nat) (q0 : ST68) (kn : Option R) (kr : Option R) : Option R :=
  s_bbr_ctl_entries_4 cp n q0 (fun v37 => s_bbr_ctl_entries_12 cp n q0 v37 kn kr)
def s_bbr_ctl_entries_14 {R : Type} (cp : Nat → Nat → Bool) (n : Nat) (q0 : ST68) (kr : Option R) : Option R :=
  kr
def s_bbr_ctl_entries_17 {R : Type} (cp : Nat → Nat → Bool) (n : Nat) (q0 : ST68) (kr : Bool → Option R) : Option R :=
  s_bbr_ctl_entries_13 cp n q0 (s_bbr_ctl_entries_14 cp n q0 (kr true)) (kr false)
def s_bbr_ctl_entries_19 {R : Type} (cp : Nat → Nat → Bool) (n : Nat) (q0 : ST68) (kr : Bool → Option R) : Option R :=
  s_bbr_ctl_entries_1 cp n q0 (s_bbr_ctl_entries_17 cp n q0 (fun v40 => (kr v40))) (kr false)
def G_bbr_ctl_entries {R : Type} (cp : Nat → Nat → Bool) : Nat → ST68 → (Bool → ST68 → Option R) → Option R
  | 0, _, _ => none
  | n + 1, q0, k =>
    s_bbr_ctl_entries_19 cp n q0 (fun v41 => k v41 q0)
/-! tideway/bbr.Check -/
def s_bbr_Check_1 {R : Type} (cp : Nat → Nat → Bool) (n : Nat) (p0 : SCc) (kn : Option R) : Option R :=
  kn
def s_bbr_Check_3 {R : Type} (cp : Nat → Nat → Bool) (n : Nat) (p0 : SCc) (kn : Bool → Option R) : Option R :=
  cond (decide (p0.xKind = 3)) (cond (decide (1 ≤ p0.xMss)) (cond (decide (p0.xMss ≤ 65000)) (cond (decide (p0.xMss ≤ p0.xCwnd)) (cond (decide (p0.xCwnd ≤ 1073741824)) (cond (decide (p0.xSsthresh = 1073741824)) (kn (decide (p0.xAcc = 0))) (kn false)) (kn false)) (kn false)) (kn false)) (kn false)) (kn false)
def s_bbr_Check_5 {R : Type} (cp : Nat → Nat → Bool) (n : Nat) (p0 : SCc) (v21 : Bool) (kn : Bool → Option R) : Option R :=
  cond (decide (p0.xWmax = 0)) (cond (decide (p0.xEpoch = 0)) (cond (decide (p0.xK = 0)) (cond (decide (p0.xWest = 0)) (kn (decide (p0.xStart = 0))) (kn false)) (kn false)) (kn false)) (kn false)
def s_bbr_Check_7 {R : Type} (cp : Nat → Nat → Bool) (n : Nat) (p0 : SCc) (v21 v22 : Bool) (kn : Bool → Option R) : Option R :=
  G_bbr_within cp n 1125899906842624 [p0.xMinRtt, p0.xMinAt, p0.xNextAt, p0.xPhaseAt, p0.xDoneAt, p0.xRound] (fun r23 => kn r23)
def s_bbr_Check_9 {R : Type} (cp : Nat → Nat → Bool) (n : Nat) (p0 : SCc) (v21 v22 v24 : Bool) (kn : Bool → Option R) : Option R :=
  G_bbr_within cp n 1099511627776 [p0.xFull] (fun r25 => cond (r25) (G_bbr_within cp n 3 [p0.xFullN] (fun r26 => cond (r26) (G_bbr_within cp n 7 [p0.xPhase] (fun r27 => cond (r27) (G_bbr_within cp n 1073741824 [p0.xPrior] (fun r28 => kn r28)) (kn false))) (kn false))) (kn false))
def s_bbr_Check_11 {R : Type} (cp : Nat → Nat → Bool) (n : Nat) (p0 : SCc) (v21 v22 v24 v29 : Bool) (kr : Int → Option R) : Option R :=
  cond (!v21) (kr 230) (cond (!v22) (kr 230) (cond (!v24) (kr 230) (cond (!v29) (kr 230) (cond (decide (p0.xMode < 1)) (kr 230) (cond (decide (4 < p0.xMode)) (kr 230) (G_bbr_ctl_entries cp n (ST68.mk p0.xKind p0.xMss p0.xCwnd p0.xSsthresh p0.xAcc p0.xWmax p0.xEpoch p0.xK p0.xWest p0.xStart p0.xMode p0.xBw p0.xMinRtt p0.xMinAt p0.xRound p0.xNextAt p0.xFull p0.xFullN p0.xPhase p0.xPhaseAt p0.xDoneAt p0.xPrior) (fun r30 r31 => cond (!r30) (kr 230) (kr 0))))))))
def s_bbr_Check_14 {R : Type} (cp : Nat → Nat → Bool) (n : Nat) (p0 : SCc) (v21 v22 v24 : Bool) (kr : Int → Option R) : Option R :=
  s_bbr_Check_9 cp n p0 v21 v22 v24 (fun v29 => s_bbr_Check_11 cp n p0 v21 v22 v24 v29 (fun v32 => (kr v32)))
def s_bbr_Check_16 {R : Type} (cp : Nat → Nat → Bool) (n : Nat) (p0 : SCc) (v21 v22 : Bool) (kr : Int → Option R) : Option R :=
  s_bbr_Check_7 cp n p0 v21 v22 (fun v24 => s_bbr_Check_14 cp n p0 v21 v22 v24 (fun v33 => (kr v33)))
def s_bbr_Check_18 {R : Type} (cp : Nat → Nat → Bool) (n : Nat) (p0 : SCc) (v21 : Bool) (kr : Int → Option R) : Option R :=
  s_bbr_Check_5 cp n p0 v21 (fun v22 => s_bbr_Check_16 cp n p0 v21 v22 (fun v34 => (kr v34)))
def s_bbr_Check_20 {R : Type} (cp : Nat → Nat → Bool) (n : Nat) (p0 : SCc) (kr : Int → Option R) : Option R :=
  s_bbr_Check_3 cp n p0 (fun v21 => s_bbr_Check_18 cp n p0 v21 (fun v35 => (kr v35)))
def s_bbr_Check_22 {R : Type} (cp : Nat → Nat → Bool) (n : Nat) (p0 : SCc) (kr : Int → Option R) : Option R :=
  s_bbr_Check_1 cp n p0 (s_bbr_Check_20 cp n p0 (fun v36 => (kr v36)))
def G_bbr_Check {R : Type} (cp : Nat → Nat → Bool) : Nat → SCc → (Int → Option R) → Option R
  | 0, _, _ => none
  | n + 1, p0, k =>
    s_bbr_Check_22 cp n p0 (fun v37 => k v37)
/-! tideway/cc.Check -/
def G_cc_Check {R : Type} (cp : Nat → Nat → Bool) : Nat → SCc → (Int → Option R) → Option R
  | 0, _, _ => none
  | n + 1, p0, k =>
    cond (decide (p0.xKind = 1)) (G_reno_Check cp n p0 (fun r12 => k r12)) (cond (decide (p0.xKind = 2)) (G_cubic_Check cp n p0 (fun r20 => k r20)) (G_bbr_Check cp n p0 (fun r38 => k r38)))
/-! tideway/cc.asked -/
def G_cc_asked {R : Type} (cp : Nat → Nat → Bool) : Nat → SCc → Bool → (Int → Option R) → Option R
  | 0, _, _, _ => none
  | n + 1, p0, p1, k =>
    G_cc_Check cp n p0 (fun r39 => cond (!decide (r39 = 0)) (k r39) (cond (!p1) (k 2) (k 0)))
/-! tideway/cc.Rest -/
def s_cc_Rest_1 {R : Type} (cp : Nat → Nat → Bool) (n : Nat) (p0 : SCc) (p1 p2 p3 : Int) (kn : Option R) : Option R :=
  kn
def s_cc_Rest_3 {R : Type} (cp : Nat → Nat → Bool) (n : Nat) (p0 : SCc) (p1 p2 p3 : Int) (kn : Int → Option R) : Option R :=
  G_cc_time cp n p1 (fun r1 => cond (r1) (G_cc_time cp n p2 (fun r2 => cond (r2) (G_cc_size cp n p3 (fun r3 => G_cc_asked cp n p0 r3 (fun r4 => kn r4))) (G_cc_asked cp n p0 false (fun r5 => kn r5)))) (G_cc_asked cp n p0 false (fun r6 => kn r6)))
def s_cc_Rest_5 {R : Type} (cp : Nat → Nat → Bool) (n : Nat) (p0 : SCc) (p1 p2 p3 v7 : Int) (kn : Option R) (kr : Option R) : Option R :=
  cond (!decide (v7 = 0)) (kr) (kn)
def s_cc_Rest_8 {R : Type} (cp : Nat → Nat → Bool) (n : Nat) (p0 : SCc) (p1 p2 p3 : Int) (kn : Option R) (kr : Int → Option R) : Option R :=
  s_cc_Rest_3 cp n p0 p1 p2 p3 (fun v7 => s_cc_Rest_5 cp n p0 p1 p2 p3 v7 kn (kr v7))
def s_cc_Rest_9 {R : Type} (cp : Nat → Nat → Bool) (n : Nat) (p0 : SCc) (p1 p2 p3 : Int) (kr : Int → Int → Option R) : Option R :=
  cond (decide (p0.xKind = 3)) (kr p0.xCwnd p0.xSsthresh) (cond (decide (p2 = 0)) (kr p0.xCwnd p0.xSsthresh) (cond (decide (p1 ≤ p2)) (kr p0.xCwnd p0.xSsthresh) (cond (decide (p2 = 0)) (none) (cond (decide ((mn 20 (wr .i64 (Int.tdiv p1 p2))) < 0)) (none) (kr (mn p0.xCwnd (mx (mx (shr .i64 p0.xCwnd (mn 20 (wr .i64 (Int.tdiv p1 p2)))) p3) (wr .i64 (2 * p0.xMss)))) (mx p0.xSsthresh (wr .i64 (Int.tdiv (wr .i64 (3 * p0.xCwnd)) 4))))))))
def s_cc_Rest_12 {R : Type} (cp : Nat → Nat → Bool) (n : Nat) (p0 : SCc) (p1 p2 p3 : Int) (kr : Int → SCc → Option R) : Option R :=
  s_cc_Rest_8 cp n p0 p1 p2 p3 (s_cc_Rest_9 cp n p0 p1 p2 p3 (fun v9 v10 => (kr 0 (SCc.mk p0.xKind p0.xMss v9 v10 p0.xAcc p0.xWmax p0.xEpoch p0.xK p0.xWest p0.xStart p0.xMode p0.xBw p0.xMinRtt p0.xMinAt p0.xRound p0.xNextAt p0.xFull p0.xFullN p0.xPhase p0.xPhaseAt p0.xDoneAt p0.xPrior)))) (fun v8 => (kr v8 (SCc.mk 0 0 0 0 0 0 0 0 0 0 0 [] 0 0 0 0 0 0 0 0 0 0)))
def s_cc_Rest_14 {R : Type} (cp : Nat → Nat → Bool) (n : Nat) (p0 : SCc) (p1 p2 p3 : Int) (kr : Int → SCc → Option R) : Option R :=
  s_cc_Rest_1 cp n p0 p1 p2 p3 (s_cc_Rest_12 cp n p0 p1 p2 p3 (fun v11 v12 => (kr v11 v12)))
def G_cc_Rest {R : Type} (cp : Nat → Nat → Bool) : Nat → SCc → Int → Int → Int → (SCc → Int → Option R) → Option R
  | 0, _, _, _, _, _ => none
  | n + 1, p0, p1, p2, p3, k =>
    s_cc_Rest_14 cp n p0 p1 p2 p3 (fun v13 v14 => k v14 v13)
/-! tideway/tidewayref15.Size -/
def G_ref15_Size {R : Type} (cp : Nat → Nat → Bool) : Nat → Int → (Bool → Option R) → Option R
  | 0, _, _ => none
  | n + 1, p0, k =>
    cond (decide (0 ≤ p0)) (k (decide (p0 ≤ 1073741824))) (k false)
/-! tideway/tidewayref15.Common -/
def G_ref15_Common {R : Type} (cp : Nat → Nat → Bool) : Nat → SCc → (Bool → Option R) → Option R
  | 0, _, _ => none
  | n + 1, p0, k =>
    cond (decide (1 ≤ p0.xMss)) (cond (decide (p0.xMss ≤ 65000)) (cond (decide (p0.xMss ≤ p0.xCwnd)) (cond (decide (p0.xCwnd ≤ 1073741824)) (cond (decide ((wr .i64 (2 * p0.xMss)) ≤ p0.xSsthresh)) (cond (decide (p0.xSsthresh ≤ 1073741824)) (G_ref15_Size cp n p0.xAcc (fun r17 => k r17)) (k false)) (k false)) (k false)) (k false)) (k false)) (k false)
/-! tideway/tidewayref15.Plain -/
def s_ref15_Plain_1 {R : Type} (cp : Nat → Nat → Bool) (n : Nat) (p0 : SCc) (p1 p2 : Bool) (kn : Option R) (kr : Option R) : Option R :=
  cond (!p1) (cond (!decide (p0.xWmax = 0)) (kr) (cond (!decide (p0.xEpoch = 0)) (kr) (cond (!decide (p0.xK = 0)) (kr) (cond (!decide (p0.xWest = 0)) (kr) (cond (!decide (p0.xStart = 0)) (kr) (kn)))))) (kn)
def s_ref15_Plain_4 {R : Type} (cp : Nat → Nat → Bool) (n : Nat) (p0 : SCc) (p2 : Bool) (kr : Bool → Option R) : Option R :=
  cond (!p2) (cond (!decide (p0.xMode = 0)) (kr false) (cond (decide (0 < (p0.xBw.length : Int))) (kr false) (cond (!decide (p0.xMinRtt = 0)) (kr false) (cond (!decide (p0.xMinAt = 0)) (kr false) (cond (!decide (p0.xRound = 0)) (kr false) (cond (!decide (p0.xNextAt = 0)) (kr false) (cond (!decide (p0.xFull = 0)) (kr false) (cond (!decide (p0.xFullN = 0)) (kr false) (cond (!decide (p0.xPhase = 0)) (kr false) (cond (!decide (p0.xPhaseAt = 0)) (kr false) (cond (!decide (p0.xDoneAt = 0)) (kr false) (cond (!decide (p0.xPrior = 0)) (kr false) (kr true))))))))))))) (kr true)
def s_ref15_Plain_7 {R : Type} (cp : Nat → Nat → Bool) (n : Nat) (p0 : SCc) (p1 p2 : Bool) (kr : Bool → Option R) : Option R :=
  s_ref15_Plain_1 cp n p0 p1 p2 (s_ref15_Plain_4 cp n p0 p2 (fun v19 => (kr v19))) (kr false)
def G_ref15_Plain {R : Type} (cp : Nat → Nat → Bool) : Nat → SCc → Bool → Bool → (Bool → Option R) → Option R
  | 0, _, _, _, _ => none
  | n + 1, p0, p1, p2, k =>
    s_ref15_Plain_7 cp n p0 p1 p2 (fun v20 => k v20)
/-! tideway/tidewayref15.Check -/
def G_ref15_Check {R : Type} (cp : Nat → Nat → Bool) : Nat → SCc → (Int → Option R) → Option R
  | 0, _, _ => none
  | n + 1, p0, k =>
    cond (!decide (p0.xKind = 1)) (k 230) (G_ref15_Common cp n p0 (fun r18 => cond (!r18) (k 230) (G_ref15_Plain cp n p0 false false (fun r21 => cond (!r21) (k 230) (k 0)))))
/-! tideway/tidewayref16.Check -/
def s_ref16_Check_1 {R : Type} (cp : Nat → Nat → Bool) (n : Nat) (p0 : SCc) (kn : Option R) (kr : Option R) : Option R :=
  cond (!decide (p0.xKind = 2)) (kr) (G_ref15_Common cp n p0 (fun r23 => cond (!r23) (kr) (G_ref15_Plain cp n p0 true false (fun r24 => cond (!r24) (kr) (kn)))))
def s_ref16_Check_4 {R : Type} (cp : Nat → Nat → Bool) (n : Nat) (p0 : SCc) (kr : Int → Option R) : Option R :=
  G_ref15_Size cp n p0.xWmax (fun r25 => cond (!r25) (kr 230) (G_ref15_Size cp n p0.xWest (fun r26 => cond (!r26) (kr 230) (G_ref15_Size cp n p0.xStart (fun r27 => cond (!r27) (kr 230) (cond (decide (p0.xK < 0)) (kr 230) (cond (decide (2097151 < p0.xK)) (kr 230) (cond (decide (p0.xEpoch < (-1))) (kr 230) (cond (decide (1125899906842624 < p0.xEpoch)) (kr 230) (kr 0))))))))))
def s_ref16_Check_7 {R : Type} (cp : Nat → Nat → Bool) (n : Nat) (p0 : SCc) (kr : Int → Option R) : Option R :=
  s_ref16_Check_1 cp n p0 (s_ref16_Check_4 cp n p0 (fun v28 => (kr v28))) (kr 230)
def G_ref16_Check {R : Type} (cp : Nat → Nat → Bool) : Nat → SCc → (Int → Option R) → Option R
  | 0, _, _ => none
  | n + 1, p0, k =>
    s_ref16_Check_7 cp n p0 (fun v29 => k v29)
/-! tideway/tidewayref12.time -/
def G_ref12_time {R : Type} (cp : Nat → Nat → Bool) : Nat → Int → (Bool → Option R) → Option R
  | 0, _, _ => none
  | n + 1, p0, k =>
    cond (decide (0 ≤ p0)) (k (decide (p0 ≤ 1125899906842624))) (k false)
/-! tideway/tidewayref12.value -/
def G_ref12_value {R : Type} (cp : Nat → Nat → Bool) : Nat → Int → (Bool → Option R) → Option R
  | 0, _, _ => none
  | n + 1, p0, k =>
    cond (decide (0 ≤ p0)) (k (decide (p0 ≤ 1152921504606846976))) (k false)
/-! tideway/tidewayref12.Check -/
def s_ref12_Check_1 {R : Type} (cp : Nat → Nat → Bool) (n : Nat) (p0 : (List SEntry)) (p1 : Bool) (kn : Option R) : Option R :=
  kn
def s_ref12_Check_3 {R : Type} (cp : Nat → Nat → Bool) (n : Nat) (p0 : (List SEntry)) (p1 : Bool) (kn : Option R) : Option R :=
  kn
def s_ref12_Check_5 {R : Type} (cp : Nat → Nat → Bool) (n : Nat) (p0 : (List SEntry)) (p1 : Bool) (v33 : Int) (kn : Option R) (ke0 : Option R) : Option R :=
  cond (decide (v33 < (p0.length : Int))) (kn) (ke0)
def s_ref12_Check_8 {R : Type} (cp : Nat → Nat → Bool) (n : Nat) (p0 : (List SEntry)) (p1 : Bool) (v33 : Int) (kn : Option R) (kr : Option R) : Option R :=
  cond (decide (0 ≤ v33)) (cond (decide (v33 < (p0.length : Int))) (G_ref12_time cp n ((p0.getD (Int.toNat v33) zEntry).xAt) (fun r34 => cond (!r34) (kr) (cond (decide (0 ≤ v33)) (cond (decide (v33 < (p0.length : Int))) (G_ref12_value cp n ((p0.getD (Int.toNat v33) zEntry).xV) (fun r35 => cond (!r35) (kr) (cond (decide (0 < v33)) (cond (decide (0 ≤ v33)) (cond (decide (v33 < (p0.length : Int))) (cond (decide (0 ≤ wr .i64 (v33 - 1))) (cond (decide (wr .i64 (v33 - 1) < (p0.length : Int))) (cond (decide (((p0.getD (Int.toNat v33) zEntry).xAt) ≤ ((p0.getD (Int.toNat (wr .i64 (v33 - 1))) zEntry).xAt))) (kr) (kn)) (none)) (none)) (none)) (none)) (kn)))) (none)) (none)))) (none)) (none)
def s_ref12_Check_10 {R : Type} (cp : Nat → Nat → Bool) (n : Nat) (p0 : (List SEntry)) (p1 : Bool) (v33 : Int) (kn : Option R) (kr : Option R) : Option R :=
  cond (decide (0 < v33)) (cond (p1) (cond (decide (0 ≤ v33)) (cond (decide (v33 < (p0.length : Int))) (cond (decide (0 ≤ wr .i64 (v33 - 1))) (cond (decide (wr .i64 (v33 - 1) < (p0.length : Int))) (cond (decide (((p0.getD (Int.toNat (wr .i64 (v33 - 1))) zEntry).xV) ≤ ((p0.getD (Int.toNat v33) zEntry).xV))) (kr) (cond (!p1) (cond (decide (0 ≤ v33)) (cond (decide (v33 < (p0.length : Int))) (cond (decide (0 ≤ wr .i64 (v33 - 1))) (cond (decide (wr .i64 (v33 - 1) < (p0.length : Int))) (cond (decide (((p0.getD (Int.toNat v33) zEntry).xV) ≤ ((p0.getD (Int.toNat (wr .i64 (v33 - 1))) zEntry).xV))) (kr) (kn)) (none)) (none)) (none)) (none)) (kn))) (none)) (none)) (none)) (none)) (cond (!p1) (cond (decide (0 ≤ v33)) (cond (decide (v33 < (p0.length : Int))) (cond (decide (0 ≤ wr .i64 (v33 - 1))) (cond (decide (wr .i64 (v33 - 1) < (p0.length : Int))) (cond (decide (((p0.getD (Int.toNat v33) zEntry).xV) ≤ ((p0.getD (Int.toNat (wr .i64 (v33 - 1))) zEntry).xV))) (kr) (kn)) (none)) (none)) (none)) (none)) (kn))) (kn)
def s_ref12_Check_11 {R : Type} (cp : Nat → Nat → Bool) (n : Nat) (p0 : (List SEntry)) (p1 : Bool) (v33 : Int) (kn : Option R) (kr : Option R) : Option R :=
  s_ref12_Check_8 cp n p0 p1 v33 (s_ref12_Check_10 cp n p0 p1 v33 kn kr) kr
def s_ref12_Check_12 {R : Type} (cp : Nat → Nat → Bool) (n : Nat) (p0 : (List SEntry)) (p1 : Bool) (v33 : Int) (kn : Option R) (kr : Option R) : Option R :=
  s_ref12_Check_11 cp n p0 p1 v33 kn kr
def s_ref12_Check_13 {R : Type} (cp : Nat → Nat → Bool) (n : Nat) (p0 : (List SEntry)) (p1 : Bool) (v33 : Int) (kn : Int → Option R) : Option R :=
  kn (wr .i64 (v33 + 1))
def s_ref12_Check_16 {R : Type} (cp : Nat → Nat → Bool) (n : Nat) (p0 : (List SEntry)) (p1 : Bool) (v33 : Int) (kn : Int → Option R) (kr : Option R) : Option R :=
  s_ref12_Check_12 cp n p0 p1 v33 (s_ref12_Check_13 cp n p0 p1 v33 (fun v36 => (kn v36))) kr
def s_ref12_Check_18 {R : Type} (cp : Nat → Nat → Bool) (n : Nat) (p0 : (List SEntry)) (p1 : Bool) (v33 : Int) (kn : Int → Option R) (kr : Option R) (ke0 : Option R) : Option R :=
  s_ref12_Check_5 cp n p0 p1 v33 (s_ref12_Check_16 cp n p0 p1 v33 (fun v37 => (kn v37)) kr) ke0
def l_ref12_Check_19 {R : Type} (cp : Nat → Nat → Bool) (n : Nat) : Nat → (List SEntry) → Bool → Int → (Option R) → (Option R) → Option R
  | 0, _, _, _, _, _ => none
  | m + 1, p0, p1, v33, kr, ke0 =>
    s_ref12_Check_18 cp n p0 p1 v33 (fun v38 => l_ref12_Check_19 cp n m p0 p1 v38 kr ke0) kr ke0
def s_ref12_Check_20 {R : Type} (cp : Nat → Nat → Bool) (n : Nat) (p0 : (List SEntry)) (p1 : Bool) (kr : Option R) (ke0 : Option R) : Option R :=
  l_ref12_Check_19 cp n n p0 p1 0 kr ke0
def s_ref12_Check_21 {R : Type} (cp : Nat → Nat → Bool) (n : Nat) (p0 : (List SEntry)) (p1 : Bool) (kn : Option R) (kr : Option R) : Option R :=
  s_ref12_Check_20 cp n p0 p1 kr kn
def s_ref12_Check_22 {R : Type} (cp : Nat → Nat → Bool) (n : Nat) (p0 : (List SEntry)) (p1 : Bool) (kn : Option R) (kr : Option R) : Option R :=
  s_ref12_Check_3 cp n p0 p1 (s_ref12_Check_21 cp n p0 p1 kn kr)
def s_ref12_Check_23 {R : Type} (cp : Nat → Nat → Bool) (n : Nat) (kr : Option R) : Option R :=
  kr
def s_ref12_Check_26 {R : Type} (cp : Nat → Nat → Bool) (n : Nat) (p0 : (List SEntry)) (p1 : Bool) (kr : Int → Option R) : Option R :=
  s_ref12_Check_22 cp n p0 p1 (s_ref12_Check_23 cp n (kr 0)) (kr 2)
def s_ref12_Check_28 {R : Type} (cp : Nat → Nat → Bool) (n : Nat) (p0 : (List SEntry)) (p1 : Bool) (kr : Int → Option R) : Option R :=
  s_ref12_Check_1 cp n p0 p1 (s_ref12_Check_26 cp n p0 p1 (fun v39 => (kr v39)))
def G_ref12_Check {R : Type} (cp : Nat → Nat → Bool) : Nat → (List SEntry) → Bool → (Int → Option R) → Option R
  | 0, _, _, _ => none
  | n + 1, p0, p1, k =>
    s_ref12_Check_28 cp n p0 p1 (fun v40 => k v40)
/-! tideway/tidewayref18.time -/
def G_ref18_time {R : Type} (cp : Nat → Nat → Bool) : Nat → Int → (Bool → Option R) → Option R
  | 0, _, _ => none
  | n + 1, p0, k =>
    cond (decide (0 ≤ p0)) (k (decide (p0 ≤ 1125899906842624))) (k false)
/-! tideway/tidewayref18.Check -/
def s_ref18_Check_1 {R : Type} (cp : Nat → Nat → Bool) (n : Nat) (p0 : SCc) (kn : Option R) (kr : Option R) : Option R :=
  cond (!decide (p0.xKind = 3)) (kr) (cond (decide (p0.xMss < 1)) (kr) (cond (decide (65000 < p0.xMss)) (kr) (cond (decide (p0.xCwnd < p0.xMss)) (kr) (cond (decide (1073741824 < p0.xCwnd)) (kr) (cond (!decide (p0.xSsthresh = 1073741824)) (kr) (cond (!decide (p0.xAcc = 0)) (kr) (G_ref15_Plain cp n p0 false true (fun r31 => cond (!r31) (kr) (kn)))))))))
def s_ref18_Check_4 {R : Type} (cp : Nat → Nat → Bool) (n : Nat) (p0 : SCc) (kn : Bool → Option R) : Option R :=
  cond (decide (p0.xMode < 1)) (kn true) (cond (decide (4 < p0.xMode)) (kn true) (G_ref12_Check cp n p0.xBw true (fun r32 => cond (!decide (r32 = 0)) (kn true) (G_ref18_time cp n p0.xMinRtt (fun r33 => cond (!r33) (kn true) (G_ref18_time cp n p0.xMinAt (fun r34 => cond (!r34) (kn true) (G_ref18_time cp n p0.xNextAt (fun r35 => cond (!r35) (kn true) (G_ref18_time cp n p0.xPhaseAt (fun r36 => cond (!r36) (kn true) (G_ref18_time cp n p0.xDoneAt (fun r37 => cond (!r37) (kn true) (G_ref18_time cp n p0.xRound (fun r38 => kn (!r38))))))))))))))))
def s_ref18_Check_6 {R : Type} (cp : Nat → Nat → Bool) (n : Nat) (p0 : SCc) (v39 : Bool) (kn : Option R) (kr : Option R) : Option R :=
  cond (v39) (kr) (kn)
def s_ref18_Check_7 {R : Type} (cp : Nat → Nat → Bool) (n : Nat) (p0 : SCc) (kn : Option R) (kr : Option R) : Option R :=
  s_ref18_Check_4 cp n p0 (fun v39 => s_ref18_Check_6 cp n p0 v39 kn kr)
def s_ref18_Check_8 {R : Type} (cp : Nat → Nat → Bool) (n : Nat) (p0 : SCc) (kn : Option R) : Option R :=
  kn
def s_ref18_Check_10 {R : Type} (cp : Nat → Nat → Bool) (n : Nat) (p0 : SCc) (v40 : Int) (kn : Int → Option R) (kr : Option R) (ke0 : Option R) : Option R :=
  cond (decide (v40 < (p0.xBw.length : Int))) (cond (decide (0 ≤ v40)) (cond (decide (v40 < (p0.xBw.length : Int))) (cond (decide (1099511627776 < ((p0.xBw.getD (Int.toNat v40) zEntry).xV))) (kr) (cond (decide (0 ≤ v40)) (cond (decide (v40 < (p0.xBw.length : Int))) (cond (decide (p0.xRound < ((p0.xBw.getD (Int.toNat v40) zEntry).xAt))) (kr) (kn (wr .i64 (v40 + 1)))) (none)) (none))) (none)) (none)) (ke0)
def l_ref18_Check_13 {R : Type} (cp : Nat → Nat → Bool) (n : Nat) : Nat → SCc → Int → (Option R) → (Option R) → Option R
  | 0, _, _, _, _ => none
  | m + 1, p0, v40, kr, ke0 =>
    s_ref18_Check_10 cp n p0 v40 (fun v41 => l_ref18_Check_13 cp n m p0 v41 kr ke0) kr ke0
def s_ref18_Check_14 {R : Type} (cp : Nat → Nat → Bool) (n : Nat) (p0 : SCc) (kr : Option R) (ke0 : Option R) : Option R :=
  l_ref18_Check_13 cp n n p0 0 kr ke0
def s_ref18_Check_15 {R : Type} (cp : Nat → Nat → Bool) (n : Nat) (p0 : SCc) (kn : Option R) (kr : Option R) : Option R :=
  s_ref18_Check_14 cp n p0 kr kn
def s_ref18_Check_16 {R : Type} (cp : Nat → Nat → Bool) (n : Nat) (p0 : SCc) (kn : Option R) (kr : Option R) : Option R :=
  s_ref18_Check_8 cp n p0 (s_ref18_Check_15 cp n p0 kn kr)
def s_ref18_Check_17 {R : Type} (cp : Nat → Nat → Bool) (n : Nat) (p0 : SCc) (kr : Int → Option R) : Option R :=
  cond (decide (p0.xFull < 0)) (kr 230) (cond (decide (1099511627776 < p0.xFull)) (kr 230) (cond (decide (p0.xFullN < 0)) (kr 230) (cond (decide (3 < p0.xFullN)) (kr 230) (cond (decide (p0.xPhase < 0)) (kr 230) (cond (decide (7 < p0.xPhase)) (kr 230) (G_ref15_Size cp n p0.xPrior (fun r42 => cond (!r42) (kr 230) (kr 0))))))))
def s_ref18_Check_20 {R : Type} (cp : Nat → Nat → Bool) (n : Nat) (p0 : SCc) (kr : Int → Option R) : Option R :=
  s_ref18_Check_16 cp n p0 (s_ref18_Check_17 cp n p0 (fun v43 => (kr v43))) (kr 230)
def s_ref18_Check_22 {R : Type} (cp : Nat → Nat → Bool) (n : Nat) (p0 : SCc) (kr : Int → Option R) : Option R :=
  s_ref18_Check_7 cp n p0 (s_ref18_Check_20 cp n p0 (fun v44 => (kr v44))) (kr 230)
def s_ref18_Check_24 {R : Type} (cp : Nat → Nat → Bool) (n : Nat) (p0 : SCc) (kr : Int → Option R) : Option R :=
  s_ref18_Check_1 cp n p0 (s_ref18_Check_22 cp n p0 (fun v45 => (kr v45))) (kr 230)
def G_ref18_Check {R : Type} (cp : Nat → Nat → Bool) : Nat → SCc → (Int → Option R) → Option R
  | 0, _, _ => none
  | n + 1, p0, k =>
    s_ref18_Check_24 cp n p0 (fun v46 => k v46)
/-! tideway/tidewayref19.Check -/
def G_ref19_Check {R : Type} (cp : Nat → Nat → Bool) : Nat → SCc → (Int → Option R) → Option R
  | 0, _, _ => none
  | n + 1, p0, k =>
    cond (decide (p0.xKind = 1)) (G_ref15_Check cp n p0 (fun r22 => k r22)) (cond (decide (p0.xKind = 2)) (G_ref16_Check cp n p0 (fun r30 => k r30)) (cond (decide (p0.xKind = 3)) (G_ref18_Check cp n p0 (fun r47 => k r47)) (k 230)))
/-! tideway/tidewayref19.time -/
def G_ref19_time {R : Type} (cp : Nat → Nat → Bool) : Nat → Int → (Bool → Option R) → Option R
  | 0, _, _ => none
  | n + 1, p0, k =>
    cond (decide (0 ≤ p0)) (k (decide (p0 ≤ 1125899906842624))) (k false)
/-! tideway/tidewayref19.Rest -/
def s_ref19_Rest_1 {R : Type} (cp : Nat → Nat → Bool) (n : Nat) (p0 : SCc) (p1 p2 p3 : Int) (kn : Int → Option R) (kr : Int → SCc → Option R) : Option R :=
  G_ref19_Check cp n p0 (fun r61 => cond (!decide (r61 = 0)) (kr 230 (SCc.mk 0 0 0 0 0 0 0 0 0 0 0 [] 0 0 0 0 0 0 0 0 0 0)) (G_ref19_time cp n p1 (fun r62 => cond (!r62) (kr 2 (SCc.mk 0 0 0 0 0 0 0 0 0 0 0 [] 0 0 0 0 0 0 0 0 0 0)) (G_ref19_time cp n p2 (fun r63 => cond (!r63) (kr 2 (SCc.mk 0 0 0 0 0 0 0 0 0 0 0 [] 0 0 0 0 0 0 0 0 0 0)) (G_ref15_Size cp n p3 (fun r64 => cond (!r64) (kr 2 (SCc.mk 0 0 0 0 0 0 0 0 0 0 0 [] 0 0 0 0 0 0 0 0 0 0)) (cond (decide (p2 = 0)) (kr 0 p0) (cond (decide (p1 ≤ p2)) (kr 0 p0) (cond (decide (p0.xKind = 3)) (kr 0 p0) (kn (mn (mx p0.xSsthresh (wr .i64 (Int.tdiv (wr .i64 (p0.xCwnd * 3)) 4))) 1073741824))))))))))))
def s_ref19_Rest_4 {R : Type} (cp : Nat → Nat → Bool) (n : Nat) (p0 : SCc) (p1 p2 p3 v65 : Int) (kn : Option R) : Option R :=
  kn
def s_ref19_Rest_6 {R : Type} (cp : Nat → Nat → Bool) (n : Nat) (p0 : SCc) (p1 p2 p3 v65 v68 v69 : Int) (kn : Int → Int → Option R) (ke0 : Option R) : Option R :=
  cond (decide (p2 = 0)) (none) (cond (decide (v69 < (mn (wr .i64 (Int.tdiv p1 p2)) 20))) (kn (wr .i64 (Int.tdiv v68 2)) (wr .i64 (v69 + 1))) (ke0))
def l_ref19_Rest_11 {R : Type} (cp : Nat → Nat → Bool) (n : Nat) : Nat → SCc → Int → Int → Int → Int → Int → Int → (Int → Option R) → Option R
  | 0, _, _, _, _, _, _, _, _ => none
  | m + 1, p0, p1, p2, p3, v65, v68, v69, ke0 =>
    s_ref19_Rest_6 cp n p0 p1 p2 p3 v65 v68 v69 (fun v70 v71 => l_ref19_Rest_11 cp n m p0 p1 p2 p3 v65 v70 v71 ke0) (ke0 v68)
def s_ref19_Rest_12 {R : Type} (cp : Nat → Nat → Bool) (n : Nat) (p0 : SCc) (p1 p2 p3 v65 : Int) (ke0 : Int → Option R) : Option R :=
  l_ref19_Rest_11 cp n n p0 p1 p2 p3 v65 p0.xCwnd 0 ke0
def s_ref19_Rest_14 {R : Type} (cp : Nat → Nat → Bool) (n : Nat) (p0 : SCc) (p1 p2 p3 v65 : Int) (kn : Int → Option R) : Option R :=
  s_ref19_Rest_12 cp n p0 p1 p2 p3 v65 (fun v72 => (kn v72))
def s_ref19_Rest_16 {R : Type} (cp : Nat → Nat → Bool) (n : Nat) (p0 : SCc) (p1 p2 p3 v65 : Int) (kn : Int → Option R) : Option R :=
  s_ref19_Rest_4 cp n p0 p1 p2 p3 v65 (s_ref19_Rest_14 cp n p0 p1 p2 p3 v65 (fun v73 => (kn v73)))
def s_ref19_Rest_17 {R : Type} (cp : Nat → Nat → Bool) (n : Nat) (p0 : SCc) (p3 v65 v74 : Int) (kr : Int → Option R) : Option R :=
  kr (mn (mx (mx v74 p3) (wr .i64 (2 * p0.xMss))) p0.xCwnd)
def s_ref19_Rest_20 {R : Type} (cp : Nat → Nat → Bool) (n : Nat) (p0 : SCc) (p1 p2 p3 v65 : Int) (kr : Int → Option R) : Option R :=
  s_ref19_Rest_16 cp n p0 p1 p2 p3 v65 (fun v74 => s_ref19_Rest_17 cp n p0 p3 v65 v74 (fun v75 => (kr v75)))
def s_ref19_Rest_22 {R : Type} (cp : Nat → Nat → Bool) (n : Nat) (p0 : SCc) (p1 p2 p3 : Int) (kr : Int → SCc → Option R) : Option R :=
  s_ref19_Rest_1 cp n p0 p1 p2 p3 (fun v65 => s_ref19_Rest_20 cp n p0 p1 p2 p3 v65 (fun v76 => (kr 0 (SCc.mk p0.xKind p0.xMss v76 v65 p0.xAcc p0.xWmax p0.xEpoch p0.xK p0.xWest p0.xStart p0.xMode p0.xBw p0.xMinRtt p0.xMinAt p0.xRound p0.xNextAt p0.xFull p0.xFullN p0.xPhase p0.xPhaseAt p0.xDoneAt p0.xPrior)))) (fun v66 v67 => (kr v66 v67))
def G_ref19_Rest {R : Type} (cp : Nat → Nat → Bool) : Nat → SCc → Int → Int → Int → (SCc → Int → Option R) → Option R
  | 0, _, _, _, _, _ => none
  | n + 1, p0, p1, p2, p3, k =>
    s_ref19_Rest_22 cp n p0 p1 p2 p3 (fun v77 v78 => k v78 v77)
/-! tideway/cc.Limit -/
def G_cc_Limit {R : Type} (cp : Nat → Nat → Bool) : Nat → SCc → Int → (SCc → Int → Option R) → Option R
  | 0, _, _, _ => none
  | n + 1, p0, p1, k =>
    G_cc_size cp n p1 (fun r81 => G_cc_asked cp n p0 r81 (fun r82 => cond (!decide (r82 = 0)) (k (SCc.mk 0 0 0 0 0 0 0 0 0 0 0 [] 0 0 0 0 0 0 0 0 0 0) r82) (k (SCc.mk p0.xKind p0.xMss (mx p0.xMss p1) p0.xSsthresh p0.xAcc p0.xWmax p0.xEpoch p0.xK p0.xWest p0.xStart p0.xMode p0.xBw p0.xMinRtt p0.xMinAt p0.xRound p0.xNextAt p0.xFull p0.xFullN p0.xPhase p0.xPhaseAt p0.xDoneAt p0.xPrior) 0)))
/-! tideway/tidewayref19.Limit -/
def G_ref19_Limit {R : Type} (cp : Nat → Nat → Bool) : Nat → SCc → Int → (SCc → Int → Option R) → Option R
  | 0, _, _, _ => none
  | n + 1, p0, p1, k =>
    G_ref19_Check cp n p0 (fun r85 => cond (!decide (r85 = 0)) (k (SCc.mk 0 0 0 0 0 0 0 0 0 0 0 [] 0 0 0 0 0 0 0 0 0 0) 230) (G_ref15_Size cp n p1 (fun r86 => cond (!r86) (k (SCc.mk 0 0 0 0 0 0 0 0 0 0 0 [] 0 0 0 0 0 0 0 0 0 0) 2) (k (SCc.mk p0.xKind p0.xMss (mx p1 p0.xMss) p0.xSsthresh p0.xAcc p0.xWmax p0.xEpoch p0.xK p0.xWest p0.xStart p0.xMode p0.xBw p0.xMinRtt p0.xMinAt p0.xRound p0.xNextAt p0.xFull p0.xFullN p0.xPhase p0.xPhaseAt p0.xDoneAt p0.xPrior) 0))))
/-! tideway/tidewayref15.Same -/
def s_ref15_Same_1 {R : Type} (cp : Nat → Nat → Bool) (n : Nat) (p0 p1 : SCc) (kn : Option R) (kr : Option R) : Option R :=
  cond (!decide (p0.xKind = p1.xKind)) (kr) (cond (!decide (p0.xMss = p1.xMss)) (kr) (cond (!decide (p0.xCwnd = p1.xCwnd)) (kr) (cond (!decide (p0.xSsthresh = p1.xSsthresh)) (kr) (cond (!decide (p0.xAcc = p1.xAcc)) (kr) (cond (!decide (p0.xWmax = p1.xWmax)) (kr) (cond (!decide (p0.xEpoch = p1.xEpoch)) (kr) (cond (!decide (p0.xK = p1.xK)) (kr) (cond (!decide (p0.xWest = p1.xWest)) (kr) (cond (!decide (p0.xStart = p1.xStart)) (kr) (kn))))))))))
def s_ref15_Same_4 {R : Type} (cp : Nat → Nat → Bool) (n : Nat) (p0 p1 : SCc) (kn : Option R) (kr : Option R) : Option R :=
  cond (!decide (p0.xMode = p1.xMode)) (kr) (cond (!decide (p0.xMinRtt = p1.xMinRtt)) (kr) (cond (!decide (p0.xMinAt = p1.xMinAt)) (kr) (cond (!decide (p0.xRound = p1.xRound)) (kr) (cond (!decide (p0.xNextAt = p1.xNextAt)) (kr) (cond (!decide (p0.xFull = p1.xFull)) (kr) (cond (!decide (p0.xFullN = p1.xFullN)) (kr) (cond (!decide (p0.xPhase = p1.xPhase)) (kr) (cond (!decide (p0.xPhaseAt = p1.xPhaseAt)) (kr) (cond (!decide (p0.xDoneAt = p1.xDoneAt)) (kr) (cond (!decide (p0.xPrior = p1.xPrior)) (kr) (cond (!decide ((p0.xBw.length : Int) = (p1.xBw.length : Int))) (kr) (kn))))))))))))
def s_ref15_Same_5 {R : Type} (cp : Nat → Nat → Bool) (n : Nat) (p0 p1 : SCc) (kn : Option R) : Option R :=
  kn
def s_ref15_Same_7 {R : Type} (cp : Nat → Nat → Bool) (n : Nat) (p0 p1 : SCc) (v89 : Int) (kn : Int → Option R) (kr : Option R) (ke0 : Option R) : Option R :=
  cond (decide (v89 < (p0.xBw.length : Int))) (cond (decide (0 ≤ v89)) (cond (decide (v89 < (p0.xBw.length : Int))) (cond (decide (0 ≤ v89)) (cond (decide (v89 < (p1.xBw.length : Int))) (cond (!(decide ((p0.xBw.getD (Int.toNat v89) zEntry).xAt = (p1.xBw.getD (Int.toNat v89) zEntry).xAt) && (decide ((p0.xBw.getD (Int.toNat v89) zEntry).xV = (p1.xBw.getD (Int.toNat v89) zEntry).xV) && true))) (kr) (kn (wr .i64 (v89 + 1)))) (none)) (none)) (none)) (none)) (ke0)
def l_ref15_Same_11 {R : Type} (cp : Nat → Nat → Bool) (n : Nat) : Nat → SCc → SCc → Int → (Option R) → (Option R) → Option R
  | 0, _, _, _, _, _ => none
  | m + 1, p0, p1, v89, kr, ke0 =>
    s_ref15_Same_7 cp n p0 p1 v89 (fun v90 => l_ref15_Same_11 cp n m p0 p1 v90 kr ke0) kr ke0
def s_ref15_Same_12 {R : Type} (cp : Nat → Nat → Bool) (n : Nat) (p0 p1 : SCc) (kr : Option R) (ke0 : Option R) : Option R :=
  l_ref15_Same_11 cp n n p0 p1 0 kr ke0
def s_ref15_Same_13 {R : Type} (cp : Nat → Nat → Bool) (n : Nat) (p0 p1 : SCc) (kn : Option R) (kr : Option R) : Option R :=
  s_ref15_Same_12 cp n p0 p1 kr kn
def s_ref15_Same_14 {R : Type} (cp : Nat → Nat → Bool) (n : Nat) (p0 p1 : SCc) (kn : Option R) (kr : Option R) : Option R :=
  s_ref15_Same_5 cp n p0 p1 (s_ref15_Same_13 cp n p0 p1 kn kr)
def s_ref15_Same_15 {R : Type} (cp : Nat → Nat → Bool) (n : Nat) (kr : Option R) : Option R :=
  kr
def s_ref15_Same_18 {R : Type} (cp : Nat → Nat → Bool) (n : Nat) (p0 p1 : SCc) (kr : Bool → Option R) : Option R :=
  s_ref15_Same_14 cp n p0 p1 (s_ref15_Same_15 cp n (kr true)) (kr false)
def s_ref15_Same_20 {R : Type} (cp : Nat → Nat → Bool) (n : Nat) (p0 p1 : SCc) (kr : Bool → Option R) : Option R :=
  s_ref15_Same_4 cp n p0 p1 (s_ref15_Same_18 cp n p0 p1 (fun v91 => (kr v91))) (kr false)
def s_ref15_Same_22 {R : Type} (cp : Nat → Nat → Bool) (n : Nat) (p0 p1 : SCc) (kr : Bool → Option R) : Option R :=
  s_ref15_Same_1 cp n p0 p1 (s_ref15_Same_20 cp n p0 p1 (fun v92 => (kr v92))) (kr false)
def G_ref15_Same {R : Type} (cp : Nat → Nat → Bool) : Nat → SCc → SCc → (Bool → Option R) → Option R
  | 0, _, _, _ => none
  | n + 1, p0, p1, k =>
    s_ref15_Same_22 cp n p0 p1 (fun v93 => k v93)
/-! tideway/bbr.Gain -/
def G_bbr_Gain {R : Type} (cp : Nat → Nat → Bool) : Nat → SCc → (Int → Option R) → Option R
  | 0, _, _ => none
  | n + 1, p0, k =>
    G_bbr_Check cp n p0 (fun r32 => cond (!decide (r32 = 0)) (k 0) (cond (decide (p0.xMode = 1)) (k 289) (cond (decide (p0.xMode = 2)) (k 35) (cond (decide (p0.xMode = 3)) (cond (decide (p0.xPhase = 0)) (k 125) (cond (decide (p0.xMode = 3)) (cond (decide (p0.xPhase = 1)) (k 75) (k 100)) (k 100))) (cond (decide (p0.xMode = 3)) (cond (decide (p0.xPhase = 1)) (k 75) (k 100)) (k 100))))))
/-! tideway/filter.Best -/
def G_filter_Best {R : Type} (cp : Nat → Nat → Bool) : Nat → (List SEntry) → (Int → Bool → Option R) → Option R
  | 0, _, _ => none
  | n + 1, p0, k =>
    cond (decide ((p0.length : Int) = 0)) (k 0 false) (cond (decide (0 < (p0.length : Int))) (k ((p0.getD 0 zEntry).xV) true) (none))
/-! (*tideway/bbr.ctl).bandwidth -/
def G_bbr_ctl_bandwidth {R : Type} (cp : Nat → Nat → Bool) : Nat → ST68 → (Int → ST68 → Option R) → Option R
  | 0, _, _ => none
  | n + 1, q0, k =>
    G_filter_Best cp n q0.xCc_Bw (fun r35 r36 => k r35 q0)
/-! tideway/bbr.Bandwidth -/
def G_bbr_Bandwidth {R : Type} (cp : Nat → Nat → Bool) : Nat → SCc → (Int → Option R) → Option R
  | 0, _, _ => none
  | n + 1, p0, k =>
    G_bbr_Check cp n p0 (fun r34 => cond (!decide (r34 = 0)) (k 0) (G_bbr_ctl_bandwidth cp n (ST68.mk p0.xKind p0.xMss p0.xCwnd p0.xSsthresh p0.xAcc p0.xWmax p0.xEpoch p0.xK p0.xWest p0.xStart p0.xMode p0.xBw p0.xMinRtt p0.xMinAt p0.xRound p0.xNextAt p0.xFull p0.xFullN p0.xPhase p0.xPhaseAt p0.xDoneAt p0.xPrior) (fun r37 r38 => k r37)))
/-! math/bits.Mul64 -/
def G_math_bits_Mul64 {R : Type} (cp : Nat → Nat → Bool) : Nat → Int → Int → (Int → Int → Option R) → Option R
  | 0, _, _, _ => none
  | n + 1, p0, p1, k =>
    k (wr .u64 ((wr .u64 ((wr .u64 ((shr .u64 p0 32) * (shr .u64 p1 32))) + (shr .u64 (wr .u64 ((wr .u64 ((shr .u64 p0 32) * (bits .and .u64 p1 4294967295))) + (shr .u64 (wr .u64 ((bits .and .u64 p0 4294967295) * (bits .and .u64 p1 4294967295))) 32))) 32))) + (shr .u64 (wr .u64 ((bits .and .u64 (wr .u64 ((wr .u64 ((shr .u64 p0 32) * (bits .and .u64 p1 4294967295))) + (shr .u64 (wr .u64 ((bits .and .u64 p0 4294967295) * (bits .and .u64 p1 4294967295))) 32))) 4294967295) + (wr .u64 ((bits .and .u64 p0 4294967295) * (shr .u64 p1 32))))) 32))) (wr .u64 (p0 * p1))
/-! math/bits.Len64 -/
def G_math_bits_Len64 {R : Type} (cp : Nat → Nat → Bool) : Nat → Int → (Int → Option R) → Option R
  | 0, _, _ => none
  | n + 1, p0, k =>
    cond (decide (4294967296 ≤ p0)) (cond (decide (65536 ≤ (shr .u64 p0 32))) (cond (decide (256 ≤ (shr .u64 (shr .u64 p0 32) 16))) (cond (decide (0 ≤ wr .u8 (shr .u64 (shr .u64 (shr .u64 p0 32) 16) 8))) (cond (decide (wr .u8 (shr .u64 (shr .u64 (shr .u64 p0 32) 16) 8) < (ByteArray.size tab256_2793 : Int))) (k (wr .i64 ((wr .i64 ((wr .i64 (32 + 16)) + 8)) + (wr .i64 ((tab256_2793.data.getD (Int.toNat (wr .u8 (shr .u64 (shr .u64 (shr .u64 p0 32) 16) 8))) 0).toNat : Int))))) (none)) (none)) (cond (decide (0 ≤ wr .u8 (shr .u64 (shr .u64 p0 32) 16))) (cond (decide (wr .u8 (shr .u64 (shr .u64 p0 32) 16) < (ByteArray.size tab256_2793 : Int))) (k (wr .i64 ((wr .i64 (32 + 16)) + (wr .i64 ((tab256_2793.data.getD (Int.toNat (wr .u8 (shr .u64 (shr .u64 p0 32) 16))) 0).toNat : Int))))) (none)) (none))) (cond (decide (256 ≤ (shr .u64 p0 32))) (cond (decide (0 ≤ wr .u8 (shr .u64 (shr .u64 p0 32) 8))) (cond (decide (wr .u8 (shr .u64 (shr .u64 p0 32) 8) < (ByteArray.size tab256_2793 : Int))) (k (wr .i64 ((wr .i64 (32 + 8)) + (wr .i64 ((tab256_2793.data.getD (Int.toNat (wr .u8 (shr .u64 (shr .u64 p0 32) 8))) 0).toNat : Int))))) (none)) (none)) (cond (decide (0 ≤ wr .u8 (shr .u64 p0 32))) (cond (decide (wr .u8 (shr .u64 p0 32) < (ByteArray.size tab256_2793 : Int))) (k (wr .i64 (32 + (wr .i64 ((tab256_2793.data.getD (Int.toNat (wr .u8 (shr .u64 p0 32))) 0).toNat : Int))))) (none)) (none)))) (cond (decide (65536 ≤ p0)) (cond (decide (256 ≤ (shr .u64 p0 16))) (cond (decide (0 ≤ wr .u8 (shr .u64 (shr .u64 p0 16) 8))) (cond (decide (wr .u8 (shr .u64 (shr .u64 p0 16) 8) < (ByteArray.size tab256_2793 : Int))) (k (wr .i64 ((wr .i64 ((wr .i64 (0 + 16)) + 8)) + (wr .i64 ((tab256_2793.data.getD (Int.toNat (wr .u8 (shr .u64 (shr .u64 p0 16) 8))) 0).toNat : Int))))) (none)) (none)) (cond (decide (0 ≤ wr .u8 (shr .u64 p0 16))) (cond (decide (wr .u8 (shr .u64 p0 16) < (ByteArray.size tab256_2793 : Int))) (k (wr .i64 ((wr .i64 (0 + 16)) + (wr .i64 ((tab256_2793.data.getD (Int.toNat (wr .u8 (shr .u64 p0 16))) 0).toNat : Int))))) (none)) (none))) (cond (decide (256 ≤ p0)) (cond (decide (0 ≤ wr .u8 (shr .u64 p0 8))) (cond (decide (wr .u8 (shr .u64 p0 8) < (ByteArray.size tab256_2793 : Int))) (k (wr .i64 ((wr .i64 (0 + 8)) + (wr .i64 ((tab256_2793.data.getD (Int.toNat (wr .u8 (shr .u64 p0 8))) 0).toNat : Int))))) (none)) (none)) (cond (decide (0 ≤ wr .u8 p0)) (cond (decide (wr .u8 p0 < (ByteArray.size tab256_2793 : Int))) (k (wr .i64 (0 + (wr .i64 ((tab256_2793.data.getD (Int.toNat (wr .u8 p0)) 0).toNat : Int))))) (none)) (none))))
/-! math/bits.LeadingZeros64 -/
def G_math_bits_LeadingZeros64 {R : Type} (cp : Nat → Nat → Bool) : Nat → Int → (Int → Option R) → Option R
  | 0, _, _ => none
  | n + 1, p0, k =>
    G_math_bits_Len64 cp n p0 (fun r42 => k (wr .i64 (64 - r42)))
/-! math/bits.Div64 -/
def s_math_bits_Div64_1 {R : Type} (cp : Nat → Nat → Bool) (n : Nat) (p0 p1 p2 : Int) (kn : Int → Int → Int → Int → Int → Int → Int → Int → Int → Option R) (kr : Int → Int → Option R) : Option R :=
  cond (decide (p2 = 0)) (none) (cond (decide (p2 ≤ p0)) (none) (cond (decide (p0 = 0)) (cond (decide (p2 = 0)) (none) (cond (decide (p2 = 0)) (none) (kr (wr .u64 (Int.tdiv p1 p2)) (Int.tmod p1 p2)))) (G_math_bits_LeadingZeros64 cp n p2 (fun r52 => cond (decide ((wr .u64 r52) < 0)) (none) (cond (decide ((wr .u64 r52) < 0)) (none) (cond (decide ((wr .u64 (64 - (wr .u64 r52))) < 0)) (none) (cond (decide ((wr .u64 r52) < 0)) (none) (cond (decide ((shr .u64 (shl .u64 p2 (wr .u64 r52)) 32) = 0)) (none) (kn (shl .u64 p2 (wr .u64 r52)) (wr .u64 r52) (shr .u64 (shl .u64 p2 (wr .u64 r52)) 32) (bits .and .u64 (shl .u64 p2 (wr .u64 r52)) 4294967295) (bits .or .u64 (shl .u64 p0 (wr .u64 r52)) (shr .u64 p1 (wr .u64 (64 - (wr .u64 r52))))) (shr .u64 (shl .u64 p1 (wr .u64 r52)) 32) (bits .and .u64 (shl .u64 p1 (wr .u64 r52)) 4294967295) (wr .u64 (Int.tdiv (bits .or .u64 (shl .u64 p0 (wr .u64 r52)) (shr .u64 p1 (wr .u64 (64 - (wr .u64 r52))))) (shr .u64 (shl .u64 p2 (wr .u64 r52)) 32))) (wr .u64 ((bits .or .u64 (shl .u64 p0 (wr .u64 r52)) (shr .u64 p1 (wr .u64 (64 - (wr .u64 r52))))) - (wr .u64 ((wr .u64 (Int.tdiv (bits .or .u64 (shl .u64 p0 (wr .u64 r52)) (shr .u64 p1 (wr .u64 (64 - (wr .u64 r52))))) (shr .u64 (shl .u64 p2 (wr .u64 r52)) 32))) * (shr .u64 (shl .u64 p2 (wr .u64 r52)) 32))))))))))))))
def s_math_bits_Div64_4 {R : Type} (cp : Nat → Nat → Bool) (n : Nat) (v53 v54 v55 v56 v57 v58 v59 v64 v65 : Int) (kn : Int → Int → Option R) (ke0 : Int → Option R) : Option R :=
  cond (decide (4294967296 ≤ v64)) (cond (decide (4294967296 ≤ (wr .u64 (v65 + v55)))) (ke0 (wr .u64 (v64 - 1))) (kn (wr .u64 (v64 - 1)) (wr .u64 (v65 + v55)))) (cond (decide ((wr .u64 ((wr .u64 (4294967296 * v65)) + v58)) < (wr .u64 (v64 * v56)))) (cond (decide (4294967296 ≤ (wr .u64 (v65 + v55)))) (ke0 (wr .u64 (v64 - 1))) (kn (wr .u64 (v64 - 1)) (wr .u64 (v65 + v55)))) (ke0 v64))
def l_math_bits_Div64_9 {R : Type} (cp : Nat → Nat → Bool) (n : Nat) : Nat → Int → Int → Int → Int → Int → Int → Int → Int → Int → (Int → Option R) → Option R
  | 0, _, _, _, _, _, _, _, _, _, _ => none
  | m + 1, v53, v54, v55, v56, v57, v58, v59, v64, v65, ke0 =>
    s_math_bits_Div64_4 cp n v53 v54 v55 v56 v57 v58 v59 v64 v65 (fun v66 v67 => l_math_bits_Div64_9 cp n m v53 v54 v55 v56 v57 v58 v59 v66 v67 ke0) (fun v68 => (ke0 v68))
def s_math_bits_Div64_10 {R : Type} (cp : Nat → Nat → Bool) (n : Nat) (v53 v54 v55 v56 v57 v58 v59 v60 v61 : Int) (ke0 : Int → Option R) : Option R :=
  l_math_bits_Div64_9 cp n n v53 v54 v55 v56 v57 v58 v59 v60 v61 ke0
def s_math_bits_Div64_12 {R : Type} (cp : Nat → Nat → Bool) (n : Nat) (v53 v54 v55 v56 v57 v58 v59 v60 v61 : Int) (kn : Int → Option R) : Option R :=
  s_math_bits_Div64_10 cp n v53 v54 v55 v56 v57 v58 v59 v60 v61 (fun v69 => (kn v69))
def s_math_bits_Div64_13 {R : Type} (cp : Nat → Nat → Bool) (n : Nat) (v53 v54 v55 v56 v57 v58 v59 v70 : Int) (kn : Int → Int → Int → Option R) : Option R :=
  cond (decide (v55 = 0)) (none) (kn (wr .u64 ((wr .u64 ((wr .u64 ((wr .u64 (v57 * 4294967296)) + v58)) - (wr .u64 (v70 * v53)))) - (wr .u64 ((wr .u64 (Int.tdiv (wr .u64 ((wr .u64 ((wr .u64 (v57 * 4294967296)) + v58)) - (wr .u64 (v70 * v53)))) v55)) * v55)))) (wr .u64 ((wr .u64 ((wr .u64 (v57 * 4294967296)) + v58)) - (wr .u64 (v70 * v53)))) (wr .u64 (Int.tdiv (wr .u64 ((wr .u64 ((wr .u64 (v57 * 4294967296)) + v58)) - (wr .u64 (v70 * v53)))) v55)))
def s_math_bits_Div64_15 {R : Type} (cp : Nat → Nat → Bool) (n : Nat) (v53 v54 v55 v56 v59 v70 v72 v74 v75 : Int) (kn : Int → Int → Option R) (ke2 : Int → Option R) : Option R :=
  cond (decide (4294967296 ≤ v75)) (cond (decide (4294967296 ≤ (wr .u64 (v74 + v55)))) (ke2 (wr .u64 (v75 - 1))) (kn (wr .u64 (v74 + v55)) (wr .u64 (v75 - 1)))) (cond (decide ((wr .u64 ((wr .u64 (4294967296 * v74)) + v59)) < (wr .u64 (v75 * v56)))) (cond (decide (4294967296 ≤ (wr .u64 (v74 + v55)))) (ke2 (wr .u64 (v75 - 1))) (kn (wr .u64 (v74 + v55)) (wr .u64 (v75 - 1)))) (ke2 v75))
def l_math_bits_Div64_20 {R : Type} (cp : Nat → Nat → Bool) (n : Nat) : Nat → Int → Int → Int → Int → Int → Int → Int → Int → Int → (Int → Option R) → Option R
  | 0, _, _, _, _, _, _, _, _, _, _ => none
  | m + 1, v53, v54, v55, v56, v59, v70, v72, v74, v75, ke2 =>
    s_math_bits_Div64_15 cp n v53 v54 v55 v56 v59 v70 v72 v74 v75 (fun v76 v77 => l_math_bits_Div64_20 cp n m v53 v54 v55 v56 v59 v70 v72 v76 v77 ke2) (fun v78 => (ke2 v78))
def s_math_bits_Div64_21 {R : Type} (cp : Nat → Nat → Bool) (n : Nat) (v53 v54 v55 v56 v59 v70 v71 v72 v73 : Int) (ke2 : Int → Option R) : Option R :=
  l_math_bits_Div64_20 cp n n v53 v54 v55 v56 v59 v70 v72 v71 v73 ke2
def s_math_bits_Div64_23 {R : Type} (cp : Nat → Nat → Bool) (n : Nat) (v53 v54 v55 v56 v59 v70 v71 v72 v73 : Int) (kn : Int → Option R) : Option R :=
  s_math_bits_Div64_21 cp n v53 v54 v55 v56 v59 v70 v71 v72 v73 (fun v79 => (kn v79))
def s_math_bits_Div64_24 {R : Type} (cp : Nat → Nat → Bool) (n : Nat) (v53 v54 v59 v70 v72 v80 : Int) (kr : Int → Int → Option R) : Option R :=
  cond (decide (v54 < 0)) (none) (kr (wr .u64 ((wr .u64 (v70 * 4294967296)) + v80)) (shr .u64 (wr .u64 ((wr .u64 ((wr .u64 (v72 * 4294967296)) + v59)) - (wr .u64 (v80 * v53)))) v54))
def s_math_bits_Div64_27 {R : Type} (cp : Nat → Nat → Bool) (n : Nat) (v53 v54 v55 v56 v59 v70 v71 v72 v73 : Int) (kr : Int → Int → Option R) : Option R :=
  s_math_bits_Div64_23 cp n v53 v54 v55 v56 v59 v70 v71 v72 v73 (fun v80 => s_math_bits_Div64_24 cp n v53 v54 v59 v70 v72 v80 (fun v81 v82 => (kr v81 v82)))
def s_math_bits_Div64_29 {R : Type} (cp : Nat → Nat → Bool) (n : Nat) (v53 v54 v55 v56 v57 v58 v59 v70 : Int) (kr : Int → Int → Option R) : Option R :=
  s_math_bits_Div64_13 cp n v53 v54 v55 v56 v57 v58 v59 v70 (fun v71 v72 v73 => s_math_bits_Div64_27 cp n v53 v54 v55 v56 v59 v70 v71 v72 v73 (fun v83 v84 => (kr v83 v84)))
def s_math_bits_Div64_31 {R : Type} (cp : Nat → Nat → Bool) (n : Nat) (v53 v54 v55 v56 v57 v58 v59 v60 v61 : Int) (kr : Int → Int → Option R) : Option R :=
  s_math_bits_Div64_12 cp n v53 v54 v55 v56 v57 v58 v59 v60 v61 (fun v70 => s_math_bits_Div64_29 cp n v53 v54 v55 v56 v57 v58 v59 v70 (fun v85 v86 => (kr v85 v86)))
def s_math_bits_Div64_33 {R : Type} (cp : Nat → Nat → Bool) (n : Nat) (p0 p1 p2 : Int) (kr : Int → Int → Option R) : Option R :=
  s_math_bits_Div64_1 cp n p0 p1 p2 (fun v53 v54 v55 v56 v57 v58 v59 v60 v61 => s_math_bits_Div64_31 cp n v53 v54 v55 v56 v57 v58 v59 v60 v61 (fun v87 v88 => (kr v87 v88))) (fun v62 v63 => (kr v62 v63))
def G_math_bits_Div64 {R : Type} (cp : Nat → Nat → Bool) : Nat → Int → Int → Int → (Int → Int → Option R) → Option R
  | 0, _, _, _, _ => none
  | n + 1, p0, p1, p2, k =>
    s_math_bits_Div64_33 cp n p0 p1 p2 (fun v89 v90 => k v89 v90)
/-! tideway/seq.MulDiv -/
def G_seq_MulDiv {R : Type} (cp : Nat → Nat → Bool) : Nat → Int → Int → Int → (Int → Int → Option R) → Option R
  | 0, _, _, _, _ => none
  | n + 1, p0, p1, p2, k =>
    cond (decide (p0 < 0)) (k 0 2) (cond (decide (p1 < 0)) (k 0 2) (cond (decide (p2 ≤ 0)) (k 0 2) (G_math_bits_Mul64 cp n (wr .u64 p0) (wr .u64 p1) (fun r40 r41 => cond (decide ((wr .u64 p2) ≤ r40)) (k 9223372036854775807 0) (G_math_bits_Div64 cp n r40 r41 (wr .u64 p2) (fun r91 r92 => k (wr .i64 (mn r91 9223372036854775807)) 0))))))
/-! tideway/cc.Pace -/
def s_cc_Pace_1 {R : Type} (cp : Nat → Nat → Bool) (n : Nat) (p0 : SCc) (p1 p2 : Int) (kn : Int → Int → Option R) (kr : Option R) : Option R :=
  G_cc_Check cp n p0 (fun r33 => cond (!decide (r33 = 0)) (kr) (cond (decide (p0.xKind = 3)) (G_bbr_Gain cp n p0 (fun r34 => G_bbr_Bandwidth cp n p0 (fun r35 => kn 289 (wr .i64 (Int.tdiv (wr .i64 (r34 * r35)) 100))))) (cond (decide (p0.xCwnd < p0.xSsthresh)) (kn 200 0) (kn 120 0))))
def s_cc_Pace_4 {R : Type} (cp : Nat → Nat → Bool) (n : Nat) (p0 : SCc) (p1 p2 v36 v37 : Int) (kr : Int → Option R) : Option R :=
  cond (decide (v37 = 0)) (cond (decide ((mn p1 1125899906842624) < 1)) (G_seq_MulDiv cp n p0.xCwnd (wr .i64 (v36 * 1000000)) (wr .i64 (100 * 1000)) (fun r38 r39 => kr (mn 1099511627776 (mx (mx 1 p2) r38)))) (G_seq_MulDiv cp n p0.xCwnd (wr .i64 (v36 * 1000000)) (wr .i64 (100 * (mn p1 1125899906842624))) (fun r40 r41 => kr (mn 1099511627776 (mx (mx 1 p2) r40))))) (kr (mn 1099511627776 (mx (mx 1 p2) v37)))
def s_cc_Pace_7 {R : Type} (cp : Nat → Nat → Bool) (n : Nat) (p0 : SCc) (p1 p2 : Int) (kr : Int → Option R) : Option R :=
  s_cc_Pace_1 cp n p0 p1 p2 (fun v36 v37 => s_cc_Pace_4 cp n p0 p1 p2 v36 v37 (fun v42 => (kr v42))) (kr 0)
def G_cc_Pace {R : Type} (cp : Nat → Nat → Bool) : Nat → SCc → Int → Int → (Int → Option R) → Option R
  | 0, _, _, _, _ => none
  | n + 1, p0, p1, p2, k =>
    s_cc_Pace_7 cp n p0 p1 p2 (fun v43 => k v43)
/-! tideway/tidewayref18.Gain -/
def G_ref18_Gain {R : Type} (cp : Nat → Nat → Bool) : Nat → SCc → (Int → Option R) → Option R
  | 0, _, _ => none
  | n + 1, p0, k =>
    G_ref18_Check cp n p0 (fun r46 => cond (!decide (r46 = 0)) (k 0) (cond (decide (p0.xMode = 1)) (k 289) (cond (decide (p0.xMode = 2)) (k 35) (cond (decide (p0.xMode = 3)) (cond (decide (0 ≤ p0.xPhase)) (cond (decide (p0.xPhase < ([125, 75, 100, 100, 100, 100, 100, 100].length : Int))) (k ([125, 75, 100, 100, 100, 100, 100, 100].getD (Int.toNat p0.xPhase) zint)) (none)) (none)) (k 100)))))
/-! tideway/tidewayref12.Best -/
def G_ref12_Best {R : Type} (cp : Nat → Nat → Bool) : Nat → (List SEntry) → (Int → Bool → Option R) → Option R
  | 0, _, _ => none
  | n + 1, p0, k =>
    cond (decide ((p0.length : Int) = 0)) (k 0 false) (cond (decide (0 < (p0.length : Int))) (k ((p0.getD 0 zEntry).xV) true) (none))
/-! tideway/tidewayref18.bandwidth -/
def G_ref18_bandwidth {R : Type} (cp : Nat → Nat → Bool) : Nat → SCc → (Int → Option R) → Option R
  | 0, _, _ => none
  | n + 1, p0, k =>
    G_ref12_Best cp n p0.xBw (fun r49 r50 => k r49)
/-! tideway/tidewayref18.Bandwidth -/
def G_ref18_Bandwidth {R : Type} (cp : Nat → Nat → Bool) : Nat → SCc → (Int → Option R) → Option R
  | 0, _, _ => none
  | n + 1, p0, k =>
    G_ref18_Check cp n p0 (fun r48 => cond (!decide (r48 = 0)) (k 0) (G_ref18_bandwidth cp n p0 (fun r51 => k r51)))
/-! tideway/tidewayref01.MulDiv -/
def s_ref01_MulDiv_1 {R : Type} (cp : Nat → Nat → Bool) (n : Nat) (p0 p1 p2 : Int) (kn : Int → Int → Option R) (kr : Option R) : Option R :=
  cond (decide (p0 < 0)) (kr) (cond (decide (p1 < 0)) (kr) (cond (decide (p2 ≤ 0)) (kr) (cond (decide ((wr .u64 p2) = 0)) (none) (cond (decide ((wr .u64 p2) = 0)) (none) (kn (wr .u64 (Int.tdiv (wr .u64 p1) (wr .u64 p2))) (Int.tmod (wr .u64 p1) (wr .u64 p2)))))))
def s_ref01_MulDiv_4 {R : Type} (cp : Nat → Nat → Bool) (n : Nat) (p0 p2 v53 v54 : Int) (kn : Option R) : Option R :=
  kn
def s_ref01_MulDiv_6 {R : Type} (cp : Nat → Nat → Bool) (n : Nat) (p0 p2 v53 v54 v55 v56 : Int) (v57 : Bool) (v58 : Int) (kn : Option R) (ke0 : Option R) : Option R :=
  cond (decide (0 ≤ v58)) (kn) (ke0)
def s_ref01_MulDiv_9 {R : Type} (cp : Nat → Nat → Bool) (n : Nat) (p0 p2 v53 v54 v55 v56 : Int) (v57 : Bool) (v58 : Int) (kn : Int → Int → Bool → Option R) : Option R :=
  cond (v57) (cond (decide ((wr .u64 p2) ≤ (wr .u64 (2 * v56)))) (kn (wr .u64 ((wr .u64 (2 * v55)) + 1)) (wr .u64 ((wr .u64 (2 * v56)) - (wr .u64 p2))) true) (kn (wr .u64 (2 * v55)) (wr .u64 (2 * v56)) true)) (cond (decide ((wr .u64 p2) ≤ (wr .u64 (2 * v56)))) (kn (wr .u64 ((wr .u64 (2 * v55)) + 1)) (wr .u64 ((wr .u64 (2 * v56)) - (wr .u64 p2))) (decide (4611686018427387904 ≤ v55))) (kn (wr .u64 (2 * v55)) (wr .u64 (2 * v56)) (decide (4611686018427387904 ≤ v55))))
def s_ref01_MulDiv_11 {R : Type} (cp : Nat → Nat → Bool) (n : Nat) (p0 p2 v53 v54 v58 v59 v60 : Int) (v61 : Bool) (kn : Int → Int → Bool → Option R) (kr : Option R) : Option R :=
  cond (decide ((wr .u64 v58) < 0)) (none) (cond (decide ((bits .and .i64 (shr .i64 p0 (wr .u64 v58)) 1) = 1)) (cond (v61) (cond (decide ((wr .u64 p2) ≤ (wr .u64 (v60 + v54)))) (kr) (kr)) (cond (decide ((wr .u64 p2) ≤ (wr .u64 (v60 + v54)))) (cond (decide ((wr .u64 (9223372036854775807 - v53)) < v59)) (kr) (cond (decide (9223372036854775807 < (wr .u64 ((wr .u64 (v59 + v53)) + 1)))) (kr) (kn (wr .u64 ((wr .u64 (v59 + v53)) + 1)) (wr .u64 ((wr .u64 (v60 + v54)) - (wr .u64 p2))) (decide ((wr .u64 (9223372036854775807 - v53)) < v59))))) (cond (decide ((wr .u64 (9223372036854775807 - v53)) < v59)) (kr) (cond (decide (9223372036854775807 < (wr .u64 (v59 + v53)))) (kr) (kn (wr .u64 (v59 + v53)) (wr .u64 (v60 + v54)) (decide ((wr .u64 (9223372036854775807 - v53)) < v59))))))) (cond (v61) (kr) (cond (decide (9223372036854775807 < v59)) (kr) (kn v59 v60 v61))))
def s_ref01_MulDiv_15 {R : Type} (cp : Nat → Nat → Bool) (n : Nat) (p0 p2 v53 v54 v55 v56 : Int) (v57 : Bool) (v58 : Int) (kn : Int → Int → Bool → Option R) (kr : Option R) : Option R :=
  s_ref01_MulDiv_9 cp n p0 p2 v53 v54 v55 v56 v57 v58 (fun v59 v60 v61 => s_ref01_MulDiv_11 cp n p0 p2 v53 v54 v58 v59 v60 v61 (fun v62 v63 v64 => (kn v62 v63 v64)) kr)
def s_ref01_MulDiv_17 {R : Type} (cp : Nat → Nat → Bool) (n : Nat) (p0 p2 v53 v54 v55 v56 : Int) (v57 : Bool) (v58 : Int) (kn : Int → Int → Bool → Option R) (kr : Option R) : Option R :=
  s_ref01_MulDiv_15 cp n p0 p2 v53 v54 v55 v56 v57 v58 (fun v65 v66 v67 => (kn v65 v66 v67)) kr
def s_ref01_MulDiv_18 {R : Type} (cp : Nat → Nat → Bool) (n : Nat) (p0 p2 v53 v54 v58 v68 v69 : Int) (v70 : Bool) (kn : Int → Option R) : Option R :=
  kn (wr .i64 (v58 - 1))
def s_ref01_MulDiv_21 {R : Type} (cp : Nat → Nat → Bool) (n : Nat) (p0 p2 v53 v54 v55 v56 : Int) (v57 : Bool) (v58 : Int) (kn : Int → Int → Bool → Int → Option R) (kr : Option R) : Option R :=
  s_ref01_MulDiv_17 cp n p0 p2 v53 v54 v55 v56 v57 v58 (fun v68 v69 v70 => s_ref01_MulDiv_18 cp n p0 p2 v53 v54 v58 v68 v69 v70 (fun v71 => (kn v68 v69 v70 v71))) kr
def s_ref01_MulDiv_23 {R : Type} (cp : Nat → Nat → Bool) (n : Nat) (p0 p2 v53 v54 v55 v56 : Int) (v57 : Bool) (v58 : Int) (kn : Int → Int → Bool → Int → Option R) (kr : Option R) (ke0 : Option R) : Option R :=
  s_ref01_MulDiv_6 cp n p0 p2 v53 v54 v55 v56 v57 v58 (s_ref01_MulDiv_21 cp n p0 p2 v53 v54 v55 v56 v57 v58 (fun v72 v73 v74 v75 => (kn v72 v73 v74 v75)) kr) ke0
def l_ref01_MulDiv_25 {R : Type} (cp : Nat → Nat → Bool) (n : Nat) : Nat → Int → Int → Int → Int → Int → Int → Bool → Int → (Option R) → (Int → Option R) → Option R
  | 0, _, _, _, _, _, _, _, _, _, _ => none
  | m + 1, p0, p2, v53, v54, v55, v56, v57, v58, kr, ke0 =>
    s_ref01_MulDiv_23 cp n p0 p2 v53 v54 v55 v56 v57 v58 (fun v76 v77 v78 v79 => l_ref01_MulDiv_25 cp n m p0 p2 v53 v54 v76 v77 v78 v79 kr ke0) kr (ke0 v55)
def s_ref01_MulDiv_26 {R : Type} (cp : Nat → Nat → Bool) (n : Nat) (p0 p2 v53 v54 : Int) (kr : Option R) (ke0 : Int → Option R) : Option R :=
  l_ref01_MulDiv_25 cp n n p0 p2 v53 v54 0 0 false 62 kr ke0
def s_ref01_MulDiv_28 {R : Type} (cp : Nat → Nat → Bool) (n : Nat) (p0 p2 v53 v54 : Int) (kn : Int → Option R) (kr : Option R) : Option R :=
  s_ref01_MulDiv_26 cp n p0 p2 v53 v54 kr (fun v80 => (kn v80))
def s_ref01_MulDiv_30 {R : Type} (cp : Nat → Nat → Bool) (n : Nat) (p0 p2 v53 v54 : Int) (kn : Int → Option R) (kr : Option R) : Option R :=
  s_ref01_MulDiv_4 cp n p0 p2 v53 v54 (s_ref01_MulDiv_28 cp n p0 p2 v53 v54 (fun v81 => (kn v81)) kr)
def s_ref01_MulDiv_31 {R : Type} (cp : Nat → Nat → Bool) (n : Nat) (v82 : Int) (kr : Int → Option R) : Option R :=
  kr (wr .i64 v82)
def s_ref01_MulDiv_34 {R : Type} (cp : Nat → Nat → Bool) (n : Nat) (p0 p2 v53 v54 : Int) (kr : Int → Option R) : Option R :=
  s_ref01_MulDiv_30 cp n p0 p2 v53 v54 (fun v82 => s_ref01_MulDiv_31 cp n v82 (fun v83 => (kr v83))) (kr 9223372036854775807)
def s_ref01_MulDiv_36 {R : Type} (cp : Nat → Nat → Bool) (n : Nat) (p0 p1 p2 : Int) (kr : Int → Int → Option R) : Option R :=
  s_ref01_MulDiv_1 cp n p0 p1 p2 (fun v53 v54 => s_ref01_MulDiv_34 cp n p0 p2 v53 v54 (fun v84 => (kr v84 0))) (kr 0 2)
def G_ref01_MulDiv {R : Type} (cp : Nat → Nat → Bool) : Nat → Int → Int → Int → (Int → Int → Option R) → Option R
  | 0, _, _, _, _ => none
  | n + 1, p0, p1, p2, k =>
    s_ref01_MulDiv_36 cp n p0 p1 p2 (fun v85 v86 => k v85 v86)
/-! tideway/tidewayref19.Pace -/
def s_ref19_Pace_1 {R : Type} (cp : Nat → Nat → Bool) (n : Nat) (p0 : SCc) (p1 p2 : Int) (kn : Int → Int → Option R) (kr : Option R) : Option R :=
  G_ref19_Check cp n p0 (fun r48 => cond (!decide (r48 = 0)) (kr) (cond (decide (p0.xKind = 3)) (G_ref18_Gain cp n p0 (fun r49 => G_ref18_Bandwidth cp n p0 (fun r50 => kn (wr .i64 (Int.tdiv (wr .i64 (r49 * r50)) 100)) 289))) (cond (decide (p0.xCwnd < p0.xSsthresh)) (kn 0 200) (kn 0 120))))
def s_ref19_Pace_4 {R : Type} (cp : Nat → Nat → Bool) (n : Nat) (p0 : SCc) (p1 p2 v51 v52 : Int) (kr : Int → Option R) : Option R :=
  cond (decide (v51 = 0)) (cond (decide (p1 < 1)) (G_ref01_MulDiv cp n p0.xCwnd (wr .i64 (1000000 * v52)) (wr .i64 (100 * (mn 1000 1125899906842624))) (fun r53 r54 => kr (mn (mx (mx r53 p2) 1) 1099511627776))) (G_ref01_MulDiv cp n p0.xCwnd (wr .i64 (1000000 * v52)) (wr .i64 (100 * (mn p1 1125899906842624))) (fun r55 r56 => kr (mn (mx (mx r55 p2) 1) 1099511627776)))) (kr (mn (mx (mx v51 p2) 1) 1099511627776))
def s_ref19_Pace_7 {R : Type} (cp : Nat → Nat → Bool) (n : Nat) (p0 : SCc) (p1 p2 : Int) (kr : Int → Option R) : Option R :=
  s_ref19_Pace_1 cp n p0 p1 p2 (fun v51 v52 => s_ref19_Pace_4 cp n p0 p1 p2 v51 v52 (fun v57 => (kr v57))) (kr 0)
def G_ref19_Pace {R : Type} (cp : Nat → Nat → Bool) : Nat → SCc → Int → Int → (Int → Option R) → Option R
  | 0, _, _, _, _ => none
  | n + 1, p0, p1, p2, k =>
    s_ref19_Pace_7 cp n p0 p1 p2 (fun v58 => k v58)
/-! tideway/reno.New -/
def G_reno_New {R : Type} (cp : Nat → Nat → Bool) : Nat → Int → Int → (SCc → Int → Option R) → Option R
  | 0, _, _, _ => none
  | n + 1, p0, p1, k =>
    cond (decide (p0 < 1)) (k (SCc.mk 0 0 0 0 0 0 0 0 0 0 0 [] 0 0 0 0 0 0 0 0 0 0) 2) (cond (decide (65000 < p0)) (k (SCc.mk 0 0 0 0 0 0 0 0 0 0 0 [] 0 0 0 0 0 0 0 0 0 0) 2) (cond (decide (p1 < 1)) (k (SCc.mk 0 0 0 0 0 0 0 0 0 0 0 [] 0 0 0 0 0 0 0 0 0 0) 2) (cond (decide (100 < p1)) (k (SCc.mk 0 0 0 0 0 0 0 0 0 0 0 [] 0 0 0 0 0 0 0 0 0 0) 2) (k (SCc.mk 1 p0 (wr .i64 (p0 * p1)) 1073741824 0 0 0 0 0 0 0 [] 0 0 0 0 0 0 0 0 0 0) 0))))
/-! tideway/cubic.New -/
def G_cubic_New {R : Type} (cp : Nat → Nat → Bool) : Nat → Int → Int → (SCc → Int → Option R) → Option R
  | 0, _, _, _ => none
  | n + 1, p0, p1, k =>
    G_reno_New cp n p0 p1 (fun r62 r63 => cond (decide (r63 = 0)) (k (SCc.mk 2 r62.xMss r62.xCwnd r62.xSsthresh r62.xAcc r62.xWmax (-1) r62.xK r62.xWest r62.xStart r62.xMode r62.xBw r62.xMinRtt r62.xMinAt r62.xRound r62.xNextAt r62.xFull r62.xFullN r62.xPhase r62.xPhaseAt r62.xDoneAt r62.xPrior) r63) (k r62 r63))
/-! tideway/bbr.New -/
def G_bbr_New {R : Type} (cp : Nat → Nat → Bool) : Nat → Int → Int → (SCc → Int → Option R) → Option R
  | 0, _, _, _ => none
  | n + 1, p0, p1, k =>
    G_reno_New cp n p0 p1 (fun r66 r67 => cond (decide (r67 = 0)) (k (SCc.mk 3 r66.xMss r66.xCwnd r66.xSsthresh r66.xAcc r66.xWmax r66.xEpoch r66.xK r66.xWest r66.xStart 1 r66.xBw r66.xMinRtt r66.xMinAt r66.xRound r66.xNextAt r66.xFull r66.xFullN r66.xPhase r66.xPhaseAt r66.xDoneAt r66.xPrior) r67) (k r66 r67))
/-! tideway/cc.New -/
def G_cc_New {R : Type} (cp : Nat → Nat → Bool) : Nat → Int → Int → Int → (SCc → Int → Option R) → Option R
  | 0, _, _, _, _ => none
  | n + 1, p0, p1, p2, k =>
    cond (decide (p0 = 1)) (G_reno_New cp n p1 p2 (fun r60 r61 => k r60 r61)) (cond (decide (p0 = 2)) (G_cubic_New cp n p1 p2 (fun r64 r65 => k r64 r65)) (cond (decide (p0 = 3)) (G_bbr_New cp n p1 p2 (fun r68 r69 => k r68 r69)) (k (SCc.mk 0 0 0 0 0 0 0 0 0 0 0 [] 0 0 0 0 0 0 0 0 0 0) 2)))
/-! tideway/tidewaylaw19.heads -/
def s_law19_heads_1 {R : Type} (cp : Nat → Nat → Bool) (n : Nat) (kn : Int → Int → Int → Int → SCc → SCc → SCc → Option R) : Option R :=
  G_cc_New cp n 1 100 10 (fun r72 r73 => G_cc_New cp n 2 100 10 (fun r74 r75 => G_cc_New cp n 3 100 10 (fun r76 r77 => G_cc_New cp n 4 1 1 (fun r78 r79 => kn r73 r75 r77 r79 r72 r74 r76))))
def s_law19_heads_3 {R : Type} (cp : Nat → Nat → Bool) (n : Nat) (v80 v81 v82 v83 : Int) (v84 v85 v86 : SCc) (kr : Bool → Option R) : Option R :=
  G_cc_Rest cp n v84 5000 1000 0 (fun r87 r88 => cond (decide (v80 = 0)) (cond (decide (v81 = 0)) (cond (decide (v82 = 0)) (cond (decide (v83 = 2)) (G_cc_Pace cp n v84 100000 0 (fun r89 => cond (decide (r89 = 20000)) (cond (decide (v85.xKind = 2)) (cond (decide (v86.xMode = 1)) (cond (decide (r88 = 0)) (cond (decide (r87.xCwnd = 200)) (cond (decide (r87.xSsthresh = v84.xSsthresh)) (G_cc_Check cp n (SCc.mk 0 0 0 0 0 0 0 0 0 0 0 [] 0 0 0 0 0 0 0 0 0 0) (fun r90 => kr (decide (r90 = 230)))) (kr false)) (kr false)) (kr false)) (kr false)) (kr false)) (kr false))) (kr false)) (kr false)) (kr false)) (kr false))
def s_law19_heads_6 {R : Type} (cp : Nat → Nat → Bool) (n : Nat) (kr : Bool → Option R) : Option R :=
  s_law19_heads_1 cp n (fun v80 v81 v82 v83 v84 v85 v86 => s_law19_heads_3 cp n v80 v81 v82 v83 v84 v85 v86 (fun v91 => (kr v91)))
def G_law19_heads {R : Type} (cp : Nat → Nat → Bool) : Nat → (Bool → Option R) → Option R
  | 0, _ => none
  | n + 1, k =>
    s_law19_heads_6 cp n (fun v92 => k v92)
/-! tideway/tidewaylaw19.CcRests -/
def s_law19_CcRests_1 {R : Type} (cp : Nat → Nat → Bool) (n : Nat) (p0 : SCc) (p1 p2 p3 : Int) (kn : Int → Int → Int → Int → SCc → SCc → SCc → SCc → Option R) : Option R :=
  G_cc_Rest cp n p0 p1 p2 p3 (fun r13 r14 => G_ref19_Rest cp n p0 p1 p2 p3 (fun r15 r16 => G_cc_Limit cp n p0 p3 (fun r17 r18 => G_ref19_Limit cp n p0 p3 (fun r19 r20 => kn r14 r16 r18 r20 r13 r15 r17 r19))))
def s_law19_CcRests_3 {R : Type} (cp : Nat → Nat → Bool) (n : Nat) (p0 : SCc) (p1 p3 v21 v22 v23 v24 : Int) (v25 v26 v27 v28 : SCc) (kn : Bool → Option R) : Option R :=
  G_ref15_Same cp n v25 v26 (fun r29 => cond (r29) (cond (decide (v21 = v22)) (G_ref15_Same cp n v27 v28 (fun r30 => cond (r30) (cond (decide (v23 = v24)) (G_cc_Pace cp n p0 p1 p3 (fun r31 => G_ref19_Pace cp n p0 p1 p3 (fun r32 => cond (decide (r31 = r32)) (G_law19_heads cp n (fun r33 => kn r33)) (kn false)))) (kn false)) (kn false))) (kn false)) (kn false))
def s_law19_CcRests_5 {R : Type} (cp : Nat → Nat → Bool) (n : Nat) (v34 : Bool) (kr : Option R) : Option R :=
  kr
def s_law19_CcRests_7 {R : Type} (cp : Nat → Nat → Bool) (n : Nat) (p0 : SCc) (p1 p3 v21 v22 v23 v24 : Int) (v25 v26 v27 v28 : SCc) (kr : Bool → Option R) : Option R :=
  s_law19_CcRests_3 cp n p0 p1 p3 v21 v22 v23 v24 v25 v26 v27 v28 (fun v34 => s_law19_CcRests_5 cp n v34 (kr v34))
def s_law19_CcRests_9 {R : Type} (cp : Nat → Nat → Bool) (n : Nat) (p0 : SCc) (p1 p2 p3 : Int) (kr : Bool → Option R) : Option R :=
  s_law19_CcRests_1 cp n p0 p1 p2 p3 (fun v21 v22 v23 v24 v25 v26 v27 v28 => s_law19_CcRests_7 cp n p0 p1 p3 v21 v22 v23 v24 v25 v26 v27 v28 (fun v35 => (kr v35)))
def G_law19_CcRests {R : Type} (cp : Nat → Nat → Bool) : Nat → SCc → Int → Int → Int → (Bool → Option R) → Option R
  | 0, _, _, _, _, _ => none
  | n + 1, p0, p1, p2, p3, k =>
    s_law19_CcRests_9 cp n p0 p1 p2 p3 (fun v36 => k v36)
def ca_cc_time {R : Type} (cp : Nat → Nat → Bool) (n : Nat) (av : Fr) (cs : List Fr) (k : Ret2 RW → Option R) : Option R := match av, cs with
  | [y0], [] => (dI .i64 y0).bind fun p0 => G_cc_time cp n p0 (fun r0 => k ⟨(tB r0), []⟩)
  | _, _ => none
def ca_cc_size {R : Type} (cp : Nat → Nat → Bool) (n : Nat) (av : Fr) (cs : List Fr) (k : Ret2 RW → Option R) : Option R := match av, cs with
  | [y0], [] => (dI .i64 y0).bind fun p0 => G_cc_size cp n p0 (fun r0 => k ⟨(tB r0), []⟩)
  | _, _ => none
def ca_reno_size {R : Type} (cp : Nat → Nat → Bool) (n : Nat) (av : Fr) (cs : List Fr) (k : Ret2 RW → Option R) : Option R := match av, cs with
  | [y0], [] => (dI .i64 y0).bind fun p0 => G_reno_size cp n p0 (fun r0 => k ⟨(tB r0), []⟩)
  | _, _ => none
def ca_reno_ctl_plain {R : Type} (cp : Nat → Nat → Bool) (n : Nat) (av : Fr) (cs : List Fr) (k : Ret2 RW → Option R) : Option R := match av, cs with
  | [y0], [w0] => (dP 138 0 y0).bind fun _ => (dctl w0).bind fun q0 => G_reno_ctl_plain cp n q0 (fun r0 r1 => k ⟨(tB r0), [(ectl r1)]⟩)
  | _, _ => none
def ca_reno_Check {R : Type} (cp : Nat → Nat → Bool) (n : Nat) (av : Fr) (cs : List Fr) (k : Ret2 RW → Option R) : Option R := match av, cs with
  | [y0], [] => (dA y0).bind fun c0_ => (dCc c0_).bind fun p0 => G_reno_Check cp n p0 (fun r0 => k ⟨(tL r0), []⟩)
  | _, _ => none
def ca_cubic_size {R : Type} (cp : Nat → Nat → Bool) (n : Nat) (av : Fr) (cs : List Fr) (k : Ret2 RW → Option R) : Option R := match av, cs with
  | [y0], [] => (dRint false y0).bind fun p0 => G_cubic_size cp n p0 (fun r0 => k ⟨(tB r0), []⟩)
  | _, _ => none
def ca_cubic_Check {R : Type} (cp : Nat → Nat → Bool) (n : Nat) (av : Fr) (cs : List Fr) (k : Ret2 RW → Option R) : Option R := match av, cs with
  | [y0], [] => (dA y0).bind fun c0_ => (dCc c0_).bind fun p0 => G_cubic_Check cp n p0 (fun r0 => k ⟨(tL r0), []⟩)
  | _, _ => none
def ca_bbr_within {R : Type} (cp : Nat → Nat → Bool) (n : Nat) (av : Fr) (cs : List Fr) (k : Ret2 RW → Option R) : Option R := match av, cs with
  | [y0, y1], [] => (dI .i64 y0).bind fun p0 => (dRint false y1).bind fun p1 => G_bbr_within cp n p0 p1 (fun r0 => k ⟨(tB r0), []⟩)
  | _, _ => none
def ca_filter_may {R : Type} (cp : Nat → Nat → Bool) (n : Nat) (av : Fr) (cs : List Fr) (k : Ret2 RW → Option R) : Option R := match av, cs with
  | [y0], [] => (dA y0).bind fun c0_ => (dEntry c0_).bind fun p0 => G_filter_may cp n p0 (fun r0 => k ⟨(tB r0), []⟩)
  | _, _ => none
def ca_filter_beats {R : Type} (cp : Nat → Nat → Bool) (n : Nat) (av : Fr) (cs : List Fr) (k : Ret2 RW → Option R) : Option R := match av, cs with
  | [y0, y1, y2], [] => (dI .i64 y0).bind fun p0 => (dI .i64 y1).bind fun p1 => (dB y2).bind fun p2 => G_filter_beats cp n p0 p1 p2 (fun r0 => k ⟨(tB r0), []⟩)
  | _, _ => none
def ca_filter_Check {R : Type} (cp : Nat → Nat → Bool) (n : Nat) (av : Fr) (cs : List Fr) (k : Ret2 RW → Option R) : Option R := match av, cs with
  | [y0, y1], [] => (dREntry false y0).bind fun p0 => (dB y1).bind fun p1 => G_filter_Check cp n p0 p1 (fun r0 => k ⟨(tL r0), []⟩)
  | _, _ => none
def ca_bbr_ctl_entries {R : Type} (cp : Nat → Nat → Bool) (n : Nat) (av : Fr) (cs : List Fr) (k : Ret2 RW → Option R) : Option R := match av, cs with
  | [y0], [w0] => (dP 36 0 y0).bind fun _ => (dT68 w0).bind fun q0 => G_bbr_ctl_entries cp n q0 (fun r0 r1 => k ⟨(tB r0), [(eT68 r1)]⟩)
  | _, _ => none
def ca_bbr_Check {R : Type} (cp : Nat → Nat → Bool) (n : Nat) (av : Fr) (cs : List Fr) (k : Ret2 RW → Option R) : Option R := match av, cs with
  | [y0], [] => (dA y0).bind fun c0_ => (dCc c0_).bind fun p0 => G_bbr_Check cp n p0 (fun r0 => k ⟨(tL r0), []⟩)
  | _, _ => none
def ca_cc_Check {R : Type} (cp : Nat → Nat → Bool) (n : Nat) (av : Fr) (cs : List Fr) (k : Ret2 RW → Option R) : Option R := match av, cs with
  | [y0], [] => (dA y0).bind fun c0_ => (dCc c0_).bind fun p0 => G_cc_Check cp n p0 (fun r0 => k ⟨(tL r0), []⟩)
  | _, _ => none
def ca_cc_asked {R : Type} (cp : Nat → Nat → Bool) (n : Nat) (av : Fr) (cs : List Fr) (k : Ret2 RW → Option R) : Option R := match av, cs with
  | [y0, y1], [] => (dA y0).bind fun c0_ => (dCc c0_).bind fun p0 => (dB y1).bind fun p1 => G_cc_asked cp n p0 p1 (fun r0 => k ⟨(tL r0), []⟩)
  | _, _ => none
def ca_cc_Rest {R : Type} (cp : Nat → Nat → Bool) (n : Nat) (av : Fr) (cs : List Fr) (k : Ret2 RW → Option R) : Option R := match av, cs with
  | [y0, y1, y2, y3], [] => (dA y0).bind fun c0_ => (dCc c0_).bind fun p0 => (dI .i64 y1).bind fun p1 => (dI .i64 y2).bind fun p2 => (dI .i64 y3).bind fun p3 => G_cc_Rest cp n p0 p1 p2 p3 (fun r0 r1 => k ⟨.tup [.agg (eCc r0), (tL r1)], []⟩)
  | _, _ => none
def ca_ref15_Size {R : Type} (cp : Nat → Nat → Bool) (n : Nat) (av : Fr) (cs : List Fr) (k : Ret2 RW → Option R) : Option R := match av, cs with
  | [y0], [] => (dI .i64 y0).bind fun p0 => G_ref15_Size cp n p0 (fun r0 => k ⟨(tB r0), []⟩)
  | _, _ => none
def ca_ref15_Common {R : Type} (cp : Nat → Nat → Bool) (n : Nat) (av : Fr) (cs : List Fr) (k : Ret2 RW → Option R) : Option R := match av, cs with
  | [y0], [] => (dA y0).bind fun c0_ => (dCc c0_).bind fun p0 => G_ref15_Common cp n p0 (fun r0 => k ⟨(tB r0), []⟩)
  | _, _ => none
def ca_ref15_Plain {R : Type} (cp : Nat → Nat → Bool) (n : Nat) (av : Fr) (cs : List Fr) (k : Ret2 RW → Option R) : Option R := match av, cs with
  | [y0, y1, y2], [] => (dA y0).bind fun c0_ => (dCc c0_).bind fun p0 => (dB y1).bind fun p1 => (dB y2).bind fun p2 => G_ref15_Plain cp n p0 p1 p2 (fun r0 => k ⟨(tB r0), []⟩)
  | _, _ => none
def ca_ref15_Check {R : Type} (cp : Nat → Nat → Bool) (n : Nat) (av : Fr) (cs : List Fr) (k : Ret2 RW → Option R) : Option R := match av, cs with
  | [y0], [] => (dA y0).bind fun c0_ => (dCc c0_).bind fun p0 => G_ref15_Check cp n p0 (fun r0 => k ⟨(tL r0), []⟩)
  | _, _ => none
def ca_ref16_Check {R : Type} (cp : Nat → Nat → Bool) (n : Nat) (av : Fr) (cs : List Fr) (k : Ret2 RW → Option R) : Option R := match av, cs with
  | [y0], [] => (dA y0).bind fun c0_ => (dCc c0_).bind fun p0 => G_ref16_Check cp n p0 (fun r0 => k ⟨(tL r0), []⟩)
  | _, _ => none
def ca_ref12_time {R : Type} (cp : Nat → Nat → Bool) (n : Nat) (av : Fr) (cs : List Fr) (k : Ret2 RW → Option R) : Option R := match av, cs with
  | [y0], [] => (dI .i64 y0).bind fun p0 => G_ref12_time cp n p0 (fun r0 => k ⟨(tB r0), []⟩)
  | _, _ => none
def ca_ref12_value {R : Type} (cp : Nat → Nat → Bool) (n : Nat) (av : Fr) (cs : List Fr) (k : Ret2 RW → Option R) : Option R := match av, cs with
  | [y0], [] => (dI .i64 y0).bind fun p0 => G_ref12_value cp n p0 (fun r0 => k ⟨(tB r0), []⟩)
  | _, _ => none
def ca_ref12_Check {R : Type} (cp : Nat → Nat → Bool) (n : Nat) (av : Fr) (cs : List Fr) (k : Ret2 RW → Option R) : Option R := match av, cs with
  | [y0, y1], [] => (dREntry false y0).bind fun p0 => (dB y1).bind fun p1 => G_ref12_Check cp n p0 p1 (fun r0 => k ⟨(tL r0), []⟩)
  | _, _ => none
def ca_ref18_time {R : Type} (cp : Nat → Nat → Bool) (n : Nat) (av : Fr) (cs : List Fr) (k : Ret2 RW → Option R) : Option R := match av, cs with
  | [y0], [] => (dI .i64 y0).bind fun p0 => G_ref18_time cp n p0 (fun r0 => k ⟨(tB r0), []⟩)
  | _, _ => none
def ca_ref18_Check {R : Type} (cp : Nat → Nat → Bool) (n : Nat) (av : Fr) (cs : List Fr) (k : Ret2 RW → Option R) : Option R := match av, cs with
  | [y0], [] => (dA y0).bind fun c0_ => (dCc c0_).bind fun p0 => G_ref18_Check cp n p0 (fun r0 => k ⟨(tL r0), []⟩)
  | _, _ => none
def ca_ref19_Check {R : Type} (cp : Nat → Nat → Bool) (n : Nat) (av : Fr) (cs : List Fr) (k : Ret2 RW → Option R) : Option R := match av, cs with
  | [y0], [] => (dA y0).bind fun c0_ => (dCc c0_).bind fun p0 => G_ref19_Check cp n p0 (fun r0 => k ⟨(tL r0), []⟩)
  | _, _ => none
def ca_ref19_time {R : Type} (cp : Nat → Nat → Bool) (n : Nat) (av : Fr) (cs : List Fr) (k : Ret2 RW → Option R) : Option R := match av, cs with
  | [y0], [] => (dI .i64 y0).bind fun p0 => G_ref19_time cp n p0 (fun r0 => k ⟨(tB r0), []⟩)
  | _, _ => none
def ca_ref19_Rest {R : Type} (cp : Nat → Nat → Bool) (n : Nat) (av : Fr) (cs : List Fr) (k : Ret2 RW → Option R) : Option R := match av, cs with
  | [y0, y1, y2, y3], [] => (dA y0).bind fun c0_ => (dCc c0_).bind fun p0 => (dI .i64 y1).bind fun p1 => (dI .i64 y2).bind fun p2 => (dI .i64 y3).bind fun p3 => G_ref19_Rest cp n p0 p1 p2 p3 (fun r0 r1 => k ⟨.tup [.agg (eCc r0), (tL r1)], []⟩)
  | _, _ => none
def ca_cc_Limit {R : Type} (cp : Nat → Nat → Bool) (n : Nat) (av : Fr) (cs : List Fr) (k : Ret2 RW → Option R) : Option R := match av, cs with
  | [y0, y1], [] => (dA y0).bind fun c0_ => (dCc c0_).bind fun p0 => (dI .i64 y1).bind fun p1 => G_cc_Limit cp n p0 p1 (fun r0 r1 => k ⟨.tup [.agg (eCc r0), (tL r1)], []⟩)
  | _, _ => none
def ca_ref19_Limit {R : Type} (cp : Nat → Nat → Bool) (n : Nat) (av : Fr) (cs : List Fr) (k : Ret2 RW → Option R) : Option R := match av, cs with
  | [y0, y1], [] => (dA y0).bind fun c0_ => (dCc c0_).bind fun p0 => (dI .i64 y1).bind fun p1 => G_ref19_Limit cp n p0 p1 (fun r0 r1 => k ⟨.tup [.agg (eCc r0), (tL r1)], []⟩)
  | _, _ => none
def ca_ref15_Same {R : Type} (cp : Nat → Nat → Bool) (n : Nat) (av : Fr) (cs : List Fr) (k : Ret2 RW → Option R) : Option R := match av, cs with
  | [y0, y1], [] => (dA y0).bind fun c0_ => (dCc c0_).bind fun p0 => (dA y1).bind fun c1_ => (dCc c1_).bind fun p1 => G_ref15_Same cp n p0 p1 (fun r0 => k ⟨(tB r0), []⟩)
  | _, _ => none
def ca_bbr_Gain {R : Type} (cp : Nat → Nat → Bool) (n : Nat) (av : Fr) (cs : List Fr) (k : Ret2 RW → Option R) : Option R := match av, cs with
  | [y0], [] => (dA y0).bind fun c0_ => (dCc c0_).bind fun p0 => G_bbr_Gain cp n p0 (fun r0 => k ⟨(tL r0), []⟩)
  | _, _ => none
def ca_filter_Best {R : Type} (cp : Nat → Nat → Bool) (n : Nat) (av : Fr) (cs : List Fr) (k : Ret2 RW → Option R) : Option R := match av, cs with
  | [y0], [] => (dREntry false y0).bind fun p0 => G_filter_Best cp n p0 (fun r0 r1 => k ⟨.tup [(tL r0), (tB r1)], []⟩)
  | _, _ => none
def ca_bbr_ctl_bandwidth {R : Type} (cp : Nat → Nat → Bool) (n : Nat) (av : Fr) (cs : List Fr) (k : Ret2 RW → Option R) : Option R := match av, cs with
  | [y0], [w0] => (dP 15 0 y0).bind fun _ => (dT68 w0).bind fun q0 => G_bbr_ctl_bandwidth cp n q0 (fun r0 r1 => k ⟨(tL r0), [(eT68 r1)]⟩)
  | _, _ => none
def ca_bbr_Bandwidth {R : Type} (cp : Nat → Nat → Bool) (n : Nat) (av : Fr) (cs : List Fr) (k : Ret2 RW → Option R) : Option R := match av, cs with
  | [y0], [] => (dA y0).bind fun c0_ => (dCc c0_).bind fun p0 => G_bbr_Bandwidth cp n p0 (fun r0 => k ⟨(tL r0), []⟩)
  | _, _ => none
def ca_math_bits_Mul64 {R : Type} (cp : Nat → Nat → Bool) (n : Nat) (av : Fr) (cs : List Fr) (k : Ret2 RW → Option R) : Option R := match av, cs with
  | [y0, y1], [] => (dI .u64 y0).bind fun p0 => (dI .u64 y1).bind fun p1 => G_math_bits_Mul64 cp n p0 p1 (fun r0 r1 => k ⟨.tup [(tI .u64 r0), (tI .u64 r1)], []⟩)
  | _, _ => none
def ca_math_bits_Len64 {R : Type} (cp : Nat → Nat → Bool) (n : Nat) (av : Fr) (cs : List Fr) (k : Ret2 RW → Option R) : Option R := match av, cs with
  | [y0], [] => (dI .u64 y0).bind fun p0 => G_math_bits_Len64 cp n p0 (fun r0 => k ⟨(tL r0), []⟩)
  | _, _ => none
def ca_math_bits_LeadingZeros64 {R : Type} (cp : Nat → Nat → Bool) (n : Nat) (av : Fr) (cs : List Fr) (k : Ret2 RW → Option R) : Option R := match av, cs with
  | [y0], [] => (dI .u64 y0).bind fun p0 => G_math_bits_LeadingZeros64 cp n p0 (fun r0 => k ⟨(tL r0), []⟩)
  | _, _ => none
def ca_math_bits_Div64 {R : Type} (cp : Nat → Nat → Bool) (n : Nat) (av : Fr) (cs : List Fr) (k : Ret2 RW → Option R) : Option R := match av, cs with
  | [y0, y1, y2], [] => (dI .u64 y0).bind fun p0 => (dI .u64 y1).bind fun p1 => (dI .u64 y2).bind fun p2 => G_math_bits_Div64 cp n p0 p1 p2 (fun r0 r1 => k ⟨.tup [(tI .u64 r0), (tI .u64 r1)], []⟩)
  | _, _ => none
def ca_seq_MulDiv {R : Type} (cp : Nat → Nat → Bool) (n : Nat) (av : Fr) (cs : List Fr) (k : Ret2 RW → Option R) : Option R := match av, cs with
  | [y0, y1, y2], [] => (dI .i64 y0).bind fun p0 => (dI .i64 y1).bind fun p1 => (dI .i64 y2).bind fun p2 => G_seq_MulDiv cp n p0 p1 p2 (fun r0 r1 => k ⟨.tup [(tL r0), (tL r1)], []⟩)
  | _, _ => none
def ca_cc_Pace {R : Type} (cp : Nat → Nat → Bool) (n : Nat) (av : Fr) (cs : List Fr) (k : Ret2 RW → Option R) : Option R := match av, cs with
  | [y0, y1, y2], [] => (dA y0).bind fun c0_ => (dCc c0_).bind fun p0 => (dI .i64 y1).bind fun p1 => (dI .i64 y2).bind fun p2 => G_cc_Pace cp n p0 p1 p2 (fun r0 => k ⟨(tL r0), []⟩)
  | _, _ => none
def ca_ref18_Gain {R : Type} (cp : Nat → Nat → Bool) (n : Nat) (av : Fr) (cs : List Fr) (k : Ret2 RW → Option R) : Option R := match av, cs with
  | [y0], [] => (dA y0).bind fun c0_ => (dCc c0_).bind fun p0 => G_ref18_Gain cp n p0 (fun r0 => k ⟨(tL r0), []⟩)
  | _, _ => none
def ca_ref12_Best {R : Type} (cp : Nat → Nat → Bool) (n : Nat) (av : Fr) (cs : List Fr) (k : Ret2 RW → Option R) : Option R := match av, cs with
  | [y0], [] => (dREntry false y0).bind fun p0 => G_ref12_Best cp n p0 (fun r0 r1 => k ⟨.tup [(tL r0), (tB r1)], []⟩)
  | _, _ => none
def ca_ref18_bandwidth {R : Type} (cp : Nat → Nat → Bool) (n : Nat) (av : Fr) (cs : List Fr) (k : Ret2 RW → Option R) : Option R := match av, cs with
  | [y0], [] => (dA y0).bind fun c0_ => (dCc c0_).bind fun p0 => G_ref18_bandwidth cp n p0 (fun r0 => k ⟨(tL r0), []⟩)
  | _, _ => none
def ca_ref18_Bandwidth {R : Type} (cp : Nat → Nat → Bool) (n : Nat) (av : Fr) (cs : List Fr) (k : Ret2 RW → Option R) : Option R := match av, cs with
  | [y0], [] => (dA y0).bind fun c0_ => (dCc c0_).bind fun p0 => G_ref18_Bandwidth cp n p0 (fun r0 => k ⟨(tL r0), []⟩)
  | _, _ => none
def ca_ref01_MulDiv {R : Type} (cp : Nat → Nat → Bool) (n : Nat) (av : Fr) (cs : List Fr) (k : Ret2 RW → Option R) : Option R := match av, cs with
  | [y0, y1, y2], [] => (dI .i64 y0).bind fun p0 => (dI .i64 y1).bind fun p1 => (dI .i64 y2).bind fun p2 => G_ref01_MulDiv cp n p0 p1 p2 (fun r0 r1 => k ⟨.tup [(tL r0), (tL r1)], []⟩)
  | _, _ => none
def ca_ref19_Pace {R : Type} (cp : Nat → Nat → Bool) (n : Nat) (av : Fr) (cs : List Fr) (k : Ret2 RW → Option R) : Option R := match av, cs with
  | [y0, y1, y2], [] => (dA y0).bind fun c0_ => (dCc c0_).bind fun p0 => (dI .i64 y1).bind fun p1 => (dI .i64 y2).bind fun p2 => G_ref19_Pace cp n p0 p1 p2 (fun r0 => k ⟨(tL r0), []⟩)
  | _, _ => none
def ca_reno_New {R : Type} (cp : Nat → Nat → Bool) (n : Nat) (av : Fr) (cs : List Fr) (k : Ret2 RW → Option R) : Option R := match av, cs with
  | [y0, y1], [] => (dI .i64 y0).bind fun p0 => (dI .i64 y1).bind fun p1 => G_reno_New cp n p0 p1 (fun r0 r1 => k ⟨.tup [.agg (eCc r0), (tL r1)], []⟩)
  | _, _ => none
def ca_cubic_New {R : Type} (cp : Nat → Nat → Bool) (n : Nat) (av : Fr) (cs : List Fr) (k : Ret2 RW → Option R) : Option R := match av, cs with
  | [y0, y1], [] => (dI .i64 y0).bind fun p0 => (dI .i64 y1).bind fun p1 => G_cubic_New cp n p0 p1 (fun r0 r1 => k ⟨.tup [.agg (eCc r0), (tL r1)], []⟩)
  | _, _ => none
def ca_bbr_New {R : Type} (cp : Nat → Nat → Bool) (n : Nat) (av : Fr) (cs : List Fr) (k : Ret2 RW → Option R) : Option R := match av, cs with
  | [y0, y1], [] => (dI .i64 y0).bind fun p0 => (dI .i64 y1).bind fun p1 => G_bbr_New cp n p0 p1 (fun r0 r1 => k ⟨.tup [.agg (eCc r0), (tL r1)], []⟩)
  | _, _ => none
def ca_cc_New {R : Type} (cp : Nat → Nat → Bool) (n : Nat) (av : Fr) (cs : List Fr) (k : Ret2 RW → Option R) : Option R := match av, cs with
  | [y0, y1, y2], [] => (dI .i64 y0).bind fun p0 => (dI .i64 y1).bind fun p1 => (dI .i64 y2).bind fun p2 => G_cc_New cp n p0 p1 p2 (fun r0 r1 => k ⟨.tup [.agg (eCc r0), (tL r1)], []⟩)
  | _, _ => none
def ca_law19_heads {R : Type} (cp : Nat → Nat → Bool) (n : Nat) (av : Fr) (cs : List Fr) (k : Ret2 RW → Option R) : Option R := match av, cs with
  | [], [] => G_law19_heads cp n (fun r0 => k ⟨(tB r0), []⟩)
  | _, _ => none
def ca_law19_CcRests {R : Type} (cp : Nat → Nat → Bool) (n : Nat) (av : Fr) (cs : List Fr) (k : Ret2 RW → Option R) : Option R := match av, cs with
  | [y0, y1, y2, y3], [] => (dA y0).bind fun c0_ => (dCc c0_).bind fun p0 => (dI .i64 y1).bind fun p1 => (dI .i64 y2).bind fun p2 => (dI .i64 y3).bind fun p3 => G_law19_CcRests cp n p0 p1 p2 p3 (fun r0 => k ⟨(tB r0), []⟩)
  | _, _ => none
def callP {R : Type} (cp : Nat → Nat → Bool) (n : Nat) (id : Nat) (av : Fr) (cs : List Fr) (k : Ret2 RW → Option R) : Option R := match id with
  | 32 => ca_cc_time cp n av cs k
  | 33 => ca_cc_size cp n av cs k
  | 51 => ca_reno_size cp n av cs k
  | 1008 => ca_reno_ctl_plain cp n av cs k
  | 28 => ca_reno_Check cp n av cs k
  | 53 => ca_cubic_size cp n av cs k
  | 29 => ca_cubic_Check cp n av cs k
  | 54 => ca_bbr_within cp n av cs k
  | 92 => ca_filter_may cp n av cs k
  | 93 => ca_filter_beats cp n av cs k
  | 76 => ca_filter_Check cp n av cs k
  | 1013 => ca_bbr_ctl_entries cp n av cs k
  | 30 => ca_bbr_Check cp n av cs k
  | 10 => ca_cc_Check cp n av cs k
  | 31 => ca_cc_asked cp n av cs k
  | 12 => ca_cc_Rest cp n av cs k
  | 36 => ca_ref15_Size cp n av cs k
  | 77 => ca_ref15_Common cp n av cs k
  | 78 => ca_ref15_Plain cp n av cs k
  | 56 => ca_ref15_Check cp n av cs k
  | 57 => ca_ref16_Check cp n av cs k
  | 94 => ca_ref12_time cp n av cs k
  | 95 => ca_ref12_value cp n av cs k
  | 79 => ca_ref12_Check cp n av cs k
  | 80 => ca_ref18_time cp n av cs k
  | 58 => ca_ref18_Check cp n av cs k
  | 34 => ca_ref19_Check cp n av cs k
  | 35 => ca_ref19_time cp n av cs k
  | 13 => ca_ref19_Rest cp n av cs k
  | 14 => ca_cc_Limit cp n av cs k
  | 15 => ca_ref19_Limit cp n av cs k
  | 9 => ca_ref15_Same cp n av cs k
  | 37 => ca_bbr_Gain cp n av cs k
  | 81 => ca_filter_Best cp n av cs k
  | 1036 => ca_bbr_ctl_bandwidth cp n av cs k
  | 38 => ca_bbr_Bandwidth cp n av cs k
  | 60 => ca_math_bits_Mul64 cp n av cs k
  | 96 => ca_math_bits_Len64 cp n av cs k
  | 82 => ca_math_bits_LeadingZeros64 cp n av cs k
  | 61 => ca_math_bits_Div64 cp n av cs k
  | 39 => ca_seq_MulDiv cp n av cs k
  | 16 => ca_cc_Pace cp n av cs k
  | 40 => ca_ref18_Gain cp n av cs k
  | 83 => ca_ref12_Best cp n av cs k
  | 62 => ca_ref18_bandwidth cp n av cs k
  | 41 => ca_ref18_Bandwidth cp n av cs k
  | 42 => ca_ref01_MulDiv cp n av cs k
  | 17 => ca_ref19_Pace cp n av cs k
  | 22 => ca_reno_New cp n av cs k
  | 23 => ca_cubic_New cp n av cs k
  | 24 => ca_bbr_New cp n av cs k
  | 7 => ca_cc_New cp n av cs k
  | 11 => ca_law19_heads cp n av cs k
  | 5 => ca_law19_CcRests cp n av cs k
  | _ => none
end
end Go.Proofs.Ytgnoidblkenglaa.M
