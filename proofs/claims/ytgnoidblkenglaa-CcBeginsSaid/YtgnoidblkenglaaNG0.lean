/- The values of the program's functions, and the functions, plain. -/
import Derived.Test.YtgnoidblkenglaaMachX
set_option maxRecDepth 100000
set_option linter.unusedVariables false
namespace Go.Proofs.Ytgnoidblkenglaa.M
open Go
noncomputable section
def str_ : ByteArray := ⟨#[]⟩
def tab256_2793 : ByteArray := ⟨#[0, 1, 2, 2, 3, 3, 3, 3, 4, 4, 4, 4, 4, 4, 4, 4, 5, 5, 5, 5, 5, 5, 5, 5, 5, 5, 5, 5, 5, 5, 5, 5, 6, 6, 6, 6, 6, 6, 6, 6, 6, 6, 6, 6, 6, 6, 6, 6, 6, 6, 6, 6, 6, 6, 6, 6, 6, 6, 6, 6, 6, 6, 6, 6, 7, 7, 7, 7, 7, 7, 7, 7, 7, 7, 7, 7, 7, 7, 7, 7, 7, 7, 7, 7, 7, 7, 7, 7, 7, 7, 7, 7, 7, 7, 7, 7, 7, 7, 7, 7, 7, 7, 7, 7, 7, 7, 7, 7, 7, 7, 7, 7, 7, 7, 7, 7, 7, 7, 7, 7, 7, 7, 7, 7, 7, 7, 7, 7, 8, 8, 8, 8, 8, 8, 8, 8, 8, 8, 8, 8, 8, 8, 8, 8, 8, 8, 8, 8, 8, 8, 8, 8, 8, 8, 8, 8, 8, 8, 8, 8, 8, 8, 8, 8, 8, 8, 8, 8, 8, 8, 8, 8, 8, 8, 8, 8, 8, 8, 8, 8, 8, 8, 8, 8, 8, 8, 8, 8, 8, 8, 8, 8, 8, 8, 8, 8, 8, 8, 8, 8, 8, 8, 8, 8, 8, 8, 8, 8, 8, 8, 8, 8, 8, 8, 8, 8, 8, 8, 8, 8, 8, 8, 8, 8, 8, 8, 8, 8, 8, 8, 8, 8, 8, 8, 8, 8, 8, 8, 8, 8, 8, 8, 8, 8, 8, 8, 8, 8, 8, 8, 8, 8, 8, 8, 8, 8]⟩
structure SEntry where
  xAt : Int
  xV : Int
def zEntry : SEntry := ⟨0, 0⟩
structure SCc where
  xKind : Int
  xMss : Int
  xCwnd : Int
  xSsthresh : Int
  xAcc : Int
  xWmax : Int
  xEpoch : Int
  xK : Int
  xWest : Int
  xStart : Int
  xMode : Int
  xBw : (List SEntry)
  xMinRtt : Int
  xMinAt : Int
  xRound : Int
  xNextAt : Int
  xFull : Int
  xFullN : Int
  xPhase : Int
  xPhaseAt : Int
  xDoneAt : Int
  xPrior : Int
def zCc : SCc := ⟨0, 0, 0, 0, 0, 0, 0, 0, 0, 0, 0, [], 0, 0, 0, 0, 0, 0, 0, 0, 0, 0⟩
structure Sctl where
  xCc_Kind : Int
  xCc_Mss : Int
  xCc_Cwnd : Int
  xCc_Ssthresh : Int
  xCc_Acc : Int
  xCc_Wmax : Int
  xCc_Epoch : Int
  xCc_K : Int
  xCc_West : Int
  xCc_Start : Int
  xCc_Mode : Int
  xCc_Bw : (List SEntry)
  xCc_MinRtt : Int
  xCc_MinAt : Int
  xCc_Round : Int
  xCc_NextAt : Int
  xCc_Full : Int
  xCc_FullN : Int
  xCc_Phase : Int
  xCc_PhaseAt : Int
  xCc_DoneAt : Int
  xCc_Prior : Int
def zctl : Sctl := ⟨0, 0, 0, 0, 0, 0, 0, 0, 0, 0, 0, [], 0, 0, 0, 0, 0, 0, 0, 0, 0, 0⟩
def zint : Int := 0
structure ST68 where
  xCc_Kind : Int
  xCc_Mss : Int
  xCc_Cwnd : Int
  xCc_Ssthresh : Int
  xCc_Acc : Int
  xCc_Wmax : Int
  xCc_Epoch : Int
  xCc_K : Int
  xCc_West : Int
  xCc_Start : Int
  xCc_Mode : Int
  xCc_Bw : (List SEntry)
  xCc_MinRtt : Int
  xCc_MinAt : Int
  xCc_Round : Int
  xCc_NextAt : Int
  xCc_Full : Int
  xCc_FullN : Int
  xCc_Phase : Int
  xCc_PhaseAt : Int
  xCc_DoneAt : Int
  xCc_Prior : Int
def zT68 : ST68 := ⟨0, 0, 0, 0, 0, 0, 0, 0, 0, 0, 0, [], 0, 0, 0, 0, 0, 0, 0, 0, 0, 0⟩
inductive RW where
  | rEntry (xs : List SEntry)
  | rint (xs : List Int)

abbrev Fr := List (TV RW)
abbrev FF := FT RW
def tI (k : IntKind) (n : Int) : TV RW := .sc (.int k n)
def tL (n : Int) : TV RW := .sc (.int .i64 n)
def tB (b : Bool) : TV RW := .sc (.bool b)
def dT : Nat → Fr → Fr
  | 0, l => l
  | n + 1, l => .dead :: dT n l
def dc : Fr := dT 16 []
def eCc (x : SCc) : List (TV RW) := [(tL x.xKind), (tL x.xMss), (tL x.xCwnd), (tL x.xSsthresh), (tL x.xAcc), (tL x.xWmax), (tL x.xEpoch), (tL x.xK), (tL x.xWest), (tL x.xStart), (tL x.xMode), .row false (.rEntry x.xBw), (tL x.xMinRtt), (tL x.xMinAt), (tL x.xRound), (tL x.xNextAt), (tL x.xFull), (tL x.xFullN), (tL x.xPhase), (tL x.xPhaseAt), (tL x.xDoneAt), (tL x.xPrior)]
def eCct (x : SCc) : List (TV RW) := [(tL x.xKind), (tL x.xMss), (tL x.xCwnd), (tL x.xSsthresh), (tL x.xAcc), (tL x.xWmax), (tL x.xEpoch), (tL x.xK), (tL x.xWest), (tL x.xStart), (tL x.xMode), .row true (.rEntry x.xBw), (tL x.xMinRtt), (tL x.xMinAt), (tL x.xRound), (tL x.xNextAt), (tL x.xFull), (tL x.xFullN), (tL x.xPhase), (tL x.xPhaseAt), (tL x.xDoneAt), (tL x.xPrior)]
def eEntry (x : SEntry) : List (TV RW) := [(tL x.xAt), (tL x.xV)]
def ectl (x : Sctl) : List (TV RW) := [(tL x.xCc_Kind), (tL x.xCc_Mss), (tL x.xCc_Cwnd), (tL x.xCc_Ssthresh), (tL x.xCc_Acc), (tL x.xCc_Wmax), (tL x.xCc_Epoch), (tL x.xCc_K), (tL x.xCc_West), (tL x.xCc_Start), (tL x.xCc_Mode), .row false (.rEntry x.xCc_Bw), (tL x.xCc_MinRtt), (tL x.xCc_MinAt), (tL x.xCc_Round), (tL x.xCc_NextAt), (tL x.xCc_Full), (tL x.xCc_FullN), (tL x.xCc_Phase), (tL x.xCc_PhaseAt), (tL x.xCc_DoneAt), (tL x.xCc_Prior)]
def ectlt (x : Sctl) : List (TV RW) := [(tL x.xCc_Kind), (tL x.xCc_Mss), (tL x.xCc_Cwnd), (tL x.xCc_Ssthresh), (tL x.xCc_Acc), (tL x.xCc_Wmax), (tL x.xCc_Epoch), (tL x.xCc_K), (tL x.xCc_West), (tL x.xCc_Start), (tL x.xCc_Mode), .row true (.rEntry x.xCc_Bw), (tL x.xCc_MinRtt), (tL x.xCc_MinAt), (tL x.xCc_Round), (tL x.xCc_NextAt), (tL x.xCc_Full), (tL x.xCc_FullN), (tL x.xCc_Phase), (tL x.xCc_PhaseAt), (tL x.xCc_DoneAt), (tL x.xCc_Prior)]
def eT68 (x : ST68) : List (TV RW) := [(tL x.xCc_Kind), (tL x.xCc_Mss), (tL x.xCc_Cwnd), (tL x.xCc_Ssthresh), (tL x.xCc_Acc), (tL x.xCc_Wmax), (tL x.xCc_Epoch), (tL x.xCc_K), (tL x.xCc_West), (tL x.xCc_Start), (tL x.xCc_Mode), .row false (.rEntry x.xCc_Bw), (tL x.xCc_MinRtt), (tL x.xCc_MinAt), (tL x.xCc_Round), (tL x.xCc_NextAt), (tL x.xCc_Full), (tL x.xCc_FullN), (tL x.xCc_Phase), (tL x.xCc_PhaseAt), (tL x.xCc_DoneAt), (tL x.xCc_Prior)]
def eT68t (x : ST68) : List (TV RW) := [(tL x.xCc_Kind), (tL x.xCc_Mss), (tL x.xCc_Cwnd), (tL x.xCc_Ssthresh), (tL x.xCc_Acc), (tL x.xCc_Wmax), (tL x.xCc_Epoch), (tL x.xCc_K), (tL x.xCc_West), (tL x.xCc_Start), (tL x.xCc_Mode), .row true (.rEntry x.xCc_Bw), (tL x.xCc_MinRtt), (tL x.xCc_MinAt), (tL x.xCc_Round), (tL x.xCc_NextAt), (tL x.xCc_Full), (tL x.xCc_FullN), (tL x.xCc_Phase), (tL x.xCc_PhaseAt), (tL x.xCc_DoneAt), (tL x.xCc_Prior)]
def eint (x : Int) : List (TV RW) := [(tL x)]
def cEntry (x : SEntry) : List AV := [.sc (.int .i64 x.xAt), .sc (.int .i64 x.xV)]
def cint (x : Int) : List AV := [.sc (.int .i64 x)]
def dOne : Fr → Option (TV RW)
  | [x] => some x
  | _ => none
def dI (kd : IntKind) : TV RW → Option Int
  | .sc (.int k a) => cond (decide (k = kd)) (some a) none
  | _ => none
def dB : TV RW → Option Bool
  | .sc (.bool b) => some b
  | _ => none
def dS : TV RW → Option ByteArray
  | .sc (.string b) => some b
  | _ => none
def dA : TV RW → Option Fr
  | .agg cs => some cs
  | _ => none
def dP (h j : Nat) : TV RW → Option Unit
  | .ptr a b => cond (Nat.beq a h && Nat.beq b j) (some ()) none
  | _ => none
def dC (f : Nat) (cs : List (Nat × Nat)) : TV RW → Option Unit
  | .clo a b => cond (Nat.beq a f && decide (b = cs)) (some ()) none
  | _ => none
def dREntry (fl : Bool) : TV RW → Option (List SEntry)
  | .row a (.rEntry xs) => cond (a == fl) (some xs) none
  | _ => none
def dRint (fl : Bool) : TV RW → Option (List Int)
  | .row a (.rint xs) => cond (a == fl) (some xs) none
  | _ => none
def dCc : Fr → Option SCc
  | [y0, y1, y2, y3, y4, y5, y6, y7, y8, y9, y10, y11, y12, y13, y14, y15, y16, y17, y18, y19, y20, y21] => (dI .i64 y0).bind fun a0 => (dI .i64 y1).bind fun a1 => (dI .i64 y2).bind fun a2 => (dI .i64 y3).bind fun a3 => (dI .i64 y4).bind fun a4 => (dI .i64 y5).bind fun a5 => (dI .i64 y6).bind fun a6 => (dI .i64 y7).bind fun a7 => (dI .i64 y8).bind fun a8 => (dI .i64 y9).bind fun a9 => (dI .i64 y10).bind fun a10 => (dREntry false y11).bind fun a11 => (dI .i64 y12).bind fun a12 => (dI .i64 y13).bind fun a13 => (dI .i64 y14).bind fun a14 => (dI .i64 y15).bind fun a15 => (dI .i64 y16).bind fun a16 => (dI .i64 y17).bind fun a17 => (dI .i64 y18).bind fun a18 => (dI .i64 y19).bind fun a19 => (dI .i64 y20).bind fun a20 => (dI .i64 y21).bind fun a21 => some ⟨a0, a1, a2, a3, a4, a5, a6, a7, a8, a9, a10, a11, a12, a13, a14, a15, a16, a17, a18, a19, a20, a21⟩
  | _ => none
def dCct : Fr → Option SCc
  | [y0, y1, y2, y3, y4, y5, y6, y7, y8, y9, y10, y11, y12, y13, y14, y15, y16, y17, y18, y19, y20, y21] => (dI .i64 y0).bind fun a0 => (dI .i64 y1).bind fun a1 => (dI .i64 y2).bind fun a2 => (dI .i64 y3).bind fun a3 => (dI .i64 y4).bind fun a4 => (dI .i64 y5).bind fun a5 => (dI .i64 y6).bind fun a6 => (dI .i64 y7).bind fun a7 => (dI .i64 y8).bind fun a8 => (dI .i64 y9).bind fun a9 => (dI .i64 y10).bind fun a10 => (dREntry true y11).bind fun a11 => (dI .i64 y12).bind fun a12 => (dI .i64 y13).bind fun a13 => (dI .i64 y14).bind fun a14 => (dI .i64 y15).bind fun a15 => (dI .i64 y16).bind fun a16 => (dI .i64 y17).bind fun a17 => (dI .i64 y18).bind fun a18 => (dI .i64 y19).bind fun a19 => (dI .i64 y20).bind fun a20 => (dI .i64 y21).bind fun a21 => some ⟨a0, a1, a2, a3, a4, a5, a6, a7, a8, a9, a10, a11, a12, a13, a14, a15, a16, a17, a18, a19, a20, a21⟩
  | _ => none
def dEntry : Fr → Option SEntry
  | [y0, y1] => (dI .i64 y0).bind fun a0 => (dI .i64 y1).bind fun a1 => some ⟨a0, a1⟩
  | _ => none
def dctl : Fr → Option Sctl
  | [y0, y1, y2, y3, y4, y5, y6, y7, y8, y9, y10, y11, y12, y13, y14, y15, y16, y17, y18, y19, y20, y21] => (dI .i64 y0).bind fun a0 => (dI .i64 y1).bind fun a1 => (dI .i64 y2).bind fun a2 => (dI .i64 y3).bind fun a3 => (dI .i64 y4).bind fun a4 => (dI .i64 y5).bind fun a5 => (dI .i64 y6).bind fun a6 => (dI .i64 y7).bind fun a7 => (dI .i64 y8).bind fun a8 => (dI .i64 y9).bind fun a9 => (dI .i64 y10).bind fun a10 => (dREntry false y11).bind fun a11 => (dI .i64 y12).bind fun a12 => (dI .i64 y13).bind fun a13 => (dI .i64 y14).bind fun a14 => (dI .i64 y15).bind fun a15 => (dI .i64 y16).bind fun a16 => (dI .i64 y17).bind fun a17 => (dI .i64 y18).bind fun a18 => (dI .i64 y19).bind fun a19 => (dI .i64 y20).bind fun a20 => (dI .i64 y21).bind fun a21 => some ⟨a0, a1, a2, a3, a4, a5, a6, a7, a8, a9, a10, a11, a12, a13, a14, a15, a16, a17, a18, a19, a20, a21⟩
  | _ => none
def dctlt : Fr → Option Sctl
  | [y0, y1, y2, y3, y4, y5, y6, y7, y8, y9, y10, y11, y12, y13, y14, y15, y16, y17, y18, y19, y20, y21] => (dI .i64 y0).bind fun a0 => (dI .i64 y1).bind fun a1 => (dI .i64 y2).bind fun a2 => (dI .i64 y3).bind fun a3 => (dI .i64 y4).bind fun a4 => (dI .i64 y5).bind fun a5 => (dI .i64 y6).bind fun a6 => (dI .i64 y7).bind fun a7 => (dI .i64 y8).bind fun a8 => (dI .i64 y9).bind fun a9 => (dI .i64 y10).bind fun a10 => (dREntry true y11).bind fun a11 => (dI .i64 y12).bind fun a12 => (dI .i64 y13).bind fun a13 => (dI .i64 y14).bind fun a14 => (dI .i64 y15).bind fun a15 => (dI .i64 y16).bind fun a16 => (dI .i64 y17).bind fun a17 => (dI .i64 y18).bind fun a18 => (dI .i64 y19).bind fun a19 => (dI .i64 y20).bind fun a20 => (dI .i64 y21).bind fun a21 => some ⟨a0, a1, a2, a3, a4, a5, a6, a7, a8, a9, a10, a11, a12, a13, a14, a15, a16, a17, a18, a19, a20, a21⟩
  | _ => none
def dT68 : Fr → Option ST68
  | [y0, y1, y2, y3, y4, y5, y6, y7, y8, y9, y10, y11, y12, y13, y14, y15, y16, y17, y18, y19, y20, y21] => (dI .i64 y0).bind fun a0 => (dI .i64 y1).bind fun a1 => (dI .i64 y2).bind fun a2 => (dI .i64 y3).bind fun a3 => (dI .i64 y4).bind fun a4 => (dI .i64 y5).bind fun a5 => (dI .i64 y6).bind fun a6 => (dI .i64 y7).bind fun a7 => (dI .i64 y8).bind fun a8 => (dI .i64 y9).bind fun a9 => (dI .i64 y10).bind fun a10 => (dREntry false y11).bind fun a11 => (dI .i64 y12).bind fun a12 => (dI .i64 y13).bind fun a13 => (dI .i64 y14).bind fun a14 => (dI .i64 y15).bind fun a15 => (dI .i64 y16).bind fun a16 => (dI .i64 y17).bind fun a17 => (dI .i64 y18).bind fun a18 => (dI .i64 y19).bind fun a19 => (dI .i64 y20).bind fun a20 => (dI .i64 y21).bind fun a21 => some ⟨a0, a1, a2, a3, a4, a5, a6, a7, a8, a9, a10, a11, a12, a13, a14, a15, a16, a17, a18, a19, a20, a21⟩
  | _ => none
def dT68t : Fr → Option ST68
  | [y0, y1, y2, y3, y4, y5, y6, y7, y8, y9, y10, y11, y12, y13, y14, y15, y16, y17, y18, y19, y20, y21] => (dI .i64 y0).bind fun a0 => (dI .i64 y1).bind fun a1 => (dI .i64 y2).bind fun a2 => (dI .i64 y3).bind fun a3 => (dI .i64 y4).bind fun a4 => (dI .i64 y5).bind fun a5 => (dI .i64 y6).bind fun a6 => (dI .i64 y7).bind fun a7 => (dI .i64 y8).bind fun a8 => (dI .i64 y9).bind fun a9 => (dI .i64 y10).bind fun a10 => (dREntry true y11).bind fun a11 => (dI .i64 y12).bind fun a12 => (dI .i64 y13).bind fun a13 => (dI .i64 y14).bind fun a14 => (dI .i64 y15).bind fun a15 => (dI .i64 y16).bind fun a16 => (dI .i64 y17).bind fun a17 => (dI .i64 y18).bind fun a18 => (dI .i64 y19).bind fun a19 => (dI .i64 y20).bind fun a20 => (dI .i64 y21).bind fun a21 => some ⟨a0, a1, a2, a3, a4, a5, a6, a7, a8, a9, a10, a11, a12, a13, a14, a15, a16, a17, a18, a19, a20, a21⟩
  | _ => none
def pEntry_ : Fr → Option (List SEntry)
  | [] => some []
  | y0 :: y1 :: r => (dI .i64 y0).bind fun a0 => (dI .i64 y1).bind fun a1 => (pEntry_ r).bind fun xs => some (⟨a0, a1⟩ :: xs)
  | _ => none

def pint_ : Fr → Option (List Int)
  | [] => some []
  | y0 :: r => (dI .i64 y0).bind fun a0 => (pint_ r).bind fun xs => some (a0 :: xs)

def U : Uni RW where
  sz := fun r => match r with
    | .rEntry xs => 2
    | .rint xs => 1
  len := fun r => match r with
    | .rEntry xs => xs.length
    | .rint xs => xs.length
  getA := fun r => match r with
    | .rEntry xs => rg cEntry zEntry xs
    | .rint xs => rg cint zint xs
  get := fun r i => match r with
    | .rEntry xs => eEntry (xs.getD i zEntry)
    | .rint xs => eint (xs.getD i zint)
  app := fun r q => match r with
    | .rEntry xs => (match q with
      | .rEntry ys => some (.rEntry (xs ++ ys))
      | _ => none)
    | .rint xs => (match q with
      | .rint ys => some (.rint (xs ++ ys))
      | _ => none)
  sub := fun lo n r => match r with
    | .rEntry xs => .rEntry (List.take n (xs.drop lo))
    | .rint xs => .rint (List.take n (xs.drop lo))
  szt := fun t => match t with
    | 52 => 2
    | 3 => 1
    | _ => 0
  zt := fun t => match t with
    | 52 => eEntry zEntry
    | 3 => eint zint
    | _ => []
  lit := fun t n L => match t with
    | 52 => (pEntry_ L).bind fun xs => cond (Nat.beq xs.length n) (some (.rEntry xs)) none
    | 3 => (pint_ L).bind fun xs => cond (Nat.beq xs.length n) (some (.rint xs)) none
    | _ => none
/-! tideway/reno.New -/
def G_reno_New {R : Type} (cp : Nat → Nat → Bool) : Nat → Int → Int → (SCc → Int → Option R) → Option R
  | 0, _, _, _ => none
  | n + 1, p0, p1, k =>
    cond (decide (p0 < 1)) (k (SCc.mk 0 0 0 0 0 0 0 0 0 0 0 [] 0 0 0 0 0 0 0 0 0 0) 2) (cond (decide (65000 < p0)) (k (SCc.mk 0 0 0 0 0 0 0 0 0 0 0 [] 0 0 0 0 0 0 0 0 0 0) 2) (cond (decide (p1 < 1)) (k (SCc.mk 0 0 0 0 0 0 0 0 0 0 0 [] 0 0 0 0 0 0 0 0 0 0) 2) (cond (decide (100 < p1)) (k (SCc.mk 0 0 0 0 0 0 0 0 0 0 0 [] 0 0 0 0 0 0 0 0 0 0) 2) (k (SCc.mk 1 p0 (wr .i64 (p0 * p1)) 1073741824 0 0 0 0 0 0 0 [] 0 0 0 0 0 0 0 0 0 0) 0))))
/-! tideway/cubic.New -/
def G_cubic_New {R : Type} (cp : Nat → Nat → Bool) : Nat → Int → Int → (SCc → Int → Option R) → Option R
  | 0, _, _, _ => none
  | n + 1, p0, p1, k =>
    G_reno_New cp n p0 p1 (fun r3 r4 => cond (decide (r4 = 0)) (k (SCc.mk 2 r3.xMss r3.xCwnd r3.xSsthresh r3.xAcc r3.xWmax (-1) r3.xK r3.xWest r3.xStart r3.xMode r3.xBw r3.xMinRtt r3.xMinAt r3.xRound r3.xNextAt r3.xFull r3.xFullN r3.xPhase r3.xPhaseAt r3.xDoneAt r3.xPrior) r4) (k r3 r4))
/-! tideway/bbr.New -/
def G_bbr_New {R : Type} (cp : Nat → Nat → Bool) : Nat → Int → Int → (SCc → Int → Option R) → Option R
  | 0, _, _, _ => none
  | n + 1, p0, p1, k =>
    G_reno_New cp n p0 p1 (fun r7 r8 => cond (decide (r8 = 0)) (k (SCc.mk 3 r7.xMss r7.xCwnd r7.xSsthresh r7.xAcc r7.xWmax r7.xEpoch r7.xK r7.xWest r7.xStart 1 r7.xBw r7.xMinRtt r7.xMinAt r7.xRound r7.xNextAt r7.xFull r7.xFullN r7.xPhase r7.xPhaseAt r7.xDoneAt r7.xPrior) r8) (k r7 r8))
/-! tideway/cc.New -/
def G_cc_New {R : Type} (cp : Nat → Nat → Bool) : Nat → Int → Int → Int → (SCc → Int → Option R) → Option R
  | 0, _, _, _, _ => none
  | n + 1, p0, p1, p2, k =>
    cond (decide (p0 = 1)) (G_reno_New cp n p1 p2 (fun r1 r2 => k r1 r2)) (cond (decide (p0 = 2)) (G_cubic_New cp n p1 p2 (fun r5 r6 => k r5 r6)) (cond (decide (p0 = 3)) (G_bbr_New cp n p1 p2 (fun r9 r10 => k r9 r10)) (k (SCc.mk 0 0 0 0 0 0 0 0 0 0 0 [] 0 0 0 0 0 0 0 0 0 0) 2)))
/-! tideway/tidewayref15.New -/
def G_ref15_New {R : Type} (cp : Nat → Nat → Bool) : Nat → Int → Int → (SCc → Int → Option R) → Option R
  | 0, _, _, _ => none
  | n + 1, p0, p1, k =>
    cond (decide (p0 < 1)) (k (SCc.mk 0 0 0 0 0 0 0 0 0 0 0 [] 0 0 0 0 0 0 0 0 0 0) 2) (cond (decide (65000 < p0)) (k (SCc.mk 0 0 0 0 0 0 0 0 0 0 0 [] 0 0 0 0 0 0 0 0 0 0) 2) (cond (decide (p1 < 1)) (k (SCc.mk 0 0 0 0 0 0 0 0 0 0 0 [] 0 0 0 0 0 0 0 0 0 0) 2) (cond (decide (100 < p1)) (k (SCc.mk 0 0 0 0 0 0 0 0 0 0 0 [] 0 0 0 0 0 0 0 0 0 0) 2) (k (SCc.mk 1 p0 (wr .i64 (p1 * p0)) 1073741824 0 0 0 0 0 0 0 [] 0 0 0 0 0 0 0 0 0 0) 0))))
/-! tideway/tidewayref16.New -/
def G_ref16_New {R : Type} (cp : Nat → Nat → Bool) : Nat → Int → Int → (SCc → Int → Option R) → Option R
  | 0, _, _, _ => none
  | n + 1, p0, p1, k =>
    G_ref15_New cp n p0 p1 (fun r15 r16 => cond (!decide (r16 = 0)) (k (SCc.mk 0 0 0 0 0 0 0 0 0 0 0 [] 0 0 0 0 0 0 0 0 0 0) r16) (k (SCc.mk 2 r15.xMss r15.xCwnd r15.xSsthresh r15.xAcc r15.xWmax (-1) r15.xK r15.xWest r15.xStart r15.xMode r15.xBw r15.xMinRtt r15.xMinAt r15.xRound r15.xNextAt r15.xFull r15.xFullN r15.xPhase r15.xPhaseAt r15.xDoneAt r15.xPrior) 0))
/-! tideway/tidewayref18.New -/
def G_ref18_New {R : Type} (cp : Nat → Nat → Bool) : Nat → Int → Int → (SCc → Int → Option R) → Option R
  | 0, _, _, _ => none
  | n + 1, p0, p1, k =>
    G_ref15_New cp n p0 p1 (fun r19 r20 => cond (!decide (r20 = 0)) (k (SCc.mk 0 0 0 0 0 0 0 0 0 0 0 [] 0 0 0 0 0 0 0 0 0 0) r20) (k (SCc.mk 3 r19.xMss r19.xCwnd r19.xSsthresh r19.xAcc r19.xWmax r19.xEpoch r19.xK r19.xWest r19.xStart 1 r19.xBw r19.xMinRtt r19.xMinAt r19.xRound r19.xNextAt r19.xFull r19.xFullN r19.xPhase r19.xPhaseAt r19.xDoneAt r19.xPrior) 0))
/-! tideway/tidewayref19.New -/
def G_ref19_New {R : Type} (cp : Nat → Nat → Bool) : Nat → Int → Int → Int → (SCc → Int → Option R) → Option R
  | 0, _, _, _, _ => none
  | n + 1, p0, p1, p2, k =>
    cond (decide (p0 = 1)) (G_ref15_New cp n p1 p2 (fun r13 r14 => k r13 r14)) (cond (decide (p0 = 2)) (G_ref16_New cp n p1 p2 (fun r17 r18 => k r17 r18)) (cond (decide (p0 = 3)) (G_ref18_New cp n p1 p2 (fun r21 r22 => k r21 r22)) (k (SCc.mk 0 0 0 0 0 0 0 0 0 0 0 [] 0 0 0 0 0 0 0 0 0 0) 2)))
/-! tideway/tidewayref15.Same -/
def s_ref15_Same_1 {R : Type} (cp : Nat → Nat → Bool) (n : Nat) (p0 p1 : SCc) (kn : Option R) (kr : Option R) : Option R :=
  cond (!decide (p0.xKind = p1.xKind)) (kr) (cond (!decide (p0.xMss = p1.xMss)) (kr) (cond (!decide (p0.xCwnd = p1.xCwnd)) (kr) (cond (!decide (p0.xSsthresh = p1.xSsthresh)) (kr) (cond (!decide (p0.xAcc = p1.xAcc)) (kr) (cond (!decide (p0.xWmax = p1.xWmax)) (kr) (cond (!decide (p0.xEpoch = p1.xEpoch)) (kr) (cond (!decide (p0.xK = p1.xK)) (kr) (cond (!decide (p0.xWest = p1.xWest)) (kr) (cond (!decide (p0.xStart = p1.xStart)) (kr) (kn))))))))))
def s_ref15_Same_4 {R : Type} (cp : Nat → Nat → Bool) (n : Nat) (p0 p1 : SCc) (kn : Option R) (kr : Option R) : Option R :=
  cond (!decide (p0.xMode = p1.xMode)) (kr) (cond (!decide (p0.xMinRtt = p1.xMinRtt)) (kr) (cond (!decide (p0.xMinAt = p1.xMinAt)) (kr) (cond (!decide (p0.xRound = p1.xRound)) (kr) (cond (!decide (p0.xNextAt = p1.xNextAt)) (kr) (cond (!decide (p0.xFull = p1.xFull)) (kr) (cond (!decide (p0.xFullN = p1.xFullN)) (kr) (cond (!decide (p0.xPhase = p1.xPhase)) (kr) (cond (!decide (p0.xPhaseAt = p1.xPhaseAt)) (kr) (cond (!decide (p0.xDoneAt = p1.xDoneAt)) (kr) (cond (!decide (p0.xPrior = p1.xPrior)) (kr) (cond (!decide ((p0.xBw.length : Int) = (p1.xBw.length : Int))) (kr) (kn))))))))))))
def s_ref15_Same_5 {R : Type} (cp : Nat → Nat → Bool) (n : Nat) (p0 p1 : SCc) (kn : Option R) : Option R :=
  kn
def s_ref15_Same_7 {R : Type} (cp : Nat → Nat → Bool) (n : Nat) (p0 p1 : SCc) (v25 : Int) (kn : Int → Option R) (kr : Option R) (ke0 : Option R) : Option R :=
  cond (decide (v25 < (p0.xBw.length : Int))) (cond (decide (0 ≤ v25)) (cond (decide (v25 < (p0.xBw.length : Int))) (cond (decide (0 ≤ v25)) (cond (decide (v25 < (p1.xBw.length : Int))) (cond (!(decide ((p0.xBw.getD (Int.toNat v25) zEntry).xAt = (p1.xBw.getD (Int.toNat v25) zEntry).xAt) && (decide ((p0.xBw.getD (Int.toNat v25) zEntry).xV = (p1.xBw.getD (Int.toNat v25) zEntry).xV) && true))) (kr) (kn (wr .i64 (v25 + 1)))) (none)) (none)) (none)) (none)) (ke0)
def l_ref15_Same_11 {R : Type} (cp : Nat → Nat → Bool) (n : Nat) : Nat → SCc → SCc → Int → (Option R) → (Option R) → Option R
  | 0, _, _, _, _, _ => none
  | m + 1, p0, p1, v25, kr, ke0 =>
    s_ref15_Same_7 cp n p0 p1 v25 (fun v26 => l_ref15_Same_11 cp n m p0 p1 v26 kr ke0) kr ke0
def s_ref15_Same_12 {R : Type} (cp : Nat → Nat → Bool) (n : Nat) (p0 p1 : SCc) (kr : Option R) (ke0 : Option R) : Option R :=
  l_ref15_Same_11 cp n n p0 p1 0 kr ke0
def s_ref15_Same_13 {R : Type} (cp : Nat → Nat → Bool) (n : Nat) (p0 p1 : SCc) (kn : Option R) (kr : Option R) : Option R :=
  s_ref15_Same_12 cp n p0 p1 kr kn
def s_ref15_Same_14 {R : Type} (cp : Nat → Nat → Bool) (n : Nat) (p0 p1 : SCc) (kn : Option R) (kr : Option R) : Option R :=
  s_ref15_Same_5 cp n p0 p1 (s_ref15_Same_13 cp n p0 p1 kn kr)
def s_ref15_Same_15 {R : Type} (cp : Nat → Nat → Bool) (n : Nat) (kr : Option R) : Option R :=
  kr
def s_ref15_Same_18 {R : Type} (cp : Nat → Nat → Bool) (n : Nat) (p0 p1 : SCc) (kr : Bool → Option R) : Option R :=
  s_ref15_Same_14 cp n p0 p1 (s_ref15_Same_15 cp n (kr true)) (kr false)
def s_ref15_Same_20 {R : Type} (cp : Nat → Nat → Bool) (n : Nat) (p0 p1 : SCc) (kr : Bool → Option R) : Option R :=
  s_ref15_Same_4 cp n p0 p1 (s_ref15_Same_18 cp n p0 p1 (fun v27 => (kr v27))) (kr false)
def s_ref15_Same_22 {R : Type} (cp : Nat → Nat → Bool) (n : Nat) (p0 p1 : SCc) (kr : Bool → Option R) : Option R :=
  s_ref15_Same_1 cp n p0 p1 (s_ref15_Same_20 cp n p0 p1 (fun v28 => (kr v28))) (kr false)
def G_ref15_Same {R : Type} (cp : Nat → Nat → Bool) : Nat → SCc → SCc → (Bool → Option R) → Option R
  | 0, _, _, _ => none
  | n + 1, p0, p1, k =>
    s_ref15_Same_22 cp n p0 p1 (fun v29 => k v29)
/-! tideway/cc.time -/
def G_cc_time {R : Type} (cp : Nat → Nat → Bool) : Nat → Int → (Bool → Option R) → Option R
  | 0, _, _ => none
  | n + 1, p0, k =>
    cond (decide (0 ≤ p0)) (k (decide (p0 ≤ 1125899906842624))) (k false)
/-! tideway/cc.size -/
def G_cc_size {R : Type} (cp : Nat → Nat → Bool) : Nat → Int → (Bool → Option R) → Option R
  | 0, _, _ => none
  | n + 1, p0, k =>
    cond (decide (0 ≤ p0)) (k (decide (p0 ≤ 1073741824))) (k false)
/-! tideway/reno.size -/
def G_reno_size {R : Type} (cp : Nat → Nat → Bool) : Nat → Int → (Bool → Option R) → Option R
  | 0, _, _ => none
  | n + 1, p0, k =>
    cond (decide (0 ≤ p0)) (k (decide (p0 ≤ 1073741824))) (k false)
/-! (*tideway/reno.ctl).plain -/
def s_reno_ctl_plain_1 {R : Type} (cp : Nat → Nat → Bool) (n : Nat) (q0 : Sctl) (kn : Option R) : Option R :=
  kn
def s_reno_ctl_plain_3 {R : Type} (cp : Nat → Nat → Bool) (n : Nat) (q0 : Sctl) (kn : Bool → Option R) : Option R :=
  cond (decide (q0.xCc_Wmax = 0)) (cond (decide (q0.xCc_Epoch = 0)) (cond (decide (q0.xCc_K = 0)) (cond (decide (q0.xCc_West = 0)) (cond (decide (q0.xCc_Start = 0)) (cond (decide (q0.xCc_Mode = 0)) (cond (decide ((q0.xCc_Bw.length : Int) = 0)) (cond (decide (q0.xCc_MinRtt = 0)) (cond (decide (q0.xCc_MinAt = 0)) (cond (decide (q0.xCc_Round = 0)) (cond (decide (q0.xCc_NextAt = 0)) (cond (decide (q0.xCc_Full = 0)) (cond (decide (q0.xCc_FullN = 0)) (cond (decide (q0.xCc_Phase = 0)) (cond (decide (q0.xCc_PhaseAt = 0)) (cond (decide (q0.xCc_DoneAt = 0)) (kn (decide (q0.xCc_Prior = 0))) (kn false)) (kn false)) (kn false)) (kn false)) (kn false)) (kn false)) (kn false)) (kn false)) (kn false)) (kn false)) (kn false)) (kn false)) (kn false)) (kn false)) (kn false)) (kn false)
def s_reno_ctl_plain_5 {R : Type} (cp : Nat → Nat → Bool) (n : Nat) (q0 : Sctl) (v45 : Bool) (kr : Option R) : Option R :=
  kr
def s_reno_ctl_plain_7 {R : Type} (cp : Nat → Nat → Bool) (n : Nat) (q0 : Sctl) (kr : Bool → Option R) : Option R :=
  s_reno_ctl_plain_3 cp n q0 (fun v45 => s_reno_ctl_plain_5 cp n q0 v45 (kr v45))
def s_reno_ctl_plain_9 {R : Type} (cp : Nat → Nat → Bool) (n : Nat) (q0 : Sctl) (kr : Bool → Option R) : Option R :=
  s_reno_ctl_plain_1 cp n q0 (s_reno_ctl_plain_7 cp n q0 (fun v46 => (kr v46)))
def G_reno_ctl_plain {R : Type} (cp : Nat → Nat → Bool) : Nat → Sctl → (Bool → Sctl → Option R) → Option R
  | 0, _, _ => none
  | n + 1, q0, k =>
    s_reno_ctl_plain_9 cp n q0 (fun v47 => k v47 q0)
/-! tideway/reno.Check -/
def G_reno_Check {R : Type} (cp : Nat → Nat → Bool) : Nat → SCc → (Int → Option R) → Option R
  | 0, _, _ => none
  | n + 1, p0, k =>
    cond (!decide (p0.xKind = 1)) (k 230) (cond (decide (p0.xMss < 1)) (k 230) (cond (decide (65000 < p0.xMss)) (k 230) (cond (decide (p0.xCwnd < p0.xMss)) (k 230) (G_reno_size cp n p0.xCwnd (fun r42 => cond (!r42) (k 230) (cond (decide (p0.xSsthresh < (wr .i64 (2 * p0.xMss)))) (k 230) (G_reno_size cp n p0.xSsthresh (fun r43 => cond (!r43) (k 230) (G_reno_size cp n p0.xAcc (fun r44 => cond (!r44) (k 230) (G_reno_ctl_plain cp n (Sctl.mk p0.xKind p0.xMss p0.xCwnd p0.xSsthresh p0.xAcc p0.xWmax p0.xEpoch p0.xK p0.xWest p0.xStart p0.xMode p0.xBw p0.xMinRtt p0.xMinAt p0.xRound p0.xNextAt p0.xFull p0.xFullN p0.xPhase p0.xPhaseAt p0.xDoneAt p0.xPrior) (fun r48 r49 => cond (!r48) (k 230) (k 0)))))))))))))
/-! tideway/cubic.size -/
def s_cubic_size_1 {R : Type} (cp : Nat → Nat → Bool) (n : Nat) (p0 : (List Int)) (kn : Option R) : Option R :=
  kn
def s_cubic_size_3 {R : Type} (cp : Nat → Nat → Bool) (n : Nat) (p0 : (List Int)) (kn : Int → Option R) : Option R :=
  kn (p0.length : Int)
def s_cubic_size_5 {R : Type} (cp : Nat → Nat → Bool) (n : Nat) (p0 : (List Int)) (v52 v53 : Int) (kn : Int → Option R) (kr : Option R) (ke0 : Option R) : Option R :=
  cond (decide (v53 < v52)) (cond (decide (0 ≤ v53)) (cond (decide (v53 < (p0.length : Int))) (cond (decide ((p0.getD (Int.toNat v53) zint) < 0)) (kr) (cond (decide (1073741824 < (p0.getD (Int.toNat v53) zint))) (kr) (kn (wr .i64 (v53 + 1))))) (none)) (none)) (ke0)
def l_cubic_size_10 {R : Type} (cp : Nat → Nat → Bool) (n : Nat) : Nat → (List Int) → Int → Int → (Option R) → (Option R) → Option R
  | 0, _, _, _, _, _ => none
  | m + 1, p0, v52, v53, kr, ke0 =>
    s_cubic_size_5 cp n p0 v52 v53 (fun v54 => l_cubic_size_10 cp n m p0 v52 v54 kr ke0) kr ke0
def s_cubic_size_11 {R : Type} (cp : Nat → Nat → Bool) (n : Nat) (p0 : (List Int)) (v52 : Int) (kr : Option R) (ke0 : Option R) : Option R :=
  l_cubic_size_10 cp n n p0 v52 0 kr ke0
def s_cubic_size_12 {R : Type} (cp : Nat → Nat → Bool) (n : Nat) (p0 : (List Int)) (v52 : Int) (kn : Option R) (kr : Option R) : Option R :=
  s_cubic_size_11 cp n p0 v52 kr kn
def s_cubic_size_13 {R : Type} (cp : Nat → Nat → Bool) (n : Nat) (p0 : (List Int)) (kn : Option R) (kr : Option R) : Option R :=
  s_cubic_size_3 cp n p0 (fun v52 => s_cubic_size_12 cp n p0 v52 kn kr)
def s_cubic_size_14 {R : Type} (cp : Nat → Nat → Bool) (n : Nat) (kr : Option R) : Option R :=
  kr
def s_cubic_size_17 {R : Type} (cp : Nat → Nat → Bool) (n : Nat) (p0 : (List Int)) (kr : Bool → Option R) : Option R :=
  s_cubic_size_13 cp n p0 (s_cubic_size_14 cp n (kr true)) (kr false)
def s_cubic_size_19 {R : Type} (cp : Nat → Nat → Bool) (n : Nat) (p0 : (List Int)) (kr : Bool → Option R) : Option R :=
  s_cubic_size_1 cp n p0 (s_cubic_size_17 cp n p0 (fun v55 => (kr v55)))
def G_cubic_size {R : Type} (cp : Nat → Nat → Bool) : Nat → (List Int) → (Bool → Option R) → Option R
  | 0, _, _ => none
  | n + 1, p0, k =>
    s_cubic_size_19 cp n p0 (fun v56 => k v56)
/-! tideway/cubic.Check -/
def G_cubic_Check {R : Type} (cp : Nat → Nat → Bool) : Nat → SCc → (Int → Option R) → Option R
  | 0, _, _ => none
  | n + 1, p0, k =>
    cond (!decide (p0.xKind = 2)) (k 230) (G_reno_Check cp n (SCc.mk 1 p0.xMss p0.xCwnd p0.xSsthresh p0.xAcc 0 0 0 0 0 p0.xMode p0.xBw p0.xMinRtt p0.xMinAt p0.xRound p0.xNextAt p0.xFull p0.xFullN p0.xPhase p0.xPhaseAt p0.xDoneAt p0.xPrior) (fun r51 => cond (!decide (r51 = 0)) (k 230) (G_cubic_size cp n [p0.xWmax, p0.xWest, p0.xStart] (fun r57 => cond (!r57) (k 230) (cond (decide (p0.xK < 0)) (k 230) (cond (decide (2097151 < p0.xK)) (k 230) (cond (decide (p0.xEpoch < (-1))) (k 230) (cond (decide (1125899906842624 < p0.xEpoch)) (k 230) (k 0)))))))))
/-! tideway/bbr.within -/
def s_bbr_within_1 {R : Type} (cp : Nat → Nat → Bool) (n : Nat) (p0 : Int) (p1 : (List Int)) (kn : Option R) : Option R :=
  kn
def s_bbr_within_3 {R : Type} (cp : Nat → Nat → Bool) (n : Nat) (p0 : Int) (p1 : (List Int)) (kn : Int → Option R) : Option R :=
  kn (p1.length : Int)
def s_bbr_within_5 {R : Type} (cp : Nat → Nat → Bool) (n : Nat) (p0 : Int) (p1 : (List Int)) (v59 v60 : Int) (kn : Int → Option R) (kr : Option R) (ke0 : Option R) : Option R :=
  cond (decide (v60 < v59)) (cond (decide (0 ≤ v60)) (cond (decide (v60 < (p1.length : Int))) (cond (decide ((p1.getD (Int.toNat v60) zint) < 0)) (kr) (cond (decide (p0 < (p1.getD (Int.toNat v60) zint))) (kr) (kn (wr .i64 (v60 + 1))))) (none)) (none)) (ke0)
def l_bbr_within_10 {R : Type} (cp : Nat → Nat → Bool) (n : Nat) : Nat → Int → (List Int) → Int → Int → (Option R) → (Option R) → Option R
  | 0, _, _, _, _, _, _ => none
  | m + 1, p0, p1, v59, v60, kr, ke0 =>
    s_bbr_within_5 cp n p0 p1 v59 v60 (fun v61 => l_bbr_within_10 cp n m p0 p1 v59 v61 kr ke0) kr ke0
def s_bbr_within_11 {R : Type} (cp : Nat → Nat → Bool) (n : Nat) (p0 : Int) (p1 : (List Int)) (v59 : Int) (kr : Option R) (ke0 : Option R) : Option R :=
  l_bbr_within_10 cp n n p0 p1 v59 0 kr ke0
def s_bbr_within_12 {R : Type} (cp : Nat → Nat → Bool) (n : Nat) (p0 : Int) (p1 : (List Int)) (v59 : Int) (kn : Option R) (kr : Option R) : Option R :=
  s_bbr_within_11 cp n p0 p1 v59 kr kn
def s_bbr_within_13 {R : Type} (cp : Nat → Nat → Bool) (n : Nat) (p0 : Int) (p1 : (List Int)) (kn : Option R) (kr : Option R) : Option R :=
  s_bbr_within_3 cp n p0 p1 (fun v59 => s_bbr_within_12 cp n p0 p1 v59 kn kr)
def s_bbr_within_14 {R : Type} (cp : Nat → Nat → Bool) (n : Nat) (kr : Option R) : Option R :=
  kr
def s_bbr_within_17 {R : Type} (cp : Nat → Nat → Bool) (n : Nat) (p0 : Int) (p1 : (List Int)) (kr : Bool → Option R) : Option R :=
  s_bbr_within_13 cp n p0 p1 (s_bbr_within_14 cp n (kr true)) (kr false)
def s_bbr_within_19 {R : Type} (cp : Nat → Nat → Bool) (n : Nat) (p0 : Int) (p1 : (List Int)) (kr : Bool → Option R) : Option R :=
  s_bbr_within_1 cp n p0 p1 (s_bbr_within_17 cp n p0 p1 (fun v62 => (kr v62)))
def G_bbr_within {R : Type} (cp : Nat → Nat → Bool) : Nat → Int → (List Int) → (Bool → Option R) → Option R
  | 0, _, _, _ => none
  | n + 1, p0, p1, k =>
    s_bbr_within_19 cp n p0 p1 (fun v63 => k v63)
/-! tideway/filter.may -/
def G_filter_may {R : Type} (cp : Nat → Nat → Bool) : Nat → SEntry → (Bool → Option R) → Option R
  | 0, _, _ => none
  | n + 1, p0, k =>
    cond (decide (0 ≤ p0.xAt)) (cond (decide (p0.xAt ≤ 1125899906842624)) (cond (decide (0 ≤ p0.xV)) (k (decide (p0.xV ≤ 1152921504606846976))) (k false)) (k false)) (k false)
/-! tideway/filter.beats -/
def G_filter_beats {R : Type} (cp : Nat → Nat → Bool) : Nat → Int → Int → Bool → (Bool → Option R) → Option R
  | 0, _, _, _, _ => none
  | n + 1, p0, p1, p2, k =>
    cond (p2) (cond (decide (p1 ≤ p0)) (k true) (cond (!p2) (k (decide (p0 ≤ p1))) (k false))) (cond (!p2) (k (decide (p0 ≤ p1))) (k false))
/-! tideway/filter.Check -/
def s_filter_Check_1 {R : Type} (cp : Nat → Nat → Bool) (n : Nat) (p0 : (List SEntry)) (p1 : Bool) (kn : Option R) : Option R :=
  kn
def s_filter_Check_3 {R : Type} (cp : Nat → Nat → Bool) (n : Nat) (p0 : (List SEntry)) (p1 : Bool) (kn : Int → Option R) : Option R :=
  kn (p0.length : Int)
def s_filter_Check_5 {R : Type} (cp : Nat → Nat → Bool) (n : Nat) (p0 : (List SEntry)) (p1 : Bool) (v67 v68 : Int) (kn : Int → Option R) (kr : Option R) (ke0 : Option R) : Option R :=
  cond (decide (v68 < v67)) (cond (decide (0 ≤ v68)) (cond (decide (v68 < (p0.length : Int))) (G_filter_may cp n (p0.getD (Int.toNat v68) zEntry) (fun r69 => cond (!r69) (kr) (cond (decide (0 < v68)) (cond (decide (0 ≤ wr .i64 (v68 - 1))) (cond (decide (wr .i64 (v68 - 1) < (p0.length : Int))) (cond (decide (((p0.getD (Int.toNat v68) zEntry).xAt) ≤ ((p0.getD (Int.toNat (wr .i64 (v68 - 1))) zEntry).xAt))) (kr) (cond (decide (0 ≤ wr .i64 (v68 - 1))) (cond (decide (wr .i64 (v68 - 1) < (p0.length : Int))) (G_filter_beats cp n ((p0.getD (Int.toNat v68) zEntry).xV) ((p0.getD (Int.toNat (wr .i64 (v68 - 1))) zEntry).xV) p1 (fun r70 => cond (r70) (kr) (kn (wr .i64 (v68 + 1))))) (none)) (none))) (none)) (none)) (kn (wr .i64 (v68 + 1)))))) (none)) (none)) (ke0)
def l_filter_Check_10 {R : Type} (cp : Nat → Nat → Bool) (n : Nat) : Nat → (List SEntry) → Bool → Int → Int → (Option R) → (Option R) → Option R
  | 0, _, _, _, _, _, _ => none
  | m + 1, p0, p1, v67, v68, kr, ke0 =>
    s_filter_Check_5 cp n p0 p1 v67 v68 (fun v71 => l_filter_Check_10 cp n m p0 p1 v67 v71 kr ke0) kr ke0
def s_filter_Check_11 {R : Type} (cp : Nat → Nat → Bool) (n : Nat) (p0 : (List SEntry)) (p1 : Bool) (v67 : Int) (kr : Option R) (ke0 : Option R) : Option R :=
  l_filter_Check_10 cp n n p0 p1 v67 0 kr ke0
def s_filter_Check_12 {R : Type} (cp : Nat → Nat → Bool) (n : Nat) (p0 : (List SEntry)) (p1 : Bool) (v67 : Int) (kn : Option R) (kr : Option R) : Option R :=
  s_filter_Check_11 cp n p0 p1 v67 kr kn
def s_filter_Check_13 {R : Type} (cp : Nat → Nat → Bool) (n : Nat) (p0 : (List SEntry)) (p1 : Bool) (kn : Option R) (kr : Option R) : Option R :=
  s_filter_Check_3 cp n p0 p1 (fun v67 => s_filter_Check_12 cp n p0 p1 v67 kn kr)
def s_filter_Check_14 {R : Type} (cp : Nat → Nat → Bool) (n : Nat) (kr : Option R) : Option R :=
  kr
def s_filter_Check_17 {R : Type} (cp : Nat → Nat → Bool) (n : Nat) (p0 : (List SEntry)) (p1 : Bool) (kr : Int → Option R) : Option R :=
  s_filter_Check_13 cp n p0 p1 (s_filter_Check_14 cp n (kr 0)) (kr 2)
def s_filter_Check_19 {R : Type} (cp : Nat → Nat → Bool) (n : Nat) (p0 : (List SEntry)) (p1 : Bool) (kr : Int → Option R) : Option R :=
  s_filter_Check_1 cp n p0 p1 (s_filter_Check_17 cp n p0 p1 (fun v72 => (kr v72)))
def G_filter_Check {R : Type} (cp : Nat → Nat → Bool) : Nat → (List SEntry) → Bool → (Int → Option R) → Option R
  | 0, _, _, _ => none
  | n + 1, p0, p1, k =>
    s_filter_Check_19 cp n p0 p1 (fun v73 => k v73)
/-! (*tideway/bbr.ctl).entries -/
def s_bbr_ctl_entries_1 {R : Type} (cp : Nat → Nat → Bool) (n : Nat) (q0 : ST68) (kn : Option R) (kr : Option R) : Option R :=
  G_filter_Check cp n q0.xCc_Bw true (fun r74 => cond (!decide (r74 = 0)) (kr) (kn))
def s_bbr_ctl_entries_4 {R : Type} (cp : Nat → Nat → Bool) (n : Nat) (q0 : ST68) (kn : Int → Option R) : Option R :=
  kn (q0.xCc_Bw.length : Int)
def s_bbr_ctl_entries_6 {R : Type} (cp : Nat → Nat → Bool) (n : Nat) (q0 : ST68) (v75 v76 : Int) (kn : Int → Option R) (kr : Option R) (ke0 : Option R) : Option R :=
  cond (decide (v76 < v75)) (cond (decide (0 ≤ v76)) (cond (decide (v76 < (q0.xCc_Bw.length : Int))) (cond (decide (1099511627776 < ((q0.xCc_Bw.getD (Int.toNat v76) zEntry).xV))) (kr) (cond (decide (q0.xCc_Round < ((q0.xCc_Bw.getD (Int.toNat v76) zEntry).xAt))) (kr) (kn (wr .i64 (v76 + 1))))) (none)) (none)) (ke0)
def l_bbr_ctl_entries_10 {R : Type} (cp : Nat → Nat → Bool) (n : Nat) : Nat → ST68 → Int → Int → (Option R) → (Option R) → Option R
  | 0, _, _, _, _, _ => none
  | m + 1, q0, v75, v76, kr, ke0 =>
    s_bbr_ctl_entries_6 cp n q0 v75 v76 (fun v77 => l_bbr_ctl_entries_10 cp n m q0 v75 v77 kr ke0) kr ke0
def s_bbr_ctl_entries_11 {R : Type} (cp : Nat → Nat → Bool) (n : Nat) (q0 : ST68) (v75 : Int) (kr : Option R) (ke0 : Option R) : Option R :=
  l_bbr_ctl_entries_10 cp n n q0 v75 0 kr ke0
def s_bbr_ctl_entries_12 {R : Type} (cp : Nat → Nat → Bool) (n : Nat) (q0 : ST68) (v75 : Int) (kn : Option R) (kr : Option R) : Option R :=
  s_bbr_ctl_entries_11 cp n q0 v75 kr kn
def s_bbr_ctl_entries_13 {R : Type} (cp : Nat → Nat → Bool) (n : Nat) (q0 : ST68) (kn : Option R) (kr : Option R) : Option R :=
  s_bbr_ctl_entries_4 cp n q0 (fun v75 => s_bbr_ctl_entries_12 cp n q0 v75 kn kr)
def s_bbr_ctl_entries_14 {R : Type} (cp : Nat → Nat → Bool) (n : Nat) (q0 : ST68) (kr : Option R) : Option R :=
  kr
def s_bbr_ctl_entries_17 {R : Type} (cp : Nat → Nat → Bool) (n : Nat) (q0 : ST68) (kr : Bool → Option R) : Option R :=
  s_bbr_ctl_entries_13 cp n q0 (s_bbr_ctl_entries_14 cp n q0 (kr true)) (kr false)
def s_bbr_ctl_entries_19 {R : Type} (cp : Nat → Nat → Bool) (n : Nat) (q0 : ST68) (kr : Bool → Option R) : Option R :=
  s_bbr_ctl_entries_1 cp n q0 (s_bbr_ctl_entries_17 cp n q0 (fun v78 => (kr v78))) (kr false)
def G_bbr_ctl_entries {R : Type} (cp : Nat → Nat → Bool) : Nat → ST68 → (Bool → ST68 → Option R) → Option R
  | 0, _, _ => none
  | n + 1, q0, k =>
    s_bbr_ctl_entries_19 cp n q0 (fun v79 => k v79 q0)
/-! tideway/bbr.Check -/
def s_bbr_Check_1 {R : Type} (cp : Nat → Nat → Bool) (n : Nat) (p0 : SCc) (kn : Option R) : Option R :=
  kn
def s_bbr_Check_3 {R : Type} (cp : Nat → Nat → Bool) (n : Nat) (p0 : SCc) (kn : Bool → Option R) : Option R :=
  cond (decide (p0.xKind = 3)) (cond (decide (1 ≤ p0.xMss)) (cond (decide (p0.xMss ≤ 65000)) (cond (decide (p0.xMss ≤ p0.xCwnd)) (cond (decide (p0.xCwnd ≤ 1073741824)) (cond (decide (p0.xSsthresh = 1073741824)) (kn (decide (p0.xAcc = 0))) (kn false)) (kn false)) (kn false)) (kn false)) (kn false)) (kn false)
def s_bbr_Check_5 {R : Type} (cp : Nat → Nat → Bool) (n : Nat) (p0 : SCc) (v59 : Bool) (kn : Bool → Option R) : Option R :=
  cond (decide (p0.xWmax = 0)) (cond (decide (p0.xEpoch = 0)) (cond (decide (p0.xK = 0)) (cond (decide (p0.xWest = 0)) (kn (decide (p0.xStart = 0))) (kn false)) (kn false)) (kn false)) (kn false)
def s_bbr_Check_7 {R : Type} (cp : Nat → Nat → Bool) (n : Nat) (p0 : SCc) (v59 v60 : Bool) (kn : Bool → Option R) : Option R :=
  G_bbr_within cp n 1125899906842624 [p0.xMinRtt, p0.xMinAt, p0.xNextAt, p0.xPhaseAt, p0.xDoneAt, p0.xRound] (fun r61 => kn r61)
def s_bbr_Check_9 {R : Type} (cp : Nat → Nat → Bool) (n : Nat) (p0 : SCc) (v59 v60 v62 : Bool) (kn : Bool → Option R) : Option R :=
  G_bbr_within cp n 1099511627776 [p0.xFull] (fun r63 => cond (r63) (G_bbr_within cp n 3 [p0.xFullN] (fun r64 => cond (r64) (G_bbr_within cp n 7 [p0.xPhase] (fun r65 => cond (r65) (G_bbr_within cp n 1073741824 [p0.xPrior] (fun r66 => kn r66)) (kn false))) (kn false))) (kn false))
def s_bbr_Check_11 {R : Type} (cp : Nat → Nat → Bool) (n : Nat) (p0 : SCc) (v59 v60 v62 v67 : Bool) (kr : Int → Option R) : Option R :=
  cond (!v59) (kr 230) (cond (!v60) (kr 230) (cond (!v62) (kr 230) (cond (!v67) (kr 230) (cond (decide (p0.xMode < 1)) (kr 230) (cond (decide (4 < p0.xMode)) (kr 230) (G_bbr_ctl_entries cp n (ST68.mk p0.xKind p0.xMss p0.xCwnd p0.xSsthresh p0.xAcc p0.xWmax p0.xEpoch p0.xK p0.xWest p0.xStart p0.xMode p0.xBw p0.xMinRtt p0.xMinAt p0.xRound p0.xNextAt p0.xFull p0.xFullN p0.xPhase p0.xPhaseAt p0.xDoneAt p0.xPrior) (fun r68 r69 => cond (!r68) (kr 230) (kr 0))))))))
def s_bbr_Check_14 {R : Type} (cp : Nat → Nat → Bool) (n : Nat) (p0 : SCc) (v59 v60 v62 : Bool) (kr : Int → Option R) : Option R :=
  s_bbr_Check_9 cp n p0 v59 v60 v62 (fun v67 => s_bbr_Check_11 cp n p0 v59 v60 v62 v67 (fun v70 => (kr v70)))
def s_bbr_Check_16 {R : Type} (cp : Nat → Nat → Bool) (n : Nat) (p0 : SCc) (v59 v60 : Bool) (kr : Int → Option R) : Option R :=
  s_bbr_Check_7 cp n p0 v59 v60 (fun v62 => s_bbr_Check_14 cp n p0 v59 v60 v62 (fun v71 => (kr v71)))
def s_bbr_Check_18 {R : Type} (cp : Nat → Nat → Bool) (n : Nat) (p0 : SCc) (v59 : Bool) (kr : Int → Option R) : Option R :=
  s_bbr_Check_5 cp n p0 v59 (fun v60 => s_bbr_Check_16 cp n p0 v59 v60 (fun v72 => (kr v72)))
def s_bbr_Check_20 {R : Type} (cp : Nat → Nat → Bool) (n : Nat) (p0 : SCc) (kr : Int → Option R) : Option R :=
  s_bbr_Check_3 cp n p0 (fun v59 => s_bbr_Check_18 cp n p0 v59 (fun v73 => (kr v73)))
def s_bbr_Check_22 {R : Type} (cp : Nat → Nat → Bool) (n : Nat) (p0 : SCc) (kr : Int → Option R) : Option R :=
  s_bbr_Check_1 cp n p0 (s_bbr_Check_20 cp n p0 (fun v74 => (kr v74)))
def G_bbr_Check {R : Type} (cp : Nat → Nat → Bool) : Nat → SCc → (Int → Option R) → Option R
  | 0, _, _ => none
  | n + 1, p0, k =>
    s_bbr_Check_22 cp n p0 (fun v75 => k v75)
/-! tideway/cc.Check -/
def G_cc_Check {R : Type} (cp : Nat → Nat → Bool) : Nat → SCc → (Int → Option R) → Option R
  | 0, _, _ => none
  | n + 1, p0, k =>
    cond (decide (p0.xKind = 1)) (G_reno_Check cp n p0 (fun r50 => k r50)) (cond (decide (p0.xKind = 2)) (G_cubic_Check cp n p0 (fun r58 => k r58)) (G_bbr_Check cp n p0 (fun r76 => k r76)))
/-! tideway/cc.asked -/
def G_cc_asked {R : Type} (cp : Nat → Nat → Bool) : Nat → SCc → Bool → (Int → Option R) → Option R
  | 0, _, _, _ => none
  | n + 1, p0, p1, k =>
    G_cc_Check cp n p0 (fun r77 => cond (!decide (r77 = 0)) (k r77) (cond (!p1) (k 2) (k 0)))
/-! tideway/cc.Rest -/
def s_cc_Rest_1 {R : Type} (cp : Nat → Nat → Bool) (n : Nat) (p0 : SCc) (p1 p2 p3 : Int) (kn : Option R) : Option R :=
  kn
def s_cc_Rest_3 {R : Type} (cp : Nat → Nat → Bool) (n : Nat) (p0 : SCc) (p1 p2 p3 : Int) (kn : Int → Option R) : Option R :=
  G_cc_time cp n p1 (fun r39 => cond (r39) (G_cc_time cp n p2 (fun r40 => cond (r40) (G_cc_size cp n p3 (fun r41 => G_cc_asked cp n p0 r41 (fun r42 => kn r42))) (G_cc_asked cp n p0 false (fun r43 => kn r43)))) (G_cc_asked cp n p0 false (fun r44 => kn r44)))
def s_cc_Rest_5 {R : Type} (cp : Nat → Nat → Bool) (n : Nat) (p0 : SCc) (p1 p2 p3 v45 : Int) (kn : Option R) (kr : Option R) : Option R :=
  cond (!decide (v45 = 0)) (kr) (kn)
def s_cc_Rest_8 {R : Type} (cp : Nat → Nat → Bool) (n : Nat) (p0 : SCc) (p1 p2 p3 : Int) (kn : Option R) (kr : Int → Option R) : Option R :=
  s_cc_Rest_3 cp n p0 p1 p2 p3 (fun v45 => s_cc_Rest_5 cp n p0 p1 p2 p3 v45 kn (kr v45))
def s_cc_Rest_9 {R : Type} (cp : Nat → Nat → Bool) (n : Nat) (p0 : SCc) (p1 p2 p3 : Int) (kr : Int → Int → Option R) : Option R :=
  cond (decide (p0.xKind = 3)) (kr p0.xCwnd p0.xSsthresh) (cond (decide (p2 = 0)) (kr p0.xCwnd p0.xSsthresh) (cond (decide (p1 ≤ p2)) (kr p0.xCwnd p0.xSsthresh) (cond (decide (p2 = 0)) (none) (cond (decide ((mn 20 (wr .i64 (Int.tdiv p1 p2))) < 0)) (none) (kr (mn p0.xCwnd (mx (mx (shr .i64 p0.xCwnd (mn 20 (wr .i64 (Int.tdiv p1 p2)))) p3) (wr .i64 (2 * p0.xMss)))) (mx p0.xSsthresh (wr .i64 (Int.tdiv (wr .i64 (3 * p0.xCwnd)) 4))))))))
def s_cc_Rest_12 {R : Type} (cp : Nat → Nat → Bool) (n : Nat) (p0 : SCc) (p1 p2 p3 : Int) (kr : Int → SCc → Option R) : Option R :=
  s_cc_Rest_8 cp n p0 p1 p2 p3 (s_cc_Rest_9 cp n p0 p1 p2 p3 (fun v47 v48 => (kr 0 (SCc.mk p0.xKind p0.xMss v47 v48 p0.xAcc p0.xWmax p0.xEpoch p0.xK p0.xWest p0.xStart p0.xMode p0.xBw p0.xMinRtt p0.xMinAt p0.xRound p0.xNextAt p0.xFull p0.xFullN p0.xPhase p0.xPhaseAt p0.xDoneAt p0.xPrior)))) (fun v46 => (kr v46 (SCc.mk 0 0 0 0 0 0 0 0 0 0 0 [] 0 0 0 0 0 0 0 0 0 0)))
def s_cc_Rest_14 {R : Type} (cp : Nat → Nat → Bool) (n : Nat) (p0 : SCc) (p1 p2 p3 : Int) (kr : Int → SCc → Option R) : Option R :=
  s_cc_Rest_1 cp n p0 p1 p2 p3 (s_cc_Rest_12 cp n p0 p1 p2 p3 (fun v49 v50 => (kr v49 v50)))
def G_cc_Rest {R : Type} (cp : Nat → Nat → Bool) : Nat → SCc → Int → Int → Int → (SCc → Int → Option R) → Option R
  | 0, _, _, _, _, _ => none
  | n + 1, p0, p1, p2, p3, k =>
    s_cc_Rest_14 cp n p0 p1 p2 p3 (fun v51 v52 => k v52 v51)
/-! tideway/bbr.Gain -/
def G_bbr_Gain {R : Type} (cp : Nat → Nat → Bool) : Nat → SCc → (Int → Option R) → Option R
  | 0, _, _ => none
  | n + 1, p0, k =>
    G_bbr_Check cp n p0 (fun r61 => cond (!decide (r61 = 0)) (k 0) (cond (decide (p0.xMode = 1)) (k 289) (cond (decide (p0.xMode = 2)) (k 35) (cond (decide (p0.xMode = 3)) (cond (decide (p0.xPhase = 0)) (k 125) (cond (decide (p0.xMode = 3)) (cond (decide (p0.xPhase = 1)) (k 75) (k 100)) (k 100))) (cond (decide (p0.xMode = 3)) (cond (decide (p0.xPhase = 1)) (k 75) (k 100)) (k 100))))))
/-! tideway/filter.Best -/
def G_filter_Best {R : Type} (cp : Nat → Nat → Bool) : Nat → (List SEntry) → (Int → Bool → Option R) → Option R
  | 0, _, _ => none
  | n + 1, p0, k =>
    cond (decide ((p0.length : Int) = 0)) (k 0 false) (cond (decide (0 < (p0.length : Int))) (k ((p0.getD 0 zEntry).xV) true) (none))
/-! (*tideway/bbr.ctl).bandwidth -/
def G_bbr_ctl_bandwidth {R : Type} (cp : Nat → Nat → Bool) : Nat → ST68 → (Int → ST68 → Option R) → Option R
  | 0, _, _ => none
  | n + 1, q0, k =>
    G_filter_Best cp n q0.xCc_Bw (fun r64 r65 => k r64 q0)
/-! tideway/bbr.Bandwidth -/
def G_bbr_Bandwidth {R : Type} (cp : Nat → Nat → Bool) : Nat → SCc → (Int → Option R) → Option R
  | 0, _, _ => none
  | n + 1, p0, k =>
    G_bbr_Check cp n p0 (fun r63 => cond (!decide (r63 = 0)) (k 0) (G_bbr_ctl_bandwidth cp n (ST68.mk p0.xKind p0.xMss p0.xCwnd p0.xSsthresh p0.xAcc p0.xWmax p0.xEpoch p0.xK p0.xWest p0.xStart p0.xMode p0.xBw p0.xMinRtt p0.xMinAt p0.xRound p0.xNextAt p0.xFull p0.xFullN p0.xPhase p0.xPhaseAt p0.xDoneAt p0.xPrior) (fun r66 r67 => k r66)))
/-! math/bits.Mul64 -/
def G_math_bits_Mul64 {R : Type} (cp : Nat → Nat → Bool) : Nat → Int → Int → (Int → Int → Option R) → Option R
  | 0, _, _, _ => none
  | n + 1, p0, p1, k =>
    k (wr .u64 ((wr .u64 ((wr .u64 ((shr .u64 p0 32) * (shr .u64 p1 32))) + (shr .u64 (wr .u64 ((wr .u64 ((shr .u64 p0 32) * (bits .and .u64 p1 4294967295))) + (shr .u64 (wr .u64 ((bits .and .u64 p0 4294967295) * (bits .and .u64 p1 4294967295))) 32))) 32))) + (shr .u64 (wr .u64 ((bits .and .u64 (wr .u64 ((wr .u64 ((shr .u64 p0 32) * (bits .and .u64 p1 4294967295))) + (shr .u64 (wr .u64 ((bits .and .u64 p0 4294967295) * (bits .and .u64 p1 4294967295))) 32))) 4294967295) + (wr .u64 ((bits .and .u64 p0 4294967295) * (shr .u64 p1 32))))) 32))) (wr .u64 (p0 * p1))
/-! math/bits.Len64 -/
def G_math_bits_Len64 {R : Type} (cp : Nat → Nat → Bool) : Nat → Int → (Int → Option R) → Option R
  | 0, _, _ => none
  | n + 1, p0, k =>
    cond (decide (4294967296 ≤ p0)) (cond (decide (65536 ≤ (shr .u64 p0 32))) (cond (decide (256 ≤ (shr .u64 (shr .u64 p0 32) 16))) (cond (decide (0 ≤ wr .u8 (shr .u64 (shr .u64 (shr .u64 p0 32) 16) 8))) (cond (decide (wr .u8 (shr .u64 (shr .u64 (shr .u64 p0 32) 16) 8) < (ByteArray.size tab256_2793 : Int))) (k (wr .i64 ((wr .i64 ((wr .i64 (32 + 16)) + 8)) + (wr .i64 ((tab256_2793.data.getD (Int.toNat (wr .u8 (shr .u64 (shr .u64 (shr .u64 p0 32) 16) 8))) 0).toNat : Int))))) (none)) (none)) (cond (decide (0 ≤ wr .u8 (shr .u64 (shr .u64 p0 32) 16))) (cond (decide (wr .u8 (shr .u64 (shr .u64 p0 32) 16) < (ByteArray.size tab256_2793 : Int))) (k (wr .i64 ((wr .i64 (32 + 16)) + (wr .i64 ((tab256_2793.data.getD (Int.toNat (wr .u8 (shr .u64 (shr .u64 p0 32) 16))) 0).toNat : Int))))) (none)) (none))) (cond (decide (256 ≤ (shr .u64 p0 32))) (cond (decide (0 ≤ wr .u8 (shr .u64 (shr .u64 p0 32) 8))) (cond (decide (wr .u8 (shr .u64 (shr .u64 p0 32) 8) < (ByteArray.size tab256_2793 : Int))) (k (wr .i64 ((wr .i64 (32 + 8)) + (wr .i64 ((tab256_2793.data.getD (Int.toNat (wr .u8 (shr .u64 (shr .u64 p0 32) 8))) 0).toNat : Int))))) (none)) (none)) (cond (decide (0 ≤ wr .u8 (shr .u64 p0 32))) (cond (decide (wr .u8 (shr .u64 p0 32) < (ByteArray.size tab256_2793 : Int))) (k (wr .i64 (32 + (wr .i64 ((tab256_2793.data.getD (Int.toNat (wr .u8 (shr .u64 p0 32))) 0).toNat : Int))))) (none)) (none)))) (cond (decide (65536 ≤ p0)) (cond (decide (256 ≤ (shr .u64 p0 16))) (cond (decide (0 ≤ wr .u8 (shr .u64 (shr .u64 p0 16) 8))) (cond (decide (wr .u8 (shr .u64 (shr .u64 p0 16) 8) < (ByteArray.size tab256_2793 : Int))) (k (wr .i64 ((wr .i64 ((wr .i64 (0 + 16)) + 8)) + (wr .i64 ((tab256_2793.data.getD (Int.toNat (wr .u8 (shr .u64 (shr .u64 p0 16) 8))) 0).toNat : Int))))) (none)) (none)) (cond (decide (0 ≤ wr .u8 (shr .u64 p0 16))) (cond (decide (wr .u8 (shr .u64 p0 16) < (ByteArray.size tab256_2793 : Int))) (k (wr .i64 ((wr .i64 (0 + 16)) + (wr .i64 ((tab256_2793.data.getD (Int.toNat (wr .u8 (shr .u64 p0 16))) 0).toNat : Int))))) (none)) (none))) (cond (decide (256 ≤ p0)) (cond (decide (0 ≤ wr .u8 (shr .u64 p0 8))) (cond (decide (wr .u8 (shr .u64 p0 8) < (ByteArray.size tab256_2793 : Int))) (k (wr .i64 ((wr .i64 (0 + 8)) + (wr .i64 ((tab256_2793.data.getD (Int.toNat (wr .u8 (shr .u64 p0 8))) 0).toNat : Int))))) (none)) (none)) (cond (decide (0 ≤ wr .u8 p0)) (cond (decide (wr .u8 p0 < (ByteArray.size tab256_2793 : Int))) (k (wr .i64 (0 + (wr .i64 ((tab256_2793.data.getD (Int.toNat (wr .u8 p0)) 0).toNat : Int))))) (none)) (none))))
/-! math/bits.LeadingZeros64 -/
def G_math_bits_LeadingZeros64 {R : Type} (cp : Nat → Nat → Bool) : Nat → Int → (Int → Option R) → Option R
  | 0, _, _ => none
  | n + 1, p0, k =>
    G_math_bits_Len64 cp n p0 (fun r71 => k (wr .i64 (64 - r71)))
/-! math/bits.Div64 -/
def s_math_bits_Div64_1 {R : Type} (cp : Nat → Nat → Bool) (n : Nat) (p0 p1 p2 : Int) (kn : Int → Int → Int → Int → Int → Int → Int → Int → Int → Option R) (kr : Int → Int → Option R) : Option R :=
  cond (decide (p2 = 0)) (none) (cond (decide (p2 ≤ p0)) (none) (cond (decide (p0 = 0)) (cond (decide (p2 = 0)) (none) (cond (decide (p2 = 0)) (none) (kr (wr .u64 (Int.tdiv p1 p2)) (Int.tmod p1 p2)))) (G_math_bits_LeadingZeros64 cp n p2 (fun r81 => cond (decide ((wr .u64 r81) < 0)) (none) (cond (decide ((wr .u64 r81) < 0)) (none) (cond (decide ((wr .u64 (64 - (wr .u64 r81))) < 0)) (none) (cond (decide ((wr .u64 r81) < 0)) (none) (cond (decide ((shr .u64 (shl .u64 p2 (wr .u64 r81)) 32) = 0)) (none) (kn (shl .u64 p2 (wr .u64 r81)) (wr .u64 r81) (shr .u64 (shl .u64 p2 (wr .u64 r81)) 32) (bits .and .u64 (shl .u64 p2 (wr .u64 r81)) 4294967295) (bits .or .u64 (shl .u64 p0 (wr .u64 r81)) (shr .u64 p1 (wr .u64 (64 - (wr .u64 r81))))) (shr .u64 (shl .u64 p1 (wr .u64 r81)) 32) (bits .and .u64 (shl .u64 p1 (wr .u64 r81)) 4294967295) (wr .u64 (Int.tdiv (bits .or .u64 (shl .u64 p0 (wr .u64 r81)) (shr .u64 p1 (wr .u64 (64 - (wr .u64 r81))))) (shr .u64 (shl .u64 p2 (wr .u64 r81)) 32))) (wr .u64 ((bits .or .u64 (shl .u64 p0 (wr .u64 r81)) (shr .u64 p1 (wr .u64 (64 - (wr .u64 r81))))) - (wr .u64 ((wr .u64 (Int.tdiv (bits .or .u64 (shl .u64 p0 (wr .u64 r81)) (shr .u64 p1 (wr .u64 (64 - (wr .u64 r81))))) (shr .u64 (shl .u64 p2 (wr .u64 r81)) 32))) * (shr .u64 (shl .u64 p2 (wr .u64 r81)) 32))))))))))))))
def s_math_bits_Div64_4 {R : Type} (cp : Nat → Nat → Bool) (n : Nat) (v82 v83 v84 v85 v86 v87 v88 v93 v94 : Int) (kn : Int → Int → Option R) (ke0 : Int → Option R) : Option R :=
  cond (decide (4294967296 ≤ v93)) (cond (decide (4294967296 ≤ (wr .u64 (v94 + v84)))) (ke0 (wr .u64 (v93 - 1))) (kn (wr .u64 (v93 - 1)) (wr .u64 (v94 + v84)))) (cond (decide ((wr .u64 ((wr .u64 (4294967296 * v94)) + v87)) < (wr .u64 (v93 * v85)))) (cond (decide (4294967296 ≤ (wr .u64 (v94 + v84)))) (ke0 (wr .u64 (v93 - 1))) (kn (wr .u64 (v93 - 1)) (wr .u64 (v94 + v84)))) (ke0 v93))
def l_math_bits_Div64_9 {R : Type} (cp : Nat → Nat → Bool) (n : Nat) : Nat → Int → Int → Int → Int → Int → Int → Int → Int → Int → (Int → Option R) → Option R
  | 0, _, _, _, _, _, _, _, _, _, _ => none
  | m + 1, v82, v83, v84, v85, v86, v87, v88, v93, v94, ke0 =>
    s_math_bits_Div64_4 cp n v82 v83 v84 v85 v86 v87 v88 v93 v94 (fun v95 v96 => l_math_bits_Div64_9 cp n m v82 v83 v84 v85 v86 v87 v88 v95 v96 ke0) (fun v97 => (ke0 v97))
def s_math_bits_Div64_10 {R : Type} (cp : Nat → Nat → Bool) (n : Nat) (v82 v83 v84 v85 v86 v87 v88 v89 v90 : Int) (ke0 : Int → Option R) : Option R :=
  l_math_bits_Div64_9 cp n n v82 v83 v84 v85 v86 v87 v88 v89 v90 ke0
def s_math_bits_Div64_12 {R : Type} (cp : Nat → Nat → Bool) (n : Nat) (v82 v83 v84 v85 v86 v87 v88 v89 v90 : Int) (kn : Int → Option R) : Option R :=
  s_math_bits_Div64_10 cp n v82 v83 v84 v85 v86 v87 v88 v89 v90 (fun v98 => (kn v98))
def s_math_bits_Div64_13 {R : Type} (cp : Nat → Nat → Bool) (n : Nat) (v82 v83 v84 v85 v86 v87 v88 v99 : Int) (kn : Int → Int → Int → Option R) : Option R :=
  cond (decide (v84 = 0)) (none) (kn (wr .u64 ((wr .u64 ((wr .u64 ((wr .u64 (v86 * 4294967296)) + v87)) - (wr .u64 (v99 * v82)))) - (wr .u64 ((wr .u64 (Int.tdiv (wr .u64 ((wr .u64 ((wr .u64 (v86 * 4294967296)) + v87)) - (wr .u64 (v99 * v82)))) v84)) * v84)))) (wr .u64 ((wr .u64 ((wr .u64 (v86 * 4294967296)) + v87)) - (wr .u64 (v99 * v82)))) (wr .u64 (Int.tdiv (wr .u64 ((wr .u64 ((wr .u64 (v86 * 4294967296)) + v87)) - (wr .u64 (v99 * v82)))) v84)))
def s_math_bits_Div64_15 {R : Type} (cp : Nat → Nat → Bool) (n : Nat) (v82 v83 v84 v85 v88 v99 v101 v103 v104 : Int) (kn : Int → Int → Option R) (ke2 : Int → Option R) : Option R :=
  cond (decide (4294967296 ≤ v104)) (cond (decide (4294967296 ≤ (wr .u64 (v103 + v84)))) (ke2 (wr .u64 (v104 - 1))) (kn (wr .u64 (v103 + v84)) (wr .u64 (v104 - 1)))) (cond (decide ((wr .u64 ((wr .u64 (4294967296 * v103)) + v88)) < (wr .u64 (v104 * v85)))) (cond (decide (4294967296 ≤ (wr .u64 (v103 + v84)))) (ke2 (wr .u64 (v104 - 1))) (kn (wr .u64 (v103 + v84)) (wr .u64 (v104 - 1)))) (ke2 v104))
def l_math_bits_Div64_20 {R : Type} (cp : Nat → Nat → Bool) (n : Nat) : Nat → Int → Int → Int → Int → Int → Int → Int → Int → Int → (Int → Option R) → Option R
  | 0, _, _, _, _, _, _, _, _, _, _ => none
  | m + 1, v82, v83, v84, v85, v88, v99, v101, v103, v104, ke2 =>
    s_math_bits_Div64_15 cp n v82 v83 v84 v85 v88 v99 v101 v103 v104 (fun v105 v106 => l_math_bits_Div64_20 cp n m v82 v83 v84 v85 v88 v99 v101 v105 v106 ke2) (fun v107 => (ke2 v107))
def s_math_bits_Div64_21 {R : Type} (cp : Nat → Nat → Bool) (n : Nat) (v82 v83 v84 v85 v88 v99 v100 v101 v102 : Int) (ke2 : Int → Option R) : Option R :=
  l_math_bits_Div64_20 cp n n v82 v83 v84 v85 v88 v99 v101 v100 v102 ke2
def s_math_bits_Div64_23 {R : Type} (cp : Nat → Nat → Bool) (n : Nat) (v82 v83 v84 v85 v88 v99 v100 v101 v102 : Int) (kn : Int → Option R) : Option R :=
  s_math_bits_Div64_21 cp n v82 v83 v84 v85 v88 v99 v100 v101 v102 (fun v108 => (kn v108))
def s_math_bits_Div64_24 {R : Type} (cp : Nat → Nat → Bool) (n : Nat) (v82 v83 v88 v99 v101 v109 : Int) (kr : Int → Int → Option R) : Option R :=
  cond (decide (v83 < 0)) (none) (kr (wr .u64 ((wr .u64 (v99 * 4294967296)) + v109)) (shr .u64 (wr .u64 ((wr .u64 ((wr .u64 (v101 * 4294967296)) + v88)) - (wr .u64 (v109 * v82)))) v83))
def s_math_bits_Div64_27 {R : Type} (cp : Nat → Nat → Bool) (n : Nat) (v82 v83 v84 v85 v88 v99 v100 v101 v102 : Int) (kr : Int → Int → Option R) : Option R :=
  s_math_bits_Div64_23 cp n v82 v83 v84 v85 v88 v99 v100 v101 v102 (fun v109 => s_math_bits_Div64_24 cp n v82 v83 v88 v99 v101 v109 (fun v110 v111 => (kr v110 v111)))
def s_math_bits_Div64_29 {R : Type} (cp : Nat → Nat → Bool) (n : Nat) (v82 v83 v84 v85 v86 v87 v88 v99 : Int) (kr : Int → Int → Option R) : Option R :=
  s_math_bits_Div64_13 cp n v82 v83 v84 v85 v86 v87 v88 v99 (fun v100 v101 v102 => s_math_bits_Div64_27 cp n v82 v83 v84 v85 v88 v99 v100 v101 v102 (fun v112 v113 => (kr v112 v113)))
def s_math_bits_Div64_31 {R : Type} (cp : Nat → Nat → Bool) (n : Nat) (v82 v83 v84 v85 v86 v87 v88 v89 v90 : Int) (kr : Int → Int → Option R) : Option R :=
  s_math_bits_Div64_12 cp n v82 v83 v84 v85 v86 v87 v88 v89 v90 (fun v99 => s_math_bits_Div64_29 cp n v82 v83 v84 v85 v86 v87 v88 v99 (fun v114 v115 => (kr v114 v115)))
def s_math_bits_Div64_33 {R : Type} (cp : Nat → Nat → Bool) (n : Nat) (p0 p1 p2 : Int) (kr : Int → Int → Option R) : Option R :=
  s_math_bits_Div64_1 cp n p0 p1 p2 (fun v82 v83 v84 v85 v86 v87 v88 v89 v90 => s_math_bits_Div64_31 cp n v82 v83 v84 v85 v86 v87 v88 v89 v90 (fun v116 v117 => (kr v116 v117))) (fun v91 v92 => (kr v91 v92))
def G_math_bits_Div64 {R : Type} (cp : Nat → Nat → Bool) : Nat → Int → Int → Int → (Int → Int → Option R) → Option R
  | 0, _, _, _, _ => none
  | n + 1, p0, p1, p2, k =>
    s_math_bits_Div64_33 cp n p0 p1 p2 (fun v118 v119 => k v118 v119)
/-! tideway/seq.MulDiv -/
def G_seq_MulDiv {R : Type} (cp : Nat → Nat → Bool) : Nat → Int → Int → Int → (Int → Int → Option R) → Option R
  | 0, _, _, _, _ => none
  | n + 1, p0, p1, p2, k =>
    cond (decide (p0 < 0)) (k 0 2) (cond (decide (p1 < 0)) (k 0 2) (cond (decide (p2 ≤ 0)) (k 0 2) (G_math_bits_Mul64 cp n (wr .u64 p0) (wr .u64 p1) (fun r69 r70 => cond (decide ((wr .u64 p2) ≤ r69)) (k 9223372036854775807 0) (G_math_bits_Div64 cp n r69 r70 (wr .u64 p2) (fun r120 r121 => k (wr .i64 (mn r120 9223372036854775807)) 0))))))
/-! tideway/cc.Pace -/
def s_cc_Pace_1 {R : Type} (cp : Nat → Nat → Bool) (n : Nat) (p0 : SCc) (p1 p2 : Int) (kn : Int → Int → Option R) (kr : Option R) : Option R :=
  G_cc_Check cp n p0 (fun r62 => cond (!decide (r62 = 0)) (kr) (cond (decide (p0.xKind = 3)) (G_bbr_Gain cp n p0 (fun r63 => G_bbr_Bandwidth cp n p0 (fun r64 => kn 289 (wr .i64 (Int.tdiv (wr .i64 (r63 * r64)) 100))))) (cond (decide (p0.xCwnd < p0.xSsthresh)) (kn 200 0) (kn 120 0))))
def s_cc_Pace_4 {R : Type} (cp : Nat → Nat → Bool) (n : Nat) (p0 : SCc) (p1 p2 v65 v66 : Int) (kr : Int → Option R) : Option R :=
  cond (decide (v66 = 0)) (cond (decide ((mn p1 1125899906842624) < 1)) (G_seq_MulDiv cp n p0.xCwnd (wr .i64 (v65 * 1000000)) (wr .i64 (100 * 1000)) (fun r67 r68 => kr (mn 1099511627776 (mx (mx 1 p2) r67)))) (G_seq_MulDiv cp n p0.xCwnd (wr .i64 (v65 * 1000000)) (wr .i64 (100 * (mn p1 1125899906842624))) (fun r69 r70 => kr (mn 1099511627776 (mx (mx 1 p2) r69))))) (kr (mn 1099511627776 (mx (mx 1 p2) v66)))
def s_cc_Pace_7 {R : Type} (cp : Nat → Nat → Bool) (n : Nat) (p0 : SCc) (p1 p2 : Int) (kr : Int → Option R) : Option R :=
  s_cc_Pace_1 cp n p0 p1 p2 (fun v65 v66 => s_cc_Pace_4 cp n p0 p1 p2 v65 v66 (fun v71 => (kr v71))) (kr 0)
def G_cc_Pace {R : Type} (cp : Nat → Nat → Bool) : Nat → SCc → Int → Int → (Int → Option R) → Option R
  | 0, _, _, _, _ => none
  | n + 1, p0, p1, p2, k =>
    s_cc_Pace_7 cp n p0 p1 p2 (fun v72 => k v72)
/-! tideway/tidewaylaw19.heads -/
def s_law19_heads_1 {R : Type} (cp : Nat → Nat → Bool) (n : Nat) (kn : Int → Int → Int → Int → SCc → SCc → SCc → Option R) : Option R :=
  G_cc_New cp n 1 100 10 (fun r43 r44 => G_cc_New cp n 2 100 10 (fun r45 r46 => G_cc_New cp n 3 100 10 (fun r47 r48 => G_cc_New cp n 4 1 1 (fun r49 r50 => kn r44 r46 r48 r50 r43 r45 r47))))
def s_law19_heads_3 {R : Type} (cp : Nat → Nat → Bool) (n : Nat) (v51 v52 v53 v54 : Int) (v55 v56 v57 : SCc) (kr : Bool → Option R) : Option R :=
  G_cc_Rest cp n v55 5000 1000 0 (fun r58 r59 => cond (decide (v51 = 0)) (cond (decide (v52 = 0)) (cond (decide (v53 = 0)) (cond (decide (v54 = 2)) (G_cc_Pace cp n v55 100000 0 (fun r73 => cond (decide (r73 = 20000)) (cond (decide (v56.xKind = 2)) (cond (decide (v57.xMode = 1)) (cond (decide (r59 = 0)) (cond (decide (r58.xCwnd = 200)) (cond (decide (r58.xSsthresh = v55.xSsthresh)) (G_cc_Check cp n (SCc.mk 0 0 0 0 0 0 0 0 0 0 0 [] 0 0 0 0 0 0 0 0 0 0) (fun r74 => kr (decide (r74 = 230)))) (kr false)) (kr false)) (kr false)) (kr false)) (kr false)) (kr false))) (kr false)) (kr false)) (kr false)) (kr false))
def s_law19_heads_6 {R : Type} (cp : Nat → Nat → Bool) (n : Nat) (kr : Bool → Option R) : Option R :=
  s_law19_heads_1 cp n (fun v51 v52 v53 v54 v55 v56 v57 => s_law19_heads_3 cp n v51 v52 v53 v54 v55 v56 v57 (fun v75 => (kr v75)))
def G_law19_heads {R : Type} (cp : Nat → Nat → Bool) : Nat → (Bool → Option R) → Option R
  | 0, _ => none
  | n + 1, k =>
    s_law19_heads_6 cp n (fun v76 => k v76)
/-! tideway/tidewaylaw19.CcBegins -/
def s_law19_CcBegins_1 {R : Type} (cp : Nat → Nat → Bool) (n : Nat) (p0 p1 p2 : Int) (kn : Int → Int → SCc → SCc → Option R) : Option R :=
  G_cc_New cp n p0 p1 p2 (fun r3 r4 => G_ref19_New cp n p0 p1 p2 (fun r5 r6 => kn r4 r6 r3 r5))
def s_law19_CcBegins_3 {R : Type} (cp : Nat → Nat → Bool) (n : Nat) (v7 v8 : Int) (v9 v10 : SCc) (kr : Bool → Option R) : Option R :=
  G_ref15_Same cp n v9 v10 (fun r11 => cond (r11) (cond (decide (v7 = v8)) (cond (!decide (v7 = 0)) (G_law19_heads cp n (fun r12 => kr r12)) (G_cc_Check cp n v9 (fun r13 => cond (decide (r13 = 0)) (G_law19_heads cp n (fun r14 => kr r14)) (kr false)))) (kr false)) (kr false))
def s_law19_CcBegins_6 {R : Type} (cp : Nat → Nat → Bool) (n : Nat) (p0 p1 p2 : Int) (kr : Bool → Option R) : Option R :=
  s_law19_CcBegins_1 cp n p0 p1 p2 (fun v7 v8 v9 v10 => s_law19_CcBegins_3 cp n v7 v8 v9 v10 (fun v15 => (kr v15)))
def G_law19_CcBegins {R : Type} (cp : Nat → Nat → Bool) : Nat → Int → Int → Int → (Bool → Option R) → Option R
  | 0, _, _, _, _ => none
  | n + 1, p0, p1, p2, k =>
    s_law19_CcBegins_6 cp n p0 p1 p2 (fun v16 => k v16)
def ca_reno_New {R : Type} (cp : Nat → Nat → Bool) (n : Nat) (av : Fr) (cs : List Fr) (k : Ret2 RW → Option R) : Option R := match av, cs with
  | [y0, y1], [] => (dI .i64 y0).bind fun p0 => (dI .i64 y1).bind fun p1 => G_reno_New cp n p0 p1 (fun r0 r1 => k ⟨.tup [.agg (eCct r0), (tL r1)], []⟩)
  | _, _ => none
def ca_cubic_New {R : Type} (cp : Nat → Nat → Bool) (n : Nat) (av : Fr) (cs : List Fr) (k : Ret2 RW → Option R) : Option R := match av, cs with
  | [y0, y1], [] => (dI .i64 y0).bind fun p0 => (dI .i64 y1).bind fun p1 => G_cubic_New cp n p0 p1 (fun r0 r1 => k ⟨.tup [.agg (eCct r0), (tL r1)], []⟩)
  | _, _ => none
def ca_bbr_New {R : Type} (cp : Nat → Nat → Bool) (n : Nat) (av : Fr) (cs : List Fr) (k : Ret2 RW → Option R) : Option R := match av, cs with
  | [y0, y1], [] => (dI .i64 y0).bind fun p0 => (dI .i64 y1).bind fun p1 => G_bbr_New cp n p0 p1 (fun r0 r1 => k ⟨.tup [.agg (eCct r0), (tL r1)], []⟩)
  | _, _ => none
def ca_cc_New {R : Type} (cp : Nat → Nat → Bool) (n : Nat) (av : Fr) (cs : List Fr) (k : Ret2 RW → Option R) : Option R := match av, cs with
  | [y0, y1, y2], [] => (dI .i64 y0).bind fun p0 => (dI .i64 y1).bind fun p1 => (dI .i64 y2).bind fun p2 => G_cc_New cp n p0 p1 p2 (fun r0 r1 => k ⟨.tup [.agg (eCct r0), (tL r1)], []⟩)
  | _, _ => none
def ca_ref15_New {R : Type} (cp : Nat → Nat → Bool) (n : Nat) (av : Fr) (cs : List Fr) (k : Ret2 RW → Option R) : Option R := match av, cs with
  | [y0, y1], [] => (dI .i64 y0).bind fun p0 => (dI .i64 y1).bind fun p1 => G_ref15_New cp n p0 p1 (fun r0 r1 => k ⟨.tup [.agg (eCc r0), (tL r1)], []⟩)
  | _, _ => none
def ca_ref16_New {R : Type} (cp : Nat → Nat → Bool) (n : Nat) (av : Fr) (cs : List Fr) (k : Ret2 RW → Option R) : Option R := match av, cs with
  | [y0, y1], [] => (dI .i64 y0).bind fun p0 => (dI .i64 y1).bind fun p1 => G_ref16_New cp n p0 p1 (fun r0 r1 => k ⟨.tup [.agg (eCc r0), (tL r1)], []⟩)
  | _, _ => none
def ca_ref18_New {R : Type} (cp : Nat → Nat → Bool) (n : Nat) (av : Fr) (cs : List Fr) (k : Ret2 RW → Option R) : Option R := match av, cs with
  | [y0, y1], [] => (dI .i64 y0).bind fun p0 => (dI .i64 y1).bind fun p1 => G_ref18_New cp n p0 p1 (fun r0 r1 => k ⟨.tup [.agg (eCc r0), (tL r1)], []⟩)
  | _, _ => none
def ca_ref19_New {R : Type} (cp : Nat → Nat → Bool) (n : Nat) (av : Fr) (cs : List Fr) (k : Ret2 RW → Option R) : Option R := match av, cs with
  | [y0, y1, y2], [] => (dI .i64 y0).bind fun p0 => (dI .i64 y1).bind fun p1 => (dI .i64 y2).bind fun p2 => G_ref19_New cp n p0 p1 p2 (fun r0 r1 => k ⟨.tup [.agg (eCc r0), (tL r1)], []⟩)
  | _, _ => none
def ca_ref15_Same {R : Type} (cp : Nat → Nat → Bool) (n : Nat) (av : Fr) (cs : List Fr) (k : Ret2 RW → Option R) : Option R := match av, cs with
  | [y0, y1], [] => (dA y0).bind fun c0_ => (dCc c0_).bind fun p0 => (dA y1).bind fun c1_ => (dCc c1_).bind fun p1 => G_ref15_Same cp n p0 p1 (fun r0 => k ⟨(tB r0), []⟩)
  | _, _ => none
def ca_cc_time {R : Type} (cp : Nat → Nat → Bool) (n : Nat) (av : Fr) (cs : List Fr) (k : Ret2 RW → Option R) : Option R := match av, cs with
  | [y0], [] => (dI .i64 y0).bind fun p0 => G_cc_time cp n p0 (fun r0 => k ⟨(tB r0), []⟩)
  | _, _ => none
def ca_cc_size {R : Type} (cp : Nat → Nat → Bool) (n : Nat) (av : Fr) (cs : List Fr) (k : Ret2 RW → Option R) : Option R := match av, cs with
  | [y0], [] => (dI .i64 y0).bind fun p0 => G_cc_size cp n p0 (fun r0 => k ⟨(tB r0), []⟩)
  | _, _ => none
def ca_reno_size {R : Type} (cp : Nat → Nat → Bool) (n : Nat) (av : Fr) (cs : List Fr) (k : Ret2 RW → Option R) : Option R := match av, cs with
  | [y0], [] => (dI .i64 y0).bind fun p0 => G_reno_size cp n p0 (fun r0 => k ⟨(tB r0), []⟩)
  | _, _ => none
def ca_reno_ctl_plain {R : Type} (cp : Nat → Nat → Bool) (n : Nat) (av : Fr) (cs : List Fr) (k : Ret2 RW → Option R) : Option R := match av, cs with
  | [y0], [w0] => (dP 138 0 y0).bind fun _ => (dctl w0).bind fun q0 => G_reno_ctl_plain cp n q0 (fun r0 r1 => k ⟨(tB r0), [(ectl r1)]⟩)
  | _, _ => none
def ca_reno_Check {R : Type} (cp : Nat → Nat → Bool) (n : Nat) (av : Fr) (cs : List Fr) (k : Ret2 RW → Option R) : Option R := match av, cs with
  | [y0], [] => (dA y0).bind fun c0_ => (dCc c0_).bind fun p0 => G_reno_Check cp n p0 (fun r0 => k ⟨(tL r0), []⟩)
  | _, _ => none
def ca_cubic_size {R : Type} (cp : Nat → Nat → Bool) (n : Nat) (av : Fr) (cs : List Fr) (k : Ret2 RW → Option R) : Option R := match av, cs with
  | [y0], [] => (dRint false y0).bind fun p0 => G_cubic_size cp n p0 (fun r0 => k ⟨(tB r0), []⟩)
  | _, _ => none
def ca_cubic_Check {R : Type} (cp : Nat → Nat → Bool) (n : Nat) (av : Fr) (cs : List Fr) (k : Ret2 RW → Option R) : Option R := match av, cs with
  | [y0], [] => (dA y0).bind fun c0_ => (dCc c0_).bind fun p0 => G_cubic_Check cp n p0 (fun r0 => k ⟨(tL r0), []⟩)
  | _, _ => none
def ca_bbr_within {R : Type} (cp : Nat → Nat → Bool) (n : Nat) (av : Fr) (cs : List Fr) (k : Ret2 RW → Option R) : Option R := match av, cs with
  | [y0, y1], [] => (dI .i64 y0).bind fun p0 => (dRint false y1).bind fun p1 => G_bbr_within cp n p0 p1 (fun r0 => k ⟨(tB r0), []⟩)
  | _, _ => none
def ca_filter_may {R : Type} (cp : Nat → Nat → Bool) (n : Nat) (av : Fr) (cs : List Fr) (k : Ret2 RW → Option R) : Option R := match av, cs with
  | [y0], [] => (dA y0).bind fun c0_ => (dEntry c0_).bind fun p0 => G_filter_may cp n p0 (fun r0 => k ⟨(tB r0), []⟩)
  | _, _ => none
def ca_filter_beats {R : Type} (cp : Nat → Nat → Bool) (n : Nat) (av : Fr) (cs : List Fr) (k : Ret2 RW → Option R) : Option R := match av, cs with
  | [y0, y1, y2], [] => (dI .i64 y0).bind fun p0 => (dI .i64 y1).bind fun p1 => (dB y2).bind fun p2 => G_filter_beats cp n p0 p1 p2 (fun r0 => k ⟨(tB r0), []⟩)
  | _, _ => none
def ca_filter_Check {R : Type} (cp : Nat → Nat → Bool) (n : Nat) (av : Fr) (cs : List Fr) (k : Ret2 RW → Option R) : Option R := match av, cs with
  | [y0, y1], [] => (dREntry false y0).bind fun p0 => (dB y1).bind fun p1 => G_filter_Check cp n p0 p1 (fun r0 => k ⟨(tL r0), []⟩)
  | _, _ => none
def ca_bbr_ctl_entries {R : Type} (cp : Nat → Nat → Bool) (n : Nat) (av : Fr) (cs : List Fr) (k : Ret2 RW → Option R) : Option R := match av, cs with
  | [y0], [w0] => (dP 36 0 y0).bind fun _ => (dT68 w0).bind fun q0 => G_bbr_ctl_entries cp n q0 (fun r0 r1 => k ⟨(tB r0), [(eT68 r1)]⟩)
  | _, _ => none
def ca_bbr_Check {R : Type} (cp : Nat → Nat → Bool) (n : Nat) (av : Fr) (cs : List Fr) (k : Ret2 RW → Option R) : Option R := match av, cs with
  | [y0], [] => (dA y0).bind fun c0_ => (dCc c0_).bind fun p0 => G_bbr_Check cp n p0 (fun r0 => k ⟨(tL r0), []⟩)
  | _, _ => none
def ca_cc_Check {R : Type} (cp : Nat → Nat → Bool) (n : Nat) (av : Fr) (cs : List Fr) (k : Ret2 RW → Option R) : Option R := match av, cs with
  | [y0], [] => (dA y0).bind fun c0_ => (dCc c0_).bind fun p0 => G_cc_Check cp n p0 (fun r0 => k ⟨(tL r0), []⟩)
  | _, _ => none
def ca_cc_asked {R : Type} (cp : Nat → Nat → Bool) (n : Nat) (av : Fr) (cs : List Fr) (k : Ret2 RW → Option R) : Option R := match av, cs with
  | [y0, y1], [] => (dA y0).bind fun c0_ => (dCc c0_).bind fun p0 => (dB y1).bind fun p1 => G_cc_asked cp n p0 p1 (fun r0 => k ⟨(tL r0), []⟩)
  | _, _ => none
def ca_cc_Rest {R : Type} (cp : Nat → Nat → Bool) (n : Nat) (av : Fr) (cs : List Fr) (k : Ret2 RW → Option R) : Option R := match av, cs with
  | [y0, y1, y2, y3], [] => (dA y0).bind fun c0_ => (dCc c0_).bind fun p0 => (dI .i64 y1).bind fun p1 => (dI .i64 y2).bind fun p2 => (dI .i64 y3).bind fun p3 => G_cc_Rest cp n p0 p1 p2 p3 (fun r0 r1 => k ⟨.tup [.agg (eCc r0), (tL r1)], []⟩)
  | _, _ => none
def ca_bbr_Gain {R : Type} (cp : Nat → Nat → Bool) (n : Nat) (av : Fr) (cs : List Fr) (k : Ret2 RW → Option R) : Option R := match av, cs with
  | [y0], [] => (dA y0).bind fun c0_ => (dCc c0_).bind fun p0 => G_bbr_Gain cp n p0 (fun r0 => k ⟨(tL r0), []⟩)
  | _, _ => none
def ca_filter_Best {R : Type} (cp : Nat → Nat → Bool) (n : Nat) (av : Fr) (cs : List Fr) (k : Ret2 RW → Option R) : Option R := match av, cs with
  | [y0], [] => (dREntry false y0).bind fun p0 => G_filter_Best cp n p0 (fun r0 r1 => k ⟨.tup [(tL r0), (tB r1)], []⟩)
  | _, _ => none
def ca_bbr_ctl_bandwidth {R : Type} (cp : Nat → Nat → Bool) (n : Nat) (av : Fr) (cs : List Fr) (k : Ret2 RW → Option R) : Option R := match av, cs with
  | [y0], [w0] => (dP 15 0 y0).bind fun _ => (dT68 w0).bind fun q0 => G_bbr_ctl_bandwidth cp n q0 (fun r0 r1 => k ⟨(tL r0), [(eT68 r1)]⟩)
  | _, _ => none
def ca_bbr_Bandwidth {R : Type} (cp : Nat → Nat → Bool) (n : Nat) (av : Fr) (cs : List Fr) (k : Ret2 RW → Option R) : Option R := match av, cs with
  | [y0], [] => (dA y0).bind fun c0_ => (dCc c0_).bind fun p0 => G_bbr_Bandwidth cp n p0 (fun r0 => k ⟨(tL r0), []⟩)
  | _, _ => none
def ca_math_bits_Mul64 {R : Type} (cp : Nat → Nat → Bool) (n : Nat) (av : Fr) (cs : List Fr) (k : Ret2 RW → Option R) : Option R := match av, cs with
  | [y0, y1], [] => (dI .u64 y0).bind fun p0 => (dI .u64 y1).bind fun p1 => G_math_bits_Mul64 cp n p0 p1 (fun r0 r1 => k ⟨.tup [(tI .u64 r0), (tI .u64 r1)], []⟩)
  | _, _ => none
def ca_math_bits_Len64 {R : Type} (cp : Nat → Nat → Bool) (n : Nat) (av : Fr) (cs : List Fr) (k : Ret2 RW → Option R) : Option R := match av, cs with
  | [y0], [] => (dI .u64 y0).bind fun p0 => G_math_bits_Len64 cp n p0 (fun r0 => k ⟨(tL r0), []⟩)
  | _, _ => none
def ca_math_bits_LeadingZeros64 {R : Type} (cp : Nat → Nat → Bool) (n : Nat) (av : Fr) (cs : List Fr) (k : Ret2 RW → Option R) : Option R := match av, cs with
  | [y0], [] => (dI .u64 y0).bind fun p0 => G_math_bits_LeadingZeros64 cp n p0 (fun r0 => k ⟨(tL r0), []⟩)
  | _, _ => none
def ca_math_bits_Div64 {R : Type} (cp : Nat → Nat → Bool) (n : Nat) (av : Fr) (cs : List Fr) (k : Ret2 RW → Option R) : Option R := match av, cs with
  | [y0, y1, y2], [] => (dI .u64 y0).bind fun p0 => (dI .u64 y1).bind fun p1 => (dI .u64 y2).bind fun p2 => G_math_bits_Div64 cp n p0 p1 p2 (fun r0 r1 => k ⟨.tup [(tI .u64 r0), (tI .u64 r1)], []⟩)
  | _, _ => none
def ca_seq_MulDiv {R : Type} (cp : Nat → Nat → Bool) (n : Nat) (av : Fr) (cs : List Fr) (k : Ret2 RW → Option R) : Option R := match av, cs with
  | [y0, y1, y2], [] => (dI .i64 y0).bind fun p0 => (dI .i64 y1).bind fun p1 => (dI .i64 y2).bind fun p2 => G_seq_MulDiv cp n p0 p1 p2 (fun r0 r1 => k ⟨.tup [(tL r0), (tL r1)], []⟩)
  | _, _ => none
def ca_cc_Pace {R : Type} (cp : Nat → Nat → Bool) (n : Nat) (av : Fr) (cs : List Fr) (k : Ret2 RW → Option R) : Option R := match av, cs with
  | [y0, y1, y2], [] => (dA y0).bind fun c0_ => (dCc c0_).bind fun p0 => (dI .i64 y1).bind fun p1 => (dI .i64 y2).bind fun p2 => G_cc_Pace cp n p0 p1 p2 (fun r0 => k ⟨(tL r0), []⟩)
  | _, _ => none
def ca_law19_heads {R : Type} (cp : Nat → Nat → Bool) (n : Nat) (av : Fr) (cs : List Fr) (k : Ret2 RW → Option R) : Option R := match av, cs with
  | [], [] => G_law19_heads cp n (fun r0 => k ⟨(tB r0), []⟩)
  | _, _ => none
def ca_law19_CcBegins {R : Type} (cp : Nat → Nat → Bool) (n : Nat) (av : Fr) (cs : List Fr) (k : Ret2 RW → Option R) : Option R := match av, cs with
  | [y0, y1, y2], [] => (dI .i64 y0).bind fun p0 => (dI .i64 y1).bind fun p1 => (dI .i64 y2).bind fun p2 => G_law19_CcBegins cp n p0 p1 p2 (fun r0 => k ⟨(tB r0), []⟩)
  | _, _ => none
def callP {R : Type} (cp : Nat → Nat → Bool) (n : Nat) (id : Nat) (av : Fr) (cs : List Fr) (k : Ret2 RW → Option R) : Option R := match id with
  | 22 => ca_reno_New cp n av cs k
  | 23 => ca_cubic_New cp n av cs k
  | 24 => ca_bbr_New cp n av cs k
  | 7 => ca_cc_New cp n av cs k
  | 25 => ca_ref15_New cp n av cs k
  | 26 => ca_ref16_New cp n av cs k
  | 27 => ca_ref18_New cp n av cs k
  | 8 => ca_ref19_New cp n av cs k
  | 9 => ca_ref15_Same cp n av cs k
  | 32 => ca_cc_time cp n av cs k
  | 33 => ca_cc_size cp n av cs k
  | 51 => ca_reno_size cp n av cs k
  | 1013 => ca_reno_ctl_plain cp n av cs k
  | 28 => ca_reno_Check cp n av cs k
  | 53 => ca_cubic_size cp n av cs k
  | 29 => ca_cubic_Check cp n av cs k
  | 54 => ca_bbr_within cp n av cs k
  | 92 => ca_filter_may cp n av cs k
  | 93 => ca_filter_beats cp n av cs k
  | 76 => ca_filter_Check cp n av cs k
  | 1018 => ca_bbr_ctl_entries cp n av cs k
  | 30 => ca_bbr_Check cp n av cs k
  | 10 => ca_cc_Check cp n av cs k
  | 31 => ca_cc_asked cp n av cs k
  | 12 => ca_cc_Rest cp n av cs k
  | 37 => ca_bbr_Gain cp n av cs k
  | 81 => ca_filter_Best cp n av cs k
  | 1030 => ca_bbr_ctl_bandwidth cp n av cs k
  | 38 => ca_bbr_Bandwidth cp n av cs k
  | 60 => ca_math_bits_Mul64 cp n av cs k
  | 96 => ca_math_bits_Len64 cp n av cs k
  | 82 => ca_math_bits_LeadingZeros64 cp n av cs k
  | 61 => ca_math_bits_Div64 cp n av cs k
  | 39 => ca_seq_MulDiv cp n av cs k
  | 16 => ca_cc_Pace cp n av cs k
  | 11 => ca_law19_heads cp n av cs k
  | 3 => ca_law19_CcBegins cp n av cs k
  | _ => none
end
end Go.Proofs.Ytgnoidblkenglaa.M
