/- The values of the program's functions, and the functions, plain. -/
import Derived.Test.YtliknmgcnipbkaaMachX
set_option maxRecDepth 100000
set_option linter.unusedVariables false
namespace Go.Proofs.Ytliknmgcnipbkaa.M
open Go
noncomputable section
def str_ : ByteArray := ⟨#[]⟩
def tab256_2793 : ByteArray := ⟨#[0, 1, 2, 2, 3, 3, 3, 3, 4, 4, 4, 4, 4, 4, 4, 4, 5, 5, 5, 5, 5, 5, 5, 5, 5, 5, 5, 5, 5, 5, 5, 5, 6, 6, 6, 6, 6, 6, 6, 6, 6, 6, 6, 6, 6, 6, 6, 6, 6, 6, 6, 6, 6, 6, 6, 6, 6, 6, 6, 6, 6, 6, 6, 6, 7, 7, 7, 7, 7, 7, 7, 7, 7, 7, 7, 7, 7, 7, 7, 7, 7, 7, 7, 7, 7, 7, 7, 7, 7, 7, 7, 7, 7, 7, 7, 7, 7, 7, 7, 7, 7, 7, 7, 7, 7, 7, 7, 7, 7, 7, 7, 7, 7, 7, 7, 7, 7, 7, 7, 7, 7, 7, 7, 7, 7, 7, 7, 7, 8, 8, 8, 8, 8, 8, 8, 8, 8, 8, 8, 8, 8, 8, 8, 8, 8, 8, 8, 8, 8, 8, 8, 8, 8, 8, 8, 8, 8, 8, 8, 8, 8, 8, 8, 8, 8, 8, 8, 8, 8, 8, 8, 8, 8, 8, 8, 8, 8, 8, 8, 8, 8, 8, 8, 8, 8, 8, 8, 8, 8, 8, 8, 8, 8, 8, 8, 8, 8, 8, 8, 8, 8, 8, 8, 8, 8, 8, 8, 8, 8, 8, 8, 8, 8, 8, 8, 8, 8, 8, 8, 8, 8, 8, 8, 8, 8, 8, 8, 8, 8, 8, 8, 8, 8, 8, 8, 8, 8, 8, 8, 8, 8, 8, 8, 8, 8, 8, 8, 8, 8, 8, 8, 8, 8, 8, 8, 8]⟩
structure SEntry where
  xAt : Int
  xV : Int
def zEntry : SEntry := ⟨0, 0⟩
structure SCc where
  xKind : Int
  xMss : Int
  xCwnd : Int
  xSsthresh : Int
  xAcc : Int
  xWmax : Int
  xEpoch : Int
  xK : Int
  xWest : Int
  xStart : Int
  xMode : Int
  xBw : (List SEntry)
  xMinRtt : Int
  xMinAt : Int
  xRound : Int
  xNextAt : Int
  xFull : Int
  xFullN : Int
  xPhase : Int
  xPhaseAt : Int
  xDoneAt : Int
  xPrior : Int
def zCc : SCc := ⟨0, 0, 0, 0, 0, 0, 0, 0, 0, 0, 0, [], 0, 0, 0, 0, 0, 0, 0, 0, 0, 0⟩
structure ST68 where
  xCc_Kind : Int
  xCc_Mss : Int
  xCc_Cwnd : Int
  xCc_Ssthresh : Int
  xCc_Acc : Int
  xCc_Wmax : Int
  xCc_Epoch : Int
  xCc_K : Int
  xCc_West : Int
  xCc_Start : Int
  xCc_Mode : Int
  xCc_Bw : (List SEntry)
  xCc_MinRtt : Int
  xCc_MinAt : Int
  xCc_Round : Int
  xCc_NextAt : Int
  xCc_Full : Int
  xCc_FullN : Int
  xCc_Phase : Int
  xCc_PhaseAt : Int
  xCc_DoneAt : Int
  xCc_Prior : Int
def zT68 : ST68 := ⟨0, 0, 0, 0, 0, 0, 0, 0, 0, 0, 0, [], 0, 0, 0, 0, 0, 0, 0, 0, 0, 0⟩
def zint : Int := 0
structure Sctl where
  xCc_Kind : Int
  xCc_Mss : Int
  xCc_Cwnd : Int
  xCc_Ssthresh : Int
  xCc_Acc : Int
  xCc_Wmax : Int
  xCc_Epoch : Int
  xCc_K : Int
  xCc_West : Int
  xCc_Start : Int
  xCc_Mode : Int
  xCc_Bw : (List SEntry)
  xCc_MinRtt : Int
  xCc_MinAt : Int
  xCc_Round : Int
  xCc_NextAt : Int
  xCc_Full : Int
  xCc_FullN : Int
  xCc_Phase : Int
  xCc_PhaseAt : Int
  xCc_DoneAt : Int
  xCc_Prior : Int
def zctl : Sctl := ⟨0, 0, 0, 0, 0, 0, 0, 0, 0, 0, 0, [], 0, 0, 0, 0, 0, 0, 0, 0, 0, 0⟩
inductive RW where
  | rEntry (xs : List SEntry)
  | rint (xs : List Int)

abbrev Fr := List (TV RW)
abbrev FF := FT RW
def tI (k : IntKind) (n : Int) : TV RW := .sc (.int k n)
def tL (n : Int) : TV RW := .sc (.int .i64 n)
def tB (b : Bool) : TV RW := .sc (.bool b)
def dT : Nat → Fr → Fr
  | 0, l => l
  | n + 1, l => .dead :: dT n l
def dc : Fr := dT 16 []
def eCc (x : SCc) : List (TV RW) := [(tL x.xKind), (tL x.xMss), (tL x.xCwnd), (tL x.xSsthresh), (tL x.xAcc), (tL x.xWmax), (tL x.xEpoch), (tL x.xK), (tL x.xWest), (tL x.xStart), (tL x.xMode), .row false (.rEntry x.xBw), (tL x.xMinRtt), (tL x.xMinAt), (tL x.xRound), (tL x.xNextAt), (tL x.xFull), (tL x.xFullN), (tL x.xPhase), (tL x.xPhaseAt), (tL x.xDoneAt), (tL x.xPrior)]
def eCct (x : SCc) : List (TV RW) := [(tL x.xKind), (tL x.xMss), (tL x.xCwnd), (tL x.xSsthresh), (tL x.xAcc), (tL x.xWmax), (tL x.xEpoch), (tL x.xK), (tL x.xWest), (tL x.xStart), (tL x.xMode), .row true (.rEntry x.xBw), (tL x.xMinRtt), (tL x.xMinAt), (tL x.xRound), (tL x.xNextAt), (tL x.xFull), (tL x.xFullN), (tL x.xPhase), (tL x.xPhaseAt), (tL x.xDoneAt), (tL x.xPrior)]
def eEntry (x : SEntry) : List (TV RW) := [(tL x.xAt), (tL x.xV)]
def eT68 (x : ST68) : List (TV RW) := [(tL x.xCc_Kind), (tL x.xCc_Mss), (tL x.xCc_Cwnd), (tL x.xCc_Ssthresh), (tL x.xCc_Acc), (tL x.xCc_Wmax), (tL x.xCc_Epoch), (tL x.xCc_K), (tL x.xCc_West), (tL x.xCc_Start), (tL x.xCc_Mode), .row false (.rEntry x.xCc_Bw), (tL x.xCc_MinRtt), (tL x.xCc_MinAt), (tL x.xCc_Round), (tL x.xCc_NextAt), (tL x.xCc_Full), (tL x.xCc_FullN), (tL x.xCc_Phase), (tL x.xCc_PhaseAt), (tL x.xCc_DoneAt), (tL x.xCc_Prior)]
def eT68t (x : ST68) : List (TV RW) := [(tL x.xCc_Kind), (tL x.xCc_Mss), (tL x.xCc_Cwnd), (tL x.xCc_Ssthresh), (tL x.xCc_Acc), (tL x.xCc_Wmax), (tL x.xCc_Epoch), (tL x.xCc_K), (tL x.xCc_West), (tL x.xCc_Start), (tL x.xCc_Mode), .row true (.rEntry x.xCc_Bw), (tL x.xCc_MinRtt), (tL x.xCc_MinAt), (tL x.xCc_Round), (tL x.xCc_NextAt), (tL x.xCc_Full), (tL x.xCc_FullN), (tL x.xCc_Phase), (tL x.xCc_PhaseAt), (tL x.xCc_DoneAt), (tL x.xCc_Prior)]
def ectl (x : Sctl) : List (TV RW) := [(tL x.xCc_Kind), (tL x.xCc_Mss), (tL x.xCc_Cwnd), (tL x.xCc_Ssthresh), (tL x.xCc_Acc), (tL x.xCc_Wmax), (tL x.xCc_Epoch), (tL x.xCc_K), (tL x.xCc_West), (tL x.xCc_Start), (tL x.xCc_Mode), .row false (.rEntry x.xCc_Bw), (tL x.xCc_MinRtt), (tL x.xCc_MinAt), (tL x.xCc_Round), (tL x.xCc_NextAt), (tL x.xCc_Full), (tL x.xCc_FullN), (tL x.xCc_Phase), (tL x.xCc_PhaseAt), (tL x.xCc_DoneAt), (tL x.xCc_Prior)]
def ectlt (x : Sctl) : List (TV RW) := [(tL x.xCc_Kind), (tL x.xCc_Mss), (tL x.xCc_Cwnd), (tL x.xCc_Ssthresh), (tL x.xCc_Acc), (tL x.xCc_Wmax), (tL x.xCc_Epoch), (tL x.xCc_K), (tL x.xCc_West), (tL x.xCc_Start), (tL x.xCc_Mode), .row true (.rEntry x.xCc_Bw), (tL x.xCc_MinRtt), (tL x.xCc_MinAt), (tL x.xCc_Round), (tL x.xCc_NextAt), (tL x.xCc_Full), (tL x.xCc_FullN), (tL x.xCc_Phase), (tL x.xCc_PhaseAt), (tL x.xCc_DoneAt), (tL x.xCc_Prior)]
def eint (x : Int) : List (TV RW) := [(tL x)]
def cEntry (x : SEntry) : List AV := [.sc (.int .i64 x.xAt), .sc (.int .i64 x.xV)]
def cint (x : Int) : List AV := [.sc (.int .i64 x)]
def dOne : Fr → Option (TV RW)
  | [x] => some x
  | _ => none
def dI (kd : IntKind) : TV RW → Option Int
  | .sc (.int k a) => cond (decide (k = kd)) (some a) none
  | _ => none
def dB : TV RW → Option Bool
  | .sc (.bool b) => some b
  | _ => none
def dS : TV RW → Option ByteArray
  | .sc (.string b) => some b
  | _ => none
def dA : TV RW → Option Fr
  | .agg cs => some cs
  | _ => none
def dP (h j : Nat) : TV RW → Option Unit
  | .ptr a b => cond (Nat.beq a h && Nat.beq b j) (some ()) none
  | _ => none
def dC (f : Nat) (cs : List (Nat × Nat)) : TV RW → Option Unit
  | .clo a b => cond (Nat.beq a f && decide (b = cs)) (some ()) none
  | _ => none
def dREntry (fl : Bool) : TV RW → Option (List SEntry)
  | .row a (.rEntry xs) => cond (a == fl) (some xs) none
  | _ => none
def dRint (fl : Bool) : TV RW → Option (List Int)
  | .row a (.rint xs) => cond (a == fl) (some xs) none
  | _ => none
def dCc : Fr → Option SCc
  | [y0, y1, y2, y3, y4, y5, y6, y7, y8, y9, y10, y11, y12, y13, y14, y15, y16, y17, y18, y19, y20, y21] => (dI .i64 y0).bind fun a0 => (dI .i64 y1).bind fun a1 => (dI .i64 y2).bind fun a2 => (dI .i64 y3).bind fun a3 => (dI .i64 y4).bind fun a4 => (dI .i64 y5).bind fun a5 => (dI .i64 y6).bind fun a6 => (dI .i64 y7).bind fun a7 => (dI .i64 y8).bind fun a8 => (dI .i64 y9).bind fun a9 => (dI .i64 y10).bind fun a10 => (dREntry false y11).bind fun a11 => (dI .i64 y12).bind fun a12 => (dI .i64 y13).bind fun a13 => (dI .i64 y14).bind fun a14 => (dI .i64 y15).bind fun a15 => (dI .i64 y16).bind fun a16 => (dI .i64 y17).bind fun a17 => (dI .i64 y18).bind fun a18 => (dI .i64 y19).bind fun a19 => (dI .i64 y20).bind fun a20 => (dI .i64 y21).bind fun a21 => some ⟨a0, a1, a2, a3, a4, a5, a6, a7, a8, a9, a10, a11, a12, a13, a14, a15, a16, a17, a18, a19, a20, a21⟩
  | _ => none
def dCct : Fr → Option SCc
  | [y0, y1, y2, y3, y4, y5, y6, y7, y8, y9, y10, y11, y12, y13, y14, y15, y16, y17, y18, y19, y20, y21] => (dI .i64 y0).bind fun a0 => (dI .i64 y1).bind fun a1 => (dI .i64 y2).bind fun a2 => (dI .i64 y3).bind fun a3 => (dI .i64 y4).bind fun a4 => (dI .i64 y5).bind fun a5 => (dI .i64 y6).bind fun a6 => (dI .i64 y7).bind fun a7 => (dI .i64 y8).bind fun a8 => (dI .i64 y9).bind fun a9 => (dI .i64 y10).bind fun a10 => (dREntry true y11).bind fun a11 => (dI .i64 y12).bind fun a12 => (dI .i64 y13).bind fun a13 => (dI .i64 y14).bind fun a14 => (dI .i64 y15).bind fun a15 => (dI .i64 y16).bind fun a16 => (dI .i64 y17).bind fun a17 => (dI .i64 y18).bind fun a18 => (dI .i64 y19).bind fun a19 => (dI .i64 y20).bind fun a20 => (dI .i64 y21).bind fun a21 => some ⟨a0, a1, a2, a3, a4, a5, a6, a7, a8, a9, a10, a11, a12, a13, a14, a15, a16, a17, a18, a19, a20, a21⟩
  | _ => none
def dEntry : Fr → Option SEntry
  | [y0, y1] => (dI .i64 y0).bind fun a0 => (dI .i64 y1).bind fun a1 => some ⟨a0, a1⟩
  | _ => none
def dT68 : Fr → Option ST68
  | [y0, y1, y2, y3, y4, y5, y6, y7, y8, y9, y10, y11, y12, y13, y14, y15, y16, y17, y18, y19, y20, y21] => (dI .i64 y0).bind fun a0 => (dI .i64 y1).bind fun a1 => (dI .i64 y2).bind fun a2 => (dI .i64 y3).bind fun a3 => (dI .i64 y4).bind fun a4 => (dI .i64 y5).bind fun a5 => (dI .i64 y6).bind fun a6 => (dI .i64 y7).bind fun a7 => (dI .i64 y8).bind fun a8 => (dI .i64 y9).bind fun a9 => (dI .i64 y10).bind fun a10 => (dREntry false y11).bind fun a11 => (dI .i64 y12).bind fun a12 => (dI .i64 y13).bind fun a13 => (dI .i64 y14).bind fun a14 => (dI .i64 y15).bind fun a15 => (dI .i64 y16).bind fun a16 => (dI .i64 y17).bind fun a17 => (dI .i64 y18).bind fun a18 => (dI .i64 y19).bind fun a19 => (dI .i64 y20).bind fun a20 => (dI .i64 y21).bind fun a21 => some ⟨a0, a1, a2, a3, a4, a5, a6, a7, a8, a9, a10, a11, a12, a13, a14, a15, a16, a17, a18, a19, a20, a21⟩
  | _ => none
def dT68t : Fr → Option ST68
  | [y0, y1, y2, y3, y4, y5, y6, y7, y8, y9, y10, y11, y12, y13, y14, y15, y16, y17, y18, y19, y20, y21] => (dI .i64 y0).bind fun a0 => (dI .i64 y1).bind fun a1 => (dI .i64 y2).bind fun a2 => (dI .i64 y3).bind fun a3 => (dI .i64 y4).bind fun a4 => (dI .i64 y5).bind fun a5 => (dI .i64 y6).bind fun a6 => (dI .i64 y7).bind fun a7 => (dI .i64 y8).bind fun a8 => (dI .i64 y9).bind fun a9 => (dI .i64 y10).bind fun a10 => (dREntry true y11).bind fun a11 => (dI .i64 y12).bind fun a12 => (dI .i64 y13).bind fun a13 => (dI .i64 y14).bind fun a14 => (dI .i64 y15).bind fun a15 => (dI .i64 y16).bind fun a16 => (dI .i64 y17).bind fun a17 => (dI .i64 y18).bind fun a18 => (dI .i64 y19).bind fun a19 => (dI .i64 y20).bind fun a20 => (dI .i64 y21).bind fun a21 => some ⟨a0, a1, a2, a3, a4, a5, a6, a7, a8, a9, a10, a11, a12, a13, a14, a15, a16, a17, a18, a19, a20, a21⟩
  | _ => none
def dctl : Fr → Option Sctl
  | [y0, y1, y2, y3, y4, y5, y6, y7, y8, y9, y10, y11, y12, y13, y14, y15, y16, y17, y18, y19, y20, y21] => (dI .i64 y0).bind fun a0 => (dI .i64 y1).bind fun a1 => (dI .i64 y2).bind fun a2 => (dI .i64 y3).bind fun a3 => (dI .i64 y4).bind fun a4 => (dI .i64 y5).bind fun a5 => (dI .i64 y6).bind fun a6 => (dI .i64 y7).bind fun a7 => (dI .i64 y8).bind fun a8 => (dI .i64 y9).bind fun a9 => (dI .i64 y10).bind fun a10 => (dREntry false y11).bind fun a11 => (dI .i64 y12).bind fun a12 => (dI .i64 y13).bind fun a13 => (dI .i64 y14).bind fun a14 => (dI .i64 y15).bind fun a15 => (dI .i64 y16).bind fun a16 => (dI .i64 y17).bind fun a17 => (dI .i64 y18).bind fun a18 => (dI .i64 y19).bind fun a19 => (dI .i64 y20).bind fun a20 => (dI .i64 y21).bind fun a21 => some ⟨a0, a1, a2, a3, a4, a5, a6, a7, a8, a9, a10, a11, a12, a13, a14, a15, a16, a17, a18, a19, a20, a21⟩
  | _ => none
def dctlt : Fr → Option Sctl
  | [y0, y1, y2, y3, y4, y5, y6, y7, y8, y9, y10, y11, y12, y13, y14, y15, y16, y17, y18, y19, y20, y21] => (dI .i64 y0).bind fun a0 => (dI .i64 y1).bind fun a1 => (dI .i64 y2).bind fun a2 => (dI .i64 y3).bind fun a3 => (dI .i64 y4).bind fun a4 => (dI .i64 y5).bind fun a5 => (dI .i64 y6).bind fun a6 => (dI .i64 y7).bind fun a7 => (dI .i64 y8).bind fun a8 => (dI .i64 y9).bind fun a9 => (dI .i64 y10).bind fun a10 => (dREntry true y11).bind fun a11 => (dI .i64 y12).bind fun a12 => (dI .i64 y13).bind fun a13 => (dI .i64 y14).bind fun a14 => (dI .i64 y15).bind fun a15 => (dI .i64 y16).bind fun a16 => (dI .i64 y17).bind fun a17 => (dI .i64 y18).bind fun a18 => (dI .i64 y19).bind fun a19 => (dI .i64 y20).bind fun a20 => (dI .i64 y21).bind fun a21 => some ⟨a0, a1, a2, a3, a4, a5, a6, a7, a8, a9, a10, a11, a12, a13, a14, a15, a16, a17, a18, a19, a20, a21⟩
  | _ => none
def pEntry_ : Fr → Option (List SEntry)
  | [] => some []
  | y0 :: y1 :: r => (dI .i64 y0).bind fun a0 => (dI .i64 y1).bind fun a1 => (pEntry_ r).bind fun xs => some (⟨a0, a1⟩ :: xs)
  | _ => none

def pint_ : Fr → Option (List Int)
  | [] => some []
  | y0 :: r => (dI .i64 y0).bind fun a0 => (pint_ r).bind fun xs => some (a0 :: xs)

def U : Uni RW where
  sz := fun r => match r with
    | .rEntry xs => 2
    | .rint xs => 1
  len := fun r => match r with
    | .rEntry xs => xs.length
    | .rint xs => xs.length
  getA := fun r => match r with
    | .rEntry xs => rg cEntry zEntry xs
    | .rint xs => rg cint zint xs
  get := fun r i => match r with
    | .rEntry xs => eEntry (xs.getD i zEntry)
    | .rint xs => eint (xs.getD i zint)
  app := fun r q => match r with
    | .rEntry xs => (match q with
      | .rEntry ys => some (.rEntry (xs ++ ys))
      | _ => none)
    | .rint xs => (match q with
      | .rint ys => some (.rint (xs ++ ys))
      | _ => none)
  sub := fun lo n r => match r with
    | .rEntry xs => .rEntry (List.take n (xs.drop lo))
    | .rint xs => .rint (List.take n (xs.drop lo))
  szt := fun t => match t with
    | 58 => 2
    | 3 => 1
    | _ => 0
  zt := fun t => match t with
    | 58 => eEntry zEntry
    | 3 => eint zint
    | _ => []
  lit := fun t n L => match t with
    | 58 => (pEntry_ L).bind fun xs => cond (Nat.beq xs.length n) (some (.rEntry xs)) none
    | 3 => (pint_ L).bind fun xs => cond (Nat.beq xs.length n) (some (.rint xs)) none
    | _ => none
/-! tideway/reno.size -/
def G_reno_size {R : Type} (cp : Nat → Nat → Bool) : Nat → Int → (Bool → Option R) → Option R
  | 0, _, _ => none
  | n + 1, p0, k =>
    cond (decide (0 ≤ p0)) (k (decide (p0 ≤ 1073741824))) (k false)
/-! (*tideway/reno.ctl).plain -/
def s_reno_ctl_plain_1 {R : Type} (cp : Nat → Nat → Bool) (n : Nat) (q0 : ST68) (kn : Option R) : Option R :=
  kn
def s_reno_ctl_plain_3 {R : Type} (cp : Nat → Nat → Bool) (n : Nat) (q0 : ST68) (kn : Bool → Option R) : Option R :=
  cond (decide (q0.xCc_Wmax = 0)) (cond (decide (q0.xCc_Epoch = 0)) (cond (decide (q0.xCc_K = 0)) (cond (decide (q0.xCc_West = 0)) (cond (decide (q0.xCc_Start = 0)) (cond (decide (q0.xCc_Mode = 0)) (cond (decide ((q0.xCc_Bw.length : Int) = 0)) (cond (decide (q0.xCc_MinRtt = 0)) (cond (decide (q0.xCc_MinAt = 0)) (cond (decide (q0.xCc_Round = 0)) (cond (decide (q0.xCc_NextAt = 0)) (cond (decide (q0.xCc_Full = 0)) (cond (decide (q0.xCc_FullN = 0)) (cond (decide (q0.xCc_Phase = 0)) (cond (decide (q0.xCc_PhaseAt = 0)) (cond (decide (q0.xCc_DoneAt = 0)) (kn (decide (q0.xCc_Prior = 0))) (kn false)) (kn false)) (kn false)) (kn false)) (kn false)) (kn false)) (kn false)) (kn false)) (kn false)) (kn false)) (kn false)) (kn false)) (kn false)) (kn false)) (kn false)) (kn false)
def s_reno_ctl_plain_5 {R : Type} (cp : Nat → Nat → Bool) (n : Nat) (q0 : ST68) (v4 : Bool) (kr : Option R) : Option R :=
  kr
def s_reno_ctl_plain_7 {R : Type} (cp : Nat → Nat → Bool) (n : Nat) (q0 : ST68) (kr : Bool → Option R) : Option R :=
  s_reno_ctl_plain_3 cp n q0 (fun v4 => s_reno_ctl_plain_5 cp n q0 v4 (kr v4))
def s_reno_ctl_plain_9 {R : Type} (cp : Nat → Nat → Bool) (n : Nat) (q0 : ST68) (kr : Bool → Option R) : Option R :=
  s_reno_ctl_plain_1 cp n q0 (s_reno_ctl_plain_7 cp n q0 (fun v5 => (kr v5)))
def G_reno_ctl_plain {R : Type} (cp : Nat → Nat → Bool) : Nat → ST68 → (Bool → ST68 → Option R) → Option R
  | 0, _, _ => none
  | n + 1, q0, k =>
    s_reno_ctl_plain_9 cp n q0 (fun v6 => k v6 q0)
/-! tideway/reno.Check -/
def G_reno_Check {R : Type} (cp : Nat → Nat → Bool) : Nat → SCc → (Int → Option R) → Option R
  | 0, _, _ => none
  | n + 1, p0, k =>
    cond (!decide (p0.xKind = 1)) (k 230) (cond (decide (p0.xMss < 1)) (k 230) (cond (decide (65000 < p0.xMss)) (k 230) (cond (decide (p0.xCwnd < p0.xMss)) (k 230) (G_reno_size cp n p0.xCwnd (fun r1 => cond (!r1) (k 230) (cond (decide (p0.xSsthresh < (wr .i64 (2 * p0.xMss)))) (k 230) (G_reno_size cp n p0.xSsthresh (fun r2 => cond (!r2) (k 230) (G_reno_size cp n p0.xAcc (fun r3 => cond (!r3) (k 230) (G_reno_ctl_plain cp n (ST68.mk p0.xKind p0.xMss p0.xCwnd p0.xSsthresh p0.xAcc p0.xWmax p0.xEpoch p0.xK p0.xWest p0.xStart p0.xMode p0.xBw p0.xMinRtt p0.xMinAt p0.xRound p0.xNextAt p0.xFull p0.xFullN p0.xPhase p0.xPhaseAt p0.xDoneAt p0.xPrior) (fun r7 r8 => cond (!r7) (k 230) (k 0)))))))))))))
/-! tideway/cubic.size -/
def s_cubic_size_1 {R : Type} (cp : Nat → Nat → Bool) (n : Nat) (p0 : (List Int)) (kn : Option R) : Option R :=
  kn
def s_cubic_size_3 {R : Type} (cp : Nat → Nat → Bool) (n : Nat) (p0 : (List Int)) (kn : Int → Option R) : Option R :=
  kn (p0.length : Int)
def s_cubic_size_5 {R : Type} (cp : Nat → Nat → Bool) (n : Nat) (p0 : (List Int)) (v10 v11 : Int) (kn : Int → Option R) (kr : Option R) (ke0 : Option R) : Option R :=
  cond (decide (v11 < v10)) (cond (decide (0 ≤ v11)) (cond (decide (v11 < (p0.length : Int))) (cond (decide ((p0.getD (Int.toNat v11) zint) < 0)) (kr) (cond (decide (1073741824 < (p0.getD (Int.toNat v11) zint))) (kr) (kn (wr .i64 (v11 + 1))))) (none)) (none)) (ke0)
def l_cubic_size_10 {R : Type} (cp : Nat → Nat → Bool) (n : Nat) : Nat → (List Int) → Int → Int → (Option R) → (Option R) → Option R
  | 0, _, _, _, _, _ => none
  | m + 1, p0, v10, v11, kr, ke0 =>
    s_cubic_size_5 cp n p0 v10 v11 (fun v12 => l_cubic_size_10 cp n m p0 v10 v12 kr ke0) kr ke0
def s_cubic_size_11 {R : Type} (cp : Nat → Nat → Bool) (n : Nat) (p0 : (List Int)) (v10 : Int) (kr : Option R) (ke0 : Option R) : Option R :=
  l_cubic_size_10 cp n n p0 v10 0 kr ke0
def s_cubic_size_12 {R : Type} (cp : Nat → Nat → Bool) (n : Nat) (p0 : (List Int)) (v10 : Int) (kn : Option R) (kr : Option R) : Option R :=
  s_cubic_size_11 cp n p0 v10 kr kn
def s_cubic_size_13 {R : Type} (cp : Nat → Nat → Bool) (n : Nat) (p0 : (List Int)) (kn : Option R) (kr : Option R) : Option R :=
  s_cubic_size_3 cp n p0 (fun v10 => s_cubic_size_12 cp n p0 v10 kn kr)
def s_cubic_size_14 {R : Type} (cp : Nat → Nat → Bool) (n : Nat) (kr : Option R) : Option R :=
  kr
def s_cubic_size_17 {R : Type} (cp : Nat → Nat → Bool) (n : Nat) (p0 : (List Int)) (kr : Bool → Option R) : Option R :=
  s_cubic_size_13 cp n p0 (s_cubic_size_14 cp n (kr true)) (kr false)
def s_cubic_size_19 {R : Type} (cp : Nat → Nat → Bool) (n : Nat) (p0 : (List Int)) (kr : Bool → Option R) : Option R :=
  s_cubic_size_1 cp n p0 (s_cubic_size_17 cp n p0 (fun v13 => (kr v13)))
def G_cubic_size {R : Type} (cp : Nat → Nat → Bool) : Nat → (List Int) → (Bool → Option R) → Option R
  | 0, _, _ => none
  | n + 1, p0, k =>
    s_cubic_size_19 cp n p0 (fun v14 => k v14)
/-! tideway/cubic.Check -/
def G_cubic_Check {R : Type} (cp : Nat → Nat → Bool) : Nat → SCc → (Int → Option R) → Option R
  | 0, _, _ => none
  | n + 1, p0, k =>
    cond (!decide (p0.xKind = 2)) (k 230) (G_reno_Check cp n (SCc.mk 1 p0.xMss p0.xCwnd p0.xSsthresh p0.xAcc 0 0 0 0 0 p0.xMode p0.xBw p0.xMinRtt p0.xMinAt p0.xRound p0.xNextAt p0.xFull p0.xFullN p0.xPhase p0.xPhaseAt p0.xDoneAt p0.xPrior) (fun r9 => cond (!decide (r9 = 0)) (k 230) (G_cubic_size cp n [p0.xWmax, p0.xWest, p0.xStart] (fun r15 => cond (!r15) (k 230) (cond (decide (p0.xK < 0)) (k 230) (cond (decide (2097151 < p0.xK)) (k 230) (cond (decide (p0.xEpoch < (-1))) (k 230) (cond (decide (1125899906842624 < p0.xEpoch)) (k 230) (k 0)))))))))
/-! math/bits.Mul64 -/
def G_math_bits_Mul64 {R : Type} (cp : Nat → Nat → Bool) : Nat → Int → Int → (Int → Int → Option R) → Option R
  | 0, _, _, _ => none
  | n + 1, p0, p1, k =>
    k (wr .u64 ((wr .u64 ((wr .u64 ((shr .u64 p0 32) * (shr .u64 p1 32))) + (shr .u64 (wr .u64 ((wr .u64 ((shr .u64 p0 32) * (bits .and .u64 p1 4294967295))) + (shr .u64 (wr .u64 ((bits .and .u64 p0 4294967295) * (bits .and .u64 p1 4294967295))) 32))) 32))) + (shr .u64 (wr .u64 ((bits .and .u64 (wr .u64 ((wr .u64 ((shr .u64 p0 32) * (bits .and .u64 p1 4294967295))) + (shr .u64 (wr .u64 ((bits .and .u64 p0 4294967295) * (bits .and .u64 p1 4294967295))) 32))) 4294967295) + (wr .u64 ((bits .and .u64 p0 4294967295) * (shr .u64 p1 32))))) 32))) (wr .u64 (p0 * p1))
/-! math/bits.Len64 -/
def G_math_bits_Len64 {R : Type} (cp : Nat → Nat → Bool) : Nat → Int → (Int → Option R) → Option R
  | 0, _, _ => none
  | n + 1, p0, k =>
    cond (decide (4294967296 ≤ p0)) (cond (decide (65536 ≤ (shr .u64 p0 32))) (cond (decide (256 ≤ (shr .u64 (shr .u64 p0 32) 16))) (cond (decide (0 ≤ wr .u8 (shr .u64 (shr .u64 (shr .u64 p0 32) 16) 8))) (cond (decide (wr .u8 (shr .u64 (shr .u64 (shr .u64 p0 32) 16) 8) < (ByteArray.size tab256_2793 : Int))) (k (wr .i64 ((wr .i64 ((wr .i64 (32 + 16)) + 8)) + (wr .i64 ((tab256_2793.data.getD (Int.toNat (wr .u8 (shr .u64 (shr .u64 (shr .u64 p0 32) 16) 8))) 0).toNat : Int))))) (none)) (none)) (cond (decide (0 ≤ wr .u8 (shr .u64 (shr .u64 p0 32) 16))) (cond (decide (wr .u8 (shr .u64 (shr .u64 p0 32) 16) < (ByteArray.size tab256_2793 : Int))) (k (wr .i64 ((wr .i64 (32 + 16)) + (wr .i64 ((tab256_2793.data.getD (Int.toNat (wr .u8 (shr .u64 (shr .u64 p0 32) 16))) 0).toNat : Int))))) (none)) (none))) (cond (decide (256 ≤ (shr .u64 p0 32))) (cond (decide (0 ≤ wr .u8 (shr .u64 (shr .u64 p0 32) 8))) (cond (decide (wr .u8 (shr .u64 (shr .u64 p0 32) 8) < (ByteArray.size tab256_2793 : Int))) (k (wr .i64 ((wr .i64 (32 + 8)) + (wr .i64 ((tab256_2793.data.getD (Int.toNat (wr .u8 (shr .u64 (shr .u64 p0 32) 8))) 0).toNat : Int))))) (none)) (none)) (cond (decide (0 ≤ wr .u8 (shr .u64 p0 32))) (cond (decide (wr .u8 (shr .u64 p0 32) < (ByteArray.size tab256_2793 : Int))) (k (wr .i64 (32 + (wr .i64 ((tab256_2793.data.getD (Int.toNat (wr .u8 (shr .u64 p0 32))) 0).toNat : Int))))) (none)) (none)))) (cond (decide (65536 ≤ p0)) (cond (decide (256 ≤ (shr .u64 p0 16))) (cond (decide (0 ≤ wr .u8 (shr .u64 (shr .u64 p0 16) 8))) (cond (decide (wr .u8 (shr .u64 (shr .u64 p0 16) 8) < (ByteArray.size tab256_2793 : Int))) (k (wr .i64 ((wr .i64 ((wr .i64 (0 + 16)) + 8)) + (wr .i64 ((tab256_2793.data.getD (Int.toNat (wr .u8 (shr .u64 (shr .u64 p0 16) 8))) 0).toNat : Int))))) (none)) (none)) (cond (decide (0 ≤ wr .u8 (shr .u64 p0 16))) (cond (decide (wr .u8 (shr .u64 p0 16) < (ByteArray.size tab256_2793 : Int))) (k (wr .i64 ((wr .i64 (0 + 16)) + (wr .i64 ((tab256_2793.data.getD (Int.toNat (wr .u8 (shr .u64 p0 16))) 0).toNat : Int))))) (none)) (none))) (cond (decide (256 ≤ p0)) (cond (decide (0 ≤ wr .u8 (shr .u64 p0 8))) (cond (decide (wr .u8 (shr .u64 p0 8) < (ByteArray.size tab256_2793 : Int))) (k (wr .i64 ((wr .i64 (0 + 8)) + (wr .i64 ((tab256_2793.data.getD (Int.toNat (wr .u8 (shr .u64 p0 8))) 0).toNat : Int))))) (none)) (none)) (cond (decide (0 ≤ wr .u8 p0)) (cond (decide (wr .u8 p0 < (ByteArray.size tab256_2793 : Int))) (k (wr .i64 (0 + (wr .i64 ((tab256_2793.data.getD (Int.toNat (wr .u8 p0)) 0).toNat : Int))))) (none)) (none))))
/-! math/bits.LeadingZeros64 -/
def G_math_bits_LeadingZeros64 {R : Type} (cp : Nat → Nat → Bool) : Nat → Int → (Int → Option R) → Option R
  | 0, _, _ => none
  | n + 1, p0, k =>
    G_math_bits_Len64 cp n p0 (fun r21 => k (wr .i64 (64 - r21)))
/-! math/bits.Div64 -/
def s_math_bits_Div64_1 {R : Type} (cp : Nat → Nat → Bool) (n : Nat) (p0 p1 p2 : Int) (kn : Int → Int → Int → Int → Int → Int → Int → Int → Int → Option R) (kr : Int → Int → Option R) : Option R :=
  cond (decide (p2 = 0)) (none) (cond (decide (p2 ≤ p0)) (none) (cond (decide (p0 = 0)) (cond (decide (p2 = 0)) (none) (cond (decide (p2 = 0)) (none) (kr (wr .u64 (Int.tdiv p1 p2)) (Int.tmod p1 p2)))) (G_math_bits_LeadingZeros64 cp n p2 (fun r31 => cond (decide ((wr .u64 r31) < 0)) (none) (cond (decide ((wr .u64 r31) < 0)) (none) (cond (decide ((wr .u64 (64 - (wr .u64 r31))) < 0)) (none) (cond (decide ((wr .u64 r31) < 0)) (none) (cond (decide ((shr .u64 (shl .u64 p2 (wr .u64 r31)) 32) = 0)) (none) (kn (shl .u64 p2 (wr .u64 r31)) (wr .u64 r31) (shr .u64 (shl .u64 p2 (wr .u64 r31)) 32) (bits .and .u64 (shl .u64 p2 (wr .u64 r31)) 4294967295) (bits .or .u64 (shl .u64 p0 (wr .u64 r31)) (shr .u64 p1 (wr .u64 (64 - (wr .u64 r31))))) (shr .u64 (shl .u64 p1 (wr .u64 r31)) 32) (bits .and .u64 (shl .u64 p1 (wr .u64 r31)) 4294967295) (wr .u64 (Int.tdiv (bits .or .u64 (shl .u64 p0 (wr .u64 r31)) (shr .u64 p1 (wr .u64 (64 - (wr .u64 r31))))) (shr .u64 (shl .u64 p2 (wr .u64 r31)) 32))) (wr .u64 ((bits .or .u64 (shl .u64 p0 (wr .u64 r31)) (shr .u64 p1 (wr .u64 (64 - (wr .u64 r31))))) - (wr .u64 ((wr .u64 (Int.tdiv (bits .or .u64 (shl .u64 p0 (wr .u64 r31)) (shr .u64 p1 (wr .u64 (64 - (wr .u64 r31))))) (shr .u64 (shl .u64 p2 (wr .u64 r31)) 32))) * (shr .u64 (shl .u64 p2 (wr .u64 r31)) 32))))))))))))))
def s_math_bits_Div64_4 {R : Type} (cp : Nat → Nat → Bool) (n : Nat) (v32 v33 v34 v35 v36 v37 v38 v43 v44 : Int) (kn : Int → Int → Option R) (ke0 : Int → Option R) : Option R :=
  cond (decide (4294967296 ≤ v43)) (cond (decide (4294967296 ≤ (wr .u64 (v44 + v34)))) (ke0 (wr .u64 (v43 - 1))) (kn (wr .u64 (v43 - 1)) (wr .u64 (v44 + v34)))) (cond (decide ((wr .u64 ((wr .u64 (4294967296 * v44)) + v37)) < (wr .u64 (v43 * v35)))) (cond (decide (4294967296 ≤ (wr .u64 (v44 + v34)))) (ke0 (wr .u64 (v43 - 1))) (kn (wr .u64 (v43 - 1)) (wr .u64 (v44 + v34)))) (ke0 v43))
def l_math_bits_Div64_9 {R : Type} (cp : Nat → Nat → Bool) (n : Nat) : Nat → Int → Int → Int → Int → Int → Int → Int → Int → Int → (Int → Option R) → Option R
  | 0, _, _, _, _, _, _, _, _, _, _ => none
  | m + 1, v32, v33, v34, v35, v36, v37, v38, v43, v44, ke0 =>
    s_math_bits_Div64_4 cp n v32 v33 v34 v35 v36 v37 v38 v43 v44 (fun v45 v46 => l_math_bits_Div64_9 cp n m v32 v33 v34 v35 v36 v37 v38 v45 v46 ke0) (fun v47 => (ke0 v47))
def s_math_bits_Div64_10 {R : Type} (cp : Nat → Nat → Bool) (n : Nat) (v32 v33 v34 v35 v36 v37 v38 v39 v40 : Int) (ke0 : Int → Option R) : Option R :=
  l_math_bits_Div64_9 cp n n v32 v33 v34 v35 v36 v37 v38 v39 v40 ke0
def s_math_bits_Div64_12 {R : Type} (cp : Nat → Nat → Bool) (n : Nat) (v32 v33 v34 v35 v36 v37 v38 v39 v40 : Int) (kn : Int → Option R) : Option R :=
  s_math_bits_Div64_10 cp n v32 v33 v34 v35 v36 v37 v38 v39 v40 (fun v48 => (kn v48))
def s_math_bits_Div64_13 {R : Type} (cp : Nat → Nat → Bool) (n : Nat) (v32 v33 v34 v35 v36 v37 v38 v49 : Int) (kn : Int → Int → Int → Option R) : Option R :=
  cond (decide (v34 = 0)) (none) (kn (wr .u64 ((wr .u64 ((wr .u64 ((wr .u64 (v36 * 4294967296)) + v37)) - (wr .u64 (v49 * v32)))) - (wr .u64 ((wr .u64 (Int.tdiv (wr .u64 ((wr .u64 ((wr .u64 (v36 * 4294967296)) + v37)) - (wr .u64 (v49 * v32)))) v34)) * v34)))) (wr .u64 ((wr .u64 ((wr .u64 (v36 * 4294967296)) + v37)) - (wr .u64 (v49 * v32)))) (wr .u64 (Int.tdiv (wr .u64 ((wr .u64 ((wr .u64 (v36 * 4294967296)) + v37)) - (wr .u64 (v49 * v32)))) v34)))
def s_math_bits_Div64_15 {R : Type} (cp : Nat → Nat → Bool) (n : Nat) (v32 v33 v34 v35 v38 v49 v51 v53 v54 : Int) (kn : Int → Int → Option R) (ke2 : Int → Option R) : Option R :=
  cond (decide (4294967296 ≤ v54)) (cond (decide (4294967296 ≤ (wr .u64 (v53 + v34)))) (ke2 (wr .u64 (v54 - 1))) (kn (wr .u64 (v53 + v34)) (wr .u64 (v54 - 1)))) (cond (decide ((wr .u64 ((wr .u64 (4294967296 * v53)) + v38)) < (wr .u64 (v54 * v35)))) (cond (decide (4294967296 ≤ (wr .u64 (v53 + v34)))) (ke2 (wr .u64 (v54 - 1))) (kn (wr .u64 (v53 + v34)) (wr .u64 (v54 - 1)))) (ke2 v54))
def l_math_bits_Div64_20 {R : Type} (cp : Nat → Nat → Bool) (n : Nat) : Nat → Int → Int → Int → Int → Int → Int → Int → Int → Int → (Int → Option R) → Option R
  | 0, _, _, _, _, _, _, _, _, _, _ => none
  | m + 1, v32, v33, v34, v35, v38, v49, v51, v53, v54, ke2 =>
    s_math_bits_Div64_15 cp n v32 v33 v34 v35 v38 v49 v51 v53 v54 (fun v55 v56 => l_math_bits_Div64_20 cp n m v32 v33 v34 v35 v38 v49 v51 v55 v56 ke2) (fun v57 => (ke2 v57))
def s_math_bits_Div64_21 {R : Type} (cp : Nat → Nat → Bool) (n : Nat) (v32 v33 v34 v35 v38 v49 v50 v51 v52 : Int) (ke2 : Int → Option R) : Option R :=
  l_math_bits_Div64_20 cp n n v32 v33 v34 v35 v38 v49 v51 v50 v52 ke2
def s_math_bits_Div64_23 {R : Type} (cp : Nat → Nat → Bool) (n : Nat) (v32 v33 v34 v35 v38 v49 v50 v51 v52 : Int) (kn : Int → Option R) : Option R :=
  s_math_bits_Div64_21 cp n v32 v33 v34 v35 v38 v49 v50 v51 v52 (fun v58 => (kn v58))
def s_math_bits_Div64_24 {R : Type} (cp : Nat → Nat → Bool) (n : Nat) (v32 v33 v38 v49 v51 v59 : Int) (kr : Int → Int → Option R) : Option R :=
  cond (decide (v33 < 0)) (none) (kr (wr .u64 ((wr .u64 (v49 * 4294967296)) + v59)) (shr .u64 (wr .u64 ((wr .u64 ((wr .u64 (v51 * 4294967296)) + v38)) - (wr .u64 (v59 * v32)))) v33))
def s_math_bits_Div64_27 {R : Type} (cp : Nat → Nat → Bool) (n : Nat) (v32 v33 v34 v35 v38 v49 v50 v51 v52 : Int) (kr : Int → Int → Option R) : Option R :=
  s_math_bits_Div64_23 cp n v32 v33 v34 v35 v38 v49 v50 v51 v52 (fun v59 => s_math_bits_Div64_24 cp n v32 v33 v38 v49 v51 v59 (fun v60 v61 => (kr v60 v61)))
def s_math_bits_Div64_29 {R : Type} (cp : Nat → Nat → Bool) (n : Nat) (v32 v33 v34 v35 v36 v37 v38 v49 : Int) (kr : Int → Int → Option R) : Option R :=
  s_math_bits_Div64_13 cp n v32 v33 v34 v35 v36 v37 v38 v49 (fun v50 v51 v52 => s_math_bits_Div64_27 cp n v32 v33 v34 v35 v38 v49 v50 v51 v52 (fun v62 v63 => (kr v62 v63)))
def s_math_bits_Div64_31 {R : Type} (cp : Nat → Nat → Bool) (n : Nat) (v32 v33 v34 v35 v36 v37 v38 v39 v40 : Int) (kr : Int → Int → Option R) : Option R :=
  s_math_bits_Div64_12 cp n v32 v33 v34 v35 v36 v37 v38 v39 v40 (fun v49 => s_math_bits_Div64_29 cp n v32 v33 v34 v35 v36 v37 v38 v49 (fun v64 v65 => (kr v64 v65)))
def s_math_bits_Div64_33 {R : Type} (cp : Nat → Nat → Bool) (n : Nat) (p0 p1 p2 : Int) (kr : Int → Int → Option R) : Option R :=
  s_math_bits_Div64_1 cp n p0 p1 p2 (fun v32 v33 v34 v35 v36 v37 v38 v39 v40 => s_math_bits_Div64_31 cp n v32 v33 v34 v35 v36 v37 v38 v39 v40 (fun v66 v67 => (kr v66 v67))) (fun v41 v42 => (kr v41 v42))
def G_math_bits_Div64 {R : Type} (cp : Nat → Nat → Bool) : Nat → Int → Int → Int → (Int → Int → Option R) → Option R
  | 0, _, _, _, _ => none
  | n + 1, p0, p1, p2, k =>
    s_math_bits_Div64_33 cp n p0 p1 p2 (fun v68 v69 => k v68 v69)
/-! tideway/seq.MulDiv -/
def G_seq_MulDiv {R : Type} (cp : Nat → Nat → Bool) : Nat → Int → Int → Int → (Int → Int → Option R) → Option R
  | 0, _, _, _, _ => none
  | n + 1, p0, p1, p2, k =>
    cond (decide (p0 < 0)) (k 0 2) (cond (decide (p1 < 0)) (k 0 2) (cond (decide (p2 ≤ 0)) (k 0 2) (G_math_bits_Mul64 cp n (wr .u64 p0) (wr .u64 p1) (fun r19 r20 => cond (decide ((wr .u64 p2) ≤ r19)) (k 9223372036854775807 0) (G_math_bits_Div64 cp n r19 r20 (wr .u64 p2) (fun r70 r71 => k (wr .i64 (mn r70 9223372036854775807)) 0))))))
/-! tideway/cubic.by -/
def G_cubic_by {R : Type} (cp : Nat → Nat → Bool) : Nat → Int → Int → Int → (Int → Option R) → Option R
  | 0, _, _, _, _ => none
  | n + 1, p0, p1, p2, k =>
    G_seq_MulDiv cp n p0 p1 p2 (fun r72 r73 => k r72)
/-! tideway/seq.Cbrt -/
def s_seq_Cbrt_1 {R : Type} (cp : Nat → Nat → Bool) (n : Nat) (p0 : Int) (kn : Option R) : Option R :=
  kn
def s_seq_Cbrt_3 {R : Type} (cp : Nat → Nat → Bool) (n : Nat) (p0 : Int) (kn : Option R) : Option R :=
  kn
def s_seq_Cbrt_5 {R : Type} (cp : Nat → Nat → Bool) (n : Nat) (p0 v75 v76 : Int) (kn : Int → Int → Option R) (ke0 : Option R) : Option R :=
  cond (decide (v76 < 21)) (cond (decide ((wr .i64 (20 - v76)) < 0)) (none) (cond (decide ((wr .i64 ((wr .i64 ((bits .or .i64 v75 (shl .i64 1 (wr .i64 (20 - v76)))) * (bits .or .i64 v75 (shl .i64 1 (wr .i64 (20 - v76)))))) * (bits .or .i64 v75 (shl .i64 1 (wr .i64 (20 - v76)))))) ≤ p0)) (kn (bits .or .i64 v75 (shl .i64 1 (wr .i64 (20 - v76)))) (wr .i64 (v76 + 1))) (kn v75 (wr .i64 (v76 + 1))))) (ke0)
def l_seq_Cbrt_10 {R : Type} (cp : Nat → Nat → Bool) (n : Nat) : Nat → Int → Int → Int → (Int → Option R) → Option R
  | 0, _, _, _, _ => none
  | m + 1, p0, v75, v76, ke0 =>
    s_seq_Cbrt_5 cp n p0 v75 v76 (fun v77 v78 => l_seq_Cbrt_10 cp n m p0 v77 v78 ke0) (ke0 v75)
def s_seq_Cbrt_11 {R : Type} (cp : Nat → Nat → Bool) (n : Nat) (p0 : Int) (ke0 : Int → Option R) : Option R :=
  l_seq_Cbrt_10 cp n n p0 0 0 ke0
def s_seq_Cbrt_13 {R : Type} (cp : Nat → Nat → Bool) (n : Nat) (p0 : Int) (kn : Int → Option R) : Option R :=
  s_seq_Cbrt_11 cp n p0 (fun v79 => (kn v79))
def s_seq_Cbrt_15 {R : Type} (cp : Nat → Nat → Bool) (n : Nat) (p0 : Int) (kn : Int → Option R) : Option R :=
  s_seq_Cbrt_3 cp n p0 (s_seq_Cbrt_13 cp n p0 (fun v80 => (kn v80)))
def s_seq_Cbrt_16 {R : Type} (cp : Nat → Nat → Bool) (n : Nat) (v81 : Int) (kr : Option R) : Option R :=
  kr
def s_seq_Cbrt_19 {R : Type} (cp : Nat → Nat → Bool) (n : Nat) (p0 : Int) (kr : Int → Option R) : Option R :=
  s_seq_Cbrt_15 cp n p0 (fun v81 => s_seq_Cbrt_16 cp n v81 (kr v81))
def s_seq_Cbrt_21 {R : Type} (cp : Nat → Nat → Bool) (n : Nat) (p0 : Int) (kr : Int → Option R) : Option R :=
  s_seq_Cbrt_1 cp n p0 (s_seq_Cbrt_19 cp n p0 (fun v82 => (kr v82)))
def G_seq_Cbrt {R : Type} (cp : Nat → Nat → Bool) : Nat → Int → (Int → Option R) → Option R
  | 0, _, _ => none
  | n + 1, p0, k =>
    s_seq_Cbrt_21 cp n p0 (fun v83 => k v83)
/-! (*tideway/cubic.ctl).begin -/
def G_cubic_ctl_begin {R : Type} (cp : Nat → Nat → Bool) : Nat → Int → Sctl → (Sctl → Option R) → Option R
  | 0, _, _, _ => none
  | n + 1, p1, q0, k =>
    cond (decide (q0.xCc_Cwnd < q0.xCc_Wmax)) (G_cubic_by cp n (wr .i64 (q0.xCc_Wmax - q0.xCc_Cwnd)) 10000000000 (wr .i64 (4 * q0.xCc_Mss)) (fun r74 => G_seq_Cbrt cp n r74 (fun r84 => k (Sctl.mk q0.xCc_Kind q0.xCc_Mss q0.xCc_Cwnd q0.xCc_Ssthresh q0.xCc_Acc q0.xCc_Wmax p1 r84 q0.xCc_Cwnd q0.xCc_Cwnd q0.xCc_Mode q0.xCc_Bw q0.xCc_MinRtt q0.xCc_MinAt q0.xCc_Round q0.xCc_NextAt q0.xCc_Full q0.xCc_FullN q0.xCc_Phase q0.xCc_PhaseAt q0.xCc_DoneAt q0.xCc_Prior)))) (k (Sctl.mk q0.xCc_Kind q0.xCc_Mss q0.xCc_Cwnd q0.xCc_Ssthresh q0.xCc_Acc q0.xCc_Cwnd p1 0 q0.xCc_Cwnd q0.xCc_Cwnd q0.xCc_Mode q0.xCc_Bw q0.xCc_MinRtt q0.xCc_MinAt q0.xCc_Round q0.xCc_NextAt q0.xCc_Full q0.xCc_FullN q0.xCc_Phase q0.xCc_PhaseAt q0.xCc_DoneAt q0.xCc_Prior))
/-! tideway/seq.Sum -/
def G_seq_Sum {R : Type} (cp : Nat → Nat → Bool) : Nat → Int → Int → (Int → Option R) → Option R
  | 0, _, _, _ => none
  | n + 1, p0, p1, k =>
    cond (decide (0 < p0)) (cond (decide (0 < p1)) (cond (decide ((wr .i64 (p0 + p1)) < 0)) (k 9223372036854775807) (cond (decide (p0 < 0)) (cond (decide (p1 < 0)) (cond (decide (0 ≤ (wr .i64 (p0 + p1)))) (k (-9223372036854775808)) (k (wr .i64 (p0 + p1)))) (k (wr .i64 (p0 + p1)))) (k (wr .i64 (p0 + p1))))) (cond (decide (p0 < 0)) (cond (decide (p1 < 0)) (cond (decide (0 ≤ (wr .i64 (p0 + p1)))) (k (-9223372036854775808)) (k (wr .i64 (p0 + p1)))) (k (wr .i64 (p0 + p1)))) (k (wr .i64 (p0 + p1))))) (cond (decide (p0 < 0)) (cond (decide (p1 < 0)) (cond (decide (0 ≤ (wr .i64 (p0 + p1)))) (k (-9223372036854775808)) (k (wr .i64 (p0 + p1)))) (k (wr .i64 (p0 + p1)))) (k (wr .i64 (p0 + p1))))
/-! tideway/seq.Clamp -/
def G_seq_Clamp {R : Type} (cp : Nat → Nat → Bool) : Nat → Int → Int → Int → (Int → Option R) → Option R
  | 0, _, _, _, _ => none
  | n + 1, p0, p1, p2, k =>
    k (mx p1 (mn p0 p2))
/-! tideway/cubic.Curve -/
def s_cubic_Curve_1 {R : Type} (cp : Nat → Nat → Bool) (n : Nat) (p0 : SCc) (p1 : Int) (kn : Int → Option R) (kr : Option R) : Option R :=
  G_cubic_Check cp n p0 (fun r97 => cond (!decide (r97 = 0)) (kr) (G_seq_Sum cp n p1 (wr .i64 (0 - p0.xK)) (fun r98 => G_seq_Clamp cp n r98 (-1000000) 1000000 (fun r99 => G_cubic_by cp n (wr .i64 ((wr .i64 ((mx r99 (wr .i64 (0 - r99))) * (mx r99 (wr .i64 (0 - r99))))) * (mx r99 (wr .i64 (0 - r99))))) (wr .i64 (4 * p0.xMss)) 10000000000 (fun r100 => cond (decide (r99 < 0)) (kn (wr .i64 (0 - r100))) (kn r100))))))
def s_cubic_Curve_4 {R : Type} (cp : Nat → Nat → Bool) (n : Nat) (p0 : SCc) (v101 : Int) (kr : Int → Option R) : Option R :=
  G_seq_Sum cp n p0.xWmax v101 (fun r102 => G_seq_Clamp cp n r102 0 1073741824 (fun r103 => kr r103))
def s_cubic_Curve_7 {R : Type} (cp : Nat → Nat → Bool) (n : Nat) (p0 : SCc) (p1 : Int) (kr : Int → Option R) : Option R :=
  s_cubic_Curve_1 cp n p0 p1 (fun v101 => s_cubic_Curve_4 cp n p0 v101 (fun v104 => (kr v104))) (kr 0)
def G_cubic_Curve {R : Type} (cp : Nat → Nat → Bool) : Nat → SCc → Int → (Int → Option R) → Option R
  | 0, _, _, _ => none
  | n + 1, p0, p1, k =>
    s_cubic_Curve_7 cp n p0 p1 (fun v105 => k v105)
/-! (*tideway/cubic.ctl).grow -/
def s_cubic_ctl_grow_1 {R : Type} (cp : Nat → Nat → Bool) (n : Nat) (p1 p2 p3 : Int) (q0 : Sctl) (kn : Int → SCc → Option R) : Option R :=
  cond (decide (q0.xCc_Epoch < 0)) (G_cubic_ctl_begin cp n p2 q0 (fun r20 => kn (wr .i64 (Int.tdiv (wr .i64 ((mx 0 (wr .i64 (p2 - r20.xCc_Epoch))) + p3)) 1000)) (SCc.mk r20.xCc_Kind r20.xCc_Mss r20.xCc_Cwnd r20.xCc_Ssthresh r20.xCc_Acc r20.xCc_Wmax r20.xCc_Epoch r20.xCc_K r20.xCc_West r20.xCc_Start r20.xCc_Mode r20.xCc_Bw r20.xCc_MinRtt r20.xCc_MinAt r20.xCc_Round r20.xCc_NextAt r20.xCc_Full r20.xCc_FullN r20.xCc_Phase r20.xCc_PhaseAt r20.xCc_DoneAt r20.xCc_Prior))) (kn (wr .i64 (Int.tdiv (wr .i64 ((mx 0 (wr .i64 (p2 - q0.xCc_Epoch))) + p3)) 1000)) (SCc.mk q0.xCc_Kind q0.xCc_Mss q0.xCc_Cwnd q0.xCc_Ssthresh q0.xCc_Acc q0.xCc_Wmax q0.xCc_Epoch q0.xCc_K q0.xCc_West q0.xCc_Start q0.xCc_Mode q0.xCc_Bw q0.xCc_MinRtt q0.xCc_MinAt q0.xCc_Round q0.xCc_NextAt q0.xCc_Full q0.xCc_FullN q0.xCc_Phase q0.xCc_PhaseAt q0.xCc_DoneAt q0.xCc_Prior))
def s_cubic_ctl_grow_3 {R : Type} (cp : Nat → Nat → Bool) (n : Nat) (p1 v21 : Int) (v22 : SCc) (kn : Int → Int → Option R) : Option R :=
  G_cubic_Curve cp n v22 v21 (fun r25 => G_seq_Clamp cp n r25 v22.xCwnd (wr .i64 (v22.xCwnd + (wr .i64 (Int.tdiv v22.xCwnd 2)))) (fun r26 => G_cubic_by cp n (wr .i64 (529 * v22.xMss)) p1 (wr .i64 (1000 * v22.xCwnd)) (fun r27 => G_seq_Sum cp n v22.xWest r27 (fun r28 => kn r26 (mn 1073741824 r28)))))
def s_cubic_ctl_grow_5 {R : Type} (cp : Nat → Nat → Bool) (n : Nat) (p1 : Int) (v22 : SCc) (v29 v30 : Int) (kn : Int → Option R) : Option R :=
  G_cubic_by cp n (wr .i64 (v29 - v22.xCwnd)) p1 v22.xCwnd (fun r31 => G_seq_Sum cp n v22.xCwnd r31 (fun r32 => kn (mn 1073741824 (mx v30 r32))))
def s_cubic_ctl_grow_8 {R : Type} (cp : Nat → Nat → Bool) (n : Nat) (p1 v21 : Int) (v22 : SCc) (kn : Int → Int → Option R) : Option R :=
  s_cubic_ctl_grow_3 cp n p1 v21 v22 (fun v29 v30 => s_cubic_ctl_grow_5 cp n p1 v22 v29 v30 (fun v33 => (kn v33 v30)))
def s_cubic_ctl_grow_10 {R : Type} (cp : Nat → Nat → Bool) (n : Nat) (p1 p2 p3 : Int) (q0 : Sctl) (kn : SCc → Option R) : Option R :=
  s_cubic_ctl_grow_1 cp n p1 p2 p3 q0 (fun v21 v22 => s_cubic_ctl_grow_8 cp n p1 v21 v22 (fun v34 v35 => (kn (SCc.mk v22.xKind v22.xMss v34 v22.xSsthresh v22.xAcc v22.xWmax v22.xEpoch v22.xK v35 v22.xStart v22.xMode v22.xBw v22.xMinRtt v22.xMinAt v22.xRound v22.xNextAt v22.xFull v22.xFullN v22.xPhase v22.xPhaseAt v22.xDoneAt v22.xPrior))))
def G_cubic_ctl_grow {R : Type} (cp : Nat → Nat → Bool) : Nat → Int → Int → Int → Sctl → (Sctl → Option R) → Option R
  | 0, _, _, _, _, _ => none
  | n + 1, p1, p2, p3, q0, k =>
    s_cubic_ctl_grow_10 cp n p1 p2 p3 q0 (fun v36 => k (Sctl.mk v36.xKind v36.xMss v36.xCwnd v36.xSsthresh v36.xAcc v36.xWmax v36.xEpoch v36.xK v36.xWest v36.xStart v36.xMode v36.xBw v36.xMinRtt v36.xMinAt v36.xRound v36.xNextAt v36.xFull v36.xFullN v36.xPhase v36.xPhaseAt v36.xDoneAt v36.xPrior))
/-! tideway/cubic.Acked -/
def G_cubic_Acked {R : Type} (cp : Nat → Nat → Bool) : Nat → SCc → Int → Int → Int → Bool → (SCc → Int → Option R) → Option R
  | 0, _, _, _, _, _, _ => none
  | n + 1, p0, p1, p2, p3, p4, k =>
    G_cubic_Check cp n p0 (fun r17 => cond (!decide (r17 = 0)) (k (SCc.mk 0 0 0 0 0 0 0 0 0 0 0 [] 0 0 0 0 0 0 0 0 0 0) r17) (G_cubic_size cp n [p1] (fun r18 => cond (!r18) (k (SCc.mk 0 0 0 0 0 0 0 0 0 0 0 [] 0 0 0 0 0 0 0 0 0 0) 2) (cond (decide (p2 < 0)) (k (SCc.mk 0 0 0 0 0 0 0 0 0 0 0 [] 0 0 0 0 0 0 0 0 0 0) 2) (cond (decide (1125899906842624 < p2)) (k (SCc.mk 0 0 0 0 0 0 0 0 0 0 0 [] 0 0 0 0 0 0 0 0 0 0) 2) (cond (decide (p3 < 0)) (k (SCc.mk 0 0 0 0 0 0 0 0 0 0 0 [] 0 0 0 0 0 0 0 0 0 0) 2) (cond (decide (1125899906842624 < p3)) (k (SCc.mk 0 0 0 0 0 0 0 0 0 0 0 [] 0 0 0 0 0 0 0 0 0 0) 2) (cond (p4) (k (SCc.mk p0.xKind p0.xMss p0.xCwnd p0.xSsthresh p0.xAcc p0.xWmax (-1) p0.xK p0.xWest p0.xStart p0.xMode p0.xBw p0.xMinRtt p0.xMinAt p0.xRound p0.xNextAt p0.xFull p0.xFullN p0.xPhase p0.xPhaseAt p0.xDoneAt p0.xPrior) 0) (cond (decide (p0.xCwnd < p0.xSsthresh)) (k (SCc.mk p0.xKind p0.xMss (mn 1073741824 (wr .i64 (p0.xCwnd + (mn p1 p0.xMss)))) p0.xSsthresh p0.xAcc p0.xWmax p0.xEpoch p0.xK p0.xWest p0.xStart p0.xMode p0.xBw p0.xMinRtt p0.xMinAt p0.xRound p0.xNextAt p0.xFull p0.xFullN p0.xPhase p0.xPhaseAt p0.xDoneAt p0.xPrior) 0) (G_cubic_ctl_grow cp n p1 p2 p3 (Sctl.mk p0.xKind p0.xMss p0.xCwnd p0.xSsthresh p0.xAcc p0.xWmax p0.xEpoch p0.xK p0.xWest p0.xStart p0.xMode p0.xBw p0.xMinRtt p0.xMinAt p0.xRound p0.xNextAt p0.xFull p0.xFullN p0.xPhase p0.xPhaseAt p0.xDoneAt p0.xPrior) (fun r37 => k (SCc.mk r37.xCc_Kind r37.xCc_Mss r37.xCc_Cwnd r37.xCc_Ssthresh r37.xCc_Acc r37.xCc_Wmax r37.xCc_Epoch r37.xCc_K r37.xCc_West r37.xCc_Start r37.xCc_Mode r37.xCc_Bw r37.xCc_MinRtt r37.xCc_MinAt r37.xCc_Round r37.xCc_NextAt r37.xCc_Full r37.xCc_FullN r37.xCc_Phase r37.xCc_PhaseAt r37.xCc_DoneAt r37.xCc_Prior) 0)))))))))))
/-! (*tideway/cubic.ctl).fall -/
def G_cubic_ctl_fall {R : Type} (cp : Nat → Nat → Bool) : Nat → Sctl → (Sctl → Option R) → Option R
  | 0, _, _ => none
  | n + 1, q0, k =>
    cond (decide (q0.xCc_Cwnd < q0.xCc_Wmax)) (k (Sctl.mk q0.xCc_Kind q0.xCc_Mss q0.xCc_Cwnd (mx (wr .i64 (2 * q0.xCc_Mss)) (wr .i64 (Int.tdiv (wr .i64 (7 * q0.xCc_Cwnd)) 10))) 0 (wr .i64 (Int.tdiv (wr .i64 (17 * q0.xCc_Cwnd)) 20)) (-1) q0.xCc_K q0.xCc_West q0.xCc_Start q0.xCc_Mode q0.xCc_Bw q0.xCc_MinRtt q0.xCc_MinAt q0.xCc_Round q0.xCc_NextAt q0.xCc_Full q0.xCc_FullN q0.xCc_Phase q0.xCc_PhaseAt q0.xCc_DoneAt q0.xCc_Prior)) (k (Sctl.mk q0.xCc_Kind q0.xCc_Mss q0.xCc_Cwnd (mx (wr .i64 (2 * q0.xCc_Mss)) (wr .i64 (Int.tdiv (wr .i64 (7 * q0.xCc_Cwnd)) 10))) 0 q0.xCc_Cwnd (-1) q0.xCc_K q0.xCc_West q0.xCc_Start q0.xCc_Mode q0.xCc_Bw q0.xCc_MinRtt q0.xCc_MinAt q0.xCc_Round q0.xCc_NextAt q0.xCc_Full q0.xCc_FullN q0.xCc_Phase q0.xCc_PhaseAt q0.xCc_DoneAt q0.xCc_Prior))
/-! tideway/cubic.moved -/
def G_cubic_moved {R : Type} (cp : Nat → Nat → Bool) : Nat → SCc → Int → (SCc → Int → Option R) → Option R
  | 0, _, _, _ => none
  | n + 1, p0, p1, k =>
    G_cubic_Check cp n p0 (fun r40 => cond (!decide (r40 = 0)) (k (SCc.mk 0 0 0 0 0 0 0 0 0 0 0 [] 0 0 0 0 0 0 0 0 0 0) 230) (G_cubic_size cp n [p1] (fun r41 => cond (!r41) (k (SCc.mk 0 0 0 0 0 0 0 0 0 0 0 [] 0 0 0 0 0 0 0 0 0 0) 2) (G_cubic_ctl_fall cp n (Sctl.mk p0.xKind p0.xMss p0.xCwnd p0.xSsthresh p0.xAcc p0.xWmax p0.xEpoch p0.xK p0.xWest p0.xStart p0.xMode p0.xBw p0.xMinRtt p0.xMinAt p0.xRound p0.xNextAt p0.xFull p0.xFullN p0.xPhase p0.xPhaseAt p0.xDoneAt p0.xPrior) (fun r42 => k (SCc.mk r42.xCc_Kind r42.xCc_Mss r42.xCc_Cwnd r42.xCc_Ssthresh r42.xCc_Acc r42.xCc_Wmax r42.xCc_Epoch r42.xCc_K r42.xCc_West r42.xCc_Start r42.xCc_Mode r42.xCc_Bw r42.xCc_MinRtt r42.xCc_MinAt r42.xCc_Round r42.xCc_NextAt r42.xCc_Full r42.xCc_FullN r42.xCc_Phase r42.xCc_PhaseAt r42.xCc_DoneAt r42.xCc_Prior) 0)))))
/-! tideway/cubic.Loss -/
def G_cubic_Loss {R : Type} (cp : Nat → Nat → Bool) : Nat → SCc → Int → (SCc → Int → Option R) → Option R
  | 0, _, _, _ => none
  | n + 1, p0, p1, k =>
    G_cubic_moved cp n p0 p1 (fun r43 r44 => k r43 r44)
/-! tideway/reno.New -/
def G_reno_New {R : Type} (cp : Nat → Nat → Bool) : Nat → Int → Int → (SCc → Int → Option R) → Option R
  | 0, _, _, _ => none
  | n + 1, p0, p1, k =>
    cond (decide (p0 < 1)) (k (SCc.mk 0 0 0 0 0 0 0 0 0 0 0 [] 0 0 0 0 0 0 0 0 0 0) 2) (cond (decide (65000 < p0)) (k (SCc.mk 0 0 0 0 0 0 0 0 0 0 0 [] 0 0 0 0 0 0 0 0 0 0) 2) (cond (decide (p1 < 1)) (k (SCc.mk 0 0 0 0 0 0 0 0 0 0 0 [] 0 0 0 0 0 0 0 0 0 0) 2) (cond (decide (100 < p1)) (k (SCc.mk 0 0 0 0 0 0 0 0 0 0 0 [] 0 0 0 0 0 0 0 0 0 0) 2) (k (SCc.mk 1 p0 (wr .i64 (p0 * p1)) 1073741824 0 0 0 0 0 0 0 [] 0 0 0 0 0 0 0 0 0 0) 0))))
/-! tideway/cubic.New -/
def G_cubic_New {R : Type} (cp : Nat → Nat → Bool) : Nat → Int → Int → (SCc → Int → Option R) → Option R
  | 0, _, _, _ => none
  | n + 1, p0, p1, k =>
    G_reno_New cp n p0 p1 (fun r47 r48 => cond (decide (r48 = 0)) (k (SCc.mk 2 r47.xMss r47.xCwnd r47.xSsthresh r47.xAcc r47.xWmax (-1) r47.xK r47.xWest r47.xStart r47.xMode r47.xBw r47.xMinRtt r47.xMinAt r47.xRound r47.xNextAt r47.xFull r47.xFullN r47.xPhase r47.xPhaseAt r47.xDoneAt r47.xPrior) r48) (k r47 r48))
/-! tideway/tidewaylaw16.heads -/
def s_law16_heads_1 {R : Type} (cp : Nat → Nat → Bool) (n : Nat) (kn : Int → Int → Int → SCc → SCc → Option R) : Option R :=
  G_cubic_Acked cp n (SCc.mk 2 10 70 70 0 100 (-1) 0 0 0 0 [] 0 0 0 0 0 0 0 0 0 0) 10 5 0 false (fun r23 r24 => G_cubic_Loss cp n (SCc.mk 2 10 70 70 0 100 (-1) 0 0 0 0 [] 0 0 0 0 0 0 0 0 0 0) 0 (fun r25 r26 => G_cubic_New cp n 0 1 (fun r27 r28 => kn r24 r26 r28 r23 r25)))
def s_law16_heads_3 {R : Type} (cp : Nat → Nat → Bool) (n : Nat) (v29 v30 v31 : Int) (v32 v33 : SCc) (kr : Bool → Option R) : Option R :=
  cond (decide (v29 = 0)) (cond (decide (v32.xK = 1957)) (cond (decide (v32.xEpoch = 5)) (G_cubic_Curve cp n v32 1957 (fun r34 => cond (decide (r34 = 100)) (G_cubic_Curve cp n v32 0 (fun r35 => cond (decide (r35 = 71)) (cond (decide (v30 = 0)) (cond (decide (v33.xWmax = 59)) (cond (decide (v33.xSsthresh = 49)) (cond (decide (v31 = 2)) (G_cubic_Check cp n (SCc.mk 0 0 0 0 0 0 0 0 0 0 0 [] 0 0 0 0 0 0 0 0 0 0) (fun r36 => kr (decide (r36 = 230)))) (kr false)) (kr false)) (kr false)) (kr false)) (kr false))) (kr false))) (kr false)) (kr false)) (kr false)
def s_law16_heads_6 {R : Type} (cp : Nat → Nat → Bool) (n : Nat) (kr : Bool → Option R) : Option R :=
  s_law16_heads_1 cp n (fun v29 v30 v31 v32 v33 => s_law16_heads_3 cp n v29 v30 v31 v32 v33 (fun v37 => (kr v37)))
def G_law16_heads {R : Type} (cp : Nat → Nat → Bool) : Nat → (Bool → Option R) → Option R
  | 0, _ => none
  | n + 1, k =>
    s_law16_heads_6 cp n (fun v38 => k v38)
/-! tideway/tidewaylaw16.CubicCurve -/
def s_law16_CubicCurve_1 {R : Type} (cp : Nat → Nat → Bool) (n : Nat) (p0 : SCc) (p1 p2 : Int) (kn : Option R) : Option R :=
  kn
def s_law16_CubicCurve_3 {R : Type} (cp : Nat → Nat → Bool) (n : Nat) (p0 : SCc) (p1 p2 : Int) (kn : Bool → Option R) : Option R :=
  G_cubic_Check cp n p0 (fun r1 => cond (!decide (r1 = 0)) (kn true) (cond (decide (p1 < 0)) (kn true) (cond (decide (p2 < 0)) (kn true) (cond (decide (1099511627776 < p1)) (kn true) (kn (decide (1099511627776 < p2)))))))
def s_law16_CubicCurve_5 {R : Type} (cp : Nat → Nat → Bool) (n : Nat) (p0 : SCc) (p1 p2 : Int) (v2 : Bool) (kn : Option R) (kr : Bool → Option R) : Option R :=
  cond (v2) (G_law16_heads cp n (fun r3 => kr r3)) (kn)
def s_law16_CubicCurve_8 {R : Type} (cp : Nat → Nat → Bool) (n : Nat) (p0 : SCc) (p1 p2 : Int) (kn : Option R) (kr : Bool → Option R) : Option R :=
  s_law16_CubicCurve_3 cp n p0 p1 p2 (fun v2 => s_law16_CubicCurve_5 cp n p0 p1 p2 v2 kn (fun v4 => (kr v4)))
def s_law16_CubicCurve_9 {R : Type} (cp : Nat → Nat → Bool) (n : Nat) (p0 : SCc) (p1 p2 : Int) (kr : Bool → Option R) : Option R :=
  G_cubic_Curve cp n p0 p1 (fun r6 => G_cubic_Curve cp n p0 (wr .i64 (p1 + p2)) (fun r7 => cond (decide (r6 ≤ r7)) (cond (decide (0 ≤ r6)) (cond (decide (r7 ≤ 1073741824)) (G_cubic_Curve cp n p0 p0.xK (fun r8 => cond (decide (r8 = p0.xWmax)) (G_law16_heads cp n (fun r9 => kr r9)) (kr false))) (kr false)) (kr false)) (kr false)))
def s_law16_CubicCurve_12 {R : Type} (cp : Nat → Nat → Bool) (n : Nat) (p0 : SCc) (p1 p2 : Int) (kr : Bool → Option R) : Option R :=
  s_law16_CubicCurve_8 cp n p0 p1 p2 (s_law16_CubicCurve_9 cp n p0 p1 p2 (fun v10 => (kr v10))) (fun v5 => (kr v5))
def s_law16_CubicCurve_14 {R : Type} (cp : Nat → Nat → Bool) (n : Nat) (p0 : SCc) (p1 p2 : Int) (kr : Bool → Option R) : Option R :=
  s_law16_CubicCurve_1 cp n p0 p1 p2 (s_law16_CubicCurve_12 cp n p0 p1 p2 (fun v11 => (kr v11)))
def G_law16_CubicCurve {R : Type} (cp : Nat → Nat → Bool) : Nat → SCc → Int → Int → (Bool → Option R) → Option R
  | 0, _, _, _, _ => none
  | n + 1, p0, p1, p2, k =>
    s_law16_CubicCurve_14 cp n p0 p1 p2 (fun v12 => k v12)
def ca_reno_size {R : Type} (cp : Nat → Nat → Bool) (n : Nat) (av : Fr) (cs : List Fr) (k : Ret2 RW → Option R) : Option R := match av, cs with
  | [y0], [] => (dI .i64 y0).bind fun p0 => G_reno_size cp n p0 (fun r0 => k ⟨(tB r0), []⟩)
  | _, _ => none
def ca_reno_ctl_plain {R : Type} (cp : Nat → Nat → Bool) (n : Nat) (av : Fr) (cs : List Fr) (k : Ret2 RW → Option R) : Option R := match av, cs with
  | [y0], [w0] => (dP 138 0 y0).bind fun _ => (dT68 w0).bind fun q0 => G_reno_ctl_plain cp n q0 (fun r0 r1 => k ⟨(tB r0), [(eT68 r1)]⟩)
  | _, _ => none
def ca_reno_Check {R : Type} (cp : Nat → Nat → Bool) (n : Nat) (av : Fr) (cs : List Fr) (k : Ret2 RW → Option R) : Option R := match av, cs with
  | [y0], [] => (dA y0).bind fun c0_ => (dCc c0_).bind fun p0 => G_reno_Check cp n p0 (fun r0 => k ⟨(tL r0), []⟩)
  | _, _ => none
def ca_cubic_size {R : Type} (cp : Nat → Nat → Bool) (n : Nat) (av : Fr) (cs : List Fr) (k : Ret2 RW → Option R) : Option R := match av, cs with
  | [y0], [] => (dRint false y0).bind fun p0 => G_cubic_size cp n p0 (fun r0 => k ⟨(tB r0), []⟩)
  | _, _ => none
def ca_cubic_Check {R : Type} (cp : Nat → Nat → Bool) (n : Nat) (av : Fr) (cs : List Fr) (k : Ret2 RW → Option R) : Option R := match av, cs with
  | [y0], [] => (dA y0).bind fun c0_ => (dCc c0_).bind fun p0 => G_cubic_Check cp n p0 (fun r0 => k ⟨(tL r0), []⟩)
  | _, _ => none
def ca_math_bits_Mul64 {R : Type} (cp : Nat → Nat → Bool) (n : Nat) (av : Fr) (cs : List Fr) (k : Ret2 RW → Option R) : Option R := match av, cs with
  | [y0, y1], [] => (dI .u64 y0).bind fun p0 => (dI .u64 y1).bind fun p1 => G_math_bits_Mul64 cp n p0 p1 (fun r0 r1 => k ⟨.tup [(tI .u64 r0), (tI .u64 r1)], []⟩)
  | _, _ => none
def ca_math_bits_Len64 {R : Type} (cp : Nat → Nat → Bool) (n : Nat) (av : Fr) (cs : List Fr) (k : Ret2 RW → Option R) : Option R := match av, cs with
  | [y0], [] => (dI .u64 y0).bind fun p0 => G_math_bits_Len64 cp n p0 (fun r0 => k ⟨(tL r0), []⟩)
  | _, _ => none
def ca_math_bits_LeadingZeros64 {R : Type} (cp : Nat → Nat → Bool) (n : Nat) (av : Fr) (cs : List Fr) (k : Ret2 RW → Option R) : Option R := match av, cs with
  | [y0], [] => (dI .u64 y0).bind fun p0 => G_math_bits_LeadingZeros64 cp n p0 (fun r0 => k ⟨(tL r0), []⟩)
  | _, _ => none
def ca_math_bits_Div64 {R : Type} (cp : Nat → Nat → Bool) (n : Nat) (av : Fr) (cs : List Fr) (k : Ret2 RW → Option R) : Option R := match av, cs with
  | [y0, y1, y2], [] => (dI .u64 y0).bind fun p0 => (dI .u64 y1).bind fun p1 => (dI .u64 y2).bind fun p2 => G_math_bits_Div64 cp n p0 p1 p2 (fun r0 r1 => k ⟨.tup [(tI .u64 r0), (tI .u64 r1)], []⟩)
  | _, _ => none
def ca_seq_MulDiv {R : Type} (cp : Nat → Nat → Bool) (n : Nat) (av : Fr) (cs : List Fr) (k : Ret2 RW → Option R) : Option R := match av, cs with
  | [y0, y1, y2], [] => (dI .i64 y0).bind fun p0 => (dI .i64 y1).bind fun p1 => (dI .i64 y2).bind fun p2 => G_seq_MulDiv cp n p0 p1 p2 (fun r0 r1 => k ⟨.tup [(tL r0), (tL r1)], []⟩)
  | _, _ => none
def ca_cubic_by {R : Type} (cp : Nat → Nat → Bool) (n : Nat) (av : Fr) (cs : List Fr) (k : Ret2 RW → Option R) : Option R := match av, cs with
  | [y0, y1, y2], [] => (dI .i64 y0).bind fun p0 => (dI .i64 y1).bind fun p1 => (dI .i64 y2).bind fun p2 => G_cubic_by cp n p0 p1 p2 (fun r0 => k ⟨(tL r0), []⟩)
  | _, _ => none
def ca_seq_Cbrt {R : Type} (cp : Nat → Nat → Bool) (n : Nat) (av : Fr) (cs : List Fr) (k : Ret2 RW → Option R) : Option R := match av, cs with
  | [y0], [] => (dI .i64 y0).bind fun p0 => G_seq_Cbrt cp n p0 (fun r0 => k ⟨(tL r0), []⟩)
  | _, _ => none
def ca_cubic_ctl_begin {R : Type} (cp : Nat → Nat → Bool) (n : Nat) (av : Fr) (cs : List Fr) (k : Ret2 RW → Option R) : Option R := match av, cs with
  | [y0, y1], [w0] => (dP 74 0 y0).bind fun _ => (dI .i64 y1).bind fun p1 => (dctl w0).bind fun q0 => G_cubic_ctl_begin cp n p1 q0 (fun r0 => k ⟨.tup [], [(ectl r0)]⟩)
  | _, _ => none
def ca_seq_Sum {R : Type} (cp : Nat → Nat → Bool) (n : Nat) (av : Fr) (cs : List Fr) (k : Ret2 RW → Option R) : Option R := match av, cs with
  | [y0, y1], [] => (dI .i64 y0).bind fun p0 => (dI .i64 y1).bind fun p1 => G_seq_Sum cp n p0 p1 (fun r0 => k ⟨(tL r0), []⟩)
  | _, _ => none
def ca_seq_Clamp {R : Type} (cp : Nat → Nat → Bool) (n : Nat) (av : Fr) (cs : List Fr) (k : Ret2 RW → Option R) : Option R := match av, cs with
  | [y0, y1, y2], [] => (dI .i64 y0).bind fun p0 => (dI .i64 y1).bind fun p1 => (dI .i64 y2).bind fun p2 => G_seq_Clamp cp n p0 p1 p2 (fun r0 => k ⟨(tL r0), []⟩)
  | _, _ => none
def ca_cubic_Curve {R : Type} (cp : Nat → Nat → Bool) (n : Nat) (av : Fr) (cs : List Fr) (k : Ret2 RW → Option R) : Option R := match av, cs with
  | [y0, y1], [] => (dA y0).bind fun c0_ => (dCc c0_).bind fun p0 => (dI .i64 y1).bind fun p1 => G_cubic_Curve cp n p0 p1 (fun r0 => k ⟨(tL r0), []⟩)
  | _, _ => none
def ca_cubic_ctl_grow {R : Type} (cp : Nat → Nat → Bool) (n : Nat) (av : Fr) (cs : List Fr) (k : Ret2 RW → Option R) : Option R := match av, cs with
  | [y0, y1, y2, y3], [w0] => (dP 110 0 y0).bind fun _ => (dI .i64 y1).bind fun p1 => (dI .i64 y2).bind fun p2 => (dI .i64 y3).bind fun p3 => (dctl w0).bind fun q0 => G_cubic_ctl_grow cp n p1 p2 p3 q0 (fun r0 => k ⟨.tup [], [(ectl r0)]⟩)
  | _, _ => none
def ca_cubic_Acked {R : Type} (cp : Nat → Nat → Bool) (n : Nat) (av : Fr) (cs : List Fr) (k : Ret2 RW → Option R) : Option R := match av, cs with
  | [y0, y1, y2, y3, y4], [] => (dA y0).bind fun c0_ => (dCc c0_).bind fun p0 => (dI .i64 y1).bind fun p1 => (dI .i64 y2).bind fun p2 => (dI .i64 y3).bind fun p3 => (dB y4).bind fun p4 => G_cubic_Acked cp n p0 p1 p2 p3 p4 (fun r0 r1 => k ⟨.tup [.agg (eCc r0), (tL r1)], []⟩)
  | _, _ => none
def ca_cubic_ctl_fall {R : Type} (cp : Nat → Nat → Bool) (n : Nat) (av : Fr) (cs : List Fr) (k : Ret2 RW → Option R) : Option R := match av, cs with
  | [y0], [w0] => (dP 57 0 y0).bind fun _ => (dctl w0).bind fun q0 => G_cubic_ctl_fall cp n q0 (fun r0 => k ⟨.tup [], [(ectl r0)]⟩)
  | _, _ => none
def ca_cubic_moved {R : Type} (cp : Nat → Nat → Bool) (n : Nat) (av : Fr) (cs : List Fr) (k : Ret2 RW → Option R) : Option R := match av, cs with
  | [y0, y1, y2], [] => (dA y0).bind fun c0_ => (dCc c0_).bind fun p0 => (dI .i64 y1).bind fun p1 => (dC 40 [] y2).bind fun _ => G_cubic_moved cp n p0 p1 (fun r0 r1 => k ⟨.tup [.agg (eCc r0), (tL r1)], []⟩)
  | _, _ => none
def ca_cubic_Loss {R : Type} (cp : Nat → Nat → Bool) (n : Nat) (av : Fr) (cs : List Fr) (k : Ret2 RW → Option R) : Option R := match av, cs with
  | [y0, y1], [] => (dA y0).bind fun c0_ => (dCc c0_).bind fun p0 => (dI .i64 y1).bind fun p1 => G_cubic_Loss cp n p0 p1 (fun r0 r1 => k ⟨.tup [.agg (eCc r0), (tL r1)], []⟩)
  | _, _ => none
def ca_reno_New {R : Type} (cp : Nat → Nat → Bool) (n : Nat) (av : Fr) (cs : List Fr) (k : Ret2 RW → Option R) : Option R := match av, cs with
  | [y0, y1], [] => (dI .i64 y0).bind fun p0 => (dI .i64 y1).bind fun p1 => G_reno_New cp n p0 p1 (fun r0 r1 => k ⟨.tup [.agg (eCc r0), (tL r1)], []⟩)
  | _, _ => none
def ca_cubic_New {R : Type} (cp : Nat → Nat → Bool) (n : Nat) (av : Fr) (cs : List Fr) (k : Ret2 RW → Option R) : Option R := match av, cs with
  | [y0, y1], [] => (dI .i64 y0).bind fun p0 => (dI .i64 y1).bind fun p1 => G_cubic_New cp n p0 p1 (fun r0 r1 => k ⟨.tup [.agg (eCc r0), (tL r1)], []⟩)
  | _, _ => none
def ca_law16_heads {R : Type} (cp : Nat → Nat → Bool) (n : Nat) (av : Fr) (cs : List Fr) (k : Ret2 RW → Option R) : Option R := match av, cs with
  | [], [] => G_law16_heads cp n (fun r0 => k ⟨(tB r0), []⟩)
  | _, _ => none
def ca_law16_CubicCurve {R : Type} (cp : Nat → Nat → Bool) (n : Nat) (av : Fr) (cs : List Fr) (k : Ret2 RW → Option R) : Option R := match av, cs with
  | [y0, y1, y2], [] => (dA y0).bind fun c0_ => (dCc c0_).bind fun p0 => (dI .i64 y1).bind fun p1 => (dI .i64 y2).bind fun p2 => G_law16_CubicCurve cp n p0 p1 p2 (fun r0 => k ⟨(tB r0), []⟩)
  | _, _ => none
def callP {R : Type} (cp : Nat → Nat → Bool) (n : Nat) (id : Nat) (av : Fr) (cs : List Fr) (k : Ret2 RW → Option R) : Option R := match id with
  | 45 => ca_reno_size cp n av cs k
  | 1004 => ca_reno_ctl_plain cp n av cs k
  | 32 => ca_reno_Check cp n av cs k
  | 24 => ca_cubic_size cp n av cs k
  | 11 => ca_cubic_Check cp n av cs k
  | 49 => ca_math_bits_Mul64 cp n av cs k
  | 52 => ca_math_bits_Len64 cp n av cs k
  | 51 => ca_math_bits_LeadingZeros64 cp n av cs k
  | 50 => ca_math_bits_Div64 cp n av cs k
  | 47 => ca_seq_MulDiv cp n av cs k
  | 37 => ca_cubic_by cp n av cs k
  | 48 => ca_seq_Cbrt cp n av cs k
  | 1009 => ca_cubic_ctl_begin cp n av cs k
  | 36 => ca_seq_Sum cp n av cs k
  | 35 => ca_seq_Clamp cp n av cs k
  | 13 => ca_cubic_Curve cp n av cs k
  | 1008 => ca_cubic_ctl_grow cp n av cs k
  | 8 => ca_cubic_Acked cp n av cs k
  | 1022 => ca_cubic_ctl_fall cp n av cs k
  | 1021 => ca_cubic_moved cp n av cs k
  | 17 => ca_cubic_Loss cp n av cs k
  | 38 => ca_reno_New cp n av cs k
  | 16 => ca_cubic_New cp n av cs k
  | 15 => ca_law16_heads cp n av cs k
  | 5 => ca_law16_CubicCurve cp n av cs k
  | _ => none
end
end Go.Proofs.Ytliknmgcnipbkaa.M
