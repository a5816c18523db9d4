/- The values of the program's functions, and the functions, plain. -/
import Derived.Test.YtgadpgeghlhpnaaMachX
set_option maxRecDepth 100000
set_option linter.unusedVariables false
namespace Go.Proofs.Ytgadpgeghlhpnaa.M
open Go
noncomputable section
def str_ : ByteArray := ⟨#[]⟩
def tab256_2793 : ByteArray := ⟨#[0, 1, 2, 2, 3, 3, 3, 3, 4, 4, 4, 4, 4, 4, 4, 4, 5, 5, 5, 5, 5, 5, 5, 5, 5, 5, 5, 5, 5, 5, 5, 5, 6, 6, 6, 6, 6, 6, 6, 6, 6, 6, 6, 6, 6, 6, 6, 6, 6, 6, 6, 6, 6, 6, 6, 6, 6, 6, 6, 6, 6, 6, 6, 6, 7, 7, 7, 7, 7, 7, 7, 7, 7, 7, 7, 7, 7, 7, 7, 7, 7, 7, 7, 7, 7, 7, 7, 7, 7, 7, 7, 7, 7, 7, 7, 7, 7, 7, 7, 7, 7, 7, 7, 7, 7, 7, 7, 7, 7, 7, 7, 7, 7, 7, 7, 7, 7, 7, 7, 7, 7, 7, 7, 7, 7, 7, 7, 7, 8, 8, 8, 8, 8, 8, 8, 8, 8, 8, 8, 8, 8, 8, 8, 8, 8, 8, 8, 8, 8, 8, 8, 8, 8, 8, 8, 8, 8, 8, 8, 8, 8, 8, 8, 8, 8, 8, 8, 8, 8, 8, 8, 8, 8, 8, 8, 8, 8, 8, 8, 8, 8, 8, 8, 8, 8, 8, 8, 8, 8, 8, 8, 8, 8, 8, 8, 8, 8, 8, 8, 8, 8, 8, 8, 8, 8, 8, 8, 8, 8, 8, 8, 8, 8, 8, 8, 8, 8, 8, 8, 8, 8, 8, 8, 8, 8, 8, 8, 8, 8, 8, 8, 8, 8, 8, 8, 8, 8, 8, 8, 8, 8, 8, 8, 8, 8, 8, 8, 8, 8, 8, 8, 8, 8, 8, 8, 8]⟩
structure SSample where
  xNow : Int
  xAcked : Int
  xRtt : Int
  xRate : Int
  xIdle : Bool
  xGiven : Int
  xBefore : Int
  xFlight : Int
def zSample : SSample := ⟨0, 0, 0, 0, false, 0, 0, 0⟩
structure SEntry where
  xAt : Int
  xV : Int
def zEntry : SEntry := ⟨0, 0⟩
structure SCc where
  xKind : Int
  xMss : Int
  xCwnd : Int
  xSsthresh : Int
  xAcc : Int
  xWmax : Int
  xEpoch : Int
  xK : Int
  xWest : Int
  xStart : Int
  xMode : Int
  xBw : (List SEntry)
  xMinRtt : Int
  xMinAt : Int
  xRound : Int
  xNextAt : Int
  xFull : Int
  xFullN : Int
  xPhase : Int
  xPhaseAt : Int
  xDoneAt : Int
  xPrior : Int
def zCc : SCc := ⟨0, 0, 0, 0, 0, 0, 0, 0, 0, 0, 0, [], 0, 0, 0, 0, 0, 0, 0, 0, 0, 0⟩
def zint : Int := 0
structure Sctl where
  xCc_Kind : Int
  xCc_Mss : Int
  xCc_Cwnd : Int
  xCc_Ssthresh : Int
  xCc_Acc : Int
  xCc_Wmax : Int
  xCc_Epoch : Int
  xCc_K : Int
  xCc_West : Int
  xCc_Start : Int
  xCc_Mode : Int
  xCc_Bw : (List SEntry)
  xCc_MinRtt : Int
  xCc_MinAt : Int
  xCc_Round : Int
  xCc_NextAt : Int
  xCc_Full : Int
  xCc_FullN : Int
  xCc_Phase : Int
  xCc_PhaseAt : Int
  xCc_DoneAt : Int
  xCc_Prior : Int
def zctl : Sctl := ⟨0, 0, 0, 0, 0, 0, 0, 0, 0, 0, 0, [], 0, 0, 0, 0, 0, 0, 0, 0, 0, 0⟩
inductive RW where
  | rSample (xs : List SSample)
  | rEntry (xs : List SEntry)
  | rint (xs : List Int)

abbrev Fr := List (TV RW)
abbrev FF := FT RW
def tI (k : IntKind) (n : Int) : TV RW := .sc (.int k n)
def tL (n : Int) : TV RW := .sc (.int .i64 n)
def tB (b : Bool) : TV RW := .sc (.bool b)
def dT : Nat → Fr → Fr
  | 0, l => l
  | n + 1, l => .dead :: dT n l
def dc : Fr := dT 16 []
def eSample (x : SSample) : List (TV RW) := [(tL x.xNow), (tL x.xAcked), (tL x.xRtt), (tL x.xRate), (tB x.xIdle), (tL x.xGiven), (tL x.xBefore), (tL x.xFlight)]
def eCc (x : SCc) : List (TV RW) := [(tL x.xKind), (tL x.xMss), (tL x.xCwnd), (tL x.xSsthresh), (tL x.xAcc), (tL x.xWmax), (tL x.xEpoch), (tL x.xK), (tL x.xWest), (tL x.xStart), (tL x.xMode), .row false (.rEntry x.xBw), (tL x.xMinRtt), (tL x.xMinAt), (tL x.xRound), (tL x.xNextAt), (tL x.xFull), (tL x.xFullN), (tL x.xPhase), (tL x.xPhaseAt), (tL x.xDoneAt), (tL x.xPrior)]
def eCct (x : SCc) : List (TV RW) := [(tL x.xKind), (tL x.xMss), (tL x.xCwnd), (tL x.xSsthresh), (tL x.xAcc), (tL x.xWmax), (tL x.xEpoch), (tL x.xK), (tL x.xWest), (tL x.xStart), (tL x.xMode), .row true (.rEntry x.xBw), (tL x.xMinRtt), (tL x.xMinAt), (tL x.xRound), (tL x.xNextAt), (tL x.xFull), (tL x.xFullN), (tL x.xPhase), (tL x.xPhaseAt), (tL x.xDoneAt), (tL x.xPrior)]
def eEntry (x : SEntry) : List (TV RW) := [(tL x.xAt), (tL x.xV)]
def ectl (x : Sctl) : List (TV RW) := [(tL x.xCc_Kind), (tL x.xCc_Mss), (tL x.xCc_Cwnd), (tL x.xCc_Ssthresh), (tL x.xCc_Acc), (tL x.xCc_Wmax), (tL x.xCc_Epoch), (tL x.xCc_K), (tL x.xCc_West), (tL x.xCc_Start), (tL x.xCc_Mode), .row false (.rEntry x.xCc_Bw), (tL x.xCc_MinRtt), (tL x.xCc_MinAt), (tL x.xCc_Round), (tL x.xCc_NextAt), (tL x.xCc_Full), (tL x.xCc_FullN), (tL x.xCc_Phase), (tL x.xCc_PhaseAt), (tL x.xCc_DoneAt), (tL x.xCc_Prior)]
def ectlt (x : Sctl) : List (TV RW) := [(tL x.xCc_Kind), (tL x.xCc_Mss), (tL x.xCc_Cwnd), (tL x.xCc_Ssthresh), (tL x.xCc_Acc), (tL x.xCc_Wmax), (tL x.xCc_Epoch), (tL x.xCc_K), (tL x.xCc_West), (tL x.xCc_Start), (tL x.xCc_Mode), .row true (.rEntry x.xCc_Bw), (tL x.xCc_MinRtt), (tL x.xCc_MinAt), (tL x.xCc_Round), (tL x.xCc_NextAt), (tL x.xCc_Full), (tL x.xCc_FullN), (tL x.xCc_Phase), (tL x.xCc_PhaseAt), (tL x.xCc_DoneAt), (tL x.xCc_Prior)]
def eint (x : Int) : List (TV RW) := [(tL x)]
def cSample (x : SSample) : List AV := [.sc (.int .i64 x.xNow), .sc (.int .i64 x.xAcked), .sc (.int .i64 x.xRtt), .sc (.int .i64 x.xRate), .sc (.bool x.xIdle), .sc (.int .i64 x.xGiven), .sc (.int .i64 x.xBefore), .sc (.int .i64 x.xFlight)]
def cEntry (x : SEntry) : List AV := [.sc (.int .i64 x.xAt), .sc (.int .i64 x.xV)]
def cint (x : Int) : List AV := [.sc (.int .i64 x)]
def dOne : Fr → Option (TV RW)
  | [x] => some x
  | _ => none
def dI (kd : IntKind) : TV RW → Option Int
  | .sc (.int k a) => cond (decide (k = kd)) (some a) none
  | _ => none
def dB : TV RW → Option Bool
  | .sc (.bool b) => some b
  | _ => none
def dS : TV RW → Option ByteArray
  | .sc (.string b) => some b
  | _ => none
def dA : TV RW → Option Fr
  | .agg cs => some cs
  | _ => none
def dP (h j : Nat) : TV RW → Option Unit
  | .ptr a b => cond (Nat.beq a h && Nat.beq b j) (some ()) none
  | _ => none
def dC (f : Nat) (cs : List (Nat × Nat)) : TV RW → Option Unit
  | .clo a b => cond (Nat.beq a f && decide (b = cs)) (some ()) none
  | _ => none
def dRSample (fl : Bool) : TV RW → Option (List SSample)
  | .row a (.rSample xs) => cond (a == fl) (some xs) none
  | _ => none
def dREntry (fl : Bool) : TV RW → Option (List SEntry)
  | .row a (.rEntry xs) => cond (a == fl) (some xs) none
  | _ => none
def dRint (fl : Bool) : TV RW → Option (List Int)
  | .row a (.rint xs) => cond (a == fl) (some xs) none
  | _ => none
def dSample : Fr → Option SSample
  | [y0, y1, y2, y3, y4, y5, y6, y7] => (dI .i64 y0).bind fun a0 => (dI .i64 y1).bind fun a1 => (dI .i64 y2).bind fun a2 => (dI .i64 y3).bind fun a3 => (dB y4).bind fun a4 => (dI .i64 y5).bind fun a5 => (dI .i64 y6).bind fun a6 => (dI .i64 y7).bind fun a7 => some ⟨a0, a1, a2, a3, a4, a5, a6, a7⟩
  | _ => none
def dCc : Fr → Option SCc
  | [y0, y1, y2, y3, y4, y5, y6, y7, y8, y9, y10, y11, y12, y13, y14, y15, y16, y17, y18, y19, y20, y21] => (dI .i64 y0).bind fun a0 => (dI .i64 y1).bind fun a1 => (dI .i64 y2).bind fun a2 => (dI .i64 y3).bind fun a3 => (dI .i64 y4).bind fun a4 => (dI .i64 y5).bind fun a5 => (dI .i64 y6).bind fun a6 => (dI .i64 y7).bind fun a7 => (dI .i64 y8).bind fun a8 => (dI .i64 y9).bind fun a9 => (dI .i64 y10).bind fun a10 => (dREntry false y11).bind fun a11 => (dI .i64 y12).bind fun a12 => (dI .i64 y13).bind fun a13 => (dI .i64 y14).bind fun a14 => (dI .i64 y15).bind fun a15 => (dI .i64 y16).bind fun a16 => (dI .i64 y17).bind fun a17 => (dI .i64 y18).bind fun a18 => (dI .i64 y19).bind fun a19 => (dI .i64 y20).bind fun a20 => (dI .i64 y21).bind fun a21 => some ⟨a0, a1, a2, a3, a4, a5, a6, a7, a8, a9, a10, a11, a12, a13, a14, a15, a16, a17, a18, a19, a20, a21⟩
  | _ => none
def dCct : Fr → Option SCc
  | [y0, y1, y2, y3, y4, y5, y6, y7, y8, y9, y10, y11, y12, y13, y14, y15, y16, y17, y18, y19, y20, y21] => (dI .i64 y0).bind fun a0 => (dI .i64 y1).bind fun a1 => (dI .i64 y2).bind fun a2 => (dI .i64 y3).bind fun a3 => (dI .i64 y4).bind fun a4 => (dI .i64 y5).bind fun a5 => (dI .i64 y6).bind fun a6 => (dI .i64 y7).bind fun a7 => (dI .i64 y8).bind fun a8 => (dI .i64 y9).bind fun a9 => (dI .i64 y10).bind fun a10 => (dREntry true y11).bind fun a11 => (dI .i64 y12).bind fun a12 => (dI .i64 y13).bind fun a13 => (dI .i64 y14).bind fun a14 => (dI .i64 y15).bind fun a15 => (dI .i64 y16).bind fun a16 => (dI .i64 y17).bind fun a17 => (dI .i64 y18).bind fun a18 => (dI .i64 y19).bind fun a19 => (dI .i64 y20).bind fun a20 => (dI .i64 y21).bind fun a21 => some ⟨a0, a1, a2, a3, a4, a5, a6, a7, a8, a9, a10, a11, a12, a13, a14, a15, a16, a17, a18, a19, a20, a21⟩
  | _ => none
def dEntry : Fr → Option SEntry
  | [y0, y1] => (dI .i64 y0).bind fun a0 => (dI .i64 y1).bind fun a1 => some ⟨a0, a1⟩
  | _ => none
def dctl : Fr → Option Sctl
  | [y0, y1, y2, y3, y4, y5, y6, y7, y8, y9, y10, y11, y12, y13, y14, y15, y16, y17, y18, y19, y20, y21] => (dI .i64 y0).bind fun a0 => (dI .i64 y1).bind fun a1 => (dI .i64 y2).bind fun a2 => (dI .i64 y3).bind fun a3 => (dI .i64 y4).bind fun a4 => (dI .i64 y5).bind fun a5 => (dI .i64 y6).bind fun a6 => (dI .i64 y7).bind fun a7 => (dI .i64 y8).bind fun a8 => (dI .i64 y9).bind fun a9 => (dI .i64 y10).bind fun a10 => (dREntry false y11).bind fun a11 => (dI .i64 y12).bind fun a12 => (dI .i64 y13).bind fun a13 => (dI .i64 y14).bind fun a14 => (dI .i64 y15).bind fun a15 => (dI .i64 y16).bind fun a16 => (dI .i64 y17).bind fun a17 => (dI .i64 y18).bind fun a18 => (dI .i64 y19).bind fun a19 => (dI .i64 y20).bind fun a20 => (dI .i64 y21).bind fun a21 => some ⟨a0, a1, a2, a3, a4, a5, a6, a7, a8, a9, a10, a11, a12, a13, a14, a15, a16, a17, a18, a19, a20, a21⟩
  | _ => none
def dctlt : Fr → Option Sctl
  | [y0, y1, y2, y3, y4, y5, y6, y7, y8, y9, y10, y11, y12, y13, y14, y15, y16, y17, y18, y19, y20, y21] => (dI .i64 y0).bind fun a0 => (dI .i64 y1).bind fun a1 => (dI .i64 y2).bind fun a2 => (dI .i64 y3).bind fun a3 => (dI .i64 y4).bind fun a4 => (dI .i64 y5).bind fun a5 => (dI .i64 y6).bind fun a6 => (dI .i64 y7).bind fun a7 => (dI .i64 y8).bind fun a8 => (dI .i64 y9).bind fun a9 => (dI .i64 y10).bind fun a10 => (dREntry true y11).bind fun a11 => (dI .i64 y12).bind fun a12 => (dI .i64 y13).bind fun a13 => (dI .i64 y14).bind fun a14 => (dI .i64 y15).bind fun a15 => (dI .i64 y16).bind fun a16 => (dI .i64 y17).bind fun a17 => (dI .i64 y18).bind fun a18 => (dI .i64 y19).bind fun a19 => (dI .i64 y20).bind fun a20 => (dI .i64 y21).bind fun a21 => some ⟨a0, a1, a2, a3, a4, a5, a6, a7, a8, a9, a10, a11, a12, a13, a14, a15, a16, a17, a18, a19, a20, a21⟩
  | _ => none
def pSample_ : Fr → Option (List SSample)
  | [] => some []
  | y0 :: y1 :: y2 :: y3 :: y4 :: y5 :: y6 :: y7 :: r => (dI .i64 y0).bind fun a0 => (dI .i64 y1).bind fun a1 => (dI .i64 y2).bind fun a2 => (dI .i64 y3).bind fun a3 => (dB y4).bind fun a4 => (dI .i64 y5).bind fun a5 => (dI .i64 y6).bind fun a6 => (dI .i64 y7).bind fun a7 => (pSample_ r).bind fun xs => some (⟨a0, a1, a2, a3, a4, a5, a6, a7⟩ :: xs)
  | _ => none

def pEntry_ : Fr → Option (List SEntry)
  | [] => some []
  | y0 :: y1 :: r => (dI .i64 y0).bind fun a0 => (dI .i64 y1).bind fun a1 => (pEntry_ r).bind fun xs => some (⟨a0, a1⟩ :: xs)
  | _ => none

def pint_ : Fr → Option (List Int)
  | [] => some []
  | y0 :: r => (dI .i64 y0).bind fun a0 => (pint_ r).bind fun xs => some (a0 :: xs)

def U : Uni RW where
  sz := fun r => match r with
    | .rSample xs => 8
    | .rEntry xs => 2
    | .rint xs => 1
  len := fun r => match r with
    | .rSample xs => xs.length
    | .rEntry xs => xs.length
    | .rint xs => xs.length
  getA := fun r => match r with
    | .rSample xs => rg cSample zSample xs
    | .rEntry xs => rg cEntry zEntry xs
    | .rint xs => rg cint zint xs
  get := fun r i => match r with
    | .rSample xs => eSample (xs.getD i zSample)
    | .rEntry xs => eEntry (xs.getD i zEntry)
    | .rint xs => eint (xs.getD i zint)
  app := fun r q => match r with
    | .rSample xs => (match q with
      | .rSample ys => some (.rSample (xs ++ ys))
      | _ => none)
    | .rEntry xs => (match q with
      | .rEntry ys => some (.rEntry (xs ++ ys))
      | _ => none)
    | .rint xs => (match q with
      | .rint ys => some (.rint (xs ++ ys))
      | _ => none)
  sub := fun lo n r => match r with
    | .rSample xs => .rSample (List.take n (xs.drop lo))
    | .rEntry xs => .rEntry (List.take n (xs.drop lo))
    | .rint xs => .rint (List.take n (xs.drop lo))
  szt := fun t => match t with
    | 41 => 8
    | 49 => 2
    | 3 => 1
    | _ => 0
  zt := fun t => match t with
    | 41 => eSample zSample
    | 49 => eEntry zEntry
    | 3 => eint zint
    | _ => []
  lit := fun t n L => match t with
    | 41 => (pSample_ L).bind fun xs => cond (Nat.beq xs.length n) (some (.rSample xs)) none
    | 49 => (pEntry_ L).bind fun xs => cond (Nat.beq xs.length n) (some (.rEntry xs)) none
    | 3 => (pint_ L).bind fun xs => cond (Nat.beq xs.length n) (some (.rint xs)) none
    | _ => none
/-! tideway/reno.New -/
def G_reno_New {R : Type} (cp : Nat → Nat → Bool) : Nat → Int → Int → (SCc → Int → Option R) → Option R
  | 0, _, _, _ => none
  | n + 1, p0, p1, k =>
    cond (decide (p0 < 1)) (k (SCc.mk 0 0 0 0 0 0 0 0 0 0 0 [] 0 0 0 0 0 0 0 0 0 0) 2) (cond (decide (65000 < p0)) (k (SCc.mk 0 0 0 0 0 0 0 0 0 0 0 [] 0 0 0 0 0 0 0 0 0 0) 2) (cond (decide (p1 < 1)) (k (SCc.mk 0 0 0 0 0 0 0 0 0 0 0 [] 0 0 0 0 0 0 0 0 0 0) 2) (cond (decide (100 < p1)) (k (SCc.mk 0 0 0 0 0 0 0 0 0 0 0 [] 0 0 0 0 0 0 0 0 0 0) 2) (k (SCc.mk 1 p0 (wr .i64 (p0 * p1)) 1073741824 0 0 0 0 0 0 0 [] 0 0 0 0 0 0 0 0 0 0) 0))))
/-! tideway/bbr.New -/
def G_bbr_New {R : Type} (cp : Nat → Nat → Bool) : Nat → Int → Int → (SCc → Int → Option R) → Option R
  | 0, _, _, _ => none
  | n + 1, p0, p1, k =>
    G_reno_New cp n p0 p1 (fun r1 r2 => cond (decide (r2 = 0)) (k (SCc.mk 3 r1.xMss r1.xCwnd r1.xSsthresh r1.xAcc r1.xWmax r1.xEpoch r1.xK r1.xWest r1.xStart 1 r1.xBw r1.xMinRtt r1.xMinAt r1.xRound r1.xNextAt r1.xFull r1.xFullN r1.xPhase r1.xPhaseAt r1.xDoneAt r1.xPrior) r2) (k r1 r2))
/-! tideway/bbr.within -/
def s_bbr_within_1 {R : Type} (cp : Nat → Nat → Bool) (n : Nat) (p0 : Int) (p1 : (List Int)) (kn : Option R) : Option R :=
  kn
def s_bbr_within_3 {R : Type} (cp : Nat → Nat → Bool) (n : Nat) (p0 : Int) (p1 : (List Int)) (kn : Int → Option R) : Option R :=
  kn (p1.length : Int)
def s_bbr_within_5 {R : Type} (cp : Nat → Nat → Bool) (n : Nat) (p0 : Int) (p1 : (List Int)) (v9 v10 : Int) (kn : Int → Option R) (kr : Option R) (ke0 : Option R) : Option R :=
  cond (decide (v10 < v9)) (cond (decide (0 ≤ v10)) (cond (decide (v10 < (p1.length : Int))) (cond (decide ((p1.getD (Int.toNat v10) zint) < 0)) (kr) (cond (decide (p0 < (p1.getD (Int.toNat v10) zint))) (kr) (kn (wr .i64 (v10 + 1))))) (none)) (none)) (ke0)
def l_bbr_within_10 {R : Type} (cp : Nat → Nat → Bool) (n : Nat) : Nat → Int → (List Int) → Int → Int → (Option R) → (Option R) → Option R
  | 0, _, _, _, _, _, _ => none
  | m + 1, p0, p1, v9, v10, kr, ke0 =>
    s_bbr_within_5 cp n p0 p1 v9 v10 (fun v11 => l_bbr_within_10 cp n m p0 p1 v9 v11 kr ke0) kr ke0
def s_bbr_within_11 {R : Type} (cp : Nat → Nat → Bool) (n : Nat) (p0 : Int) (p1 : (List Int)) (v9 : Int) (kr : Option R) (ke0 : Option R) : Option R :=
  l_bbr_within_10 cp n n p0 p1 v9 0 kr ke0
def s_bbr_within_12 {R : Type} (cp : Nat → Nat → Bool) (n : Nat) (p0 : Int) (p1 : (List Int)) (v9 : Int) (kn : Option R) (kr : Option R) : Option R :=
  s_bbr_within_11 cp n p0 p1 v9 kr kn
def s_bbr_within_13 {R : Type} (cp : Nat → Nat → Bool) (n : Nat) (p0 : Int) (p1 : (List Int)) (kn : Option R) (kr : Option R) : Option R :=
  s_bbr_within_3 cp n p0 p1 (fun v9 => s_bbr_within_12 cp n p0 p1 v9 kn kr)
def s_bbr_within_14 {R : Type} (cp : Nat → Nat → Bool) (n : Nat) (kr : Option R) : Option R :=
  kr
def s_bbr_within_17 {R : Type} (cp : Nat → Nat → Bool) (n : Nat) (p0 : Int) (p1 : (List Int)) (kr : Bool → Option R) : Option R :=
  s_bbr_within_13 cp n p0 p1 (s_bbr_within_14 cp n (kr true)) (kr false)
def s_bbr_within_19 {R : Type} (cp : Nat → Nat → Bool) (n : Nat) (p0 : Int) (p1 : (List Int)) (kr : Bool → Option R) : Option R :=
  s_bbr_within_1 cp n p0 p1 (s_bbr_within_17 cp n p0 p1 (fun v12 => (kr v12)))
def G_bbr_within {R : Type} (cp : Nat → Nat → Bool) : Nat → Int → (List Int) → (Bool → Option R) → Option R
  | 0, _, _, _ => none
  | n + 1, p0, p1, k =>
    s_bbr_within_19 cp n p0 p1 (fun v13 => k v13)
/-! tideway/filter.may -/
def G_filter_may {R : Type} (cp : Nat → Nat → Bool) : Nat → SEntry → (Bool → Option R) → Option R
  | 0, _, _ => none
  | n + 1, p0, k =>
    cond (decide (0 ≤ p0.xAt)) (cond (decide (p0.xAt ≤ 1125899906842624)) (cond (decide (0 ≤ p0.xV)) (k (decide (p0.xV ≤ 1152921504606846976))) (k false)) (k false)) (k false)
/-! tideway/filter.beats -/
def G_filter_beats {R : Type} (cp : Nat → Nat → Bool) : Nat → Int → Int → Bool → (Bool → Option R) → Option R
  | 0, _, _, _, _ => none
  | n + 1, p0, p1, p2, k =>
    cond (p2) (cond (decide (p1 ≤ p0)) (k true) (cond (!p2) (k (decide (p0 ≤ p1))) (k false))) (cond (!p2) (k (decide (p0 ≤ p1))) (k false))
/-! tideway/filter.Check -/
def s_filter_Check_1 {R : Type} (cp : Nat → Nat → Bool) (n : Nat) (p0 : (List SEntry)) (p1 : Bool) (kn : Option R) : Option R :=
  kn
def s_filter_Check_3 {R : Type} (cp : Nat → Nat → Bool) (n : Nat) (p0 : (List SEntry)) (p1 : Bool) (kn : Int → Option R) : Option R :=
  kn (p0.length : Int)
def s_filter_Check_5 {R : Type} (cp : Nat → Nat → Bool) (n : Nat) (p0 : (List SEntry)) (p1 : Bool) (v17 v18 : Int) (kn : Int → Option R) (kr : Option R) (ke0 : Option R) : Option R :=
  cond (decide (v18 < v17)) (cond (decide (0 ≤ v18)) (cond (decide (v18 < (p0.length : Int))) (G_filter_may cp n (p0.getD (Int.toNat v18) zEntry) (fun r19 => cond (!r19) (kr) (cond (decide (0 < v18)) (cond (decide (0 ≤ wr .i64 (v18 - 1))) (cond (decide (wr .i64 (v18 - 1) < (p0.length : Int))) (cond (decide (((p0.getD (Int.toNat v18) zEntry).xAt) ≤ ((p0.getD (Int.toNat (wr .i64 (v18 - 1))) zEntry).xAt))) (kr) (cond (decide (0 ≤ wr .i64 (v18 - 1))) (cond (decide (wr .i64 (v18 - 1) < (p0.length : Int))) (G_filter_beats cp n ((p0.getD (Int.toNat v18) zEntry).xV) ((p0.getD (Int.toNat (wr .i64 (v18 - 1))) zEntry).xV) p1 (fun r20 => cond (r20) (kr) (kn (wr .i64 (v18 + 1))))) (none)) (none))) (none)) (none)) (kn (wr .i64 (v18 + 1)))))) (none)) (none)) (ke0)
def l_filter_Check_10 {R : Type} (cp : Nat → Nat → Bool) (n : Nat) : Nat → (List SEntry) → Bool → Int → Int → (Option R) → (Option R) → Option R
  | 0, _, _, _, _, _, _ => none
  | m + 1, p0, p1, v17, v18, kr, ke0 =>
    s_filter_Check_5 cp n p0 p1 v17 v18 (fun v21 => l_filter_Check_10 cp n m p0 p1 v17 v21 kr ke0) kr ke0
def s_filter_Check_11 {R : Type} (cp : Nat → Nat → Bool) (n : Nat) (p0 : (List SEntry)) (p1 : Bool) (v17 : Int) (kr : Option R) (ke0 : Option R) : Option R :=
  l_filter_Check_10 cp n n p0 p1 v17 0 kr ke0
def s_filter_Check_12 {R : Type} (cp : Nat → Nat → Bool) (n : Nat) (p0 : (List SEntry)) (p1 : Bool) (v17 : Int) (kn : Option R) (kr : Option R) : Option R :=
  s_filter_Check_11 cp n p0 p1 v17 kr kn
def s_filter_Check_13 {R : Type} (cp : Nat → Nat → Bool) (n : Nat) (p0 : (List SEntry)) (p1 : Bool) (kn : Option R) (kr : Option R) : Option R :=
  s_filter_Check_3 cp n p0 p1 (fun v17 => s_filter_Check_12 cp n p0 p1 v17 kn kr)
def s_filter_Check_14 {R : Type} (cp : Nat → Nat → Bool) (n : Nat) (kr : Option R) : Option R :=
  kr
def s_filter_Check_17 {R : Type} (cp : Nat → Nat → Bool) (n : Nat) (p0 : (List SEntry)) (p1 : Bool) (kr : Int → Option R) : Option R :=
  s_filter_Check_13 cp n p0 p1 (s_filter_Check_14 cp n (kr 0)) (kr 2)
def s_filter_Check_19 {R : Type} (cp : Nat → Nat → Bool) (n : Nat) (p0 : (List SEntry)) (p1 : Bool) (kr : Int → Option R) : Option R :=
  s_filter_Check_1 cp n p0 p1 (s_filter_Check_17 cp n p0 p1 (fun v22 => (kr v22)))
def G_filter_Check {R : Type} (cp : Nat → Nat → Bool) : Nat → (List SEntry) → Bool → (Int → Option R) → Option R
  | 0, _, _, _ => none
  | n + 1, p0, p1, k =>
    s_filter_Check_19 cp n p0 p1 (fun v23 => k v23)
/-! (*tideway/bbr.ctl).entries -/
def s_bbr_ctl_entries_1 {R : Type} (cp : Nat → Nat → Bool) (n : Nat) (q0 : Sctl) (kn : Option R) (kr : Option R) : Option R :=
  G_filter_Check cp n q0.xCc_Bw true (fun r24 => cond (!decide (r24 = 0)) (kr) (kn))
def s_bbr_ctl_entries_4 {R : Type} (cp : Nat → Nat → Bool) (n : Nat) (q0 : Sctl) (kn : Int → Option R) : Option R :=
  kn (q0.xCc_Bw.length : Int)
def s_bbr_ctl_entries_6 {R : Type} (cp : Nat → Nat → Bool) (n : Nat) (q0 : Sctl) (v25 v26 : Int) (kn : Int → Option R) (kr : Option R) (ke0 : Option R) : Option R :=
  cond (decide (v26 < v25)) (cond (decide (0 ≤ v26)) (cond (decide (v26 < (q0.xCc_Bw.length : Int))) (cond (decide (1099511627776 < ((q0.xCc_Bw.getD (Int.toNat v26) zEntry).xV))) (kr) (cond (decide (q0.xCc_Round < ((q0.xCc_Bw.getD (Int.toNat v26) zEntry).xAt))) (kr) (kn (wr .i64 (v26 + 1))))) (none)) (none)) (ke0)
def l_bbr_ctl_entries_10 {R : Type} (cp : Nat → Nat → Bool) (n : Nat) : Nat → Sctl → Int → Int → (Option R) → (Option R) → Option R
  | 0, _, _, _, _, _ => none
  | m + 1, q0, v25, v26, kr, ke0 =>
    s_bbr_ctl_entries_6 cp n q0 v25 v26 (fun v27 => l_bbr_ctl_entries_10 cp n m q0 v25 v27 kr ke0) kr ke0
def s_bbr_ctl_entries_11 {R : Type} (cp : Nat → Nat → Bool) (n : Nat) (q0 : Sctl) (v25 : Int) (kr : Option R) (ke0 : Option R) : Option R :=
  l_bbr_ctl_entries_10 cp n n q0 v25 0 kr ke0
def s_bbr_ctl_entries_12 {R : Type} (cp : Nat → Nat → Bool) (n : Nat) (q0 : Sctl) (v25 : Int) (kn : Option R) (kr : Option R) : Option R :=
  s_bbr_ctl_entries_11 cp n q0 v25 kr kn
def s_bbr_ctl_entries_13 {R : Type} (cp : Nat → Nat → Bool) (n : Nat) (q0 : Sctl) (kn : Option R) (kr : Option R) : Option R :=
  s_bbr_ctl_entries_4 cp n q0 (fun v25 => s_bbr_ctl_entries_12 cp n q0 v25 kn kr)
def s_bbr_ctl_entries_14 {R : Type} (cp : Nat → Nat → Bool) (n : Nat) (q0 : Sctl) (kr : Option R) : Option R :=
  kr
def s_bbr_ctl_entries_17 {R : Type} (cp : Nat → Nat → Bool) (n : Nat) (q0 : Sctl) (kr : Bool → Option R) : Option R :=
  s_bbr_ctl_entries_13 cp n q0 (s_bbr_ctl_entries_14 cp n q0 (kr true)) (kr false)
def s_bbr_ctl_entries_19 {R : Type} (cp : Nat → Nat → Bool) (n : Nat) (q0 : Sctl) (kr : Bool → Option R) : Option R :=
  s_bbr_ctl_entries_1 cp n q0 (s_bbr_ctl_entries_17 cp n q0 (fun v28 => (kr v28))) (kr false)
def G_bbr_ctl_entries {R : Type} (cp : Nat → Nat → Bool) : Nat → Sctl → (Bool → Sctl → Option R) → Option R
  | 0, _, _ => none
  | n + 1, q0, k =>
    s_bbr_ctl_entries_19 cp n q0 (fun v29 => k v29 q0)
/-! tideway/bbr.Check -/
def s_bbr_Check_1 {R : Type} (cp : Nat → Nat → Bool) (n : Nat) (p0 : SCc) (kn : Option R) : Option R :=
  kn
def s_bbr_Check_3 {R : Type} (cp : Nat → Nat → Bool) (n : Nat) (p0 : SCc) (kn : Bool → Option R) : Option R :=
  cond (decide (p0.xKind = 3)) (cond (decide (1 ≤ p0.xMss)) (cond (decide (p0.xMss ≤ 65000)) (cond (decide (p0.xMss ≤ p0.xCwnd)) (cond (decide (p0.xCwnd ≤ 1073741824)) (cond (decide (p0.xSsthresh = 1073741824)) (kn (decide (p0.xAcc = 0))) (kn false)) (kn false)) (kn false)) (kn false)) (kn false)) (kn false)
def s_bbr_Check_5 {R : Type} (cp : Nat → Nat → Bool) (n : Nat) (p0 : SCc) (v9 : Bool) (kn : Bool → Option R) : Option R :=
  cond (decide (p0.xWmax = 0)) (cond (decide (p0.xEpoch = 0)) (cond (decide (p0.xK = 0)) (cond (decide (p0.xWest = 0)) (kn (decide (p0.xStart = 0))) (kn false)) (kn false)) (kn false)) (kn false)
def s_bbr_Check_7 {R : Type} (cp : Nat → Nat → Bool) (n : Nat) (p0 : SCc) (v9 v10 : Bool) (kn : Bool → Option R) : Option R :=
  G_bbr_within cp n 1125899906842624 [p0.xMinRtt, p0.xMinAt, p0.xNextAt, p0.xPhaseAt, p0.xDoneAt, p0.xRound] (fun r11 => kn r11)
def s_bbr_Check_9 {R : Type} (cp : Nat → Nat → Bool) (n : Nat) (p0 : SCc) (v9 v10 v12 : Bool) (kn : Bool → Option R) : Option R :=
  G_bbr_within cp n 1099511627776 [p0.xFull] (fun r13 => cond (r13) (G_bbr_within cp n 3 [p0.xFullN] (fun r14 => cond (r14) (G_bbr_within cp n 7 [p0.xPhase] (fun r15 => cond (r15) (G_bbr_within cp n 1073741824 [p0.xPrior] (fun r16 => kn r16)) (kn false))) (kn false))) (kn false))
def s_bbr_Check_11 {R : Type} (cp : Nat → Nat → Bool) (n : Nat) (p0 : SCc) (v9 v10 v12 v17 : Bool) (kr : Int → Option R) : Option R :=
  cond (!v9) (kr 230) (cond (!v10) (kr 230) (cond (!v12) (kr 230) (cond (!v17) (kr 230) (cond (decide (p0.xMode < 1)) (kr 230) (cond (decide (4 < p0.xMode)) (kr 230) (G_bbr_ctl_entries cp n (Sctl.mk p0.xKind p0.xMss p0.xCwnd p0.xSsthresh p0.xAcc p0.xWmax p0.xEpoch p0.xK p0.xWest p0.xStart p0.xMode p0.xBw p0.xMinRtt p0.xMinAt p0.xRound p0.xNextAt p0.xFull p0.xFullN p0.xPhase p0.xPhaseAt p0.xDoneAt p0.xPrior) (fun r18 r19 => cond (!r18) (kr 230) (kr 0))))))))
def s_bbr_Check_14 {R : Type} (cp : Nat → Nat → Bool) (n : Nat) (p0 : SCc) (v9 v10 v12 : Bool) (kr : Int → Option R) : Option R :=
  s_bbr_Check_9 cp n p0 v9 v10 v12 (fun v17 => s_bbr_Check_11 cp n p0 v9 v10 v12 v17 (fun v20 => (kr v20)))
def s_bbr_Check_16 {R : Type} (cp : Nat → Nat → Bool) (n : Nat) (p0 : SCc) (v9 v10 : Bool) (kr : Int → Option R) : Option R :=
  s_bbr_Check_7 cp n p0 v9 v10 (fun v12 => s_bbr_Check_14 cp n p0 v9 v10 v12 (fun v21 => (kr v21)))
def s_bbr_Check_18 {R : Type} (cp : Nat → Nat → Bool) (n : Nat) (p0 : SCc) (v9 : Bool) (kr : Int → Option R) : Option R :=
  s_bbr_Check_5 cp n p0 v9 (fun v10 => s_bbr_Check_16 cp n p0 v9 v10 (fun v22 => (kr v22)))
def s_bbr_Check_20 {R : Type} (cp : Nat → Nat → Bool) (n : Nat) (p0 : SCc) (kr : Int → Option R) : Option R :=
  s_bbr_Check_3 cp n p0 (fun v9 => s_bbr_Check_18 cp n p0 v9 (fun v23 => (kr v23)))
def s_bbr_Check_22 {R : Type} (cp : Nat → Nat → Bool) (n : Nat) (p0 : SCc) (kr : Int → Option R) : Option R :=
  s_bbr_Check_1 cp n p0 (s_bbr_Check_20 cp n p0 (fun v24 => (kr v24)))
def G_bbr_Check {R : Type} (cp : Nat → Nat → Bool) : Nat → SCc → (Int → Option R) → Option R
  | 0, _, _ => none
  | n + 1, p0, k =>
    s_bbr_Check_22 cp n p0 (fun v25 => k v25)
/-! (*tideway/bbr.ctl).round -/
def G_bbr_ctl_round {R : Type} (cp : Nat → Nat → Bool) : Nat → SSample → Sctl → (Bool → Sctl → Option R) → Option R
  | 0, _, _, _ => none
  | n + 1, p1, q0, k =>
    cond (decide (p1.xBefore < q0.xCc_NextAt)) (k false q0) (k true (Sctl.mk q0.xCc_Kind q0.xCc_Mss q0.xCc_Cwnd q0.xCc_Ssthresh q0.xCc_Acc q0.xCc_Wmax q0.xCc_Epoch q0.xCc_K q0.xCc_West q0.xCc_Start q0.xCc_Mode q0.xCc_Bw q0.xCc_MinRtt q0.xCc_MinAt (mn 1125899906842624 (wr .i64 (q0.xCc_Round + 1))) p1.xGiven q0.xCc_Full q0.xCc_FullN q0.xCc_Phase q0.xCc_PhaseAt q0.xCc_DoneAt q0.xCc_Prior))
/-! tideway/filter.Best -/
def G_filter_Best {R : Type} (cp : Nat → Nat → Bool) : Nat → (List SEntry) → (Int → Bool → Option R) → Option R
  | 0, _, _ => none
  | n + 1, p0, k =>
    cond (decide ((p0.length : Int) = 0)) (k 0 false) (cond (decide (0 < (p0.length : Int))) (k ((p0.getD 0 zEntry).xV) true) (none))
/-! (*tideway/bbr.ctl).bandwidth -/
def G_bbr_ctl_bandwidth {R : Type} (cp : Nat → Nat → Bool) : Nat → Sctl → (Int → Sctl → Option R) → Option R
  | 0, _, _ => none
  | n + 1, q0, k =>
    G_filter_Best cp n q0.xCc_Bw (fun r31 r32 => k r31 q0)
/-! tideway/filter.Put -/
def s_filter_Put_1 {R : Type} (cp : Nat → Nat → Bool) (n : Nat) (p0 : (List SEntry)) (p1 p2 p3 : Int) (p4 : Bool) (kn : Int → Option R) (kr : Option R) : Option R :=
  G_filter_Check cp n p0 p4 (fun r38 => cond (!decide (r38 = 0)) (kr) (G_filter_may cp n (SEntry.mk p1 p2) (fun r39 => cond (!r39) (kr) (G_filter_may cp n (SEntry.mk p3 0) (fun r40 => cond (!r40) (kr) (cond (decide (0 < (p0.length : Int))) (cond (decide (0 ≤ wr .i64 ((p0.length : Int) - 1))) (cond (decide (wr .i64 ((p0.length : Int) - 1) < (p0.length : Int))) (cond (decide (p1 ≤ ((p0.getD (Int.toNat (wr .i64 ((p0.length : Int) - 1))) zEntry).xAt))) (kr) (kn (p0.length : Int))) (none)) (none)) (kn (p0.length : Int))))))))
def s_filter_Put_4 {R : Type} (cp : Nat → Nat → Bool) (n : Nat) (p0 : (List SEntry)) (p1 p2 p3 : Int) (p4 : Bool) (v41 v42 : Int) (kn : Int → Option R) (ke0 : Option R) : Option R :=
  cond (decide (v42 < v41)) (cond (decide (0 ≤ v42)) (cond (decide (v42 < (p0.length : Int))) (cond (decide ((wr .i64 (((p0.getD (Int.toNat v42) zEntry).xAt) + p3)) < p1)) (kn (wr .i64 (v42 + 1))) (ke0)) (none)) (none)) (ke0)
def l_filter_Put_9 {R : Type} (cp : Nat → Nat → Bool) (n : Nat) : Nat → (List SEntry) → Int → Int → Int → Bool → Int → Int → (Int → Option R) → Option R
  | 0, _, _, _, _, _, _, _, _ => none
  | m + 1, p0, p1, p2, p3, p4, v41, v42, ke0 =>
    s_filter_Put_4 cp n p0 p1 p2 p3 p4 v41 v42 (fun v43 => l_filter_Put_9 cp n m p0 p1 p2 p3 p4 v41 v43 ke0) (ke0 v42)
def s_filter_Put_10 {R : Type} (cp : Nat → Nat → Bool) (n : Nat) (p0 : (List SEntry)) (p1 p2 p3 : Int) (p4 : Bool) (v41 : Int) (ke0 : Int → Option R) : Option R :=
  l_filter_Put_9 cp n n p0 p1 p2 p3 p4 v41 0 ke0
def s_filter_Put_12 {R : Type} (cp : Nat → Nat → Bool) (n : Nat) (p0 : (List SEntry)) (p1 p2 p3 : Int) (p4 : Bool) (v41 : Int) (kn : Int → Option R) : Option R :=
  s_filter_Put_10 cp n p0 p1 p2 p3 p4 v41 (fun v44 => (kn v44))
def s_filter_Put_13 {R : Type} (cp : Nat → Nat → Bool) (n : Nat) (p0 : (List SEntry)) (p1 p2 : Int) (p4 : Bool) (v45 v46 : Int) (kn : Int → Option R) (ke2 : Option R) : Option R :=
  cond (decide (v45 < v46)) (cond (decide (0 ≤ wr .i64 (v46 - 1))) (cond (decide (wr .i64 (v46 - 1) < (p0.length : Int))) (G_filter_beats cp n p2 ((p0.getD (Int.toNat (wr .i64 (v46 - 1))) zEntry).xV) p4 (fun r47 => cond (r47) (kn (wr .i64 (v46 - 1))) (ke2))) (none)) (none)) (ke2)
def l_filter_Put_18 {R : Type} (cp : Nat → Nat → Bool) (n : Nat) : Nat → (List SEntry) → Int → Int → Bool → Int → Int → (Int → Option R) → Option R
  | 0, _, _, _, _, _, _, _ => none
  | m + 1, p0, p1, p2, p4, v45, v46, ke2 =>
    s_filter_Put_13 cp n p0 p1 p2 p4 v45 v46 (fun v48 => l_filter_Put_18 cp n m p0 p1 p2 p4 v45 v48 ke2) (ke2 v46)
def s_filter_Put_19 {R : Type} (cp : Nat → Nat → Bool) (n : Nat) (p0 : (List SEntry)) (p1 p2 : Int) (p4 : Bool) (v41 v45 : Int) (ke2 : Int → Option R) : Option R :=
  l_filter_Put_18 cp n n p0 p1 p2 p4 v45 v41 ke2
def s_filter_Put_21 {R : Type} (cp : Nat → Nat → Bool) (n : Nat) (p0 : (List SEntry)) (p1 p2 : Int) (p4 : Bool) (v41 v45 : Int) (kn : Int → Option R) : Option R :=
  s_filter_Put_19 cp n p0 p1 p2 p4 v41 v45 (fun v49 => (kn v49))
def s_filter_Put_22 {R : Type} (cp : Nat → Nat → Bool) (n : Nat) (p0 : (List SEntry)) (p1 p2 v45 v50 : Int) (kr : (List SEntry) → Option R) : Option R :=
  cond (decide (0 ≤ v45)) (cond (decide (v45 ≤ v50)) (cond (decide (v50 ≤ (p0.length : Int))) (cond (decide (v50 = v50)) (cond (cp ((List.take ((Int.toNat v50) - (Int.toNat v45)) (p0.drop (Int.toNat v45))).length + [(SEntry.mk p1 p2)].length) 16) (kr ((List.take ((Int.toNat v50) - (Int.toNat v45)) (p0.drop (Int.toNat v45))) ++ [(SEntry.mk p1 p2)])) (none)) (none)) (none)) (none)) (none)
def s_filter_Put_25 {R : Type} (cp : Nat → Nat → Bool) (n : Nat) (p0 : (List SEntry)) (p1 p2 : Int) (p4 : Bool) (v41 v45 : Int) (kr : (List SEntry) → Option R) : Option R :=
  s_filter_Put_21 cp n p0 p1 p2 p4 v41 v45 (fun v50 => s_filter_Put_22 cp n p0 p1 p2 v45 v50 (fun v51 => (kr v51)))
def s_filter_Put_27 {R : Type} (cp : Nat → Nat → Bool) (n : Nat) (p0 : (List SEntry)) (p1 p2 p3 : Int) (p4 : Bool) (v41 : Int) (kr : (List SEntry) → Option R) : Option R :=
  s_filter_Put_12 cp n p0 p1 p2 p3 p4 v41 (fun v45 => s_filter_Put_25 cp n p0 p1 p2 p4 v41 v45 (fun v52 => (kr v52)))
def s_filter_Put_29 {R : Type} (cp : Nat → Nat → Bool) (n : Nat) (p0 : (List SEntry)) (p1 p2 p3 : Int) (p4 : Bool) (kr : (List SEntry) → Int → Option R) : Option R :=
  s_filter_Put_1 cp n p0 p1 p2 p3 p4 (fun v41 => s_filter_Put_27 cp n p0 p1 p2 p3 p4 v41 (fun v53 => (kr v53 0))) (kr [] 2)
def G_filter_Put {R : Type} (cp : Nat → Nat → Bool) : Nat → (List SEntry) → Int → Int → Int → Bool → ((List SEntry) → Int → Option R) → Option R
  | 0, _, _, _, _, _, _ => none
  | n + 1, p0, p1, p2, p3, p4, k =>
    s_filter_Put_29 cp n p0 p1 p2 p3 p4 (fun v54 v55 => k v54 v55)
/-! (*tideway/bbr.ctl).speed -/
def s_bbr_ctl_speed_1 {R : Type} (cp : Nat → Nat → Bool) (n : Nat) (p1 : SSample) (q0 : Sctl) (kn : Int → Option R) (kr : Option R) : Option R :=
  cond (decide ((mn 1099511627776 p1.xRate) = 0)) (kr) (cond (p1.xIdle) (G_bbr_ctl_bandwidth cp n q0 (fun r33 r34 => cond (decide ((mn 1099511627776 p1.xRate) < r33)) (kr) (kn (mn 1099511627776 p1.xRate)))) (kn (mn 1099511627776 p1.xRate)))
def s_bbr_ctl_speed_4 {R : Type} (cp : Nat → Nat → Bool) (n : Nat) (q0 : Sctl) (v35 : Int) (kn : (List SEntry) → Option R) : Option R :=
  cond (decide (0 < (q0.xCc_Bw.length : Int))) (cond (decide (0 ≤ wr .i64 ((q0.xCc_Bw.length : Int) - 1))) (cond (decide (wr .i64 ((q0.xCc_Bw.length : Int) - 1) < (q0.xCc_Bw.length : Int))) (cond (decide (((q0.xCc_Bw.getD (Int.toNat (wr .i64 ((q0.xCc_Bw.length : Int) - 1))) zEntry).xAt) = q0.xCc_Round)) (cond (decide (0 ≤ wr .i64 ((q0.xCc_Bw.length : Int) - 1))) (cond (decide (wr .i64 ((q0.xCc_Bw.length : Int) - 1) < (q0.xCc_Bw.length : Int))) (cond (decide (0 ≤ wr .i64 ((q0.xCc_Bw.length : Int) - 1))) (cond (decide (wr .i64 ((q0.xCc_Bw.length : Int) - 1) ≤ (q0.xCc_Bw.length : Int))) (cond (decide (wr .i64 ((q0.xCc_Bw.length : Int) - 1) = wr .i64 ((q0.xCc_Bw.length : Int) - 1))) (G_filter_Put cp n (q0.xCc_Bw.take (Int.toNat (wr .i64 ((q0.xCc_Bw.length : Int) - 1)))) q0.xCc_Round (mx v35 ((q0.xCc_Bw.getD (Int.toNat (wr .i64 ((q0.xCc_Bw.length : Int) - 1))) zEntry).xV)) 10 true (fun r36 r37 => kn r36)) (none)) (none)) (none)) (none)) (none)) (G_filter_Put cp n q0.xCc_Bw q0.xCc_Round v35 10 true (fun r38 r39 => kn r38))) (none)) (none)) (G_filter_Put cp n q0.xCc_Bw q0.xCc_Round v35 10 true (fun r40 r41 => kn r40))
def s_bbr_ctl_speed_7 {R : Type} (cp : Nat → Nat → Bool) (n : Nat) (p1 : SSample) (q0 : Sctl) (kn : (List SEntry) → Option R) (kr : Option R) : Option R :=
  s_bbr_ctl_speed_1 cp n p1 q0 (fun v35 => s_bbr_ctl_speed_4 cp n q0 v35 (fun v42 => (kn v42))) kr
def G_bbr_ctl_speed {R : Type} (cp : Nat → Nat → Bool) : Nat → SSample → Sctl → (Sctl → Option R) → Option R
  | 0, _, _, _ => none
  | n + 1, p1, q0, k =>
    s_bbr_ctl_speed_7 cp n p1 q0 (fun v43 => k (Sctl.mk q0.xCc_Kind q0.xCc_Mss q0.xCc_Cwnd q0.xCc_Ssthresh q0.xCc_Acc q0.xCc_Wmax q0.xCc_Epoch q0.xCc_K q0.xCc_West q0.xCc_Start q0.xCc_Mode v43 q0.xCc_MinRtt q0.xCc_MinAt q0.xCc_Round q0.xCc_NextAt q0.xCc_Full q0.xCc_FullN q0.xCc_Phase q0.xCc_PhaseAt q0.xCc_DoneAt q0.xCc_Prior)) (k q0)
/-! (*tideway/bbr.ctl).shortest -/
def G_bbr_ctl_shortest {R : Type} (cp : Nat → Nat → Bool) : Nat → SSample → Sctl → (Bool → Sctl → Option R) → Option R
  | 0, _, _, _ => none
  | n + 1, p1, q0, k =>
    cond (decide (0 < q0.xCc_MinRtt)) (cond (decide (0 < p1.xRtt)) (cond (decide (10000000 < (wr .i64 (p1.xNow - q0.xCc_MinAt)))) (k (decide (10000000 < (wr .i64 (p1.xNow - q0.xCc_MinAt)))) (Sctl.mk q0.xCc_Kind q0.xCc_Mss q0.xCc_Cwnd q0.xCc_Ssthresh q0.xCc_Acc q0.xCc_Wmax q0.xCc_Epoch q0.xCc_K q0.xCc_West q0.xCc_Start q0.xCc_Mode q0.xCc_Bw p1.xRtt p1.xNow q0.xCc_Round q0.xCc_NextAt q0.xCc_Full q0.xCc_FullN q0.xCc_Phase q0.xCc_PhaseAt q0.xCc_DoneAt q0.xCc_Prior)) (cond (decide (q0.xCc_MinRtt = 0)) (k (decide (10000000 < (wr .i64 (p1.xNow - q0.xCc_MinAt)))) (Sctl.mk q0.xCc_Kind q0.xCc_Mss q0.xCc_Cwnd q0.xCc_Ssthresh q0.xCc_Acc q0.xCc_Wmax q0.xCc_Epoch q0.xCc_K q0.xCc_West q0.xCc_Start q0.xCc_Mode q0.xCc_Bw p1.xRtt p1.xNow q0.xCc_Round q0.xCc_NextAt q0.xCc_Full q0.xCc_FullN q0.xCc_Phase q0.xCc_PhaseAt q0.xCc_DoneAt q0.xCc_Prior)) (cond (decide (p1.xRtt ≤ q0.xCc_MinRtt)) (k (decide (10000000 < (wr .i64 (p1.xNow - q0.xCc_MinAt)))) (Sctl.mk q0.xCc_Kind q0.xCc_Mss q0.xCc_Cwnd q0.xCc_Ssthresh q0.xCc_Acc q0.xCc_Wmax q0.xCc_Epoch q0.xCc_K q0.xCc_West q0.xCc_Start q0.xCc_Mode q0.xCc_Bw p1.xRtt p1.xNow q0.xCc_Round q0.xCc_NextAt q0.xCc_Full q0.xCc_FullN q0.xCc_Phase q0.xCc_PhaseAt q0.xCc_DoneAt q0.xCc_Prior)) (k (decide (10000000 < (wr .i64 (p1.xNow - q0.xCc_MinAt)))) q0)))) (k (decide (10000000 < (wr .i64 (p1.xNow - q0.xCc_MinAt)))) q0)) (cond (decide (0 < p1.xRtt)) (cond (decide (q0.xCc_MinRtt = 0)) (k false (Sctl.mk q0.xCc_Kind q0.xCc_Mss q0.xCc_Cwnd q0.xCc_Ssthresh q0.xCc_Acc q0.xCc_Wmax q0.xCc_Epoch q0.xCc_K q0.xCc_West q0.xCc_Start q0.xCc_Mode q0.xCc_Bw p1.xRtt p1.xNow q0.xCc_Round q0.xCc_NextAt q0.xCc_Full q0.xCc_FullN q0.xCc_Phase q0.xCc_PhaseAt q0.xCc_DoneAt q0.xCc_Prior)) (cond (decide (p1.xRtt ≤ q0.xCc_MinRtt)) (k false (Sctl.mk q0.xCc_Kind q0.xCc_Mss q0.xCc_Cwnd q0.xCc_Ssthresh q0.xCc_Acc q0.xCc_Wmax q0.xCc_Epoch q0.xCc_K q0.xCc_West q0.xCc_Start q0.xCc_Mode q0.xCc_Bw p1.xRtt p1.xNow q0.xCc_Round q0.xCc_NextAt q0.xCc_Full q0.xCc_FullN q0.xCc_Phase q0.xCc_PhaseAt q0.xCc_DoneAt q0.xCc_Prior)) (k false q0))) (k false q0))
/-! (*tideway/bbr.ctl).full -/
def G_bbr_ctl_full {R : Type} (cp : Nat → Nat → Bool) : Nat → Sctl → (Sctl → Option R) → Option R
  | 0, _, _ => none
  | n + 1, q0, k =>
    G_bbr_ctl_bandwidth cp n q0 (fun r27 r28 => cond (decide (r27 = 0)) (k q0) (cond (decide ((wr .i64 (5 * q0.xCc_Full)) ≤ (wr .i64 (4 * r27)))) (k (Sctl.mk q0.xCc_Kind q0.xCc_Mss q0.xCc_Cwnd q0.xCc_Ssthresh q0.xCc_Acc q0.xCc_Wmax q0.xCc_Epoch q0.xCc_K q0.xCc_West q0.xCc_Start q0.xCc_Mode q0.xCc_Bw q0.xCc_MinRtt q0.xCc_MinAt q0.xCc_Round q0.xCc_NextAt r27 0 q0.xCc_Phase q0.xCc_PhaseAt q0.xCc_DoneAt q0.xCc_Prior)) (cond (decide ((mn 3 (wr .i64 (q0.xCc_FullN + 1))) = 3)) (k (Sctl.mk q0.xCc_Kind q0.xCc_Mss q0.xCc_Cwnd q0.xCc_Ssthresh q0.xCc_Acc q0.xCc_Wmax q0.xCc_Epoch q0.xCc_K q0.xCc_West q0.xCc_Start 2 q0.xCc_Bw q0.xCc_MinRtt q0.xCc_MinAt q0.xCc_Round q0.xCc_NextAt q0.xCc_Full (mn 3 (wr .i64 (q0.xCc_FullN + 1))) q0.xCc_Phase q0.xCc_PhaseAt q0.xCc_DoneAt q0.xCc_Prior)) (k (Sctl.mk q0.xCc_Kind q0.xCc_Mss q0.xCc_Cwnd q0.xCc_Ssthresh q0.xCc_Acc q0.xCc_Wmax q0.xCc_Epoch q0.xCc_K q0.xCc_West q0.xCc_Start q0.xCc_Mode q0.xCc_Bw q0.xCc_MinRtt q0.xCc_MinAt q0.xCc_Round q0.xCc_NextAt q0.xCc_Full (mn 3 (wr .i64 (q0.xCc_FullN + 1))) q0.xCc_Phase q0.xCc_PhaseAt q0.xCc_DoneAt q0.xCc_Prior)))))
/-! math/bits.Mul64 -/
def G_math_bits_Mul64 {R : Type} (cp : Nat → Nat → Bool) : Nat → Int → Int → (Int → Int → Option R) → Option R
  | 0, _, _, _ => none
  | n + 1, p0, p1, k =>
    k (wr .u64 ((wr .u64 ((wr .u64 ((shr .u64 p0 32) * (shr .u64 p1 32))) + (shr .u64 (wr .u64 ((wr .u64 ((shr .u64 p0 32) * (bits .and .u64 p1 4294967295))) + (shr .u64 (wr .u64 ((bits .and .u64 p0 4294967295) * (bits .and .u64 p1 4294967295))) 32))) 32))) + (shr .u64 (wr .u64 ((bits .and .u64 (wr .u64 ((wr .u64 ((shr .u64 p0 32) * (bits .and .u64 p1 4294967295))) + (shr .u64 (wr .u64 ((bits .and .u64 p0 4294967295) * (bits .and .u64 p1 4294967295))) 32))) 4294967295) + (wr .u64 ((bits .and .u64 p0 4294967295) * (shr .u64 p1 32))))) 32))) (wr .u64 (p0 * p1))
/-! math/bits.Len64 -/
def G_math_bits_Len64 {R : Type} (cp : Nat → Nat → Bool) : Nat → Int → (Int → Option R) → Option R
  | 0, _, _ => none
  | n + 1, p0, k =>
    cond (decide (4294967296 ≤ p0)) (cond (decide (65536 ≤ (shr .u64 p0 32))) (cond (decide (256 ≤ (shr .u64 (shr .u64 p0 32) 16))) (cond (decide (0 ≤ wr .u8 (shr .u64 (shr .u64 (shr .u64 p0 32) 16) 8))) (cond (decide (wr .u8 (shr .u64 (shr .u64 (shr .u64 p0 32) 16) 8) < (ByteArray.size tab256_2793 : Int))) (k (wr .i64 ((wr .i64 ((wr .i64 (32 + 16)) + 8)) + (wr .i64 ((tab256_2793.data.getD (Int.toNat (wr .u8 (shr .u64 (shr .u64 (shr .u64 p0 32) 16) 8))) 0).toNat : Int))))) (none)) (none)) (cond (decide (0 ≤ wr .u8 (shr .u64 (shr .u64 p0 32) 16))) (cond (decide (wr .u8 (shr .u64 (shr .u64 p0 32) 16) < (ByteArray.size tab256_2793 : Int))) (k (wr .i64 ((wr .i64 (32 + 16)) + (wr .i64 ((tab256_2793.data.getD (Int.toNat (wr .u8 (shr .u64 (shr .u64 p0 32) 16))) 0).toNat : Int))))) (none)) (none))) (cond (decide (256 ≤ (shr .u64 p0 32))) (cond (decide (0 ≤ wr .u8 (shr .u64 (shr .u64 p0 32) 8))) (cond (decide (wr .u8 (shr .u64 (shr .u64 p0 32) 8) < (ByteArray.size tab256_2793 : Int))) (k (wr .i64 ((wr .i64 (32 + 8)) + (wr .i64 ((tab256_2793.data.getD (Int.toNat (wr .u8 (shr .u64 (shr .u64 p0 32) 8))) 0).toNat : Int))))) (none)) (none)) (cond (decide (0 ≤ wr .u8 (shr .u64 p0 32))) (cond (decide (wr .u8 (shr .u64 p0 32) < (ByteArray.size tab256_2793 : Int))) (k (wr .i64 (32 + (wr .i64 ((tab256_2793.data.getD (Int.toNat (wr .u8 (shr .u64 p0 32))) 0).toNat : Int))))) (none)) (none)))) (cond (decide (65536 ≤ p0)) (cond (decide (256 ≤ (shr .u64 p0 16))) (cond (decide (0 ≤ wr .u8 (shr .u64 (shr .u64 p0 16) 8))) (cond (decide (wr .u8 (shr .u64 (shr .u64 p0 16) 8) < (ByteArray.size tab256_2793 : Int))) (k (wr .i64 ((wr .i64 ((wr .i64 (0 + 16)) + 8)) + (wr .i64 ((tab256_2793.data.getD (Int.toNat (wr .u8 (shr .u64 (shr .u64 p0 16) 8))) 0).toNat : Int))))) (none)) (none)) (cond (decide (0 ≤ wr .u8 (shr .u64 p0 16))) (cond (decide (wr .u8 (shr .u64 p0 16) < (ByteArray.size tab256_2793 : Int))) (k (wr .i64 ((wr .i64 (0 + 16)) + (wr .i64 ((tab256_2793.data.getD (Int.toNat (wr .u8 (shr .u64 p0 16))) 0).toNat : Int))))) (none)) (none))) (cond (decide (256 ≤ p0)) (cond (decide (0 ≤ wr .u8 (shr .u64 p0 8))) (cond (decide (wr .u8 (shr .u64 p0 8) < (ByteArray.size tab256_2793 : Int))) (k (wr .i64 ((wr .i64 (0 + 8)) + (wr .i64 ((tab256_2793.data.getD (Int.toNat (wr .u8 (shr .u64 p0 8))) 0).toNat : Int))))) (none)) (none)) (cond (decide (0 ≤ wr .u8 p0)) (cond (decide (wr .u8 p0 < (ByteArray.size tab256_2793 : Int))) (k (wr .i64 (0 + (wr .i64 ((tab256_2793.data.getD (Int.toNat (wr .u8 p0)) 0).toNat : Int))))) (none)) (none))))
/-! math/bits.LeadingZeros64 -/
def G_math_bits_LeadingZeros64 {R : Type} (cp : Nat → Nat → Bool) : Nat → Int → (Int → Option R) → Option R
  | 0, _, _ => none
  | n + 1, p0, k =>
    G_math_bits_Len64 cp n p0 (fun r34 => k (wr .i64 (64 - r34)))
/-! math/bits.Div64 -/
def s_math_bits_Div64_1 {R : Type} (cp : Nat → Nat → Bool) (n : Nat) (p0 p1 p2 : Int) (kn : Int → Int → Int → Int → Int → Int → Int → Int → Int → Option R) (kr : Int → Int → Option R) : Option R :=
  cond (decide (p2 = 0)) (none) (cond (decide (p2 ≤ p0)) (none) (cond (decide (p0 = 0)) (cond (decide (p2 = 0)) (none) (cond (decide (p2 = 0)) (none) (kr (wr .u64 (Int.tdiv p1 p2)) (Int.tmod p1 p2)))) (G_math_bits_LeadingZeros64 cp n p2 (fun r44 => cond (decide ((wr .u64 r44) < 0)) (none) (cond (decide ((wr .u64 r44) < 0)) (none) (cond (decide ((wr .u64 (64 - (wr .u64 r44))) < 0)) (none) (cond (decide ((wr .u64 r44) < 0)) (none) (cond (decide ((shr .u64 (shl .u64 p2 (wr .u64 r44)) 32) = 0)) (none) (kn (shl .u64 p2 (wr .u64 r44)) (wr .u64 r44) (shr .u64 (shl .u64 p2 (wr .u64 r44)) 32) (bits .and .u64 (shl .u64 p2 (wr .u64 r44)) 4294967295) (bits .or .u64 (shl .u64 p0 (wr .u64 r44)) (shr .u64 p1 (wr .u64 (64 - (wr .u64 r44))))) (shr .u64 (shl .u64 p1 (wr .u64 r44)) 32) (bits .and .u64 (shl .u64 p1 (wr .u64 r44)) 4294967295) (wr .u64 (Int.tdiv (bits .or .u64 (shl .u64 p0 (wr .u64 r44)) (shr .u64 p1 (wr .u64 (64 - (wr .u64 r44))))) (shr .u64 (shl .u64 p2 (wr .u64 r44)) 32))) (wr .u64 ((bits .or .u64 (shl .u64 p0 (wr .u64 r44)) (shr .u64 p1 (wr .u64 (64 - (wr .u64 r44))))) - (wr .u64 ((wr .u64 (Int.tdiv (bits .or .u64 (shl .u64 p0 (wr .u64 r44)) (shr .u64 p1 (wr .u64 (64 - (wr .u64 r44))))) (shr .u64 (shl .u64 p2 (wr .u64 r44)) 32))) * (shr .u64 (shl .u64 p2 (wr .u64 r44)) 32))))))))))))))
def s_math_bits_Div64_4 {R : Type} (cp : Nat → Nat → Bool) (n : Nat) (v45 v46 v47 v48 v49 v50 v51 v56 v57 : Int) (kn : Int → Int → Option R) (ke0 : Int → Option R) : Option R :=
  cond (decide (4294967296 ≤ v56)) (cond (decide (4294967296 ≤ (wr .u64 (v57 + v47)))) (ke0 (wr .u64 (v56 - 1))) (kn (wr .u64 (v56 - 1)) (wr .u64 (v57 + v47)))) (cond (decide ((wr .u64 ((wr .u64 (4294967296 * v57)) + v50)) < (wr .u64 (v56 * v48)))) (cond (decide (4294967296 ≤ (wr .u64 (v57 + v47)))) (ke0 (wr .u64 (v56 - 1))) (kn (wr .u64 (v56 - 1)) (wr .u64 (v57 + v47)))) (ke0 v56))
def l_math_bits_Div64_9 {R : Type} (cp : Nat → Nat → Bool) (n : Nat) : Nat → Int → Int → Int → Int → Int → Int → Int → Int → Int → (Int → Option R) → Option R
  | 0, _, _, _, _, _, _, _, _, _, _ => none
  | m + 1, v45, v46, v47, v48, v49, v50, v51, v56, v57, ke0 =>
    s_math_bits_Div64_4 cp n v45 v46 v47 v48 v49 v50 v51 v56 v57 (fun v58 v59 => l_math_bits_Div64_9 cp n m v45 v46 v47 v48 v49 v50 v51 v58 v59 ke0) (fun v60 => (ke0 v60))
def s_math_bits_Div64_10 {R : Type} (cp : Nat → Nat → Bool) (n : Nat) (v45 v46 v47 v48 v49 v50 v51 v52 v53 : Int) (ke0 : Int → Option R) : Option R :=
  l_math_bits_Div64_9 cp n n v45 v46 v47 v48 v49 v50 v51 v52 v53 ke0
def s_math_bits_Div64_12 {R : Type} (cp : Nat → Nat → Bool) (n : Nat) (v45 v46 v47 v48 v49 v50 v51 v52 v53 : Int) (kn : Int → Option R) : Option R :=
  s_math_bits_Div64_10 cp n v45 v46 v47 v48 v49 v50 v51 v52 v53 (fun v61 => (kn v61))
def s_math_bits_Div64_13 {R : Type} (cp : Nat → Nat → Bool) (n : Nat) (v45 v46 v47 v48 v49 v50 v51 v62 : Int) (kn : Int → Int → Int → Option R) : Option R :=
  cond (decide (v47 = 0)) (none) (kn (wr .u64 ((wr .u64 ((wr .u64 ((wr .u64 (v49 * 4294967296)) + v50)) - (wr .u64 (v62 * v45)))) - (wr .u64 ((wr .u64 (Int.tdiv (wr .u64 ((wr .u64 ((wr .u64 (v49 * 4294967296)) + v50)) - (wr .u64 (v62 * v45)))) v47)) * v47)))) (wr .u64 ((wr .u64 ((wr .u64 (v49 * 4294967296)) + v50)) - (wr .u64 (v62 * v45)))) (wr .u64 (Int.tdiv (wr .u64 ((wr .u64 ((wr .u64 (v49 * 4294967296)) + v50)) - (wr .u64 (v62 * v45)))) v47)))
def s_math_bits_Div64_15 {R : Type} (cp : Nat → Nat → Bool) (n : Nat) (v45 v46 v47 v48 v51 v62 v64 v66 v67 : Int) (kn : Int → Int → Option R) (ke2 : Int → Option R) : Option R :=
  cond (decide (4294967296 ≤ v67)) (cond (decide (4294967296 ≤ (wr .u64 (v66 + v47)))) (ke2 (wr .u64 (v67 - 1))) (kn (wr .u64 (v66 + v47)) (wr .u64 (v67 - 1)))) (cond (decide ((wr .u64 ((wr .u64 (4294967296 * v66)) + v51)) < (wr .u64 (v67 * v48)))) (cond (decide (4294967296 ≤ (wr .u64 (v66 + v47)))) (ke2 (wr .u64 (v67 - 1))) (kn (wr .u64 (v66 + v47)) (wr .u64 (v67 - 1)))) (ke2 v67))
def l_math_bits_Div64_20 {R : Type} (cp : Nat → Nat → Bool) (n : Nat) : Nat → Int → Int → Int → Int → Int → Int → Int → Int → Int → (Int → Option R) → Option R
  | 0, _, _, _, _, _, _, _, _, _, _ => none
  | m + 1, v45, v46, v47, v48, v51, v62, v64, v66, v67, ke2 =>
    s_math_bits_Div64_15 cp n v45 v46 v47 v48 v51 v62 v64 v66 v67 (fun v68 v69 => l_math_bits_Div64_20 cp n m v45 v46 v47 v48 v51 v62 v64 v68 v69 ke2) (fun v70 => (ke2 v70))
def s_math_bits_Div64_21 {R : Type} (cp : Nat → Nat → Bool) (n : Nat) (v45 v46 v47 v48 v51 v62 v63 v64 v65 : Int) (ke2 : Int → Option R) : Option R :=
  l_math_bits_Div64_20 cp n n v45 v46 v47 v48 v51 v62 v64 v63 v65 ke2
def s_math_bits_Div64_23 {R : Type} (cp : Nat → Nat → Bool) (n : Nat) (v45 v46 v47 v48 v51 v62 v63 v64 v65 : Int) (kn : Int → Option R) : Option R :=
  s_math_bits_Div64_21 cp n v45 v46 v47 v48 v51 v62 v63 v64 v65 (fun v71 => (kn v71))
def s_math_bits_Div64_24 {R : Type} (cp : Nat → Nat → Bool) (n : Nat) (v45 v46 v51 v62 v64 v72 : Int) (kr : Int → Int → Option R) : Option R :=
  cond (decide (v46 < 0)) (none) (kr (wr .u64 ((wr .u64 (v62 * 4294967296)) + v72)) (shr .u64 (wr .u64 ((wr .u64 ((wr .u64 (v64 * 4294967296)) + v51)) - (wr .u64 (v72 * v45)))) v46))
def s_math_bits_Div64_27 {R : Type} (cp : Nat → Nat → Bool) (n : Nat) (v45 v46 v47 v48 v51 v62 v63 v64 v65 : Int) (kr : Int → Int → Option R) : Option R :=
  s_math_bits_Div64_23 cp n v45 v46 v47 v48 v51 v62 v63 v64 v65 (fun v72 => s_math_bits_Div64_24 cp n v45 v46 v51 v62 v64 v72 (fun v73 v74 => (kr v73 v74)))
def s_math_bits_Div64_29 {R : Type} (cp : Nat → Nat → Bool) (n : Nat) (v45 v46 v47 v48 v49 v50 v51 v62 : Int) (kr : Int → Int → Option R) : Option R :=
  s_math_bits_Div64_13 cp n v45 v46 v47 v48 v49 v50 v51 v62 (fun v63 v64 v65 => s_math_bits_Div64_27 cp n v45 v46 v47 v48 v51 v62 v63 v64 v65 (fun v75 v76 => (kr v75 v76)))
def s_math_bits_Div64_31 {R : Type} (cp : Nat → Nat → Bool) (n : Nat) (v45 v46 v47 v48 v49 v50 v51 v52 v53 : Int) (kr : Int → Int → Option R) : Option R :=
  s_math_bits_Div64_12 cp n v45 v46 v47 v48 v49 v50 v51 v52 v53 (fun v62 => s_math_bits_Div64_29 cp n v45 v46 v47 v48 v49 v50 v51 v62 (fun v77 v78 => (kr v77 v78)))
def s_math_bits_Div64_33 {R : Type} (cp : Nat → Nat → Bool) (n : Nat) (p0 p1 p2 : Int) (kr : Int → Int → Option R) : Option R :=
  s_math_bits_Div64_1 cp n p0 p1 p2 (fun v45 v46 v47 v48 v49 v50 v51 v52 v53 => s_math_bits_Div64_31 cp n v45 v46 v47 v48 v49 v50 v51 v52 v53 (fun v79 v80 => (kr v79 v80))) (fun v54 v55 => (kr v54 v55))
def G_math_bits_Div64 {R : Type} (cp : Nat → Nat → Bool) : Nat → Int → Int → Int → (Int → Int → Option R) → Option R
  | 0, _, _, _, _ => none
  | n + 1, p0, p1, p2, k =>
    s_math_bits_Div64_33 cp n p0 p1 p2 (fun v81 v82 => k v81 v82)
/-! tideway/seq.MulDiv -/
def G_seq_MulDiv {R : Type} (cp : Nat → Nat → Bool) : Nat → Int → Int → Int → (Int → Int → Option R) → Option R
  | 0, _, _, _, _ => none
  | n + 1, p0, p1, p2, k =>
    cond (decide (p0 < 0)) (k 0 2) (cond (decide (p1 < 0)) (k 0 2) (cond (decide (p2 ≤ 0)) (k 0 2) (G_math_bits_Mul64 cp n (wr .u64 p0) (wr .u64 p1) (fun r32 r33 => cond (decide ((wr .u64 p2) ≤ r32)) (k 9223372036854775807 0) (G_math_bits_Div64 cp n r32 r33 (wr .u64 p2) (fun r83 r84 => k (wr .i64 (mn r83 9223372036854775807)) 0))))))
/-! (*tideway/bbr.ctl).product -/
def G_bbr_ctl_product {R : Type} (cp : Nat → Nat → Bool) : Nat → Sctl → (Int → Sctl → Option R) → Option R
  | 0, _, _ => none
  | n + 1, q0, k =>
    G_bbr_ctl_bandwidth cp n q0 (fun r30 r31 => G_seq_MulDiv cp n r30 q0.xCc_MinRtt 1000000 (fun r85 r86 => k (mn 1073741824 r85) q0))
/-! (*tideway/bbr.ctl).probe -/
def G_bbr_ctl_probe {R : Type} (cp : Nat → Nat → Bool) : Nat → Int → Sctl → (Sctl → Option R) → Option R
  | 0, _, _, _ => none
  | n + 1, p1, q0, k =>
    k (Sctl.mk q0.xCc_Kind q0.xCc_Mss q0.xCc_Cwnd q0.xCc_Ssthresh q0.xCc_Acc q0.xCc_Wmax q0.xCc_Epoch q0.xCc_K q0.xCc_West q0.xCc_Start 3 q0.xCc_Bw q0.xCc_MinRtt q0.xCc_MinAt q0.xCc_Round q0.xCc_NextAt q0.xCc_Full q0.xCc_FullN 2 p1 q0.xCc_DoneAt q0.xCc_Prior)
/-! (*tideway/bbr.ctl).cycle -/
def G_bbr_ctl_cycle {R : Type} (cp : Nat → Nat → Bool) : Nat → SSample → Sctl → (Sctl → Option R) → Option R
  | 0, _, _, _ => none
  | n + 1, p1, q0, k =>
    cond (decide (q0.xCc_Mode = 2)) (G_bbr_ctl_product cp n q0 (fun r87 r88 => cond (decide (p1.xFlight ≤ r87)) (G_bbr_ctl_probe cp n p1.xNow q0 (fun r89 => k r89)) (cond (decide (q0.xCc_Mode = 3)) (cond (decide (q0.xCc_MinRtt < (wr .i64 (p1.xNow - q0.xCc_PhaseAt)))) (k (Sctl.mk q0.xCc_Kind q0.xCc_Mss q0.xCc_Cwnd q0.xCc_Ssthresh q0.xCc_Acc q0.xCc_Wmax q0.xCc_Epoch q0.xCc_K q0.xCc_West q0.xCc_Start q0.xCc_Mode q0.xCc_Bw q0.xCc_MinRtt q0.xCc_MinAt q0.xCc_Round q0.xCc_NextAt q0.xCc_Full q0.xCc_FullN (Int.tmod (wr .i64 (q0.xCc_Phase + 1)) 8) p1.xNow q0.xCc_DoneAt q0.xCc_Prior)) (k q0)) (k q0)))) (cond (decide (q0.xCc_Mode = 3)) (cond (decide (q0.xCc_MinRtt < (wr .i64 (p1.xNow - q0.xCc_PhaseAt)))) (k (Sctl.mk q0.xCc_Kind q0.xCc_Mss q0.xCc_Cwnd q0.xCc_Ssthresh q0.xCc_Acc q0.xCc_Wmax q0.xCc_Epoch q0.xCc_K q0.xCc_West q0.xCc_Start q0.xCc_Mode q0.xCc_Bw q0.xCc_MinRtt q0.xCc_MinAt q0.xCc_Round q0.xCc_NextAt q0.xCc_Full q0.xCc_FullN (Int.tmod (wr .i64 (q0.xCc_Phase + 1)) 8) p1.xNow q0.xCc_DoneAt q0.xCc_Prior)) (k q0)) (k q0))
/-! (*tideway/bbr.ctl).ask -/
def s_bbr_ctl_ask_1 {R : Type} (cp : Nat → Nat → Bool) (n : Nat) (p1 : SSample) (p2 : Bool) (q0 : Sctl) (kn : Option R) : Option R :=
  kn
def s_bbr_ctl_ask_3 {R : Type} (cp : Nat → Nat → Bool) (n : Nat) (p1 : SSample) (p2 : Bool) (q0 : Sctl) (kn : Bool → Option R) : Option R :=
  cond (p2) (kn (!decide (q0.xCc_Mode = 4))) (kn false)
def s_bbr_ctl_ask_5 {R : Type} (cp : Nat → Nat → Bool) (n : Nat) (p1 : SSample) (q0 : Sctl) (v91 : Bool) (kn : SCc → Option R) : Option R :=
  cond (v91) (kn (SCc.mk q0.xCc_Kind q0.xCc_Mss q0.xCc_Cwnd q0.xCc_Ssthresh q0.xCc_Acc q0.xCc_Wmax q0.xCc_Epoch q0.xCc_K q0.xCc_West q0.xCc_Start 4 q0.xCc_Bw q0.xCc_MinRtt q0.xCc_MinAt q0.xCc_Round q0.xCc_NextAt q0.xCc_Full q0.xCc_FullN q0.xCc_Phase q0.xCc_PhaseAt 0 q0.xCc_Cwnd)) (cond (!decide (q0.xCc_Mode = 4)) (kn (SCc.mk q0.xCc_Kind q0.xCc_Mss q0.xCc_Cwnd q0.xCc_Ssthresh q0.xCc_Acc q0.xCc_Wmax q0.xCc_Epoch q0.xCc_K q0.xCc_West q0.xCc_Start q0.xCc_Mode q0.xCc_Bw q0.xCc_MinRtt q0.xCc_MinAt q0.xCc_Round q0.xCc_NextAt q0.xCc_Full q0.xCc_FullN q0.xCc_Phase q0.xCc_PhaseAt q0.xCc_DoneAt q0.xCc_Prior)) (cond (decide (q0.xCc_DoneAt = 0)) (cond (decide (p1.xFlight ≤ (wr .i64 (4 * q0.xCc_Mss)))) (kn (SCc.mk q0.xCc_Kind q0.xCc_Mss q0.xCc_Cwnd q0.xCc_Ssthresh q0.xCc_Acc q0.xCc_Wmax q0.xCc_Epoch q0.xCc_K q0.xCc_West q0.xCc_Start q0.xCc_Mode q0.xCc_Bw q0.xCc_MinRtt q0.xCc_MinAt q0.xCc_Round q0.xCc_NextAt q0.xCc_Full q0.xCc_FullN q0.xCc_Phase q0.xCc_PhaseAt (mn 1125899906842624 (wr .i64 (p1.xNow + 200000))) q0.xCc_Prior)) (cond (decide (0 < q0.xCc_DoneAt)) (cond (decide (q0.xCc_DoneAt ≤ p1.xNow)) (cond (decide (q0.xCc_FullN = 3)) (G_bbr_ctl_probe cp n p1.xNow (Sctl.mk q0.xCc_Kind q0.xCc_Mss (mx q0.xCc_Cwnd q0.xCc_Prior) q0.xCc_Ssthresh q0.xCc_Acc q0.xCc_Wmax q0.xCc_Epoch q0.xCc_K q0.xCc_West q0.xCc_Start q0.xCc_Mode q0.xCc_Bw q0.xCc_MinRtt p1.xNow q0.xCc_Round q0.xCc_NextAt q0.xCc_Full q0.xCc_FullN q0.xCc_Phase q0.xCc_PhaseAt 0 q0.xCc_Prior) (fun r92 => kn (SCc.mk r92.xCc_Kind r92.xCc_Mss r92.xCc_Cwnd r92.xCc_Ssthresh r92.xCc_Acc r92.xCc_Wmax r92.xCc_Epoch r92.xCc_K r92.xCc_West r92.xCc_Start r92.xCc_Mode r92.xCc_Bw r92.xCc_MinRtt r92.xCc_MinAt r92.xCc_Round r92.xCc_NextAt r92.xCc_Full r92.xCc_FullN r92.xCc_Phase r92.xCc_PhaseAt r92.xCc_DoneAt r92.xCc_Prior))) (kn (SCc.mk q0.xCc_Kind q0.xCc_Mss (mx q0.xCc_Cwnd q0.xCc_Prior) q0.xCc_Ssthresh q0.xCc_Acc q0.xCc_Wmax q0.xCc_Epoch q0.xCc_K q0.xCc_West q0.xCc_Start 1 q0.xCc_Bw q0.xCc_MinRtt p1.xNow q0.xCc_Round q0.xCc_NextAt q0.xCc_Full q0.xCc_FullN q0.xCc_Phase q0.xCc_PhaseAt 0 q0.xCc_Prior))) (kn (SCc.mk q0.xCc_Kind q0.xCc_Mss q0.xCc_Cwnd q0.xCc_Ssthresh q0.xCc_Acc q0.xCc_Wmax q0.xCc_Epoch q0.xCc_K q0.xCc_West q0.xCc_Start q0.xCc_Mode q0.xCc_Bw q0.xCc_MinRtt q0.xCc_MinAt q0.xCc_Round q0.xCc_NextAt q0.xCc_Full q0.xCc_FullN q0.xCc_Phase q0.xCc_PhaseAt q0.xCc_DoneAt q0.xCc_Prior))) (kn (SCc.mk q0.xCc_Kind q0.xCc_Mss q0.xCc_Cwnd q0.xCc_Ssthresh q0.xCc_Acc q0.xCc_Wmax q0.xCc_Epoch q0.xCc_K q0.xCc_West q0.xCc_Start q0.xCc_Mode q0.xCc_Bw q0.xCc_MinRtt q0.xCc_MinAt q0.xCc_Round q0.xCc_NextAt q0.xCc_Full q0.xCc_FullN q0.xCc_Phase q0.xCc_PhaseAt q0.xCc_DoneAt q0.xCc_Prior)))) (cond (decide (0 < q0.xCc_DoneAt)) (cond (decide (q0.xCc_DoneAt ≤ p1.xNow)) (cond (decide (q0.xCc_FullN = 3)) (G_bbr_ctl_probe cp n p1.xNow (Sctl.mk q0.xCc_Kind q0.xCc_Mss (mx q0.xCc_Cwnd q0.xCc_Prior) q0.xCc_Ssthresh q0.xCc_Acc q0.xCc_Wmax q0.xCc_Epoch q0.xCc_K q0.xCc_West q0.xCc_Start q0.xCc_Mode q0.xCc_Bw q0.xCc_MinRtt p1.xNow q0.xCc_Round q0.xCc_NextAt q0.xCc_Full q0.xCc_FullN q0.xCc_Phase q0.xCc_PhaseAt 0 q0.xCc_Prior) (fun r93 => kn (SCc.mk r93.xCc_Kind r93.xCc_Mss r93.xCc_Cwnd r93.xCc_Ssthresh r93.xCc_Acc r93.xCc_Wmax r93.xCc_Epoch r93.xCc_K r93.xCc_West r93.xCc_Start r93.xCc_Mode r93.xCc_Bw r93.xCc_MinRtt r93.xCc_MinAt r93.xCc_Round r93.xCc_NextAt r93.xCc_Full r93.xCc_FullN r93.xCc_Phase r93.xCc_PhaseAt r93.xCc_DoneAt r93.xCc_Prior))) (kn (SCc.mk q0.xCc_Kind q0.xCc_Mss (mx q0.xCc_Cwnd q0.xCc_Prior) q0.xCc_Ssthresh q0.xCc_Acc q0.xCc_Wmax q0.xCc_Epoch q0.xCc_K q0.xCc_West q0.xCc_Start 1 q0.xCc_Bw q0.xCc_MinRtt p1.xNow q0.xCc_Round q0.xCc_NextAt q0.xCc_Full q0.xCc_FullN q0.xCc_Phase q0.xCc_PhaseAt 0 q0.xCc_Prior))) (kn (SCc.mk q0.xCc_Kind q0.xCc_Mss q0.xCc_Cwnd q0.xCc_Ssthresh q0.xCc_Acc q0.xCc_Wmax q0.xCc_Epoch q0.xCc_K q0.xCc_West q0.xCc_Start q0.xCc_Mode q0.xCc_Bw q0.xCc_MinRtt q0.xCc_MinAt q0.xCc_Round q0.xCc_NextAt q0.xCc_Full q0.xCc_FullN q0.xCc_Phase q0.xCc_PhaseAt q0.xCc_DoneAt q0.xCc_Prior))) (kn (SCc.mk q0.xCc_Kind q0.xCc_Mss q0.xCc_Cwnd q0.xCc_Ssthresh q0.xCc_Acc q0.xCc_Wmax q0.xCc_Epoch q0.xCc_K q0.xCc_West q0.xCc_Start q0.xCc_Mode q0.xCc_Bw q0.xCc_MinRtt q0.xCc_MinAt q0.xCc_Round q0.xCc_NextAt q0.xCc_Full q0.xCc_FullN q0.xCc_Phase q0.xCc_PhaseAt q0.xCc_DoneAt q0.xCc_Prior)))))
def s_bbr_ctl_ask_8 {R : Type} (cp : Nat → Nat → Bool) (n : Nat) (p1 : SSample) (p2 : Bool) (q0 : Sctl) (kn : SCc → Option R) : Option R :=
  s_bbr_ctl_ask_3 cp n p1 p2 q0 (fun v91 => s_bbr_ctl_ask_5 cp n p1 q0 v91 (fun v94 => (kn v94)))
def s_bbr_ctl_ask_10 {R : Type} (cp : Nat → Nat → Bool) (n : Nat) (p1 : SSample) (p2 : Bool) (q0 : Sctl) (kn : SCc → Option R) : Option R :=
  s_bbr_ctl_ask_8 cp n p1 p2 q0 (fun v95 => (kn v95))
def s_bbr_ctl_ask_12 {R : Type} (cp : Nat → Nat → Bool) (n : Nat) (p1 : SSample) (p2 : Bool) (q0 : Sctl) (kn : SCc → Option R) : Option R :=
  s_bbr_ctl_ask_1 cp n p1 p2 q0 (s_bbr_ctl_ask_10 cp n p1 p2 q0 (fun v96 => (kn v96)))
def G_bbr_ctl_ask {R : Type} (cp : Nat → Nat → Bool) : Nat → SSample → Bool → Sctl → (Sctl → Option R) → Option R
  | 0, _, _, _, _ => none
  | n + 1, p1, p2, q0, k =>
    s_bbr_ctl_ask_12 cp n p1 p2 q0 (fun v97 => k (Sctl.mk v97.xKind v97.xMss v97.xCwnd v97.xSsthresh v97.xAcc v97.xWmax v97.xEpoch v97.xK v97.xWest v97.xStart v97.xMode v97.xBw v97.xMinRtt v97.xMinAt v97.xRound v97.xNextAt v97.xFull v97.xFullN v97.xPhase v97.xPhaseAt v97.xDoneAt v97.xPrior))
/-! tideway/seq.Clamp -/
def G_seq_Clamp {R : Type} (cp : Nat → Nat → Bool) : Nat → Int → Int → Int → (Int → Option R) → Option R
  | 0, _, _, _, _ => none
  | n + 1, p0, p1, p2, k =>
    k (mx p1 (mn p0 p2))
/-! (*tideway/bbr.ctl).window -/
def s_bbr_ctl_window_1 {R : Type} (cp : Nat → Nat → Bool) (n : Nat) (p1 : SSample) (q0 : Sctl) (kn : Int → Option R) : Option R :=
  G_bbr_ctl_product cp n q0 (fun r38 r39 => kn (mx (wr .i64 (2 * r38)) (wr .i64 (4 * q0.xCc_Mss))))
def s_bbr_ctl_window_3 {R : Type} (cp : Nat → Nat → Bool) (n : Nat) (p1 : SSample) (q0 : Sctl) (v40 : Int) (kn : Int → Option R) : Option R :=
  cond (decide (q0.xCc_Mode = 4)) (kn (mn q0.xCc_Cwnd (wr .i64 (4 * q0.xCc_Mss)))) (cond (decide (q0.xCc_FullN = 3)) (kn (mn v40 (wr .i64 (q0.xCc_Cwnd + p1.xAcked)))) (cond (decide (q0.xCc_Cwnd < v40)) (kn (wr .i64 (q0.xCc_Cwnd + p1.xAcked))) (G_bbr_ctl_bandwidth cp n q0 (fun r41 r42 => cond (decide (r41 = 0)) (kn (wr .i64 (q0.xCc_Cwnd + p1.xAcked))) (kn q0.xCc_Cwnd)))))
def s_bbr_ctl_window_5 {R : Type} (cp : Nat → Nat → Bool) (n : Nat) (q0 : Sctl) (v43 : Int) (kn : Int → Option R) : Option R :=
  G_seq_Clamp cp n v43 q0.xCc_Mss 1073741824 (fun r44 => kn r44)
def s_bbr_ctl_window_8 {R : Type} (cp : Nat → Nat → Bool) (n : Nat) (p1 : SSample) (q0 : Sctl) (v40 : Int) (kn : Int → Option R) : Option R :=
  s_bbr_ctl_window_3 cp n p1 q0 v40 (fun v43 => s_bbr_ctl_window_5 cp n q0 v43 (fun v45 => (kn v45)))
def s_bbr_ctl_window_10 {R : Type} (cp : Nat → Nat → Bool) (n : Nat) (p1 : SSample) (q0 : Sctl) (kn : Int → Option R) : Option R :=
  s_bbr_ctl_window_1 cp n p1 q0 (fun v40 => s_bbr_ctl_window_8 cp n p1 q0 v40 (fun v46 => (kn v46)))
def G_bbr_ctl_window {R : Type} (cp : Nat → Nat → Bool) : Nat → SSample → Sctl → (Sctl → Option R) → Option R
  | 0, _, _, _ => none
  | n + 1, p1, q0, k =>
    s_bbr_ctl_window_10 cp n p1 q0 (fun v47 => k (Sctl.mk q0.xCc_Kind q0.xCc_Mss v47 q0.xCc_Ssthresh q0.xCc_Acc q0.xCc_Wmax q0.xCc_Epoch q0.xCc_K q0.xCc_West q0.xCc_Start q0.xCc_Mode q0.xCc_Bw q0.xCc_MinRtt q0.xCc_MinAt q0.xCc_Round q0.xCc_NextAt q0.xCc_Full q0.xCc_FullN q0.xCc_Phase q0.xCc_PhaseAt q0.xCc_DoneAt q0.xCc_Prior))
/-! tideway/bbr.Acked -/
def s_bbr_Acked_1 {R : Type} (cp : Nat → Nat → Bool) (n : Nat) (p0 : SCc) (p1 : SSample) (kn : Bool → SCc → Option R) (kr : Int → Option R) : Option R :=
  G_bbr_Check cp n p0 (fun r70 => cond (!decide (r70 = 0)) (kr r70) (G_bbr_within cp n 1125899906842624 [p1.xNow, p1.xGiven, p1.xBefore, p1.xRtt] (fun r71 => cond (!r71) (kr 2) (G_bbr_within cp n 1073741824 [p1.xAcked, p1.xFlight] (fun r72 => cond (!r72) (kr 2) (cond (decide (p1.xRate < 0)) (kr 2) (G_bbr_ctl_round cp n p1 (Sctl.mk p0.xKind p0.xMss p0.xCwnd p0.xSsthresh p0.xAcc p0.xWmax p0.xEpoch p0.xK p0.xWest p0.xStart p0.xMode p0.xBw p0.xMinRtt p0.xMinAt p0.xRound p0.xNextAt p0.xFull p0.xFullN p0.xPhase p0.xPhaseAt p0.xDoneAt p0.xPrior) (fun r73 r74 => kn r73 (SCc.mk r74.xCc_Kind r74.xCc_Mss r74.xCc_Cwnd r74.xCc_Ssthresh r74.xCc_Acc r74.xCc_Wmax r74.xCc_Epoch r74.xCc_K r74.xCc_West r74.xCc_Start r74.xCc_Mode r74.xCc_Bw r74.xCc_MinRtt r74.xCc_MinAt r74.xCc_Round r74.xCc_NextAt r74.xCc_Full r74.xCc_FullN r74.xCc_Phase r74.xCc_PhaseAt r74.xCc_DoneAt r74.xCc_Prior)))))))))
def s_bbr_Acked_4 {R : Type} (cp : Nat → Nat → Bool) (n : Nat) (p1 : SSample) (v75 : Bool) (v76 : SCc) (kn : Bool → SCc → Option R) : Option R :=
  G_bbr_ctl_speed cp n p1 (Sctl.mk v76.xKind v76.xMss v76.xCwnd v76.xSsthresh v76.xAcc v76.xWmax v76.xEpoch v76.xK v76.xWest v76.xStart v76.xMode v76.xBw v76.xMinRtt v76.xMinAt v76.xRound v76.xNextAt v76.xFull v76.xFullN v76.xPhase v76.xPhaseAt v76.xDoneAt v76.xPrior) (fun r82 => G_bbr_ctl_shortest cp n p1 r82 (fun r83 r84 => cond (v75) (cond (decide (r84.xCc_Mode = 1)) (cond (!p1.xIdle) (G_bbr_ctl_full cp n r84 (fun r85 => kn r83 (SCc.mk r85.xCc_Kind r85.xCc_Mss r85.xCc_Cwnd r85.xCc_Ssthresh r85.xCc_Acc r85.xCc_Wmax r85.xCc_Epoch r85.xCc_K r85.xCc_West r85.xCc_Start r85.xCc_Mode r85.xCc_Bw r85.xCc_MinRtt r85.xCc_MinAt r85.xCc_Round r85.xCc_NextAt r85.xCc_Full r85.xCc_FullN r85.xCc_Phase r85.xCc_PhaseAt r85.xCc_DoneAt r85.xCc_Prior))) (kn r83 (SCc.mk r84.xCc_Kind r84.xCc_Mss r84.xCc_Cwnd r84.xCc_Ssthresh r84.xCc_Acc r84.xCc_Wmax r84.xCc_Epoch r84.xCc_K r84.xCc_West r84.xCc_Start r84.xCc_Mode r84.xCc_Bw r84.xCc_MinRtt r84.xCc_MinAt r84.xCc_Round r84.xCc_NextAt r84.xCc_Full r84.xCc_FullN r84.xCc_Phase r84.xCc_PhaseAt r84.xCc_DoneAt r84.xCc_Prior))) (kn r83 (SCc.mk r84.xCc_Kind r84.xCc_Mss r84.xCc_Cwnd r84.xCc_Ssthresh r84.xCc_Acc r84.xCc_Wmax r84.xCc_Epoch r84.xCc_K r84.xCc_West r84.xCc_Start r84.xCc_Mode r84.xCc_Bw r84.xCc_MinRtt r84.xCc_MinAt r84.xCc_Round r84.xCc_NextAt r84.xCc_Full r84.xCc_FullN r84.xCc_Phase r84.xCc_PhaseAt r84.xCc_DoneAt r84.xCc_Prior))) (kn r83 (SCc.mk r84.xCc_Kind r84.xCc_Mss r84.xCc_Cwnd r84.xCc_Ssthresh r84.xCc_Acc r84.xCc_Wmax r84.xCc_Epoch r84.xCc_K r84.xCc_West r84.xCc_Start r84.xCc_Mode r84.xCc_Bw r84.xCc_MinRtt r84.xCc_MinAt r84.xCc_Round r84.xCc_NextAt r84.xCc_Full r84.xCc_FullN r84.xCc_Phase r84.xCc_PhaseAt r84.xCc_DoneAt r84.xCc_Prior))))
def s_bbr_Acked_6 {R : Type} (cp : Nat → Nat → Bool) (n : Nat) (p1 : SSample) (v86 : Bool) (v87 : SCc) (kr : SCc → Option R) : Option R :=
  G_bbr_ctl_cycle cp n p1 (Sctl.mk v87.xKind v87.xMss v87.xCwnd v87.xSsthresh v87.xAcc v87.xWmax v87.xEpoch v87.xK v87.xWest v87.xStart v87.xMode v87.xBw v87.xMinRtt v87.xMinAt v87.xRound v87.xNextAt v87.xFull v87.xFullN v87.xPhase v87.xPhaseAt v87.xDoneAt v87.xPrior) (fun r88 => G_bbr_ctl_ask cp n p1 v86 r88 (fun r89 => G_bbr_ctl_window cp n p1 r89 (fun r90 => kr (SCc.mk r90.xCc_Kind r90.xCc_Mss r90.xCc_Cwnd r90.xCc_Ssthresh r90.xCc_Acc r90.xCc_Wmax r90.xCc_Epoch r90.xCc_K r90.xCc_West r90.xCc_Start r90.xCc_Mode r90.xCc_Bw r90.xCc_MinRtt r90.xCc_MinAt r90.xCc_Round r90.xCc_NextAt r90.xCc_Full r90.xCc_FullN r90.xCc_Phase r90.xCc_PhaseAt r90.xCc_DoneAt r90.xCc_Prior))))
def s_bbr_Acked_9 {R : Type} (cp : Nat → Nat → Bool) (n : Nat) (p1 : SSample) (v75 : Bool) (v76 : SCc) (kr : SCc → Option R) : Option R :=
  s_bbr_Acked_4 cp n p1 v75 v76 (fun v86 v87 => s_bbr_Acked_6 cp n p1 v86 v87 (fun v91 => (kr v91)))
def s_bbr_Acked_11 {R : Type} (cp : Nat → Nat → Bool) (n : Nat) (p0 : SCc) (p1 : SSample) (kr : Int → SCc → Option R) : Option R :=
  s_bbr_Acked_1 cp n p0 p1 (fun v75 v76 => s_bbr_Acked_9 cp n p1 v75 v76 (fun v92 => (kr 0 v92))) (fun v77 => (kr v77 (SCc.mk 0 0 0 0 0 0 0 0 0 0 0 [] 0 0 0 0 0 0 0 0 0 0)))
def G_bbr_Acked {R : Type} (cp : Nat → Nat → Bool) : Nat → SCc → SSample → (SCc → Int → Option R) → Option R
  | 0, _, _, _ => none
  | n + 1, p0, p1, k =>
    s_bbr_Acked_11 cp n p0 p1 (fun v93 v94 => k v94 v93)
/-! tideway/bbr.Timeout -/
def G_bbr_Timeout {R : Type} (cp : Nat → Nat → Bool) : Nat → SCc → Int → (SCc → Int → Option R) → Option R
  | 0, _, _, _ => none
  | n + 1, p0, p1, k =>
    G_bbr_Check cp n p0 (fun r97 => cond (!decide (r97 = 0)) (k (SCc.mk 0 0 0 0 0 0 0 0 0 0 0 [] 0 0 0 0 0 0 0 0 0 0) 230) (G_bbr_within cp n 1073741824 [p1] (fun r98 => cond (!r98) (k (SCc.mk 0 0 0 0 0 0 0 0 0 0 0 [] 0 0 0 0 0 0 0 0 0 0) 2) (k (SCc.mk p0.xKind p0.xMss p0.xMss p0.xSsthresh p0.xAcc p0.xWmax p0.xEpoch p0.xK p0.xWest p0.xStart p0.xMode p0.xBw p0.xMinRtt p0.xMinAt p0.xRound p0.xNextAt p0.xFull p0.xFullN p0.xPhase p0.xPhaseAt p0.xDoneAt p0.xCwnd) 0))))
/-! tideway/bbr.Bandwidth -/
def G_bbr_Bandwidth {R : Type} (cp : Nat → Nat → Bool) : Nat → SCc → (Int → Option R) → Option R
  | 0, _, _ => none
  | n + 1, p0, k =>
    G_bbr_Check cp n p0 (fun r35 => cond (!decide (r35 = 0)) (k 0) (G_bbr_ctl_bandwidth cp n (Sctl.mk p0.xKind p0.xMss p0.xCwnd p0.xSsthresh p0.xAcc p0.xWmax p0.xEpoch p0.xK p0.xWest p0.xStart p0.xMode p0.xBw p0.xMinRtt p0.xMinAt p0.xRound p0.xNextAt p0.xFull p0.xFullN p0.xPhase p0.xPhaseAt p0.xDoneAt p0.xPrior) (fun r36 r37 => k r36)))
/-! tideway/bbr.Product -/
def G_bbr_Product {R : Type} (cp : Nat → Nat → Bool) : Nat → SCc → (Int → Option R) → Option R
  | 0, _, _ => none
  | n + 1, p0, k =>
    G_bbr_Check cp n p0 (fun r39 => cond (!decide (r39 = 0)) (k 0) (G_bbr_ctl_product cp n (Sctl.mk p0.xKind p0.xMss p0.xCwnd p0.xSsthresh p0.xAcc p0.xWmax p0.xEpoch p0.xK p0.xWest p0.xStart p0.xMode p0.xBw p0.xMinRtt p0.xMinAt p0.xRound p0.xNextAt p0.xFull p0.xFullN p0.xPhase p0.xPhaseAt p0.xDoneAt p0.xPrior) (fun r40 r41 => k r40)))
/-! tideway/bbr.Gain -/
def G_bbr_Gain {R : Type} (cp : Nat → Nat → Bool) : Nat → SCc → (Int → Option R) → Option R
  | 0, _, _ => none
  | n + 1, p0, k =>
    G_bbr_Check cp n p0 (fun r43 => cond (!decide (r43 = 0)) (k 0) (cond (decide (p0.xMode = 1)) (k 289) (cond (decide (p0.xMode = 2)) (k 35) (cond (decide (p0.xMode = 3)) (cond (decide (p0.xPhase = 0)) (k 125) (cond (decide (p0.xMode = 3)) (cond (decide (p0.xPhase = 1)) (k 75) (k 100)) (k 100))) (cond (decide (p0.xMode = 3)) (cond (decide (p0.xPhase = 1)) (k 75) (k 100)) (k 100))))))
/-! tideway/tidewaylaw18.heads -/
def s_law18_heads_1 {R : Type} (cp : Nat → Nat → Bool) (n : Nat) (kn : Int → Int → Int → Int → SCc → SCc → Option R) : Option R :=
  G_bbr_New cp n 10 4 (fun r19 r20 => G_bbr_Acked cp n r19 (SSample.mk 100000 10 100000 1000000 false 10 0 30) (fun r21 r22 => G_bbr_Timeout cp n r21 5 (fun r23 r24 => G_bbr_New cp n 0 1 (fun r25 r26 => kn r20 r22 r24 r26 r21 r23))))
def s_law18_heads_3 {R : Type} (cp : Nat → Nat → Bool) (n : Nat) (v27 v28 v29 v30 : Int) (v31 v32 : SCc) (kr : Bool → Option R) : Option R :=
  G_bbr_Acked cp n (SCc.mk 0 0 0 0 0 0 0 0 0 0 0 [] 0 0 0 0 0 0 0 0 0 0) (SSample.mk 0 0 0 0 false 0 0 0) (fun r33 r34 => cond (decide (v27 = 0)) (cond (decide (v28 = 0)) (G_bbr_Bandwidth cp n v31 (fun r38 => cond (decide (r38 = 1000000)) (G_bbr_Product cp n v31 (fun r42 => cond (decide (r42 = 100000)) (G_bbr_Gain cp n v31 (fun r44 => cond (decide (r44 = 289)) (cond (decide (v31.xRound = 1)) (cond (decide (v29 = 0)) (cond (decide (v32.xCwnd = 10)) (cond (decide (v30 = 2)) (kr (decide (r34 = 230))) (kr false)) (kr false)) (kr false)) (kr false)) (kr false))) (kr false))) (kr false))) (kr false)) (kr false))
def s_law18_heads_6 {R : Type} (cp : Nat → Nat → Bool) (n : Nat) (kr : Bool → Option R) : Option R :=
  s_law18_heads_1 cp n (fun v27 v28 v29 v30 v31 v32 => s_law18_heads_3 cp n v27 v28 v29 v30 v31 v32 (fun v45 => (kr v45)))
def G_law18_heads {R : Type} (cp : Nat → Nat → Bool) : Nat → (Bool → Option R) → Option R
  | 0, _ => none
  | n + 1, k =>
    s_law18_heads_6 cp n (fun v46 => k v46)
/-! tideway/tidewaylaw18.BbrStays -/
def s_law18_BbrStays_1 {R : Type} (cp : Nat → Nat → Bool) (n : Nat) (p0 p1 : Int) (p2 : (List SSample)) (kn : SCc → Option R) (kr : Bool → Option R) : Option R :=
  G_bbr_New cp n p0 p1 (fun r49 r50 => cond (!decide (r50 = 0)) (G_law18_heads cp n (fun r51 => kr r51)) (cond (decide (300 < (p2.length : Int))) (G_law18_heads cp n (fun r52 => kr r52)) (kn r49)))
def s_law18_BbrStays_4 {R : Type} (cp : Nat → Nat → Bool) (n : Nat) (p0 : Int) (p2 : (List SSample)) (v53 : SCc) (kn : Option R) : Option R :=
  kn
def s_law18_BbrStays_6 {R : Type} (cp : Nat → Nat → Bool) (n : Nat) (p0 : Int) (p2 : (List SSample)) (v55 v56 : Int) (v57 : SCc) (kn : Int → Int → SCc → Option R) (kr : Bool → Option R) (ke0 : Option R) : Option R :=
  cond (decide (v56 < (p2.length : Int))) (cond (decide (0 ≤ v56)) (cond (decide (v56 < (p2.length : Int))) (G_bbr_Acked cp n v57 (p2.getD (Int.toNat v56) zSample) (fun r58 r59 => cond (!decide (r59 = 0)) (cond (decide (r59 = 2)) (G_law18_heads cp n (fun r60 => kr r60)) (kr false)) (cond (decide (0 ≤ v56)) (cond (decide (v56 < (p2.length : Int))) (G_bbr_Check cp n r58 (fun r61 => cond (!decide (r61 = 0)) (kr false) (cond (decide (r58.xCwnd < p0)) (kr false) (cond (decide (r58.xRound < v57.xRound)) (kr false) (G_bbr_Bandwidth cp n r58 (fun r62 => cond (decide ((mx v55 (mn ((p2.getD (Int.toNat v56) zSample).xRate) 1099511627776)) < r62)) (kr false) (kn (mx v55 (mn ((p2.getD (Int.toNat v56) zSample).xRate) 1099511627776)) (wr .i64 (v56 + 1)) r58))))))) (none)) (none)))) (none)) (none)) (ke0)
def l_law18_BbrStays_12 {R : Type} (cp : Nat → Nat → Bool) (n : Nat) : Nat → Int → (List SSample) → Int → Int → SCc → (Bool → Option R) → (Option R) → Option R
  | 0, _, _, _, _, _, _, _ => none
  | m + 1, p0, p2, v55, v56, v57, kr, ke0 =>
    s_law18_BbrStays_6 cp n p0 p2 v55 v56 v57 (fun v63 v64 v65 => l_law18_BbrStays_12 cp n m p0 p2 v63 v64 v65 kr ke0) (fun v66 => (kr v66)) ke0
def s_law18_BbrStays_13 {R : Type} (cp : Nat → Nat → Bool) (n : Nat) (p0 : Int) (p2 : (List SSample)) (v53 : SCc) (kr : Bool → Option R) (ke0 : Option R) : Option R :=
  l_law18_BbrStays_12 cp n n p0 p2 0 0 v53 kr ke0
def s_law18_BbrStays_15 {R : Type} (cp : Nat → Nat → Bool) (n : Nat) (p0 : Int) (p2 : (List SSample)) (v53 : SCc) (kn : Option R) (kr : Bool → Option R) : Option R :=
  s_law18_BbrStays_13 cp n p0 p2 v53 (fun v67 => (kr v67)) kn
def s_law18_BbrStays_17 {R : Type} (cp : Nat → Nat → Bool) (n : Nat) (p0 : Int) (p2 : (List SSample)) (v53 : SCc) (kn : Option R) (kr : Bool → Option R) : Option R :=
  s_law18_BbrStays_4 cp n p0 p2 v53 (s_law18_BbrStays_15 cp n p0 p2 v53 kn (fun v68 => (kr v68)))
def s_law18_BbrStays_18 {R : Type} (cp : Nat → Nat → Bool) (n : Nat) (kr : Bool → Option R) : Option R :=
  G_law18_heads cp n (fun r70 => kr r70)
def s_law18_BbrStays_21 {R : Type} (cp : Nat → Nat → Bool) (n : Nat) (p0 : Int) (p2 : (List SSample)) (v53 : SCc) (kr : Bool → Option R) : Option R :=
  s_law18_BbrStays_17 cp n p0 p2 v53 (s_law18_BbrStays_18 cp n (fun v71 => (kr v71))) (fun v69 => (kr v69))
def s_law18_BbrStays_23 {R : Type} (cp : Nat → Nat → Bool) (n : Nat) (p0 p1 : Int) (p2 : (List SSample)) (kr : Bool → Option R) : Option R :=
  s_law18_BbrStays_1 cp n p0 p1 p2 (fun v53 => s_law18_BbrStays_21 cp n p0 p2 v53 (fun v72 => (kr v72))) (fun v54 => (kr v54))
def G_law18_BbrStays {R : Type} (cp : Nat → Nat → Bool) : Nat → Int → Int → (List SSample) → (Bool → Option R) → Option R
  | 0, _, _, _, _ => none
  | n + 1, p0, p1, p2, k =>
    s_law18_BbrStays_23 cp n p0 p1 p2 (fun v73 => k v73)
def ca_reno_New {R : Type} (cp : Nat → Nat → Bool) (n : Nat) (av : Fr) (cs : List Fr) (k : Ret2 RW → Option R) : Option R := match av, cs with
  | [y0, y1], [] => (dI .i64 y0).bind fun p0 => (dI .i64 y1).bind fun p1 => G_reno_New cp n p0 p1 (fun r0 r1 => k ⟨.tup [.agg (eCc r0), (tL r1)], []⟩)
  | _, _ => none
def ca_bbr_New {R : Type} (cp : Nat → Nat → Bool) (n : Nat) (av : Fr) (cs : List Fr) (k : Ret2 RW → Option R) : Option R := match av, cs with
  | [y0, y1], [] => (dI .i64 y0).bind fun p0 => (dI .i64 y1).bind fun p1 => G_bbr_New cp n p0 p1 (fun r0 r1 => k ⟨.tup [.agg (eCc r0), (tL r1)], []⟩)
  | _, _ => none
def ca_bbr_within {R : Type} (cp : Nat → Nat → Bool) (n : Nat) (av : Fr) (cs : List Fr) (k : Ret2 RW → Option R) : Option R := match av, cs with
  | [y0, y1], [] => (dI .i64 y0).bind fun p0 => (dRint false y1).bind fun p1 => G_bbr_within cp n p0 p1 (fun r0 => k ⟨(tB r0), []⟩)
  | _, _ => none
def ca_filter_may {R : Type} (cp : Nat → Nat → Bool) (n : Nat) (av : Fr) (cs : List Fr) (k : Ret2 RW → Option R) : Option R := match av, cs with
  | [y0], [] => (dA y0).bind fun c0_ => (dEntry c0_).bind fun p0 => G_filter_may cp n p0 (fun r0 => k ⟨(tB r0), []⟩)
  | _, _ => none
def ca_filter_beats {R : Type} (cp : Nat → Nat → Bool) (n : Nat) (av : Fr) (cs : List Fr) (k : Ret2 RW → Option R) : Option R := match av, cs with
  | [y0, y1, y2], [] => (dI .i64 y0).bind fun p0 => (dI .i64 y1).bind fun p1 => (dB y2).bind fun p2 => G_filter_beats cp n p0 p1 p2 (fun r0 => k ⟨(tB r0), []⟩)
  | _, _ => none
def ca_filter_Check {R : Type} (cp : Nat → Nat → Bool) (n : Nat) (av : Fr) (cs : List Fr) (k : Ret2 RW → Option R) : Option R := match av, cs with
  | [y0, y1], [] => (dREntry false y0).bind fun p0 => (dB y1).bind fun p1 => G_filter_Check cp n p0 p1 (fun r0 => k ⟨(tL r0), []⟩)
  | _, _ => none
def ca_bbr_ctl_entries {R : Type} (cp : Nat → Nat → Bool) (n : Nat) (av : Fr) (cs : List Fr) (k : Ret2 RW → Option R) : Option R := match av, cs with
  | [y0], [w0] => (dP 36 0 y0).bind fun _ => (dctl w0).bind fun q0 => G_bbr_ctl_entries cp n q0 (fun r0 r1 => k ⟨(tB r0), [(ectl r1)]⟩)
  | _, _ => none
def ca_bbr_Check {R : Type} (cp : Nat → Nat → Bool) (n : Nat) (av : Fr) (cs : List Fr) (k : Ret2 RW → Option R) : Option R := match av, cs with
  | [y0], [] => (dA y0).bind fun c0_ => (dCc c0_).bind fun p0 => G_bbr_Check cp n p0 (fun r0 => k ⟨(tL r0), []⟩)
  | _, _ => none
def ca_bbr_ctl_round {R : Type} (cp : Nat → Nat → Bool) (n : Nat) (av : Fr) (cs : List Fr) (k : Ret2 RW → Option R) : Option R := match av, cs with
  | [y0, y1], [w0] => (dP 30 0 y0).bind fun _ => (dA y1).bind fun c1_ => (dSample c1_).bind fun p1 => (dctl w0).bind fun q0 => G_bbr_ctl_round cp n p1 q0 (fun r0 r1 => k ⟨(tB r0), [(ectl r1)]⟩)
  | _, _ => none
def ca_filter_Best {R : Type} (cp : Nat → Nat → Bool) (n : Nat) (av : Fr) (cs : List Fr) (k : Ret2 RW → Option R) : Option R := match av, cs with
  | [y0], [] => (dREntry false y0).bind fun p0 => G_filter_Best cp n p0 (fun r0 r1 => k ⟨.tup [(tL r0), (tB r1)], []⟩)
  | _, _ => none
def ca_bbr_ctl_bandwidth {R : Type} (cp : Nat → Nat → Bool) (n : Nat) (av : Fr) (cs : List Fr) (k : Ret2 RW → Option R) : Option R := match av, cs with
  | [y0], [w0] => (dP 15 0 y0).bind fun _ => (dctl w0).bind fun q0 => G_bbr_ctl_bandwidth cp n q0 (fun r0 r1 => k ⟨(tL r0), [(ectl r1)]⟩)
  | _, _ => none
def ca_filter_Put {R : Type} (cp : Nat → Nat → Bool) (n : Nat) (av : Fr) (cs : List Fr) (k : Ret2 RW → Option R) : Option R := match av, cs with
  | [y0, y1, y2, y3, y4], [] => (dREntry false y0).bind fun p0 => (dI .i64 y1).bind fun p1 => (dI .i64 y2).bind fun p2 => (dI .i64 y3).bind fun p3 => (dB y4).bind fun p4 => G_filter_Put cp n p0 p1 p2 p3 p4 (fun r0 r1 => k ⟨.tup [.row false (.rEntry r0), (tL r1)], []⟩)
  | _, _ => none
def ca_bbr_ctl_speed {R : Type} (cp : Nat → Nat → Bool) (n : Nat) (av : Fr) (cs : List Fr) (k : Ret2 RW → Option R) : Option R := match av, cs with
  | [y0, y1], [w0] => (dP 74 0 y0).bind fun _ => (dA y1).bind fun c1_ => (dSample c1_).bind fun p1 => (dctl w0).bind fun q0 => G_bbr_ctl_speed cp n p1 q0 (fun r0 => k ⟨.tup [], [(ectl r0)]⟩)
  | _, _ => none
def ca_bbr_ctl_shortest {R : Type} (cp : Nat → Nat → Bool) (n : Nat) (av : Fr) (cs : List Fr) (k : Ret2 RW → Option R) : Option R := match av, cs with
  | [y0, y1], [w0] => (dP 60 0 y0).bind fun _ => (dA y1).bind fun c1_ => (dSample c1_).bind fun p1 => (dctl w0).bind fun q0 => G_bbr_ctl_shortest cp n p1 q0 (fun r0 r1 => k ⟨(tB r0), [(ectl r1)]⟩)
  | _, _ => none
def ca_bbr_ctl_full {R : Type} (cp : Nat → Nat → Bool) (n : Nat) (av : Fr) (cs : List Fr) (k : Ret2 RW → Option R) : Option R := match av, cs with
  | [y0], [w0] => (dP 48 0 y0).bind fun _ => (dctl w0).bind fun q0 => G_bbr_ctl_full cp n q0 (fun r0 => k ⟨.tup [], [(ectl r0)]⟩)
  | _, _ => none
def ca_math_bits_Mul64 {R : Type} (cp : Nat → Nat → Bool) (n : Nat) (av : Fr) (cs : List Fr) (k : Ret2 RW → Option R) : Option R := match av, cs with
  | [y0, y1], [] => (dI .u64 y0).bind fun p0 => (dI .u64 y1).bind fun p1 => G_math_bits_Mul64 cp n p0 p1 (fun r0 r1 => k ⟨.tup [(tI .u64 r0), (tI .u64 r1)], []⟩)
  | _, _ => none
def ca_math_bits_Len64 {R : Type} (cp : Nat → Nat → Bool) (n : Nat) (av : Fr) (cs : List Fr) (k : Ret2 RW → Option R) : Option R := match av, cs with
  | [y0], [] => (dI .u64 y0).bind fun p0 => G_math_bits_Len64 cp n p0 (fun r0 => k ⟨(tL r0), []⟩)
  | _, _ => none
def ca_math_bits_LeadingZeros64 {R : Type} (cp : Nat → Nat → Bool) (n : Nat) (av : Fr) (cs : List Fr) (k : Ret2 RW → Option R) : Option R := match av, cs with
  | [y0], [] => (dI .u64 y0).bind fun p0 => G_math_bits_LeadingZeros64 cp n p0 (fun r0 => k ⟨(tL r0), []⟩)
  | _, _ => none
def ca_math_bits_Div64 {R : Type} (cp : Nat → Nat → Bool) (n : Nat) (av : Fr) (cs : List Fr) (k : Ret2 RW → Option R) : Option R := match av, cs with
  | [y0, y1, y2], [] => (dI .u64 y0).bind fun p0 => (dI .u64 y1).bind fun p1 => (dI .u64 y2).bind fun p2 => G_math_bits_Div64 cp n p0 p1 p2 (fun r0 r1 => k ⟨.tup [(tI .u64 r0), (tI .u64 r1)], []⟩)
  | _, _ => none
def ca_seq_MulDiv {R : Type} (cp : Nat → Nat → Bool) (n : Nat) (av : Fr) (cs : List Fr) (k : Ret2 RW → Option R) : Option R := match av, cs with
  | [y0, y1, y2], [] => (dI .i64 y0).bind fun p0 => (dI .i64 y1).bind fun p1 => (dI .i64 y2).bind fun p2 => G_seq_MulDiv cp n p0 p1 p2 (fun r0 r1 => k ⟨.tup [(tL r0), (tL r1)], []⟩)
  | _, _ => none
def ca_bbr_ctl_product {R : Type} (cp : Nat → Nat → Bool) (n : Nat) (av : Fr) (cs : List Fr) (k : Ret2 RW → Option R) : Option R := match av, cs with
  | [y0], [w0] => (dP 18 0 y0).bind fun _ => (dctl w0).bind fun q0 => G_bbr_ctl_product cp n q0 (fun r0 r1 => k ⟨(tL r0), [(ectl r1)]⟩)
  | _, _ => none
def ca_bbr_ctl_probe {R : Type} (cp : Nat → Nat → Bool) (n : Nat) (av : Fr) (cs : List Fr) (k : Ret2 RW → Option R) : Option R := match av, cs with
  | [y0, y1], [w0] => (dP 17 0 y0).bind fun _ => (dI .i64 y1).bind fun p1 => (dctl w0).bind fun q0 => G_bbr_ctl_probe cp n p1 q0 (fun r0 => k ⟨.tup [], [(ectl r0)]⟩)
  | _, _ => none
def ca_bbr_ctl_cycle {R : Type} (cp : Nat → Nat → Bool) (n : Nat) (av : Fr) (cs : List Fr) (k : Ret2 RW → Option R) : Option R := match av, cs with
  | [y0, y1], [w0] => (dP 62 0 y0).bind fun _ => (dA y1).bind fun c1_ => (dSample c1_).bind fun p1 => (dctl w0).bind fun q0 => G_bbr_ctl_cycle cp n p1 q0 (fun r0 => k ⟨.tup [], [(ectl r0)]⟩)
  | _, _ => none
def ca_bbr_ctl_ask {R : Type} (cp : Nat → Nat → Bool) (n : Nat) (av : Fr) (cs : List Fr) (k : Ret2 RW → Option R) : Option R := match av, cs with
  | [y0, y1, y2], [w0] => (dP 122 0 y0).bind fun _ => (dA y1).bind fun c1_ => (dSample c1_).bind fun p1 => (dB y2).bind fun p2 => (dctl w0).bind fun q0 => G_bbr_ctl_ask cp n p1 p2 q0 (fun r0 => k ⟨.tup [], [(ectl r0)]⟩)
  | _, _ => none
def ca_seq_Clamp {R : Type} (cp : Nat → Nat → Bool) (n : Nat) (av : Fr) (cs : List Fr) (k : Ret2 RW → Option R) : Option R := match av, cs with
  | [y0, y1, y2], [] => (dI .i64 y0).bind fun p0 => (dI .i64 y1).bind fun p1 => (dI .i64 y2).bind fun p2 => G_seq_Clamp cp n p0 p1 p2 (fun r0 => k ⟨(tL r0), []⟩)
  | _, _ => none
def ca_bbr_ctl_window {R : Type} (cp : Nat → Nat → Bool) (n : Nat) (av : Fr) (cs : List Fr) (k : Ret2 RW → Option R) : Option R := match av, cs with
  | [y0, y1], [w0] => (dP 73 0 y0).bind fun _ => (dA y1).bind fun c1_ => (dSample c1_).bind fun p1 => (dctl w0).bind fun q0 => G_bbr_ctl_window cp n p1 q0 (fun r0 => k ⟨.tup [], [(ectl r0)]⟩)
  | _, _ => none
def ca_bbr_Acked {R : Type} (cp : Nat → Nat → Bool) (n : Nat) (av : Fr) (cs : List Fr) (k : Ret2 RW → Option R) : Option R := match av, cs with
  | [y0, y1], [] => (dA y0).bind fun c0_ => (dCc c0_).bind fun p0 => (dA y1).bind fun c1_ => (dSample c1_).bind fun p1 => G_bbr_Acked cp n p0 p1 (fun r0 r1 => k ⟨.tup [.agg (eCc r0), (tL r1)], []⟩)
  | _, _ => none
def ca_bbr_Timeout {R : Type} (cp : Nat → Nat → Bool) (n : Nat) (av : Fr) (cs : List Fr) (k : Ret2 RW → Option R) : Option R := match av, cs with
  | [y0, y1], [] => (dA y0).bind fun c0_ => (dCc c0_).bind fun p0 => (dI .i64 y1).bind fun p1 => G_bbr_Timeout cp n p0 p1 (fun r0 r1 => k ⟨.tup [.agg (eCc r0), (tL r1)], []⟩)
  | _, _ => none
def ca_bbr_Bandwidth {R : Type} (cp : Nat → Nat → Bool) (n : Nat) (av : Fr) (cs : List Fr) (k : Ret2 RW → Option R) : Option R := match av, cs with
  | [y0], [] => (dA y0).bind fun c0_ => (dCc c0_).bind fun p0 => G_bbr_Bandwidth cp n p0 (fun r0 => k ⟨(tL r0), []⟩)
  | _, _ => none
def ca_bbr_Product {R : Type} (cp : Nat → Nat → Bool) (n : Nat) (av : Fr) (cs : List Fr) (k : Ret2 RW → Option R) : Option R := match av, cs with
  | [y0], [] => (dA y0).bind fun c0_ => (dCc c0_).bind fun p0 => G_bbr_Product cp n p0 (fun r0 => k ⟨(tL r0), []⟩)
  | _, _ => none
def ca_bbr_Gain {R : Type} (cp : Nat → Nat → Bool) (n : Nat) (av : Fr) (cs : List Fr) (k : Ret2 RW → Option R) : Option R := match av, cs with
  | [y0], [] => (dA y0).bind fun c0_ => (dCc c0_).bind fun p0 => G_bbr_Gain cp n p0 (fun r0 => k ⟨(tL r0), []⟩)
  | _, _ => none
def ca_law18_heads {R : Type} (cp : Nat → Nat → Bool) (n : Nat) (av : Fr) (cs : List Fr) (k : Ret2 RW → Option R) : Option R := match av, cs with
  | [], [] => G_law18_heads cp n (fun r0 => k ⟨(tB r0), []⟩)
  | _, _ => none
def ca_law18_BbrStays {R : Type} (cp : Nat → Nat → Bool) (n : Nat) (av : Fr) (cs : List Fr) (k : Ret2 RW → Option R) : Option R := match av, cs with
  | [y0, y1, y2], [] => (dI .i64 y0).bind fun p0 => (dI .i64 y1).bind fun p1 => (dRSample false y2).bind fun p2 => G_law18_BbrStays cp n p0 p1 p2 (fun r0 => k ⟨(tB r0), []⟩)
  | _, _ => none
def callP {R : Type} (cp : Nat → Nat → Bool) (n : Nat) (id : Nat) (av : Fr) (cs : List Fr) (k : Ret2 RW → Option R) : Option R := match id with
  | 20 => ca_reno_New cp n av cs k
  | 9 => ca_bbr_New cp n av cs k
  | 17 => ca_bbr_within cp n av cs k
  | 44 => ca_filter_may cp n av cs k
  | 45 => ca_filter_beats cp n av cs k
  | 36 => ca_filter_Check cp n av cs k
  | 1007 => ca_bbr_ctl_entries cp n av cs k
  | 12 => ca_bbr_Check cp n av cs k
  | 1011 => ca_bbr_ctl_round cp n av cs k
  | 40 => ca_filter_Best cp n av cs k
  | 1013 => ca_bbr_ctl_bandwidth cp n av cs k
  | 37 => ca_filter_Put cp n av cs k
  | 1012 => ca_bbr_ctl_speed cp n av cs k
  | 1016 => ca_bbr_ctl_shortest cp n av cs k
  | 1017 => ca_bbr_ctl_full cp n av cs k
  | 46 => ca_math_bits_Mul64 cp n av cs k
  | 49 => ca_math_bits_Len64 cp n av cs k
  | 48 => ca_math_bits_LeadingZeros64 cp n av cs k
  | 47 => ca_math_bits_Div64 cp n av cs k
  | 41 => ca_seq_MulDiv cp n av cs k
  | 1019 => ca_bbr_ctl_product cp n av cs k
  | 1025 => ca_bbr_ctl_probe cp n av cs k
  | 1018 => ca_bbr_ctl_cycle cp n av cs k
  | 1026 => ca_bbr_ctl_ask cp n av cs k
  | 39 => ca_seq_Clamp cp n av cs k
  | 1027 => ca_bbr_ctl_window cp n av cs k
  | 14 => ca_bbr_Acked cp n av cs k
  | 7 => ca_bbr_Timeout cp n av cs k
  | 15 => ca_bbr_Bandwidth cp n av cs k
  | 16 => ca_bbr_Product cp n av cs k
  | 23 => ca_bbr_Gain cp n av cs k
  | 13 => ca_law18_heads cp n av cs k
  | 4 => ca_law18_BbrStays cp n av cs k
  | _ => none
end
end Go.Proofs.Ytgadpgeghlhpnaa.M
