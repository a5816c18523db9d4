/- The values of the program's functions, and the functions, plain. -/
import Derived.Test.YtgadpgeghlhpnaaMachX
set_option maxRecDepth 100000
set_option linter.unusedVariables false
namespace Go.Proofs.Ytgadpgeghlhpnaa.M
open Go
noncomputable section
def str_ : ByteArray := ⟨#[]⟩
def tab256_2793 : ByteArray := ⟨#[0, 1, 2, 2, 3, 3, 3, 3, 4, 4, 4, 4, 4, 4, 4, 4, 5, 5, 5, 5, 5, 5, 5, 5, 5, 5, 5, 5, 5, 5, 5, 5, 6, 6, 6, 6, 6, 6, 6, 6, 6, 6, 6, 6, 6, 6, 6, 6, 6, 6, 6, 6, 6, 6, 6, 6, 6, 6, 6, 6, 6, 6, 6, 6, 7, 7, 7, 7, 7, 7, 7, 7, 7, 7, 7, 7, 7, 7, 7, 7, 7, 7, 7, 7, 7, 7, 7, 7, 7, 7, 7, 7, 7, 7, 7, 7, 7, 7, 7, 7, 7, 7, 7, 7, 7, 7, 7, 7, 7, 7, 7, 7, 7, 7, 7, 7, 7, 7, 7, 7, 7, 7, 7, 7, 7, 7, 7, 7, 8, 8, 8, 8, 8, 8, 8, 8, 8, 8, 8, 8, 8, 8, 8, 8, 8, 8, 8, 8, 8, 8, 8, 8, 8, 8, 8, 8, 8, 8, 8, 8, 8, 8, 8, 8, 8, 8, 8, 8, 8, 8, 8, 8, 8, 8, 8, 8, 8, 8, 8, 8, 8, 8, 8, 8, 8, 8, 8, 8, 8, 8, 8, 8, 8, 8, 8, 8, 8, 8, 8, 8, 8, 8, 8, 8, 8, 8, 8, 8, 8, 8, 8, 8, 8, 8, 8, 8, 8, 8, 8, 8, 8, 8, 8, 8, 8, 8, 8, 8, 8, 8, 8, 8, 8, 8, 8, 8, 8, 8, 8, 8, 8, 8, 8, 8, 8, 8, 8, 8, 8, 8, 8, 8, 8, 8, 8, 8]⟩
structure SEntry where
  xAt : Int
  xV : Int
def zEntry : SEntry := ⟨0, 0⟩
structure SCc where
  xKind : Int
  xMss : Int
  xCwnd : Int
  xSsthresh : Int
  xAcc : Int
  xWmax : Int
  xEpoch : Int
  xK : Int
  xWest : Int
  xStart : Int
  xMode : Int
  xBw : (List SEntry)
  xMinRtt : Int
  xMinAt : Int
  xRound : Int
  xNextAt : Int
  xFull : Int
  xFullN : Int
  xPhase : Int
  xPhaseAt : Int
  xDoneAt : Int
  xPrior : Int
def zCc : SCc := ⟨0, 0, 0, 0, 0, 0, 0, 0, 0, 0, 0, [], 0, 0, 0, 0, 0, 0, 0, 0, 0, 0⟩
structure SSample where
  xNow : Int
  xAcked : Int
  xRtt : Int
  xRate : Int
  xIdle : Bool
  xGiven : Int
  xBefore : Int
  xFlight : Int
def zSample : SSample := ⟨0, 0, 0, 0, false, 0, 0, 0⟩
def zint : Int := 0
structure Sctl where
  xCc_Kind : Int
  xCc_Mss : Int
  xCc_Cwnd : Int
  xCc_Ssthresh : Int
  xCc_Acc : Int
  xCc_Wmax : Int
  xCc_Epoch : Int
  xCc_K : Int
  xCc_West : Int
  xCc_Start : Int
  xCc_Mode : Int
  xCc_Bw : (List SEntry)
  xCc_MinRtt : Int
  xCc_MinAt : Int
  xCc_Round : Int
  xCc_NextAt : Int
  xCc_Full : Int
  xCc_FullN : Int
  xCc_Phase : Int
  xCc_PhaseAt : Int
  xCc_DoneAt : Int
  xCc_Prior : Int
def zctl : Sctl := ⟨0, 0, 0, 0, 0, 0, 0, 0, 0, 0, 0, [], 0, 0, 0, 0, 0, 0, 0, 0, 0, 0⟩
inductive RW where
  | rEntry (xs : List SEntry)
  | rint (xs : List Int)

abbrev Fr := List (TV RW)
abbrev FF := FT RW
def tI (k : IntKind) (n : Int) : TV RW := .sc (.int k n)
def tL (n : Int) : TV RW := .sc (.int .i64 n)
def tB (b : Bool) : TV RW := .sc (.bool b)
def dT : Nat → Fr → Fr
  | 0, l => l
  | n + 1, l => .dead :: dT n l
def dc : Fr := dT 16 []
def eCc (x : SCc) : List (TV RW) := [(tL x.xKind), (tL x.xMss), (tL x.xCwnd), (tL x.xSsthresh), (tL x.xAcc), (tL x.xWmax), (tL x.xEpoch), (tL x.xK), (tL x.xWest), (tL x.xStart), (tL x.xMode), .row false (.rEntry x.xBw), (tL x.xMinRtt), (tL x.xMinAt), (tL x.xRound), (tL x.xNextAt), (tL x.xFull), (tL x.xFullN), (tL x.xPhase), (tL x.xPhaseAt), (tL x.xDoneAt), (tL x.xPrior)]
def eCct (x : SCc) : List (TV RW) := [(tL x.xKind), (tL x.xMss), (tL x.xCwnd), (tL x.xSsthresh), (tL x.xAcc), (tL x.xWmax), (tL x.xEpoch), (tL x.xK), (tL x.xWest), (tL x.xStart), (tL x.xMode), .row true (.rEntry x.xBw), (tL x.xMinRtt), (tL x.xMinAt), (tL x.xRound), (tL x.xNextAt), (tL x.xFull), (tL x.xFullN), (tL x.xPhase), (tL x.xPhaseAt), (tL x.xDoneAt), (tL x.xPrior)]
def eEntry (x : SEntry) : List (TV RW) := [(tL x.xAt), (tL x.xV)]
def eSample (x : SSample) : List (TV RW) := [(tL x.xNow), (tL x.xAcked), (tL x.xRtt), (tL x.xRate), (tB x.xIdle), (tL x.xGiven), (tL x.xBefore), (tL x.xFlight)]
def ectl (x : Sctl) : List (TV RW) := [(tL x.xCc_Kind), (tL x.xCc_Mss), (tL x.xCc_Cwnd), (tL x.xCc_Ssthresh), (tL x.xCc_Acc), (tL x.xCc_Wmax), (tL x.xCc_Epoch), (tL x.xCc_K), (tL x.xCc_West), (tL x.xCc_Start), (tL x.xCc_Mode), .row false (.rEntry x.xCc_Bw), (tL x.xCc_MinRtt), (tL x.xCc_MinAt), (tL x.xCc_Round), (tL x.xCc_NextAt), (tL x.xCc_Full), (tL x.xCc_FullN), (tL x.xCc_Phase), (tL x.xCc_PhaseAt), (tL x.xCc_DoneAt), (tL x.xCc_Prior)]
def ectlt (x : Sctl) : List (TV RW) := [(tL x.xCc_Kind), (tL x.xCc_Mss), (tL x.xCc_Cwnd), (tL x.xCc_Ssthresh), (tL x.xCc_Acc), (tL x.xCc_Wmax), (tL x.xCc_Epoch), (tL x.xCc_K), (tL x.xCc_West), (tL x.xCc_Start), (tL x.xCc_Mode), .row true (.rEntry x.xCc_Bw), (tL x.xCc_MinRtt), (tL x.xCc_MinAt), (tL x.xCc_Round), (tL x.xCc_NextAt), (tL x.xCc_Full), (tL x.xCc_FullN), (tL x.xCc_Phase), (tL x.xCc_PhaseAt), (tL x.xCc_DoneAt), (tL x.xCc_Prior)]
def eint (x : Int) : List (TV RW) := [(tL x)]
def cEntry (x : SEntry) : List AV := [.sc (.int .i64 x.xAt), .sc (.int .i64 x.xV)]
def cint (x : Int) : List AV := [.sc (.int .i64 x)]
def dOne : Fr → Option (TV RW)
  | [x] => some x
  | _ => none
def dI (kd : IntKind) : TV RW → Option Int
  | .sc (.int k a) => cond (decide (k = kd)) (some a) none
  | _ => none
def dB : TV RW → Option Bool
  | .sc (.bool b) => some b
  | _ => none
def dS : TV RW → Option ByteArray
  | .sc (.string b) => some b
  | _ => none
def dA : TV RW → Option Fr
  | .agg cs => some cs
  | _ => none
def dP (h j : Nat) : TV RW → Option Unit
  | .ptr a b => cond (Nat.beq a h && Nat.beq b j) (some ()) none
  | _ => none
def dC (f : Nat) (cs : List (Nat × Nat)) : TV RW → Option Unit
  | .clo a b => cond (Nat.beq a f && decide (b = cs)) (some ()) none
  | _ => none
def dREntry (fl : Bool) : TV RW → Option (List SEntry)
  | .row a (.rEntry xs) => cond (a == fl) (some xs) none
  | _ => none
def dRint (fl : Bool) : TV RW → Option (List Int)
  | .row a (.rint xs) => cond (a == fl) (some xs) none
  | _ => none
def dCc : Fr → Option SCc
  | [y0, y1, y2, y3, y4, y5, y6, y7, y8, y9, y10, y11, y12, y13, y14, y15, y16, y17, y18, y19, y20, y21] => (dI .i64 y0).bind fun a0 => (dI .i64 y1).bind fun a1 => (dI .i64 y2).bind fun a2 => (dI .i64 y3).bind fun a3 => (dI .i64 y4).bind fun a4 => (dI .i64 y5).bind fun a5 => (dI .i64 y6).bind fun a6 => (dI .i64 y7).bind fun a7 => (dI .i64 y8).bind fun a8 => (dI .i64 y9).bind fun a9 => (dI .i64 y10).bind fun a10 => (dREntry false y11).bind fun a11 => (dI .i64 y12).bind fun a12 => (dI .i64 y13).bind fun a13 => (dI .i64 y14).bind fun a14 => (dI .i64 y15).bind fun a15 => (dI .i64 y16).bind fun a16 => (dI .i64 y17).bind fun a17 => (dI .i64 y18).bind fun a18 => (dI .i64 y19).bind fun a19 => (dI .i64 y20).bind fun a20 => (dI .i64 y21).bind fun a21 => some ⟨a0, a1, a2, a3, a4, a5, a6, a7, a8, a9, a10, a11, a12, a13, a14, a15, a16, a17, a18, a19, a20, a21⟩
  | _ => none
def dCct : Fr → Option SCc
  | [y0, y1, y2, y3, y4, y5, y6, y7, y8, y9, y10, y11, y12, y13, y14, y15, y16, y17, y18, y19, y20, y21] => (dI .i64 y0).bind fun a0 => (dI .i64 y1).bind fun a1 => (dI .i64 y2).bind fun a2 => (dI .i64 y3).bind fun a3 => (dI .i64 y4).bind fun a4 => (dI .i64 y5).bind fun a5 => (dI .i64 y6).bind fun a6 => (dI .i64 y7).bind fun a7 => (dI .i64 y8).bind fun a8 => (dI .i64 y9).bind fun a9 => (dI .i64 y10).bind fun a10 => (dREntry true y11).bind fun a11 => (dI .i64 y12).bind fun a12 => (dI .i64 y13).bind fun a13 => (dI .i64 y14).bind fun a14 => (dI .i64 y15).bind fun a15 => (dI .i64 y16).bind fun a16 => (dI .i64 y17).bind fun a17 => (dI .i64 y18).bind fun a18 => (dI .i64 y19).bind fun a19 => (dI .i64 y20).bind fun a20 => (dI .i64 y21).bind fun a21 => some ⟨a0, a1, a2, a3, a4, a5, a6, a7, a8, a9, a10, a11, a12, a13, a14, a15, a16, a17, a18, a19, a20, a21⟩
  | _ => none
def dEntry : Fr → Option SEntry
  | [y0, y1] => (dI .i64 y0).bind fun a0 => (dI .i64 y1).bind fun a1 => some ⟨a0, a1⟩
  | _ => none
def dSample : Fr → Option SSample
  | [y0, y1, y2, y3, y4, y5, y6, y7] => (dI .i64 y0).bind fun a0 => (dI .i64 y1).bind fun a1 => (dI .i64 y2).bind fun a2 => (dI .i64 y3).bind fun a3 => (dB y4).bind fun a4 => (dI .i64 y5).bind fun a5 => (dI .i64 y6).bind fun a6 => (dI .i64 y7).bind fun a7 => some ⟨a0, a1, a2, a3, a4, a5, a6, a7⟩
  | _ => none
def dctl : Fr → Option Sctl
  | [y0, y1, y2, y3, y4, y5, y6, y7, y8, y9, y10, y11, y12, y13, y14, y15, y16, y17, y18, y19, y20, y21] => (dI .i64 y0).bind fun a0 => (dI .i64 y1).bind fun a1 => (dI .i64 y2).bind fun a2 => (dI .i64 y3).bind fun a3 => (dI .i64 y4).bind fun a4 => (dI .i64 y5).bind fun a5 => (dI .i64 y6).bind fun a6 => (dI .i64 y7).bind fun a7 => (dI .i64 y8).bind fun a8 => (dI .i64 y9).bind fun a9 => (dI .i64 y10).bind fun a10 => (dREntry false y11).bind fun a11 => (dI .i64 y12).bind fun a12 => (dI .i64 y13).bind fun a13 => (dI .i64 y14).bind fun a14 => (dI .i64 y15).bind fun a15 => (dI .i64 y16).bind fun a16 => (dI .i64 y17).bind fun a17 => (dI .i64 y18).bind fun a18 => (dI .i64 y19).bind fun a19 => (dI .i64 y20).bind fun a20 => (dI .i64 y21).bind fun a21 => some ⟨a0, a1, a2, a3, a4, a5, a6, a7, a8, a9, a10, a11, a12, a13, a14, a15, a16, a17, a18, a19, a20, a21⟩
  | _ => none
def dctlt : Fr → Option Sctl
  | [y0, y1, y2, y3, y4, y5, y6, y7, y8, y9, y10, y11, y12, y13, y14, y15, y16, y17, y18, y19, y20, y21] => (dI .i64 y0).bind fun a0 => (dI .i64 y1).bind fun a1 => (dI .i64 y2).bind fun a2 => (dI .i64 y3).bind fun a3 => (dI .i64 y4).bind fun a4 => (dI .i64 y5).bind fun a5 => (dI .i64 y6).bind fun a6 => (dI .i64 y7).bind fun a7 => (dI .i64 y8).bind fun a8 => (dI .i64 y9).bind fun a9 => (dI .i64 y10).bind fun a10 => (dREntry true y11).bind fun a11 => (dI .i64 y12).bind fun a12 => (dI .i64 y13).bind fun a13 => (dI .i64 y14).bind fun a14 => (dI .i64 y15).bind fun a15 => (dI .i64 y16).bind fun a16 => (dI .i64 y17).bind fun a17 => (dI .i64 y18).bind fun a18 => (dI .i64 y19).bind fun a19 => (dI .i64 y20).bind fun a20 => (dI .i64 y21).bind fun a21 => some ⟨a0, a1, a2, a3, a4, a5, a6, a7, a8, a9, a10, a11, a12, a13, a14, a15, a16, a17, a18, a19, a20, a21⟩
  | _ => none
def pEntry_ : Fr → Option (List SEntry)
  | [] => some []
  | y0 :: y1 :: r => (dI .i64 y0).bind fun a0 => (dI .i64 y1).bind fun a1 => (pEntry_ r).bind fun xs => some (⟨a0, a1⟩ :: xs)
  | _ => none

def pint_ : Fr → Option (List Int)
  | [] => some []
  | y0 :: r => (dI .i64 y0).bind fun a0 => (pint_ r).bind fun xs => some (a0 :: xs)

def U : Uni RW where
  sz := fun r => match r with
    | .rEntry xs => 2
    | .rint xs => 1
  len := fun r => match r with
    | .rEntry xs => xs.length
    | .rint xs => xs.length
  getA := fun r => match r with
    | .rEntry xs => rg cEntry zEntry xs
    | .rint xs => rg cint zint xs
  get := fun r i => match r with
    | .rEntry xs => eEntry (xs.getD i zEntry)
    | .rint xs => eint (xs.getD i zint)
  app := fun r q => match r with
    | .rEntry xs => (match q with
      | .rEntry ys => some (.rEntry (xs ++ ys))
      | _ => none)
    | .rint xs => (match q with
      | .rint ys => some (.rint (xs ++ ys))
      | _ => none)
  sub := fun lo n r => match r with
    | .rEntry xs => .rEntry (List.take n (xs.drop lo))
    | .rint xs => .rint (List.take n (xs.drop lo))
  szt := fun t => match t with
    | 49 => 2
    | 3 => 1
    | _ => 0
  zt := fun t => match t with
    | 49 => eEntry zEntry
    | 3 => eint zint
    | _ => []
  lit := fun t n L => match t with
    | 49 => (pEntry_ L).bind fun xs => cond (Nat.beq xs.length n) (some (.rEntry xs)) none
    | 3 => (pint_ L).bind fun xs => cond (Nat.beq xs.length n) (some (.rint xs)) none
    | _ => none
/-! tideway/bbr.within -/
def s_bbr_within_1 {R : Type} (cp : Nat → Nat → Bool) (n : Nat) (p0 : Int) (p1 : (List Int)) (kn : Option R) : Option R :=
  kn
def s_bbr_within_3 {R : Type} (cp : Nat → Nat → Bool) (n : Nat) (p0 : Int) (p1 : (List Int)) (kn : Int → Option R) : Option R :=
  kn (p1.length : Int)
def s_bbr_within_5 {R : Type} (cp : Nat → Nat → Bool) (n : Nat) (p0 : Int) (p1 : (List Int)) (v1 v2 : Int) (kn : Int → Option R) (kr : Option R) (ke0 : Option R) : Option R :=
  cond (decide (v2 < v1)) (cond (decide (0 ≤ v2)) (cond (decide (v2 < (p1.length : Int))) (cond (decide ((p1.getD (Int.toNat v2) zint) < 0)) (kr) (cond (decide (p0 < (p1.getD (Int.toNat v2) zint))) (kr) (kn (wr .i64 (v2 + 1))))) (none)) (none)) (ke0)
def l_bbr_within_10 {R : Type} (cp : Nat → Nat → Bool) (n : Nat) : Nat → Int → (List Int) → Int → Int → (Option R) → (Option R) → Option R
  | 0, _, _, _, _, _, _ => none
  | m + 1, p0, p1, v1, v2, kr, ke0 =>
    s_bbr_within_5 cp n p0 p1 v1 v2 (fun v3 => l_bbr_within_10 cp n m p0 p1 v1 v3 kr ke0) kr ke0
def s_bbr_within_11 {R : Type} (cp : Nat → Nat → Bool) (n : Nat) (p0 : Int) (p1 : (List Int)) (v1 : Int) (kr : Option R) (ke0 : Option R) : Option R :=
  l_bbr_within_10 cp n n p0 p1 v1 0 kr ke0
def s_bbr_within_12 {R : Type} (cp : Nat → Nat → Bool) (n : Nat) (p0 : Int) (p1 : (List Int)) (v1 : Int) (kn : Option R) (kr : Option R) : Option R :=
  s_bbr_within_11 cp n p0 p1 v1 kr kn
def s_bbr_within_13 {R : Type} (cp : Nat → Nat → Bool) (n : Nat) (p0 : Int) (p1 : (List Int)) (kn : Option R) (kr : Option R) : Option R :=
  s_bbr_within_3 cp n p0 p1 (fun v1 => s_bbr_within_12 cp n p0 p1 v1 kn kr)
def s_bbr_within_14 {R : Type} (cp : Nat → Nat → Bool) (n : Nat) (kr : Option R) : Option R :=
  kr
def s_bbr_within_17 {R : Type} (cp : Nat → Nat → Bool) (n : Nat) (p0 : Int) (p1 : (List Int)) (kr : Bool → Option R) : Option R :=
  s_bbr_within_13 cp n p0 p1 (s_bbr_within_14 cp n (kr true)) (kr false)
def s_bbr_within_19 {R : Type} (cp : Nat → Nat → Bool) (n : Nat) (p0 : Int) (p1 : (List Int)) (kr : Bool → Option R) : Option R :=
  s_bbr_within_1 cp n p0 p1 (s_bbr_within_17 cp n p0 p1 (fun v4 => (kr v4)))
def G_bbr_within {R : Type} (cp : Nat → Nat → Bool) : Nat → Int → (List Int) → (Bool → Option R) → Option R
  | 0, _, _, _ => none
  | n + 1, p0, p1, k =>
    s_bbr_within_19 cp n p0 p1 (fun v5 => k v5)
/-! tideway/filter.may -/
def G_filter_may {R : Type} (cp : Nat → Nat → Bool) : Nat → SEntry → (Bool → Option R) → Option R
  | 0, _, _ => none
  | n + 1, p0, k =>
    cond (decide (0 ≤ p0.xAt)) (cond (decide (p0.xAt ≤ 1125899906842624)) (cond (decide (0 ≤ p0.xV)) (k (decide (p0.xV ≤ 1152921504606846976))) (k false)) (k false)) (k false)
/-! tideway/filter.beats -/
def G_filter_beats {R : Type} (cp : Nat → Nat → Bool) : Nat → Int → Int → Bool → (Bool → Option R) → Option R
  | 0, _, _, _, _ => none
  | n + 1, p0, p1, p2, k =>
    cond (p2) (cond (decide (p1 ≤ p0)) (k true) (cond (!p2) (k (decide (p0 ≤ p1))) (k false))) (cond (!p2) (k (decide (p0 ≤ p1))) (k false))
/-! tideway/filter.Check -/
def s_filter_Check_1 {R : Type} (cp : Nat → Nat → Bool) (n : Nat) (p0 : (List SEntry)) (p1 : Bool) (kn : Option R) : Option R :=
  kn
def s_filter_Check_3 {R : Type} (cp : Nat → Nat → Bool) (n : Nat) (p0 : (List SEntry)) (p1 : Bool) (kn : Int → Option R) : Option R :=
  kn (p0.length : Int)
def s_filter_Check_5 {R : Type} (cp : Nat → Nat → Bool) (n : Nat) (p0 : (List SEntry)) (p1 : Bool) (v9 v10 : Int) (kn : Int → Option R) (kr : Option R) (ke0 : Option R) : Option R :=
  cond (decide (v10 < v9)) (cond (decide (0 ≤ v10)) (cond (decide (v10 < (p0.length : Int))) (G_filter_may cp n (p0.getD (Int.toNat v10) zEntry) (fun r11 => cond (!r11) (kr) (cond (decide (0 < v10)) (cond (decide (0 ≤ wr .i64 (v10 - 1))) (cond (decide (wr .i64 (v10 - 1) < (p0.length : Int))) (cond (decide (((p0.getD (Int.toNat v10) zEntry).xAt) ≤ ((p0.getD (Int.toNat (wr .i64 (v10 - 1))) zEntry).xAt))) (kr) (cond (decide (0 ≤ wr .i64 (v10 - 1))) (cond (decide (wr .i64 (v10 - 1) < (p0.length : Int))) (G_filter_beats cp n ((p0.getD (Int.toNat v10) zEntry).xV) ((p0.getD (Int.toNat (wr .i64 (v10 - 1))) zEntry).xV) p1 (fun r12 => cond (r12) (kr) (kn (wr .i64 (v10 + 1))))) (none)) (none))) (none)) (none)) (kn (wr .i64 (v10 + 1)))))) (none)) (none)) (ke0)
def l_filter_Check_10 {R : Type} (cp : Nat → Nat → Bool) (n : Nat) : Nat → (List SEntry) → Bool → Int → Int → (Option R) → (Option R) → Option R
  | 0, _, _, _, _, _, _ => none
  | m + 1, p0, p1, v9, v10, kr, ke0 =>
    s_filter_Check_5 cp n p0 p1 v9 v10 (fun v13 => l_filter_Check_10 cp n m p0 p1 v9 v13 kr ke0) kr ke0
def s_filter_Check_11 {R : Type} (cp : Nat → Nat → Bool) (n : Nat) (p0 : (List SEntry)) (p1 : Bool) (v9 : Int) (kr : Option R) (ke0 : Option R) : Option R :=
  l_filter_Check_10 cp n n p0 p1 v9 0 kr ke0
def s_filter_Check_12 {R : Type} (cp : Nat → Nat → Bool) (n : Nat) (p0 : (List SEntry)) (p1 : Bool) (v9 : Int) (kn : Option R) (kr : Option R) : Option R :=
  s_filter_Check_11 cp n p0 p1 v9 kr kn
def s_filter_Check_13 {R : Type} (cp : Nat → Nat → Bool) (n : Nat) (p0 : (List SEntry)) (p1 : Bool) (kn : Option R) (kr : Option R) : Option R :=
  s_filter_Check_3 cp n p0 p1 (fun v9 => s_filter_Check_12 cp n p0 p1 v9 kn kr)
def s_filter_Check_14 {R : Type} (cp : Nat → Nat → Bool) (n : Nat) (kr : Option R) : Option R :=
  kr
def s_filter_Check_17 {R : Type} (cp : Nat → Nat → Bool) (n : Nat) (p0 : (List SEntry)) (p1 : Bool) (kr : Int → Option R) : Option R :=
  s_filter_Check_13 cp n p0 p1 (s_filter_Check_14 cp n (kr 0)) (kr 2)
def s_filter_Check_19 {R : Type} (cp : Nat → Nat → Bool) (n : Nat) (p0 : (List SEntry)) (p1 : Bool) (kr : Int → Option R) : Option R :=
  s_filter_Check_1 cp n p0 p1 (s_filter_Check_17 cp n p0 p1 (fun v14 => (kr v14)))
def G_filter_Check {R : Type} (cp : Nat → Nat → Bool) : Nat → (List SEntry) → Bool → (Int → Option R) → Option R
  | 0, _, _, _ => none
  | n + 1, p0, p1, k =>
    s_filter_Check_19 cp n p0 p1 (fun v15 => k v15)
/-! (*tideway/bbr.ctl).entries -/
def s_bbr_ctl_entries_1 {R : Type} (cp : Nat → Nat → Bool) (n : Nat) (q0 : Sctl) (kn : Option R) (kr : Option R) : Option R :=
  G_filter_Check cp n q0.xCc_Bw true (fun r16 => cond (!decide (r16 = 0)) (kr) (kn))
def s_bbr_ctl_entries_4 {R : Type} (cp : Nat → Nat → Bool) (n : Nat) (q0 : Sctl) (kn : Int → Option R) : Option R :=
  kn (q0.xCc_Bw.length : Int)
def s_bbr_ctl_entries_6 {R : Type} (cp : Nat → Nat → Bool) (n : Nat) (q0 : Sctl) (v17 v18 : Int) (kn : Int → Option R) (kr : Option R) (ke0 : Option R) : Option R :=
  cond (decide (v18 < v17)) (cond (decide (0 ≤ v18)) (cond (decide (v18 < (q0.xCc_Bw.length : Int))) (cond (decide (1099511627776 < ((q0.xCc_Bw.getD (Int.toNat v18) zEntry).xV))) (kr) (cond (decide (q0.xCc_Round < ((q0.xCc_Bw.getD (Int.toNat v18) zEntry).xAt))) (kr) (kn (wr .i64 (v18 + 1))))) (none)) (none)) (ke0)
def l_bbr_ctl_entries_10 {R : Type} (cp : Nat → Nat → Bool) (n : Nat) : Nat → Sctl → Int → Int → (Option R) → (Option R) → Option R
  | 0, _, _, _, _, _ => none
  | m + 1, q0, v17, v18, kr, ke0 =>
    s_bbr_ctl_entries_6 cp n q0 v17 v18 (fun v19 => l_bbr_ctl_entries_10 cp n m q0 v17 v19 kr ke0) kr ke0
def s_bbr_ctl_entries_11 {R : Type} (cp : Nat → Nat → Bool) (n : Nat) (q0 : Sctl) (v17 : Int) (kr : Option R) (ke0 : Option R) : Option R :=
  l_bbr_ctl_entries_10 cp n n q0 v17 0 kr ke0
def s_bbr_ctl_entries_12 {R : Type} (cp : Nat → Nat → Bool) (n : Nat) (q0 : Sctl) (v17 : Int) (kn : Option R) (kr : Option R) : Option R :=
  s_bbr_ctl_entries_11 cp n q0 v17 kr kn
def s_bbr_ctl_entries_13 {R : Type} (cp : Nat → Nat → Bool) (n : Nat) (q0 : Sctl) (kn : Option R) (kr : Option R) : Option R :=
  s_bbr_ctl_entries_4 cp n q0 (fun v17 => s_bbr_ctl_entries_12 cp n q0 v17 kn kr)
def s_bbr_ctl_entries_14 {R : Type} (cp : Nat → Nat → Bool) (n : Nat) (q0 : Sctl) (kr : Option R) : Option R :=
  kr
def s_bbr_ctl_entries_17 {R : Type} (cp : Nat → Nat → Bool) (n : Nat) (q0 : Sctl) (kr : Bool → Option R) : Option R :=
  s_bbr_ctl_entries_13 cp n q0 (s_bbr_ctl_entries_14 cp n q0 (kr true)) (kr false)
def s_bbr_ctl_entries_19 {R : Type} (cp : Nat → Nat → Bool) (n : Nat) (q0 : Sctl) (kr : Bool → Option R) : Option R :=
  s_bbr_ctl_entries_1 cp n q0 (s_bbr_ctl_entries_17 cp n q0 (fun v20 => (kr v20))) (kr false)
def G_bbr_ctl_entries {R : Type} (cp : Nat → Nat → Bool) : Nat → Sctl → (Bool → Sctl → Option R) → Option R
  | 0, _, _ => none
  | n + 1, q0, k =>
    s_bbr_ctl_entries_19 cp n q0 (fun v21 => k v21 q0)
/-! tideway/bbr.Check -/
def s_bbr_Check_1 {R : Type} (cp : Nat → Nat → Bool) (n : Nat) (p0 : SCc) (kn : Option R) : Option R :=
  kn
def s_bbr_Check_3 {R : Type} (cp : Nat → Nat → Bool) (n : Nat) (p0 : SCc) (kn : Bool → Option R) : Option R :=
  cond (decide (p0.xKind = 3)) (cond (decide (1 ≤ p0.xMss)) (cond (decide (p0.xMss ≤ 65000)) (cond (decide (p0.xMss ≤ p0.xCwnd)) (cond (decide (p0.xCwnd ≤ 1073741824)) (cond (decide (p0.xSsthresh = 1073741824)) (kn (decide (p0.xAcc = 0))) (kn false)) (kn false)) (kn false)) (kn false)) (kn false)) (kn false)
def s_bbr_Check_5 {R : Type} (cp : Nat → Nat → Bool) (n : Nat) (p0 : SCc) (v1 : Bool) (kn : Bool → Option R) : Option R :=
  cond (decide (p0.xWmax = 0)) (cond (decide (p0.xEpoch = 0)) (cond (decide (p0.xK = 0)) (cond (decide (p0.xWest = 0)) (kn (decide (p0.xStart = 0))) (kn false)) (kn false)) (kn false)) (kn false)
def s_bbr_Check_7 {R : Type} (cp : Nat → Nat → Bool) (n : Nat) (p0 : SCc) (v1 v2 : Bool) (kn : Bool → Option R) : Option R :=
  G_bbr_within cp n 1125899906842624 [p0.xMinRtt, p0.xMinAt, p0.xNextAt, p0.xPhaseAt, p0.xDoneAt, p0.xRound] (fun r3 => kn r3)
def s_bbr_Check_9 {R : Type} (cp : Nat → Nat → Bool) (n : Nat) (p0 : SCc) (v1 v2 v4 : Bool) (kn : Bool → Option R) : Option R :=
  G_bbr_within cp n 1099511627776 [p0.xFull] (fun r5 => cond (r5) (G_bbr_within cp n 3 [p0.xFullN] (fun r6 => cond (r6) (G_bbr_within cp n 7 [p0.xPhase] (fun r7 => cond (r7) (G_bbr_within cp n 1073741824 [p0.xPrior] (fun r8 => kn r8)) (kn false))) (kn false))) (kn false))
def s_bbr_Check_11 {R : Type} (cp : Nat → Nat → Bool) (n : Nat) (p0 : SCc) (v1 v2 v4 v9 : Bool) (kr : Int → Option R) : Option R :=
  cond (!v1) (kr 230) (cond (!v2) (kr 230) (cond (!v4) (kr 230) (cond (!v9) (kr 230) (cond (decide (p0.xMode < 1)) (kr 230) (cond (decide (4 < p0.xMode)) (kr 230) (G_bbr_ctl_entries cp n (Sctl.mk p0.xKind p0.xMss p0.xCwnd p0.xSsthresh p0.xAcc p0.xWmax p0.xEpoch p0.xK p0.xWest p0.xStart p0.xMode p0.xBw p0.xMinRtt p0.xMinAt p0.xRound p0.xNextAt p0.xFull p0.xFullN p0.xPhase p0.xPhaseAt p0.xDoneAt p0.xPrior) (fun r10 r11 => cond (!r10) (kr 230) (kr 0))))))))
def s_bbr_Check_14 {R : Type} (cp : Nat → Nat → Bool) (n : Nat) (p0 : SCc) (v1 v2 v4 : Bool) (kr : Int → Option R) : Option R :=
  s_bbr_Check_9 cp n p0 v1 v2 v4 (fun v9 => s_bbr_Check_11 cp n p0 v1 v2 v4 v9 (fun v12 => (kr v12)))
def s_bbr_Check_16 {R : Type} (cp : Nat → Nat → Bool) (n : Nat) (p0 : SCc) (v1 v2 : Bool) (kr : Int → Option R) : Option R :=
  s_bbr_Check_7 cp n p0 v1 v2 (fun v4 => s_bbr_Check_14 cp n p0 v1 v2 v4 (fun v13 => (kr v13)))
def s_bbr_Check_18 {R : Type} (cp : Nat → Nat → Bool) (n : Nat) (p0 : SCc) (v1 : Bool) (kr : Int → Option R) : Option R :=
  s_bbr_Check_5 cp n p0 v1 (fun v2 => s_bbr_Check_16 cp n p0 v1 v2 (fun v14 => (kr v14)))
def s_bbr_Check_20 {R : Type} (cp : Nat → Nat → Bool) (n : Nat) (p0 : SCc) (kr : Int → Option R) : Option R :=
  s_bbr_Check_3 cp n p0 (fun v1 => s_bbr_Check_18 cp n p0 v1 (fun v15 => (kr v15)))
def s_bbr_Check_22 {R : Type} (cp : Nat → Nat → Bool) (n : Nat) (p0 : SCc) (kr : Int → Option R) : Option R :=
  s_bbr_Check_1 cp n p0 (s_bbr_Check_20 cp n p0 (fun v16 => (kr v16)))
def G_bbr_Check {R : Type} (cp : Nat → Nat → Bool) : Nat → SCc → (Int → Option R) → Option R
  | 0, _, _ => none
  | n + 1, p0, k =>
    s_bbr_Check_22 cp n p0 (fun v17 => k v17)
/-! tideway/reno.New -/
def G_reno_New {R : Type} (cp : Nat → Nat → Bool) : Nat → Int → Int → (SCc → Int → Option R) → Option R
  | 0, _, _, _ => none
  | n + 1, p0, p1, k =>
    cond (decide (p0 < 1)) (k (SCc.mk 0 0 0 0 0 0 0 0 0 0 0 [] 0 0 0 0 0 0 0 0 0 0) 2) (cond (decide (65000 < p0)) (k (SCc.mk 0 0 0 0 0 0 0 0 0 0 0 [] 0 0 0 0 0 0 0 0 0 0) 2) (cond (decide (p1 < 1)) (k (SCc.mk 0 0 0 0 0 0 0 0 0 0 0 [] 0 0 0 0 0 0 0 0 0 0) 2) (cond (decide (100 < p1)) (k (SCc.mk 0 0 0 0 0 0 0 0 0 0 0 [] 0 0 0 0 0 0 0 0 0 0) 2) (k (SCc.mk 1 p0 (wr .i64 (p0 * p1)) 1073741824 0 0 0 0 0 0 0 [] 0 0 0 0 0 0 0 0 0 0) 0))))
/-! tideway/bbr.New -/
def G_bbr_New {R : Type} (cp : Nat → Nat → Bool) : Nat → Int → Int → (SCc → Int → Option R) → Option R
  | 0, _, _, _ => none
  | n + 1, p0, p1, k =>
    G_reno_New cp n p0 p1 (fun r19 r20 => cond (decide (r20 = 0)) (k (SCc.mk 3 r19.xMss r19.xCwnd r19.xSsthresh r19.xAcc r19.xWmax r19.xEpoch r19.xK r19.xWest r19.xStart 1 r19.xBw r19.xMinRtt r19.xMinAt r19.xRound r19.xNextAt r19.xFull r19.xFullN r19.xPhase r19.xPhaseAt r19.xDoneAt r19.xPrior) r20) (k r19 r20))
/-! (*tideway/bbr.ctl).round -/
def G_bbr_ctl_round {R : Type} (cp : Nat → Nat → Bool) : Nat → SSample → Sctl → (Bool → Sctl → Option R) → Option R
  | 0, _, _, _ => none
  | n + 1, p1, q0, k =>
    cond (decide (p1.xBefore < q0.xCc_NextAt)) (k false q0) (k true (Sctl.mk q0.xCc_Kind q0.xCc_Mss q0.xCc_Cwnd q0.xCc_Ssthresh q0.xCc_Acc q0.xCc_Wmax q0.xCc_Epoch q0.xCc_K q0.xCc_West q0.xCc_Start q0.xCc_Mode q0.xCc_Bw q0.xCc_MinRtt q0.xCc_MinAt (mn 1125899906842624 (wr .i64 (q0.xCc_Round + 1))) p1.xGiven q0.xCc_Full q0.xCc_FullN q0.xCc_Phase q0.xCc_PhaseAt q0.xCc_DoneAt q0.xCc_Prior))
/-! tideway/filter.Best -/
def G_filter_Best {R : Type} (cp : Nat → Nat → Bool) : Nat → (List SEntry) → (Int → Bool → Option R) → Option R
  | 0, _, _ => none
  | n + 1, p0, k =>
    cond (decide ((p0.length : Int) = 0)) (k 0 false) (cond (decide (0 < (p0.length : Int))) (k ((p0.getD 0 zEntry).xV) true) (none))
/-! (*tideway/bbr.ctl).bandwidth -/
def G_bbr_ctl_bandwidth {R : Type} (cp : Nat → Nat → Bool) : Nat → Sctl → (Int → Sctl → Option R) → Option R
  | 0, _, _ => none
  | n + 1, q0, k =>
    G_filter_Best cp n q0.xCc_Bw (fun r28 r29 => k r28 q0)
/-! tideway/filter.Put -/
def s_filter_Put_1 {R : Type} (cp : Nat → Nat → Bool) (n : Nat) (p0 : (List SEntry)) (p1 p2 p3 : Int) (p4 : Bool) (kn : Int → Option R) (kr : Option R) : Option R :=
  G_filter_Check cp n p0 p4 (fun r35 => cond (!decide (r35 = 0)) (kr) (G_filter_may cp n (SEntry.mk p1 p2) (fun r36 => cond (!r36) (kr) (G_filter_may cp n (SEntry.mk p3 0) (fun r37 => cond (!r37) (kr) (cond (decide (0 < (p0.length : Int))) (cond (decide (0 ≤ wr .i64 ((p0.length : Int) - 1))) (cond (decide (wr .i64 ((p0.length : Int) - 1) < (p0.length : Int))) (cond (decide (p1 ≤ ((p0.getD (Int.toNat (wr .i64 ((p0.length : Int) - 1))) zEntry).xAt))) (kr) (kn (p0.length : Int))) (none)) (none)) (kn (p0.length : Int))))))))
def s_filter_Put_4 {R : Type} (cp : Nat → Nat → Bool) (n : Nat) (p0 : (List SEntry)) (p1 p2 p3 : Int) (p4 : Bool) (v38 v39 : Int) (kn : Int → Option R) (ke0 : Option R) : Option R :=
  cond (decide (v39 < v38)) (cond (decide (0 ≤ v39)) (cond (decide (v39 < (p0.length : Int))) (cond (decide ((wr .i64 (((p0.getD (Int.toNat v39) zEntry).xAt) + p3)) < p1)) (kn (wr .i64 (v39 + 1))) (ke0)) (none)) (none)) (ke0)
def l_filter_Put_9 {R : Type} (cp : Nat → Nat → Bool) (n : Nat) : Nat → (List SEntry) → Int → Int → Int → Bool → Int → Int → (Int → Option R) → Option R
  | 0, _, _, _, _, _, _, _, _ => none
  | m + 1, p0, p1, p2, p3, p4, v38, v39, ke0 =>
    s_filter_Put_4 cp n p0 p1 p2 p3 p4 v38 v39 (fun v40 => l_filter_Put_9 cp n m p0 p1 p2 p3 p4 v38 v40 ke0) (ke0 v39)
def s_filter_Put_10 {R : Type} (cp : Nat → Nat → Bool) (n : Nat) (p0 : (List SEntry)) (p1 p2 p3 : Int) (p4 : Bool) (v38 : Int) (ke0 : Int → Option R) : Option R :=
  l_filter_Put_9 cp n n p0 p1 p2 p3 p4 v38 0 ke0
def s_filter_Put_12 {R : Type} (cp : Nat → Nat → Bool) (n : Nat) (p0 : (List SEntry)) (p1 p2 p3 : Int) (p4 : Bool) (v38 : Int) (kn : Int → Option R) : Option R :=
  s_filter_Put_10 cp n p0 p1 p2 p3 p4 v38 (fun v41 => (kn v41))
def s_filter_Put_13 {R : Type} (cp : Nat → Nat → Bool) (n : Nat) (p0 : (List SEntry)) (p1 p2 : Int) (p4 : Bool) (v42 v43 : Int) (kn : Int → Option R) (ke2 : Option R) : Option R :=
  cond (decide (v42 < v43)) (cond (decide (0 ≤ wr .i64 (v43 - 1))) (cond (decide (wr .i64 (v43 - 1) < (p0.length : Int))) (G_filter_beats cp n p2 ((p0.getD (Int.toNat (wr .i64 (v43 - 1))) zEntry).xV) p4 (fun r44 => cond (r44) (kn (wr .i64 (v43 - 1))) (ke2))) (none)) (none)) (ke2)
def l_filter_Put_18 {R : Type} (cp : Nat → Nat → Bool) (n : Nat) : Nat → (List SEntry) → Int → Int → Bool → Int → Int → (Int → Option R) → Option R
  | 0, _, _, _, _, _, _, _ => none
  | m + 1, p0, p1, p2, p4, v42, v43, ke2 =>
    s_filter_Put_13 cp n p0 p1 p2 p4 v42 v43 (fun v45 => l_filter_Put_18 cp n m p0 p1 p2 p4 v42 v45 ke2) (ke2 v43)
def s_filter_Put_19 {R : Type} (cp : Nat → Nat → Bool) (n : Nat) (p0 : (List SEntry)) (p1 p2 : Int) (p4 : Bool) (v38 v42 : Int) (ke2 : Int → Option R) : Option R :=
  l_filter_Put_18 cp n n p0 p1 p2 p4 v42 v38 ke2
def s_filter_Put_21 {R : Type} (cp : Nat → Nat → Bool) (n : Nat) (p0 : (List SEntry)) (p1 p2 : Int) (p4 : Bool) (v38 v42 : Int) (kn : Int → Option R) : Option R :=
  s_filter_Put_19 cp n p0 p1 p2 p4 v38 v42 (fun v46 => (kn v46))
def s_filter_Put_22 {R : Type} (cp : Nat → Nat → Bool) (n : Nat) (p0 : (List SEntry)) (p1 p2 v42 v47 : Int) (kr : (List SEntry) → Option R) : Option R :=
  cond (decide (0 ≤ v42)) (cond (decide (v42 ≤ v47)) (cond (decide (v47 ≤ (p0.length : Int))) (cond (decide (v47 = v47)) (cond (cp ((List.take ((Int.toNat v47) - (Int.toNat v42)) (p0.drop (Int.toNat v42))).length + [(SEntry.mk p1 p2)].length) 16) (kr ((List.take ((Int.toNat v47) - (Int.toNat v42)) (p0.drop (Int.toNat v42))) ++ [(SEntry.mk p1 p2)])) (none)) (none)) (none)) (none)) (none)
def s_filter_Put_25 {R : Type} (cp : Nat → Nat → Bool) (n : Nat) (p0 : (List SEntry)) (p1 p2 : Int) (p4 : Bool) (v38 v42 : Int) (kr : (List SEntry) → Option R) : Option R :=
  s_filter_Put_21 cp n p0 p1 p2 p4 v38 v42 (fun v47 => s_filter_Put_22 cp n p0 p1 p2 v42 v47 (fun v48 => (kr v48)))
def s_filter_Put_27 {R : Type} (cp : Nat → Nat → Bool) (n : Nat) (p0 : (List SEntry)) (p1 p2 p3 : Int) (p4 : Bool) (v38 : Int) (kr : (List SEntry) → Option R) : Option R :=
  s_filter_Put_12 cp n p0 p1 p2 p3 p4 v38 (fun v42 => s_filter_Put_25 cp n p0 p1 p2 p4 v38 v42 (fun v49 => (kr v49)))
def s_filter_Put_29 {R : Type} (cp : Nat → Nat → Bool) (n : Nat) (p0 : (List SEntry)) (p1 p2 p3 : Int) (p4 : Bool) (kr : (List SEntry) → Int → Option R) : Option R :=
  s_filter_Put_1 cp n p0 p1 p2 p3 p4 (fun v38 => s_filter_Put_27 cp n p0 p1 p2 p3 p4 v38 (fun v50 => (kr v50 0))) (kr [] 2)
def G_filter_Put {R : Type} (cp : Nat → Nat → Bool) : Nat → (List SEntry) → Int → Int → Int → Bool → ((List SEntry) → Int → Option R) → Option R
  | 0, _, _, _, _, _, _ => none
  | n + 1, p0, p1, p2, p3, p4, k =>
    s_filter_Put_29 cp n p0 p1 p2 p3 p4 (fun v51 v52 => k v51 v52)
/-! (*tideway/bbr.ctl).speed -/
def s_bbr_ctl_speed_1 {R : Type} (cp : Nat → Nat → Bool) (n : Nat) (p1 : SSample) (q0 : Sctl) (kn : Int → Option R) (kr : Option R) : Option R :=
  cond (decide ((mn 1099511627776 p1.xRate) = 0)) (kr) (cond (p1.xIdle) (G_bbr_ctl_bandwidth cp n q0 (fun r30 r31 => cond (decide ((mn 1099511627776 p1.xRate) < r30)) (kr) (kn (mn 1099511627776 p1.xRate)))) (kn (mn 1099511627776 p1.xRate)))
def s_bbr_ctl_speed_4 {R : Type} (cp : Nat → Nat → Bool) (n : Nat) (q0 : Sctl) (v32 : Int) (kn : (List SEntry) → Option R) : Option R :=
  cond (decide (0 < (q0.xCc_Bw.length : Int))) (cond (decide (0 ≤ wr .i64 ((q0.xCc_Bw.length : Int) - 1))) (cond (decide (wr .i64 ((q0.xCc_Bw.length : Int) - 1) < (q0.xCc_Bw.length : Int))) (cond (decide (((q0.xCc_Bw.getD (Int.toNat (wr .i64 ((q0.xCc_Bw.length : Int) - 1))) zEntry).xAt) = q0.xCc_Round)) (cond (decide (0 ≤ wr .i64 ((q0.xCc_Bw.length : Int) - 1))) (cond (decide (wr .i64 ((q0.xCc_Bw.length : Int) - 1) < (q0.xCc_Bw.length : Int))) (cond (decide (0 ≤ wr .i64 ((q0.xCc_Bw.length : Int) - 1))) (cond (decide (wr .i64 ((q0.xCc_Bw.length : Int) - 1) ≤ (q0.xCc_Bw.length : Int))) (cond (decide (wr .i64 ((q0.xCc_Bw.length : Int) - 1) = wr .i64 ((q0.xCc_Bw.length : Int) - 1))) (G_filter_Put cp n (q0.xCc_Bw.take (Int.toNat (wr .i64 ((q0.xCc_Bw.length : Int) - 1)))) q0.xCc_Round (mx v32 ((q0.xCc_Bw.getD (Int.toNat (wr .i64 ((q0.xCc_Bw.length : Int) - 1))) zEntry).xV)) 10 true (fun r33 r34 => kn r33)) (none)) (none)) (none)) (none)) (none)) (G_filter_Put cp n q0.xCc_Bw q0.xCc_Round v32 10 true (fun r35 r36 => kn r35))) (none)) (none)) (G_filter_Put cp n q0.xCc_Bw q0.xCc_Round v32 10 true (fun r37 r38 => kn r37))
def s_bbr_ctl_speed_7 {R : Type} (cp : Nat → Nat → Bool) (n : Nat) (p1 : SSample) (q0 : Sctl) (kn : (List SEntry) → Option R) (kr : Option R) : Option R :=
  s_bbr_ctl_speed_1 cp n p1 q0 (fun v32 => s_bbr_ctl_speed_4 cp n q0 v32 (fun v39 => (kn v39))) kr
def G_bbr_ctl_speed {R : Type} (cp : Nat → Nat → Bool) : Nat → SSample → Sctl → (Sctl → Option R) → Option R
  | 0, _, _, _ => none
  | n + 1, p1, q0, k =>
    s_bbr_ctl_speed_7 cp n p1 q0 (fun v40 => k (Sctl.mk q0.xCc_Kind q0.xCc_Mss q0.xCc_Cwnd q0.xCc_Ssthresh q0.xCc_Acc q0.xCc_Wmax q0.xCc_Epoch q0.xCc_K q0.xCc_West q0.xCc_Start q0.xCc_Mode v40 q0.xCc_MinRtt q0.xCc_MinAt q0.xCc_Round q0.xCc_NextAt q0.xCc_Full q0.xCc_FullN q0.xCc_Phase q0.xCc_PhaseAt q0.xCc_DoneAt q0.xCc_Prior)) (k q0)
/-! (*tideway/bbr.ctl).shortest -/
def G_bbr_ctl_shortest {R : Type} (cp : Nat → Nat → Bool) : Nat → SSample → Sctl → (Bool → Sctl → Option R) → Option R
  | 0, _, _, _ => none
  | n + 1, p1, q0, k =>
    cond (decide (0 < q0.xCc_MinRtt)) (cond (decide (0 < p1.xRtt)) (cond (decide (10000000 < (wr .i64 (p1.xNow - q0.xCc_MinAt)))) (k (decide (10000000 < (wr .i64 (p1.xNow - q0.xCc_MinAt)))) (Sctl.mk q0.xCc_Kind q0.xCc_Mss q0.xCc_Cwnd q0.xCc_Ssthresh q0.xCc_Acc q0.xCc_Wmax q0.xCc_Epoch q0.xCc_K q0.xCc_West q0.xCc_Start q0.xCc_Mode q0.xCc_Bw p1.xRtt p1.xNow q0.xCc_Round q0.xCc_NextAt q0.xCc_Full q0.xCc_FullN q0.xCc_Phase q0.xCc_PhaseAt q0.xCc_DoneAt q0.xCc_Prior)) (cond (decide (q0.xCc_MinRtt = 0)) (k (decide (10000000 < (wr .i64 (p1.xNow - q0.xCc_MinAt)))) (Sctl.mk q0.xCc_Kind q0.xCc_Mss q0.xCc_Cwnd q0.xCc_Ssthresh q0.xCc_Acc q0.xCc_Wmax q0.xCc_Epoch q0.xCc_K q0.xCc_West q0.xCc_Start q0.xCc_Mode q0.xCc_Bw p1.xRtt p1.xNow q0.xCc_Round q0.xCc_NextAt q0.xCc_Full q0.xCc_FullN q0.xCc_Phase q0.xCc_PhaseAt q0.xCc_DoneAt q0.xCc_Prior)) (cond (decide (p1.xRtt ≤ q0.xCc_MinRtt)) (k (decide (10000000 < (wr .i64 (p1.xNow - q0.xCc_MinAt)))) (Sctl.mk q0.xCc_Kind q0.xCc_Mss q0.xCc_Cwnd q0.xCc_Ssthresh q0.xCc_Acc q0.xCc_Wmax q0.xCc_Epoch q0.xCc_K q0.xCc_West q0.xCc_Start q0.xCc_Mode q0.xCc_Bw p1.xRtt p1.xNow q0.xCc_Round q0.xCc_NextAt q0.xCc_Full q0.xCc_FullN q0.xCc_Phase q0.xCc_PhaseAt q0.xCc_DoneAt q0.xCc_Prior)) (k (decide (10000000 < (wr .i64 (p1.xNow - q0.xCc_MinAt)))) q0)))) (k (decide (10000000 < (wr .i64 (p1.xNow - q0.xCc_MinAt)))) q0)) (cond (decide (0 < p1.xRtt)) (cond (decide (q0.xCc_MinRtt = 0)) (k false (Sctl.mk q0.xCc_Kind q0.xCc_Mss q0.xCc_Cwnd q0.xCc_Ssthresh q0.xCc_Acc q0.xCc_Wmax q0.xCc_Epoch q0.xCc_K q0.xCc_West q0.xCc_Start q0.xCc_Mode q0.xCc_Bw p1.xRtt p1.xNow q0.xCc_Round q0.xCc_NextAt q0.xCc_Full q0.xCc_FullN q0.xCc_Phase q0.xCc_PhaseAt q0.xCc_DoneAt q0.xCc_Prior)) (cond (decide (p1.xRtt ≤ q0.xCc_MinRtt)) (k false (Sctl.mk q0.xCc_Kind q0.xCc_Mss q0.xCc_Cwnd q0.xCc_Ssthresh q0.xCc_Acc q0.xCc_Wmax q0.xCc_Epoch q0.xCc_K q0.xCc_West q0.xCc_Start q0.xCc_Mode q0.xCc_Bw p1.xRtt p1.xNow q0.xCc_Round q0.xCc_NextAt q0.xCc_Full q0.xCc_FullN q0.xCc_Phase q0.xCc_PhaseAt q0.xCc_DoneAt q0.xCc_Prior)) (k false q0))) (k false q0))
/-! (*tideway/bbr.ctl).full -/
def G_bbr_ctl_full {R : Type} (cp : Nat → Nat → Bool) : Nat → Sctl → (Sctl → Option R) → Option R
  | 0, _, _ => none
  | n + 1, q0, k =>
    G_bbr_ctl_bandwidth cp n q0 (fun r41 r42 => cond (decide (r41 = 0)) (k q0) (cond (decide ((wr .i64 (5 * q0.xCc_Full)) ≤ (wr .i64 (4 * r41)))) (k (Sctl.mk q0.xCc_Kind q0.xCc_Mss q0.xCc_Cwnd q0.xCc_Ssthresh q0.xCc_Acc q0.xCc_Wmax q0.xCc_Epoch q0.xCc_K q0.xCc_West q0.xCc_Start q0.xCc_Mode q0.xCc_Bw q0.xCc_MinRtt q0.xCc_MinAt q0.xCc_Round q0.xCc_NextAt r41 0 q0.xCc_Phase q0.xCc_PhaseAt q0.xCc_DoneAt q0.xCc_Prior)) (cond (decide ((mn 3 (wr .i64 (q0.xCc_FullN + 1))) = 3)) (k (Sctl.mk q0.xCc_Kind q0.xCc_Mss q0.xCc_Cwnd q0.xCc_Ssthresh q0.xCc_Acc q0.xCc_Wmax q0.xCc_Epoch q0.xCc_K q0.xCc_West q0.xCc_Start 2 q0.xCc_Bw q0.xCc_MinRtt q0.xCc_MinAt q0.xCc_Round q0.xCc_NextAt q0.xCc_Full (mn 3 (wr .i64 (q0.xCc_FullN + 1))) q0.xCc_Phase q0.xCc_PhaseAt q0.xCc_DoneAt q0.xCc_Prior)) (k (Sctl.mk q0.xCc_Kind q0.xCc_Mss q0.xCc_Cwnd q0.xCc_Ssthresh q0.xCc_Acc q0.xCc_Wmax q0.xCc_Epoch q0.xCc_K q0.xCc_West q0.xCc_Start q0.xCc_Mode q0.xCc_Bw q0.xCc_MinRtt q0.xCc_MinAt q0.xCc_Round q0.xCc_NextAt q0.xCc_Full (mn 3 (wr .i64 (q0.xCc_FullN + 1))) q0.xCc_Phase q0.xCc_PhaseAt q0.xCc_DoneAt q0.xCc_Prior)))))
/-! math/bits.Mul64 -/
def G_math_bits_Mul64 {R : Type} (cp : Nat → Nat → Bool) : Nat → Int → Int → (Int → Int → Option R) → Option R
  | 0, _, _, _ => none
  | n + 1, p0, p1, k =>
    k (wr .u64 ((wr .u64 ((wr .u64 ((shr .u64 p0 32) * (shr .u64 p1 32))) + (shr .u64 (wr .u64 ((wr .u64 ((shr .u64 p0 32) * (bits .and .u64 p1 4294967295))) + (shr .u64 (wr .u64 ((bits .and .u64 p0 4294967295) * (bits .and .u64 p1 4294967295))) 32))) 32))) + (shr .u64 (wr .u64 ((bits .and .u64 (wr .u64 ((wr .u64 ((shr .u64 p0 32) * (bits .and .u64 p1 4294967295))) + (shr .u64 (wr .u64 ((bits .and .u64 p0 4294967295) * (bits .and .u64 p1 4294967295))) 32))) 4294967295) + (wr .u64 ((bits .and .u64 p0 4294967295) * (shr .u64 p1 32))))) 32))) (wr .u64 (p0 * p1))
/-! math/bits.Len64 -/
def G_math_bits_Len64 {R : Type} (cp : Nat → Nat → Bool) : Nat → Int → (Int → Option R) → Option R
  | 0, _, _ => none
  | n + 1, p0, k =>
    cond (decide (4294967296 ≤ p0)) (cond (decide (65536 ≤ (shr .u64 p0 32))) (cond (decide (256 ≤ (shr .u64 (shr .u64 p0 32) 16))) (cond (decide (0 ≤ wr .u8 (shr .u64 (shr .u64 (shr .u64 p0 32) 16) 8))) (cond (decide (wr .u8 (shr .u64 (shr .u64 (shr .u64 p0 32) 16) 8) < (ByteArray.size tab256_2793 : Int))) (k (wr .i64 ((wr .i64 ((wr .i64 (32 + 16)) + 8)) + (wr .i64 ((tab256_2793.data.getD (Int.toNat (wr .u8 (shr .u64 (shr .u64 (shr .u64 p0 32) 16) 8))) 0).toNat : Int))))) (none)) (none)) (cond (decide (0 ≤ wr .u8 (shr .u64 (shr .u64 p0 32) 16))) (cond (decide (wr .u8 (shr .u64 (shr .u64 p0 32) 16) < (ByteArray.size tab256_2793 : Int))) (k (wr .i64 ((wr .i64 (32 + 16)) + (wr .i64 ((tab256_2793.data.getD (Int.toNat (wr .u8 (shr .u64 (shr .u64 p0 32) 16))) 0).toNat : Int))))) (none)) (none))) (cond (decide (256 ≤ (shr .u64 p0 32))) (cond (decide (0 ≤ wr .u8 (shr .u64 (shr .u64 p0 32) 8))) (cond (decide (wr .u8 (shr .u64 (shr .u64 p0 32) 8) < (ByteArray.size tab256_2793 : Int))) (k (wr .i64 ((wr .i64 (32 + 8)) + (wr .i64 ((tab256_2793.data.getD (Int.toNat (wr .u8 (shr .u64 (shr .u64 p0 32) 8))) 0).toNat : Int))))) (none)) (none)) (cond (decide (0 ≤ wr .u8 (shr .u64 p0 32))) (cond (decide (wr .u8 (shr .u64 p0 32) < (ByteArray.size tab256_2793 : Int))) (k (wr .i64 (32 + (wr .i64 ((tab256_2793.data.getD (Int.toNat (wr .u8 (shr .u64 p0 32))) 0).toNat : Int))))) (none)) (none)))) (cond (decide (65536 ≤ p0)) (cond (decide (256 ≤ (shr .u64 p0 16))) (cond (decide (0 ≤ wr .u8 (shr .u64 (shr .u64 p0 16) 8))) (cond (decide (wr .u8 (shr .u64 (shr .u64 p0 16) 8) < (ByteArray.size tab256_2793 : Int))) (k (wr .i64 ((wr .i64 ((wr .i64 (0 + 16)) + 8)) + (wr .i64 ((tab256_2793.data.getD (Int.toNat (wr .u8 (shr .u64 (shr .u64 p0 16) 8))) 0).toNat : Int))))) (none)) (none)) (cond (decide (0 ≤ wr .u8 (shr .u64 p0 16))) (cond (decide (wr .u8 (shr .u64 p0 16) < (ByteArray.size tab256_2793 : Int))) (k (wr .i64 ((wr .i64 (0 + 16)) + (wr .i64 ((tab256_2793.data.getD (Int.toNat (wr .u8 (shr .u64 p0 16))) 0).toNat : Int))))) (none)) (none))) (cond (decide (256 ≤ p0)) (cond (decide (0 ≤ wr .u8 (shr .u64 p0 8))) (cond (decide (wr .u8 (shr .u64 p0 8) < (ByteArray.size tab256_2793 : Int))) (k (wr .i64 ((wr .i64 (0 + 8)) + (wr .i64 ((tab256_2793.data.getD (Int.toNat (wr .u8 (shr .u64 p0 8))) 0).toNat : Int))))) (none)) (none)) (cond (decide (0 ≤ wr .u8 p0)) (cond (decide (wr .u8 p0 < (ByteArray.size tab256_2793 : Int))) (k (wr .i64 (0 + (wr .i64 ((tab256_2793.data.getD (Int.toNat (wr .u8 p0)) 0).toNat : Int))))) (none)) (none))))
/-! math/bits.LeadingZeros64 -/
def G_math_bits_LeadingZeros64 {R : Type} (cp : Nat → Nat → Bool) : Nat → Int → (Int → Option R) → Option R
  | 0, _, _ => none
  | n + 1, p0, k =>
    G_math_bits_Len64 cp n p0 (fun r48 => k (wr .i64 (64 - r48)))
/-! math/bits.Div64 -/
def s_math_bits_Div64_1 {R : Type} (cp : Nat → Nat → Bool) (n : Nat) (p0 p1 p2 : Int) (kn : Int → Int → Int → Int → Int → Int → Int → Int → Int → Option R) (kr : Int → Int → Option R) : Option R :=
  cond (decide (p2 = 0)) (none) (cond (decide (p2 ≤ p0)) (none) (cond (decide (p0 = 0)) (cond (decide (p2 = 0)) (none) (cond (decide (p2 = 0)) (none) (kr (wr .u64 (Int.tdiv p1 p2)) (Int.tmod p1 p2)))) (G_math_bits_LeadingZeros64 cp n p2 (fun r58 => cond (decide ((wr .u64 r58) < 0)) (none) (cond (decide ((wr .u64 r58) < 0)) (none) (cond (decide ((wr .u64 (64 - (wr .u64 r58))) < 0)) (none) (cond (decide ((wr .u64 r58) < 0)) (none) (cond (decide ((shr .u64 (shl .u64 p2 (wr .u64 r58)) 32) = 0)) (none) (kn (shl .u64 p2 (wr .u64 r58)) (wr .u64 r58) (shr .u64 (shl .u64 p2 (wr .u64 r58)) 32) (bits .and .u64 (shl .u64 p2 (wr .u64 r58)) 4294967295) (bits .or .u64 (shl .u64 p0 (wr .u64 r58)) (shr .u64 p1 (wr .u64 (64 - (wr .u64 r58))))) (shr .u64 (shl .u64 p1 (wr .u64 r58)) 32) (bits .and .u64 (shl .u64 p1 (wr .u64 r58)) 4294967295) (wr .u64 (Int.tdiv (bits .or .u64 (shl .u64 p0 (wr .u64 r58)) (shr .u64 p1 (wr .u64 (64 - (wr .u64 r58))))) (shr .u64 (shl .u64 p2 (wr .u64 r58)) 32))) (wr .u64 ((bits .or .u64 (shl .u64 p0 (wr .u64 r58)) (shr .u64 p1 (wr .u64 (64 - (wr .u64 r58))))) - (wr .u64 ((wr .u64 (Int.tdiv (bits .or .u64 (shl .u64 p0 (wr .u64 r58)) (shr .u64 p1 (wr .u64 (64 - (wr .u64 r58))))) (shr .u64 (shl .u64 p2 (wr .u64 r58)) 32))) * (shr .u64 (shl .u64 p2 (wr .u64 r58)) 32))))))))))))))
def s_math_bits_Div64_4 {R : Type} (cp : Nat → Nat → Bool) (n : Nat) (v59 v60 v61 v62 v63 v64 v65 v70 v71 : Int) (kn : Int → Int → Option R) (ke0 : Int → Option R) : Option R :=
  cond (decide (4294967296 ≤ v70)) (cond (decide (4294967296 ≤ (wr .u64 (v71 + v61)))) (ke0 (wr .u64 (v70 - 1))) (kn (wr .u64 (v70 - 1)) (wr .u64 (v71 + v61)))) (cond (decide ((wr .u64 ((wr .u64 (4294967296 * v71)) + v64)) < (wr .u64 (v70 * v62)))) (cond (decide (4294967296 ≤ (wr .u64 (v71 + v61)))) (ke0 (wr .u64 (v70 - 1))) (kn (wr .u64 (v70 - 1)) (wr .u64 (v71 + v61)))) (ke0 v70))
def l_math_bits_Div64_9 {R : Type} (cp : Nat → Nat → Bool) (n : Nat) : Nat → Int → Int → Int → Int → Int → Int → Int → Int → Int → (Int → Option R) → Option R
  | 0, _, _, _, _, _, _, _, _, _, _ => none
  | m + 1, v59, v60, v61, v62, v63, v64, v65, v70, v71, ke0 =>
    s_math_bits_Div64_4 cp n v59 v60 v61 v62 v63 v64 v65 v70 v71 (fun v72 v73 => l_math_bits_Div64_9 cp n m v59 v60 v61 v62 v63 v64 v65 v72 v73 ke0) (fun v74 => (ke0 v74))
def s_math_bits_Div64_10 {R : Type} (cp : Nat → Nat → Bool) (n : Nat) (v59 v60 v61 v62 v63 v64 v65 v66 v67 : Int) (ke0 : Int → Option R) : Option R :=
  l_math_bits_Div64_9 cp n n v59 v60 v61 v62 v63 v64 v65 v66 v67 ke0
def s_math_bits_Div64_12 {R : Type} (cp : Nat → Nat → Bool) (n : Nat) (v59 v60 v61 v62 v63 v64 v65 v66 v67 : Int) (kn : Int → Option R) : Option R :=
  s_math_bits_Div64_10 cp n v59 v60 v61 v62 v63 v64 v65 v66 v67 (fun v75 => (kn v75))
def s_math_bits_Div64_13 {R : Type} (cp : Nat → Nat → Bool) (n : Nat) (v59 v60 v61 v62 v63 v64 v65 v76 : Int) (kn : Int → Int → Int → Option R) : Option R :=
  cond (decide (v61 = 0)) (none) (kn (wr .u64 ((wr .u64 ((wr .u64 ((wr .u64 (v63 * 4294967296)) + v64)) - (wr .u64 (v76 * v59)))) - (wr .u64 ((wr .u64 (Int.tdiv (wr .u64 ((wr .u64 ((wr .u64 (v63 * 4294967296)) + v64)) - (wr .u64 (v76 * v59)))) v61)) * v61)))) (wr .u64 ((wr .u64 ((wr .u64 (v63 * 4294967296)) + v64)) - (wr .u64 (v76 * v59)))) (wr .u64 (Int.tdiv (wr .u64 ((wr .u64 ((wr .u64 (v63 * 4294967296)) + v64)) - (wr .u64 (v76 * v59)))) v61)))
def s_math_bits_Div64_15 {R : Type} (cp : Nat → Nat → Bool) (n : Nat) (v59 v60 v61 v62 v65 v76 v78 v80 v81 : Int) (kn : Int → Int → Option R) (ke2 : Int → Option R) : Option R :=
  cond (decide (4294967296 ≤ v81)) (cond (decide (4294967296 ≤ (wr .u64 (v80 + v61)))) (ke2 (wr .u64 (v81 - 1))) (kn (wr .u64 (v80 + v61)) (wr .u64 (v81 - 1)))) (cond (decide ((wr .u64 ((wr .u64 (4294967296 * v80)) + v65)) < (wr .u64 (v81 * v62)))) (cond (decide (4294967296 ≤ (wr .u64 (v80 + v61)))) (ke2 (wr .u64 (v81 - 1))) (kn (wr .u64 (v80 + v61)) (wr .u64 (v81 - 1)))) (ke2 v81))
def l_math_bits_Div64_20 {R : Type} (cp : Nat → Nat → Bool) (n : Nat) : Nat → Int → Int → Int → Int → Int → Int → Int → Int → Int → (Int → Option R) → Option R
  | 0, _, _, _, _, _, _, _, _, _, _ => none
  | m + 1, v59, v60, v61, v62, v65, v76, v78, v80, v81, ke2 =>
    s_math_bits_Div64_15 cp n v59 v60 v61 v62 v65 v76 v78 v80 v81 (fun v82 v83 => l_math_bits_Div64_20 cp n m v59 v60 v61 v62 v65 v76 v78 v82 v83 ke2) (fun v84 => (ke2 v84))
def s_math_bits_Div64_21 {R : Type} (cp : Nat → Nat → Bool) (n : Nat) (v59 v60 v61 v62 v65 v76 v77 v78 v79 : Int) (ke2 : Int → Option R) : Option R :=
  l_math_bits_Div64_20 cp n n v59 v60 v61 v62 v65 v76 v78 v77 v79 ke2
def s_math_bits_Div64_23 {R : Type} (cp : Nat → Nat → Bool) (n : Nat) (v59 v60 v61 v62 v65 v76 v77 v78 v79 : Int) (kn : Int → Option R) : Option R :=
  s_math_bits_Div64_21 cp n v59 v60 v61 v62 v65 v76 v77 v78 v79 (fun v85 => (kn v85))
def s_math_bits_Div64_24 {R : Type} (cp : Nat → Nat → Bool) (n : Nat) (v59 v60 v65 v76 v78 v86 : Int) (kr : Int → Int → Option R) : Option R :=
  cond (decide (v60 < 0)) (none) (kr (wr .u64 ((wr .u64 (v76 * 4294967296)) + v86)) (shr .u64 (wr .u64 ((wr .u64 ((wr .u64 (v78 * 4294967296)) + v65)) - (wr .u64 (v86 * v59)))) v60))
def s_math_bits_Div64_27 {R : Type} (cp : Nat → Nat → Bool) (n : Nat) (v59 v60 v61 v62 v65 v76 v77 v78 v79 : Int) (kr : Int → Int → Option R) : Option R :=
  s_math_bits_Div64_23 cp n v59 v60 v61 v62 v65 v76 v77 v78 v79 (fun v86 => s_math_bits_Div64_24 cp n v59 v60 v65 v76 v78 v86 (fun v87 v88 => (kr v87 v88)))
def s_math_bits_Div64_29 {R : Type} (cp : Nat → Nat → Bool) (n : Nat) (v59 v60 v61 v62 v63 v64 v65 v76 : Int) (kr : Int → Int → Option R) : Option R :=
  s_math_bits_Div64_13 cp n v59 v60 v61 v62 v63 v64 v65 v76 (fun v77 v78 v79 => s_math_bits_Div64_27 cp n v59 v60 v61 v62 v65 v76 v77 v78 v79 (fun v89 v90 => (kr v89 v90)))
def s_math_bits_Div64_31 {R : Type} (cp : Nat → Nat → Bool) (n : Nat) (v59 v60 v61 v62 v63 v64 v65 v66 v67 : Int) (kr : Int → Int → Option R) : Option R :=
  s_math_bits_Div64_12 cp n v59 v60 v61 v62 v63 v64 v65 v66 v67 (fun v76 => s_math_bits_Div64_29 cp n v59 v60 v61 v62 v63 v64 v65 v76 (fun v91 v92 => (kr v91 v92)))
def s_math_bits_Div64_33 {R : Type} (cp : Nat → Nat → Bool) (n : Nat) (p0 p1 p2 : Int) (kr : Int → Int → Option R) : Option R :=
  s_math_bits_Div64_1 cp n p0 p1 p2 (fun v59 v60 v61 v62 v63 v64 v65 v66 v67 => s_math_bits_Div64_31 cp n v59 v60 v61 v62 v63 v64 v65 v66 v67 (fun v93 v94 => (kr v93 v94))) (fun v68 v69 => (kr v68 v69))
def G_math_bits_Div64 {R : Type} (cp : Nat → Nat → Bool) : Nat → Int → Int → Int → (Int → Int → Option R) → Option R
  | 0, _, _, _, _ => none
  | n + 1, p0, p1, p2, k =>
    s_math_bits_Div64_33 cp n p0 p1 p2 (fun v95 v96 => k v95 v96)
/-! tideway/seq.MulDiv -/
def G_seq_MulDiv {R : Type} (cp : Nat → Nat → Bool) : Nat → Int → Int → Int → (Int → Int → Option R) → Option R
  | 0, _, _, _, _ => none
  | n + 1, p0, p1, p2, k =>
    cond (decide (p0 < 0)) (k 0 2) (cond (decide (p1 < 0)) (k 0 2) (cond (decide (p2 ≤ 0)) (k 0 2) (G_math_bits_Mul64 cp n (wr .u64 p0) (wr .u64 p1) (fun r46 r47 => cond (decide ((wr .u64 p2) ≤ r46)) (k 9223372036854775807 0) (G_math_bits_Div64 cp n r46 r47 (wr .u64 p2) (fun r97 r98 => k (wr .i64 (mn r97 9223372036854775807)) 0))))))
/-! (*tideway/bbr.ctl).product -/
def G_bbr_ctl_product {R : Type} (cp : Nat → Nat → Bool) : Nat → Sctl → (Int → Sctl → Option R) → Option R
  | 0, _, _ => none
  | n + 1, q0, k =>
    G_bbr_ctl_bandwidth cp n q0 (fun r44 r45 => G_seq_MulDiv cp n r44 q0.xCc_MinRtt 1000000 (fun r99 r100 => k (mn 1073741824 r99) q0))
/-! (*tideway/bbr.ctl).probe -/
def G_bbr_ctl_probe {R : Type} (cp : Nat → Nat → Bool) : Nat → Int → Sctl → (Sctl → Option R) → Option R
  | 0, _, _, _ => none
  | n + 1, p1, q0, k =>
    k (Sctl.mk q0.xCc_Kind q0.xCc_Mss q0.xCc_Cwnd q0.xCc_Ssthresh q0.xCc_Acc q0.xCc_Wmax q0.xCc_Epoch q0.xCc_K q0.xCc_West q0.xCc_Start 3 q0.xCc_Bw q0.xCc_MinRtt q0.xCc_MinAt q0.xCc_Round q0.xCc_NextAt q0.xCc_Full q0.xCc_FullN 2 p1 q0.xCc_DoneAt q0.xCc_Prior)
/-! (*tideway/bbr.ctl).cycle -/
def G_bbr_ctl_cycle {R : Type} (cp : Nat → Nat → Bool) : Nat → SSample → Sctl → (Sctl → Option R) → Option R
  | 0, _, _, _ => none
  | n + 1, p1, q0, k =>
    cond (decide (q0.xCc_Mode = 2)) (G_bbr_ctl_product cp n q0 (fun r101 r102 => cond (decide (p1.xFlight ≤ r101)) (G_bbr_ctl_probe cp n p1.xNow q0 (fun r103 => k r103)) (cond (decide (q0.xCc_Mode = 3)) (cond (decide (q0.xCc_MinRtt < (wr .i64 (p1.xNow - q0.xCc_PhaseAt)))) (k (Sctl.mk q0.xCc_Kind q0.xCc_Mss q0.xCc_Cwnd q0.xCc_Ssthresh q0.xCc_Acc q0.xCc_Wmax q0.xCc_Epoch q0.xCc_K q0.xCc_West q0.xCc_Start q0.xCc_Mode q0.xCc_Bw q0.xCc_MinRtt q0.xCc_MinAt q0.xCc_Round q0.xCc_NextAt q0.xCc_Full q0.xCc_FullN (Int.tmod (wr .i64 (q0.xCc_Phase + 1)) 8) p1.xNow q0.xCc_DoneAt q0.xCc_Prior)) (k q0)) (k q0)))) (cond (decide (q0.xCc_Mode = 3)) (cond (decide (q0.xCc_MinRtt < (wr .i64 (p1.xNow - q0.xCc_PhaseAt)))) (k (Sctl.mk q0.xCc_Kind q0.xCc_Mss q0.xCc_Cwnd q0.xCc_Ssthresh q0.xCc_Acc q0.xCc_Wmax q0.xCc_Epoch q0.xCc_K q0.xCc_West q0.xCc_Start q0.xCc_Mode q0.xCc_Bw q0.xCc_MinRtt q0.xCc_MinAt q0.xCc_Round q0.xCc_NextAt q0.xCc_Full q0.xCc_FullN (Int.tmod (wr .i64 (q0.xCc_Phase + 1)) 8) p1.xNow q0.xCc_DoneAt q0.xCc_Prior)) (k q0)) (k q0))
/-! (*tideway/bbr.ctl).ask -/
def s_bbr_ctl_ask_1 {R : Type} (cp : Nat → Nat → Bool) (n : Nat) (p1 : SSample) (p2 : Bool) (q0 : Sctl) (kn : Option R) : Option R :=
  kn
def s_bbr_ctl_ask_3 {R : Type} (cp : Nat → Nat → Bool) (n : Nat) (p1 : SSample) (p2 : Bool) (q0 : Sctl) (kn : Bool → Option R) : Option R :=
  cond (p2) (kn (!decide (q0.xCc_Mode = 4))) (kn false)
def s_bbr_ctl_ask_5 {R : Type} (cp : Nat → Nat → Bool) (n : Nat) (p1 : SSample) (q0 : Sctl) (v105 : Bool) (kn : SCc → Option R) : Option R :=
  cond (v105) (kn (SCc.mk q0.xCc_Kind q0.xCc_Mss q0.xCc_Cwnd q0.xCc_Ssthresh q0.xCc_Acc q0.xCc_Wmax q0.xCc_Epoch q0.xCc_K q0.xCc_West q0.xCc_Start 4 q0.xCc_Bw q0.xCc_MinRtt q0.xCc_MinAt q0.xCc_Round q0.xCc_NextAt q0.xCc_Full q0.xCc_FullN q0.xCc_Phase q0.xCc_PhaseAt 0 q0.xCc_Cwnd)) (cond (!decide (q0.xCc_Mode = 4)) (kn (SCc.mk q0.xCc_Kind q0.xCc_Mss q0.xCc_Cwnd q0.xCc_Ssthresh q0.xCc_Acc q0.xCc_Wmax q0.xCc_Epoch q0.xCc_K q0.xCc_West q0.xCc_Start q0.xCc_Mode q0.xCc_Bw q0.xCc_MinRtt q0.xCc_MinAt q0.xCc_Round q0.xCc_NextAt q0.xCc_Full q0.xCc_FullN q0.xCc_Phase q0.xCc_PhaseAt q0.xCc_DoneAt q0.xCc_Prior)) (cond (decide (q0.xCc_DoneAt = 0)) (cond (decide (p1.xFlight ≤ (wr .i64 (4 * q0.xCc_Mss)))) (kn (SCc.mk q0.xCc_Kind q0.xCc_Mss q0.xCc_Cwnd q0.xCc_Ssthresh q0.xCc_Acc q0.xCc_Wmax q0.xCc_Epoch q0.xCc_K q0.xCc_West q0.xCc_Start q0.xCc_Mode q0.xCc_Bw q0.xCc_MinRtt q0.xCc_MinAt q0.xCc_Round q0.xCc_NextAt q0.xCc_Full q0.xCc_FullN q0.xCc_Phase q0.xCc_PhaseAt (mn 1125899906842624 (wr .i64 (p1.xNow + 200000))) q0.xCc_Prior)) (cond (decide (0 < q0.xCc_DoneAt)) (cond (decide (q0.xCc_DoneAt ≤ p1.xNow)) (cond (decide (q0.xCc_FullN = 3)) (G_bbr_ctl_probe cp n p1.xNow (Sctl.mk q0.xCc_Kind q0.xCc_Mss (mx q0.xCc_Cwnd q0.xCc_Prior) q0.xCc_Ssthresh q0.xCc_Acc q0.xCc_Wmax q0.xCc_Epoch q0.xCc_K q0.xCc_West q0.xCc_Start q0.xCc_Mode q0.xCc_Bw q0.xCc_MinRtt p1.xNow q0.xCc_Round q0.xCc_NextAt q0.xCc_Full q0.xCc_FullN q0.xCc_Phase q0.xCc_PhaseAt 0 q0.xCc_Prior) (fun r106 => kn (SCc.mk r106.xCc_Kind r106.xCc_Mss r106.xCc_Cwnd r106.xCc_Ssthresh r106.xCc_Acc r106.xCc_Wmax r106.xCc_Epoch r106.xCc_K r106.xCc_West r106.xCc_Start r106.xCc_Mode r106.xCc_Bw r106.xCc_MinRtt r106.xCc_MinAt r106.xCc_Round r106.xCc_NextAt r106.xCc_Full r106.xCc_FullN r106.xCc_Phase r106.xCc_PhaseAt r106.xCc_DoneAt r106.xCc_Prior))) (kn (SCc.mk q0.xCc_Kind q0.xCc_Mss (mx q0.xCc_Cwnd q0.xCc_Prior) q0.xCc_Ssthresh q0.xCc_Acc q0.xCc_Wmax q0.xCc_Epoch q0.xCc_K q0.xCc_West q0.xCc_Start 1 q0.xCc_Bw q0.xCc_MinRtt p1.xNow q0.xCc_Round q0.xCc_NextAt q0.xCc_Full q0.xCc_FullN q0.xCc_Phase q0.xCc_PhaseAt 0 q0.xCc_Prior))) (kn (SCc.mk q0.xCc_Kind q0.xCc_Mss q0.xCc_Cwnd q0.xCc_Ssthresh q0.xCc_Acc q0.xCc_Wmax q0.xCc_Epoch q0.xCc_K q0.xCc_West q0.xCc_Start q0.xCc_Mode q0.xCc_Bw q0.xCc_MinRtt q0.xCc_MinAt q0.xCc_Round q0.xCc_NextAt q0.xCc_Full q0.xCc_FullN q0.xCc_Phase q0.xCc_PhaseAt q0.xCc_DoneAt q0.xCc_Prior))) (kn (SCc.mk q0.xCc_Kind q0.xCc_Mss q0.xCc_Cwnd q0.xCc_Ssthresh q0.xCc_Acc q0.xCc_Wmax q0.xCc_Epoch q0.xCc_K q0.xCc_West q0.xCc_Start q0.xCc_Mode q0.xCc_Bw q0.xCc_MinRtt q0.xCc_MinAt q0.xCc_Round q0.xCc_NextAt q0.xCc_Full q0.xCc_FullN q0.xCc_Phase q0.xCc_PhaseAt q0.xCc_DoneAt q0.xCc_Prior)))) (cond (decide (0 < q0.xCc_DoneAt)) (cond (decide (q0.xCc_DoneAt ≤ p1.xNow)) (cond (decide (q0.xCc_FullN = 3)) (G_bbr_ctl_probe cp n p1.xNow (Sctl.mk q0.xCc_Kind q0.xCc_Mss (mx q0.xCc_Cwnd q0.xCc_Prior) q0.xCc_Ssthresh q0.xCc_Acc q0.xCc_Wmax q0.xCc_Epoch q0.xCc_K q0.xCc_West q0.xCc_Start q0.xCc_Mode q0.xCc_Bw q0.xCc_MinRtt p1.xNow q0.xCc_Round q0.xCc_NextAt q0.xCc_Full q0.xCc_FullN q0.xCc_Phase q0.xCc_PhaseAt 0 q0.xCc_Prior) (fun r107 => kn (SCc.mk r107.xCc_Kind r107.xCc_Mss r107.xCc_Cwnd r107.xCc_Ssthresh r107.xCc_Acc r107.xCc_Wmax r107.xCc_Epoch r107.xCc_K r107.xCc_West r107.xCc_Start r107.xCc_Mode r107.xCc_Bw r107.xCc_MinRtt r107.xCc_MinAt r107.xCc_Round r107.xCc_NextAt r107.xCc_Full r107.xCc_FullN r107.xCc_Phase r107.xCc_PhaseAt r107.xCc_DoneAt r107.xCc_Prior))) (kn (SCc.mk q0.xCc_Kind q0.xCc_Mss (mx q0.xCc_Cwnd q0.xCc_Prior) q0.xCc_Ssthresh q0.xCc_Acc q0.xCc_Wmax q0.xCc_Epoch q0.xCc_K q0.xCc_West q0.xCc_Start 1 q0.xCc_Bw q0.xCc_MinRtt p1.xNow q0.xCc_Round q0.xCc_NextAt q0.xCc_Full q0.xCc_FullN q0.xCc_Phase q0.xCc_PhaseAt 0 q0.xCc_Prior))) (kn (SCc.mk q0.xCc_Kind q0.xCc_Mss q0.xCc_Cwnd q0.xCc_Ssthresh q0.xCc_Acc q0.xCc_Wmax q0.xCc_Epoch q0.xCc_K q0.xCc_West q0.xCc_Start q0.xCc_Mode q0.xCc_Bw q0.xCc_MinRtt q0.xCc_MinAt q0.xCc_Round q0.xCc_NextAt q0.xCc_Full q0.xCc_FullN q0.xCc_Phase q0.xCc_PhaseAt q0.xCc_DoneAt q0.xCc_Prior))) (kn (SCc.mk q0.xCc_Kind q0.xCc_Mss q0.xCc_Cwnd q0.xCc_Ssthresh q0.xCc_Acc q0.xCc_Wmax q0.xCc_Epoch q0.xCc_K q0.xCc_West q0.xCc_Start q0.xCc_Mode q0.xCc_Bw q0.xCc_MinRtt q0.xCc_MinAt q0.xCc_Round q0.xCc_NextAt q0.xCc_Full q0.xCc_FullN q0.xCc_Phase q0.xCc_PhaseAt q0.xCc_DoneAt q0.xCc_Prior)))))
def s_bbr_ctl_ask_8 {R : Type} (cp : Nat → Nat → Bool) (n : Nat) (p1 : SSample) (p2 : Bool) (q0 : Sctl) (kn : SCc → Option R) : Option R :=
  s_bbr_ctl_ask_3 cp n p1 p2 q0 (fun v105 => s_bbr_ctl_ask_5 cp n p1 q0 v105 (fun v108 => (kn v108)))
def s_bbr_ctl_ask_10 {R : Type} (cp : Nat → Nat → Bool) (n : Nat) (p1 : SSample) (p2 : Bool) (q0 : Sctl) (kn : SCc → Option R) : Option R :=
  s_bbr_ctl_ask_8 cp n p1 p2 q0 (fun v109 => (kn v109))
def s_bbr_ctl_ask_12 {R : Type} (cp : Nat → Nat → Bool) (n : Nat) (p1 : SSample) (p2 : Bool) (q0 : Sctl) (kn : SCc → Option R) : Option R :=
  s_bbr_ctl_ask_1 cp n p1 p2 q0 (s_bbr_ctl_ask_10 cp n p1 p2 q0 (fun v110 => (kn v110)))
def G_bbr_ctl_ask {R : Type} (cp : Nat → Nat → Bool) : Nat → SSample → Bool → Sctl → (Sctl → Option R) → Option R
  | 0, _, _, _, _ => none
  | n + 1, p1, p2, q0, k =>
    s_bbr_ctl_ask_12 cp n p1 p2 q0 (fun v111 => k (Sctl.mk v111.xKind v111.xMss v111.xCwnd v111.xSsthresh v111.xAcc v111.xWmax v111.xEpoch v111.xK v111.xWest v111.xStart v111.xMode v111.xBw v111.xMinRtt v111.xMinAt v111.xRound v111.xNextAt v111.xFull v111.xFullN v111.xPhase v111.xPhaseAt v111.xDoneAt v111.xPrior))
/-! tideway/seq.Clamp -/
def G_seq_Clamp {R : Type} (cp : Nat → Nat → Bool) : Nat → Int → Int → Int → (Int → Option R) → Option R
  | 0, _, _, _, _ => none
  | n + 1, p0, p1, p2, k =>
    k (mx p1 (mn p0 p2))
/-! (*tideway/bbr.ctl).window -/
def s_bbr_ctl_window_1 {R : Type} (cp : Nat → Nat → Bool) (n : Nat) (p1 : SSample) (q0 : Sctl) (kn : Int → Option R) : Option R :=
  G_bbr_ctl_product cp n q0 (fun r52 r53 => kn (mx (wr .i64 (2 * r52)) (wr .i64 (4 * q0.xCc_Mss))))
def s_bbr_ctl_window_3 {R : Type} (cp : Nat → Nat → Bool) (n : Nat) (p1 : SSample) (q0 : Sctl) (v54 : Int) (kn : Int → Option R) : Option R :=
  cond (decide (q0.xCc_Mode = 4)) (kn (mn q0.xCc_Cwnd (wr .i64 (4 * q0.xCc_Mss)))) (cond (decide (q0.xCc_FullN = 3)) (kn (mn v54 (wr .i64 (q0.xCc_Cwnd + p1.xAcked)))) (cond (decide (q0.xCc_Cwnd < v54)) (kn (wr .i64 (q0.xCc_Cwnd + p1.xAcked))) (G_bbr_ctl_bandwidth cp n q0 (fun r55 r56 => cond (decide (r55 = 0)) (kn (wr .i64 (q0.xCc_Cwnd + p1.xAcked))) (kn q0.xCc_Cwnd)))))
def s_bbr_ctl_window_5 {R : Type} (cp : Nat → Nat → Bool) (n : Nat) (q0 : Sctl) (v57 : Int) (kn : Int → Option R) : Option R :=
  G_seq_Clamp cp n v57 q0.xCc_Mss 1073741824 (fun r58 => kn r58)
def s_bbr_ctl_window_8 {R : Type} (cp : Nat → Nat → Bool) (n : Nat) (p1 : SSample) (q0 : Sctl) (v54 : Int) (kn : Int → Option R) : Option R :=
  s_bbr_ctl_window_3 cp n p1 q0 v54 (fun v57 => s_bbr_ctl_window_5 cp n q0 v57 (fun v59 => (kn v59)))
def s_bbr_ctl_window_10 {R : Type} (cp : Nat → Nat → Bool) (n : Nat) (p1 : SSample) (q0 : Sctl) (kn : Int → Option R) : Option R :=
  s_bbr_ctl_window_1 cp n p1 q0 (fun v54 => s_bbr_ctl_window_8 cp n p1 q0 v54 (fun v60 => (kn v60)))
def G_bbr_ctl_window {R : Type} (cp : Nat → Nat → Bool) : Nat → SSample → Sctl → (Sctl → Option R) → Option R
  | 0, _, _, _ => none
  | n + 1, p1, q0, k =>
    s_bbr_ctl_window_10 cp n p1 q0 (fun v61 => k (Sctl.mk q0.xCc_Kind q0.xCc_Mss v61 q0.xCc_Ssthresh q0.xCc_Acc q0.xCc_Wmax q0.xCc_Epoch q0.xCc_K q0.xCc_West q0.xCc_Start q0.xCc_Mode q0.xCc_Bw q0.xCc_MinRtt q0.xCc_MinAt q0.xCc_Round q0.xCc_NextAt q0.xCc_Full q0.xCc_FullN q0.xCc_Phase q0.xCc_PhaseAt q0.xCc_DoneAt q0.xCc_Prior))
/-! tideway/bbr.Acked -/
def s_bbr_Acked_1 {R : Type} (cp : Nat → Nat → Bool) (n : Nat) (p0 : SCc) (p1 : SSample) (kn : Bool → SCc → Option R) (kr : Int → Option R) : Option R :=
  G_bbr_Check cp n p0 (fun r84 => cond (!decide (r84 = 0)) (kr r84) (G_bbr_within cp n 1125899906842624 [p1.xNow, p1.xGiven, p1.xBefore, p1.xRtt] (fun r85 => cond (!r85) (kr 2) (G_bbr_within cp n 1073741824 [p1.xAcked, p1.xFlight] (fun r86 => cond (!r86) (kr 2) (cond (decide (p1.xRate < 0)) (kr 2) (G_bbr_ctl_round cp n p1 (Sctl.mk p0.xKind p0.xMss p0.xCwnd p0.xSsthresh p0.xAcc p0.xWmax p0.xEpoch p0.xK p0.xWest p0.xStart p0.xMode p0.xBw p0.xMinRtt p0.xMinAt p0.xRound p0.xNextAt p0.xFull p0.xFullN p0.xPhase p0.xPhaseAt p0.xDoneAt p0.xPrior) (fun r87 r88 => kn r87 (SCc.mk r88.xCc_Kind r88.xCc_Mss r88.xCc_Cwnd r88.xCc_Ssthresh r88.xCc_Acc r88.xCc_Wmax r88.xCc_Epoch r88.xCc_K r88.xCc_West r88.xCc_Start r88.xCc_Mode r88.xCc_Bw r88.xCc_MinRtt r88.xCc_MinAt r88.xCc_Round r88.xCc_NextAt r88.xCc_Full r88.xCc_FullN r88.xCc_Phase r88.xCc_PhaseAt r88.xCc_DoneAt r88.xCc_Prior)))))))))
def s_bbr_Acked_4 {R : Type} (cp : Nat → Nat → Bool) (n : Nat) (p1 : SSample) (v89 : Bool) (v90 : SCc) (kn : Bool → SCc → Option R) : Option R :=
  G_bbr_ctl_speed cp n p1 (Sctl.mk v90.xKind v90.xMss v90.xCwnd v90.xSsthresh v90.xAcc v90.xWmax v90.xEpoch v90.xK v90.xWest v90.xStart v90.xMode v90.xBw v90.xMinRtt v90.xMinAt v90.xRound v90.xNextAt v90.xFull v90.xFullN v90.xPhase v90.xPhaseAt v90.xDoneAt v90.xPrior) (fun r96 => G_bbr_ctl_shortest cp n p1 r96 (fun r97 r98 => cond (v89) (cond (decide (r98.xCc_Mode = 1)) (cond (!p1.xIdle) (G_bbr_ctl_full cp n r98 (fun r99 => kn r97 (SCc.mk r99.xCc_Kind r99.xCc_Mss r99.xCc_Cwnd r99.xCc_Ssthresh r99.xCc_Acc r99.xCc_Wmax r99.xCc_Epoch r99.xCc_K r99.xCc_West r99.xCc_Start r99.xCc_Mode r99.xCc_Bw r99.xCc_MinRtt r99.xCc_MinAt r99.xCc_Round r99.xCc_NextAt r99.xCc_Full r99.xCc_FullN r99.xCc_Phase r99.xCc_PhaseAt r99.xCc_DoneAt r99.xCc_Prior))) (kn r97 (SCc.mk r98.xCc_Kind r98.xCc_Mss r98.xCc_Cwnd r98.xCc_Ssthresh r98.xCc_Acc r98.xCc_Wmax r98.xCc_Epoch r98.xCc_K r98.xCc_West r98.xCc_Start r98.xCc_Mode r98.xCc_Bw r98.xCc_MinRtt r98.xCc_MinAt r98.xCc_Round r98.xCc_NextAt r98.xCc_Full r98.xCc_FullN r98.xCc_Phase r98.xCc_PhaseAt r98.xCc_DoneAt r98.xCc_Prior))) (kn r97 (SCc.mk r98.xCc_Kind r98.xCc_Mss r98.xCc_Cwnd r98.xCc_Ssthresh r98.xCc_Acc r98.xCc_Wmax r98.xCc_Epoch r98.xCc_K r98.xCc_West r98.xCc_Start r98.xCc_Mode r98.xCc_Bw r98.xCc_MinRtt r98.xCc_MinAt r98.xCc_Round r98.xCc_NextAt r98.xCc_Full r98.xCc_FullN r98.xCc_Phase r98.xCc_PhaseAt r98.xCc_DoneAt r98.xCc_Prior))) (kn r97 (SCc.mk r98.xCc_Kind r98.xCc_Mss r98.xCc_Cwnd r98.xCc_Ssthresh r98.xCc_Acc r98.xCc_Wmax r98.xCc_Epoch r98.xCc_K r98.xCc_West r98.xCc_Start r98.xCc_Mode r98.xCc_Bw r98.xCc_MinRtt r98.xCc_MinAt r98.xCc_Round r98.xCc_NextAt r98.xCc_Full r98.xCc_FullN r98.xCc_Phase r98.xCc_PhaseAt r98.xCc_DoneAt r98.xCc_Prior))))
def s_bbr_Acked_6 {R : Type} (cp : Nat → Nat → Bool) (n : Nat) (p1 : SSample) (v100 : Bool) (v101 : SCc) (kr : SCc → Option R) : Option R :=
  G_bbr_ctl_cycle cp n p1 (Sctl.mk v101.xKind v101.xMss v101.xCwnd v101.xSsthresh v101.xAcc v101.xWmax v101.xEpoch v101.xK v101.xWest v101.xStart v101.xMode v101.xBw v101.xMinRtt v101.xMinAt v101.xRound v101.xNextAt v101.xFull v101.xFullN v101.xPhase v101.xPhaseAt v101.xDoneAt v101.xPrior) (fun r102 => G_bbr_ctl_ask cp n p1 v100 r102 (fun r103 => G_bbr_ctl_window cp n p1 r103 (fun r104 => kr (SCc.mk r104.xCc_Kind r104.xCc_Mss r104.xCc_Cwnd r104.xCc_Ssthresh r104.xCc_Acc r104.xCc_Wmax r104.xCc_Epoch r104.xCc_K r104.xCc_West r104.xCc_Start r104.xCc_Mode r104.xCc_Bw r104.xCc_MinRtt r104.xCc_MinAt r104.xCc_Round r104.xCc_NextAt r104.xCc_Full r104.xCc_FullN r104.xCc_Phase r104.xCc_PhaseAt r104.xCc_DoneAt r104.xCc_Prior))))
def s_bbr_Acked_9 {R : Type} (cp : Nat → Nat → Bool) (n : Nat) (p1 : SSample) (v89 : Bool) (v90 : SCc) (kr : SCc → Option R) : Option R :=
  s_bbr_Acked_4 cp n p1 v89 v90 (fun v100 v101 => s_bbr_Acked_6 cp n p1 v100 v101 (fun v105 => (kr v105)))
def s_bbr_Acked_11 {R : Type} (cp : Nat → Nat → Bool) (n : Nat) (p0 : SCc) (p1 : SSample) (kr : Int → SCc → Option R) : Option R :=
  s_bbr_Acked_1 cp n p0 p1 (fun v89 v90 => s_bbr_Acked_9 cp n p1 v89 v90 (fun v106 => (kr 0 v106))) (fun v91 => (kr v91 (SCc.mk 0 0 0 0 0 0 0 0 0 0 0 [] 0 0 0 0 0 0 0 0 0 0)))
def G_bbr_Acked {R : Type} (cp : Nat → Nat → Bool) : Nat → SCc → SSample → (SCc → Int → Option R) → Option R
  | 0, _, _, _ => none
  | n + 1, p0, p1, k =>
    s_bbr_Acked_11 cp n p0 p1 (fun v107 v108 => k v108 v107)
/-! tideway/bbr.Timeout -/
def G_bbr_Timeout {R : Type} (cp : Nat → Nat → Bool) : Nat → SCc → Int → (SCc → Int → Option R) → Option R
  | 0, _, _, _ => none
  | n + 1, p0, p1, k =>
    G_bbr_Check cp n p0 (fun r111 => cond (!decide (r111 = 0)) (k (SCc.mk 0 0 0 0 0 0 0 0 0 0 0 [] 0 0 0 0 0 0 0 0 0 0) 230) (G_bbr_within cp n 1073741824 [p1] (fun r112 => cond (!r112) (k (SCc.mk 0 0 0 0 0 0 0 0 0 0 0 [] 0 0 0 0 0 0 0 0 0 0) 2) (k (SCc.mk p0.xKind p0.xMss p0.xMss p0.xSsthresh p0.xAcc p0.xWmax p0.xEpoch p0.xK p0.xWest p0.xStart p0.xMode p0.xBw p0.xMinRtt p0.xMinAt p0.xRound p0.xNextAt p0.xFull p0.xFullN p0.xPhase p0.xPhaseAt p0.xDoneAt p0.xCwnd) 0))))
/-! tideway/bbr.Bandwidth -/
def G_bbr_Bandwidth {R : Type} (cp : Nat → Nat → Bool) : Nat → SCc → (Int → Option R) → Option R
  | 0, _, _ => none
  | n + 1, p0, k =>
    G_bbr_Check cp n p0 (fun r47 => cond (!decide (r47 = 0)) (k 0) (G_bbr_ctl_bandwidth cp n (Sctl.mk p0.xKind p0.xMss p0.xCwnd p0.xSsthresh p0.xAcc p0.xWmax p0.xEpoch p0.xK p0.xWest p0.xStart p0.xMode p0.xBw p0.xMinRtt p0.xMinAt p0.xRound p0.xNextAt p0.xFull p0.xFullN p0.xPhase p0.xPhaseAt p0.xDoneAt p0.xPrior) (fun r48 r49 => k r48)))
/-! tideway/bbr.Product -/
def G_bbr_Product {R : Type} (cp : Nat → Nat → Bool) : Nat → SCc → (Int → Option R) → Option R
  | 0, _, _ => none
  | n + 1, p0, k =>
    G_bbr_Check cp n p0 (fun r51 => cond (!decide (r51 = 0)) (k 0) (G_bbr_ctl_product cp n (Sctl.mk p0.xKind p0.xMss p0.xCwnd p0.xSsthresh p0.xAcc p0.xWmax p0.xEpoch p0.xK p0.xWest p0.xStart p0.xMode p0.xBw p0.xMinRtt p0.xMinAt p0.xRound p0.xNextAt p0.xFull p0.xFullN p0.xPhase p0.xPhaseAt p0.xDoneAt p0.xPrior) (fun r52 r53 => k r52)))
/-! tideway/bbr.Gain -/
def G_bbr_Gain {R : Type} (cp : Nat → Nat → Bool) : Nat → SCc → (Int → Option R) → Option R
  | 0, _, _ => none
  | n + 1, p0, k =>
    G_bbr_Check cp n p0 (fun r55 => cond (!decide (r55 = 0)) (k 0) (cond (decide (p0.xMode = 1)) (k 289) (cond (decide (p0.xMode = 2)) (k 35) (cond (decide (p0.xMode = 3)) (cond (decide (p0.xPhase = 0)) (k 125) (cond (decide (p0.xMode = 3)) (cond (decide (p0.xPhase = 1)) (k 75) (k 100)) (k 100))) (cond (decide (p0.xMode = 3)) (cond (decide (p0.xPhase = 1)) (k 75) (k 100)) (k 100))))))
/-! tideway/tidewaylaw18.heads -/
def s_law18_heads_1 {R : Type} (cp : Nat → Nat → Bool) (n : Nat) (kn : Int → Int → Int → Int → SCc → SCc → Option R) : Option R :=
  G_bbr_New cp n 10 4 (fun r31 r32 => G_bbr_Acked cp n r31 (SSample.mk 100000 10 100000 1000000 false 10 0 30) (fun r33 r34 => G_bbr_Timeout cp n r33 5 (fun r35 r36 => G_bbr_New cp n 0 1 (fun r37 r38 => kn r32 r34 r36 r38 r33 r35))))
def s_law18_heads_3 {R : Type} (cp : Nat → Nat → Bool) (n : Nat) (v39 v40 v41 v42 : Int) (v43 v44 : SCc) (kr : Bool → Option R) : Option R :=
  G_bbr_Acked cp n (SCc.mk 0 0 0 0 0 0 0 0 0 0 0 [] 0 0 0 0 0 0 0 0 0 0) (SSample.mk 0 0 0 0 false 0 0 0) (fun r45 r46 => cond (decide (v39 = 0)) (cond (decide (v40 = 0)) (G_bbr_Bandwidth cp n v43 (fun r50 => cond (decide (r50 = 1000000)) (G_bbr_Product cp n v43 (fun r54 => cond (decide (r54 = 100000)) (G_bbr_Gain cp n v43 (fun r56 => cond (decide (r56 = 289)) (cond (decide (v43.xRound = 1)) (cond (decide (v41 = 0)) (cond (decide (v44.xCwnd = 10)) (cond (decide (v42 = 2)) (kr (decide (r46 = 230))) (kr false)) (kr false)) (kr false)) (kr false)) (kr false))) (kr false))) (kr false))) (kr false)) (kr false))
def s_law18_heads_6 {R : Type} (cp : Nat → Nat → Bool) (n : Nat) (kr : Bool → Option R) : Option R :=
  s_law18_heads_1 cp n (fun v39 v40 v41 v42 v43 v44 => s_law18_heads_3 cp n v39 v40 v41 v42 v43 v44 (fun v57 => (kr v57)))
def G_law18_heads {R : Type} (cp : Nat → Nat → Bool) : Nat → (Bool → Option R) → Option R
  | 0, _ => none
  | n + 1, k =>
    s_law18_heads_6 cp n (fun v58 => k v58)
/-! tideway/tidewaylaw18.BbrProbes -/
def s_law18_BbrProbes_1 {R : Type} (cp : Nat → Nat → Bool) (n : Nat) (p0 : SCc) (p1 : SSample) (kn : Int → Option R) (kr : Bool → Option R) : Option R :=
  G_bbr_Check cp n p0 (fun r9 => cond (!decide (r9 = 0)) (G_law18_heads cp n (fun r10 => kr r10)) (cond (decide (p0.xMinRtt = 0)) (G_law18_heads cp n (fun r11 => kr r11)) (cond (decide (p0.xMode = 4)) (G_law18_heads cp n (fun r12 => kr r12)) (kn (wr .i64 (p0.xMinAt + 10000001))))))
def s_law18_BbrProbes_4 {R : Type} (cp : Nat → Nat → Bool) (n : Nat) (p0 : SCc) (p1 : SSample) (v13 : Int) (kr : Bool → Option R) : Option R :=
  G_bbr_Acked cp n p0 (SSample.mk v13 p1.xAcked p1.xRtt p1.xRate p1.xIdle p1.xGiven p1.xBefore p1.xFlight) (fun r15 r16 => cond (!decide (r16 = 0)) (G_law18_heads cp n (fun r17 => kr r17)) (cond (decide (r15.xMode = 4)) (cond (decide (r15.xCwnd ≤ (mx (wr .i64 (4 * r15.xMss)) r15.xMss))) (cond (decide (r15.xPrior = p0.xCwnd)) (cond (decide (r15.xDoneAt = 0)) (G_law18_heads cp n (fun r18 => kr r18)) (kr false)) (kr false)) (kr false)) (kr false)))
def s_law18_BbrProbes_7 {R : Type} (cp : Nat → Nat → Bool) (n : Nat) (p0 : SCc) (p1 : SSample) (kr : Bool → Option R) : Option R :=
  s_law18_BbrProbes_1 cp n p0 p1 (fun v13 => s_law18_BbrProbes_4 cp n p0 p1 v13 (fun v19 => (kr v19))) (fun v14 => (kr v14))
def G_law18_BbrProbes {R : Type} (cp : Nat → Nat → Bool) : Nat → SCc → SSample → (Bool → Option R) → Option R
  | 0, _, _, _ => none
  | n + 1, p0, p1, k =>
    s_law18_BbrProbes_7 cp n p0 p1 (fun v20 => k v20)
def ca_bbr_within {R : Type} (cp : Nat → Nat → Bool) (n : Nat) (av : Fr) (cs : List Fr) (k : Ret2 RW → Option R) : Option R := match av, cs with
  | [y0, y1], [] => (dI .i64 y0).bind fun p0 => (dRint false y1).bind fun p1 => G_bbr_within cp n p0 p1 (fun r0 => k ⟨(tB r0), []⟩)
  | _, _ => none
def ca_filter_may {R : Type} (cp : Nat → Nat → Bool) (n : Nat) (av : Fr) (cs : List Fr) (k : Ret2 RW → Option R) : Option R := match av, cs with
  | [y0], [] => (dA y0).bind fun c0_ => (dEntry c0_).bind fun p0 => G_filter_may cp n p0 (fun r0 => k ⟨(tB r0), []⟩)
  | _, _ => none
def ca_filter_beats {R : Type} (cp : Nat → Nat → Bool) (n : Nat) (av : Fr) (cs : List Fr) (k : Ret2 RW → Option R) : Option R := match av, cs with
  | [y0, y1, y2], [] => (dI .i64 y0).bind fun p0 => (dI .i64 y1).bind fun p1 => (dB y2).bind fun p2 => G_filter_beats cp n p0 p1 p2 (fun r0 => k ⟨(tB r0), []⟩)
  | _, _ => none
def ca_filter_Check {R : Type} (cp : Nat → Nat → Bool) (n : Nat) (av : Fr) (cs : List Fr) (k : Ret2 RW → Option R) : Option R := match av, cs with
  | [y0, y1], [] => (dREntry false y0).bind fun p0 => (dB y1).bind fun p1 => G_filter_Check cp n p0 p1 (fun r0 => k ⟨(tL r0), []⟩)
  | _, _ => none
def ca_bbr_ctl_entries {R : Type} (cp : Nat → Nat → Bool) (n : Nat) (av : Fr) (cs : List Fr) (k : Ret2 RW → Option R) : Option R := match av, cs with
  | [y0], [w0] => (dP 36 0 y0).bind fun _ => (dctl w0).bind fun q0 => G_bbr_ctl_entries cp n q0 (fun r0 r1 => k ⟨(tB r0), [(ectl r1)]⟩)
  | _, _ => none
def ca_bbr_Check {R : Type} (cp : Nat → Nat → Bool) (n : Nat) (av : Fr) (cs : List Fr) (k : Ret2 RW → Option R) : Option R := match av, cs with
  | [y0], [] => (dA y0).bind fun c0_ => (dCc c0_).bind fun p0 => G_bbr_Check cp n p0 (fun r0 => k ⟨(tL r0), []⟩)
  | _, _ => none
def ca_reno_New {R : Type} (cp : Nat → Nat → Bool) (n : Nat) (av : Fr) (cs : List Fr) (k : Ret2 RW → Option R) : Option R := match av, cs with
  | [y0, y1], [] => (dI .i64 y0).bind fun p0 => (dI .i64 y1).bind fun p1 => G_reno_New cp n p0 p1 (fun r0 r1 => k ⟨.tup [.agg (eCc r0), (tL r1)], []⟩)
  | _, _ => none
def ca_bbr_New {R : Type} (cp : Nat → Nat → Bool) (n : Nat) (av : Fr) (cs : List Fr) (k : Ret2 RW → Option R) : Option R := match av, cs with
  | [y0, y1], [] => (dI .i64 y0).bind fun p0 => (dI .i64 y1).bind fun p1 => G_bbr_New cp n p0 p1 (fun r0 r1 => k ⟨.tup [.agg (eCc r0), (tL r1)], []⟩)
  | _, _ => none
def ca_bbr_ctl_round {R : Type} (cp : Nat → Nat → Bool) (n : Nat) (av : Fr) (cs : List Fr) (k : Ret2 RW → Option R) : Option R := match av, cs with
  | [y0, y1], [w0] => (dP 30 0 y0).bind fun _ => (dA y1).bind fun c1_ => (dSample c1_).bind fun p1 => (dctl w0).bind fun q0 => G_bbr_ctl_round cp n p1 q0 (fun r0 r1 => k ⟨(tB r0), [(ectl r1)]⟩)
  | _, _ => none
def ca_filter_Best {R : Type} (cp : Nat → Nat → Bool) (n : Nat) (av : Fr) (cs : List Fr) (k : Ret2 RW → Option R) : Option R := match av, cs with
  | [y0], [] => (dREntry false y0).bind fun p0 => G_filter_Best cp n p0 (fun r0 r1 => k ⟨.tup [(tL r0), (tB r1)], []⟩)
  | _, _ => none
def ca_bbr_ctl_bandwidth {R : Type} (cp : Nat → Nat → Bool) (n : Nat) (av : Fr) (cs : List Fr) (k : Ret2 RW → Option R) : Option R := match av, cs with
  | [y0], [w0] => (dP 15 0 y0).bind fun _ => (dctl w0).bind fun q0 => G_bbr_ctl_bandwidth cp n q0 (fun r0 r1 => k ⟨(tL r0), [(ectl r1)]⟩)
  | _, _ => none
def ca_filter_Put {R : Type} (cp : Nat → Nat → Bool) (n : Nat) (av : Fr) (cs : List Fr) (k : Ret2 RW → Option R) : Option R := match av, cs with
  | [y0, y1, y2, y3, y4], [] => (dREntry false y0).bind fun p0 => (dI .i64 y1).bind fun p1 => (dI .i64 y2).bind fun p2 => (dI .i64 y3).bind fun p3 => (dB y4).bind fun p4 => G_filter_Put cp n p0 p1 p2 p3 p4 (fun r0 r1 => k ⟨.tup [.row false (.rEntry r0), (tL r1)], []⟩)
  | _, _ => none
def ca_bbr_ctl_speed {R : Type} (cp : Nat → Nat → Bool) (n : Nat) (av : Fr) (cs : List Fr) (k : Ret2 RW → Option R) : Option R := match av, cs with
  | [y0, y1], [w0] => (dP 74 0 y0).bind fun _ => (dA y1).bind fun c1_ => (dSample c1_).bind fun p1 => (dctl w0).bind fun q0 => G_bbr_ctl_speed cp n p1 q0 (fun r0 => k ⟨.tup [], [(ectl r0)]⟩)
  | _, _ => none
def ca_bbr_ctl_shortest {R : Type} (cp : Nat → Nat → Bool) (n : Nat) (av : Fr) (cs : List Fr) (k : Ret2 RW → Option R) : Option R := match av, cs with
  | [y0, y1], [w0] => (dP 60 0 y0).bind fun _ => (dA y1).bind fun c1_ => (dSample c1_).bind fun p1 => (dctl w0).bind fun q0 => G_bbr_ctl_shortest cp n p1 q0 (fun r0 r1 => k ⟨(tB r0), [(ectl r1)]⟩)
  | _, _ => none
def ca_bbr_ctl_full {R : Type} (cp : Nat → Nat → Bool) (n : Nat) (av : Fr) (cs : List Fr) (k : Ret2 RW → Option R) : Option R := match av, cs with
  | [y0], [w0] => (dP 48 0 y0).bind fun _ => (dctl w0).bind fun q0 => G_bbr_ctl_full cp n q0 (fun r0 => k ⟨.tup [], [(ectl r0)]⟩)
  | _, _ => none
def ca_math_bits_Mul64 {R : Type} (cp : Nat → Nat → Bool) (n : Nat) (av : Fr) (cs : List Fr) (k : Ret2 RW → Option R) : Option R := match av, cs with
  | [y0, y1], [] => (dI .u64 y0).bind fun p0 => (dI .u64 y1).bind fun p1 => G_math_bits_Mul64 cp n p0 p1 (fun r0 r1 => k ⟨.tup [(tI .u64 r0), (tI .u64 r1)], []⟩)
  | _, _ => none
def ca_math_bits_Len64 {R : Type} (cp : Nat → Nat → Bool) (n : Nat) (av : Fr) (cs : List Fr) (k : Ret2 RW → Option R) : Option R := match av, cs with
  | [y0], [] => (dI .u64 y0).bind fun p0 => G_math_bits_Len64 cp n p0 (fun r0 => k ⟨(tL r0), []⟩)
  | _, _ => none
def ca_math_bits_LeadingZeros64 {R : Type} (cp : Nat → Nat → Bool) (n : Nat) (av : Fr) (cs : List Fr) (k : Ret2 RW → Option R) : Option R := match av, cs with
  | [y0], [] => (dI .u64 y0).bind fun p0 => G_math_bits_LeadingZeros64 cp n p0 (fun r0 => k ⟨(tL r0), []⟩)
  | _, _ => none
def ca_math_bits_Div64 {R : Type} (cp : Nat → Nat → Bool) (n : Nat) (av : Fr) (cs : List Fr) (k : Ret2 RW → Option R) : Option R := match av, cs with
  | [y0, y1, y2], [] => (dI .u64 y0).bind fun p0 => (dI .u64 y1).bind fun p1 => (dI .u64 y2).bind fun p2 => G_math_bits_Div64 cp n p0 p1 p2 (fun r0 r1 => k ⟨.tup [(tI .u64 r0), (tI .u64 r1)], []⟩)
  | _, _ => none
def ca_seq_MulDiv {R : Type} (cp : Nat → Nat → Bool) (n : Nat) (av : Fr) (cs : List Fr) (k : Ret2 RW → Option R) : Option R := match av, cs with
  | [y0, y1, y2], [] => (dI .i64 y0).bind fun p0 => (dI .i64 y1).bind fun p1 => (dI .i64 y2).bind fun p2 => G_seq_MulDiv cp n p0 p1 p2 (fun r0 r1 => k ⟨.tup [(tL r0), (tL r1)], []⟩)
  | _, _ => none
def ca_bbr_ctl_product {R : Type} (cp : Nat → Nat → Bool) (n : Nat) (av : Fr) (cs : List Fr) (k : Ret2 RW → Option R) : Option R := match av, cs with
  | [y0], [w0] => (dP 18 0 y0).bind fun _ => (dctl w0).bind fun q0 => G_bbr_ctl_product cp n q0 (fun r0 r1 => k ⟨(tL r0), [(ectl r1)]⟩)
  | _, _ => none
def ca_bbr_ctl_probe {R : Type} (cp : Nat → Nat → Bool) (n : Nat) (av : Fr) (cs : List Fr) (k : Ret2 RW → Option R) : Option R := match av, cs with
  | [y0, y1], [w0] => (dP 17 0 y0).bind fun _ => (dI .i64 y1).bind fun p1 => (dctl w0).bind fun q0 => G_bbr_ctl_probe cp n p1 q0 (fun r0 => k ⟨.tup [], [(ectl r0)]⟩)
  | _, _ => none
def ca_bbr_ctl_cycle {R : Type} (cp : Nat → Nat → Bool) (n : Nat) (av : Fr) (cs : List Fr) (k : Ret2 RW → Option R) : Option R := match av, cs with
  | [y0, y1], [w0] => (dP 62 0 y0).bind fun _ => (dA y1).bind fun c1_ => (dSample c1_).bind fun p1 => (dctl w0).bind fun q0 => G_bbr_ctl_cycle cp n p1 q0 (fun r0 => k ⟨.tup [], [(ectl r0)]⟩)
  | _, _ => none
def ca_bbr_ctl_ask {R : Type} (cp : Nat → Nat → Bool) (n : Nat) (av : Fr) (cs : List Fr) (k : Ret2 RW → Option R) : Option R := match av, cs with
  | [y0, y1, y2], [w0] => (dP 122 0 y0).bind fun _ => (dA y1).bind fun c1_ => (dSample c1_).bind fun p1 => (dB y2).bind fun p2 => (dctl w0).bind fun q0 => G_bbr_ctl_ask cp n p1 p2 q0 (fun r0 => k ⟨.tup [], [(ectl r0)]⟩)
  | _, _ => none
def ca_seq_Clamp {R : Type} (cp : Nat → Nat → Bool) (n : Nat) (av : Fr) (cs : List Fr) (k : Ret2 RW → Option R) : Option R := match av, cs with
  | [y0, y1, y2], [] => (dI .i64 y0).bind fun p0 => (dI .i64 y1).bind fun p1 => (dI .i64 y2).bind fun p2 => G_seq_Clamp cp n p0 p1 p2 (fun r0 => k ⟨(tL r0), []⟩)
  | _, _ => none
def ca_bbr_ctl_window {R : Type} (cp : Nat → Nat → Bool) (n : Nat) (av : Fr) (cs : List Fr) (k : Ret2 RW → Option R) : Option R := match av, cs with
  | [y0, y1], [w0] => (dP 73 0 y0).bind fun _ => (dA y1).bind fun c1_ => (dSample c1_).bind fun p1 => (dctl w0).bind fun q0 => G_bbr_ctl_window cp n p1 q0 (fun r0 => k ⟨.tup [], [(ectl r0)]⟩)
  | _, _ => none
def ca_bbr_Acked {R : Type} (cp : Nat → Nat → Bool) (n : Nat) (av : Fr) (cs : List Fr) (k : Ret2 RW → Option R) : Option R := match av, cs with
  | [y0, y1], [] => (dA y0).bind fun c0_ => (dCc c0_).bind fun p0 => (dA y1).bind fun c1_ => (dSample c1_).bind fun p1 => G_bbr_Acked cp n p0 p1 (fun r0 r1 => k ⟨.tup [.agg (eCc r0), (tL r1)], []⟩)
  | _, _ => none
def ca_bbr_Timeout {R : Type} (cp : Nat → Nat → Bool) (n : Nat) (av : Fr) (cs : List Fr) (k : Ret2 RW → Option R) : Option R := match av, cs with
  | [y0, y1], [] => (dA y0).bind fun c0_ => (dCc c0_).bind fun p0 => (dI .i64 y1).bind fun p1 => G_bbr_Timeout cp n p0 p1 (fun r0 r1 => k ⟨.tup [.agg (eCc r0), (tL r1)], []⟩)
  | _, _ => none
def ca_bbr_Bandwidth {R : Type} (cp : Nat → Nat → Bool) (n : Nat) (av : Fr) (cs : List Fr) (k : Ret2 RW → Option R) : Option R := match av, cs with
  | [y0], [] => (dA y0).bind fun c0_ => (dCc c0_).bind fun p0 => G_bbr_Bandwidth cp n p0 (fun r0 => k ⟨(tL r0), []⟩)
  | _, _ => none
def ca_bbr_Product {R : Type} (cp : Nat → Nat → Bool) (n : Nat) (av : Fr) (cs : List Fr) (k : Ret2 RW → Option R) : Option R := match av, cs with
  | [y0], [] => (dA y0).bind fun c0_ => (dCc c0_).bind fun p0 => G_bbr_Product cp n p0 (fun r0 => k ⟨(tL r0), []⟩)
  | _, _ => none
def ca_bbr_Gain {R : Type} (cp : Nat → Nat → Bool) (n : Nat) (av : Fr) (cs : List Fr) (k : Ret2 RW → Option R) : Option R := match av, cs with
  | [y0], [] => (dA y0).bind fun c0_ => (dCc c0_).bind fun p0 => G_bbr_Gain cp n p0 (fun r0 => k ⟨(tL r0), []⟩)
  | _, _ => none
def ca_law18_heads {R : Type} (cp : Nat → Nat → Bool) (n : Nat) (av : Fr) (cs : List Fr) (k : Ret2 RW → Option R) : Option R := match av, cs with
  | [], [] => G_law18_heads cp n (fun r0 => k ⟨(tB r0), []⟩)
  | _, _ => none
def ca_law18_BbrProbes {R : Type} (cp : Nat → Nat → Bool) (n : Nat) (av : Fr) (cs : List Fr) (k : Ret2 RW → Option R) : Option R := match av, cs with
  | [y0, y1], [] => (dA y0).bind fun c0_ => (dCc c0_).bind fun p0 => (dA y1).bind fun c1_ => (dSample c1_).bind fun p1 => G_law18_BbrProbes cp n p0 p1 (fun r0 => k ⟨(tB r0), []⟩)
  | _, _ => none
def callP {R : Type} (cp : Nat → Nat → Bool) (n : Nat) (id : Nat) (av : Fr) (cs : List Fr) (k : Ret2 RW → Option R) : Option R := match id with
  | 17 => ca_bbr_within cp n av cs k
  | 44 => ca_filter_may cp n av cs k
  | 45 => ca_filter_beats cp n av cs k
  | 36 => ca_filter_Check cp n av cs k
  | 1003 => ca_bbr_ctl_entries cp n av cs k
  | 12 => ca_bbr_Check cp n av cs k
  | 20 => ca_reno_New cp n av cs k
  | 9 => ca_bbr_New cp n av cs k
  | 1011 => ca_bbr_ctl_round cp n av cs k
  | 40 => ca_filter_Best cp n av cs k
  | 1013 => ca_bbr_ctl_bandwidth cp n av cs k
  | 37 => ca_filter_Put cp n av cs k
  | 1012 => ca_bbr_ctl_speed cp n av cs k
  | 1016 => ca_bbr_ctl_shortest cp n av cs k
  | 1017 => ca_bbr_ctl_full cp n av cs k
  | 46 => ca_math_bits_Mul64 cp n av cs k
  | 49 => ca_math_bits_Len64 cp n av cs k
  | 48 => ca_math_bits_LeadingZeros64 cp n av cs k
  | 47 => ca_math_bits_Div64 cp n av cs k
  | 41 => ca_seq_MulDiv cp n av cs k
  | 1019 => ca_bbr_ctl_product cp n av cs k
  | 1025 => ca_bbr_ctl_probe cp n av cs k
  | 1018 => ca_bbr_ctl_cycle cp n av cs k
  | 1026 => ca_bbr_ctl_ask cp n av cs k
  | 39 => ca_seq_Clamp cp n av cs k
  | 1027 => ca_bbr_ctl_window cp n av cs k
  | 14 => ca_bbr_Acked cp n av cs k
  | 7 => ca_bbr_Timeout cp n av cs k
  | 15 => ca_bbr_Bandwidth cp n av cs k
  | 16 => ca_bbr_Product cp n av cs k
  | 23 => ca_bbr_Gain cp n av cs k
  | 13 => ca_law18_heads cp n av cs k
  | 6 => ca_law18_BbrProbes cp n av cs k
  | _ => none
end
end Go.Proofs.Ytgadpgeghlhpnaa.M
