/- The values of the program's functions, and the functions, plain. -/
import Derived.Test.YtafnmkbehjbkdaaMachX
set_option maxRecDepth 100000
set_option linter.unusedVariables false
namespace Go.Proofs.Ytafnmkbehjbkdaa.M
open Go
noncomputable section
abbrev CP := Nat → Nat → Bool
variable {R : Type}
def str_ : ByteArray := ⟨#[]⟩
def zint : Int := 0
def zuint8 : Int := 0
structure SBlock where
  xFrom : Int
  xTo : Int
def zBlock : SBlock := ⟨0, 0⟩
structure SAsked where
  xUna : Int
  xNext : Int
  xIss : Int
  xPeer : Int
  xIrs : Int
  xStamps : Bool
  xRecent : Int
  xNow : Int
  xSacks : Bool
def zAsked : SAsked := ⟨0, 0, 0, 0, 0, false, 0, 0, false⟩
structure SSegment where
  xSrcPort : Int
  xDstPort : Int
  xSeq : Int
  xAck : Int
  xFlags : Int
  xWin : Int
  xUrg : Int
  xMss : Int
  xScale : Int
  xSackOk : Bool
  xStamped : Bool
  xVal : Int
  xEcr : Int
  xSacks : (List SBlock)
  xData : (List Int)
def zSegment : SSegment := ⟨0, 0, 0, 0, 0, 0, 0, 0, 0, false, false, 0, 0, [], []⟩
structure SSpan where
  xFrom : Int
  xTo : Int
def zSpan : SSpan := ⟨0, 0⟩
structure SHeard where
  xCounts : Bool
  xAck : Int
  xOld : Bool
  xAt : Int
  xWin : Int
  xRecent : Int
  xRtt : Int
  xTwice : Bool
  xSpans : (List SSpan)
def zHeard : SHeard := ⟨false, 0, false, 0, 0, 0, 0, false, []⟩
structure SPiece where
  xFrom : Int
  xData : (List Int)
def zPiece : SPiece := ⟨0, []⟩
structure SRecv where
  xNext : Int
  xUnread : (List Int)
  xLate : (List SPiece)
  xCap : Int
  xShift : Int
  xEdge : Int
  xRecent : Int
  xStamps : Bool
  xSacks : Bool
  xFin : Int
  xDone : Bool
  xFirst : (List SSpan)
  xIrs : Int
  xOwn : Int
  xStamp : Bool
def zRecv : SRecv := ⟨0, [], [], 0, 0, 0, 0, false, false, 0, false, [], 0, 0, false⟩
inductive RW where
  | rint (xs : List Int)
  | ruint8 (xs : List Int)
  | rBlock (xs : List SBlock)
  | rSpan (xs : List SSpan)
  | rPiece (xs : List SPiece)

abbrev Fr := List (TV RW)
abbrev FF := FT RW
def tI (k : IntKind) (n : Int) : TV RW := .sc (.int k n)
def tL (n : Int) : TV RW := .sc (.int .i64 n)
def tB (b : Bool) : TV RW := .sc (.bool b)
def dT : Nat → Fr → Fr
  | 0, l => l
  | n + 1, l => .dead :: dT n l
def dc : Fr := dT 16 []
def eBlock (x : SBlock) : List (TV RW) := [(tI .u32 x.xFrom), (tI .u32 x.xTo)]
def eAsked (x : SAsked) : List (TV RW) := [(tL x.xUna), (tL x.xNext), (tI .u32 x.xIss), (tL x.xPeer), (tI .u32 x.xIrs), (tB x.xStamps), (tI .u32 x.xRecent), (tI .u32 x.xNow), (tB x.xSacks)]
def eSegment (x : SSegment) : List (TV RW) := [(tL x.xSrcPort), (tL x.xDstPort), (tI .u32 x.xSeq), (tI .u32 x.xAck), (tL x.xFlags), (tL x.xWin), (tL x.xUrg), (tL x.xMss), (tL x.xScale), (tB x.xSackOk), (tB x.xStamped), (tI .u32 x.xVal), (tI .u32 x.xEcr), .row false (.rBlock x.xSacks), .row false (.ruint8 x.xData)]
def eSegmentt (x : SSegment) : List (TV RW) := [(tL x.xSrcPort), (tL x.xDstPort), (tI .u32 x.xSeq), (tI .u32 x.xAck), (tL x.xFlags), (tL x.xWin), (tL x.xUrg), (tL x.xMss), (tL x.xScale), (tB x.xSackOk), (tB x.xStamped), (tI .u32 x.xVal), (tI .u32 x.xEcr), .row true (.rBlock x.xSacks), .row true (.ruint8 x.xData)]
def eHeard (x : SHeard) : List (TV RW) := [(tB x.xCounts), (tL x.xAck), (tB x.xOld), (tL x.xAt), (tL x.xWin), (tI .u32 x.xRecent), (tL x.xRtt), (tB x.xTwice), .row false (.rSpan x.xSpans)]
def eHeardt (x : SHeard) : List (TV RW) := [(tB x.xCounts), (tL x.xAck), (tB x.xOld), (tL x.xAt), (tL x.xWin), (tI .u32 x.xRecent), (tL x.xRtt), (tB x.xTwice), .row true (.rSpan x.xSpans)]
def eSpan (x : SSpan) : List (TV RW) := [(tL x.xFrom), (tL x.xTo)]
def eRecv (x : SRecv) : List (TV RW) := [(tL x.xNext), .row false (.ruint8 x.xUnread), .row false (.rPiece x.xLate), (tL x.xCap), (tL x.xShift), (tL x.xEdge), (tI .u32 x.xRecent), (tB x.xStamps), (tB x.xSacks), (tL x.xFin), (tB x.xDone), .row false (.rSpan x.xFirst), (tI .u32 x.xIrs), (tI .u32 x.xOwn), (tB x.xStamp)]
def eRecvt (x : SRecv) : List (TV RW) := [(tL x.xNext), .row true (.ruint8 x.xUnread), .row true (.rPiece x.xLate), (tL x.xCap), (tL x.xShift), (tL x.xEdge), (tI .u32 x.xRecent), (tB x.xStamps), (tB x.xSacks), (tL x.xFin), (tB x.xDone), .row true (.rSpan x.xFirst), (tI .u32 x.xIrs), (tI .u32 x.xOwn), (tB x.xStamp)]
def ePiece (x : SPiece) : List (TV RW) := [(tL x.xFrom), .row false (.ruint8 x.xData)]
def ePiecet (x : SPiece) : List (TV RW) := [(tL x.xFrom), .row true (.ruint8 x.xData)]
def eint (x : Int) : List (TV RW) := [(tL x)]
def euint8 (x : Int) : List (TV RW) := [(tI .u8 x)]
def cint (x : Int) : List AV := [.sc (.int .i64 x)]
def cuint8 (x : Int) : List AV := [.sc (.int .u8 x)]
def cBlock (x : SBlock) : List AV := [.sc (.int .u32 x.xFrom), .sc (.int .u32 x.xTo)]
def cSpan (x : SSpan) : List AV := [.sc (.int .i64 x.xFrom), .sc (.int .i64 x.xTo)]
def cPiece (x : SPiece) : List AV := [.sc (.int .i64 x.xFrom), .row false 1 x.xData.length (rg cuint8 zuint8 x.xData)]
def dOne : Fr → Option (TV RW)
  | [x] => some x
  | _ => none
def dI (kd : IntKind) : TV RW → Option Int
  | .sc (.int k a) => cond (decide (k = kd)) (some a) none
  | _ => none
def dB : TV RW → Option Bool
  | .sc (.bool b) => some b
  | _ => none
def dS : TV RW → Option ByteArray
  | .sc (.string b) => some b
  | _ => none
def dA : TV RW → Option Fr
  | .agg cs => some cs
  | _ => none
def dP (h j : Nat) : TV RW → Option Unit
  | .ptr a b => cond (Nat.beq a h && Nat.beq b j) (some ()) none
  | _ => none
def dC (f : Nat) (cs : List (Nat × Nat)) : TV RW → Option Unit
  | .clo a b => cond (Nat.beq a f && decide (b = cs)) (some ()) none
  | _ => none
def dUPiece : TV RW → Option (List SPiece)
  | .un none (.rPiece xs) => some xs
  | _ => none
def dXPiece : TV RW → Option SPiece
  | .row _ (.rPiece [x]) => some x
  | _ => none
def dRint (fl : Bool) : TV RW → Option (List Int)
  | .row a (.rint xs) => cond (a == fl) (some xs) none
  | _ => none
def dRuint8 (fl : Bool) : TV RW → Option (List Int)
  | .row a (.ruint8 xs) => cond (a == fl) (some xs) none
  | _ => none
def dRBlock (fl : Bool) : TV RW → Option (List SBlock)
  | .row a (.rBlock xs) => cond (a == fl) (some xs) none
  | _ => none
def dRSpan (fl : Bool) : TV RW → Option (List SSpan)
  | .row a (.rSpan xs) => cond (a == fl) (some xs) none
  | _ => none
def dRPiece (fl : Bool) : TV RW → Option (List SPiece)
  | .row a (.rPiece xs) => cond (a == fl) (some xs) none
  | _ => none
def dBlock : Fr → Option SBlock
  | [y0, y1] => (dI .u32 y0).bind fun a0 => (dI .u32 y1).bind fun a1 => some ⟨a0, a1⟩
  | _ => none
def dAsked : Fr → Option SAsked
  | [y0, y1, y2, y3, y4, y5, y6, y7, y8] => (dI .i64 y0).bind fun a0 => (dI .i64 y1).bind fun a1 => (dI .u32 y2).bind fun a2 => (dI .i64 y3).bind fun a3 => (dI .u32 y4).bind fun a4 => (dB y5).bind fun a5 => (dI .u32 y6).bind fun a6 => (dI .u32 y7).bind fun a7 => (dB y8).bind fun a8 => some ⟨a0, a1, a2, a3, a4, a5, a6, a7, a8⟩
  | _ => none
def dSegment : Fr → Option SSegment
  | [y0, y1, y2, y3, y4, y5, y6, y7, y8, y9, y10, y11, y12, y13, y14] => (dI .i64 y0).bind fun a0 => (dI .i64 y1).bind fun a1 => (dI .u32 y2).bind fun a2 => (dI .u32 y3).bind fun a3 => (dI .i64 y4).bind fun a4 => (dI .i64 y5).bind fun a5 => (dI .i64 y6).bind fun a6 => (dI .i64 y7).bind fun a7 => (dI .i64 y8).bind fun a8 => (dB y9).bind fun a9 => (dB y10).bind fun a10 => (dI .u32 y11).bind fun a11 => (dI .u32 y12).bind fun a12 => (dRBlock false y13).bind fun a13 => (dRuint8 false y14).bind fun a14 => some ⟨a0, a1, a2, a3, a4, a5, a6, a7, a8, a9, a10, a11, a12, a13, a14⟩
  | _ => none
def dSegmentt : Fr → Option SSegment
  | [y0, y1, y2, y3, y4, y5, y6, y7, y8, y9, y10, y11, y12, y13, y14] => (dI .i64 y0).bind fun a0 => (dI .i64 y1).bind fun a1 => (dI .u32 y2).bind fun a2 => (dI .u32 y3).bind fun a3 => (dI .i64 y4).bind fun a4 => (dI .i64 y5).bind fun a5 => (dI .i64 y6).bind fun a6 => (dI .i64 y7).bind fun a7 => (dI .i64 y8).bind fun a8 => (dB y9).bind fun a9 => (dB y10).bind fun a10 => (dI .u32 y11).bind fun a11 => (dI .u32 y12).bind fun a12 => (dRBlock true y13).bind fun a13 => (dRuint8 true y14).bind fun a14 => some ⟨a0, a1, a2, a3, a4, a5, a6, a7, a8, a9, a10, a11, a12, a13, a14⟩
  | _ => none
def dHeard : Fr → Option SHeard
  | [y0, y1, y2, y3, y4, y5, y6, y7, y8] => (dB y0).bind fun a0 => (dI .i64 y1).bind fun a1 => (dB y2).bind fun a2 => (dI .i64 y3).bind fun a3 => (dI .i64 y4).bind fun a4 => (dI .u32 y5).bind fun a5 => (dI .i64 y6).bind fun a6 => (dB y7).bind fun a7 => (dRSpan false y8).bind fun a8 => some ⟨a0, a1, a2, a3, a4, a5, a6, a7, a8⟩
  | _ => none
def dHeardt : Fr → Option SHeard
  | [y0, y1, y2, y3, y4, y5, y6, y7, y8] => (dB y0).bind fun a0 => (dI .i64 y1).bind fun a1 => (dB y2).bind fun a2 => (dI .i64 y3).bind fun a3 => (dI .i64 y4).bind fun a4 => (dI .u32 y5).bind fun a5 => (dI .i64 y6).bind fun a6 => (dB y7).bind fun a7 => (dRSpan true y8).bind fun a8 => some ⟨a0, a1, a2, a3, a4, a5, a6, a7, a8⟩
  | _ => none
def dSpan : Fr → Option SSpan
  | [y0, y1] => (dI .i64 y0).bind fun a0 => (dI .i64 y1).bind fun a1 => some ⟨a0, a1⟩
  | _ => none
def dRecv : Fr → Option SRecv
  | [y0, y1, y2, y3, y4, y5, y6, y7, y8, y9, y10, y11, y12, y13, y14] => (dI .i64 y0).bind fun a0 => (dRuint8 false y1).bind fun a1 => (dRPiece false y2).bind fun a2 => (dI .i64 y3).bind fun a3 => (dI .i64 y4).bind fun a4 => (dI .i64 y5).bind fun a5 => (dI .u32 y6).bind fun a6 => (dB y7).bind fun a7 => (dB y8).bind fun a8 => (dI .i64 y9).bind fun a9 => (dB y10).bind fun a10 => (dRSpan false y11).bind fun a11 => (dI .u32 y12).bind fun a12 => (dI .u32 y13).bind fun a13 => (dB y14).bind fun a14 => some ⟨a0, a1, a2, a3, a4, a5, a6, a7, a8, a9, a10, a11, a12, a13, a14⟩
  | _ => none
def dRecvt : Fr → Option SRecv
  | [y0, y1, y2, y3, y4, y5, y6, y7, y8, y9, y10, y11, y12, y13, y14] => (dI .i64 y0).bind fun a0 => (dRuint8 true y1).bind fun a1 => (dRPiece true y2).bind fun a2 => (dI .i64 y3).bind fun a3 => (dI .i64 y4).bind fun a4 => (dI .i64 y5).bind fun a5 => (dI .u32 y6).bind fun a6 => (dB y7).bind fun a7 => (dB y8).bind fun a8 => (dI .i64 y9).bind fun a9 => (dB y10).bind fun a10 => (dRSpan true y11).bind fun a11 => (dI .u32 y12).bind fun a12 => (dI .u32 y13).bind fun a13 => (dB y14).bind fun a14 => some ⟨a0, a1, a2, a3, a4, a5, a6, a7, a8, a9, a10, a11, a12, a13, a14⟩
  | _ => none
def dPiece : Fr → Option SPiece
  | [y0, y1] => (dI .i64 y0).bind fun a0 => (dRuint8 false y1).bind fun a1 => some ⟨a0, a1⟩
  | _ => none
def dPiecet : Fr → Option SPiece
  | [y0, y1] => (dI .i64 y0).bind fun a0 => (dRuint8 true y1).bind fun a1 => some ⟨a0, a1⟩
  | _ => none
def pint_ : Fr → Option (List Int)
  | [] => some []
  | y0 :: r => (dI .i64 y0).bind fun a0 => (pint_ r).bind fun xs => some (a0 :: xs)

def puint8_ : Fr → Option (List Int)
  | [] => some []
  | y0 :: r => (dI .u8 y0).bind fun a0 => (puint8_ r).bind fun xs => some (a0 :: xs)

def pBlock_ : Fr → Option (List SBlock)
  | [] => some []
  | y0 :: y1 :: r => (dI .u32 y0).bind fun a0 => (dI .u32 y1).bind fun a1 => (pBlock_ r).bind fun xs => some (⟨a0, a1⟩ :: xs)
  | _ => none

def pSpan_ : Fr → Option (List SSpan)
  | [] => some []
  | y0 :: y1 :: r => (dI .i64 y0).bind fun a0 => (dI .i64 y1).bind fun a1 => (pSpan_ r).bind fun xs => some (⟨a0, a1⟩ :: xs)
  | _ => none

def pPiece_ : Fr → Option (List SPiece)
  | [] => some []
  | y0 :: y1 :: r => (dI .i64 y0).bind fun a0 => (dRuint8 false y1).bind fun a1 => (pPiece_ r).bind fun xs => some (⟨a0, a1⟩ :: xs)
  | _ => none

def U : Uni RW where
  sz := fun r => match r with
    | .rint xs => 1
    | .ruint8 xs => 1
    | .rBlock xs => 2
    | .rSpan xs => 2
    | .rPiece xs => 2
  len := fun r => match r with
    | .rint xs => xs.length
    | .ruint8 xs => xs.length
    | .rBlock xs => xs.length
    | .rSpan xs => xs.length
    | .rPiece xs => xs.length
  getA := fun r => match r with
    | .rint xs => rg cint zint xs
    | .ruint8 xs => rg cuint8 zuint8 xs
    | .rBlock xs => rg cBlock zBlock xs
    | .rSpan xs => rg cSpan zSpan xs
    | .rPiece xs => rg cPiece zPiece xs
  get := fun r i => match r with
    | .rint xs => eint (xs.getD i zint)
    | .ruint8 xs => euint8 (xs.getD i zuint8)
    | .rBlock xs => eBlock (xs.getD i zBlock)
    | .rSpan xs => eSpan (xs.getD i zSpan)
    | .rPiece xs => ePiece (xs.getD i zPiece)
  app := fun r q => match r with
    | .rint xs => (match q with
      | .rint ys => some (.rint (xs ++ ys))
      | _ => none)
    | .ruint8 xs => (match q with
      | .ruint8 ys => some (.ruint8 (xs ++ ys))
      | _ => none)
    | .rBlock xs => (match q with
      | .rBlock ys => some (.rBlock (xs ++ ys))
      | _ => none)
    | .rSpan xs => (match q with
      | .rSpan ys => some (.rSpan (xs ++ ys))
      | _ => none)
    | .rPiece xs => (match q with
      | .rPiece ys => some (.rPiece (xs ++ ys))
      | _ => none)
  sub := fun lo n r => match r with
    | .rint xs => .rint (List.take n (xs.drop lo))
    | .ruint8 xs => .ruint8 (List.take n (xs.drop lo))
    | .rBlock xs => .rBlock (List.take n (xs.drop lo))
    | .rSpan xs => .rSpan (List.take n (xs.drop lo))
    | .rPiece xs => .rPiece (List.take n (xs.drop lo))
  szt := fun t => match t with
    | 3 => 1
    | 5 => 1
    | 49 => 2
    | 51 => 2
    | 45 => 2
    | _ => 0
  zt := fun t => match t with
    | 3 => eint zint
    | 5 => euint8 zuint8
    | 49 => eBlock zBlock
    | 51 => eSpan zSpan
    | 45 => ePiece zPiece
    | _ => []
  lit := fun t n L => match t with
    | 3 => (pint_ L).bind fun xs => cond (Nat.beq xs.length n) (some (.rint xs)) none
    | 5 => (puint8_ L).bind fun xs => cond (Nat.beq xs.length n) (some (.ruint8 xs)) none
    | 49 => (pBlock_ L).bind fun xs => cond (Nat.beq xs.length n) (some (.rBlock xs)) none
    | 51 => (pSpan_ L).bind fun xs => cond (Nat.beq xs.length n) (some (.rSpan xs)) none
    | 45 => (pPiece_ L).bind fun xs => cond (Nat.beq xs.length n) (some (.rPiece xs)) none
    | _ => none
  set := fun r q off cs => match r with
    | .rint xs => none
    | .ruint8 xs => none
    | .rBlock xs => (dBlock (splice2 (eBlock (xs.getD q zBlock)) off cs)).bind fun x => some (.rBlock (xs.set q x))
    | .rSpan xs => (dSpan (splice2 (eSpan (xs.getD q zSpan)) off cs)).bind fun x => some (.rSpan (xs.set q x))
    | .rPiece xs => (dPiece (splice2 (ePiece (xs.getD q zPiece)) off cs)).bind fun x => some (.rPiece (xs.set q x))
  str := fun r => match r with
    | .rint xs => none
    | .ruint8 xs => some xs
    | .rBlock xs => none
    | .rSpan xs => none
    | .rPiece xs => none
/-! tideway/seq.Diff -/
def G13 (cp : CP) : Nat → Int → Int → (Int → Option R) → Option R
  | 0, _, _, _ => none
  | n + 1, p0, p1, k =>
    k (wr .i64 (wr .i32 (wr .u32 (p1 - p0))))
/-! tideway/seq.Sum -/
def G29 (cp : CP) : Nat → Int → Int → (Int → Option R) → Option R
  | 0, _, _, _ => none
  | n + 1, p0, p1, k =>
    cond (decide (0 < p0)) (cond (decide (0 < p1)) (cond (decide ((wr .i64 (p0 + p1)) < 0)) (k 9223372036854775807) (cond (decide (p0 < 0)) (cond (decide (p1 < 0)) (cond (decide (0 ≤ (wr .i64 (p0 + p1)))) (k (-9223372036854775808)) (k (wr .i64 (p0 + p1)))) (k (wr .i64 (p0 + p1)))) (k (wr .i64 (p0 + p1))))) (cond (decide (p0 < 0)) (cond (decide (p1 < 0)) (cond (decide (0 ≤ (wr .i64 (p0 + p1)))) (k (-9223372036854775808)) (k (wr .i64 (p0 + p1)))) (k (wr .i64 (p0 + p1)))) (k (wr .i64 (p0 + p1))))) (cond (decide (p0 < 0)) (cond (decide (p1 < 0)) (cond (decide (0 ≤ (wr .i64 (p0 + p1)))) (k (-9223372036854775808)) (k (wr .i64 (p0 + p1)))) (k (wr .i64 (p0 + p1)))) (k (wr .i64 (p0 + p1))))
/-! tideway/seq.Unwrap -/
def G12 (cp : CP) : Nat → Int → Int → (Int → Option R) → Option R
  | 0, _, _, _ => none
  | n + 1, p0, p1, k =>
    G13 cp n (wr .u32 p0) p1 (fun r2 => G29 cp n p0 r2 (fun r3 => k r3))
/-! tideway/ack.counts -/
def s19_1 (cp : CP) (n : Nat) (p0 : SAsked) (p1 : SSegment) (kn : Int → Option R) (kr : Option R) : Option R :=
  cond (decide (p0.xUna < 0)) (kr) (cond (decide (p0.xNext < p0.xUna)) (kr) (cond (decide (1125899906842625 < p0.xNext)) (kr) (cond (!decide ((bits .and .i64 p1.xFlags 22) = 16)) (kr) (cond (p0.xStamps) (cond (!p1.xStamped) (kr) (G13 cp n p0.xRecent p1.xVal (fun r2 => cond (decide (r2 < 0)) (kr) (G12 cp n p0.xUna (wr .u32 (p1.xAck - p0.xIss)) (fun r3 => kn r3))))) (G12 cp n p0.xUna (wr .u32 (p1.xAck - p0.xIss)) (fun r4 => kn r4))))))
def s19_4 (cp : CP) (n : Nat) (p0 : SAsked) (p1 : SSegment) (v5 : Int) (kr : Bool → Option R) : Option R :=
  G12 cp n p0.xPeer (wr .u32 (p1.xSeq - p0.xIrs)) (fun r6 => cond (decide (r6 = p0.xPeer)) (cond (decide (0 ≤ v5)) (kr (decide (v5 ≤ p0.xNext))) (kr false)) (kr false))
def s19_7 (cp : CP) (n : Nat) (p0 : SAsked) (p1 : SSegment) (kr : Int → Bool → Option R) : Option R :=
  s19_1 cp n p0 p1 (fun v5 => s19_4 cp n p0 p1 v5 (fun v7 => (kr v5 v7))) (kr 0 false)
def G19 (cp : CP) : Nat → SAsked → SSegment → (Int → Bool → Option R) → Option R
  | 0, _, _, _ => none
  | n + 1, p0, p1, k =>
    s19_7 cp n p0 p1 (fun v8 v9 => k v8 v9)
/-! tideway/ack.Weigh$1 -/
def G1008 (cp : CP) : Nat → Int → SAsked → (Int → SAsked → Option R) → Option R
  | 0, _, _, _ => none
  | n + 1, p0, q0, k =>
    G12 cp n q0.xUna (wr .u32 (p0 - q0.xIss)) (fun r24 => k r24 q0)
/-! tideway/ack.offsets -/
def s1007_1 (cp : CP) (n : Nat) (p0 : (List SBlock)) (q0 : SAsked) (kn : Option R) : Option R :=
  kn
def s1007_3 (cp : CP) (n : Nat) (p0 : (List SBlock)) (q0 : SAsked) (kn : Int → Option R) : Option R :=
  kn (p0.length : Int)
def s1007_5 (cp : CP) (n : Nat) (p0 : (List SBlock)) (v23 : Int) (v24 : (List SSpan)) (v25 : Int) (v26 : SAsked) (kn : (List SSpan) → Int → SAsked → Option R) (ke0 : Option R) : Option R :=
  cond (decide (v25 < v23)) (cond (decide (0 ≤ v25)) (cond (decide (v25 < (p0.length : Int))) (G1008 cp n ((p0.getD (Int.toNat v25) zBlock).xFrom) v26 (fun r27 r28 => G1008 cp n ((p0.getD (Int.toNat v25) zBlock).xTo) r28 (fun r29 r30 => cond (cp (v24.length + [(SSpan.mk r27 r29)].length) 16) (kn (v24 ++ [(SSpan.mk r27 r29)]) (wr .i64 (v25 + 1)) r30) (none)))) (none)) (none)) (ke0)
def l1007_10 (cp : CP) (n : Nat) : Nat → (List SBlock) → Int → (List SSpan) → Int → SAsked → ((List SSpan) → SAsked → Option R) → Option R
  | 0, _, _, _, _, _, _ => none
  | m + 1, p0, v23, v24, v25, v26, ke0 =>
    s1007_5 cp n p0 v23 v24 v25 v26 (fun v31 v32 v33 => l1007_10 cp n m p0 v23 v31 v32 v33 ke0) (ke0 v24 v26)
def s1007_11 (cp : CP) (n : Nat) (p0 : (List SBlock)) (q0 : SAsked) (v23 : Int) (ke0 : (List SSpan) → SAsked → Option R) : Option R :=
  l1007_10 cp n n p0 v23 [] 0 q0 ke0
def s1007_13 (cp : CP) (n : Nat) (p0 : (List SBlock)) (q0 : SAsked) (v23 : Int) (kn : (List SSpan) → SAsked → Option R) : Option R :=
  s1007_11 cp n p0 q0 v23 (fun v34 v35 => (kn v34 v35))
def s1007_15 (cp : CP) (n : Nat) (p0 : (List SBlock)) (q0 : SAsked) (kn : (List SSpan) → SAsked → Option R) : Option R :=
  s1007_3 cp n p0 q0 (fun v23 => s1007_13 cp n p0 q0 v23 (fun v36 v37 => (kn v36 v37)))
def s1007_16 (cp : CP) (n : Nat) (v38 : (List SSpan)) (v39 : SAsked) (kr : Option R) : Option R :=
  kr
def s1007_19 (cp : CP) (n : Nat) (p0 : (List SBlock)) (q0 : SAsked) (kr : (List SSpan) → SAsked → Option R) : Option R :=
  s1007_15 cp n p0 q0 (fun v38 v39 => s1007_16 cp n v38 v39 (kr v38 v39))
def s1007_21 (cp : CP) (n : Nat) (p0 : (List SBlock)) (q0 : SAsked) (kr : (List SSpan) → SAsked → Option R) : Option R :=
  s1007_1 cp n p0 q0 (s1007_19 cp n p0 q0 (fun v40 v41 => (kr v40 v41)))
def G1007 (cp : CP) : Nat → (List SBlock) → SAsked → ((List SSpan) → SAsked → Option R) → Option R
  | 0, _, _, _ => none
  | n + 1, p0, q0, k =>
    s1007_21 cp n p0 q0 (fun v42 v43 => k v42 v43)
/-! tideway/ack.twice -/
def G22 (cp : CP) : Nat → (List SSpan) → Int → (Bool → Option R) → Option R
  | 0, _, _, _ => none
  | n + 1, p0, p1, k =>
    cond (decide ((p0.length : Int) = 0)) (k false) (cond (decide (0 < (p0.length : Int))) (cond (decide (0 < (p0.length : Int))) (cond (decide (((p0.getD 0 zSpan).xTo) ≤ ((p0.getD 0 zSpan).xFrom))) (k false) (cond (decide (0 < (p0.length : Int))) (cond (decide (((p0.getD 0 zSpan).xTo) ≤ p1)) (k true) (cond (decide (1 < (p0.length : Int))) (cond (decide (1 < (p0.length : Int))) (cond (decide (0 < (p0.length : Int))) (cond (decide (((p0.getD 1 zSpan).xFrom) ≤ ((p0.getD 0 zSpan).xFrom))) (cond (decide (0 < (p0.length : Int))) (cond (decide (1 < (p0.length : Int))) (k (decide (((p0.getD 0 zSpan).xTo) ≤ ((p0.getD 1 zSpan).xTo)))) (none)) (none)) (k false)) (none)) (none)) (k false))) (none))) (none)) (none))
/-! tideway/span.may -/
def G40 (cp : CP) : Nat → SSpan → (Bool → Option R) → Option R
  | 0, _, _ => none
  | n + 1, p0, k =>
    cond (decide (0 ≤ p0.xFrom)) (cond (decide (p0.xFrom ≤ p0.xTo)) (k (decide (p0.xTo ≤ 1125899906842624))) (k false)) (k false)
/-! tideway/span.Check -/
def s24_1 (cp : CP) (n : Nat) (p0 : (List SSpan)) (kn : Option R) : Option R :=
  kn
def s24_3 (cp : CP) (n : Nat) (p0 : (List SSpan)) (kn : Int → Option R) : Option R :=
  kn (p0.length : Int)
def s24_5 (cp : CP) (n : Nat) (p0 : (List SSpan)) (v58 v59 : Int) (kn : Int → Option R) (kr : Option R) (ke0 : Option R) : Option R :=
  cond (decide (v59 < v58)) (cond (decide (0 ≤ v59)) (cond (decide (v59 < (p0.length : Int))) (G40 cp n (p0.getD (Int.toNat v59) zSpan) (fun r60 => cond (!r60) (kr) (cond (decide (((p0.getD (Int.toNat v59) zSpan).xFrom) = ((p0.getD (Int.toNat v59) zSpan).xTo))) (kr) (cond (decide (0 < v59)) (cond (decide (0 ≤ wr .i64 (v59 - 1))) (cond (decide (wr .i64 (v59 - 1) < (p0.length : Int))) (cond (decide (((p0.getD (Int.toNat v59) zSpan).xFrom) ≤ ((p0.getD (Int.toNat (wr .i64 (v59 - 1))) zSpan).xTo))) (kr) (kn (wr .i64 (v59 + 1)))) (none)) (none)) (kn (wr .i64 (v59 + 1))))))) (none)) (none)) (ke0)
def l24_10 (cp : CP) (n : Nat) : Nat → (List SSpan) → Int → Int → (Option R) → (Option R) → Option R
  | 0, _, _, _, _, _ => none
  | m + 1, p0, v58, v59, kr, ke0 =>
    s24_5 cp n p0 v58 v59 (fun v61 => l24_10 cp n m p0 v58 v61 kr ke0) kr ke0
def s24_11 (cp : CP) (n : Nat) (p0 : (List SSpan)) (v58 : Int) (kr : Option R) (ke0 : Option R) : Option R :=
  l24_10 cp n n p0 v58 0 kr ke0
def s24_12 (cp : CP) (n : Nat) (p0 : (List SSpan)) (v58 : Int) (kn : Option R) (kr : Option R) : Option R :=
  s24_11 cp n p0 v58 kr kn
def s24_13 (cp : CP) (n : Nat) (p0 : (List SSpan)) (kn : Option R) (kr : Option R) : Option R :=
  s24_3 cp n p0 (fun v58 => s24_12 cp n p0 v58 kn kr)
def s24_14 (cp : CP) (n : Nat) (kr : Option R) : Option R :=
  kr
def s24_17 (cp : CP) (n : Nat) (p0 : (List SSpan)) (kr : Int → Option R) : Option R :=
  s24_13 cp n p0 (s24_14 cp n (kr 0)) (kr 60)
def s24_19 (cp : CP) (n : Nat) (p0 : (List SSpan)) (kr : Int → Option R) : Option R :=
  s24_1 cp n p0 (s24_17 cp n p0 (fun v62 => (kr v62)))
def G24 (cp : CP) : Nat → (List SSpan) → (Int → Option R) → Option R
  | 0, _, _ => none
  | n + 1, p0, k =>
    s24_19 cp n p0 (fun v63 => k v63)
/-! tideway/span.right -/
def G39 (cp : CP) : Nat → (List SSpan) → SSpan → (Int → Option R) → Option R
  | 0, _, _, _ => none
  | n + 1, p0, p1, k =>
    G24 cp n p0 (fun r64 => cond (!decide (r64 = 0)) (k r64) (G40 cp n p1 (fun r65 => cond (!r65) (k 2) (k 0))))
/-! slices.Clone[[]tideway/api.Span,tideway/api.Span] -/
def G27 (cp : CP) : Nat → (List SSpan) → ((List SSpan) → Option R) → Option R
  | 0, _, _ => none
  | n + 1, p0, k => cond (cp (0 + p0.length) 16) (k p0) none
/-! tideway/span.Add -/
def s23_1 (cp : CP) (n : Nat) (p0 : (List SSpan)) (p1 : SSpan) (kn : Option R) (kr : (List SSpan) → Int → Option R) : Option R :=
  G39 cp n p0 p1 (fun r71 => cond (!decide (r71 = 0)) (kr [] r71) (cond (decide (p1.xFrom = p1.xTo)) (G27 cp n p0 (fun r72 => kr r72 0)) (kn)))
def s23_4 (cp : CP) (n : Nat) (p0 : (List SSpan)) (p1 : SSpan) (v75 : (List SSpan)) (v76 : Int) (kn : (List SSpan) → Int → Option R) (ke0 : Option R) : Option R :=
  cond (decide (v76 < (p0.length : Int))) (cond (decide (0 ≤ v76)) (cond (decide (v76 < (p0.length : Int))) (cond (decide (((p0.getD (Int.toNat v76) zSpan).xTo) < p1.xFrom)) (cond (decide (0 ≤ v76)) (cond (decide (v76 < (p0.length : Int))) (cond (cp (v75.length + [(p0.getD (Int.toNat v76) zSpan)].length) 16) (kn (v75 ++ [(p0.getD (Int.toNat v76) zSpan)]) (wr .i64 (v76 + 1))) (none)) (none)) (none)) (ke0)) (none)) (none)) (ke0)
def l23_8 (cp : CP) (n : Nat) : Nat → (List SSpan) → SSpan → (List SSpan) → Int → ((List SSpan) → Int → Option R) → Option R
  | 0, _, _, _, _, _ => none
  | m + 1, p0, p1, v75, v76, ke0 =>
    s23_4 cp n p0 p1 v75 v76 (fun v77 v78 => l23_8 cp n m p0 p1 v77 v78 ke0) (ke0 v75 v76)
def s23_9 (cp : CP) (n : Nat) (p0 : (List SSpan)) (p1 : SSpan) (ke0 : (List SSpan) → Int → Option R) : Option R :=
  l23_8 cp n n p0 p1 [] 0 ke0
def s23_11 (cp : CP) (n : Nat) (p0 : (List SSpan)) (p1 : SSpan) (kn : (List SSpan) → Int → Option R) : Option R :=
  s23_9 cp n p0 p1 (fun v79 v80 => (kn v79 v80))
def s23_12 (cp : CP) (n : Nat) (p0 v81 : (List SSpan)) (v83 v84 v85 : Int) (kn : Int → Int → Int → Option R) (ke2 : Option R) : Option R :=
  cond (decide (v83 < (p0.length : Int))) (cond (decide (0 ≤ v83)) (cond (decide (v83 < (p0.length : Int))) (cond (decide (((p0.getD (Int.toNat v83) zSpan).xFrom) ≤ v85)) (cond (decide (0 ≤ v83)) (cond (decide (v83 < (p0.length : Int))) (cond (decide (0 ≤ v83)) (cond (decide (v83 < (p0.length : Int))) (kn (wr .i64 (v83 + 1)) (mn v84 ((p0.getD (Int.toNat v83) zSpan).xFrom)) (mx v85 ((p0.getD (Int.toNat v83) zSpan).xTo))) (none)) (none)) (none)) (none)) (ke2)) (none)) (none)) (ke2)
def l23_16 (cp : CP) (n : Nat) : Nat → (List SSpan) → (List SSpan) → Int → Int → Int → (Int → Int → Int → Option R) → Option R
  | 0, _, _, _, _, _, _ => none
  | m + 1, p0, v81, v83, v84, v85, ke2 =>
    s23_12 cp n p0 v81 v83 v84 v85 (fun v86 v87 v88 => l23_16 cp n m p0 v81 v86 v87 v88 ke2) (ke2 v83 v84 v85)
def s23_17 (cp : CP) (n : Nat) (p0 : (List SSpan)) (p1 : SSpan) (v81 : (List SSpan)) (v82 : Int) (ke2 : Int → Int → Int → Option R) : Option R :=
  l23_16 cp n n p0 v81 v82 p1.xFrom p1.xTo ke2
def s23_19 (cp : CP) (n : Nat) (p0 : (List SSpan)) (p1 : SSpan) (v81 : (List SSpan)) (v82 : Int) (kn : Int → Int → Int → Option R) : Option R :=
  s23_17 cp n p0 p1 v81 v82 (fun v89 v90 v91 => (kn v89 v90 v91))
def s23_20 (cp : CP) (n : Nat) (p0 v81 : (List SSpan)) (v92 v93 v94 : Int) (kr : (List SSpan) → Option R) : Option R :=
  cond (cp (v81.length + [(SSpan.mk v93 v94)].length) 16) (cond (decide (0 ≤ v92)) (cond (decide (v92 ≤ (p0.length : Int))) (cond (cp ((v81 ++ [(SSpan.mk v93 v94)]).length + (List.take (p0.length - (Int.toNat v92)) (p0.drop (Int.toNat v92))).length) 16) (kr ((v81 ++ [(SSpan.mk v93 v94)]) ++ (List.take (p0.length - (Int.toNat v92)) (p0.drop (Int.toNat v92))))) (none)) (none)) (none)) (none)
def s23_23 (cp : CP) (n : Nat) (p0 : (List SSpan)) (p1 : SSpan) (v81 : (List SSpan)) (v82 : Int) (kr : (List SSpan) → Option R) : Option R :=
  s23_19 cp n p0 p1 v81 v82 (fun v92 v93 v94 => s23_20 cp n p0 v81 v92 v93 v94 (fun v95 => (kr v95)))
def s23_25 (cp : CP) (n : Nat) (p0 : (List SSpan)) (p1 : SSpan) (kr : (List SSpan) → Option R) : Option R :=
  s23_11 cp n p0 p1 (fun v81 v82 => s23_23 cp n p0 p1 v81 v82 (fun v96 => (kr v96)))
def s23_27 (cp : CP) (n : Nat) (p0 : (List SSpan)) (p1 : SSpan) (kr : (List SSpan) → Int → Option R) : Option R :=
  s23_1 cp n p0 p1 (s23_25 cp n p0 p1 (fun v97 => (kr v97 0))) (fun v73 v74 => (kr v73 v74))
def G23 (cp : CP) : Nat → (List SSpan) → SSpan → ((List SSpan) → Int → Option R) → Option R
  | 0, _, _, _ => none
  | n + 1, p0, p1, k =>
    s23_27 cp n p0 p1 (fun v98 v99 => k v98 v99)
/-! tideway/ack.Weigh -/
def s7_1 (cp : CP) (n : Nat) (p0 : SAsked) (p1 : SSegment) (kn : Int → SHeard → Option R) (kr : Option R) : Option R :=
  G19 cp n p0 p1 (fun r16 r17 => cond (!r17) (kr) (cond (p0.xStamps) (kn r16 (SHeard.mk true (mx r16 p0.xUna) (decide (r16 < p0.xUna)) p0.xPeer p1.xWin p1.xVal 0 false [])) (kn r16 (SHeard.mk true (mx r16 p0.xUna) (decide (r16 < p0.xUna)) p0.xPeer p1.xWin 0 0 false []))))
def s7_4 (cp : CP) (n : Nat) (p0 : SAsked) (p1 : SSegment) (v18 : Int) (v19 : SHeard) (kn : (List SSpan) → SAsked → Int → Option R) (kr : Int → Option R) : Option R :=
  cond (p0.xStamps) (cond (decide (p0.xUna < v18)) (G13 cp n p1.xEcr p0.xNow (fun r22 => cond (!p0.xSacks) (kr (mx 0 r22)) (G1007 cp n p1.xSacks p0 (fun r44 r45 => kn r44 r45 (mx 0 r22))))) (cond (!p0.xSacks) (kr v19.xRtt) (G1007 cp n p1.xSacks p0 (fun r46 r47 => kn r46 r47 v19.xRtt)))) (cond (!p0.xSacks) (kr v19.xRtt) (G1007 cp n p1.xSacks p0 (fun r48 r49 => kn r48 r49 v19.xRtt)))
def s7_7 (cp : CP) (n : Nat) (v18 : Int) (v19 : SHeard) (v50 : (List SSpan)) (v51 : SAsked) (v52 : Int) (kn : Bool → Option R) : Option R :=
  G22 cp n v50 v18 (fun r55 => kn r55)
def s7_9 (cp : CP) (n : Nat) (v19 : SHeard) (v50 : (List SSpan)) (v51 : SAsked) (v52 : Int) (v56 : Bool) (kn : Int → Option R) : Option R :=
  kn (v50.length : Int)
def s7_11 (cp : CP) (n : Nat) (v19 : SHeard) (v50 : (List SSpan)) (v51 : SAsked) (v52 : Int) (v56 : Bool) (v57 v58 : Int) (v59 : (List SSpan)) (kn : Int → (List SSpan) → Option R) (ke0 : Option R) : Option R :=
  cond (decide (v58 < v57)) (cond (decide (0 ≤ v58)) (cond (decide (v58 < (v50.length : Int))) (cond (decide (v58 = 0)) (cond (v56) (kn (wr .i64 (v58 + 1)) v59) (cond (decide (((v50.getD (Int.toNat v58) zSpan).xFrom) < v19.xAck)) (kn (wr .i64 (v58 + 1)) v59) (cond (decide (((v50.getD (Int.toNat v58) zSpan).xTo) ≤ ((v50.getD (Int.toNat v58) zSpan).xFrom))) (kn (wr .i64 (v58 + 1)) v59) (cond (decide ((mn v51.xNext 1125899906842624) < ((v50.getD (Int.toNat v58) zSpan).xTo))) (kn (wr .i64 (v58 + 1)) v59) (G23 cp n v59 (v50.getD (Int.toNat v58) zSpan) (fun r60 r61 => kn (wr .i64 (v58 + 1)) r60)))))) (cond (decide (((v50.getD (Int.toNat v58) zSpan).xFrom) < v19.xAck)) (kn (wr .i64 (v58 + 1)) v59) (cond (decide (((v50.getD (Int.toNat v58) zSpan).xTo) ≤ ((v50.getD (Int.toNat v58) zSpan).xFrom))) (kn (wr .i64 (v58 + 1)) v59) (cond (decide ((mn v51.xNext 1125899906842624) < ((v50.getD (Int.toNat v58) zSpan).xTo))) (kn (wr .i64 (v58 + 1)) v59) (G23 cp n v59 (v50.getD (Int.toNat v58) zSpan) (fun r62 r63 => kn (wr .i64 (v58 + 1)) r62)))))) (none)) (none)) (ke0)
def l7_16 (cp : CP) (n : Nat) : Nat → SHeard → (List SSpan) → SAsked → Int → Bool → Int → Int → (List SSpan) → ((List SSpan) → Option R) → Option R
  | 0, _, _, _, _, _, _, _, _, _ => none
  | m + 1, v19, v50, v51, v52, v56, v57, v58, v59, ke0 =>
    s7_11 cp n v19 v50 v51 v52 v56 v57 v58 v59 (fun v64 v65 => l7_16 cp n m v19 v50 v51 v52 v56 v57 v64 v65 ke0) (ke0 v59)
def s7_17 (cp : CP) (n : Nat) (v19 : SHeard) (v50 : (List SSpan)) (v51 : SAsked) (v52 : Int) (v56 : Bool) (v57 : Int) (ke0 : (List SSpan) → Option R) : Option R :=
  l7_16 cp n n v19 v50 v51 v52 v56 v57 0 v19.xSpans ke0
def s7_19 (cp : CP) (n : Nat) (v19 : SHeard) (v50 : (List SSpan)) (v51 : SAsked) (v52 : Int) (v56 : Bool) (v57 : Int) (kn : (List SSpan) → Option R) : Option R :=
  s7_17 cp n v19 v50 v51 v52 v56 v57 (fun v66 => (kn v66))
def s7_21 (cp : CP) (n : Nat) (v19 : SHeard) (v50 : (List SSpan)) (v51 : SAsked) (v52 : Int) (v56 : Bool) (kn : (List SSpan) → Option R) : Option R :=
  s7_9 cp n v19 v50 v51 v52 v56 (fun v57 => s7_19 cp n v19 v50 v51 v52 v56 v57 (fun v67 => (kn v67)))
def s7_22 (cp : CP) (n : Nat) (v19 : SHeard) (v52 : Int) (v56 : Bool) (v68 : (List SSpan)) (kr : Option R) : Option R :=
  kr
def s7_25 (cp : CP) (n : Nat) (v19 : SHeard) (v50 : (List SSpan)) (v51 : SAsked) (v52 : Int) (v56 : Bool) (kr : (List SSpan) → Option R) : Option R :=
  s7_21 cp n v19 v50 v51 v52 v56 (fun v68 => s7_22 cp n v19 v52 v56 v68 (kr v68))
def s7_27 (cp : CP) (n : Nat) (v18 : Int) (v19 : SHeard) (v50 : (List SSpan)) (v51 : SAsked) (v52 : Int) (kr : Bool → (List SSpan) → Option R) : Option R :=
  s7_7 cp n v18 v19 v50 v51 v52 (fun v56 => s7_25 cp n v19 v50 v51 v52 v56 (fun v69 => (kr v56 v69)))
def s7_29 (cp : CP) (n : Nat) (p0 : SAsked) (p1 : SSegment) (v18 : Int) (v19 : SHeard) (kr : SHeard → Option R) : Option R :=
  s7_4 cp n p0 p1 v18 v19 (fun v50 v51 v52 => s7_27 cp n v18 v19 v50 v51 v52 (fun v70 v71 => (kr (SHeard.mk v19.xCounts v19.xAck v19.xOld v19.xAt v19.xWin v19.xRecent v52 v70 v71)))) (fun v53 => (kr (SHeard.mk v19.xCounts v19.xAck v19.xOld v19.xAt v19.xWin v19.xRecent v53 v19.xTwice v19.xSpans)))
def s7_31 (cp : CP) (n : Nat) (p0 : SAsked) (p1 : SSegment) (kr : SHeard → Option R) : Option R :=
  s7_1 cp n p0 p1 (fun v18 v19 => s7_29 cp n p0 p1 v18 v19 (fun v72 => (kr v72))) (kr (SHeard.mk false 0 false 0 0 0 0 false []))
def G7 (cp : CP) : Nat → SAsked → SSegment → (SHeard → Option R) → Option R
  | 0, _, _, _ => none
  | n + 1, p0, p1, k =>
    s7_31 cp n p0 p1 (fun v73 => k v73)
/-! tideway/tidewaylaw22.heads -/
def G4 (cp : CP) : Nat → (Bool → Option R) → Option R
  | 0, _ => none
  | n + 1, k =>
    G7 cp n (SAsked.mk 5 10 100 0 0 false 0 0 true) (SSegment.mk 0 0 0 107 16 0 0 0 0 false false 0 0 [(SBlock.mk 108 110)] []) (fun r74 => G7 cp n (SAsked.mk 5 10 100 0 0 false 0 0 true) (SSegment.mk 0 0 0 111 16 0 0 0 0 false false 0 0 [] []) (fun r75 => G7 cp n (SAsked.mk 5 10 100 0 0 false 0 0 true) (SSegment.mk 0 0 0 107 0 0 0 0 0 false false 0 0 [] []) (fun r76 => cond (r74.xCounts) (cond (decide (r74.xAck = 7)) (cond (decide ((r74.xSpans.length : Int) = 1)) (cond (decide (0 < (r74.xSpans.length : Int))) (cond ((decide ((r74.xSpans.getD 0 zSpan).xFrom = 8) && (decide ((r74.xSpans.getD 0 zSpan).xTo = 10) && true))) (cond (!r75.xCounts) (k (!r76.xCounts)) (k false)) (k false)) (none)) (k false)) (k false)) (k false))))
/-! tideway/recv.window -/
def G9 (cp : CP) : Nat → SRecv → (Int → Option R) → Option R
  | 0, _, _ => none
  | n + 1, p0, k =>
    cond (decide (p0.xShift < 0)) (none) (cond (decide (p0.xShift < 0)) (none) (k (shl .i64 (mn (shr .i64 (wr .i64 (p0.xCap - (p0.xUnread.length : Int))) p0.xShift) 65535) p0.xShift)))
/-! tideway/recv.New -/
def G5 (cp : CP) : Nat → Int → Int → Int → Int → Bool → Bool → (SRecv → Int → Option R) → Option R
  | 0, _, _, _, _, _, _, _ => none
  | n + 1, p0, p1, p2, p3, p4, p5, k =>
    cond (decide (p0 < 1)) (k (SRecv.mk 0 [] [] 0 0 0 0 false false 0 false [] 0 0 false) 2) (cond (decide (1073741824 < p0)) (k (SRecv.mk 0 [] [] 0 0 0 0 false false 0 false [] 0 0 false) 2) (cond (decide (p1 < 0)) (k (SRecv.mk 0 [] [] 0 0 0 0 false false 0 false [] 0 0 false) 2) (cond (decide (14 < p1)) (k (SRecv.mk 0 [] [] 0 0 0 0 false false 0 false [] 0 0 false) 2) (G9 cp n (SRecv.mk 0 [] [] p0 p1 0 0 p4 p5 (-1) false [] p2 p3 false) (fun r81 => k (SRecv.mk 0 [] [] p0 p1 r81 0 p4 p5 (-1) false [] p2 p3 false) 0)))))
/-! tideway/recv.reach -/
def G25 (cp : CP) : Nat → SRecv → (Int → Option R) → Option R
  | 0, _, _ => none
  | n + 1, p0, k =>
    k (wr .i64 ((wr .i64 (p0.xNext - (p0.xUnread.length : Int))) + p0.xCap))
/-! tideway/recv.limit -/
def G31 (cp : CP) : Nat → SRecv → (Int → Option R) → Option R
  | 0, _, _ => none
  | n + 1, p0, k =>
    G25 cp n p0 (fun r97 => k (mn r97 562949953421312))
/-! tideway/recv.late -/
def G30 (cp : CP) : Nat → SRecv → (SRecv → Option R) → Option R
  | 0, _, _ => none
  | n + 1, p0, k =>
    k p0
/-! tideway/recv.of -/
def G42 (cp : CP) : Nat → SPiece → (SSpan → Option R) → Option R
  | 0, _, _ => none
  | n + 1, p0, k =>
    k (SSpan.mk p0.xFrom (wr .i64 (p0.xFrom + (p0.xData.length : Int))))
/-! slices.AppendSeq[[]tideway/api.Span,tideway/api.Span] -/
def s1024_1 (cp : CP) (n : Nat) (p0 : (List SSpan)) (q0 : SRecv) (kn : Option R) : Option R :=
  kn
def s1024_3 (cp : CP) (n : Nat) (p0 : (List SSpan)) (q0 : SRecv) (kn : Option R) : Option R :=
  kn
def s1024_7 (cp : CP) (n : Nat) (p0 : (List SSpan)) (q0 : SRecv) (kn : Int → Option R) : Option R :=
  kn (q0.xLate.length : Int)
def s1024_9 (cp : CP) (n : Nat) (q0 : SRecv) (v103 v104 : Int) (v105 : (List SSpan)) (kn : Option R) (ke0 : Option R) : Option R :=
  cond (decide (v104 < v103)) (kn) (ke0)
def s1024_12 (cp : CP) (n : Nat) (q0 : SRecv) (v103 v104 : Int) (v105 : (List SSpan)) (kn : Int → (List Int) → Option R) : Option R :=
  cond (decide (0 ≤ v104)) (cond (decide (v104 < (q0.xLate.length : Int))) (kn ((q0.xLate.getD (Int.toNat v104) zPiece).xFrom) ((q0.xLate.getD (Int.toNat v104) zPiece).xData)) (none)) (none)
def s1024_14 (cp : CP) (n : Nat) (q0 : SRecv) (v103 v104 : Int) (v105 : (List SSpan)) (v106 : Int) (v107 : (List Int)) (ka : Int → Int → Option R) : Option R :=
  G42 cp n (SPiece.mk v106 v107) (fun r108 => ka r108.xFrom r108.xTo)
def s1024_16 (cp : CP) (n : Nat) (q0 : SRecv) (v105 : (List SSpan)) (v106 : Int) (v107 : (List Int)) (v109 v110 : Int) (kn : (List SSpan) → Option R) : Option R :=
  cond (cp (v105.length + [(SSpan.mk v109 v110)].length) 16) (kn (v105 ++ [(SSpan.mk v109 v110)])) (none)
def s1024_22 (cp : CP) (n : Nat) (q0 : SRecv) (v103 v104 : Int) (v105 : (List SSpan)) (v106 : Int) (v107 : (List Int)) (kn : (List SSpan) → Option R) : Option R :=
  s1024_14 cp n q0 v103 v104 v105 v106 v107 (fun v109 v110 => s1024_16 cp n q0 v105 v106 v107 v109 v110 (fun v111 => kn v111))
def s1024_23 (cp : CP) (n : Nat) (q0 : SRecv) (v103 v104 : Int) (v112 : (List SSpan)) (kn : Option R) : Option R :=
  kn
def s1024_26 (cp : CP) (n : Nat) (q0 : SRecv) (v103 v104 : Int) (v105 : (List SSpan)) (v106 : Int) (v107 : (List Int)) (kn : (List SSpan) → Option R) : Option R :=
  s1024_22 cp n q0 v103 v104 v105 v106 v107 (fun v112 => s1024_23 cp n q0 v103 v104 v112 (kn v112))
def s1024_28 (cp : CP) (n : Nat) (q0 : SRecv) (v103 v104 : Int) (v105 : (List SSpan)) (kn : (List SSpan) → Option R) : Option R :=
  s1024_12 cp n q0 v103 v104 v105 (fun v106 v107 => s1024_26 cp n q0 v103 v104 v105 v106 v107 (fun v113 => (kn v113)))
def s1024_30 (cp : CP) (n : Nat) (q0 : SRecv) (v103 v104 : Int) (v105 : (List SSpan)) (kn : (List SSpan) → Option R) : Option R :=
  s1024_28 cp n q0 v103 v104 v105 (fun v114 => (kn v114))
def s1024_31 (cp : CP) (n : Nat) (q0 : SRecv) (v103 v104 : Int) (v115 : (List SSpan)) (kn : Int → Option R) : Option R :=
  kn (wr .i64 (v104 + 1))
def s1024_34 (cp : CP) (n : Nat) (q0 : SRecv) (v103 v104 : Int) (v105 : (List SSpan)) (kn : Int → (List SSpan) → Option R) : Option R :=
  s1024_30 cp n q0 v103 v104 v105 (fun v115 => s1024_31 cp n q0 v103 v104 v115 (fun v116 => (kn v116 v115)))
def s1024_36 (cp : CP) (n : Nat) (q0 : SRecv) (v103 v104 : Int) (v105 : (List SSpan)) (kn : Int → (List SSpan) → Option R) (ke0 : Option R) : Option R :=
  s1024_9 cp n q0 v103 v104 v105 (s1024_34 cp n q0 v103 v104 v105 (fun v117 v118 => (kn v117 v118))) ke0
def l1024_38 (cp : CP) (n : Nat) : Nat → SRecv → Int → Int → (List SSpan) → ((List SSpan) → Option R) → Option R
  | 0, _, _, _, _, _ => none
  | m + 1, q0, v103, v104, v105, ke0 =>
    s1024_36 cp n q0 v103 v104 v105 (fun v119 v120 => l1024_38 cp n m q0 v103 v119 v120 ke0) (ke0 v105)
def s1024_39 (cp : CP) (n : Nat) (p0 : (List SSpan)) (q0 : SRecv) (v103 : Int) (ke0 : (List SSpan) → Option R) : Option R :=
  l1024_38 cp n n q0 v103 0 p0 ke0
def s1024_41 (cp : CP) (n : Nat) (p0 : (List SSpan)) (q0 : SRecv) (v103 : Int) (kn : (List SSpan) → Option R) : Option R :=
  s1024_39 cp n p0 q0 v103 (fun v121 => (kn v121))
def s1024_43 (cp : CP) (n : Nat) (p0 : (List SSpan)) (q0 : SRecv) (kn : (List SSpan) → Option R) : Option R :=
  s1024_7 cp n p0 q0 (fun v103 => s1024_41 cp n p0 q0 v103 (fun v122 => (kn v122)))
def s1024_46 (cp : CP) (n : Nat) (p0 : (List SSpan)) (q0 : SRecv) (kn : (List SSpan) → Option R) : Option R :=
  s1024_43 cp n p0 q0 (fun v123 => (kn v123))
def s1024_48 (cp : CP) (n : Nat) (p0 : (List SSpan)) (q0 : SRecv) (kn : (List SSpan) → Option R) : Option R :=
  s1024_46 cp n p0 q0 (fun v124 => (kn v124))
def s1024_50 (cp : CP) (n : Nat) (p0 : (List SSpan)) (q0 : SRecv) (kn : (List SSpan) → Option R) : Option R :=
  s1024_3 cp n p0 q0 (s1024_48 cp n p0 q0 (fun v125 => (kn v125)))
def s1024_51 (cp : CP) (n : Nat) (q0 : SRecv) (v126 : (List SSpan)) (kr : Option R) : Option R :=
  kr
def s1024_54 (cp : CP) (n : Nat) (p0 : (List SSpan)) (q0 : SRecv) (kr : (List SSpan) → Option R) : Option R :=
  s1024_50 cp n p0 q0 (fun v126 => s1024_51 cp n q0 v126 (kr v126))
def s1024_56 (cp : CP) (n : Nat) (p0 : (List SSpan)) (q0 : SRecv) (kr : (List SSpan) → Option R) : Option R :=
  s1024_1 cp n p0 q0 (s1024_54 cp n p0 q0 (fun v127 => (kr v127)))
def G1024 (cp : CP) : Nat → (List SSpan) → SRecv → ((List SSpan) → SRecv → Option R) → Option R
  | 0, _, _, _ => none
  | n + 1, p0, q0, k =>
    s1024_56 cp n p0 q0 (fun v128 => k v128 q0)
/-! slices.Collect[tideway/api.Span] -/
def G1023 (cp : CP) : Nat → SRecv → ((List SSpan) → SRecv → Option R) → Option R
  | 0, _, _ => none
  | n + 1, q0, k =>
    G1024 cp n [] q0 (fun r129 r130 => k r129 r130)
/-! slices.Index[[]tideway/api.Span,tideway/api.Span] -/
def s50_1 (cp : CP) (n : Nat) (p0 : (List SSpan)) (p1 : SSpan) (kn : Option R) : Option R :=
  kn
def s50_3 (cp : CP) (n : Nat) (p0 : (List SSpan)) (p1 : SSpan) (kn : Int → Option R) : Option R :=
  kn (p0.length : Int)
def s50_5 (cp : CP) (n : Nat) (p0 : (List SSpan)) (p1 : SSpan) (v135 v136 : Int) (kn : Int → Option R) (kr : Option R) (ke0 : Option R) : Option R :=
  cond (decide (v136 < v135)) (cond (decide (0 ≤ v136)) (cond (decide (v136 < (p0.length : Int))) (cond ((decide (p1.xFrom = (p0.getD (Int.toNat v136) zSpan).xFrom) && (decide (p1.xTo = (p0.getD (Int.toNat v136) zSpan).xTo) && true))) (kr) (kn (wr .i64 (v136 + 1)))) (none)) (none)) (ke0)
def l50_11 (cp : CP) (n : Nat) : Nat → (List SSpan) → SSpan → Int → Int → (Int → Option R) → (Option R) → Option R
  | 0, _, _, _, _, _, _ => none
  | m + 1, p0, p1, v135, v136, kr, ke0 =>
    s50_5 cp n p0 p1 v135 v136 (fun v137 => l50_11 cp n m p0 p1 v135 v137 kr ke0) (kr v136) ke0
def s50_12 (cp : CP) (n : Nat) (p0 : (List SSpan)) (p1 : SSpan) (v135 : Int) (kr : Int → Option R) (ke0 : Option R) : Option R :=
  l50_11 cp n n p0 p1 v135 0 kr ke0
def s50_14 (cp : CP) (n : Nat) (p0 : (List SSpan)) (p1 : SSpan) (v135 : Int) (kn : Option R) (kr : Int → Option R) : Option R :=
  s50_12 cp n p0 p1 v135 (fun v138 => (kr v138)) kn
def s50_16 (cp : CP) (n : Nat) (p0 : (List SSpan)) (p1 : SSpan) (kn : Option R) (kr : Int → Option R) : Option R :=
  s50_3 cp n p0 p1 (fun v135 => s50_14 cp n p0 p1 v135 kn (fun v139 => (kr v139)))
def s50_17 (cp : CP) (n : Nat) (kr : Option R) : Option R :=
  kr
def s50_20 (cp : CP) (n : Nat) (p0 : (List SSpan)) (p1 : SSpan) (kr : Int → Option R) : Option R :=
  s50_16 cp n p0 p1 (s50_17 cp n (kr (-1))) (fun v140 => (kr v140))
def s50_22 (cp : CP) (n : Nat) (p0 : (List SSpan)) (p1 : SSpan) (kr : Int → Option R) : Option R :=
  s50_1 cp n p0 p1 (s50_20 cp n p0 p1 (fun v141 => (kr v141)))
def G50 (cp : CP) : Nat → (List SSpan) → SSpan → (Int → Option R) → Option R
  | 0, _, _, _ => none
  | n + 1, p0, p1, k =>
    s50_22 cp n p0 p1 (fun v142 => k v142)
/-! slices.Contains[[]tideway/api.Span,tideway/api.Span] -/
def G38 (cp : CP) : Nat → (List SSpan) → SSpan → (Bool → Option R) → Option R
  | 0, _, _, _ => none
  | n + 1, p0, p1, k =>
    G50 cp n p0 p1 (fun r143 => k (decide (0 ≤ r143)))
/-! tideway/recv.pieces -/
def s26_1 (cp : CP) (n : Nat) (p0 : SRecv) (kn : Option R) : Option R :=
  kn
def s26_3 (cp : CP) (n : Nat) (p0 : SRecv) (kn : Int → Option R) : Option R :=
  kn (p0.xLate.length : Int)
def s26_5 (cp : CP) (n : Nat) (p0 : SRecv) (v96 v97 v98 : Int) (kn : Int → Int → Option R) (kr : Option R) (ke0 : Option R) : Option R :=
  cond (decide (v98 < v96)) (cond (decide (0 ≤ v98)) (cond (decide (v98 < (p0.xLate.length : Int))) (cond (decide ((((p0.xLate.getD (Int.toNat v98) zPiece).xData).length : Int) = 0)) (kr) (cond (decide (((p0.xLate.getD (Int.toNat v98) zPiece).xFrom) ≤ v97)) (kr) (G31 cp n p0 (fun r99 => cond (decide ((wr .i64 (r99 - (((p0.xLate.getD (Int.toNat v98) zPiece).xData).length : Int))) < ((p0.xLate.getD (Int.toNat v98) zPiece).xFrom))) (kr) (cond (decide (0 ≤ p0.xFin)) (cond (decide ((wr .i64 (p0.xFin - (((p0.xLate.getD (Int.toNat v98) zPiece).xData).length : Int))) < ((p0.xLate.getD (Int.toNat v98) zPiece).xFrom))) (kr) (kn (wr .i64 (((p0.xLate.getD (Int.toNat v98) zPiece).xFrom) + (((p0.xLate.getD (Int.toNat v98) zPiece).xData).length : Int))) (wr .i64 (v98 + 1)))) (kn (wr .i64 (((p0.xLate.getD (Int.toNat v98) zPiece).xFrom) + (((p0.xLate.getD (Int.toNat v98) zPiece).xData).length : Int))) (wr .i64 (v98 + 1)))))))) (none)) (none)) (ke0)
def l26_10 (cp : CP) (n : Nat) : Nat → SRecv → Int → Int → Int → (Option R) → (Option R) → Option R
  | 0, _, _, _, _, _, _ => none
  | m + 1, p0, v96, v97, v98, kr, ke0 =>
    s26_5 cp n p0 v96 v97 v98 (fun v100 v101 => l26_10 cp n m p0 v96 v100 v101 kr ke0) kr ke0
def s26_11 (cp : CP) (n : Nat) (p0 : SRecv) (v96 : Int) (kr : Option R) (ke0 : Option R) : Option R :=
  l26_10 cp n n p0 v96 p0.xNext 0 kr ke0
def s26_12 (cp : CP) (n : Nat) (p0 : SRecv) (v96 : Int) (kn : Option R) (kr : Option R) : Option R :=
  s26_11 cp n p0 v96 kr kn
def s26_13 (cp : CP) (n : Nat) (p0 : SRecv) (kn : Option R) (kr : Option R) : Option R :=
  s26_3 cp n p0 (fun v96 => s26_12 cp n p0 v96 kn kr)
def s26_14 (cp : CP) (n : Nat) (p0 : SRecv) (kn : (List SSpan) → Option R) : Option R :=
  G30 cp n p0 (fun r102 => G1023 cp n r102 (fun r131 r132 => kn r131))
def s26_16 (cp : CP) (n : Nat) (p0 : SRecv) (v133 : (List SSpan)) (kn : Int → Option R) : Option R :=
  kn (p0.xFirst.length : Int)
def s26_18 (cp : CP) (n : Nat) (p0 : SRecv) (v133 : (List SSpan)) (v134 v135 : Int) (kn : Int → Option R) (kr : Option R) (ke2 : Option R) : Option R :=
  cond (decide (v135 < v134)) (cond (decide (0 ≤ v135)) (cond (decide (v135 < (p0.xFirst.length : Int))) (G38 cp n v133 (p0.xFirst.getD (Int.toNat v135) zSpan) (fun r136 => cond (!r136) (kr) (cond (decide (0 ≤ v135)) (cond (decide (v135 ≤ (p0.xFirst.length : Int))) (G38 cp n (p0.xFirst.take (Int.toNat v135)) (p0.xFirst.getD (Int.toNat v135) zSpan) (fun r137 => cond (r137) (kr) (kn (wr .i64 (v135 + 1))))) (none)) (none)))) (none)) (none)) (ke2)
def l26_22 (cp : CP) (n : Nat) : Nat → SRecv → (List SSpan) → Int → Int → (Option R) → (Option R) → Option R
  | 0, _, _, _, _, _, _ => none
  | m + 1, p0, v133, v134, v135, kr, ke2 =>
    s26_18 cp n p0 v133 v134 v135 (fun v138 => l26_22 cp n m p0 v133 v134 v138 kr ke2) kr ke2
def s26_23 (cp : CP) (n : Nat) (p0 : SRecv) (v133 : (List SSpan)) (v134 : Int) (kr : Option R) (ke2 : Option R) : Option R :=
  l26_22 cp n n p0 v133 v134 0 kr ke2
def s26_24 (cp : CP) (n : Nat) (p0 : SRecv) (v133 : (List SSpan)) (v134 : Int) (kn : Option R) (kr : Option R) : Option R :=
  s26_23 cp n p0 v133 v134 kr kn
def s26_25 (cp : CP) (n : Nat) (p0 : SRecv) (v133 : (List SSpan)) (kn : Option R) (kr : Option R) : Option R :=
  s26_16 cp n p0 v133 (fun v134 => s26_24 cp n p0 v133 v134 kn kr)
def s26_26 (cp : CP) (n : Nat) (kr : Option R) : Option R :=
  kr
def s26_29 (cp : CP) (n : Nat) (p0 : SRecv) (v133 : (List SSpan)) (kr : Bool → Option R) : Option R :=
  s26_25 cp n p0 v133 (s26_26 cp n (kr true)) (kr false)
def s26_31 (cp : CP) (n : Nat) (p0 : SRecv) (kr : Bool → Option R) : Option R :=
  s26_14 cp n p0 (fun v133 => s26_29 cp n p0 v133 (fun v139 => (kr v139)))
def s26_33 (cp : CP) (n : Nat) (p0 : SRecv) (kr : Bool → Option R) : Option R :=
  s26_13 cp n p0 (s26_31 cp n p0 (fun v140 => (kr v140))) (kr false)
def s26_35 (cp : CP) (n : Nat) (p0 : SRecv) (kr : Bool → Option R) : Option R :=
  s26_1 cp n p0 (s26_33 cp n p0 (fun v141 => (kr v141)))
def G26 (cp : CP) : Nat → SRecv → (Bool → Option R) → Option R
  | 0, _, _ => none
  | n + 1, p0, k =>
    s26_35 cp n p0 (fun v142 => k v142)
/-! tideway/recv.Check -/
def s10_1 (cp : CP) (n : Nat) (p0 : SRecv) (kn : Option R) : Option R :=
  kn
def s10_3 (cp : CP) (n : Nat) (p0 : SRecv) (kn : Option R) (kr : Option R) : Option R :=
  cond (decide (0 ≤ p0.xNext)) (cond (decide (p0.xNext ≤ 562949953421312)) (cond (decide (1 ≤ p0.xCap)) (cond (decide (p0.xCap ≤ 1073741824)) (cond (decide (0 ≤ p0.xShift)) (cond (decide (p0.xShift ≤ 14)) (cond (!(decide ((p0.xUnread.length : Int) ≤ (mn p0.xCap p0.xNext)))) (kr) (cond (decide (p0.xEdge < 0)) (kr) (G25 cp n p0 (fun r95 => cond (decide (r95 < p0.xEdge)) (kr) (cond (decide (p0.xFin < (-1))) (kr) (cond (decide (0 ≤ p0.xFin)) (cond (decide (p0.xFin < p0.xNext)) (kr) (cond (decide (562949953421312 < p0.xFin)) (kr) (kn))) (cond (decide (562949953421312 < p0.xFin)) (kr) (kn)))))))) (kr)) (kr)) (kr)) (kr)) (kr)) (kr)
def s10_5 (cp : CP) (n : Nat) (p0 : SRecv) (kr : Int → Option R) : Option R :=
  G26 cp n p0 (fun r96 => cond (!r96) (kr 230) (cond (!(p0.xDone == (decide (p0.xFin = p0.xNext)))) (kr 230) (cond (p0.xDone) (cond (decide (0 < (p0.xLate.length : Int))) (kr 230) (kr 0)) (kr 0))))
def s10_8 (cp : CP) (n : Nat) (p0 : SRecv) (kr : Int → Option R) : Option R :=
  s10_3 cp n p0 (s10_5 cp n p0 (fun v97 => (kr v97))) (kr 230)
def s10_10 (cp : CP) (n : Nat) (p0 : SRecv) (kr : Int → Option R) : Option R :=
  s10_1 cp n p0 (s10_8 cp n p0 (fun v98 => (kr v98)))
def G10 (cp : CP) : Nat → SRecv → (Int → Option R) → Option R
  | 0, _, _ => none
  | n + 1, p0, k =>
    s10_10 cp n p0 (fun v99 => k v99)
/-! bytes.Clone -/
def G28 (cp : CP) : Nat → (List Int) → ((List Int) → Option R) → Option R
  | 0, _, _ => none
  | n + 1, p0, k => cond (cp (0 + p0.length) 1) (k p0) none
/-! tideway/recv.copied -/
def s11_1 (cp : CP) (n : Nat) (p0 : SRecv) (kn : (List Int) → (List SSpan) → Option R) : Option R :=
  cond (cp (([] : List Int).length + p0.xUnread.length) 1) (G27 cp n p0.xFirst (fun r103 => kn ([] ++ p0.xUnread) r103)) (none)
def s11_3 (cp : CP) (n : Nat) (p0 : SRecv) (v104 : (List Int)) (v105 : (List SSpan)) (kn : Int → Option R) : Option R :=
  kn (p0.xLate.length : Int)
def s11_5 (cp : CP) (n : Nat) (p0 : SRecv) (v104 : (List Int)) (v105 : (List SSpan)) (v106 v107 : Int) (v108 : (List SPiece)) (kn : Int → (List SPiece) → Option R) (ke0 : Option R) : Option R :=
  cond (decide (v107 < v106)) (cond (decide (0 ≤ v107)) (cond (decide (v107 < (p0.xLate.length : Int))) (G28 cp n ((p0.xLate.getD (Int.toNat v107) zPiece).xData) (fun r109 => cond (cp (v108.length + [(SPiece.mk ((p0.xLate.getD (Int.toNat v107) zPiece).xFrom) r109)].length) 32) (kn (wr .i64 (v107 + 1)) (v108 ++ [(SPiece.mk ((p0.xLate.getD (Int.toNat v107) zPiece).xFrom) r109)])) (none))) (none)) (none)) (ke0)
def l11_10 (cp : CP) (n : Nat) : Nat → SRecv → (List Int) → (List SSpan) → Int → Int → (List SPiece) → ((List SPiece) → Option R) → Option R
  | 0, _, _, _, _, _, _, _ => none
  | m + 1, p0, v104, v105, v106, v107, v108, ke0 =>
    s11_5 cp n p0 v104 v105 v106 v107 v108 (fun v110 v111 => l11_10 cp n m p0 v104 v105 v106 v110 v111 ke0) (ke0 v108)
def s11_11 (cp : CP) (n : Nat) (p0 : SRecv) (v104 : (List Int)) (v105 : (List SSpan)) (v106 : Int) (ke0 : (List SPiece) → Option R) : Option R :=
  l11_10 cp n n p0 v104 v105 v106 0 [] ke0
def s11_13 (cp : CP) (n : Nat) (p0 : SRecv) (v104 : (List Int)) (v105 : (List SSpan)) (v106 : Int) (kn : (List SPiece) → Option R) : Option R :=
  s11_11 cp n p0 v104 v105 v106 (fun v112 => (kn v112))
def s11_15 (cp : CP) (n : Nat) (p0 : SRecv) (v104 : (List Int)) (v105 : (List SSpan)) (kn : (List SPiece) → Option R) : Option R :=
  s11_3 cp n p0 v104 v105 (fun v106 => s11_13 cp n p0 v104 v105 v106 (fun v113 => (kn v113)))
def s11_16 (cp : CP) (n : Nat) (p0 : SRecv) (v104 : (List Int)) (v105 : (List SSpan)) (v114 : (List SPiece)) (kr : Option R) : Option R :=
  kr
def s11_19 (cp : CP) (n : Nat) (p0 : SRecv) (v104 : (List Int)) (v105 : (List SSpan)) (kr : (List SPiece) → Option R) : Option R :=
  s11_15 cp n p0 v104 v105 (fun v114 => s11_16 cp n p0 v104 v105 v114 (kr v114))
def s11_21 (cp : CP) (n : Nat) (p0 : SRecv) (kr : SRecv → Option R) : Option R :=
  s11_1 cp n p0 (fun v104 v105 => s11_19 cp n p0 v104 v105 (fun v115 => (kr (SRecv.mk p0.xNext v104 v115 p0.xCap p0.xShift p0.xEdge p0.xRecent p0.xStamps p0.xSacks p0.xFin p0.xDone v105 p0.xIrs p0.xOwn p0.xStamp))))
def G11 (cp : CP) : Nat → SRecv → (SRecv → Option R) → Option R
  | 0, _, _ => none
  | n + 1, p0, k =>
    s11_21 cp n p0 (fun v116 => k v116)
/-! tideway/seq.Add -/
def G18 (cp : CP) : Nat → Int → Int → (Int → Option R) → Option R
  | 0, _, _, _ => none
  | n + 1, p0, p1, k =>
    k (wr .u32 (p0 + (wr .u32 p1)))
/-! tideway/recv.tell -/
def s14_1 (cp : CP) (n : Nat) (p0 : SRecv) (p1 : (List SBlock)) (kn : Int → SSegment → Option R) : Option R :=
  cond (p0.xDone) (G18 cp n p0.xIrs (wr .i64 (p0.xNext + 1)) (fun r128 => G9 cp n p0 (fun r129 => cond (decide (p0.xShift < 0)) (none) (cond (p0.xStamps) (kn (wr .i64 (4 - 1)) (SSegment.mk 0 0 p0.xOwn r128 16 (shr .i64 r129 p0.xShift) 0 (-1) (-1) false true 0 p0.xRecent p1 [])) (kn 4 (SSegment.mk 0 0 p0.xOwn r128 16 (shr .i64 r129 p0.xShift) 0 (-1) (-1) false false 0 0 p1 [])))))) (G18 cp n p0.xIrs p0.xNext (fun r130 => G9 cp n p0 (fun r131 => cond (decide (p0.xShift < 0)) (none) (cond (p0.xStamps) (kn (wr .i64 (4 - 1)) (SSegment.mk 0 0 p0.xOwn r130 16 (shr .i64 r131 p0.xShift) 0 (-1) (-1) false true 0 p0.xRecent p1 [])) (kn 4 (SSegment.mk 0 0 p0.xOwn r130 16 (shr .i64 r131 p0.xShift) 0 (-1) (-1) false false 0 0 p1 []))))))
def s14_3 (cp : CP) (n : Nat) (p0 : SRecv) (v132 : Int) (v133 : SSegment) (kn : Int → Option R) : Option R :=
  kn (p0.xFirst.length : Int)
def s14_5 (cp : CP) (n : Nat) (p0 : SRecv) (v132 : Int) (v133 : SSegment) (v134 v135 : Int) (v136 : (List SBlock)) (kn : Int → (List SBlock) → Option R) (ke0 : Option R) : Option R :=
  cond (decide (v135 < v134)) (cond (decide (0 ≤ v135)) (cond (decide (v135 < (p0.xFirst.length : Int))) (cond (p0.xSacks) (cond (decide ((v136.length : Int) < v132)) (G18 cp n p0.xIrs ((p0.xFirst.getD (Int.toNat v135) zSpan).xFrom) (fun r137 => G18 cp n p0.xIrs ((p0.xFirst.getD (Int.toNat v135) zSpan).xTo) (fun r138 => cond (cp (v136.length + [(SBlock.mk r137 r138)].length) 8) (kn (wr .i64 (v135 + 1)) (v136 ++ [(SBlock.mk r137 r138)])) (none)))) (kn (wr .i64 (v135 + 1)) v136)) (kn (wr .i64 (v135 + 1)) v136)) (none)) (none)) (ke0)
def l14_10 (cp : CP) (n : Nat) : Nat → SRecv → Int → SSegment → Int → Int → (List SBlock) → ((List SBlock) → Option R) → Option R
  | 0, _, _, _, _, _, _, _ => none
  | m + 1, p0, v132, v133, v134, v135, v136, ke0 =>
    s14_5 cp n p0 v132 v133 v134 v135 v136 (fun v139 v140 => l14_10 cp n m p0 v132 v133 v134 v139 v140 ke0) (ke0 v136)
def s14_11 (cp : CP) (n : Nat) (p0 : SRecv) (v132 : Int) (v133 : SSegment) (v134 : Int) (ke0 : (List SBlock) → Option R) : Option R :=
  l14_10 cp n n p0 v132 v133 v134 0 v133.xSacks ke0
def s14_13 (cp : CP) (n : Nat) (p0 : SRecv) (v132 : Int) (v133 : SSegment) (v134 : Int) (kn : (List SBlock) → Option R) : Option R :=
  s14_11 cp n p0 v132 v133 v134 (fun v141 => (kn v141))
def s14_15 (cp : CP) (n : Nat) (p0 : SRecv) (v132 : Int) (v133 : SSegment) (kn : (List SBlock) → Option R) : Option R :=
  s14_3 cp n p0 v132 v133 (fun v134 => s14_13 cp n p0 v132 v133 v134 (fun v142 => (kn v142)))
def s14_16 (cp : CP) (n : Nat) (p0 : SRecv) (v133 : SSegment) (v143 : (List SBlock)) (kr : Int → Option R) : Option R :=
  G9 cp n p0 (fun r144 => kr (mx p0.xEdge (wr .i64 (p0.xNext + r144))))
def s14_19 (cp : CP) (n : Nat) (p0 : SRecv) (v132 : Int) (v133 : SSegment) (kr : Int → (List SBlock) → Option R) : Option R :=
  s14_15 cp n p0 v132 v133 (fun v143 => s14_16 cp n p0 v133 v143 (fun v145 => (kr v145 v143)))
def s14_21 (cp : CP) (n : Nat) (p0 : SRecv) (p1 : (List SBlock)) (kr : Int → SSegment → Option R) : Option R :=
  s14_1 cp n p0 p1 (fun v132 v133 => s14_19 cp n p0 v132 v133 (fun v146 v147 => (kr v146 (SSegment.mk v133.xSrcPort v133.xDstPort v133.xSeq v133.xAck v133.xFlags v133.xWin v133.xUrg v133.xMss v133.xScale v133.xSackOk v133.xStamped v133.xVal v133.xEcr v147 v133.xData))))
def G14 (cp : CP) : Nat → SRecv → (List SBlock) → (SRecv → SSegment → Option R) → Option R
  | 0, _, _, _ => none
  | n + 1, p0, p1, k =>
    s14_21 cp n p0 p1 (fun v148 v149 => k (SRecv.mk p0.xNext p0.xUnread p0.xLate p0.xCap p0.xShift v148 p0.xRecent p0.xStamps p0.xSacks p0.xFin p0.xDone p0.xFirst p0.xIrs p0.xOwn p0.xStamp) v149)
/-! tideway/recv.end -/
def s15_1 (cp : CP) (n : Nat) (p0 : SRecv) (p1 : Int) (kn : Option R) : Option R :=
  kn
def s15_3 (cp : CP) (n : Nat) (p0 : SRecv) (p1 : Int) (kn : SRecv → Option R) : Option R :=
  G30 cp n p0 (fun r111 => kn r111)
def s15_7 (cp : CP) (n : Nat) (p0 : SRecv) (p1 : Int) (v112 : SRecv) (kn : Int → Option R) : Option R :=
  kn (v112.xLate.length : Int)
def s15_9 (cp : CP) (n : Nat) (p0 : SRecv) (p1 : Int) (v112 : SRecv) (v113 v114 v115 : Int) (kn : Option R) (ke0 : Option R) : Option R :=
  cond (decide (v114 < v113)) (kn) (ke0)
def s15_12 (cp : CP) (n : Nat) (p0 : SRecv) (p1 : Int) (v112 : SRecv) (v113 v114 v115 : Int) (kn : Int → (List Int) → Option R) : Option R :=
  cond (decide (0 ≤ v114)) (cond (decide (v114 < (v112.xLate.length : Int))) (kn ((v112.xLate.getD (Int.toNat v114) zPiece).xFrom) ((v112.xLate.getD (Int.toNat v114) zPiece).xData)) (none)) (none)
def s15_14 (cp : CP) (n : Nat) (p0 : SRecv) (p1 : Int) (v112 : SRecv) (v113 v114 v115 v116 : Int) (v117 : (List Int)) (ka : Int → Int → Option R) : Option R :=
  G42 cp n (SPiece.mk v116 v117) (fun r118 => ka r118.xFrom r118.xTo)
def s15_16 (cp : CP) (n : Nat) (p0 : SRecv) (p1 : Int) (v112 : SRecv) (v115 v116 : Int) (v117 : (List Int)) (v119 v120 : Int) (kn : Option R) : Option R :=
  kn
def s15_22 (cp : CP) (n : Nat) (p0 : SRecv) (p1 : Int) (v112 : SRecv) (v113 v114 v115 v116 : Int) (v117 : (List Int)) (kn : Int → Option R) : Option R :=
  s15_14 cp n p0 p1 v112 v113 v114 v115 v116 v117 (fun v119 v120 => s15_16 cp n p0 p1 v112 v115 v116 v117 v119 v120 (kn v120))
def s15_23 (cp : CP) (n : Nat) (p0 : SRecv) (p1 : Int) (v112 : SRecv) (v113 v114 v121 : Int) (kn : Option R) : Option R :=
  kn
def s15_26 (cp : CP) (n : Nat) (p0 : SRecv) (p1 : Int) (v112 : SRecv) (v113 v114 v115 v116 : Int) (v117 : (List Int)) (kn : Int → Option R) : Option R :=
  s15_22 cp n p0 p1 v112 v113 v114 v115 v116 v117 (fun v121 => s15_23 cp n p0 p1 v112 v113 v114 v121 (kn v121))
def s15_28 (cp : CP) (n : Nat) (p0 : SRecv) (p1 : Int) (v112 : SRecv) (v113 v114 v115 : Int) (kn : Int → Option R) : Option R :=
  s15_12 cp n p0 p1 v112 v113 v114 v115 (fun v116 v117 => s15_26 cp n p0 p1 v112 v113 v114 v115 v116 v117 (fun v122 => (kn v122)))
def s15_30 (cp : CP) (n : Nat) (p0 : SRecv) (p1 : Int) (v112 : SRecv) (v113 v114 v115 : Int) (kn : Int → Option R) : Option R :=
  s15_28 cp n p0 p1 v112 v113 v114 v115 (fun v123 => (kn v123))
def s15_31 (cp : CP) (n : Nat) (p0 : SRecv) (p1 : Int) (v112 : SRecv) (v113 v114 v124 : Int) (kn : Int → Option R) : Option R :=
  kn (wr .i64 (v114 + 1))
def s15_34 (cp : CP) (n : Nat) (p0 : SRecv) (p1 : Int) (v112 : SRecv) (v113 v114 v115 : Int) (kn : Int → Int → Option R) : Option R :=
  s15_30 cp n p0 p1 v112 v113 v114 v115 (fun v124 => s15_31 cp n p0 p1 v112 v113 v114 v124 (fun v125 => (kn v125 v124)))
def s15_36 (cp : CP) (n : Nat) (p0 : SRecv) (p1 : Int) (v112 : SRecv) (v113 v114 v115 : Int) (kn : Int → Int → Option R) (ke0 : Option R) : Option R :=
  s15_9 cp n p0 p1 v112 v113 v114 v115 (s15_34 cp n p0 p1 v112 v113 v114 v115 (fun v126 v127 => (kn v126 v127))) ke0
def l15_38 (cp : CP) (n : Nat) : Nat → SRecv → Int → SRecv → Int → Int → Int → (Int → Option R) → Option R
  | 0, _, _, _, _, _, _, _ => none
  | m + 1, p0, p1, v112, v113, v114, v115, ke0 =>
    s15_36 cp n p0 p1 v112 v113 v114 v115 (fun v128 v129 => l15_38 cp n m p0 p1 v112 v113 v128 v129 ke0) (ke0 v115)
def s15_39 (cp : CP) (n : Nat) (p0 : SRecv) (p1 : Int) (v112 : SRecv) (v113 : Int) (ke0 : Int → Option R) : Option R :=
  l15_38 cp n n p0 p1 v112 v113 0 p0.xNext ke0
def s15_41 (cp : CP) (n : Nat) (p0 : SRecv) (p1 : Int) (v112 : SRecv) (v113 : Int) (kn : Int → Option R) : Option R :=
  s15_39 cp n p0 p1 v112 v113 (fun v130 => (kn v130))
def s15_43 (cp : CP) (n : Nat) (p0 : SRecv) (p1 : Int) (v112 : SRecv) (kn : Int → Option R) : Option R :=
  s15_7 cp n p0 p1 v112 (fun v113 => s15_41 cp n p0 p1 v112 v113 (fun v131 => (kn v131)))
def s15_46 (cp : CP) (n : Nat) (p0 : SRecv) (p1 : Int) (v112 : SRecv) (kn : Int → Option R) : Option R :=
  s15_43 cp n p0 p1 v112 (fun v132 => (kn v132))
def s15_48 (cp : CP) (n : Nat) (p0 : SRecv) (p1 : Int) (v112 : SRecv) (kn : Int → Option R) : Option R :=
  s15_46 cp n p0 p1 v112 (fun v133 => (kn v133))
def s15_50 (cp : CP) (n : Nat) (p0 : SRecv) (p1 : Int) (kn : Int → Option R) : Option R :=
  s15_3 cp n p0 p1 (fun v112 => s15_48 cp n p0 p1 v112 (fun v134 => (kn v134)))
def s15_51 (cp : CP) (n : Nat) (p0 : SRecv) (p1 v135 : Int) (kr : Int → Option R) : Option R :=
  cond (decide (p0.xFin < 0)) (cond (decide (v135 ≤ p1)) (G31 cp n p0 (fun r136 => cond (decide (p1 ≤ r136)) (kr p1) (kr p0.xFin))) (kr p0.xFin)) (kr p0.xFin)
def s15_54 (cp : CP) (n : Nat) (p0 : SRecv) (p1 : Int) (kr : Int → Option R) : Option R :=
  s15_50 cp n p0 p1 (fun v135 => s15_51 cp n p0 p1 v135 (fun v137 => (kr v137)))
def s15_56 (cp : CP) (n : Nat) (p0 : SRecv) (p1 : Int) (kr : Int → Option R) : Option R :=
  s15_1 cp n p0 p1 (s15_54 cp n p0 p1 (fun v138 => (kr v138)))
def G15 (cp : CP) : Nat → SRecv → Int → (Int → Option R) → Option R
  | 0, _, _, _ => none
  | n + 1, p0, p1, k =>
    s15_56 cp n p0 p1 (fun v139 => k v139)
/-! tideway/span.within -/
def G48 (cp : CP) : Nat → (List SSpan) → SSpan → ((List SSpan) → SSpan → Option R) → Option R
  | 0, _, _, _ => none
  | n + 1, p0, p1, k =>
    k p0 p1
/-! tideway/span.Gaps -/
def s34_1 (cp : CP) (n : Nat) (p0 : (List SSpan)) (p1 : SSpan) (kn : Option R) (kr : Option R) : Option R :=
  G24 cp n p0 (fun r175 => cond (!decide (r175 = 0)) (kr) (cond (decide (p1.xTo ≤ p1.xFrom)) (kr) (kn)))
def s34_4 (cp : CP) (n : Nat) (p0 : (List SSpan)) (p1 : SSpan) (kn : (List SSpan) → Int → Int → Option R) : Option R :=
  G48 cp n p0 p1 (fun r176 r177 => kn r176 r177.xFrom r177.xTo)
def s34_8 (cp : CP) (n : Nat) (p1 : SSpan) (v178 : (List SSpan)) (v179 v180 : Int) (kn : Int → Option R) : Option R :=
  kn (v178.length : Int)
def s34_10 (cp : CP) (n : Nat) (p1 : SSpan) (v178 : (List SSpan)) (v179 v180 v181 v182 : Int) (v183 : (List SSpan)) (v184 : Int) (kn : Option R) (ke0 : Option R) : Option R :=
  cond (decide (v182 < v181)) (kn) (ke0)
def s34_13 (cp : CP) (n : Nat) (p1 : SSpan) (v178 : (List SSpan)) (v179 v180 v181 v182 : Int) (v183 : (List SSpan)) (v184 : Int) (kn : Int → Int → Option R) : Option R :=
  cond (decide (0 ≤ v182)) (cond (decide (v182 < (v178.length : Int))) (kn (mx ((v178.getD (Int.toNat v182) zSpan).xFrom) v179) (mn ((v178.getD (Int.toNat v182) zSpan).xTo) v180)) (none)) (none)
def s34_15 (cp : CP) (n : Nat) (p1 : SSpan) (v178 : (List SSpan)) (v179 v180 v181 v182 : Int) (v183 : (List SSpan)) (v184 v185 v186 : Int) (ka : Bool → Option R) (kb : Bool → Option R) : Option R :=
  cond (decide (v185 < v186)) (ka (decide (v185 < v186))) (kb (decide (v185 < v186)))
def s34_18 (cp : CP) (n : Nat) (p1 : SSpan) (v178 : (List SSpan)) (v179 v180 : Int) (v183 : (List SSpan)) (v184 v185 v186 : Int) (kn : (List SSpan) → Option R) : Option R :=
  cond (decide (v184 < v185)) (cond (cp (v183.length + [(SSpan.mk v184 v185)].length) 16) (kn (v183 ++ [(SSpan.mk v184 v185)])) (none)) (kn v183)
def s34_24 (cp : CP) (n : Nat) (p1 : SSpan) (v178 : (List SSpan)) (v179 v180 v181 v182 : Int) (v183 : (List SSpan)) (v184 v185 v186 : Int) (kn : (List SSpan) → Int → Option R) : Option R :=
  s34_15 cp n p1 v178 v179 v180 v181 v182 v183 v184 v185 v186 (fun v187 => s34_18 cp n p1 v178 v179 v180 v183 v184 v185 v186 (fun v189 => kn v189 v186)) (fun v188 => kn v183 v184)
def s34_25 (cp : CP) (n : Nat) (p1 : SSpan) (v178 : (List SSpan)) (v179 v180 v181 v182 : Int) (v190 : (List SSpan)) (v191 : Int) (kn : Option R) : Option R :=
  kn
def s34_28 (cp : CP) (n : Nat) (p1 : SSpan) (v178 : (List SSpan)) (v179 v180 v181 v182 : Int) (v183 : (List SSpan)) (v184 v185 v186 : Int) (kn : (List SSpan) → Int → Option R) : Option R :=
  s34_24 cp n p1 v178 v179 v180 v181 v182 v183 v184 v185 v186 (fun v190 v191 => s34_25 cp n p1 v178 v179 v180 v181 v182 v190 v191 (kn v190 v191))
def s34_30 (cp : CP) (n : Nat) (p1 : SSpan) (v178 : (List SSpan)) (v179 v180 v181 v182 : Int) (v183 : (List SSpan)) (v184 : Int) (kn : (List SSpan) → Int → Option R) : Option R :=
  s34_13 cp n p1 v178 v179 v180 v181 v182 v183 v184 (fun v185 v186 => s34_28 cp n p1 v178 v179 v180 v181 v182 v183 v184 v185 v186 (fun v192 v193 => (kn v192 v193)))
def s34_32 (cp : CP) (n : Nat) (p1 : SSpan) (v178 : (List SSpan)) (v179 v180 v181 v182 : Int) (v183 : (List SSpan)) (v184 : Int) (kn : (List SSpan) → Int → Option R) : Option R :=
  s34_30 cp n p1 v178 v179 v180 v181 v182 v183 v184 (fun v194 v195 => (kn v194 v195))
def s34_33 (cp : CP) (n : Nat) (p1 : SSpan) (v178 : (List SSpan)) (v179 v180 v181 v182 : Int) (v196 : (List SSpan)) (v197 : Int) (kn : Int → Option R) : Option R :=
  kn (wr .i64 (v182 + 1))
def s34_36 (cp : CP) (n : Nat) (p1 : SSpan) (v178 : (List SSpan)) (v179 v180 v181 v182 : Int) (v183 : (List SSpan)) (v184 : Int) (kn : Int → (List SSpan) → Int → Option R) : Option R :=
  s34_32 cp n p1 v178 v179 v180 v181 v182 v183 v184 (fun v196 v197 => s34_33 cp n p1 v178 v179 v180 v181 v182 v196 v197 (fun v198 => (kn v198 v196 v197)))
def s34_38 (cp : CP) (n : Nat) (p1 : SSpan) (v178 : (List SSpan)) (v179 v180 v181 v182 : Int) (v183 : (List SSpan)) (v184 : Int) (kn : Int → (List SSpan) → Int → Option R) (ke0 : Option R) : Option R :=
  s34_10 cp n p1 v178 v179 v180 v181 v182 v183 v184 (s34_36 cp n p1 v178 v179 v180 v181 v182 v183 v184 (fun v199 v200 v201 => (kn v199 v200 v201))) ke0
def l34_40 (cp : CP) (n : Nat) : Nat → SSpan → (List SSpan) → Int → Int → Int → Int → (List SSpan) → Int → ((List SSpan) → Int → Option R) → Option R
  | 0, _, _, _, _, _, _, _, _, _ => none
  | m + 1, p1, v178, v179, v180, v181, v182, v183, v184, ke0 =>
    s34_38 cp n p1 v178 v179 v180 v181 v182 v183 v184 (fun v202 v203 v204 => l34_40 cp n m p1 v178 v179 v180 v181 v202 v203 v204 ke0) (ke0 v183 v184)
def s34_41 (cp : CP) (n : Nat) (p1 : SSpan) (v178 : (List SSpan)) (v179 v180 v181 : Int) (ke0 : (List SSpan) → Int → Option R) : Option R :=
  l34_40 cp n n p1 v178 v179 v180 v181 0 [] p1.xFrom ke0
def s34_43 (cp : CP) (n : Nat) (p1 : SSpan) (v178 : (List SSpan)) (v179 v180 v181 : Int) (kn : (List SSpan) → Int → Option R) : Option R :=
  s34_41 cp n p1 v178 v179 v180 v181 (fun v205 v206 => (kn v205 v206))
def s34_45 (cp : CP) (n : Nat) (p1 : SSpan) (v178 : (List SSpan)) (v179 v180 : Int) (kn : (List SSpan) → Int → Option R) : Option R :=
  s34_8 cp n p1 v178 v179 v180 (fun v181 => s34_43 cp n p1 v178 v179 v180 v181 (fun v207 v208 => (kn v207 v208)))
def s34_48 (cp : CP) (n : Nat) (p1 : SSpan) (v178 : (List SSpan)) (v179 v180 : Int) (kn : (List SSpan) → Int → Option R) : Option R :=
  s34_45 cp n p1 v178 v179 v180 (fun v209 v210 => (kn v209 v210))
def s34_50 (cp : CP) (n : Nat) (p1 : SSpan) (v178 : (List SSpan)) (v179 v180 : Int) (kn : (List SSpan) → Int → Option R) : Option R :=
  s34_48 cp n p1 v178 v179 v180 (fun v211 v212 => (kn v211 v212))
def s34_52 (cp : CP) (n : Nat) (p0 : (List SSpan)) (p1 : SSpan) (kn : (List SSpan) → Int → Option R) : Option R :=
  s34_4 cp n p0 p1 (fun v178 v179 v180 => s34_50 cp n p1 v178 v179 v180 (fun v213 v214 => (kn v213 v214)))
def s34_53 (cp : CP) (n : Nat) (p1 : SSpan) (v215 : (List SSpan)) (v216 : Int) (kr : (List SSpan) → Option R) : Option R :=
  cond (decide (v216 < p1.xTo)) (cond (cp (v215.length + [(SSpan.mk v216 p1.xTo)].length) 16) (kr (v215 ++ [(SSpan.mk v216 p1.xTo)])) (none)) (kr v215)
def s34_56 (cp : CP) (n : Nat) (p0 : (List SSpan)) (p1 : SSpan) (kr : (List SSpan) → Option R) : Option R :=
  s34_52 cp n p0 p1 (fun v215 v216 => s34_53 cp n p1 v215 v216 (fun v217 => (kr v217)))
def s34_58 (cp : CP) (n : Nat) (p0 : (List SSpan)) (p1 : SSpan) (kr : (List SSpan) → Option R) : Option R :=
  s34_1 cp n p0 p1 (s34_56 cp n p0 p1 (fun v218 => (kr v218))) (kr [])
def G34 (cp : CP) : Nat → (List SSpan) → SSpan → ((List SSpan) → Option R) → Option R
  | 0, _, _, _ => none
  | n + 1, p0, p1, k =>
    s34_58 cp n p0 p1 (fun v219 => k v219)
/-! tideway/recv.put$1 -/
def G44 (cp : CP) : Nat → SPiece → Int → (Int → Option R) → Option R
  | 0, _, _, _ => none
  | n + 1, p0, p1, k =>
    k (wr .i64 (p0.xFrom - p1))
/-! slices.BinarySearchFunc[[]tideway/api.Piece,tideway/api.Piece,int] -/
def s1038_1 (cp : CP) (n : Nat) (p0 : (List SPiece)) (p1 : Int) (kn : Int → Option R) : Option R :=
  kn (p0.length : Int)
def s1038_3 (cp : CP) (n : Nat) (p0 : (List SPiece)) (p1 v223 v224 v225 : Int) (kn : Int → Int → Option R) (ke0 : Option R) : Option R :=
  cond (decide (v224 < v225)) (cond (decide (0 ≤ wr .i64 (shr .u64 (wr .u64 (wr .i64 (v224 + v225))) 1))) (cond (decide (wr .i64 (shr .u64 (wr .u64 (wr .i64 (v224 + v225))) 1) < (p0.length : Int))) (G44 cp n (p0.getD (Int.toNat (wr .i64 (shr .u64 (wr .u64 (wr .i64 (v224 + v225))) 1))) zPiece) p1 (fun r226 => cond (decide (r226 < 0)) (kn (wr .i64 ((wr .i64 (shr .u64 (wr .u64 (wr .i64 (v224 + v225))) 1)) + 1)) v225) (kn v224 (wr .i64 (shr .u64 (wr .u64 (wr .i64 (v224 + v225))) 1))))) (none)) (none)) (ke0)
def l1038_8 (cp : CP) (n : Nat) : Nat → (List SPiece) → Int → Int → Int → Int → (Int → Option R) → Option R
  | 0, _, _, _, _, _, _ => none
  | m + 1, p0, p1, v223, v224, v225, ke0 =>
    s1038_3 cp n p0 p1 v223 v224 v225 (fun v227 v228 => l1038_8 cp n m p0 p1 v223 v227 v228 ke0) (ke0 v224)
def s1038_9 (cp : CP) (n : Nat) (p0 : (List SPiece)) (p1 v223 : Int) (ke0 : Int → Option R) : Option R :=
  l1038_8 cp n n p0 p1 v223 0 v223 ke0
def s1038_11 (cp : CP) (n : Nat) (p0 : (List SPiece)) (p1 v223 : Int) (kn : Int → Option R) : Option R :=
  s1038_9 cp n p0 p1 v223 (fun v229 => (kn v229))
def s1038_12 (cp : CP) (n : Nat) (p0 : (List SPiece)) (p1 v223 v230 : Int) (kr : Bool → Option R) : Option R :=
  cond (decide (v230 < v223)) (cond (decide (0 ≤ v230)) (cond (decide (v230 < (p0.length : Int))) (G44 cp n (p0.getD (Int.toNat v230) zPiece) p1 (fun r231 => kr (decide (r231 = 0)))) (none)) (none)) (kr false)
def s1038_15 (cp : CP) (n : Nat) (p0 : (List SPiece)) (p1 v223 : Int) (kr : Int → Bool → Option R) : Option R :=
  s1038_11 cp n p0 p1 v223 (fun v230 => s1038_12 cp n p0 p1 v223 v230 (fun v232 => (kr v230 v232)))
def s1038_17 (cp : CP) (n : Nat) (p0 : (List SPiece)) (p1 : Int) (kr : Int → Bool → Option R) : Option R :=
  s1038_1 cp n p0 p1 (fun v223 => s1038_15 cp n p0 p1 v223 (fun v233 v234 => (kr v233 v234)))
def G1038 (cp : CP) : Nat → (List SPiece) → Int → (Int → Bool → Option R) → Option R
  | 0, _, _, _ => none
  | n + 1, p0, p1, k =>
    s1038_17 cp n p0 p1 (fun v235 v236 => k v235 v236)
/-! slices.Clone[[]tideway/api.Piece,tideway/api.Piece] -/
def G1040 (cp : CP) : Nat → (List SPiece) → ((List SPiece) → Option R) → Option R
  | 0, _, _ => none
  | n + 1, p0, k => cond (cp (0 + p0.length) 32) (k p0) none
/-! slices.Insert[[]tideway/api.Piece,tideway/api.Piece] -/
def G45 (cp : CP) : Nat → (List SPiece) → Int → SPiece → ((List SPiece) → Option R) → Option R
  | 0, _, _, _, _ => none
  | n + 1, p0, p1, p2, k => cond (cp (p0.length + 1) 32) (cond (decide (0 ≤ p1)) (cond (decide (p1 ≤ (p0.length : Int))) (k (insL p0 (Int.toNat p1) p2)) none) none) none
/-! slices.Clip[[]byte,byte] -/
def G47 (cp : CP) : Nat → (List Int) → ((List Int) → Option R) → Option R
  | 0, _, _ => none
  | n + 1, p0, k =>
    cond (decide (0 ≤ (p0.length : Int))) (cond (decide ((p0.length : Int) ≤ (p0.length : Int))) (cond (decide ((p0.length : Int) = (p0.length : Int))) (k (p0.take (Int.toNat (p0.length : Int)))) (none)) (none)) (none)
/-! tideway/recv.put -/
def s33_1 (cp : CP) (n : Nat) (p0 : (List SPiece)) (p1 : SPiece) (kn : (List SPiece) → Option R) : Option R :=
  G1038 cp n p0 p1.xFrom (fun r249 r250 => G1040 cp n p0 (fun r251 => G28 cp n p1.xData (fun r252 => G45 cp n r251 r249 (SPiece.mk p1.xFrom r252) (fun r253 => kn r253))))
def s33_3 (cp : CP) (n : Nat) (v254 : (List SPiece)) (kn : Int → Option R) : Option R :=
  kn (v254.length : Int)
def s33_5 (cp : CP) (n : Nat) (v254 : (List SPiece)) (v255 : Int) (v256 : (List SPiece)) (v257 : Int) (kn : (List SPiece) → Int → Option R) (ke0 : Option R) : Option R :=
  cond (decide (v257 < v255)) (cond (decide (0 ≤ v257)) (cond (decide (v257 < (v254.length : Int))) (cond (decide (0 < (v256.length : Int))) (cond (decide (0 ≤ wr .i64 ((v256.length : Int) - 1))) (cond (decide (wr .i64 ((v256.length : Int) - 1) < (v256.length : Int))) (cond (decide ((Int.toNat (wr .i64 ((v256.length : Int) - 1))) < v256.length)) (G42 cp n (v256.getD (Int.toNat (wr .i64 ((v256.length : Int) - 1))) zPiece) (fun r258 => cond (decide (r258.xTo = ((v254.getD (Int.toNat v257) zPiece).xFrom))) (cond (decide (0 ≤ wr .i64 ((v256.length : Int) - 1))) (cond (decide (wr .i64 ((v256.length : Int) - 1) < (v256.length : Int))) (cond (decide ((Int.toNat (wr .i64 ((v256.length : Int) - 1))) < v256.length)) (G47 cp n ((v256.getD (Int.toNat (wr .i64 ((v256.length : Int) - 1))) zPiece).xData) (fun r259 => cond (cp (r259.length + ((v254.getD (Int.toNat v257) zPiece).xData).length) 1) (cond (decide (0 ≤ wr .i64 ((v256.length : Int) - 1))) (cond (decide (wr .i64 ((v256.length : Int) - 1) < (v256.length : Int))) (cond (decide ((Int.toNat (wr .i64 ((v256.length : Int) - 1))) < v256.length)) (kn (v256.set (Int.toNat (wr .i64 ((v256.length : Int) - 1))) (SPiece.mk ((v256.getD (Int.toNat (wr .i64 ((v256.length : Int) - 1))) zPiece).xFrom) (r259 ++ ((v254.getD (Int.toNat v257) zPiece).xData)))) (wr .i64 (v257 + 1))) (none)) (none)) (none)) (none))) (none)) (none)) (none)) (cond (cp (v256.length + [(v254.getD (Int.toNat v257) zPiece)].length) 32) (kn (v256 ++ [(v254.getD (Int.toNat v257) zPiece)]) (wr .i64 (v257 + 1))) (none)))) (none)) (none)) (none)) (cond (cp (v256.length + [(v254.getD (Int.toNat v257) zPiece)].length) 32) (kn (v256 ++ [(v254.getD (Int.toNat v257) zPiece)]) (wr .i64 (v257 + 1))) (none))) (none)) (none)) (ke0)
def l33_10 (cp : CP) (n : Nat) : Nat → (List SPiece) → Int → (List SPiece) → Int → ((List SPiece) → Option R) → Option R
  | 0, _, _, _, _, _ => none
  | m + 1, v254, v255, v256, v257, ke0 =>
    s33_5 cp n v254 v255 v256 v257 (fun v260 v261 => l33_10 cp n m v254 v255 v260 v261 ke0) (ke0 v256)
def s33_11 (cp : CP) (n : Nat) (v254 : (List SPiece)) (v255 : Int) (ke0 : (List SPiece) → Option R) : Option R :=
  l33_10 cp n n v254 v255 [] 0 ke0
def s33_13 (cp : CP) (n : Nat) (v254 : (List SPiece)) (v255 : Int) (kn : (List SPiece) → Option R) : Option R :=
  s33_11 cp n v254 v255 (fun v262 => (kn v262))
def s33_15 (cp : CP) (n : Nat) (v254 : (List SPiece)) (kn : (List SPiece) → Option R) : Option R :=
  s33_3 cp n v254 (fun v255 => s33_13 cp n v254 v255 (fun v263 => (kn v263)))
def s33_16 (cp : CP) (n : Nat) (v264 : (List SPiece)) (kr : Option R) : Option R :=
  kr
def s33_19 (cp : CP) (n : Nat) (v254 : (List SPiece)) (kr : (List SPiece) → Option R) : Option R :=
  s33_15 cp n v254 (fun v264 => s33_16 cp n v264 (kr v264))
def s33_21 (cp : CP) (n : Nat) (p0 : (List SPiece)) (p1 : SPiece) (kr : (List SPiece) → Option R) : Option R :=
  s33_1 cp n p0 p1 (fun v254 => s33_19 cp n v254 (fun v265 => (kr v265)))
def G33 (cp : CP) : Nat → (List SPiece) → SPiece → ((List SPiece) → Option R) → Option R
  | 0, _, _, _ => none
  | n + 1, p0, p1, k =>
    s33_21 cp n p0 p1 (fun v266 => k v266)
/-! tideway/recv.take$1 -/
def G1036 (cp : CP) : Nat → SSpan → SRecv → Int → (List Int) → Bool → (SRecv → Int → (List Int) → Bool → Option R) → Option R
  | 0, _, _, _, _, _, _ => none
  | n + 1, p0, q0, q1, q2, q3, k =>
    cond (decide (0 ≤ wr .i64 (p0.xFrom - q1))) (cond (decide (wr .i64 (p0.xFrom - q1) ≤ wr .i64 (p0.xTo - q1))) (cond (decide (wr .i64 (p0.xTo - q1) ≤ (q2.length : Int))) (G33 cp n q0.xLate (SPiece.mk p0.xFrom (List.take ((Int.toNat (wr .i64 (p0.xTo - q1))) - (Int.toNat (wr .i64 (p0.xFrom - q1)))) (q2.drop (Int.toNat (wr .i64 (p0.xFrom - q1)))))) (fun r267 => k (SRecv.mk q0.xNext q0.xUnread r267 q0.xCap q0.xShift q0.xEdge q0.xRecent q0.xStamps q0.xSacks q0.xFin q0.xDone q0.xFirst q0.xIrs q0.xOwn q0.xStamp) q1 q2 true)) (none)) (none)) (none)
/-! tideway/recv.take -/
def s16_1 (cp : CP) (n : Nat) (p0 : SRecv) (p1 : Int) (p2 : (List Int)) (kn : Int → Option R) : Option R :=
  G31 cp n p0 (fun r250 => cond (decide (0 ≤ p0.xFin)) (kn (mn (mn (wr .i64 (p1 + (p2.length : Int))) r250) p0.xFin)) (kn (mn (wr .i64 (p1 + (p2.length : Int))) r250)))
def s16_3 (cp : CP) (n : Nat) (p0 : SRecv) (p1 : Int) (p2 : (List Int)) (v251 : Int) (kn : SRecv → Option R) : Option R :=
  G30 cp n p0 (fun r252 => kn r252)
def s16_7 (cp : CP) (n : Nat) (p0 : SRecv) (p1 : Int) (p2 : (List Int)) (v251 : Int) (v253 : SRecv) (kn : Int → Option R) : Option R :=
  kn (v253.xLate.length : Int)
def s16_9 (cp : CP) (n : Nat) (p0 : SRecv) (p1 : Int) (p2 : (List Int)) (v251 : Int) (v253 : SRecv) (v254 v255 : Int) (v256 : (List SSpan)) (kn : Option R) (ke0 : Option R) : Option R :=
  cond (decide (v255 < v254)) (kn) (ke0)
def s16_12 (cp : CP) (n : Nat) (p0 : SRecv) (p1 : Int) (p2 : (List Int)) (v251 : Int) (v253 : SRecv) (v254 v255 : Int) (v256 : (List SSpan)) (kn : Int → (List Int) → Option R) : Option R :=
  cond (decide (0 ≤ v255)) (cond (decide (v255 < (v253.xLate.length : Int))) (kn ((v253.xLate.getD (Int.toNat v255) zPiece).xFrom) ((v253.xLate.getD (Int.toNat v255) zPiece).xData)) (none)) (none)
def s16_14 (cp : CP) (n : Nat) (p0 : SRecv) (p1 : Int) (p2 : (List Int)) (v251 : Int) (v253 : SRecv) (v254 v255 : Int) (v256 : (List SSpan)) (v257 : Int) (v258 : (List Int)) (ka : Int → Int → Option R) : Option R :=
  G42 cp n (SPiece.mk v257 v258) (fun r259 => ka r259.xFrom r259.xTo)
def s16_16 (cp : CP) (n : Nat) (p0 : SRecv) (p1 : Int) (p2 : (List Int)) (v251 : Int) (v253 : SRecv) (v256 : (List SSpan)) (v257 : Int) (v258 : (List Int)) (v260 v261 : Int) (kn : (List SSpan) → Option R) : Option R :=
  cond (cp (v256.length + [(SSpan.mk v260 v261)].length) 16) (kn (v256 ++ [(SSpan.mk v260 v261)])) (none)
def s16_22 (cp : CP) (n : Nat) (p0 : SRecv) (p1 : Int) (p2 : (List Int)) (v251 : Int) (v253 : SRecv) (v254 v255 : Int) (v256 : (List SSpan)) (v257 : Int) (v258 : (List Int)) (kn : (List SSpan) → Option R) : Option R :=
  s16_14 cp n p0 p1 p2 v251 v253 v254 v255 v256 v257 v258 (fun v260 v261 => s16_16 cp n p0 p1 p2 v251 v253 v256 v257 v258 v260 v261 (fun v262 => kn v262))
def s16_23 (cp : CP) (n : Nat) (p0 : SRecv) (p1 : Int) (p2 : (List Int)) (v251 : Int) (v253 : SRecv) (v254 v255 : Int) (v263 : (List SSpan)) (kn : Option R) : Option R :=
  kn
def s16_26 (cp : CP) (n : Nat) (p0 : SRecv) (p1 : Int) (p2 : (List Int)) (v251 : Int) (v253 : SRecv) (v254 v255 : Int) (v256 : (List SSpan)) (v257 : Int) (v258 : (List Int)) (kn : (List SSpan) → Option R) : Option R :=
  s16_22 cp n p0 p1 p2 v251 v253 v254 v255 v256 v257 v258 (fun v263 => s16_23 cp n p0 p1 p2 v251 v253 v254 v255 v263 (kn v263))
def s16_28 (cp : CP) (n : Nat) (p0 : SRecv) (p1 : Int) (p2 : (List Int)) (v251 : Int) (v253 : SRecv) (v254 v255 : Int) (v256 : (List SSpan)) (kn : (List SSpan) → Option R) : Option R :=
  s16_12 cp n p0 p1 p2 v251 v253 v254 v255 v256 (fun v257 v258 => s16_26 cp n p0 p1 p2 v251 v253 v254 v255 v256 v257 v258 (fun v264 => (kn v264)))
def s16_30 (cp : CP) (n : Nat) (p0 : SRecv) (p1 : Int) (p2 : (List Int)) (v251 : Int) (v253 : SRecv) (v254 v255 : Int) (v256 : (List SSpan)) (kn : (List SSpan) → Option R) : Option R :=
  s16_28 cp n p0 p1 p2 v251 v253 v254 v255 v256 (fun v265 => (kn v265))
def s16_31 (cp : CP) (n : Nat) (p0 : SRecv) (p1 : Int) (p2 : (List Int)) (v251 : Int) (v253 : SRecv) (v254 v255 : Int) (v266 : (List SSpan)) (kn : Int → Option R) : Option R :=
  kn (wr .i64 (v255 + 1))
def s16_34 (cp : CP) (n : Nat) (p0 : SRecv) (p1 : Int) (p2 : (List Int)) (v251 : Int) (v253 : SRecv) (v254 v255 : Int) (v256 : (List SSpan)) (kn : Int → (List SSpan) → Option R) : Option R :=
  s16_30 cp n p0 p1 p2 v251 v253 v254 v255 v256 (fun v266 => s16_31 cp n p0 p1 p2 v251 v253 v254 v255 v266 (fun v267 => (kn v267 v266)))
def s16_36 (cp : CP) (n : Nat) (p0 : SRecv) (p1 : Int) (p2 : (List Int)) (v251 : Int) (v253 : SRecv) (v254 v255 : Int) (v256 : (List SSpan)) (kn : Int → (List SSpan) → Option R) (ke0 : Option R) : Option R :=
  s16_9 cp n p0 p1 p2 v251 v253 v254 v255 v256 (s16_34 cp n p0 p1 p2 v251 v253 v254 v255 v256 (fun v268 v269 => (kn v268 v269))) ke0
def l16_38 (cp : CP) (n : Nat) : Nat → SRecv → Int → (List Int) → Int → SRecv → Int → Int → (List SSpan) → ((List SSpan) → Option R) → Option R
  | 0, _, _, _, _, _, _, _, _, _ => none
  | m + 1, p0, p1, p2, v251, v253, v254, v255, v256, ke0 =>
    s16_36 cp n p0 p1 p2 v251 v253 v254 v255 v256 (fun v270 v271 => l16_38 cp n m p0 p1 p2 v251 v253 v254 v270 v271 ke0) (ke0 v256)
def s16_39 (cp : CP) (n : Nat) (p0 : SRecv) (p1 : Int) (p2 : (List Int)) (v251 : Int) (v253 : SRecv) (v254 : Int) (ke0 : (List SSpan) → Option R) : Option R :=
  l16_38 cp n n p0 p1 p2 v251 v253 v254 0 [] ke0
def s16_41 (cp : CP) (n : Nat) (p0 : SRecv) (p1 : Int) (p2 : (List Int)) (v251 : Int) (v253 : SRecv) (v254 : Int) (kn : (List SSpan) → Option R) : Option R :=
  s16_39 cp n p0 p1 p2 v251 v253 v254 (fun v272 => (kn v272))
def s16_43 (cp : CP) (n : Nat) (p0 : SRecv) (p1 : Int) (p2 : (List Int)) (v251 : Int) (v253 : SRecv) (kn : (List SSpan) → Option R) : Option R :=
  s16_7 cp n p0 p1 p2 v251 v253 (fun v254 => s16_41 cp n p0 p1 p2 v251 v253 v254 (fun v273 => (kn v273)))
def s16_46 (cp : CP) (n : Nat) (p0 : SRecv) (p1 : Int) (p2 : (List Int)) (v251 : Int) (v253 : SRecv) (kn : (List SSpan) → Option R) : Option R :=
  s16_43 cp n p0 p1 p2 v251 v253 (fun v274 => (kn v274))
def s16_48 (cp : CP) (n : Nat) (p0 : SRecv) (p1 : Int) (p2 : (List Int)) (v251 : Int) (v253 : SRecv) (kn : (List SSpan) → Option R) : Option R :=
  s16_46 cp n p0 p1 p2 v251 v253 (fun v275 => (kn v275))
def s16_50 (cp : CP) (n : Nat) (p0 : SRecv) (p1 : Int) (p2 : (List Int)) (v251 : Int) (kn : (List SSpan) → Option R) : Option R :=
  s16_3 cp n p0 p1 p2 v251 (fun v253 => s16_48 cp n p0 p1 p2 v251 v253 (fun v276 => (kn v276)))
def s16_51 (cp : CP) (n : Nat) (p0 : SRecv) (p1 : Int) (p2 : (List Int)) (v251 : Int) (v277 : (List SSpan)) (kn : Option R) : Option R :=
  kn
def s16_53 (cp : CP) (n : Nat) (p0 : SRecv) (p1 : Int) (p2 : (List Int)) (v251 : Int) (v277 : (List SSpan)) (kn : Int → Bool → Option R) : Option R :=
  kn (mx p1 p0.xNext) (decide ((mx p1 p0.xNext) < v251))
def s16_55 (cp : CP) (n : Nat) (p0 : SRecv) (p1 : Int) (p2 : (List Int)) (v251 : Int) (v277 : (List SSpan)) (v278 : Int) (v279 : Bool) (kn : (List SSpan) → Int → Option R) : Option R :=
  G34 cp n v277 (SSpan.mk v278 v251) (fun r280 => kn r280 (r280.length : Int))
def s16_57 (cp : CP) (n : Nat) (v281 : (List SSpan)) (v282 v283 : Int) (v284 : SRecv) (v285 : Int) (v286 : (List Int)) (v287 : Bool) (kn : Int → SRecv → Int → (List Int) → Bool → Option R) (ke2 : Option R) : Option R :=
  cond (decide (v283 < v282)) (cond (decide (0 ≤ v283)) (cond (decide (v283 < (v281.length : Int))) (G1036 cp n (v281.getD (Int.toNat v283) zSpan) v284 v285 v286 v287 (fun r288 r289 r290 r291 => kn (wr .i64 (v283 + 1)) r288 r289 r290 r291)) (none)) (none)) (ke2)
def l16_62 (cp : CP) (n : Nat) : Nat → (List SSpan) → Int → Int → SRecv → Int → (List Int) → Bool → (SRecv → Bool → Option R) → Option R
  | 0, _, _, _, _, _, _, _, _ => none
  | m + 1, v281, v282, v283, v284, v285, v286, v287, ke2 =>
    s16_57 cp n v281 v282 v283 v284 v285 v286 v287 (fun v292 v293 v294 v295 v296 => l16_62 cp n m v281 v282 v292 v293 v294 v295 v296 ke2) (ke2 v284 v287)
def s16_63 (cp : CP) (n : Nat) (p0 : SRecv) (p1 : Int) (p2 : (List Int)) (v281 : (List SSpan)) (v282 : Int) (ke2 : SRecv → Bool → Option R) : Option R :=
  l16_62 cp n n v281 v282 0 p0 p1 p2 false ke2
def s16_65 (cp : CP) (n : Nat) (p0 : SRecv) (p1 : Int) (p2 : (List Int)) (v281 : (List SSpan)) (v282 : Int) (kn : SRecv → Bool → Option R) : Option R :=
  s16_63 cp n p0 p1 p2 v281 v282 (fun v297 v298 => (kn v297 v298))
def s16_67 (cp : CP) (n : Nat) (p0 : SRecv) (p1 : Int) (p2 : (List Int)) (v251 : Int) (v277 : (List SSpan)) (v278 : Int) (v279 : Bool) (kn : SRecv → Bool → Option R) : Option R :=
  s16_55 cp n p0 p1 p2 v251 v277 v278 v279 (fun v281 v282 => s16_65 cp n p0 p1 p2 v281 v282 (fun v299 v300 => (kn v299 v300)))
def s16_68 (cp : CP) (n : Nat) (p0 : SRecv) (p1 : Int) (p2 : (List Int)) (v251 : Int) (v277 : (List SSpan)) (v278 : Int) (v279 : Bool) (kn : Option R) : Option R :=
  kn
def s16_69 (cp : CP) (n : Nat) (p0 : SRecv) (p1 : Int) (p2 : (List Int)) (v251 : Int) (v277 : (List SSpan)) (v278 : Int) (v279 : Bool) (kn : SRecv → Bool → Option R) : Option R :=
  cond (v279) (s16_67 cp n p0 p1 p2 v251 v277 v278 v279 (fun v301 v302 => (kn v301 v302))) (s16_68 cp n p0 p1 p2 v251 v277 v278 v279 (kn p0 false))
def s16_72 (cp : CP) (n : Nat) (p0 : SRecv) (p1 : Int) (p2 : (List Int)) (v251 : Int) (v277 : (List SSpan)) (kn : SRecv → Bool → Option R) : Option R :=
  s16_53 cp n p0 p1 p2 v251 v277 (fun v278 v279 => s16_69 cp n p0 p1 p2 v251 v277 v278 v279 (fun v303 v304 => (kn v303 v304)))
def s16_73 (cp : CP) (n : Nat) (v306 : Bool) (v307 : SRecv) (kn : SRecv → Option R) (ke4 : Option R) : Option R :=
  cond (decide (0 < (v307.xLate.length : Int))) (cond (decide (0 < (v307.xLate.length : Int))) (cond (decide (((v307.xLate.getD 0 zPiece).xFrom) = v307.xNext)) (cond (decide (0 < (v307.xLate.length : Int))) (cond (cp (v307.xUnread.length + ((v307.xLate.getD 0 zPiece).xData).length) 1) (cond (decide (0 < (v307.xLate.length : Int))) (cond (decide (1 ≤ (v307.xLate.length : Int))) (kn (SRecv.mk (wr .i64 (v307.xNext + (((v307.xLate.getD 0 zPiece).xData).length : Int))) (v307.xUnread ++ ((v307.xLate.getD 0 zPiece).xData)) (List.take (v307.xLate.length - 1) (v307.xLate.drop 1)) v307.xCap v307.xShift v307.xEdge v307.xRecent v307.xStamps v307.xSacks v307.xFin v307.xDone v307.xFirst v307.xIrs v307.xOwn v307.xStamp)) (none)) (none)) (none)) (none)) (ke4)) (none)) (ke4)
def l16_77 (cp : CP) (n : Nat) : Nat → Bool → SRecv → (SRecv → Option R) → Option R
  | 0, _, _, _ => none
  | m + 1, v306, v307, ke4 =>
    s16_73 cp n v306 v307 (fun v308 => l16_77 cp n m v306 v308 ke4) (ke4 v307)
def s16_78 (cp : CP) (n : Nat) (v305 : SRecv) (v306 : Bool) (ke4 : SRecv → Option R) : Option R :=
  l16_77 cp n n v306 v305 ke4
def s16_80 (cp : CP) (n : Nat) (v305 : SRecv) (v306 : Bool) (ke4 : SRecv → Option R) : Option R :=
  s16_78 cp n v305 v306 ke4
def s16_82 (cp : CP) (n : Nat) (v305 : SRecv) (v306 : Bool) (kn : SRecv → Option R) : Option R :=
  s16_80 cp n v305 v306 (fun v309 => (kn v309))
def s16_83 (cp : CP) (n : Nat) (v306 : Bool) (v310 : SRecv) (kr : Option R) : Option R :=
  kr
def s16_86 (cp : CP) (n : Nat) (v305 : SRecv) (v306 : Bool) (kr : SRecv → Option R) : Option R :=
  s16_82 cp n v305 v306 (fun v310 => s16_83 cp n v306 v310 (kr v310))
def s16_88 (cp : CP) (n : Nat) (p0 : SRecv) (p1 : Int) (p2 : (List Int)) (v251 : Int) (v277 : (List SSpan)) (kr : Bool → SRecv → Option R) : Option R :=
  s16_72 cp n p0 p1 p2 v251 v277 (fun v305 v306 => s16_86 cp n v305 v306 (fun v311 => (kr v306 v311)))
def s16_90 (cp : CP) (n : Nat) (p0 : SRecv) (p1 : Int) (p2 : (List Int)) (v251 : Int) (v277 : (List SSpan)) (kr : Bool → SRecv → Option R) : Option R :=
  s16_51 cp n p0 p1 p2 v251 v277 (s16_88 cp n p0 p1 p2 v251 v277 (fun v312 v313 => (kr v312 v313)))
def s16_92 (cp : CP) (n : Nat) (p0 : SRecv) (p1 : Int) (p2 : (List Int)) (v251 : Int) (kr : Bool → SRecv → Option R) : Option R :=
  s16_50 cp n p0 p1 p2 v251 (fun v277 => s16_90 cp n p0 p1 p2 v251 v277 (fun v314 v315 => (kr v314 v315)))
def s16_94 (cp : CP) (n : Nat) (p0 : SRecv) (p1 : Int) (p2 : (List Int)) (kr : Bool → SRecv → Option R) : Option R :=
  s16_1 cp n p0 p1 p2 (fun v251 => s16_92 cp n p0 p1 p2 v251 (fun v316 v317 => (kr v316 v317)))
def G16 (cp : CP) : Nat → SRecv → Int → (List Int) → (SRecv → Bool → Option R) → Option R
  | 0, _, _, _, _ => none
  | n + 1, p0, p1, p2, k =>
    s16_94 cp n p0 p1 p2 (fun v318 v319 => k v319 v318)
/-! tideway/recv.firsts$1 -/
def G1045 (cp : CP) : Nat → SSpan → SSpan → (Bool → SSpan → Option R) → Option R
  | 0, _, _, _ => none
  | n + 1, p0, q0, k =>
    cond (decide (p0.xFrom ≤ q0.xFrom)) (k (decide (q0.xTo ≤ p0.xTo)) q0) (k false q0)
/-! slices.IndexFunc[[]tideway/api.Span,tideway/api.Span] -/
def s1044_1 (cp : CP) (n : Nat) (p0 : (List SSpan)) (q0 : SSpan) (kn : Option R) : Option R :=
  kn
def s1044_3 (cp : CP) (n : Nat) (p0 : (List SSpan)) (q0 : SSpan) (kn : Int → Option R) : Option R :=
  kn (p0.length : Int)
def s1044_5 (cp : CP) (n : Nat) (p0 : (List SSpan)) (v337 v338 v339 v340 : Int) (kn : Int → Int → Int → Option R) (kr : Int → Int → Option R) (ke0 : Option R) : Option R :=
  cond (decide (v338 < v337)) (cond (decide (0 ≤ v338)) (cond (decide (v338 < (p0.length : Int))) (G1045 cp n (p0.getD (Int.toNat v338) zSpan) (SSpan.mk v339 v340) (fun r341 r342 => cond (r341) (kr r342.xFrom r342.xTo) (kn (wr .i64 (v338 + 1)) r342.xFrom r342.xTo))) (none)) (none)) (ke0)
def l1044_12 (cp : CP) (n : Nat) : Nat → (List SSpan) → Int → Int → Int → Int → (Int → Int → Int → Option R) → (Int → Int → Option R) → Option R
  | 0, _, _, _, _, _, _, _ => none
  | m + 1, p0, v337, v338, v339, v340, kr, ke0 =>
    s1044_5 cp n p0 v337 v338 v339 v340 (fun v343 v344 v345 => l1044_12 cp n m p0 v337 v343 v344 v345 kr ke0) (fun v346 v347 => (kr v338 v346 v347)) (ke0 v339 v340)
def s1044_13 (cp : CP) (n : Nat) (p0 : (List SSpan)) (q0 : SSpan) (v337 : Int) (kr : Int → Int → Int → Option R) (ke0 : Int → Int → Option R) : Option R :=
  l1044_12 cp n n p0 v337 0 q0.xFrom q0.xTo kr ke0
def s1044_16 (cp : CP) (n : Nat) (p0 : (List SSpan)) (q0 : SSpan) (v337 : Int) (kn : Int → Int → Option R) (kr : Int → Int → Int → Option R) : Option R :=
  s1044_13 cp n p0 q0 v337 (fun v348 v349 v350 => (kr v348 v349 v350)) (fun v351 v352 => (kn v351 v352))
def s1044_19 (cp : CP) (n : Nat) (p0 : (List SSpan)) (q0 : SSpan) (kn : Int → Int → Option R) (kr : Int → Int → Int → Option R) : Option R :=
  s1044_3 cp n p0 q0 (fun v337 => s1044_16 cp n p0 q0 v337 (fun v353 v354 => (kn v353 v354)) (fun v355 v356 v357 => (kr v355 v356 v357)))
def s1044_20 (cp : CP) (n : Nat) (v358 v359 : Int) (kr : Option R) : Option R :=
  kr
def s1044_23 (cp : CP) (n : Nat) (p0 : (List SSpan)) (q0 : SSpan) (kr : Int → Int → Int → Option R) : Option R :=
  s1044_19 cp n p0 q0 (fun v358 v359 => s1044_20 cp n v358 v359 (kr (-1) v358 v359)) (fun v360 v361 v362 => (kr v360 v361 v362))
def s1044_25 (cp : CP) (n : Nat) (p0 : (List SSpan)) (q0 : SSpan) (kr : Int → Int → Int → Option R) : Option R :=
  s1044_1 cp n p0 q0 (s1044_23 cp n p0 q0 (fun v363 v364 v365 => (kr v363 v364 v365)))
def G1044 (cp : CP) : Nat → (List SSpan) → SSpan → (Int → SSpan → Option R) → Option R
  | 0, _, _, _ => none
  | n + 1, p0, q0, k =>
    s1044_25 cp n p0 q0 (fun v366 v367 v368 => k v366 (SSpan.mk v367 v368))
/-! tideway/recv.firsts -/
def s17_1 (cp : CP) (n : Nat) (p0 : SRecv) (p1 : Int) (p2 : (List Int)) (kn : (List SSpan) → Option R) : Option R :=
  G30 cp n p0 (fun r325 => G1023 cp n r325 (fun r326 r327 => kn r326))
def s17_3 (cp : CP) (n : Nat) (p0 : SRecv) (p1 : Int) (p2 : (List Int)) (v328 : (List SSpan)) (kn : Int → Option R) : Option R :=
  kn (wr .i64 ((v328.length : Int) - 1))
def s17_5 (cp : CP) (n : Nat) (p0 : SRecv) (p1 : Int) (p2 : (List Int)) (v328 : (List SSpan)) (v330 : Int) (kn : Int → Option R) (ke0 : (List SSpan) → Option R) : Option R :=
  cond (decide (0 ≤ v330)) (cond (decide (0 ≤ v330)) (cond (decide (v330 < (v328.length : Int))) (cond (decide (((v328.getD (Int.toNat v330) zSpan).xFrom) < (wr .i64 (p1 + (p2.length : Int))))) (cond (decide (0 ≤ v330)) (cond (decide (v330 < (v328.length : Int))) (cond (decide (p1 < ((v328.getD (Int.toNat v330) zSpan).xTo))) (cond (decide (0 < (p2.length : Int))) (cond (decide (0 ≤ v330)) (cond (decide (v330 < (v328.length : Int))) (cond (cp ([(v328.getD (Int.toNat v330) zSpan)].length + p0.xFirst.length) 16) (ke0 ([(v328.getD (Int.toNat v330) zSpan)] ++ p0.xFirst)) (none)) (none)) (none)) (kn (wr .i64 (v330 - 1)))) (kn (wr .i64 (v330 - 1)))) (none)) (none)) (kn (wr .i64 (v330 - 1)))) (none)) (none)) (ke0 p0.xFirst)
def l17_10 (cp : CP) (n : Nat) : Nat → SRecv → Int → (List Int) → (List SSpan) → Int → ((List SSpan) → Option R) → Option R
  | 0, _, _, _, _, _, _ => none
  | m + 1, p0, p1, p2, v328, v330, ke0 =>
    s17_5 cp n p0 p1 p2 v328 v330 (fun v331 => l17_10 cp n m p0 p1 p2 v328 v331 ke0) (fun v332 => (ke0 v332))
def s17_11 (cp : CP) (n : Nat) (p0 : SRecv) (p1 : Int) (p2 : (List Int)) (v328 : (List SSpan)) (v329 : Int) (ke0 : (List SSpan) → Option R) : Option R :=
  l17_10 cp n n p0 p1 p2 v328 v329 ke0
def s17_13 (cp : CP) (n : Nat) (p0 : SRecv) (p1 : Int) (p2 : (List Int)) (v328 : (List SSpan)) (v329 : Int) (kn : (List SSpan) → Option R) : Option R :=
  s17_11 cp n p0 p1 p2 v328 v329 (fun v333 => (kn v333))
def s17_15 (cp : CP) (n : Nat) (p0 : SRecv) (p1 : Int) (p2 : (List Int)) (v328 : (List SSpan)) (kn : (List SSpan) → Option R) : Option R :=
  s17_3 cp n p0 p1 p2 v328 (fun v329 => s17_13 cp n p0 p1 p2 v328 v329 (fun v334 => (kn v334)))
def s17_16 (cp : CP) (n : Nat) (v328 v335 : (List SSpan)) (kn : Option R) : Option R :=
  kn
def s17_18 (cp : CP) (n : Nat) (v328 v335 : (List SSpan)) (kn : Int → Option R) : Option R :=
  kn (v335.length : Int)
def s17_20 (cp : CP) (n : Nat) (v328 v335 : (List SSpan)) (v336 : Int) (v337 : (List SSpan)) (v338 : Int) (kn : (List SSpan) → Int → Option R) (ke2 : Option R) : Option R :=
  cond (decide (v338 < v336)) (cond (decide (0 ≤ v338)) (cond (decide (v338 < (v335.length : Int))) (G1044 cp n v328 (v335.getD (Int.toNat v338) zSpan) (fun r339 r340 => cond (decide (0 ≤ r339)) (cond (decide (0 ≤ r339)) (cond (decide (r339 < (v328.length : Int))) (G38 cp n v337 (v328.getD (Int.toNat r339) zSpan) (fun r341 => cond (!r341) (cond (decide (0 ≤ r339)) (cond (decide (r339 < (v328.length : Int))) (cond (cp (v337.length + [(v328.getD (Int.toNat r339) zSpan)].length) 16) (kn (v337 ++ [(v328.getD (Int.toNat r339) zSpan)]) (wr .i64 (v338 + 1))) (none)) (none)) (none)) (kn v337 (wr .i64 (v338 + 1))))) (none)) (none)) (kn v337 (wr .i64 (v338 + 1))))) (none)) (none)) (ke2)
def l17_25 (cp : CP) (n : Nat) : Nat → (List SSpan) → (List SSpan) → Int → (List SSpan) → Int → ((List SSpan) → Option R) → Option R
  | 0, _, _, _, _, _, _ => none
  | m + 1, v328, v335, v336, v337, v338, ke2 =>
    s17_20 cp n v328 v335 v336 v337 v338 (fun v342 v343 => l17_25 cp n m v328 v335 v336 v342 v343 ke2) (ke2 v337)
def s17_26 (cp : CP) (n : Nat) (v328 v335 : (List SSpan)) (v336 : Int) (ke2 : (List SSpan) → Option R) : Option R :=
  l17_25 cp n n v328 v335 v336 [] 0 ke2
def s17_28 (cp : CP) (n : Nat) (v328 v335 : (List SSpan)) (v336 : Int) (kn : (List SSpan) → Option R) : Option R :=
  s17_26 cp n v328 v335 v336 (fun v344 => (kn v344))
def s17_30 (cp : CP) (n : Nat) (v328 v335 : (List SSpan)) (kn : (List SSpan) → Option R) : Option R :=
  s17_18 cp n v328 v335 (fun v336 => s17_28 cp n v328 v335 v336 (fun v345 => (kn v345)))
def s17_31 (cp : CP) (n : Nat) (v346 : (List SSpan)) (kr : Option R) : Option R :=
  kr
def s17_34 (cp : CP) (n : Nat) (v328 v335 : (List SSpan)) (kr : (List SSpan) → Option R) : Option R :=
  s17_30 cp n v328 v335 (fun v346 => s17_31 cp n v346 (kr v346))
def s17_36 (cp : CP) (n : Nat) (v328 v335 : (List SSpan)) (kr : (List SSpan) → Option R) : Option R :=
  s17_16 cp n v328 v335 (s17_34 cp n v328 v335 (fun v347 => (kr v347)))
def s17_38 (cp : CP) (n : Nat) (p0 : SRecv) (p1 : Int) (p2 : (List Int)) (v328 : (List SSpan)) (kr : (List SSpan) → Option R) : Option R :=
  s17_15 cp n p0 p1 p2 v328 (fun v335 => s17_36 cp n v328 v335 (fun v348 => (kr v348)))
def s17_40 (cp : CP) (n : Nat) (p0 : SRecv) (p1 : Int) (p2 : (List Int)) (kr : (List SSpan) → Option R) : Option R :=
  s17_1 cp n p0 p1 p2 (fun v328 => s17_38 cp n p0 p1 p2 v328 (fun v349 => (kr v349)))
def G17 (cp : CP) : Nat → SRecv → Int → (List Int) → ((List SSpan) → Option R) → Option R
  | 0, _, _, _, _ => none
  | n + 1, p0, p1, p2, k =>
    s17_40 cp n p0 p1 p2 (fun v350 => k v350)
/-! tideway/recv.Input -/
def s6_1 (cp : CP) (n : Nat) (p0 : SRecv) (p1 : SSegment) (kn : Int → SRecv → Option R) (kr : Int → SRecv → Option R) : Option R :=
  G10 cp n p0 (fun r100 => cond (!decide (r100 = 0)) (kr r100 (SRecv.mk 0 [] [] 0 0 0 0 false false 0 false [] 0 0 false)) (G11 cp n p0 (fun r101 => cond (r101.xStamps) (cond (!p1.xStamped) (kr 0 r101) (G12 cp n r101.xNext (wr .u32 (p1.xSeq - r101.xIrs)) (fun r102 => kn r102 r101))) (G12 cp n r101.xNext (wr .u32 (p1.xSeq - r101.xIrs)) (fun r103 => kn r103 r101)))))
def s6_4 (cp : CP) (n : Nat) (p1 : SSegment) (v104 : Int) (v105 : SRecv) (kn : Option R) (kr : SRecv → SSegment → Option R) : Option R :=
  cond (v105.xStamps) (cond (v105.xStamp) (G13 cp n v105.xRecent p1.xVal (fun r108 => cond (decide (r108 < 0)) (G14 cp n v105 [] (fun r109 r110 => kr r109 r110)) (kn))) (kn)) (kn)
def s6_6 (cp : CP) (n : Nat) (p1 : SSegment) (v104 : Int) (v105 : SRecv) (kn : Int → Bool → Option R) : Option R :=
  cond (v105.xStamps) (cond (decide (v104 ≤ v105.xNext)) (kn p1.xVal true) (kn v105.xRecent v105.xStamp)) (kn v105.xRecent v105.xStamp)
def s6_8 (cp : CP) (n : Nat) (p1 : SSegment) (v104 : Int) (v105 : SRecv) (v113 : Int) (v114 : Bool) (kn : Bool → SRecv → Option R) : Option R :=
  cond (decide (0 < (bits .and .i64 p1.xFlags 1))) (G15 cp n (SRecv.mk v105.xNext v105.xUnread v105.xLate v105.xCap v105.xShift v105.xEdge v113 v105.xStamps v105.xSacks v105.xFin v105.xDone v105.xFirst v105.xIrs v105.xOwn v114) (wr .i64 (v104 + (p1.xData.length : Int))) (fun r121 => G16 cp n (SRecv.mk v105.xNext v105.xUnread v105.xLate v105.xCap v105.xShift v105.xEdge v113 v105.xStamps v105.xSacks r121 v105.xDone v105.xFirst v105.xIrs v105.xOwn v114) v104 p1.xData (fun r122 r123 => kn r123 (SRecv.mk r122.xNext r122.xUnread r122.xLate r122.xCap r122.xShift r122.xEdge r122.xRecent r122.xStamps r122.xSacks r122.xFin (decide (r122.xFin = r122.xNext)) r122.xFirst r122.xIrs r122.xOwn r122.xStamp)))) (G16 cp n (SRecv.mk v105.xNext v105.xUnread v105.xLate v105.xCap v105.xShift v105.xEdge v113 v105.xStamps v105.xSacks v105.xFin v105.xDone v105.xFirst v105.xIrs v105.xOwn v114) v104 p1.xData (fun r124 r125 => kn r125 (SRecv.mk r124.xNext r124.xUnread r124.xLate r124.xCap r124.xShift r124.xEdge r124.xRecent r124.xStamps r124.xSacks r124.xFin (decide (r124.xFin = r124.xNext)) r124.xFirst r124.xIrs r124.xOwn r124.xStamp)))
def s6_10 (cp : CP) (n : Nat) (p1 : SSegment) (v104 : Int) (v126 : Bool) (v127 : SRecv) (kn : (List SSpan) → Option R) : Option R :=
  G17 cp n v127 v104 p1.xData (fun r129 => kn r129)
def s6_12 (cp : CP) (n : Nat) (p1 : SSegment) (v104 : Int) (v126 : Bool) (v127 : SRecv) (v130 : (List SSpan)) (kn : (List SBlock) → Option R) : Option R :=
  cond (v127.xSacks) (cond (decide (0 < (p1.xData.length : Int))) (cond (decide (0 ≤ v104)) (cond (!v126) (G18 cp n p1.xSeq (p1.xData.length : Int) (fun r131 => kn [(SBlock.mk p1.xSeq r131)])) (kn [])) (kn [])) (kn [])) (kn [])
def s6_14 (cp : CP) (n : Nat) (v127 : SRecv) (v130 : (List SSpan)) (v132 : (List SBlock)) (kr : SRecv → SSegment → Option R) : Option R :=
  G14 cp n (SRecv.mk v127.xNext v127.xUnread v127.xLate v127.xCap v127.xShift v127.xEdge v127.xRecent v127.xStamps v127.xSacks v127.xFin v127.xDone v130 v127.xIrs v127.xOwn v127.xStamp) v132 (fun r133 r134 => kr r133 r134)
def s6_17 (cp : CP) (n : Nat) (p1 : SSegment) (v104 : Int) (v126 : Bool) (v127 : SRecv) (v130 : (List SSpan)) (kr : SRecv → SSegment → Option R) : Option R :=
  s6_12 cp n p1 v104 v126 v127 v130 (fun v132 => s6_14 cp n v127 v130 v132 (fun v135 v136 => (kr v135 v136)))
def s6_19 (cp : CP) (n : Nat) (p1 : SSegment) (v104 : Int) (v126 : Bool) (v127 : SRecv) (kr : SRecv → SSegment → Option R) : Option R :=
  s6_10 cp n p1 v104 v126 v127 (fun v130 => s6_17 cp n p1 v104 v126 v127 v130 (fun v137 v138 => (kr v137 v138)))
def s6_21 (cp : CP) (n : Nat) (p1 : SSegment) (v104 : Int) (v105 : SRecv) (v113 : Int) (v114 : Bool) (kr : SRecv → SSegment → Option R) : Option R :=
  s6_8 cp n p1 v104 v105 v113 v114 (fun v126 v127 => s6_19 cp n p1 v104 v126 v127 (fun v139 v140 => (kr v139 v140)))
def s6_23 (cp : CP) (n : Nat) (p1 : SSegment) (v104 : Int) (v105 : SRecv) (kr : SRecv → SSegment → Option R) : Option R :=
  s6_6 cp n p1 v104 v105 (fun v113 v114 => s6_21 cp n p1 v104 v105 v113 v114 (fun v141 v142 => (kr v141 v142)))
def s6_25 (cp : CP) (n : Nat) (p1 : SSegment) (v104 : Int) (v105 : SRecv) (kr : SRecv → SSegment → Option R) : Option R :=
  s6_4 cp n p1 v104 v105 (s6_23 cp n p1 v104 v105 (fun v143 v144 => (kr v143 v144))) (fun v111 v112 => (kr v111 v112))
def s6_27 (cp : CP) (n : Nat) (p0 : SRecv) (p1 : SSegment) (kr : Bool → Int → SRecv → SSegment → Option R) : Option R :=
  s6_1 cp n p0 p1 (fun v104 v105 => s6_25 cp n p1 v104 v105 (fun v145 v146 => (kr true 0 v145 v146))) (fun v106 v107 => (kr false v106 v107 (SSegment.mk 0 0 0 0 0 0 0 0 0 false false 0 0 [] [])))
def G6 (cp : CP) : Nat → SRecv → SSegment → (SRecv → SSegment → Bool → Int → Option R) → Option R
  | 0, _, _, _ => none
  | n + 1, p0, p1, k =>
    s6_27 cp n p0 p1 (fun v147 v148 v149 v150 => k v149 v150 v147 v148)
/-! tideway/span.Size -/
def s8_1 (cp : CP) (n : Nat) (p0 : (List SSpan)) (kn : Option R) (kr : Option R) : Option R :=
  G24 cp n p0 (fun r188 => cond (!decide (r188 = 0)) (kr) (kn))
def s8_4 (cp : CP) (n : Nat) (p0 : (List SSpan)) (kn : Int → Option R) : Option R :=
  kn (p0.length : Int)
def s8_6 (cp : CP) (n : Nat) (p0 : (List SSpan)) (v189 v190 v191 : Int) (kn : Int → Int → Option R) (ke0 : Option R) : Option R :=
  cond (decide (v191 < v189)) (cond (decide (0 ≤ v191)) (cond (decide (v191 < (p0.length : Int))) (kn (wr .i64 (v190 + (wr .i64 (((p0.getD (Int.toNat v191) zSpan).xTo) - ((p0.getD (Int.toNat v191) zSpan).xFrom))))) (wr .i64 (v191 + 1))) (none)) (none)) (ke0)
def l8_11 (cp : CP) (n : Nat) : Nat → (List SSpan) → Int → Int → Int → (Int → Option R) → Option R
  | 0, _, _, _, _, _ => none
  | m + 1, p0, v189, v190, v191, ke0 =>
    s8_6 cp n p0 v189 v190 v191 (fun v192 v193 => l8_11 cp n m p0 v189 v192 v193 ke0) (ke0 v190)
def s8_12 (cp : CP) (n : Nat) (p0 : (List SSpan)) (v189 : Int) (ke0 : Int → Option R) : Option R :=
  l8_11 cp n n p0 v189 0 0 ke0
def s8_14 (cp : CP) (n : Nat) (p0 : (List SSpan)) (v189 : Int) (kn : Int → Option R) : Option R :=
  s8_12 cp n p0 v189 (fun v194 => (kn v194))
def s8_16 (cp : CP) (n : Nat) (p0 : (List SSpan)) (kn : Int → Option R) : Option R :=
  s8_4 cp n p0 (fun v189 => s8_14 cp n p0 v189 (fun v195 => (kn v195)))
def s8_17 (cp : CP) (n : Nat) (v196 : Int) (kr : Option R) : Option R :=
  kr
def s8_20 (cp : CP) (n : Nat) (p0 : (List SSpan)) (kr : Int → Option R) : Option R :=
  s8_16 cp n p0 (fun v196 => s8_17 cp n v196 (kr v196))
def s8_22 (cp : CP) (n : Nat) (p0 : (List SSpan)) (kr : Int → Option R) : Option R :=
  s8_1 cp n p0 (s8_20 cp n p0 (fun v197 => (kr v197))) (kr 0)
def G8 (cp : CP) : Nat → (List SSpan) → (Int → Option R) → Option R
  | 0, _, _ => none
  | n + 1, p0, k =>
    s8_22 cp n p0 (fun v198 => k v198)
/-! tideway/tidewaylaw22.AckAnswers -/
def s3_1 (cp : CP) (n : Nat) (p0 : Int) (p1 p2 : (List Int)) (kn : SRecv → Int → Option R) (kr : Bool → Option R) : Option R :=
  cond (decide (200 < (p2.length : Int))) (G4 cp n (fun r88 => kr r88)) (cond (decide (100 < (p1.length : Int))) (G4 cp n (fun r89 => kr r89)) (G5 cp n 1000 0 p0 77 false true (fun r90 r91 => cond (!decide (r91 = 0)) (kr false) (kn r90 (p2.length : Int)))))
def s3_4 (cp : CP) (n : Nat) (p0 : Int) (p1 p2 : (List Int)) (v92 : SRecv) (v93 : Int) (kn : Option R) : Option R :=
  kn
def s3_6 (cp : CP) (n : Nat) (p0 : Int) (p1 p2 : (List Int)) (v93 v95 : Int) (v96 : SRecv) (v97 : Int) (kn : Option R) (ke0 : Option R) : Option R :=
  cond (decide (v95 < (p1.length : Int))) (kn) (ke0)
def s3_9 (cp : CP) (n : Nat) (p0 : Int) (p1 p2 : (List Int)) (v93 v95 : Int) (v96 : SRecv) (v97 : Int) (kn : SRecv → SHeard → Option R) (kr : Option R) : Option R :=
  cond (decide (0 ≤ v95)) (cond (decide (v95 < (p1.length : Int))) (cond (decide ((wr .u64 (wr .i64 ((p2.length : Int) + 1))) = 0)) (none) (cond (decide (0 ≤ v95)) (cond (decide (v95 < (p1.length : Int))) (cond (decide (0 ≤ wr .i64 (Int.tmod (wr .u64 (p1.getD (Int.toNat v95) zint)) (wr .u64 (wr .i64 ((p2.length : Int) + 1)))))) (cond (decide (wr .i64 (Int.tmod (wr .u64 (p1.getD (Int.toNat v95) zint)) (wr .u64 (wr .i64 ((p2.length : Int) + 1)))) ≤ mn (p2.length : Int) (wr .i64 ((wr .i64 ((wr .i64 (Int.tmod (wr .u64 (p1.getD (Int.toNat v95) zint)) (wr .u64 (wr .i64 ((p2.length : Int) + 1))))) + (wr .i64 (Int.tmod (shr .u64 (wr .u64 (p1.getD (Int.toNat v95) zint)) 10) 16)))) + 1)))) (cond (decide (mn (p2.length : Int) (wr .i64 ((wr .i64 ((wr .i64 (Int.tmod (wr .u64 (p1.getD (Int.toNat v95) zint)) (wr .u64 (wr .i64 ((p2.length : Int) + 1))))) + (wr .i64 (Int.tmod (shr .u64 (wr .u64 (p1.getD (Int.toNat v95) zint)) 10) 16)))) + 1)) ≤ (p2.length : Int))) (G6 cp n v96 (SSegment.mk 0 0 (wr .u32 (p0 + (wr .u32 (wr .i64 (Int.tmod (wr .u64 (p1.getD (Int.toNat v95) zint)) (wr .u64 (wr .i64 ((p2.length : Int) + 1)))))))) 0 0 0 0 0 0 false false 0 0 [] (List.take ((Int.toNat (mn (p2.length : Int) (wr .i64 ((wr .i64 ((wr .i64 (Int.tmod (wr .u64 (p1.getD (Int.toNat v95) zint)) (wr .u64 (wr .i64 ((p2.length : Int) + 1))))) + (wr .i64 (Int.tmod (shr .u64 (wr .u64 (p1.getD (Int.toNat v95) zint)) 10) 16)))) + 1)))) - (Int.toNat (wr .i64 (Int.tmod (wr .u64 (p1.getD (Int.toNat v95) zint)) (wr .u64 (wr .i64 ((p2.length : Int) + 1))))))) (p2.drop (Int.toNat (wr .i64 (Int.tmod (wr .u64 (p1.getD (Int.toNat v95) zint)) (wr .u64 (wr .i64 ((p2.length : Int) + 1))))))))) (fun r120 r121 r122 r123 => cond (!decide (r123 = 0)) (kr) (cond (!r122) (kr) (G7 cp n (SAsked.mk v97 v93 p0 0 77 false 0 0 true) r121 (fun r124 => cond (!r124.xCounts) (kr) (cond (r124.xOld) (kr) (cond (!decide (r124.xAck = r120.xNext)) (kr) (kn r120 r124)))))))) (none)) (none)) (none)) (none)) (none))) (none)) (none)
def s3_12 (cp : CP) (n : Nat) (p0 : Int) (p1 p2 : (List Int)) (v93 v95 v97 : Int) (v125 : SRecv) (v126 : SHeard) (kn : Option R) : Option R :=
  kn
def s3_14 (cp : CP) (n : Nat) (p0 : Int) (p1 p2 : (List Int)) (v93 v95 v97 : Int) (v125 : SRecv) (v126 : SHeard) (v127 v128 : Int) (kn : Int → Int → Option R) (ke2 : Option R) : Option R :=
  cond (decide (v128 < (v125.xLate.length : Int))) (cond (decide (0 ≤ v128)) (cond (decide (v128 < (v125.xLate.length : Int))) (kn (wr .i64 (v127 + (((v125.xLate.getD (Int.toNat v128) zPiece).xData).length : Int))) (wr .i64 (v128 + 1))) (none)) (none)) (ke2)
def l3_19 (cp : CP) (n : Nat) : Nat → Int → (List Int) → (List Int) → Int → Int → Int → SRecv → SHeard → Int → Int → (Int → Option R) → Option R
  | 0, _, _, _, _, _, _, _, _, _, _, _ => none
  | m + 1, p0, p1, p2, v93, v95, v97, v125, v126, v127, v128, ke2 =>
    s3_14 cp n p0 p1 p2 v93 v95 v97 v125 v126 v127 v128 (fun v129 v130 => l3_19 cp n m p0 p1 p2 v93 v95 v97 v125 v126 v129 v130 ke2) (ke2 v127)
def s3_20 (cp : CP) (n : Nat) (p0 : Int) (p1 p2 : (List Int)) (v93 v95 v97 : Int) (v125 : SRecv) (v126 : SHeard) (ke2 : Int → Option R) : Option R :=
  l3_19 cp n n p0 p1 p2 v93 v95 v97 v125 v126 0 0 ke2
def s3_22 (cp : CP) (n : Nat) (p0 : Int) (p1 p2 : (List Int)) (v93 v95 v97 : Int) (v125 : SRecv) (v126 : SHeard) (kn : Int → Option R) : Option R :=
  s3_20 cp n p0 p1 p2 v93 v95 v97 v125 v126 (fun v131 => (kn v131))
def s3_24 (cp : CP) (n : Nat) (p0 : Int) (p1 p2 : (List Int)) (v93 v95 v97 : Int) (v125 : SRecv) (v126 : SHeard) (kn : Int → Option R) : Option R :=
  s3_12 cp n p0 p1 p2 v93 v95 v97 v125 v126 (s3_22 cp n p0 p1 p2 v93 v95 v97 v125 v126 (fun v132 => (kn v132)))
def s3_25 (cp : CP) (n : Nat) (p0 : Int) (p1 p2 : (List Int)) (v93 v95 v97 : Int) (v125 : SRecv) (v126 : SHeard) (v133 : Int) (kn : Option R) (kr : Option R) : Option R :=
  cond (decide ((v125.xLate.length : Int) ≤ 3)) (G8 cp n v126.xSpans (fun r134 => cond (!decide (r134 = v133)) (kr) (kn))) (kn)
def s3_27 (cp : CP) (n : Nat) (p0 : Int) (p1 p2 : (List Int)) (v93 v95 v97 : Int) (v125 : SRecv) (v126 : SHeard) (kn : Option R) (kr : Option R) : Option R :=
  s3_24 cp n p0 p1 p2 v93 v95 v97 v125 v126 (fun v133 => s3_25 cp n p0 p1 p2 v93 v95 v97 v125 v126 v133 kn kr)
def s3_29 (cp : CP) (n : Nat) (p0 : Int) (p1 p2 : (List Int)) (v93 v95 : Int) (v96 : SRecv) (v97 : Int) (kn : SRecv → Int → Option R) (kr : Option R) : Option R :=
  s3_9 cp n p0 p1 p2 v93 v95 v96 v97 (fun v125 v126 => s3_27 cp n p0 p1 p2 v93 v95 v97 v125 v126 (kn v125 v126.xAck) kr) kr
def s3_31 (cp : CP) (n : Nat) (p0 : Int) (p1 p2 : (List Int)) (v93 v95 : Int) (v96 : SRecv) (v97 : Int) (kn : SRecv → Int → Option R) (kr : Option R) : Option R :=
  s3_29 cp n p0 p1 p2 v93 v95 v96 v97 (fun v135 v136 => (kn v135 v136)) kr
def s3_32 (cp : CP) (n : Nat) (p0 : Int) (p1 p2 : (List Int)) (v93 v95 : Int) (v137 : SRecv) (v138 : Int) (kn : Int → Option R) : Option R :=
  kn (wr .i64 (v95 + 1))
def s3_35 (cp : CP) (n : Nat) (p0 : Int) (p1 p2 : (List Int)) (v93 v95 : Int) (v96 : SRecv) (v97 : Int) (kn : Int → SRecv → Int → Option R) (kr : Option R) : Option R :=
  s3_31 cp n p0 p1 p2 v93 v95 v96 v97 (fun v137 v138 => s3_32 cp n p0 p1 p2 v93 v95 v137 v138 (fun v139 => (kn v139 v137 v138))) kr
def s3_37 (cp : CP) (n : Nat) (p0 : Int) (p1 p2 : (List Int)) (v93 v95 : Int) (v96 : SRecv) (v97 : Int) (kn : Int → SRecv → Int → Option R) (kr : Option R) (ke0 : Option R) : Option R :=
  s3_6 cp n p0 p1 p2 v93 v95 v96 v97 (s3_35 cp n p0 p1 p2 v93 v95 v96 v97 (fun v140 v141 v142 => (kn v140 v141 v142)) kr) ke0
def l3_38 (cp : CP) (n : Nat) : Nat → Int → (List Int) → (List Int) → Int → Int → SRecv → Int → (Option R) → (Option R) → Option R
  | 0, _, _, _, _, _, _, _, _, _ => none
  | m + 1, p0, p1, p2, v93, v95, v96, v97, kr, ke0 =>
    s3_37 cp n p0 p1 p2 v93 v95 v96 v97 (fun v143 v144 v145 => l3_38 cp n m p0 p1 p2 v93 v143 v144 v145 kr ke0) kr ke0
def s3_39 (cp : CP) (n : Nat) (p0 : Int) (p1 p2 : (List Int)) (v92 : SRecv) (v93 : Int) (kr : Option R) (ke0 : Option R) : Option R :=
  l3_38 cp n n p0 p1 p2 v93 0 v92 0 kr ke0
def s3_40 (cp : CP) (n : Nat) (p0 : Int) (p1 p2 : (List Int)) (v92 : SRecv) (v93 : Int) (kn : Option R) (kr : Option R) : Option R :=
  s3_39 cp n p0 p1 p2 v92 v93 kr kn
def s3_41 (cp : CP) (n : Nat) (p0 : Int) (p1 p2 : (List Int)) (v92 : SRecv) (v93 : Int) (kn : Option R) (kr : Option R) : Option R :=
  s3_4 cp n p0 p1 p2 v92 v93 (s3_40 cp n p0 p1 p2 v92 v93 kn kr)
def s3_42 (cp : CP) (n : Nat) (kr : Bool → Option R) : Option R :=
  G4 cp n (fun r146 => kr r146)
def s3_45 (cp : CP) (n : Nat) (p0 : Int) (p1 p2 : (List Int)) (v92 : SRecv) (v93 : Int) (kr : Bool → Option R) : Option R :=
  s3_41 cp n p0 p1 p2 v92 v93 (s3_42 cp n (fun v147 => (kr v147))) (kr false)
def s3_47 (cp : CP) (n : Nat) (p0 : Int) (p1 p2 : (List Int)) (kr : Bool → Option R) : Option R :=
  s3_1 cp n p0 p1 p2 (fun v92 v93 => s3_45 cp n p0 p1 p2 v92 v93 (fun v148 => (kr v148))) (fun v94 => (kr v94))
def G3 (cp : CP) : Nat → Int → (List Int) → (List Int) → (Bool → Option R) → Option R
  | 0, _, _, _, _ => none
  | n + 1, p0, p1, p2, k =>
    s3_47 cp n p0 p1 p2 (fun v149 => k v149)
def ca13 (cp : CP) (n : Nat) (av : Fr) (cs : List Fr) (k : Ret2 RW → Option R) : Option R := match av, cs with
  | [y0, y1], [] => (dI .u32 y0).bind fun p0 => (dI .u32 y1).bind fun p1 => G13 cp n p0 p1 (fun r0 => k ⟨(tL r0), [], []⟩)
  | _, _ => none
def ca29 (cp : CP) (n : Nat) (av : Fr) (cs : List Fr) (k : Ret2 RW → Option R) : Option R := match av, cs with
  | [y0, y1], [] => (dI .i64 y0).bind fun p0 => (dI .i64 y1).bind fun p1 => G29 cp n p0 p1 (fun r0 => k ⟨(tL r0), [], []⟩)
  | _, _ => none
def ca12 (cp : CP) (n : Nat) (av : Fr) (cs : List Fr) (k : Ret2 RW → Option R) : Option R := match av, cs with
  | [y0, y1], [] => (dI .i64 y0).bind fun p0 => (dI .u32 y1).bind fun p1 => G12 cp n p0 p1 (fun r0 => k ⟨(tL r0), [], []⟩)
  | _, _ => none
def ca19 (cp : CP) (n : Nat) (av : Fr) (cs : List Fr) (k : Ret2 RW → Option R) : Option R := match av, cs with
  | [y0, y1], [] => (dA y0).bind fun c0_ => (dAsked c0_).bind fun p0 => (dA y1).bind fun c1_ => (dSegment c1_).bind fun p1 => G19 cp n p0 p1 (fun r0 r1 => k ⟨.tup [(tL r0), (tB r1)], [], []⟩)
  | _, _ => none
def ca1008 (cp : CP) (n : Nat) (av : Fr) (cs : List Fr) (k : Ret2 RW → Option R) : Option R := match av, cs with
  | [y0, y1], [w0] => (dI .u32 y0).bind fun p0 => (dP 11 0 y1).bind fun _ => (dAsked w0).bind fun q0 => G1008 cp n p0 q0 (fun r0 r1 => k ⟨(tL r0), [(eAsked r1)], []⟩)
  | _, _ => none
def ca1007 (cp : CP) (n : Nat) (av : Fr) (cs : List Fr) (k : Ret2 RW → Option R) : Option R := match av, cs with
  | [y0, y1], [w0] => (dRBlock false y0).bind fun p0 => (dC 21 [(34, 0)] y1).bind fun _ => (dAsked w0).bind fun q0 => G1007 cp n p0 q0 (fun r0 r1 => k ⟨.row false (.rSpan r0), [(eAsked r1)], []⟩)
  | _, _ => none
def ca22 (cp : CP) (n : Nat) (av : Fr) (cs : List Fr) (k : Ret2 RW → Option R) : Option R := match av, cs with
  | [y0, y1], [] => (dRSpan false y0).bind fun p0 => (dI .i64 y1).bind fun p1 => G22 cp n p0 p1 (fun r0 => k ⟨(tB r0), [], []⟩)
  | _, _ => none
def ca40 (cp : CP) (n : Nat) (av : Fr) (cs : List Fr) (k : Ret2 RW → Option R) : Option R := match av, cs with
  | [y0], [] => (dA y0).bind fun c0_ => (dSpan c0_).bind fun p0 => G40 cp n p0 (fun r0 => k ⟨(tB r0), [], []⟩)
  | _, _ => none
def ca24 (cp : CP) (n : Nat) (av : Fr) (cs : List Fr) (k : Ret2 RW → Option R) : Option R := match av, cs with
  | [y0], [] => (dRSpan false y0).bind fun p0 => G24 cp n p0 (fun r0 => k ⟨(tL r0), [], []⟩)
  | _, _ => none
def ca39 (cp : CP) (n : Nat) (av : Fr) (cs : List Fr) (k : Ret2 RW → Option R) : Option R := match av, cs with
  | [y0, y1], [] => (dRSpan false y0).bind fun p0 => (dA y1).bind fun c1_ => (dSpan c1_).bind fun p1 => G39 cp n p0 p1 (fun r0 => k ⟨(tL r0), [], []⟩)
  | _, _ => none
def ca27 (cp : CP) (n : Nat) (av : Fr) (cs : List Fr) (k : Ret2 RW → Option R) : Option R := match av, cs with
  | [y0], [] => (dRSpan false y0).bind fun p0 => G27 cp n p0 (fun r0 => k ⟨.row true (.rSpan r0), [], []⟩)
  | _, _ => none
def ca23 (cp : CP) (n : Nat) (av : Fr) (cs : List Fr) (k : Ret2 RW → Option R) : Option R := match av, cs with
  | [y0, y1], [] => (dRSpan false y0).bind fun p0 => (dA y1).bind fun c1_ => (dSpan c1_).bind fun p1 => G23 cp n p0 p1 (fun r0 r1 => k ⟨.tup [.row false (.rSpan r0), (tL r1)], [], []⟩)
  | _, _ => none
def ca7 (cp : CP) (n : Nat) (av : Fr) (cs : List Fr) (k : Ret2 RW → Option R) : Option R := match av, cs with
  | [y0, y1], [] => (dA y0).bind fun c0_ => (dAsked c0_).bind fun p0 => (dA y1).bind fun c1_ => (dSegment c1_).bind fun p1 => G7 cp n p0 p1 (fun r0 => k ⟨.agg (eHeard r0), [], []⟩)
  | _, _ => none
def ca4 (cp : CP) (n : Nat) (av : Fr) (cs : List Fr) (k : Ret2 RW → Option R) : Option R := match av, cs with
  | [], [] => G4 cp n (fun r0 => k ⟨(tB r0), [], []⟩)
  | _, _ => none
def ca9 (cp : CP) (n : Nat) (av : Fr) (cs : List Fr) (k : Ret2 RW → Option R) : Option R := match av, cs with
  | [y0], [] => (dA y0).bind fun c0_ => (dRecv c0_).bind fun p0 => G9 cp n p0 (fun r0 => k ⟨(tL r0), [], []⟩)
  | _, _ => none
def ca5 (cp : CP) (n : Nat) (av : Fr) (cs : List Fr) (k : Ret2 RW → Option R) : Option R := match av, cs with
  | [y0, y1, y2, y3, y4, y5], [] => (dI .i64 y0).bind fun p0 => (dI .i64 y1).bind fun p1 => (dI .u32 y2).bind fun p2 => (dI .u32 y3).bind fun p3 => (dB y4).bind fun p4 => (dB y5).bind fun p5 => G5 cp n p0 p1 p2 p3 p4 p5 (fun r0 r1 => k ⟨.tup [.agg (eRecv r0), (tL r1)], [], []⟩)
  | _, _ => none
def ca25 (cp : CP) (n : Nat) (av : Fr) (cs : List Fr) (k : Ret2 RW → Option R) : Option R := match av, cs with
  | [y0], [] => (dA y0).bind fun c0_ => (dRecv c0_).bind fun p0 => G25 cp n p0 (fun r0 => k ⟨(tL r0), [], []⟩)
  | _, _ => none
def ca31 (cp : CP) (n : Nat) (av : Fr) (cs : List Fr) (k : Ret2 RW → Option R) : Option R := match av, cs with
  | [y0], [] => (dA y0).bind fun c0_ => (dRecv c0_).bind fun p0 => G31 cp n p0 (fun r0 => k ⟨(tL r0), [], []⟩)
  | _, _ => none
def ca30 (cp : CP) (n : Nat) (av : Fr) (cs : List Fr) (k : Ret2 RW → Option R) : Option R := match av, cs with
  | [y0], [] => (dA y0).bind fun c0_ => (dRecv c0_).bind fun p0 => G30 cp n p0 (fun r0 => k ⟨.clo 41 [(4, 0)], [], [(eRecv r0)]⟩)
  | _, _ => none
def ca42 (cp : CP) (n : Nat) (av : Fr) (cs : List Fr) (k : Ret2 RW → Option R) : Option R := match av, cs with
  | [y0], [] => (dA y0).bind fun c0_ => (dPiece c0_).bind fun p0 => G42 cp n p0 (fun r0 => k ⟨.agg (eSpan r0), [], []⟩)
  | _, _ => none
def ca1024 (cp : CP) (n : Nat) (av : Fr) (cs : List Fr) (k : Ret2 RW → Option R) : Option R := match av, cs with
  | [y0, y1], [w0] => (dRSpan true y0).bind fun p0 => (dC 41 [(32, 0)] y1).bind fun _ => (dRecv w0).bind fun q0 => G1024 cp n p0 q0 (fun r0 r1 => k ⟨.row false (.rSpan r0), [(eRecv r1)], []⟩)
  | _, _ => none
def ca1023 (cp : CP) (n : Nat) (av : Fr) (cs : List Fr) (k : Ret2 RW → Option R) : Option R := match av, cs with
  | [y0], [w0] => (dC 41 [(5, 0)] y0).bind fun _ => (dRecv w0).bind fun q0 => G1023 cp n q0 (fun r0 r1 => k ⟨.row false (.rSpan r0), [(eRecv r1)], []⟩)
  | _, _ => none
def ca50 (cp : CP) (n : Nat) (av : Fr) (cs : List Fr) (k : Ret2 RW → Option R) : Option R := match av, cs with
  | [y0, y1], [] => (dRSpan false y0).bind fun p0 => (dA y1).bind fun c1_ => (dSpan c1_).bind fun p1 => G50 cp n p0 p1 (fun r0 => k ⟨(tL r0), [], []⟩)
  | _, _ => none
def ca38 (cp : CP) (n : Nat) (av : Fr) (cs : List Fr) (k : Ret2 RW → Option R) : Option R := match av, cs with
  | [y0, y1], [] => (dRSpan false y0).bind fun p0 => (dA y1).bind fun c1_ => (dSpan c1_).bind fun p1 => G38 cp n p0 p1 (fun r0 => k ⟨(tB r0), [], []⟩)
  | _, _ => none
def ca26 (cp : CP) (n : Nat) (av : Fr) (cs : List Fr) (k : Ret2 RW → Option R) : Option R := match av, cs with
  | [y0], [] => (dA y0).bind fun c0_ => (dRecv c0_).bind fun p0 => G26 cp n p0 (fun r0 => k ⟨(tB r0), [], []⟩)
  | _, _ => none
def ca10 (cp : CP) (n : Nat) (av : Fr) (cs : List Fr) (k : Ret2 RW → Option R) : Option R := match av, cs with
  | [y0], [] => (dA y0).bind fun c0_ => (dRecv c0_).bind fun p0 => G10 cp n p0 (fun r0 => k ⟨(tL r0), [], []⟩)
  | _, _ => none
def ca28 (cp : CP) (n : Nat) (av : Fr) (cs : List Fr) (k : Ret2 RW → Option R) : Option R := match av, cs with
  | [y0], [] => (dRuint8 false y0).bind fun p0 => G28 cp n p0 (fun r0 => k ⟨.row true (.ruint8 r0), [], []⟩)
  | _, _ => none
def ca11 (cp : CP) (n : Nat) (av : Fr) (cs : List Fr) (k : Ret2 RW → Option R) : Option R := match av, cs with
  | [y0], [] => (dA y0).bind fun c0_ => (dRecv c0_).bind fun p0 => G11 cp n p0 (fun r0 => k ⟨.agg (eRecvt r0), [], []⟩)
  | _, _ => none
def ca18 (cp : CP) (n : Nat) (av : Fr) (cs : List Fr) (k : Ret2 RW → Option R) : Option R := match av, cs with
  | [y0, y1], [] => (dI .u32 y0).bind fun p0 => (dI .i64 y1).bind fun p1 => G18 cp n p0 p1 (fun r0 => k ⟨(tI .u32 r0), [], []⟩)
  | _, _ => none
def ca14 (cp : CP) (n : Nat) (av : Fr) (cs : List Fr) (k : Ret2 RW → Option R) : Option R := match av, cs with
  | [y0, y1], [] => (dA y0).bind fun c0_ => (dRecv c0_).bind fun p0 => (dRBlock true y1).bind fun p1 => G14 cp n p0 p1 (fun r0 r1 => k ⟨.tup [.agg (eRecv r0), .agg [(tL r1.xSrcPort), (tL r1.xDstPort), (tI .u32 r1.xSeq), (tI .u32 r1.xAck), (tL r1.xFlags), (tL r1.xWin), (tL r1.xUrg), (tL r1.xMss), (tL r1.xScale), (tB r1.xSackOk), (tB r1.xStamped), (tI .u32 r1.xVal), (tI .u32 r1.xEcr), .row true (.rBlock r1.xSacks), .row false (.ruint8 r1.xData)]], [], []⟩)
  | _, _ => none
def ca15 (cp : CP) (n : Nat) (av : Fr) (cs : List Fr) (k : Ret2 RW → Option R) : Option R := match av, cs with
  | [y0, y1], [] => (dA y0).bind fun c0_ => (dRecv c0_).bind fun p0 => (dI .i64 y1).bind fun p1 => G15 cp n p0 p1 (fun r0 => k ⟨(tL r0), [], []⟩)
  | _, _ => none
def ca48 (cp : CP) (n : Nat) (av : Fr) (cs : List Fr) (k : Ret2 RW → Option R) : Option R := match av, cs with
  | [y0, y1], [] => (dRSpan false y0).bind fun p0 => (dA y1).bind fun c1_ => (dSpan c1_).bind fun p1 => G48 cp n p0 p1 (fun r0 r1 => k ⟨.clo 53 [(6, 0), (8, 0)], [], [[.row false (.rSpan r0)], (eSpan r1)]⟩)
  | _, _ => none
def ca34 (cp : CP) (n : Nat) (av : Fr) (cs : List Fr) (k : Ret2 RW → Option R) : Option R := match av, cs with
  | [y0, y1], [] => (dRSpan false y0).bind fun p0 => (dA y1).bind fun c1_ => (dSpan c1_).bind fun p1 => G34 cp n p0 p1 (fun r0 => k ⟨.row false (.rSpan r0), [], []⟩)
  | _, _ => none
def ca44 (cp : CP) (n : Nat) (av : Fr) (cs : List Fr) (k : Ret2 RW → Option R) : Option R := match av, cs with
  | [y0, y1], [] => (dA y0).bind fun c0_ => (dPiece c0_).bind fun p0 => (dI .i64 y1).bind fun p1 => G44 cp n p0 p1 (fun r0 => k ⟨(tL r0), [], []⟩)
  | _, _ => none
def ca1038 (cp : CP) (n : Nat) (av : Fr) (cs : List Fr) (k : Ret2 RW → Option R) : Option R := match av, cs with
  | [y0, y1, y2], [] => (dRPiece false y0).bind fun p0 => (dI .i64 y1).bind fun p1 => (dC 44 [] y2).bind fun _ => G1038 cp n p0 p1 (fun r0 r1 => k ⟨.tup [(tL r0), (tB r1)], [], []⟩)
  | _, _ => none
def ca1040 (cp : CP) (n : Nat) (av : Fr) (cs : List Fr) (k : Ret2 RW → Option R) : Option R := match av, cs with
  | [y0], [] => (dRPiece false y0).bind fun p0 => G1040 cp n p0 (fun r0 => k ⟨.un none (.rPiece r0), [], []⟩)
  | _, _ => none
def ca45 (cp : CP) (n : Nat) (av : Fr) (cs : List Fr) (k : Ret2 RW → Option R) : Option R := match av, cs with
  | [y0, y1, y2], [] => (dUPiece y0).bind fun p0 => (dI .i64 y1).bind fun p1 => (dXPiece y2).bind fun p2 => G45 cp n p0 p1 p2 (fun r0 => k ⟨.un none (.rPiece r0), [], []⟩)
  | _, _ => none
def ca47 (cp : CP) (n : Nat) (av : Fr) (cs : List Fr) (k : Ret2 RW → Option R) : Option R := match av, cs with
  | [y0], [] => (dRuint8 false y0).bind fun p0 => G47 cp n p0 (fun r0 => k ⟨.row true (.ruint8 r0), [], []⟩)
  | _, _ => none
def ca33 (cp : CP) (n : Nat) (av : Fr) (cs : List Fr) (k : Ret2 RW → Option R) : Option R := match av, cs with
  | [y0, y1], [] => (dRPiece false y0).bind fun p0 => (dA y1).bind fun c1_ => (dPiece c1_).bind fun p1 => G33 cp n p0 p1 (fun r0 => k ⟨.row true (.rPiece r0), [], []⟩)
  | _, _ => none
def ca1036 (cp : CP) (n : Nat) (av : Fr) (cs : List Fr) (k : Ret2 RW → Option R) : Option R := match av, cs with
  | [y0, y1, y2, y3, y4], [w0, w1, w2, w3] => (dA y0).bind fun c0_ => (dSpan c0_).bind fun p0 => (dP 43 0 y1).bind fun _ => (dP 23 0 y2).bind fun _ => (dP 41 0 y3).bind fun _ => (dP 39 0 y4).bind fun _ => (dRecvt w0).bind fun q0 => (dOne w1).bind fun u1 => (dI .i64 u1).bind fun q1 => (dOne w2).bind fun u2 => (dRuint8 false u2).bind fun q2 => (dOne w3).bind fun u3 => (dB u3).bind fun q3 => G1036 cp n p0 q0 q1 q2 q3 (fun r0 r1 r2 r3 => k ⟨.tup [], [(eRecvt r0), [(tL r1)], [.row false (.ruint8 r2)], [(tB r3)]], []⟩)
  | _, _ => none
def ca16 (cp : CP) (n : Nat) (av : Fr) (cs : List Fr) (k : Ret2 RW → Option R) : Option R := match av, cs with
  | [y0, y1, y2], [] => (dA y0).bind fun c0_ => (dRecvt c0_).bind fun p0 => (dI .i64 y1).bind fun p1 => (dRuint8 false y2).bind fun p2 => G16 cp n p0 p1 p2 (fun r0 r1 => k ⟨.tup [.agg [(tL r0.xNext), .row true (.ruint8 r0.xUnread), .row false (.rPiece r0.xLate), (tL r0.xCap), (tL r0.xShift), (tL r0.xEdge), (tI .u32 r0.xRecent), (tB r0.xStamps), (tB r0.xSacks), (tL r0.xFin), (tB r0.xDone), .row true (.rSpan r0.xFirst), (tI .u32 r0.xIrs), (tI .u32 r0.xOwn), (tB r0.xStamp)], (tB r1)], [], []⟩)
  | _, _ => none
def ca1045 (cp : CP) (n : Nat) (av : Fr) (cs : List Fr) (k : Ret2 RW → Option R) : Option R := match av, cs with
  | [y0, y1], [w0] => (dA y0).bind fun c0_ => (dSpan c0_).bind fun p0 => (dP 16 0 y1).bind fun _ => (dSpan w0).bind fun q0 => G1045 cp n p0 q0 (fun r0 r1 => k ⟨(tB r0), [(eSpan r1)], []⟩)
  | _, _ => none
def ca1044 (cp : CP) (n : Nat) (av : Fr) (cs : List Fr) (k : Ret2 RW → Option R) : Option R := match av, cs with
  | [y0, y1], [w0] => (dRSpan false y0).bind fun p0 => (dC 37 [(19, 0)] y1).bind fun _ => (dSpan w0).bind fun q0 => G1044 cp n p0 q0 (fun r0 r1 => k ⟨(tL r0), [(eSpan r1)], []⟩)
  | _, _ => none
def ca17 (cp : CP) (n : Nat) (av : Fr) (cs : List Fr) (k : Ret2 RW → Option R) : Option R := match av, cs with
  | [y0, y1, y2], [] => (dA y0).bind fun c0_ => (dRecv c0_).bind fun p0 => (dI .i64 y1).bind fun p1 => (dRuint8 false y2).bind fun p2 => G17 cp n p0 p1 p2 (fun r0 => k ⟨.row true (.rSpan r0), [], []⟩)
  | _, _ => none
def ca6 (cp : CP) (n : Nat) (av : Fr) (cs : List Fr) (k : Ret2 RW → Option R) : Option R := match av, cs with
  | [y0, y1], [] => (dA y0).bind fun c0_ => (dRecv c0_).bind fun p0 => (dA y1).bind fun c1_ => (dSegment c1_).bind fun p1 => G6 cp n p0 p1 (fun r0 r1 r2 r3 => k ⟨.tup [.agg (eRecv r0), .agg (eSegment r1), (tB r2), (tL r3)], [], []⟩)
  | _, _ => none
def ca8 (cp : CP) (n : Nat) (av : Fr) (cs : List Fr) (k : Ret2 RW → Option R) : Option R := match av, cs with
  | [y0], [] => (dRSpan false y0).bind fun p0 => G8 cp n p0 (fun r0 => k ⟨(tL r0), [], []⟩)
  | _, _ => none
def ca3 (cp : CP) (n : Nat) (av : Fr) (cs : List Fr) (k : Ret2 RW → Option R) : Option R := match av, cs with
  | [y0, y1, y2], [] => (dI .u32 y0).bind fun p0 => (dRint false y1).bind fun p1 => (dRuint8 false y2).bind fun p2 => G3 cp n p0 p1 p2 (fun r0 => k ⟨(tB r0), [], []⟩)
  | _, _ => none
def callP (cp : CP) (n : Nat) (id : Nat) (av : Fr) (cs : List Fr) (k : Ret2 RW → Option R) : Option R := match id with
  | 13 => ca13 cp n av cs k
  | 29 => ca29 cp n av cs k
  | 12 => ca12 cp n av cs k
  | 19 => ca19 cp n av cs k
  | 1008 => ca1008 cp n av cs k
  | 1007 => ca1007 cp n av cs k
  | 22 => ca22 cp n av cs k
  | 40 => ca40 cp n av cs k
  | 24 => ca24 cp n av cs k
  | 39 => ca39 cp n av cs k
  | 27 => ca27 cp n av cs k
  | 23 => ca23 cp n av cs k
  | 7 => ca7 cp n av cs k
  | 4 => ca4 cp n av cs k
  | 9 => ca9 cp n av cs k
  | 5 => ca5 cp n av cs k
  | 25 => ca25 cp n av cs k
  | 31 => ca31 cp n av cs k
  | 30 => ca30 cp n av cs k
  | 42 => ca42 cp n av cs k
  | 1024 => ca1024 cp n av cs k
  | 1023 => ca1023 cp n av cs k
  | 50 => ca50 cp n av cs k
  | 38 => ca38 cp n av cs k
  | 26 => ca26 cp n av cs k
  | 10 => ca10 cp n av cs k
  | 28 => ca28 cp n av cs k
  | 11 => ca11 cp n av cs k
  | 18 => ca18 cp n av cs k
  | 14 => ca14 cp n av cs k
  | 15 => ca15 cp n av cs k
  | 48 => ca48 cp n av cs k
  | 34 => ca34 cp n av cs k
  | 44 => ca44 cp n av cs k
  | 1038 => ca1038 cp n av cs k
  | 1040 => ca1040 cp n av cs k
  | 45 => ca45 cp n av cs k
  | 47 => ca47 cp n av cs k
  | 33 => ca33 cp n av cs k
  | 1036 => ca1036 cp n av cs k
  | 16 => ca16 cp n av cs k
  | 1045 => ca1045 cp n av cs k
  | 1044 => ca1044 cp n av cs k
  | 17 => ca17 cp n av cs k
  | 6 => ca6 cp n av cs k
  | 8 => ca8 cp n av cs k
  | 3 => ca3 cp n av cs k
  | _ => none
end
end Go.Proofs.Ytafnmkbehjbkdaa.M
