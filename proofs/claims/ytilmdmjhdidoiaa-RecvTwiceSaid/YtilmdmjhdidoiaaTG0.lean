/- The values of the program's functions, and the functions, plain. -/
import Derived.Test.YtilmdmjhdidoiaaMachX
set_option maxRecDepth 100000
set_option linter.unusedVariables false
namespace Go.Proofs.Ytilmdmjhdidoiaa.M
open Go
noncomputable section
abbrev CP := Nat → Nat → Bool
variable {R : Type}
def str_ : ByteArray := ⟨#[]⟩
def str_abcd : ByteArray := ⟨#[97, 98, 99, 100]⟩
def str_abc : ByteArray := ⟨#[97, 98, 99]⟩
def str_d : ByteArray := ⟨#[100]⟩
def zuint8 : Int := 0
structure SPiece where
  xFrom : Int
  xData : (List Int)
def zPiece : SPiece := ⟨0, []⟩
structure SSpan where
  xFrom : Int
  xTo : Int
def zSpan : SSpan := ⟨0, 0⟩
structure SRecv where
  xNext : Int
  xUnread : (List Int)
  xLate : (List SPiece)
  xCap : Int
  xShift : Int
  xEdge : Int
  xRecent : Int
  xStamps : Bool
  xSacks : Bool
  xFin : Int
  xDone : Bool
  xFirst : (List SSpan)
  xIrs : Int
  xOwn : Int
  xStamp : Bool
def zRecv : SRecv := ⟨0, [], [], 0, 0, 0, 0, false, false, 0, false, [], 0, 0, false⟩
structure SBlock where
  xFrom : Int
  xTo : Int
def zBlock : SBlock := ⟨0, 0⟩
structure SSegment where
  xSrcPort : Int
  xDstPort : Int
  xSeq : Int
  xAck : Int
  xFlags : Int
  xWin : Int
  xUrg : Int
  xMss : Int
  xScale : Int
  xSackOk : Bool
  xStamped : Bool
  xVal : Int
  xEcr : Int
  xSacks : (List SBlock)
  xData : (List Int)
def zSegment : SSegment := ⟨0, 0, 0, 0, 0, 0, 0, 0, 0, false, false, 0, 0, [], []⟩
inductive RW where
  | ruint8 (xs : List Int)
  | rPiece (xs : List SPiece)
  | rSpan (xs : List SSpan)
  | rBlock (xs : List SBlock)

abbrev Fr := List (TV RW)
abbrev FF := FT RW
def tI (k : IntKind) (n : Int) : TV RW := .sc (.int k n)
def tL (n : Int) : TV RW := .sc (.int .i64 n)
def tB (b : Bool) : TV RW := .sc (.bool b)
def dT : Nat → Fr → Fr
  | 0, l => l
  | n + 1, l => .dead :: dT n l
def dc : Fr := dT 16 []
def eRecv (x : SRecv) : List (TV RW) := [(tL x.xNext), .row false (.ruint8 x.xUnread), .row false (.rPiece x.xLate), (tL x.xCap), (tL x.xShift), (tL x.xEdge), (tI .u32 x.xRecent), (tB x.xStamps), (tB x.xSacks), (tL x.xFin), (tB x.xDone), .row false (.rSpan x.xFirst), (tI .u32 x.xIrs), (tI .u32 x.xOwn), (tB x.xStamp)]
def eRecvt (x : SRecv) : List (TV RW) := [(tL x.xNext), .row true (.ruint8 x.xUnread), .row true (.rPiece x.xLate), (tL x.xCap), (tL x.xShift), (tL x.xEdge), (tI .u32 x.xRecent), (tB x.xStamps), (tB x.xSacks), (tL x.xFin), (tB x.xDone), .row true (.rSpan x.xFirst), (tI .u32 x.xIrs), (tI .u32 x.xOwn), (tB x.xStamp)]
def ePiece (x : SPiece) : List (TV RW) := [(tL x.xFrom), .row false (.ruint8 x.xData)]
def ePiecet (x : SPiece) : List (TV RW) := [(tL x.xFrom), .row true (.ruint8 x.xData)]
def eSpan (x : SSpan) : List (TV RW) := [(tL x.xFrom), (tL x.xTo)]
def eSegment (x : SSegment) : List (TV RW) := [(tL x.xSrcPort), (tL x.xDstPort), (tI .u32 x.xSeq), (tI .u32 x.xAck), (tL x.xFlags), (tL x.xWin), (tL x.xUrg), (tL x.xMss), (tL x.xScale), (tB x.xSackOk), (tB x.xStamped), (tI .u32 x.xVal), (tI .u32 x.xEcr), .row false (.rBlock x.xSacks), .row false (.ruint8 x.xData)]
def eSegmentt (x : SSegment) : List (TV RW) := [(tL x.xSrcPort), (tL x.xDstPort), (tI .u32 x.xSeq), (tI .u32 x.xAck), (tL x.xFlags), (tL x.xWin), (tL x.xUrg), (tL x.xMss), (tL x.xScale), (tB x.xSackOk), (tB x.xStamped), (tI .u32 x.xVal), (tI .u32 x.xEcr), .row true (.rBlock x.xSacks), .row true (.ruint8 x.xData)]
def eBlock (x : SBlock) : List (TV RW) := [(tI .u32 x.xFrom), (tI .u32 x.xTo)]
def euint8 (x : Int) : List (TV RW) := [(tI .u8 x)]
def cuint8 (x : Int) : List AV := [.sc (.int .u8 x)]
def cPiece (x : SPiece) : List AV := [.sc (.int .i64 x.xFrom), .row false 1 x.xData.length (rg cuint8 zuint8 x.xData)]
def cSpan (x : SSpan) : List AV := [.sc (.int .i64 x.xFrom), .sc (.int .i64 x.xTo)]
def cBlock (x : SBlock) : List AV := [.sc (.int .u32 x.xFrom), .sc (.int .u32 x.xTo)]
def dOne : Fr → Option (TV RW)
  | [x] => some x
  | _ => none
def dI (kd : IntKind) : TV RW → Option Int
  | .sc (.int k a) => cond (decide (k = kd)) (some a) none
  | _ => none
def dB : TV RW → Option Bool
  | .sc (.bool b) => some b
  | _ => none
def dS : TV RW → Option ByteArray
  | .sc (.string b) => some b
  | _ => none
def dA : TV RW → Option Fr
  | .agg cs => some cs
  | _ => none
def dP (h j : Nat) : TV RW → Option Unit
  | .ptr a b => cond (Nat.beq a h && Nat.beq b j) (some ()) none
  | _ => none
def dC (f : Nat) (cs : List (Nat × Nat)) : TV RW → Option Unit
  | .clo a b => cond (Nat.beq a f && decide (b = cs)) (some ()) none
  | _ => none
def dUPiece : TV RW → Option (List SPiece)
  | .un none (.rPiece xs) => some xs
  | _ => none
def dXPiece : TV RW → Option SPiece
  | .row _ (.rPiece [x]) => some x
  | _ => none
def dRuint8 (fl : Bool) : TV RW → Option (List Int)
  | .row a (.ruint8 xs) => cond (a == fl) (some xs) none
  | _ => none
def dRPiece (fl : Bool) : TV RW → Option (List SPiece)
  | .row a (.rPiece xs) => cond (a == fl) (some xs) none
  | _ => none
def dRSpan (fl : Bool) : TV RW → Option (List SSpan)
  | .row a (.rSpan xs) => cond (a == fl) (some xs) none
  | _ => none
def dRBlock (fl : Bool) : TV RW → Option (List SBlock)
  | .row a (.rBlock xs) => cond (a == fl) (some xs) none
  | _ => none
def dRecv : Fr → Option SRecv
  | [y0, y1, y2, y3, y4, y5, y6, y7, y8, y9, y10, y11, y12, y13, y14] => (dI .i64 y0).bind fun a0 => (dRuint8 false y1).bind fun a1 => (dRPiece false y2).bind fun a2 => (dI .i64 y3).bind fun a3 => (dI .i64 y4).bind fun a4 => (dI .i64 y5).bind fun a5 => (dI .u32 y6).bind fun a6 => (dB y7).bind fun a7 => (dB y8).bind fun a8 => (dI .i64 y9).bind fun a9 => (dB y10).bind fun a10 => (dRSpan false y11).bind fun a11 => (dI .u32 y12).bind fun a12 => (dI .u32 y13).bind fun a13 => (dB y14).bind fun a14 => some ⟨a0, a1, a2, a3, a4, a5, a6, a7, a8, a9, a10, a11, a12, a13, a14⟩
  | _ => none
def dRecvt : Fr → Option SRecv
  | [y0, y1, y2, y3, y4, y5, y6, y7, y8, y9, y10, y11, y12, y13, y14] => (dI .i64 y0).bind fun a0 => (dRuint8 true y1).bind fun a1 => (dRPiece true y2).bind fun a2 => (dI .i64 y3).bind fun a3 => (dI .i64 y4).bind fun a4 => (dI .i64 y5).bind fun a5 => (dI .u32 y6).bind fun a6 => (dB y7).bind fun a7 => (dB y8).bind fun a8 => (dI .i64 y9).bind fun a9 => (dB y10).bind fun a10 => (dRSpan true y11).bind fun a11 => (dI .u32 y12).bind fun a12 => (dI .u32 y13).bind fun a13 => (dB y14).bind fun a14 => some ⟨a0, a1, a2, a3, a4, a5, a6, a7, a8, a9, a10, a11, a12, a13, a14⟩
  | _ => none
def dPiece : Fr → Option SPiece
  | [y0, y1] => (dI .i64 y0).bind fun a0 => (dRuint8 false y1).bind fun a1 => some ⟨a0, a1⟩
  | _ => none
def dPiecet : Fr → Option SPiece
  | [y0, y1] => (dI .i64 y0).bind fun a0 => (dRuint8 true y1).bind fun a1 => some ⟨a0, a1⟩
  | _ => none
def dSpan : Fr → Option SSpan
  | [y0, y1] => (dI .i64 y0).bind fun a0 => (dI .i64 y1).bind fun a1 => some ⟨a0, a1⟩
  | _ => none
def dSegment : Fr → Option SSegment
  | [y0, y1, y2, y3, y4, y5, y6, y7, y8, y9, y10, y11, y12, y13, y14] => (dI .i64 y0).bind fun a0 => (dI .i64 y1).bind fun a1 => (dI .u32 y2).bind fun a2 => (dI .u32 y3).bind fun a3 => (dI .i64 y4).bind fun a4 => (dI .i64 y5).bind fun a5 => (dI .i64 y6).bind fun a6 => (dI .i64 y7).bind fun a7 => (dI .i64 y8).bind fun a8 => (dB y9).bind fun a9 => (dB y10).bind fun a10 => (dI .u32 y11).bind fun a11 => (dI .u32 y12).bind fun a12 => (dRBlock false y13).bind fun a13 => (dRuint8 false y14).bind fun a14 => some ⟨a0, a1, a2, a3, a4, a5, a6, a7, a8, a9, a10, a11, a12, a13, a14⟩
  | _ => none
def dSegmentt : Fr → Option SSegment
  | [y0, y1, y2, y3, y4, y5, y6, y7, y8, y9, y10, y11, y12, y13, y14] => (dI .i64 y0).bind fun a0 => (dI .i64 y1).bind fun a1 => (dI .u32 y2).bind fun a2 => (dI .u32 y3).bind fun a3 => (dI .i64 y4).bind fun a4 => (dI .i64 y5).bind fun a5 => (dI .i64 y6).bind fun a6 => (dI .i64 y7).bind fun a7 => (dI .i64 y8).bind fun a8 => (dB y9).bind fun a9 => (dB y10).bind fun a10 => (dI .u32 y11).bind fun a11 => (dI .u32 y12).bind fun a12 => (dRBlock true y13).bind fun a13 => (dRuint8 true y14).bind fun a14 => some ⟨a0, a1, a2, a3, a4, a5, a6, a7, a8, a9, a10, a11, a12, a13, a14⟩
  | _ => none
def dBlock : Fr → Option SBlock
  | [y0, y1] => (dI .u32 y0).bind fun a0 => (dI .u32 y1).bind fun a1 => some ⟨a0, a1⟩
  | _ => none
def puint8_ : Fr → Option (List Int)
  | [] => some []
  | y0 :: r => (dI .u8 y0).bind fun a0 => (puint8_ r).bind fun xs => some (a0 :: xs)

def pPiece_ : Fr → Option (List SPiece)
  | [] => some []
  | y0 :: y1 :: r => (dI .i64 y0).bind fun a0 => (dRuint8 false y1).bind fun a1 => (pPiece_ r).bind fun xs => some (⟨a0, a1⟩ :: xs)
  | _ => none

def pSpan_ : Fr → Option (List SSpan)
  | [] => some []
  | y0 :: y1 :: r => (dI .i64 y0).bind fun a0 => (dI .i64 y1).bind fun a1 => (pSpan_ r).bind fun xs => some (⟨a0, a1⟩ :: xs)
  | _ => none

def pBlock_ : Fr → Option (List SBlock)
  | [] => some []
  | y0 :: y1 :: r => (dI .u32 y0).bind fun a0 => (dI .u32 y1).bind fun a1 => (pBlock_ r).bind fun xs => some (⟨a0, a1⟩ :: xs)
  | _ => none

def U : Uni RW where
  sz := fun r => match r with
    | .ruint8 xs => 1
    | .rPiece xs => 2
    | .rSpan xs => 2
    | .rBlock xs => 2
  len := fun r => match r with
    | .ruint8 xs => xs.length
    | .rPiece xs => xs.length
    | .rSpan xs => xs.length
    | .rBlock xs => xs.length
  getA := fun r => match r with
    | .ruint8 xs => rg cuint8 zuint8 xs
    | .rPiece xs => rg cPiece zPiece xs
    | .rSpan xs => rg cSpan zSpan xs
    | .rBlock xs => rg cBlock zBlock xs
  get := fun r i => match r with
    | .ruint8 xs => euint8 (xs.getD i zuint8)
    | .rPiece xs => ePiece (xs.getD i zPiece)
    | .rSpan xs => eSpan (xs.getD i zSpan)
    | .rBlock xs => eBlock (xs.getD i zBlock)
  app := fun r q => match r with
    | .ruint8 xs => (match q with
      | .ruint8 ys => some (.ruint8 (xs ++ ys))
      | _ => none)
    | .rPiece xs => (match q with
      | .rPiece ys => some (.rPiece (xs ++ ys))
      | _ => none)
    | .rSpan xs => (match q with
      | .rSpan ys => some (.rSpan (xs ++ ys))
      | _ => none)
    | .rBlock xs => (match q with
      | .rBlock ys => some (.rBlock (xs ++ ys))
      | _ => none)
  sub := fun lo n r => match r with
    | .ruint8 xs => .ruint8 (List.take n (xs.drop lo))
    | .rPiece xs => .rPiece (List.take n (xs.drop lo))
    | .rSpan xs => .rSpan (List.take n (xs.drop lo))
    | .rBlock xs => .rBlock (List.take n (xs.drop lo))
  szt := fun t => match t with
    | 5 => 1
    | 74 => 2
    | 78 => 2
    | 62 => 2
    | _ => 0
  zt := fun t => match t with
    | 5 => euint8 zuint8
    | 74 => ePiece zPiece
    | 78 => eSpan zSpan
    | 62 => eBlock zBlock
    | _ => []
  lit := fun t n L => match t with
    | 5 => (puint8_ L).bind fun xs => cond (Nat.beq xs.length n) (some (.ruint8 xs)) none
    | 74 => (pPiece_ L).bind fun xs => cond (Nat.beq xs.length n) (some (.rPiece xs)) none
    | 78 => (pSpan_ L).bind fun xs => cond (Nat.beq xs.length n) (some (.rSpan xs)) none
    | 62 => (pBlock_ L).bind fun xs => cond (Nat.beq xs.length n) (some (.rBlock xs)) none
    | _ => none
  set := fun r q off cs => match r with
    | .ruint8 xs => none
    | .rPiece xs => (dPiece (splice2 (ePiece (xs.getD q zPiece)) off cs)).bind fun x => some (.rPiece (xs.set q x))
    | .rSpan xs => (dSpan (splice2 (eSpan (xs.getD q zSpan)) off cs)).bind fun x => some (.rSpan (xs.set q x))
    | .rBlock xs => (dBlock (splice2 (eBlock (xs.getD q zBlock)) off cs)).bind fun x => some (.rBlock (xs.set q x))
  str := fun r => match r with
    | .ruint8 xs => some xs
    | .rPiece xs => none
    | .rSpan xs => none
    | .rBlock xs => none
/-! tideway/recv.reach -/
def G27 (cp : CP) : Nat → SRecv → (Int → Option R) → Option R
  | 0, _, _ => none
  | n + 1, p0, k =>
    k (wr .i64 ((wr .i64 (p0.xNext - (p0.xUnread.length : Int))) + p0.xCap))
/-! tideway/recv.limit -/
def G53 (cp : CP) : Nat → SRecv → (Int → Option R) → Option R
  | 0, _, _ => none
  | n + 1, p0, k =>
    G27 cp n p0 (fun r3 => k (mn r3 562949953421312))
/-! tideway/recv.late -/
def G55 (cp : CP) : Nat → SRecv → (SRecv → Option R) → Option R
  | 0, _, _ => none
  | n + 1, p0, k =>
    k p0
/-! tideway/recv.of -/
def G71 (cp : CP) : Nat → SPiece → (SSpan → Option R) → Option R
  | 0, _, _ => none
  | n + 1, p0, k =>
    k (SSpan.mk p0.xFrom (wr .i64 (p0.xFrom + (p0.xData.length : Int))))
/-! slices.AppendSeq[[]tideway/api.Span,tideway/api.Span] -/
def s1008_1 (cp : CP) (n : Nat) (p0 : (List SSpan)) (q0 : SRecv) (kn : Option R) : Option R :=
  kn
def s1008_3 (cp : CP) (n : Nat) (p0 : (List SSpan)) (q0 : SRecv) (kn : Option R) : Option R :=
  kn
def s1008_7 (cp : CP) (n : Nat) (p0 : (List SSpan)) (q0 : SRecv) (kn : Int → Option R) : Option R :=
  kn (q0.xLate.length : Int)
def s1008_9 (cp : CP) (n : Nat) (q0 : SRecv) (v9 v10 : Int) (v11 : (List SSpan)) (kn : Option R) (ke0 : Option R) : Option R :=
  cond (decide (v10 < v9)) (kn) (ke0)
def s1008_12 (cp : CP) (n : Nat) (q0 : SRecv) (v9 v10 : Int) (v11 : (List SSpan)) (kn : Int → (List Int) → Option R) : Option R :=
  cond (decide (0 ≤ v10)) (cond (decide (v10 < (q0.xLate.length : Int))) (kn ((q0.xLate.getD (Int.toNat v10) zPiece).xFrom) ((q0.xLate.getD (Int.toNat v10) zPiece).xData)) (none)) (none)
def s1008_14 (cp : CP) (n : Nat) (q0 : SRecv) (v9 v10 : Int) (v11 : (List SSpan)) (v12 : Int) (v13 : (List Int)) (ka : Int → Int → Option R) : Option R :=
  G71 cp n (SPiece.mk v12 v13) (fun r14 => ka r14.xFrom r14.xTo)
def s1008_16 (cp : CP) (n : Nat) (q0 : SRecv) (v11 : (List SSpan)) (v12 : Int) (v13 : (List Int)) (v15 v16 : Int) (kn : (List SSpan) → Option R) : Option R :=
  cond (cp (v11.length + [(SSpan.mk v15 v16)].length) 16) (kn (v11 ++ [(SSpan.mk v15 v16)])) (none)
def s1008_22 (cp : CP) (n : Nat) (q0 : SRecv) (v9 v10 : Int) (v11 : (List SSpan)) (v12 : Int) (v13 : (List Int)) (kn : (List SSpan) → Option R) : Option R :=
  s1008_14 cp n q0 v9 v10 v11 v12 v13 (fun v15 v16 => s1008_16 cp n q0 v11 v12 v13 v15 v16 (fun v17 => kn v17))
def s1008_23 (cp : CP) (n : Nat) (q0 : SRecv) (v9 v10 : Int) (v18 : (List SSpan)) (kn : Option R) : Option R :=
  kn
def s1008_26 (cp : CP) (n : Nat) (q0 : SRecv) (v9 v10 : Int) (v11 : (List SSpan)) (v12 : Int) (v13 : (List Int)) (kn : (List SSpan) → Option R) : Option R :=
  s1008_22 cp n q0 v9 v10 v11 v12 v13 (fun v18 => s1008_23 cp n q0 v9 v10 v18 (kn v18))
def s1008_28 (cp : CP) (n : Nat) (q0 : SRecv) (v9 v10 : Int) (v11 : (List SSpan)) (kn : (List SSpan) → Option R) : Option R :=
  s1008_12 cp n q0 v9 v10 v11 (fun v12 v13 => s1008_26 cp n q0 v9 v10 v11 v12 v13 (fun v19 => (kn v19)))
def s1008_30 (cp : CP) (n : Nat) (q0 : SRecv) (v9 v10 : Int) (v11 : (List SSpan)) (kn : (List SSpan) → Option R) : Option R :=
  s1008_28 cp n q0 v9 v10 v11 (fun v20 => (kn v20))
def s1008_31 (cp : CP) (n : Nat) (q0 : SRecv) (v9 v10 : Int) (v21 : (List SSpan)) (kn : Int → Option R) : Option R :=
  kn (wr .i64 (v10 + 1))
def s1008_34 (cp : CP) (n : Nat) (q0 : SRecv) (v9 v10 : Int) (v11 : (List SSpan)) (kn : Int → (List SSpan) → Option R) : Option R :=
  s1008_30 cp n q0 v9 v10 v11 (fun v21 => s1008_31 cp n q0 v9 v10 v21 (fun v22 => (kn v22 v21)))
def s1008_36 (cp : CP) (n : Nat) (q0 : SRecv) (v9 v10 : Int) (v11 : (List SSpan)) (kn : Int → (List SSpan) → Option R) (ke0 : Option R) : Option R :=
  s1008_9 cp n q0 v9 v10 v11 (s1008_34 cp n q0 v9 v10 v11 (fun v23 v24 => (kn v23 v24))) ke0
def l1008_38 (cp : CP) (n : Nat) : Nat → SRecv → Int → Int → (List SSpan) → ((List SSpan) → Option R) → Option R
  | 0, _, _, _, _, _ => none
  | m + 1, q0, v9, v10, v11, ke0 =>
    s1008_36 cp n q0 v9 v10 v11 (fun v25 v26 => l1008_38 cp n m q0 v9 v25 v26 ke0) (ke0 v11)
def s1008_39 (cp : CP) (n : Nat) (p0 : (List SSpan)) (q0 : SRecv) (v9 : Int) (ke0 : (List SSpan) → Option R) : Option R :=
  l1008_38 cp n n q0 v9 0 p0 ke0
def s1008_41 (cp : CP) (n : Nat) (p0 : (List SSpan)) (q0 : SRecv) (v9 : Int) (kn : (List SSpan) → Option R) : Option R :=
  s1008_39 cp n p0 q0 v9 (fun v27 => (kn v27))
def s1008_43 (cp : CP) (n : Nat) (p0 : (List SSpan)) (q0 : SRecv) (kn : (List SSpan) → Option R) : Option R :=
  s1008_7 cp n p0 q0 (fun v9 => s1008_41 cp n p0 q0 v9 (fun v28 => (kn v28)))
def s1008_46 (cp : CP) (n : Nat) (p0 : (List SSpan)) (q0 : SRecv) (kn : (List SSpan) → Option R) : Option R :=
  s1008_43 cp n p0 q0 (fun v29 => (kn v29))
def s1008_48 (cp : CP) (n : Nat) (p0 : (List SSpan)) (q0 : SRecv) (kn : (List SSpan) → Option R) : Option R :=
  s1008_46 cp n p0 q0 (fun v30 => (kn v30))
def s1008_50 (cp : CP) (n : Nat) (p0 : (List SSpan)) (q0 : SRecv) (kn : (List SSpan) → Option R) : Option R :=
  s1008_3 cp n p0 q0 (s1008_48 cp n p0 q0 (fun v31 => (kn v31)))
def s1008_51 (cp : CP) (n : Nat) (q0 : SRecv) (v32 : (List SSpan)) (kr : Option R) : Option R :=
  kr
def s1008_54 (cp : CP) (n : Nat) (p0 : (List SSpan)) (q0 : SRecv) (kr : (List SSpan) → Option R) : Option R :=
  s1008_50 cp n p0 q0 (fun v32 => s1008_51 cp n q0 v32 (kr v32))
def s1008_56 (cp : CP) (n : Nat) (p0 : (List SSpan)) (q0 : SRecv) (kr : (List SSpan) → Option R) : Option R :=
  s1008_1 cp n p0 q0 (s1008_54 cp n p0 q0 (fun v33 => (kr v33)))
def G1008 (cp : CP) : Nat → (List SSpan) → SRecv → ((List SSpan) → SRecv → Option R) → Option R
  | 0, _, _, _ => none
  | n + 1, p0, q0, k =>
    s1008_56 cp n p0 q0 (fun v34 => k v34 q0)
/-! slices.Collect[tideway/api.Span] -/
def G1007 (cp : CP) : Nat → SRecv → ((List SSpan) → SRecv → Option R) → Option R
  | 0, _, _ => none
  | n + 1, q0, k =>
    G1008 cp n [] q0 (fun r35 r36 => k r35 r36)
/-! slices.Index[[]tideway/api.Span,tideway/api.Span] -/
def s72_1 (cp : CP) (n : Nat) (p0 : (List SSpan)) (p1 : SSpan) (kn : Option R) : Option R :=
  kn
def s72_3 (cp : CP) (n : Nat) (p0 : (List SSpan)) (p1 : SSpan) (kn : Int → Option R) : Option R :=
  kn (p0.length : Int)
def s72_5 (cp : CP) (n : Nat) (p0 : (List SSpan)) (p1 : SSpan) (v41 v42 : Int) (kn : Int → Option R) (kr : Option R) (ke0 : Option R) : Option R :=
  cond (decide (v42 < v41)) (cond (decide (0 ≤ v42)) (cond (decide (v42 < (p0.length : Int))) (cond ((decide (p1.xFrom = (p0.getD (Int.toNat v42) zSpan).xFrom) && (decide (p1.xTo = (p0.getD (Int.toNat v42) zSpan).xTo) && true))) (kr) (kn (wr .i64 (v42 + 1)))) (none)) (none)) (ke0)
def l72_11 (cp : CP) (n : Nat) : Nat → (List SSpan) → SSpan → Int → Int → (Int → Option R) → (Option R) → Option R
  | 0, _, _, _, _, _, _ => none
  | m + 1, p0, p1, v41, v42, kr, ke0 =>
    s72_5 cp n p0 p1 v41 v42 (fun v43 => l72_11 cp n m p0 p1 v41 v43 kr ke0) (kr v42) ke0
def s72_12 (cp : CP) (n : Nat) (p0 : (List SSpan)) (p1 : SSpan) (v41 : Int) (kr : Int → Option R) (ke0 : Option R) : Option R :=
  l72_11 cp n n p0 p1 v41 0 kr ke0
def s72_14 (cp : CP) (n : Nat) (p0 : (List SSpan)) (p1 : SSpan) (v41 : Int) (kn : Option R) (kr : Int → Option R) : Option R :=
  s72_12 cp n p0 p1 v41 (fun v44 => (kr v44)) kn
def s72_16 (cp : CP) (n : Nat) (p0 : (List SSpan)) (p1 : SSpan) (kn : Option R) (kr : Int → Option R) : Option R :=
  s72_3 cp n p0 p1 (fun v41 => s72_14 cp n p0 p1 v41 kn (fun v45 => (kr v45)))
def s72_17 (cp : CP) (n : Nat) (kr : Option R) : Option R :=
  kr
def s72_20 (cp : CP) (n : Nat) (p0 : (List SSpan)) (p1 : SSpan) (kr : Int → Option R) : Option R :=
  s72_16 cp n p0 p1 (s72_17 cp n (kr (-1))) (fun v46 => (kr v46))
def s72_22 (cp : CP) (n : Nat) (p0 : (List SSpan)) (p1 : SSpan) (kr : Int → Option R) : Option R :=
  s72_1 cp n p0 p1 (s72_20 cp n p0 p1 (fun v47 => (kr v47)))
def G72 (cp : CP) : Nat → (List SSpan) → SSpan → (Int → Option R) → Option R
  | 0, _, _, _ => none
  | n + 1, p0, p1, k =>
    s72_22 cp n p0 p1 (fun v48 => k v48)
/-! slices.Contains[[]tideway/api.Span,tideway/api.Span] -/
def G56 (cp : CP) : Nat → (List SSpan) → SSpan → (Bool → Option R) → Option R
  | 0, _, _, _ => none
  | n + 1, p0, p1, k =>
    G72 cp n p0 p1 (fun r49 => k (decide (0 ≤ r49)))
/-! tideway/recv.pieces -/
def s28_1 (cp : CP) (n : Nat) (p0 : SRecv) (kn : Option R) : Option R :=
  kn
def s28_3 (cp : CP) (n : Nat) (p0 : SRecv) (kn : Int → Option R) : Option R :=
  kn (p0.xLate.length : Int)
def s28_5 (cp : CP) (n : Nat) (p0 : SRecv) (v2 v3 v4 : Int) (kn : Int → Int → Option R) (kr : Option R) (ke0 : Option R) : Option R :=
  cond (decide (v4 < v2)) (cond (decide (0 ≤ v4)) (cond (decide (v4 < (p0.xLate.length : Int))) (cond (decide ((((p0.xLate.getD (Int.toNat v4) zPiece).xData).length : Int) = 0)) (kr) (cond (decide (((p0.xLate.getD (Int.toNat v4) zPiece).xFrom) ≤ v3)) (kr) (G53 cp n p0 (fun r5 => cond (decide ((wr .i64 (r5 - (((p0.xLate.getD (Int.toNat v4) zPiece).xData).length : Int))) < ((p0.xLate.getD (Int.toNat v4) zPiece).xFrom))) (kr) (cond (decide (0 ≤ p0.xFin)) (cond (decide ((wr .i64 (p0.xFin - (((p0.xLate.getD (Int.toNat v4) zPiece).xData).length : Int))) < ((p0.xLate.getD (Int.toNat v4) zPiece).xFrom))) (kr) (kn (wr .i64 (((p0.xLate.getD (Int.toNat v4) zPiece).xFrom) + (((p0.xLate.getD (Int.toNat v4) zPiece).xData).length : Int))) (wr .i64 (v4 + 1)))) (kn (wr .i64 (((p0.xLate.getD (Int.toNat v4) zPiece).xFrom) + (((p0.xLate.getD (Int.toNat v4) zPiece).xData).length : Int))) (wr .i64 (v4 + 1)))))))) (none)) (none)) (ke0)
def l28_10 (cp : CP) (n : Nat) : Nat → SRecv → Int → Int → Int → (Option R) → (Option R) → Option R
  | 0, _, _, _, _, _, _ => none
  | m + 1, p0, v2, v3, v4, kr, ke0 =>
    s28_5 cp n p0 v2 v3 v4 (fun v6 v7 => l28_10 cp n m p0 v2 v6 v7 kr ke0) kr ke0
def s28_11 (cp : CP) (n : Nat) (p0 : SRecv) (v2 : Int) (kr : Option R) (ke0 : Option R) : Option R :=
  l28_10 cp n n p0 v2 p0.xNext 0 kr ke0
def s28_12 (cp : CP) (n : Nat) (p0 : SRecv) (v2 : Int) (kn : Option R) (kr : Option R) : Option R :=
  s28_11 cp n p0 v2 kr kn
def s28_13 (cp : CP) (n : Nat) (p0 : SRecv) (kn : Option R) (kr : Option R) : Option R :=
  s28_3 cp n p0 (fun v2 => s28_12 cp n p0 v2 kn kr)
def s28_14 (cp : CP) (n : Nat) (p0 : SRecv) (kn : (List SSpan) → Option R) : Option R :=
  G55 cp n p0 (fun r8 => G1007 cp n r8 (fun r37 r38 => kn r37))
def s28_16 (cp : CP) (n : Nat) (p0 : SRecv) (v39 : (List SSpan)) (kn : Int → Option R) : Option R :=
  kn (p0.xFirst.length : Int)
def s28_18 (cp : CP) (n : Nat) (p0 : SRecv) (v39 : (List SSpan)) (v40 v41 : Int) (kn : Int → Option R) (kr : Option R) (ke2 : Option R) : Option R :=
  cond (decide (v41 < v40)) (cond (decide (0 ≤ v41)) (cond (decide (v41 < (p0.xFirst.length : Int))) (G56 cp n v39 (p0.xFirst.getD (Int.toNat v41) zSpan) (fun r42 => cond (!r42) (kr) (cond (decide (0 ≤ v41)) (cond (decide (v41 ≤ (p0.xFirst.length : Int))) (G56 cp n (p0.xFirst.take (Int.toNat v41)) (p0.xFirst.getD (Int.toNat v41) zSpan) (fun r43 => cond (r43) (kr) (kn (wr .i64 (v41 + 1))))) (none)) (none)))) (none)) (none)) (ke2)
def l28_22 (cp : CP) (n : Nat) : Nat → SRecv → (List SSpan) → Int → Int → (Option R) → (Option R) → Option R
  | 0, _, _, _, _, _, _ => none
  | m + 1, p0, v39, v40, v41, kr, ke2 =>
    s28_18 cp n p0 v39 v40 v41 (fun v44 => l28_22 cp n m p0 v39 v40 v44 kr ke2) kr ke2
def s28_23 (cp : CP) (n : Nat) (p0 : SRecv) (v39 : (List SSpan)) (v40 : Int) (kr : Option R) (ke2 : Option R) : Option R :=
  l28_22 cp n n p0 v39 v40 0 kr ke2
def s28_24 (cp : CP) (n : Nat) (p0 : SRecv) (v39 : (List SSpan)) (v40 : Int) (kn : Option R) (kr : Option R) : Option R :=
  s28_23 cp n p0 v39 v40 kr kn
def s28_25 (cp : CP) (n : Nat) (p0 : SRecv) (v39 : (List SSpan)) (kn : Option R) (kr : Option R) : Option R :=
  s28_16 cp n p0 v39 (fun v40 => s28_24 cp n p0 v39 v40 kn kr)
def s28_26 (cp : CP) (n : Nat) (kr : Option R) : Option R :=
  kr
def s28_29 (cp : CP) (n : Nat) (p0 : SRecv) (v39 : (List SSpan)) (kr : Bool → Option R) : Option R :=
  s28_25 cp n p0 v39 (s28_26 cp n (kr true)) (kr false)
def s28_31 (cp : CP) (n : Nat) (p0 : SRecv) (kr : Bool → Option R) : Option R :=
  s28_14 cp n p0 (fun v39 => s28_29 cp n p0 v39 (fun v45 => (kr v45)))
def s28_33 (cp : CP) (n : Nat) (p0 : SRecv) (kr : Bool → Option R) : Option R :=
  s28_13 cp n p0 (s28_31 cp n p0 (fun v46 => (kr v46))) (kr false)
def s28_35 (cp : CP) (n : Nat) (p0 : SRecv) (kr : Bool → Option R) : Option R :=
  s28_1 cp n p0 (s28_33 cp n p0 (fun v47 => (kr v47)))
def G28 (cp : CP) : Nat → SRecv → (Bool → Option R) → Option R
  | 0, _, _ => none
  | n + 1, p0, k =>
    s28_35 cp n p0 (fun v48 => k v48)
/-! tideway/recv.Check -/
def s10_1 (cp : CP) (n : Nat) (p0 : SRecv) (kn : Option R) : Option R :=
  kn
def s10_3 (cp : CP) (n : Nat) (p0 : SRecv) (kn : Option R) (kr : Option R) : Option R :=
  cond (decide (0 ≤ p0.xNext)) (cond (decide (p0.xNext ≤ 562949953421312)) (cond (decide (1 ≤ p0.xCap)) (cond (decide (p0.xCap ≤ 1073741824)) (cond (decide (0 ≤ p0.xShift)) (cond (decide (p0.xShift ≤ 14)) (cond (!(decide ((p0.xUnread.length : Int) ≤ (mn p0.xCap p0.xNext)))) (kr) (cond (decide (p0.xEdge < 0)) (kr) (G27 cp n p0 (fun r1 => cond (decide (r1 < p0.xEdge)) (kr) (cond (decide (p0.xFin < (-1))) (kr) (cond (decide (0 ≤ p0.xFin)) (cond (decide (p0.xFin < p0.xNext)) (kr) (cond (decide (562949953421312 < p0.xFin)) (kr) (kn))) (cond (decide (562949953421312 < p0.xFin)) (kr) (kn)))))))) (kr)) (kr)) (kr)) (kr)) (kr)) (kr)
def s10_5 (cp : CP) (n : Nat) (p0 : SRecv) (kr : Int → Option R) : Option R :=
  G28 cp n p0 (fun r2 => cond (!r2) (kr 230) (cond (!(p0.xDone == (decide (p0.xFin = p0.xNext)))) (kr 230) (cond (p0.xDone) (cond (decide (0 < (p0.xLate.length : Int))) (kr 230) (kr 0)) (kr 0))))
def s10_8 (cp : CP) (n : Nat) (p0 : SRecv) (kr : Int → Option R) : Option R :=
  s10_3 cp n p0 (s10_5 cp n p0 (fun v3 => (kr v3))) (kr 230)
def s10_10 (cp : CP) (n : Nat) (p0 : SRecv) (kr : Int → Option R) : Option R :=
  s10_1 cp n p0 (s10_8 cp n p0 (fun v4 => (kr v4)))
def G10 (cp : CP) : Nat → SRecv → (Int → Option R) → Option R
  | 0, _, _ => none
  | n + 1, p0, k =>
    s10_10 cp n p0 (fun v5 => k v5)
/-! slices.Clone[[]tideway/api.Span,tideway/api.Span] -/
def G57 (cp : CP) : Nat → (List SSpan) → ((List SSpan) → Option R) → Option R
  | 0, _, _ => none
  | n + 1, p0, k => cond (cp (0 + p0.length) 16) (k p0) none
/-! bytes.Clone -/
def G52 (cp : CP) : Nat → (List Int) → ((List Int) → Option R) → Option R
  | 0, _, _ => none
  | n + 1, p0, k => cond (cp (0 + p0.length) 1) (k p0) none
/-! tideway/recv.copied -/
def s29_1 (cp : CP) (n : Nat) (p0 : SRecv) (kn : (List Int) → (List SSpan) → Option R) : Option R :=
  cond (cp (([] : List Int).length + p0.xUnread.length) 1) (G57 cp n p0.xFirst (fun r9 => kn ([] ++ p0.xUnread) r9)) (none)
def s29_3 (cp : CP) (n : Nat) (p0 : SRecv) (v10 : (List Int)) (v11 : (List SSpan)) (kn : Int → Option R) : Option R :=
  kn (p0.xLate.length : Int)
def s29_5 (cp : CP) (n : Nat) (p0 : SRecv) (v10 : (List Int)) (v11 : (List SSpan)) (v12 v13 : Int) (v14 : (List SPiece)) (kn : Int → (List SPiece) → Option R) (ke0 : Option R) : Option R :=
  cond (decide (v13 < v12)) (cond (decide (0 ≤ v13)) (cond (decide (v13 < (p0.xLate.length : Int))) (G52 cp n ((p0.xLate.getD (Int.toNat v13) zPiece).xData) (fun r15 => cond (cp (v14.length + [(SPiece.mk ((p0.xLate.getD (Int.toNat v13) zPiece).xFrom) r15)].length) 32) (kn (wr .i64 (v13 + 1)) (v14 ++ [(SPiece.mk ((p0.xLate.getD (Int.toNat v13) zPiece).xFrom) r15)])) (none))) (none)) (none)) (ke0)
def l29_10 (cp : CP) (n : Nat) : Nat → SRecv → (List Int) → (List SSpan) → Int → Int → (List SPiece) → ((List SPiece) → Option R) → Option R
  | 0, _, _, _, _, _, _, _ => none
  | m + 1, p0, v10, v11, v12, v13, v14, ke0 =>
    s29_5 cp n p0 v10 v11 v12 v13 v14 (fun v16 v17 => l29_10 cp n m p0 v10 v11 v12 v16 v17 ke0) (ke0 v14)
def s29_11 (cp : CP) (n : Nat) (p0 : SRecv) (v10 : (List Int)) (v11 : (List SSpan)) (v12 : Int) (ke0 : (List SPiece) → Option R) : Option R :=
  l29_10 cp n n p0 v10 v11 v12 0 [] ke0
def s29_13 (cp : CP) (n : Nat) (p0 : SRecv) (v10 : (List Int)) (v11 : (List SSpan)) (v12 : Int) (kn : (List SPiece) → Option R) : Option R :=
  s29_11 cp n p0 v10 v11 v12 (fun v18 => (kn v18))
def s29_15 (cp : CP) (n : Nat) (p0 : SRecv) (v10 : (List Int)) (v11 : (List SSpan)) (kn : (List SPiece) → Option R) : Option R :=
  s29_3 cp n p0 v10 v11 (fun v12 => s29_13 cp n p0 v10 v11 v12 (fun v19 => (kn v19)))
def s29_16 (cp : CP) (n : Nat) (p0 : SRecv) (v10 : (List Int)) (v11 : (List SSpan)) (v20 : (List SPiece)) (kr : Option R) : Option R :=
  kr
def s29_19 (cp : CP) (n : Nat) (p0 : SRecv) (v10 : (List Int)) (v11 : (List SSpan)) (kr : (List SPiece) → Option R) : Option R :=
  s29_15 cp n p0 v10 v11 (fun v20 => s29_16 cp n p0 v10 v11 v20 (kr v20))
def s29_21 (cp : CP) (n : Nat) (p0 : SRecv) (kr : SRecv → Option R) : Option R :=
  s29_1 cp n p0 (fun v10 v11 => s29_19 cp n p0 v10 v11 (fun v21 => (kr (SRecv.mk p0.xNext v10 v21 p0.xCap p0.xShift p0.xEdge p0.xRecent p0.xStamps p0.xSacks p0.xFin p0.xDone v11 p0.xIrs p0.xOwn p0.xStamp))))
def G29 (cp : CP) : Nat → SRecv → (SRecv → Option R) → Option R
  | 0, _, _ => none
  | n + 1, p0, k =>
    s29_21 cp n p0 (fun v22 => k v22)
/-! tideway/seq.Diff -/
def G31 (cp : CP) : Nat → Int → Int → (Int → Option R) → Option R
  | 0, _, _, _ => none
  | n + 1, p0, p1, k =>
    k (wr .i64 (wr .i32 (wr .u32 (p1 - p0))))
/-! tideway/seq.Sum -/
def G58 (cp : CP) : Nat → Int → Int → (Int → Option R) → Option R
  | 0, _, _, _ => none
  | n + 1, p0, p1, k =>
    cond (decide (0 < p0)) (cond (decide (0 < p1)) (cond (decide ((wr .i64 (p0 + p1)) < 0)) (k 9223372036854775807) (cond (decide (p0 < 0)) (cond (decide (p1 < 0)) (cond (decide (0 ≤ (wr .i64 (p0 + p1)))) (k (-9223372036854775808)) (k (wr .i64 (p0 + p1)))) (k (wr .i64 (p0 + p1)))) (k (wr .i64 (p0 + p1))))) (cond (decide (p0 < 0)) (cond (decide (p1 < 0)) (cond (decide (0 ≤ (wr .i64 (p0 + p1)))) (k (-9223372036854775808)) (k (wr .i64 (p0 + p1)))) (k (wr .i64 (p0 + p1)))) (k (wr .i64 (p0 + p1))))) (cond (decide (p0 < 0)) (cond (decide (p1 < 0)) (cond (decide (0 ≤ (wr .i64 (p0 + p1)))) (k (-9223372036854775808)) (k (wr .i64 (p0 + p1)))) (k (wr .i64 (p0 + p1)))) (k (wr .i64 (p0 + p1))))
/-! tideway/seq.Unwrap -/
def G30 (cp : CP) : Nat → Int → Int → (Int → Option R) → Option R
  | 0, _, _, _ => none
  | n + 1, p0, p1, k =>
    G31 cp n (wr .u32 p0) p1 (fun r24 => G58 cp n p0 r24 (fun r25 => k r25))
/-! tideway/seq.Add -/
def G36 (cp : CP) : Nat → Int → Int → (Int → Option R) → Option R
  | 0, _, _, _ => none
  | n + 1, p0, p1, k =>
    k (wr .u32 (p0 + (wr .u32 p1)))
/-! tideway/recv.window -/
def G49 (cp : CP) : Nat → SRecv → (Int → Option R) → Option R
  | 0, _, _ => none
  | n + 1, p0, k =>
    cond (decide (p0.xShift < 0)) (none) (cond (decide (p0.xShift < 0)) (none) (k (shl .i64 (mn (shr .i64 (wr .i64 (p0.xCap - (p0.xUnread.length : Int))) p0.xShift) 65535) p0.xShift)))
/-! tideway/recv.tell -/
def s32_1 (cp : CP) (n : Nat) (p0 : SRecv) (p1 : (List SBlock)) (kn : Int → SSegment → Option R) : Option R :=
  cond (p0.xDone) (G36 cp n p0.xIrs (wr .i64 (p0.xNext + 1)) (fun r36 => G49 cp n p0 (fun r37 => cond (decide (p0.xShift < 0)) (none) (cond (p0.xStamps) (kn (wr .i64 (4 - 1)) (SSegment.mk 0 0 p0.xOwn r36 16 (shr .i64 r37 p0.xShift) 0 (-1) (-1) false true 0 p0.xRecent p1 [])) (kn 4 (SSegment.mk 0 0 p0.xOwn r36 16 (shr .i64 r37 p0.xShift) 0 (-1) (-1) false false 0 0 p1 [])))))) (G36 cp n p0.xIrs p0.xNext (fun r38 => G49 cp n p0 (fun r39 => cond (decide (p0.xShift < 0)) (none) (cond (p0.xStamps) (kn (wr .i64 (4 - 1)) (SSegment.mk 0 0 p0.xOwn r38 16 (shr .i64 r39 p0.xShift) 0 (-1) (-1) false true 0 p0.xRecent p1 [])) (kn 4 (SSegment.mk 0 0 p0.xOwn r38 16 (shr .i64 r39 p0.xShift) 0 (-1) (-1) false false 0 0 p1 []))))))
def s32_3 (cp : CP) (n : Nat) (p0 : SRecv) (v40 : Int) (v41 : SSegment) (kn : Int → Option R) : Option R :=
  kn (p0.xFirst.length : Int)
def s32_5 (cp : CP) (n : Nat) (p0 : SRecv) (v40 : Int) (v41 : SSegment) (v42 v43 : Int) (v44 : (List SBlock)) (kn : Int → (List SBlock) → Option R) (ke0 : Option R) : Option R :=
  cond (decide (v43 < v42)) (cond (decide (0 ≤ v43)) (cond (decide (v43 < (p0.xFirst.length : Int))) (cond (p0.xSacks) (cond (decide ((v44.length : Int) < v40)) (G36 cp n p0.xIrs ((p0.xFirst.getD (Int.toNat v43) zSpan).xFrom) (fun r45 => G36 cp n p0.xIrs ((p0.xFirst.getD (Int.toNat v43) zSpan).xTo) (fun r46 => cond (cp (v44.length + [(SBlock.mk r45 r46)].length) 8) (kn (wr .i64 (v43 + 1)) (v44 ++ [(SBlock.mk r45 r46)])) (none)))) (kn (wr .i64 (v43 + 1)) v44)) (kn (wr .i64 (v43 + 1)) v44)) (none)) (none)) (ke0)
def l32_10 (cp : CP) (n : Nat) : Nat → SRecv → Int → SSegment → Int → Int → (List SBlock) → ((List SBlock) → Option R) → Option R
  | 0, _, _, _, _, _, _, _ => none
  | m + 1, p0, v40, v41, v42, v43, v44, ke0 =>
    s32_5 cp n p0 v40 v41 v42 v43 v44 (fun v47 v48 => l32_10 cp n m p0 v40 v41 v42 v47 v48 ke0) (ke0 v44)
def s32_11 (cp : CP) (n : Nat) (p0 : SRecv) (v40 : Int) (v41 : SSegment) (v42 : Int) (ke0 : (List SBlock) → Option R) : Option R :=
  l32_10 cp n n p0 v40 v41 v42 0 v41.xSacks ke0
def s32_13 (cp : CP) (n : Nat) (p0 : SRecv) (v40 : Int) (v41 : SSegment) (v42 : Int) (kn : (List SBlock) → Option R) : Option R :=
  s32_11 cp n p0 v40 v41 v42 (fun v49 => (kn v49))
def s32_15 (cp : CP) (n : Nat) (p0 : SRecv) (v40 : Int) (v41 : SSegment) (kn : (List SBlock) → Option R) : Option R :=
  s32_3 cp n p0 v40 v41 (fun v42 => s32_13 cp n p0 v40 v41 v42 (fun v50 => (kn v50)))
def s32_16 (cp : CP) (n : Nat) (p0 : SRecv) (v41 : SSegment) (v51 : (List SBlock)) (kr : Int → Option R) : Option R :=
  G49 cp n p0 (fun r52 => kr (mx p0.xEdge (wr .i64 (p0.xNext + r52))))
def s32_19 (cp : CP) (n : Nat) (p0 : SRecv) (v40 : Int) (v41 : SSegment) (kr : Int → (List SBlock) → Option R) : Option R :=
  s32_15 cp n p0 v40 v41 (fun v51 => s32_16 cp n p0 v41 v51 (fun v53 => (kr v53 v51)))
def s32_21 (cp : CP) (n : Nat) (p0 : SRecv) (p1 : (List SBlock)) (kr : Int → SSegment → Option R) : Option R :=
  s32_1 cp n p0 p1 (fun v40 v41 => s32_19 cp n p0 v40 v41 (fun v54 v55 => (kr v54 (SSegment.mk v41.xSrcPort v41.xDstPort v41.xSeq v41.xAck v41.xFlags v41.xWin v41.xUrg v41.xMss v41.xScale v41.xSackOk v41.xStamped v41.xVal v41.xEcr v55 v41.xData))))
def G32 (cp : CP) : Nat → SRecv → (List SBlock) → (SRecv → SSegment → Option R) → Option R
  | 0, _, _, _ => none
  | n + 1, p0, p1, k =>
    s32_21 cp n p0 p1 (fun v56 v57 => k (SRecv.mk p0.xNext p0.xUnread p0.xLate p0.xCap p0.xShift v56 p0.xRecent p0.xStamps p0.xSacks p0.xFin p0.xDone p0.xFirst p0.xIrs p0.xOwn p0.xStamp) v57)
/-! tideway/recv.end -/
def s33_1 (cp : CP) (n : Nat) (p0 : SRecv) (p1 : Int) (kn : Option R) : Option R :=
  kn
def s33_3 (cp : CP) (n : Nat) (p0 : SRecv) (p1 : Int) (kn : SRecv → Option R) : Option R :=
  G55 cp n p0 (fun r17 => kn r17)
def s33_7 (cp : CP) (n : Nat) (p0 : SRecv) (p1 : Int) (v18 : SRecv) (kn : Int → Option R) : Option R :=
  kn (v18.xLate.length : Int)
def s33_9 (cp : CP) (n : Nat) (p0 : SRecv) (p1 : Int) (v18 : SRecv) (v19 v20 v21 : Int) (kn : Option R) (ke0 : Option R) : Option R :=
  cond (decide (v20 < v19)) (kn) (ke0)
def s33_12 (cp : CP) (n : Nat) (p0 : SRecv) (p1 : Int) (v18 : SRecv) (v19 v20 v21 : Int) (kn : Int → (List Int) → Option R) : Option R :=
  cond (decide (0 ≤ v20)) (cond (decide (v20 < (v18.xLate.length : Int))) (kn ((v18.xLate.getD (Int.toNat v20) zPiece).xFrom) ((v18.xLate.getD (Int.toNat v20) zPiece).xData)) (none)) (none)
def s33_14 (cp : CP) (n : Nat) (p0 : SRecv) (p1 : Int) (v18 : SRecv) (v19 v20 v21 v22 : Int) (v23 : (List Int)) (ka : Int → Int → Option R) : Option R :=
  G71 cp n (SPiece.mk v22 v23) (fun r24 => ka r24.xFrom r24.xTo)
def s33_16 (cp : CP) (n : Nat) (p0 : SRecv) (p1 : Int) (v18 : SRecv) (v21 v22 : Int) (v23 : (List Int)) (v25 v26 : Int) (kn : Option R) : Option R :=
  kn
def s33_22 (cp : CP) (n : Nat) (p0 : SRecv) (p1 : Int) (v18 : SRecv) (v19 v20 v21 v22 : Int) (v23 : (List Int)) (kn : Int → Option R) : Option R :=
  s33_14 cp n p0 p1 v18 v19 v20 v21 v22 v23 (fun v25 v26 => s33_16 cp n p0 p1 v18 v21 v22 v23 v25 v26 (kn v26))
def s33_23 (cp : CP) (n : Nat) (p0 : SRecv) (p1 : Int) (v18 : SRecv) (v19 v20 v27 : Int) (kn : Option R) : Option R :=
  kn
def s33_26 (cp : CP) (n : Nat) (p0 : SRecv) (p1 : Int) (v18 : SRecv) (v19 v20 v21 v22 : Int) (v23 : (List Int)) (kn : Int → Option R) : Option R :=
  s33_22 cp n p0 p1 v18 v19 v20 v21 v22 v23 (fun v27 => s33_23 cp n p0 p1 v18 v19 v20 v27 (kn v27))
def s33_28 (cp : CP) (n : Nat) (p0 : SRecv) (p1 : Int) (v18 : SRecv) (v19 v20 v21 : Int) (kn : Int → Option R) : Option R :=
  s33_12 cp n p0 p1 v18 v19 v20 v21 (fun v22 v23 => s33_26 cp n p0 p1 v18 v19 v20 v21 v22 v23 (fun v28 => (kn v28)))
def s33_30 (cp : CP) (n : Nat) (p0 : SRecv) (p1 : Int) (v18 : SRecv) (v19 v20 v21 : Int) (kn : Int → Option R) : Option R :=
  s33_28 cp n p0 p1 v18 v19 v20 v21 (fun v29 => (kn v29))
def s33_31 (cp : CP) (n : Nat) (p0 : SRecv) (p1 : Int) (v18 : SRecv) (v19 v20 v30 : Int) (kn : Int → Option R) : Option R :=
  kn (wr .i64 (v20 + 1))
def s33_34 (cp : CP) (n : Nat) (p0 : SRecv) (p1 : Int) (v18 : SRecv) (v19 v20 v21 : Int) (kn : Int → Int → Option R) : Option R :=
  s33_30 cp n p0 p1 v18 v19 v20 v21 (fun v30 => s33_31 cp n p0 p1 v18 v19 v20 v30 (fun v31 => (kn v31 v30)))
def s33_36 (cp : CP) (n : Nat) (p0 : SRecv) (p1 : Int) (v18 : SRecv) (v19 v20 v21 : Int) (kn : Int → Int → Option R) (ke0 : Option R) : Option R :=
  s33_9 cp n p0 p1 v18 v19 v20 v21 (s33_34 cp n p0 p1 v18 v19 v20 v21 (fun v32 v33 => (kn v32 v33))) ke0
def l33_38 (cp : CP) (n : Nat) : Nat → SRecv → Int → SRecv → Int → Int → Int → (Int → Option R) → Option R
  | 0, _, _, _, _, _, _, _ => none
  | m + 1, p0, p1, v18, v19, v20, v21, ke0 =>
    s33_36 cp n p0 p1 v18 v19 v20 v21 (fun v34 v35 => l33_38 cp n m p0 p1 v18 v19 v34 v35 ke0) (ke0 v21)
def s33_39 (cp : CP) (n : Nat) (p0 : SRecv) (p1 : Int) (v18 : SRecv) (v19 : Int) (ke0 : Int → Option R) : Option R :=
  l33_38 cp n n p0 p1 v18 v19 0 p0.xNext ke0
def s33_41 (cp : CP) (n : Nat) (p0 : SRecv) (p1 : Int) (v18 : SRecv) (v19 : Int) (kn : Int → Option R) : Option R :=
  s33_39 cp n p0 p1 v18 v19 (fun v36 => (kn v36))
def s33_43 (cp : CP) (n : Nat) (p0 : SRecv) (p1 : Int) (v18 : SRecv) (kn : Int → Option R) : Option R :=
  s33_7 cp n p0 p1 v18 (fun v19 => s33_41 cp n p0 p1 v18 v19 (fun v37 => (kn v37)))
def s33_46 (cp : CP) (n : Nat) (p0 : SRecv) (p1 : Int) (v18 : SRecv) (kn : Int → Option R) : Option R :=
  s33_43 cp n p0 p1 v18 (fun v38 => (kn v38))
def s33_48 (cp : CP) (n : Nat) (p0 : SRecv) (p1 : Int) (v18 : SRecv) (kn : Int → Option R) : Option R :=
  s33_46 cp n p0 p1 v18 (fun v39 => (kn v39))
def s33_50 (cp : CP) (n : Nat) (p0 : SRecv) (p1 : Int) (kn : Int → Option R) : Option R :=
  s33_3 cp n p0 p1 (fun v18 => s33_48 cp n p0 p1 v18 (fun v40 => (kn v40)))
def s33_51 (cp : CP) (n : Nat) (p0 : SRecv) (p1 v41 : Int) (kr : Int → Option R) : Option R :=
  cond (decide (p0.xFin < 0)) (cond (decide (v41 ≤ p1)) (G53 cp n p0 (fun r42 => cond (decide (p1 ≤ r42)) (kr p1) (kr p0.xFin))) (kr p0.xFin)) (kr p0.xFin)
def s33_54 (cp : CP) (n : Nat) (p0 : SRecv) (p1 : Int) (kr : Int → Option R) : Option R :=
  s33_50 cp n p0 p1 (fun v41 => s33_51 cp n p0 p1 v41 (fun v43 => (kr v43)))
def s33_56 (cp : CP) (n : Nat) (p0 : SRecv) (p1 : Int) (kr : Int → Option R) : Option R :=
  s33_1 cp n p0 p1 (s33_54 cp n p0 p1 (fun v44 => (kr v44)))
def G33 (cp : CP) : Nat → SRecv → Int → (Int → Option R) → Option R
  | 0, _, _, _ => none
  | n + 1, p0, p1, k =>
    s33_56 cp n p0 p1 (fun v45 => k v45)
/-! tideway/span.may -/
def G82 (cp : CP) : Nat → SSpan → (Bool → Option R) → Option R
  | 0, _, _ => none
  | n + 1, p0, k =>
    cond (decide (0 ≤ p0.xFrom)) (cond (decide (p0.xFrom ≤ p0.xTo)) (k (decide (p0.xTo ≤ 1125899906842624))) (k false)) (k false)
/-! tideway/span.Check -/
def s78_1 (cp : CP) (n : Nat) (p0 : (List SSpan)) (kn : Option R) : Option R :=
  kn
def s78_3 (cp : CP) (n : Nat) (p0 : (List SSpan)) (kn : Int → Option R) : Option R :=
  kn (p0.length : Int)
def s78_5 (cp : CP) (n : Nat) (p0 : (List SSpan)) (v79 v80 : Int) (kn : Int → Option R) (kr : Option R) (ke0 : Option R) : Option R :=
  cond (decide (v80 < v79)) (cond (decide (0 ≤ v80)) (cond (decide (v80 < (p0.length : Int))) (G82 cp n (p0.getD (Int.toNat v80) zSpan) (fun r81 => cond (!r81) (kr) (cond (decide (((p0.getD (Int.toNat v80) zSpan).xFrom) = ((p0.getD (Int.toNat v80) zSpan).xTo))) (kr) (cond (decide (0 < v80)) (cond (decide (0 ≤ wr .i64 (v80 - 1))) (cond (decide (wr .i64 (v80 - 1) < (p0.length : Int))) (cond (decide (((p0.getD (Int.toNat v80) zSpan).xFrom) ≤ ((p0.getD (Int.toNat (wr .i64 (v80 - 1))) zSpan).xTo))) (kr) (kn (wr .i64 (v80 + 1)))) (none)) (none)) (kn (wr .i64 (v80 + 1))))))) (none)) (none)) (ke0)
def l78_10 (cp : CP) (n : Nat) : Nat → (List SSpan) → Int → Int → (Option R) → (Option R) → Option R
  | 0, _, _, _, _, _ => none
  | m + 1, p0, v79, v80, kr, ke0 =>
    s78_5 cp n p0 v79 v80 (fun v82 => l78_10 cp n m p0 v79 v82 kr ke0) kr ke0
def s78_11 (cp : CP) (n : Nat) (p0 : (List SSpan)) (v79 : Int) (kr : Option R) (ke0 : Option R) : Option R :=
  l78_10 cp n n p0 v79 0 kr ke0
def s78_12 (cp : CP) (n : Nat) (p0 : (List SSpan)) (v79 : Int) (kn : Option R) (kr : Option R) : Option R :=
  s78_11 cp n p0 v79 kr kn
def s78_13 (cp : CP) (n : Nat) (p0 : (List SSpan)) (kn : Option R) (kr : Option R) : Option R :=
  s78_3 cp n p0 (fun v79 => s78_12 cp n p0 v79 kn kr)
def s78_14 (cp : CP) (n : Nat) (kr : Option R) : Option R :=
  kr
def s78_17 (cp : CP) (n : Nat) (p0 : (List SSpan)) (kr : Int → Option R) : Option R :=
  s78_13 cp n p0 (s78_14 cp n (kr 0)) (kr 60)
def s78_19 (cp : CP) (n : Nat) (p0 : (List SSpan)) (kr : Int → Option R) : Option R :=
  s78_1 cp n p0 (s78_17 cp n p0 (fun v83 => (kr v83)))
def G78 (cp : CP) : Nat → (List SSpan) → (Int → Option R) → Option R
  | 0, _, _ => none
  | n + 1, p0, k =>
    s78_19 cp n p0 (fun v84 => k v84)
/-! tideway/span.within -/
def G79 (cp : CP) : Nat → (List SSpan) → SSpan → ((List SSpan) → SSpan → Option R) → Option R
  | 0, _, _, _ => none
  | n + 1, p0, p1, k =>
    k p0 p1
/-! tideway/span.Gaps -/
def s61_1 (cp : CP) (n : Nat) (p0 : (List SSpan)) (p1 : SSpan) (kn : Option R) (kr : Option R) : Option R :=
  G78 cp n p0 (fun r87 => cond (!decide (r87 = 0)) (kr) (cond (decide (p1.xTo ≤ p1.xFrom)) (kr) (kn)))
def s61_4 (cp : CP) (n : Nat) (p0 : (List SSpan)) (p1 : SSpan) (kn : (List SSpan) → Int → Int → Option R) : Option R :=
  G79 cp n p0 p1 (fun r88 r89 => kn r88 r89.xFrom r89.xTo)
def s61_8 (cp : CP) (n : Nat) (p1 : SSpan) (v90 : (List SSpan)) (v91 v92 : Int) (kn : Int → Option R) : Option R :=
  kn (v90.length : Int)
def s61_10 (cp : CP) (n : Nat) (p1 : SSpan) (v90 : (List SSpan)) (v91 v92 v93 v94 : Int) (v95 : (List SSpan)) (v96 : Int) (kn : Option R) (ke0 : Option R) : Option R :=
  cond (decide (v94 < v93)) (kn) (ke0)
def s61_13 (cp : CP) (n : Nat) (p1 : SSpan) (v90 : (List SSpan)) (v91 v92 v93 v94 : Int) (v95 : (List SSpan)) (v96 : Int) (kn : Int → Int → Option R) : Option R :=
  cond (decide (0 ≤ v94)) (cond (decide (v94 < (v90.length : Int))) (kn (mx ((v90.getD (Int.toNat v94) zSpan).xFrom) v91) (mn ((v90.getD (Int.toNat v94) zSpan).xTo) v92)) (none)) (none)
def s61_15 (cp : CP) (n : Nat) (p1 : SSpan) (v90 : (List SSpan)) (v91 v92 v93 v94 : Int) (v95 : (List SSpan)) (v96 v97 v98 : Int) (ka : Bool → Option R) (kb : Bool → Option R) : Option R :=
  cond (decide (v97 < v98)) (ka (decide (v97 < v98))) (kb (decide (v97 < v98)))
def s61_18 (cp : CP) (n : Nat) (p1 : SSpan) (v90 : (List SSpan)) (v91 v92 : Int) (v95 : (List SSpan)) (v96 v97 v98 : Int) (kn : (List SSpan) → Option R) : Option R :=
  cond (decide (v96 < v97)) (cond (cp (v95.length + [(SSpan.mk v96 v97)].length) 16) (kn (v95 ++ [(SSpan.mk v96 v97)])) (none)) (kn v95)
def s61_24 (cp : CP) (n : Nat) (p1 : SSpan) (v90 : (List SSpan)) (v91 v92 v93 v94 : Int) (v95 : (List SSpan)) (v96 v97 v98 : Int) (kn : (List SSpan) → Int → Option R) : Option R :=
  s61_15 cp n p1 v90 v91 v92 v93 v94 v95 v96 v97 v98 (fun v99 => s61_18 cp n p1 v90 v91 v92 v95 v96 v97 v98 (fun v101 => kn v101 v98)) (fun v100 => kn v95 v96)
def s61_25 (cp : CP) (n : Nat) (p1 : SSpan) (v90 : (List SSpan)) (v91 v92 v93 v94 : Int) (v102 : (List SSpan)) (v103 : Int) (kn : Option R) : Option R :=
  kn
def s61_28 (cp : CP) (n : Nat) (p1 : SSpan) (v90 : (List SSpan)) (v91 v92 v93 v94 : Int) (v95 : (List SSpan)) (v96 v97 v98 : Int) (kn : (List SSpan) → Int → Option R) : Option R :=
  s61_24 cp n p1 v90 v91 v92 v93 v94 v95 v96 v97 v98 (fun v102 v103 => s61_25 cp n p1 v90 v91 v92 v93 v94 v102 v103 (kn v102 v103))
def s61_30 (cp : CP) (n : Nat) (p1 : SSpan) (v90 : (List SSpan)) (v91 v92 v93 v94 : Int) (v95 : (List SSpan)) (v96 : Int) (kn : (List SSpan) → Int → Option R) : Option R :=
  s61_13 cp n p1 v90 v91 v92 v93 v94 v95 v96 (fun v97 v98 => s61_28 cp n p1 v90 v91 v92 v93 v94 v95 v96 v97 v98 (fun v104 v105 => (kn v104 v105)))
def s61_32 (cp : CP) (n : Nat) (p1 : SSpan) (v90 : (List SSpan)) (v91 v92 v93 v94 : Int) (v95 : (List SSpan)) (v96 : Int) (kn : (List SSpan) → Int → Option R) : Option R :=
  s61_30 cp n p1 v90 v91 v92 v93 v94 v95 v96 (fun v106 v107 => (kn v106 v107))
def s61_33 (cp : CP) (n : Nat) (p1 : SSpan) (v90 : (List SSpan)) (v91 v92 v93 v94 : Int) (v108 : (List SSpan)) (v109 : Int) (kn : Int → Option R) : Option R :=
  kn (wr .i64 (v94 + 1))
def s61_36 (cp : CP) (n : Nat) (p1 : SSpan) (v90 : (List SSpan)) (v91 v92 v93 v94 : Int) (v95 : (List SSpan)) (v96 : Int) (kn : Int → (List SSpan) → Int → Option R) : Option R :=
  s61_32 cp n p1 v90 v91 v92 v93 v94 v95 v96 (fun v108 v109 => s61_33 cp n p1 v90 v91 v92 v93 v94 v108 v109 (fun v110 => (kn v110 v108 v109)))
def s61_38 (cp : CP) (n : Nat) (p1 : SSpan) (v90 : (List SSpan)) (v91 v92 v93 v94 : Int) (v95 : (List SSpan)) (v96 : Int) (kn : Int → (List SSpan) → Int → Option R) (ke0 : Option R) : Option R :=
  s61_10 cp n p1 v90 v91 v92 v93 v94 v95 v96 (s61_36 cp n p1 v90 v91 v92 v93 v94 v95 v96 (fun v111 v112 v113 => (kn v111 v112 v113))) ke0
def l61_40 (cp : CP) (n : Nat) : Nat → SSpan → (List SSpan) → Int → Int → Int → Int → (List SSpan) → Int → ((List SSpan) → Int → Option R) → Option R
  | 0, _, _, _, _, _, _, _, _, _ => none
  | m + 1, p1, v90, v91, v92, v93, v94, v95, v96, ke0 =>
    s61_38 cp n p1 v90 v91 v92 v93 v94 v95 v96 (fun v114 v115 v116 => l61_40 cp n m p1 v90 v91 v92 v93 v114 v115 v116 ke0) (ke0 v95 v96)
def s61_41 (cp : CP) (n : Nat) (p1 : SSpan) (v90 : (List SSpan)) (v91 v92 v93 : Int) (ke0 : (List SSpan) → Int → Option R) : Option R :=
  l61_40 cp n n p1 v90 v91 v92 v93 0 [] p1.xFrom ke0
def s61_43 (cp : CP) (n : Nat) (p1 : SSpan) (v90 : (List SSpan)) (v91 v92 v93 : Int) (kn : (List SSpan) → Int → Option R) : Option R :=
  s61_41 cp n p1 v90 v91 v92 v93 (fun v117 v118 => (kn v117 v118))
def s61_45 (cp : CP) (n : Nat) (p1 : SSpan) (v90 : (List SSpan)) (v91 v92 : Int) (kn : (List SSpan) → Int → Option R) : Option R :=
  s61_8 cp n p1 v90 v91 v92 (fun v93 => s61_43 cp n p1 v90 v91 v92 v93 (fun v119 v120 => (kn v119 v120)))
def s61_48 (cp : CP) (n : Nat) (p1 : SSpan) (v90 : (List SSpan)) (v91 v92 : Int) (kn : (List SSpan) → Int → Option R) : Option R :=
  s61_45 cp n p1 v90 v91 v92 (fun v121 v122 => (kn v121 v122))
def s61_50 (cp : CP) (n : Nat) (p1 : SSpan) (v90 : (List SSpan)) (v91 v92 : Int) (kn : (List SSpan) → Int → Option R) : Option R :=
  s61_48 cp n p1 v90 v91 v92 (fun v123 v124 => (kn v123 v124))
def s61_52 (cp : CP) (n : Nat) (p0 : (List SSpan)) (p1 : SSpan) (kn : (List SSpan) → Int → Option R) : Option R :=
  s61_4 cp n p0 p1 (fun v90 v91 v92 => s61_50 cp n p1 v90 v91 v92 (fun v125 v126 => (kn v125 v126)))
def s61_53 (cp : CP) (n : Nat) (p1 : SSpan) (v127 : (List SSpan)) (v128 : Int) (kr : (List SSpan) → Option R) : Option R :=
  cond (decide (v128 < p1.xTo)) (cond (cp (v127.length + [(SSpan.mk v128 p1.xTo)].length) 16) (kr (v127 ++ [(SSpan.mk v128 p1.xTo)])) (none)) (kr v127)
def s61_56 (cp : CP) (n : Nat) (p0 : (List SSpan)) (p1 : SSpan) (kr : (List SSpan) → Option R) : Option R :=
  s61_52 cp n p0 p1 (fun v127 v128 => s61_53 cp n p1 v127 v128 (fun v129 => (kr v129)))
def s61_58 (cp : CP) (n : Nat) (p0 : (List SSpan)) (p1 : SSpan) (kr : (List SSpan) → Option R) : Option R :=
  s61_1 cp n p0 p1 (s61_56 cp n p0 p1 (fun v130 => (kr v130))) (kr [])
def G61 (cp : CP) : Nat → (List SSpan) → SSpan → ((List SSpan) → Option R) → Option R
  | 0, _, _, _ => none
  | n + 1, p0, p1, k =>
    s61_58 cp n p0 p1 (fun v131 => k v131)
/-! tideway/recv.put$1 -/
def G74 (cp : CP) : Nat → SPiece → Int → (Int → Option R) → Option R
  | 0, _, _, _ => none
  | n + 1, p0, p1, k =>
    k (wr .i64 (p0.xFrom - p1))
/-! slices.BinarySearchFunc[[]tideway/api.Piece,tideway/api.Piece,int] -/
def s1029_1 (cp : CP) (n : Nat) (p0 : (List SPiece)) (p1 : Int) (kn : Int → Option R) : Option R :=
  kn (p0.length : Int)
def s1029_3 (cp : CP) (n : Nat) (p0 : (List SPiece)) (p1 v135 v136 v137 : Int) (kn : Int → Int → Option R) (ke0 : Option R) : Option R :=
  cond (decide (v136 < v137)) (cond (decide (0 ≤ wr .i64 (shr .u64 (wr .u64 (wr .i64 (v136 + v137))) 1))) (cond (decide (wr .i64 (shr .u64 (wr .u64 (wr .i64 (v136 + v137))) 1) < (p0.length : Int))) (G74 cp n (p0.getD (Int.toNat (wr .i64 (shr .u64 (wr .u64 (wr .i64 (v136 + v137))) 1))) zPiece) p1 (fun r138 => cond (decide (r138 < 0)) (kn (wr .i64 ((wr .i64 (shr .u64 (wr .u64 (wr .i64 (v136 + v137))) 1)) + 1)) v137) (kn v136 (wr .i64 (shr .u64 (wr .u64 (wr .i64 (v136 + v137))) 1))))) (none)) (none)) (ke0)
def l1029_8 (cp : CP) (n : Nat) : Nat → (List SPiece) → Int → Int → Int → Int → (Int → Option R) → Option R
  | 0, _, _, _, _, _, _ => none
  | m + 1, p0, p1, v135, v136, v137, ke0 =>
    s1029_3 cp n p0 p1 v135 v136 v137 (fun v139 v140 => l1029_8 cp n m p0 p1 v135 v139 v140 ke0) (ke0 v136)
def s1029_9 (cp : CP) (n : Nat) (p0 : (List SPiece)) (p1 v135 : Int) (ke0 : Int → Option R) : Option R :=
  l1029_8 cp n n p0 p1 v135 0 v135 ke0
def s1029_11 (cp : CP) (n : Nat) (p0 : (List SPiece)) (p1 v135 : Int) (kn : Int → Option R) : Option R :=
  s1029_9 cp n p0 p1 v135 (fun v141 => (kn v141))
def s1029_12 (cp : CP) (n : Nat) (p0 : (List SPiece)) (p1 v135 v142 : Int) (kr : Bool → Option R) : Option R :=
  cond (decide (v142 < v135)) (cond (decide (0 ≤ v142)) (cond (decide (v142 < (p0.length : Int))) (G74 cp n (p0.getD (Int.toNat v142) zPiece) p1 (fun r143 => kr (decide (r143 = 0)))) (none)) (none)) (kr false)
def s1029_15 (cp : CP) (n : Nat) (p0 : (List SPiece)) (p1 v135 : Int) (kr : Int → Bool → Option R) : Option R :=
  s1029_11 cp n p0 p1 v135 (fun v142 => s1029_12 cp n p0 p1 v135 v142 (fun v144 => (kr v142 v144)))
def s1029_17 (cp : CP) (n : Nat) (p0 : (List SPiece)) (p1 : Int) (kr : Int → Bool → Option R) : Option R :=
  s1029_1 cp n p0 p1 (fun v135 => s1029_15 cp n p0 p1 v135 (fun v145 v146 => (kr v145 v146)))
def G1029 (cp : CP) : Nat → (List SPiece) → Int → (Int → Bool → Option R) → Option R
  | 0, _, _, _ => none
  | n + 1, p0, p1, k =>
    s1029_17 cp n p0 p1 (fun v147 v148 => k v147 v148)
/-! slices.Clone[[]tideway/api.Piece,tideway/api.Piece] -/
def G1031 (cp : CP) : Nat → (List SPiece) → ((List SPiece) → Option R) → Option R
  | 0, _, _ => none
  | n + 1, p0, k => cond (cp (0 + p0.length) 32) (k p0) none
/-! slices.Insert[[]tideway/api.Piece,tideway/api.Piece] -/
def G75 (cp : CP) : Nat → (List SPiece) → Int → SPiece → ((List SPiece) → Option R) → Option R
  | 0, _, _, _, _ => none
  | n + 1, p0, p1, p2, k => cond (cp (p0.length + 1) 32) (cond (decide (0 ≤ p1)) (cond (decide (p1 ≤ (p0.length : Int))) (k (insL p0 (Int.toNat p1) p2)) none) none) none
/-! slices.Clip[[]byte,byte] -/
def G77 (cp : CP) : Nat → (List Int) → ((List Int) → Option R) → Option R
  | 0, _, _ => none
  | n + 1, p0, k =>
    cond (decide (0 ≤ (p0.length : Int))) (cond (decide ((p0.length : Int) ≤ (p0.length : Int))) (cond (decide ((p0.length : Int) = (p0.length : Int))) (k (p0.take (Int.toNat (p0.length : Int)))) (none)) (none)) (none)
/-! tideway/recv.put -/
def s60_1 (cp : CP) (n : Nat) (p0 : (List SPiece)) (p1 : SPiece) (kn : (List SPiece) → Option R) : Option R :=
  G1029 cp n p0 p1.xFrom (fun r161 r162 => G1031 cp n p0 (fun r163 => G52 cp n p1.xData (fun r164 => G75 cp n r163 r161 (SPiece.mk p1.xFrom r164) (fun r165 => kn r165))))
def s60_3 (cp : CP) (n : Nat) (v166 : (List SPiece)) (kn : Int → Option R) : Option R :=
  kn (v166.length : Int)
def s60_5 (cp : CP) (n : Nat) (v166 : (List SPiece)) (v167 : Int) (v168 : (List SPiece)) (v169 : Int) (kn : (List SPiece) → Int → Option R) (ke0 : Option R) : Option R :=
  cond (decide (v169 < v167)) (cond (decide (0 ≤ v169)) (cond (decide (v169 < (v166.length : Int))) (cond (decide (0 < (v168.length : Int))) (cond (decide (0 ≤ wr .i64 ((v168.length : Int) - 1))) (cond (decide (wr .i64 ((v168.length : Int) - 1) < (v168.length : Int))) (cond (decide ((Int.toNat (wr .i64 ((v168.length : Int) - 1))) < v168.length)) (G71 cp n (v168.getD (Int.toNat (wr .i64 ((v168.length : Int) - 1))) zPiece) (fun r170 => cond (decide (r170.xTo = ((v166.getD (Int.toNat v169) zPiece).xFrom))) (cond (decide (0 ≤ wr .i64 ((v168.length : Int) - 1))) (cond (decide (wr .i64 ((v168.length : Int) - 1) < (v168.length : Int))) (cond (decide ((Int.toNat (wr .i64 ((v168.length : Int) - 1))) < v168.length)) (G77 cp n ((v168.getD (Int.toNat (wr .i64 ((v168.length : Int) - 1))) zPiece).xData) (fun r171 => cond (cp (r171.length + ((v166.getD (Int.toNat v169) zPiece).xData).length) 1) (cond (decide (0 ≤ wr .i64 ((v168.length : Int) - 1))) (cond (decide (wr .i64 ((v168.length : Int) - 1) < (v168.length : Int))) (cond (decide ((Int.toNat (wr .i64 ((v168.length : Int) - 1))) < v168.length)) (kn (v168.set (Int.toNat (wr .i64 ((v168.length : Int) - 1))) (SPiece.mk ((v168.getD (Int.toNat (wr .i64 ((v168.length : Int) - 1))) zPiece).xFrom) (r171 ++ ((v166.getD (Int.toNat v169) zPiece).xData)))) (wr .i64 (v169 + 1))) (none)) (none)) (none)) (none))) (none)) (none)) (none)) (cond (cp (v168.length + [(v166.getD (Int.toNat v169) zPiece)].length) 32) (kn (v168 ++ [(v166.getD (Int.toNat v169) zPiece)]) (wr .i64 (v169 + 1))) (none)))) (none)) (none)) (none)) (cond (cp (v168.length + [(v166.getD (Int.toNat v169) zPiece)].length) 32) (kn (v168 ++ [(v166.getD (Int.toNat v169) zPiece)]) (wr .i64 (v169 + 1))) (none))) (none)) (none)) (ke0)
def l60_10 (cp : CP) (n : Nat) : Nat → (List SPiece) → Int → (List SPiece) → Int → ((List SPiece) → Option R) → Option R
  | 0, _, _, _, _, _ => none
  | m + 1, v166, v167, v168, v169, ke0 =>
    s60_5 cp n v166 v167 v168 v169 (fun v172 v173 => l60_10 cp n m v166 v167 v172 v173 ke0) (ke0 v168)
def s60_11 (cp : CP) (n : Nat) (v166 : (List SPiece)) (v167 : Int) (ke0 : (List SPiece) → Option R) : Option R :=
  l60_10 cp n n v166 v167 [] 0 ke0
def s60_13 (cp : CP) (n : Nat) (v166 : (List SPiece)) (v167 : Int) (kn : (List SPiece) → Option R) : Option R :=
  s60_11 cp n v166 v167 (fun v174 => (kn v174))
def s60_15 (cp : CP) (n : Nat) (v166 : (List SPiece)) (kn : (List SPiece) → Option R) : Option R :=
  s60_3 cp n v166 (fun v167 => s60_13 cp n v166 v167 (fun v175 => (kn v175)))
def s60_16 (cp : CP) (n : Nat) (v176 : (List SPiece)) (kr : Option R) : Option R :=
  kr
def s60_19 (cp : CP) (n : Nat) (v166 : (List SPiece)) (kr : (List SPiece) → Option R) : Option R :=
  s60_15 cp n v166 (fun v176 => s60_16 cp n v176 (kr v176))
def s60_21 (cp : CP) (n : Nat) (p0 : (List SPiece)) (p1 : SPiece) (kr : (List SPiece) → Option R) : Option R :=
  s60_1 cp n p0 p1 (fun v166 => s60_19 cp n v166 (fun v177 => (kr v177)))
def G60 (cp : CP) : Nat → (List SPiece) → SPiece → ((List SPiece) → Option R) → Option R
  | 0, _, _, _ => none
  | n + 1, p0, p1, k =>
    s60_21 cp n p0 p1 (fun v178 => k v178)
/-! tideway/recv.take$1 -/
def G1027 (cp : CP) : Nat → SSpan → SRecv → Int → (List Int) → Bool → (SRecv → Int → (List Int) → Bool → Option R) → Option R
  | 0, _, _, _, _, _, _ => none
  | n + 1, p0, q0, q1, q2, q3, k =>
    cond (decide (0 ≤ wr .i64 (p0.xFrom - q1))) (cond (decide (wr .i64 (p0.xFrom - q1) ≤ wr .i64 (p0.xTo - q1))) (cond (decide (wr .i64 (p0.xTo - q1) ≤ (q2.length : Int))) (G60 cp n q0.xLate (SPiece.mk p0.xFrom (List.take ((Int.toNat (wr .i64 (p0.xTo - q1))) - (Int.toNat (wr .i64 (p0.xFrom - q1)))) (q2.drop (Int.toNat (wr .i64 (p0.xFrom - q1)))))) (fun r179 => k (SRecv.mk q0.xNext q0.xUnread r179 q0.xCap q0.xShift q0.xEdge q0.xRecent q0.xStamps q0.xSacks q0.xFin q0.xDone q0.xFirst q0.xIrs q0.xOwn q0.xStamp) q1 q2 true)) (none)) (none)) (none)
/-! tideway/recv.take -/
def s34_1 (cp : CP) (n : Nat) (p0 : SRecv) (p1 : Int) (p2 : (List Int)) (kn : Int → Option R) : Option R :=
  G53 cp n p0 (fun r162 => cond (decide (0 ≤ p0.xFin)) (kn (mn (mn (wr .i64 (p1 + (p2.length : Int))) r162) p0.xFin)) (kn (mn (wr .i64 (p1 + (p2.length : Int))) r162)))
def s34_3 (cp : CP) (n : Nat) (p0 : SRecv) (p1 : Int) (p2 : (List Int)) (v163 : Int) (kn : SRecv → Option R) : Option R :=
  G55 cp n p0 (fun r164 => kn r164)
def s34_7 (cp : CP) (n : Nat) (p0 : SRecv) (p1 : Int) (p2 : (List Int)) (v163 : Int) (v165 : SRecv) (kn : Int → Option R) : Option R :=
  kn (v165.xLate.length : Int)
def s34_9 (cp : CP) (n : Nat) (p0 : SRecv) (p1 : Int) (p2 : (List Int)) (v163 : Int) (v165 : SRecv) (v166 v167 : Int) (v168 : (List SSpan)) (kn : Option R) (ke0 : Option R) : Option R :=
  cond (decide (v167 < v166)) (kn) (ke0)
def s34_12 (cp : CP) (n : Nat) (p0 : SRecv) (p1 : Int) (p2 : (List Int)) (v163 : Int) (v165 : SRecv) (v166 v167 : Int) (v168 : (List SSpan)) (kn : Int → (List Int) → Option R) : Option R :=
  cond (decide (0 ≤ v167)) (cond (decide (v167 < (v165.xLate.length : Int))) (kn ((v165.xLate.getD (Int.toNat v167) zPiece).xFrom) ((v165.xLate.getD (Int.toNat v167) zPiece).xData)) (none)) (none)
def s34_14 (cp : CP) (n : Nat) (p0 : SRecv) (p1 : Int) (p2 : (List Int)) (v163 : Int) (v165 : SRecv) (v166 v167 : Int) (v168 : (List SSpan)) (v169 : Int) (v170 : (List Int)) (ka : Int → Int → Option R) : Option R :=
  G71 cp n (SPiece.mk v169 v170) (fun r171 => ka r171.xFrom r171.xTo)
def s34_16 (cp : CP) (n : Nat) (p0 : SRecv) (p1 : Int) (p2 : (List Int)) (v163 : Int) (v165 : SRecv) (v168 : (List SSpan)) (v169 : Int) (v170 : (List Int)) (v172 v173 : Int) (kn : (List SSpan) → Option R) : Option R :=
  cond (cp (v168.length + [(SSpan.mk v172 v173)].length) 16) (kn (v168 ++ [(SSpan.mk v172 v173)])) (none)
def s34_22 (cp : CP) (n : Nat) (p0 : SRecv) (p1 : Int) (p2 : (List Int)) (v163 : Int) (v165 : SRecv) (v166 v167 : Int) (v168 : (List SSpan)) (v169 : Int) (v170 : (List Int)) (kn : (List SSpan) → Option R) : Option R :=
  s34_14 cp n p0 p1 p2 v163 v165 v166 v167 v168 v169 v170 (fun v172 v173 => s34_16 cp n p0 p1 p2 v163 v165 v168 v169 v170 v172 v173 (fun v174 => kn v174))
def s34_23 (cp : CP) (n : Nat) (p0 : SRecv) (p1 : Int) (p2 : (List Int)) (v163 : Int) (v165 : SRecv) (v166 v167 : Int) (v175 : (List SSpan)) (kn : Option R) : Option R :=
  kn
def s34_26 (cp : CP) (n : Nat) (p0 : SRecv) (p1 : Int) (p2 : (List Int)) (v163 : Int) (v165 : SRecv) (v166 v167 : Int) (v168 : (List SSpan)) (v169 : Int) (v170 : (List Int)) (kn : (List SSpan) → Option R) : Option R :=
  s34_22 cp n p0 p1 p2 v163 v165 v166 v167 v168 v169 v170 (fun v175 => s34_23 cp n p0 p1 p2 v163 v165 v166 v167 v175 (kn v175))
def s34_28 (cp : CP) (n : Nat) (p0 : SRecv) (p1 : Int) (p2 : (List Int)) (v163 : Int) (v165 : SRecv) (v166 v167 : Int) (v168 : (List SSpan)) (kn : (List SSpan) → Option R) : Option R :=
  s34_12 cp n p0 p1 p2 v163 v165 v166 v167 v168 (fun v169 v170 => s34_26 cp n p0 p1 p2 v163 v165 v166 v167 v168 v169 v170 (fun v176 => (kn v176)))
def s34_30 (cp : CP) (n : Nat) (p0 : SRecv) (p1 : Int) (p2 : (List Int)) (v163 : Int) (v165 : SRecv) (v166 v167 : Int) (v168 : (List SSpan)) (kn : (List SSpan) → Option R) : Option R :=
  s34_28 cp n p0 p1 p2 v163 v165 v166 v167 v168 (fun v177 => (kn v177))
def s34_31 (cp : CP) (n : Nat) (p0 : SRecv) (p1 : Int) (p2 : (List Int)) (v163 : Int) (v165 : SRecv) (v166 v167 : Int) (v178 : (List SSpan)) (kn : Int → Option R) : Option R :=
  kn (wr .i64 (v167 + 1))
def s34_34 (cp : CP) (n : Nat) (p0 : SRecv) (p1 : Int) (p2 : (List Int)) (v163 : Int) (v165 : SRecv) (v166 v167 : Int) (v168 : (List SSpan)) (kn : Int → (List SSpan) → Option R) : Option R :=
  s34_30 cp n p0 p1 p2 v163 v165 v166 v167 v168 (fun v178 => s34_31 cp n p0 p1 p2 v163 v165 v166 v167 v178 (fun v179 => (kn v179 v178)))
def s34_36 (cp : CP) (n : Nat) (p0 : SRecv) (p1 : Int) (p2 : (List Int)) (v163 : Int) (v165 : SRecv) (v166 v167 : Int) (v168 : (List SSpan)) (kn : Int → (List SSpan) → Option R) (ke0 : Option R) : Option R :=
  s34_9 cp n p0 p1 p2 v163 v165 v166 v167 v168 (s34_34 cp n p0 p1 p2 v163 v165 v166 v167 v168 (fun v180 v181 => (kn v180 v181))) ke0
def l34_38 (cp : CP) (n : Nat) : Nat → SRecv → Int → (List Int) → Int → SRecv → Int → Int → (List SSpan) → ((List SSpan) → Option R) → Option R
  | 0, _, _, _, _, _, _, _, _, _ => none
  | m + 1, p0, p1, p2, v163, v165, v166, v167, v168, ke0 =>
    s34_36 cp n p0 p1 p2 v163 v165 v166 v167 v168 (fun v182 v183 => l34_38 cp n m p0 p1 p2 v163 v165 v166 v182 v183 ke0) (ke0 v168)
def s34_39 (cp : CP) (n : Nat) (p0 : SRecv) (p1 : Int) (p2 : (List Int)) (v163 : Int) (v165 : SRecv) (v166 : Int) (ke0 : (List SSpan) → Option R) : Option R :=
  l34_38 cp n n p0 p1 p2 v163 v165 v166 0 [] ke0
def s34_41 (cp : CP) (n : Nat) (p0 : SRecv) (p1 : Int) (p2 : (List Int)) (v163 : Int) (v165 : SRecv) (v166 : Int) (kn : (List SSpan) → Option R) : Option R :=
  s34_39 cp n p0 p1 p2 v163 v165 v166 (fun v184 => (kn v184))
def s34_43 (cp : CP) (n : Nat) (p0 : SRecv) (p1 : Int) (p2 : (List Int)) (v163 : Int) (v165 : SRecv) (kn : (List SSpan) → Option R) : Option R :=
  s34_7 cp n p0 p1 p2 v163 v165 (fun v166 => s34_41 cp n p0 p1 p2 v163 v165 v166 (fun v185 => (kn v185)))
def s34_46 (cp : CP) (n : Nat) (p0 : SRecv) (p1 : Int) (p2 : (List Int)) (v163 : Int) (v165 : SRecv) (kn : (List SSpan) → Option R) : Option R :=
  s34_43 cp n p0 p1 p2 v163 v165 (fun v186 => (kn v186))
def s34_48 (cp : CP) (n : Nat) (p0 : SRecv) (p1 : Int) (p2 : (List Int)) (v163 : Int) (v165 : SRecv) (kn : (List SSpan) → Option R) : Option R :=
  s34_46 cp n p0 p1 p2 v163 v165 (fun v187 => (kn v187))
def s34_50 (cp : CP) (n : Nat) (p0 : SRecv) (p1 : Int) (p2 : (List Int)) (v163 : Int) (kn : (List SSpan) → Option R) : Option R :=
  s34_3 cp n p0 p1 p2 v163 (fun v165 => s34_48 cp n p0 p1 p2 v163 v165 (fun v188 => (kn v188)))
def s34_51 (cp : CP) (n : Nat) (p0 : SRecv) (p1 : Int) (p2 : (List Int)) (v163 : Int) (v189 : (List SSpan)) (kn : Option R) : Option R :=
  kn
def s34_53 (cp : CP) (n : Nat) (p0 : SRecv) (p1 : Int) (p2 : (List Int)) (v163 : Int) (v189 : (List SSpan)) (kn : Int → Bool → Option R) : Option R :=
  kn (mx p1 p0.xNext) (decide ((mx p1 p0.xNext) < v163))
def s34_55 (cp : CP) (n : Nat) (p0 : SRecv) (p1 : Int) (p2 : (List Int)) (v163 : Int) (v189 : (List SSpan)) (v190 : Int) (v191 : Bool) (kn : (List SSpan) → Int → Option R) : Option R :=
  G61 cp n v189 (SSpan.mk v190 v163) (fun r192 => kn r192 (r192.length : Int))
def s34_57 (cp : CP) (n : Nat) (v193 : (List SSpan)) (v194 v195 : Int) (v196 : SRecv) (v197 : Int) (v198 : (List Int)) (v199 : Bool) (kn : Int → SRecv → Int → (List Int) → Bool → Option R) (ke2 : Option R) : Option R :=
  cond (decide (v195 < v194)) (cond (decide (0 ≤ v195)) (cond (decide (v195 < (v193.length : Int))) (G1027 cp n (v193.getD (Int.toNat v195) zSpan) v196 v197 v198 v199 (fun r200 r201 r202 r203 => kn (wr .i64 (v195 + 1)) r200 r201 r202 r203)) (none)) (none)) (ke2)
def l34_62 (cp : CP) (n : Nat) : Nat → (List SSpan) → Int → Int → SRecv → Int → (List Int) → Bool → (SRecv → Bool → Option R) → Option R
  | 0, _, _, _, _, _, _, _, _ => none
  | m + 1, v193, v194, v195, v196, v197, v198, v199, ke2 =>
    s34_57 cp n v193 v194 v195 v196 v197 v198 v199 (fun v204 v205 v206 v207 v208 => l34_62 cp n m v193 v194 v204 v205 v206 v207 v208 ke2) (ke2 v196 v199)
def s34_63 (cp : CP) (n : Nat) (p0 : SRecv) (p1 : Int) (p2 : (List Int)) (v193 : (List SSpan)) (v194 : Int) (ke2 : SRecv → Bool → Option R) : Option R :=
  l34_62 cp n n v193 v194 0 p0 p1 p2 false ke2
def s34_65 (cp : CP) (n : Nat) (p0 : SRecv) (p1 : Int) (p2 : (List Int)) (v193 : (List SSpan)) (v194 : Int) (kn : SRecv → Bool → Option R) : Option R :=
  s34_63 cp n p0 p1 p2 v193 v194 (fun v209 v210 => (kn v209 v210))
def s34_67 (cp : CP) (n : Nat) (p0 : SRecv) (p1 : Int) (p2 : (List Int)) (v163 : Int) (v189 : (List SSpan)) (v190 : Int) (v191 : Bool) (kn : SRecv → Bool → Option R) : Option R :=
  s34_55 cp n p0 p1 p2 v163 v189 v190 v191 (fun v193 v194 => s34_65 cp n p0 p1 p2 v193 v194 (fun v211 v212 => (kn v211 v212)))
def s34_68 (cp : CP) (n : Nat) (p0 : SRecv) (p1 : Int) (p2 : (List Int)) (v163 : Int) (v189 : (List SSpan)) (v190 : Int) (v191 : Bool) (kn : Option R) : Option R :=
  kn
def s34_69 (cp : CP) (n : Nat) (p0 : SRecv) (p1 : Int) (p2 : (List Int)) (v163 : Int) (v189 : (List SSpan)) (v190 : Int) (v191 : Bool) (kn : SRecv → Bool → Option R) : Option R :=
  cond (v191) (s34_67 cp n p0 p1 p2 v163 v189 v190 v191 (fun v213 v214 => (kn v213 v214))) (s34_68 cp n p0 p1 p2 v163 v189 v190 v191 (kn p0 false))
def s34_72 (cp : CP) (n : Nat) (p0 : SRecv) (p1 : Int) (p2 : (List Int)) (v163 : Int) (v189 : (List SSpan)) (kn : SRecv → Bool → Option R) : Option R :=
  s34_53 cp n p0 p1 p2 v163 v189 (fun v190 v191 => s34_69 cp n p0 p1 p2 v163 v189 v190 v191 (fun v215 v216 => (kn v215 v216)))
def s34_73 (cp : CP) (n : Nat) (v218 : Bool) (v219 : SRecv) (kn : SRecv → Option R) (ke4 : Option R) : Option R :=
  cond (decide (0 < (v219.xLate.length : Int))) (cond (decide (0 < (v219.xLate.length : Int))) (cond (decide (((v219.xLate.getD 0 zPiece).xFrom) = v219.xNext)) (cond (decide (0 < (v219.xLate.length : Int))) (cond (cp (v219.xUnread.length + ((v219.xLate.getD 0 zPiece).xData).length) 1) (cond (decide (0 < (v219.xLate.length : Int))) (cond (decide (1 ≤ (v219.xLate.length : Int))) (kn (SRecv.mk (wr .i64 (v219.xNext + (((v219.xLate.getD 0 zPiece).xData).length : Int))) (v219.xUnread ++ ((v219.xLate.getD 0 zPiece).xData)) (List.take (v219.xLate.length - 1) (v219.xLate.drop 1)) v219.xCap v219.xShift v219.xEdge v219.xRecent v219.xStamps v219.xSacks v219.xFin v219.xDone v219.xFirst v219.xIrs v219.xOwn v219.xStamp)) (none)) (none)) (none)) (none)) (ke4)) (none)) (ke4)
def l34_77 (cp : CP) (n : Nat) : Nat → Bool → SRecv → (SRecv → Option R) → Option R
  | 0, _, _, _ => none
  | m + 1, v218, v219, ke4 =>
    s34_73 cp n v218 v219 (fun v220 => l34_77 cp n m v218 v220 ke4) (ke4 v219)
def s34_78 (cp : CP) (n : Nat) (v217 : SRecv) (v218 : Bool) (ke4 : SRecv → Option R) : Option R :=
  l34_77 cp n n v218 v217 ke4
def s34_80 (cp : CP) (n : Nat) (v217 : SRecv) (v218 : Bool) (ke4 : SRecv → Option R) : Option R :=
  s34_78 cp n v217 v218 ke4
def s34_82 (cp : CP) (n : Nat) (v217 : SRecv) (v218 : Bool) (kn : SRecv → Option R) : Option R :=
  s34_80 cp n v217 v218 (fun v221 => (kn v221))
def s34_83 (cp : CP) (n : Nat) (v218 : Bool) (v222 : SRecv) (kr : Option R) : Option R :=
  kr
def s34_86 (cp : CP) (n : Nat) (v217 : SRecv) (v218 : Bool) (kr : SRecv → Option R) : Option R :=
  s34_82 cp n v217 v218 (fun v222 => s34_83 cp n v218 v222 (kr v222))
def s34_88 (cp : CP) (n : Nat) (p0 : SRecv) (p1 : Int) (p2 : (List Int)) (v163 : Int) (v189 : (List SSpan)) (kr : Bool → SRecv → Option R) : Option R :=
  s34_72 cp n p0 p1 p2 v163 v189 (fun v217 v218 => s34_86 cp n v217 v218 (fun v223 => (kr v218 v223)))
def s34_90 (cp : CP) (n : Nat) (p0 : SRecv) (p1 : Int) (p2 : (List Int)) (v163 : Int) (v189 : (List SSpan)) (kr : Bool → SRecv → Option R) : Option R :=
  s34_51 cp n p0 p1 p2 v163 v189 (s34_88 cp n p0 p1 p2 v163 v189 (fun v224 v225 => (kr v224 v225)))
def s34_92 (cp : CP) (n : Nat) (p0 : SRecv) (p1 : Int) (p2 : (List Int)) (v163 : Int) (kr : Bool → SRecv → Option R) : Option R :=
  s34_50 cp n p0 p1 p2 v163 (fun v189 => s34_90 cp n p0 p1 p2 v163 v189 (fun v226 v227 => (kr v226 v227)))
def s34_94 (cp : CP) (n : Nat) (p0 : SRecv) (p1 : Int) (p2 : (List Int)) (kr : Bool → SRecv → Option R) : Option R :=
  s34_1 cp n p0 p1 p2 (fun v163 => s34_92 cp n p0 p1 p2 v163 (fun v228 v229 => (kr v228 v229)))
def G34 (cp : CP) : Nat → SRecv → Int → (List Int) → (SRecv → Bool → Option R) → Option R
  | 0, _, _, _, _ => none
  | n + 1, p0, p1, p2, k =>
    s34_94 cp n p0 p1 p2 (fun v230 v231 => k v231 v230)
/-! tideway/recv.firsts$1 -/
def G1036 (cp : CP) : Nat → SSpan → SSpan → (Bool → SSpan → Option R) → Option R
  | 0, _, _, _ => none
  | n + 1, p0, q0, k =>
    cond (decide (p0.xFrom ≤ q0.xFrom)) (k (decide (q0.xTo ≤ p0.xTo)) q0) (k false q0)
/-! slices.IndexFunc[[]tideway/api.Span,tideway/api.Span] -/
def s1035_1 (cp : CP) (n : Nat) (p0 : (List SSpan)) (q0 : SSpan) (kn : Option R) : Option R :=
  kn
def s1035_3 (cp : CP) (n : Nat) (p0 : (List SSpan)) (q0 : SSpan) (kn : Int → Option R) : Option R :=
  kn (p0.length : Int)
def s1035_5 (cp : CP) (n : Nat) (p0 : (List SSpan)) (v249 v250 v251 v252 : Int) (kn : Int → Int → Int → Option R) (kr : Int → Int → Option R) (ke0 : Option R) : Option R :=
  cond (decide (v250 < v249)) (cond (decide (0 ≤ v250)) (cond (decide (v250 < (p0.length : Int))) (G1036 cp n (p0.getD (Int.toNat v250) zSpan) (SSpan.mk v251 v252) (fun r253 r254 => cond (r253) (kr r254.xFrom r254.xTo) (kn (wr .i64 (v250 + 1)) r254.xFrom r254.xTo))) (none)) (none)) (ke0)
def l1035_12 (cp : CP) (n : Nat) : Nat → (List SSpan) → Int → Int → Int → Int → (Int → Int → Int → Option R) → (Int → Int → Option R) → Option R
  | 0, _, _, _, _, _, _, _ => none
  | m + 1, p0, v249, v250, v251, v252, kr, ke0 =>
    s1035_5 cp n p0 v249 v250 v251 v252 (fun v255 v256 v257 => l1035_12 cp n m p0 v249 v255 v256 v257 kr ke0) (fun v258 v259 => (kr v250 v258 v259)) (ke0 v251 v252)
def s1035_13 (cp : CP) (n : Nat) (p0 : (List SSpan)) (q0 : SSpan) (v249 : Int) (kr : Int → Int → Int → Option R) (ke0 : Int → Int → Option R) : Option R :=
  l1035_12 cp n n p0 v249 0 q0.xFrom q0.xTo kr ke0
def s1035_16 (cp : CP) (n : Nat) (p0 : (List SSpan)) (q0 : SSpan) (v249 : Int) (kn : Int → Int → Option R) (kr : Int → Int → Int → Option R) : Option R :=
  s1035_13 cp n p0 q0 v249 (fun v260 v261 v262 => (kr v260 v261 v262)) (fun v263 v264 => (kn v263 v264))
def s1035_19 (cp : CP) (n : Nat) (p0 : (List SSpan)) (q0 : SSpan) (kn : Int → Int → Option R) (kr : Int → Int → Int → Option R) : Option R :=
  s1035_3 cp n p0 q0 (fun v249 => s1035_16 cp n p0 q0 v249 (fun v265 v266 => (kn v265 v266)) (fun v267 v268 v269 => (kr v267 v268 v269)))
def s1035_20 (cp : CP) (n : Nat) (v270 v271 : Int) (kr : Option R) : Option R :=
  kr
def s1035_23 (cp : CP) (n : Nat) (p0 : (List SSpan)) (q0 : SSpan) (kr : Int → Int → Int → Option R) : Option R :=
  s1035_19 cp n p0 q0 (fun v270 v271 => s1035_20 cp n v270 v271 (kr (-1) v270 v271)) (fun v272 v273 v274 => (kr v272 v273 v274))
def s1035_25 (cp : CP) (n : Nat) (p0 : (List SSpan)) (q0 : SSpan) (kr : Int → Int → Int → Option R) : Option R :=
  s1035_1 cp n p0 q0 (s1035_23 cp n p0 q0 (fun v275 v276 v277 => (kr v275 v276 v277)))
def G1035 (cp : CP) : Nat → (List SSpan) → SSpan → (Int → SSpan → Option R) → Option R
  | 0, _, _, _ => none
  | n + 1, p0, q0, k =>
    s1035_25 cp n p0 q0 (fun v278 v279 v280 => k v278 (SSpan.mk v279 v280))
/-! tideway/recv.firsts -/
def s35_1 (cp : CP) (n : Nat) (p0 : SRecv) (p1 : Int) (p2 : (List Int)) (kn : (List SSpan) → Option R) : Option R :=
  G55 cp n p0 (fun r237 => G1007 cp n r237 (fun r238 r239 => kn r238))
def s35_3 (cp : CP) (n : Nat) (p0 : SRecv) (p1 : Int) (p2 : (List Int)) (v240 : (List SSpan)) (kn : Int → Option R) : Option R :=
  kn (wr .i64 ((v240.length : Int) - 1))
def s35_5 (cp : CP) (n : Nat) (p0 : SRecv) (p1 : Int) (p2 : (List Int)) (v240 : (List SSpan)) (v242 : Int) (kn : Int → Option R) (ke0 : (List SSpan) → Option R) : Option R :=
  cond (decide (0 ≤ v242)) (cond (decide (0 ≤ v242)) (cond (decide (v242 < (v240.length : Int))) (cond (decide (((v240.getD (Int.toNat v242) zSpan).xFrom) < (wr .i64 (p1 + (p2.length : Int))))) (cond (decide (0 ≤ v242)) (cond (decide (v242 < (v240.length : Int))) (cond (decide (p1 < ((v240.getD (Int.toNat v242) zSpan).xTo))) (cond (decide (0 < (p2.length : Int))) (cond (decide (0 ≤ v242)) (cond (decide (v242 < (v240.length : Int))) (cond (cp ([(v240.getD (Int.toNat v242) zSpan)].length + p0.xFirst.length) 16) (ke0 ([(v240.getD (Int.toNat v242) zSpan)] ++ p0.xFirst)) (none)) (none)) (none)) (kn (wr .i64 (v242 - 1)))) (kn (wr .i64 (v242 - 1)))) (none)) (none)) (kn (wr .i64 (v242 - 1)))) (none)) (none)) (ke0 p0.xFirst)
def l35_10 (cp : CP) (n : Nat) : Nat → SRecv → Int → (List Int) → (List SSpan) → Int → ((List SSpan) → Option R) → Option R
  | 0, _, _, _, _, _, _ => none
  | m + 1, p0, p1, p2, v240, v242, ke0 =>
    s35_5 cp n p0 p1 p2 v240 v242 (fun v243 => l35_10 cp n m p0 p1 p2 v240 v243 ke0) (fun v244 => (ke0 v244))
def s35_11 (cp : CP) (n : Nat) (p0 : SRecv) (p1 : Int) (p2 : (List Int)) (v240 : (List SSpan)) (v241 : Int) (ke0 : (List SSpan) → Option R) : Option R :=
  l35_10 cp n n p0 p1 p2 v240 v241 ke0
def s35_13 (cp : CP) (n : Nat) (p0 : SRecv) (p1 : Int) (p2 : (List Int)) (v240 : (List SSpan)) (v241 : Int) (kn : (List SSpan) → Option R) : Option R :=
  s35_11 cp n p0 p1 p2 v240 v241 (fun v245 => (kn v245))
def s35_15 (cp : CP) (n : Nat) (p0 : SRecv) (p1 : Int) (p2 : (List Int)) (v240 : (List SSpan)) (kn : (List SSpan) → Option R) : Option R :=
  s35_3 cp n p0 p1 p2 v240 (fun v241 => s35_13 cp n p0 p1 p2 v240 v241 (fun v246 => (kn v246)))
def s35_16 (cp : CP) (n : Nat) (v240 v247 : (List SSpan)) (kn : Option R) : Option R :=
  kn
def s35_18 (cp : CP) (n : Nat) (v240 v247 : (List SSpan)) (kn : Int → Option R) : Option R :=
  kn (v247.length : Int)
def s35_20 (cp : CP) (n : Nat) (v240 v247 : (List SSpan)) (v248 : Int) (v249 : (List SSpan)) (v250 : Int) (kn : (List SSpan) → Int → Option R) (ke2 : Option R) : Option R :=
  cond (decide (v250 < v248)) (cond (decide (0 ≤ v250)) (cond (decide (v250 < (v247.length : Int))) (G1035 cp n v240 (v247.getD (Int.toNat v250) zSpan) (fun r251 r252 => cond (decide (0 ≤ r251)) (cond (decide (0 ≤ r251)) (cond (decide (r251 < (v240.length : Int))) (G56 cp n v249 (v240.getD (Int.toNat r251) zSpan) (fun r253 => cond (!r253) (cond (decide (0 ≤ r251)) (cond (decide (r251 < (v240.length : Int))) (cond (cp (v249.length + [(v240.getD (Int.toNat r251) zSpan)].length) 16) (kn (v249 ++ [(v240.getD (Int.toNat r251) zSpan)]) (wr .i64 (v250 + 1))) (none)) (none)) (none)) (kn v249 (wr .i64 (v250 + 1))))) (none)) (none)) (kn v249 (wr .i64 (v250 + 1))))) (none)) (none)) (ke2)
def l35_25 (cp : CP) (n : Nat) : Nat → (List SSpan) → (List SSpan) → Int → (List SSpan) → Int → ((List SSpan) → Option R) → Option R
  | 0, _, _, _, _, _, _ => none
  | m + 1, v240, v247, v248, v249, v250, ke2 =>
    s35_20 cp n v240 v247 v248 v249 v250 (fun v254 v255 => l35_25 cp n m v240 v247 v248 v254 v255 ke2) (ke2 v249)
def s35_26 (cp : CP) (n : Nat) (v240 v247 : (List SSpan)) (v248 : Int) (ke2 : (List SSpan) → Option R) : Option R :=
  l35_25 cp n n v240 v247 v248 [] 0 ke2
def s35_28 (cp : CP) (n : Nat) (v240 v247 : (List SSpan)) (v248 : Int) (kn : (List SSpan) → Option R) : Option R :=
  s35_26 cp n v240 v247 v248 (fun v256 => (kn v256))
def s35_30 (cp : CP) (n : Nat) (v240 v247 : (List SSpan)) (kn : (List SSpan) → Option R) : Option R :=
  s35_18 cp n v240 v247 (fun v248 => s35_28 cp n v240 v247 v248 (fun v257 => (kn v257)))
def s35_31 (cp : CP) (n : Nat) (v258 : (List SSpan)) (kr : Option R) : Option R :=
  kr
def s35_34 (cp : CP) (n : Nat) (v240 v247 : (List SSpan)) (kr : (List SSpan) → Option R) : Option R :=
  s35_30 cp n v240 v247 (fun v258 => s35_31 cp n v258 (kr v258))
def s35_36 (cp : CP) (n : Nat) (v240 v247 : (List SSpan)) (kr : (List SSpan) → Option R) : Option R :=
  s35_16 cp n v240 v247 (s35_34 cp n v240 v247 (fun v259 => (kr v259)))
def s35_38 (cp : CP) (n : Nat) (p0 : SRecv) (p1 : Int) (p2 : (List Int)) (v240 : (List SSpan)) (kr : (List SSpan) → Option R) : Option R :=
  s35_15 cp n p0 p1 p2 v240 (fun v247 => s35_36 cp n v240 v247 (fun v260 => (kr v260)))
def s35_40 (cp : CP) (n : Nat) (p0 : SRecv) (p1 : Int) (p2 : (List Int)) (kr : (List SSpan) → Option R) : Option R :=
  s35_1 cp n p0 p1 p2 (fun v240 => s35_38 cp n p0 p1 p2 v240 (fun v261 => (kr v261)))
def G35 (cp : CP) : Nat → SRecv → Int → (List Int) → ((List SSpan) → Option R) → Option R
  | 0, _, _, _, _ => none
  | n + 1, p0, p1, p2, k =>
    s35_40 cp n p0 p1 p2 (fun v262 => k v262)
/-! tideway/recv.Input -/
def s12_1 (cp : CP) (n : Nat) (p0 : SRecv) (p1 : SSegment) (kn : Int → SRecv → Option R) (kr : Int → SRecv → Option R) : Option R :=
  G10 cp n p0 (fun r6 => cond (!decide (r6 = 0)) (kr r6 (SRecv.mk 0 [] [] 0 0 0 0 false false 0 false [] 0 0 false)) (G29 cp n p0 (fun r7 => cond (r7.xStamps) (cond (!p1.xStamped) (kr 0 r7) (G30 cp n r7.xNext (wr .u32 (p1.xSeq - r7.xIrs)) (fun r8 => kn r8 r7))) (G30 cp n r7.xNext (wr .u32 (p1.xSeq - r7.xIrs)) (fun r9 => kn r9 r7)))))
def s12_4 (cp : CP) (n : Nat) (p1 : SSegment) (v10 : Int) (v11 : SRecv) (kn : Option R) (kr : SRecv → SSegment → Option R) : Option R :=
  cond (v11.xStamps) (cond (v11.xStamp) (G31 cp n v11.xRecent p1.xVal (fun r14 => cond (decide (r14 < 0)) (G32 cp n v11 [] (fun r15 r16 => kr r15 r16)) (kn))) (kn)) (kn)
def s12_6 (cp : CP) (n : Nat) (p1 : SSegment) (v10 : Int) (v11 : SRecv) (kn : Int → Bool → Option R) : Option R :=
  cond (v11.xStamps) (cond (decide (v10 ≤ v11.xNext)) (kn p1.xVal true) (kn v11.xRecent v11.xStamp)) (kn v11.xRecent v11.xStamp)
def s12_8 (cp : CP) (n : Nat) (p1 : SSegment) (v10 : Int) (v11 : SRecv) (v19 : Int) (v20 : Bool) (kn : Bool → SRecv → Option R) : Option R :=
  cond (decide (0 < (bits .and .i64 p1.xFlags 1))) (G33 cp n (SRecv.mk v11.xNext v11.xUnread v11.xLate v11.xCap v11.xShift v11.xEdge v19 v11.xStamps v11.xSacks v11.xFin v11.xDone v11.xFirst v11.xIrs v11.xOwn v20) (wr .i64 (v10 + (p1.xData.length : Int))) (fun r27 => G34 cp n (SRecv.mk v11.xNext v11.xUnread v11.xLate v11.xCap v11.xShift v11.xEdge v19 v11.xStamps v11.xSacks r27 v11.xDone v11.xFirst v11.xIrs v11.xOwn v20) v10 p1.xData (fun r28 r29 => kn r29 (SRecv.mk r28.xNext r28.xUnread r28.xLate r28.xCap r28.xShift r28.xEdge r28.xRecent r28.xStamps r28.xSacks r28.xFin (decide (r28.xFin = r28.xNext)) r28.xFirst r28.xIrs r28.xOwn r28.xStamp)))) (G34 cp n (SRecv.mk v11.xNext v11.xUnread v11.xLate v11.xCap v11.xShift v11.xEdge v19 v11.xStamps v11.xSacks v11.xFin v11.xDone v11.xFirst v11.xIrs v11.xOwn v20) v10 p1.xData (fun r30 r31 => kn r31 (SRecv.mk r30.xNext r30.xUnread r30.xLate r30.xCap r30.xShift r30.xEdge r30.xRecent r30.xStamps r30.xSacks r30.xFin (decide (r30.xFin = r30.xNext)) r30.xFirst r30.xIrs r30.xOwn r30.xStamp)))
def s12_10 (cp : CP) (n : Nat) (p1 : SSegment) (v10 : Int) (v32 : Bool) (v33 : SRecv) (kn : (List SSpan) → Option R) : Option R :=
  G35 cp n v33 v10 p1.xData (fun r35 => kn r35)
def s12_12 (cp : CP) (n : Nat) (p1 : SSegment) (v10 : Int) (v32 : Bool) (v33 : SRecv) (v36 : (List SSpan)) (kn : (List SBlock) → Option R) : Option R :=
  cond (v33.xSacks) (cond (decide (0 < (p1.xData.length : Int))) (cond (decide (0 ≤ v10)) (cond (!v32) (G36 cp n p1.xSeq (p1.xData.length : Int) (fun r37 => kn [(SBlock.mk p1.xSeq r37)])) (kn [])) (kn [])) (kn [])) (kn [])
def s12_14 (cp : CP) (n : Nat) (v33 : SRecv) (v36 : (List SSpan)) (v38 : (List SBlock)) (kr : SRecv → SSegment → Option R) : Option R :=
  G32 cp n (SRecv.mk v33.xNext v33.xUnread v33.xLate v33.xCap v33.xShift v33.xEdge v33.xRecent v33.xStamps v33.xSacks v33.xFin v33.xDone v36 v33.xIrs v33.xOwn v33.xStamp) v38 (fun r39 r40 => kr r39 r40)
def s12_17 (cp : CP) (n : Nat) (p1 : SSegment) (v10 : Int) (v32 : Bool) (v33 : SRecv) (v36 : (List SSpan)) (kr : SRecv → SSegment → Option R) : Option R :=
  s12_12 cp n p1 v10 v32 v33 v36 (fun v38 => s12_14 cp n v33 v36 v38 (fun v41 v42 => (kr v41 v42)))
def s12_19 (cp : CP) (n : Nat) (p1 : SSegment) (v10 : Int) (v32 : Bool) (v33 : SRecv) (kr : SRecv → SSegment → Option R) : Option R :=
  s12_10 cp n p1 v10 v32 v33 (fun v36 => s12_17 cp n p1 v10 v32 v33 v36 (fun v43 v44 => (kr v43 v44)))
def s12_21 (cp : CP) (n : Nat) (p1 : SSegment) (v10 : Int) (v11 : SRecv) (v19 : Int) (v20 : Bool) (kr : SRecv → SSegment → Option R) : Option R :=
  s12_8 cp n p1 v10 v11 v19 v20 (fun v32 v33 => s12_19 cp n p1 v10 v32 v33 (fun v45 v46 => (kr v45 v46)))
def s12_23 (cp : CP) (n : Nat) (p1 : SSegment) (v10 : Int) (v11 : SRecv) (kr : SRecv → SSegment → Option R) : Option R :=
  s12_6 cp n p1 v10 v11 (fun v19 v20 => s12_21 cp n p1 v10 v11 v19 v20 (fun v47 v48 => (kr v47 v48)))
def s12_25 (cp : CP) (n : Nat) (p1 : SSegment) (v10 : Int) (v11 : SRecv) (kr : SRecv → SSegment → Option R) : Option R :=
  s12_4 cp n p1 v10 v11 (s12_23 cp n p1 v10 v11 (fun v49 v50 => (kr v49 v50))) (fun v17 v18 => (kr v17 v18))
def s12_27 (cp : CP) (n : Nat) (p0 : SRecv) (p1 : SSegment) (kr : Bool → Int → SRecv → SSegment → Option R) : Option R :=
  s12_1 cp n p0 p1 (fun v10 v11 => s12_25 cp n p1 v10 v11 (fun v51 v52 => (kr true 0 v51 v52))) (fun v12 v13 => (kr false v12 v13 (SSegment.mk 0 0 0 0 0 0 0 0 0 false false 0 0 [] [])))
def G12 (cp : CP) : Nat → SRecv → SSegment → (SRecv → SSegment → Bool → Int → Option R) → Option R
  | 0, _, _, _ => none
  | n + 1, p0, p1, k =>
    s12_27 cp n p0 p1 (fun v53 v54 v55 v56 => k v55 v56 v53 v54)
/-! tideway/recv.New -/
def G17 (cp : CP) : Nat → Int → Int → Int → Int → Bool → Bool → (SRecv → Int → Option R) → Option R
  | 0, _, _, _, _, _, _, _ => none
  | n + 1, p0, p1, p2, p3, p4, p5, k =>
    cond (decide (p0 < 1)) (k (SRecv.mk 0 [] [] 0 0 0 0 false false 0 false [] 0 0 false) 2) (cond (decide (1073741824 < p0)) (k (SRecv.mk 0 [] [] 0 0 0 0 false false 0 false [] 0 0 false) 2) (cond (decide (p1 < 0)) (k (SRecv.mk 0 [] [] 0 0 0 0 false false 0 false [] 0 0 false) 2) (cond (decide (14 < p1)) (k (SRecv.mk 0 [] [] 0 0 0 0 false false 0 false [] 0 0 false) 2) (G49 cp n (SRecv.mk 0 [] [] p0 p1 0 0 p4 p5 (-1) false [] p2 p3 false) (fun r61 => k (SRecv.mk 0 [] [] p0 p1 r61 0 p4 p5 (-1) false [] p2 p3 false) 0)))))
/-! tideway/seq.Clamp -/
def G51 (cp : CP) : Nat → Int → Int → Int → (Int → Option R) → Option R
  | 0, _, _, _, _ => none
  | n + 1, p0, p1, p2, k =>
    k (mx p1 (mn p0 p2))
/-! tideway/recv.Read -/
def s20_1 (cp : CP) (n : Nat) (p0 : SRecv) (p1 : Int) (kn : (List Int) → SRecv → Option R) (kr : Int → Option R) : Option R :=
  G10 cp n p0 (fun r82 => cond (!decide (r82 = 0)) (kr r82) (G29 cp n p0 (fun r83 => G51 cp n p1 0 (r83.xUnread.length : Int) (fun r84 => cond (decide (0 ≤ r84)) (cond (decide (r84 ≤ (r83.xUnread.length : Int))) (G52 cp n (r83.xUnread.take (Int.toNat r84)) (fun r85 => cond (decide (0 ≤ r84)) (cond (decide (r84 ≤ (r83.xUnread.length : Int))) (kn r85 (SRecv.mk r83.xNext (List.take (r83.xUnread.length - (Int.toNat r84)) (r83.xUnread.drop (Int.toNat r84))) r83.xLate r83.xCap r83.xShift r83.xEdge r83.xRecent r83.xStamps r83.xSacks r83.xFin r83.xDone r83.xFirst r83.xIrs r83.xOwn r83.xStamp)) (none)) (none))) (none)) (none)))))
def s20_4 (cp : CP) (n : Nat) (v86 : (List Int)) (v87 : SRecv) (kr : Bool → SRecv → SSegment → Option R) : Option R :=
  G49 cp n v87 (fun r89 => cond (decide ((wr .i64 ((wr .i64 (v87.xNext + r89)) - v87.xEdge)) < (mx (wr .i64 (Int.tdiv v87.xCap 2)) 1))) (kr false v87 (SSegment.mk 0 0 0 0 0 0 0 0 0 false false 0 0 [] [])) (G32 cp n v87 [] (fun r90 r91 => kr true r90 r91)))
def s20_7 (cp : CP) (n : Nat) (p0 : SRecv) (p1 : Int) (kr : (List Int) → Bool → Int → SRecv → SSegment → Option R) : Option R :=
  s20_1 cp n p0 p1 (fun v86 v87 => s20_4 cp n v86 v87 (fun v92 v93 v94 => (kr v86 v92 0 v93 v94))) (fun v88 => (kr [] false v88 (SRecv.mk 0 [] [] 0 0 0 0 false false 0 false [] 0 0 false) (SSegment.mk 0 0 0 0 0 0 0 0 0 false false 0 0 [] [])))
def G20 (cp : CP) : Nat → SRecv → Int → (SRecv → (List Int) → SSegment → Bool → Int → Option R) → Option R
  | 0, _, _, _ => none
  | n + 1, p0, p1, k =>
    s20_7 cp n p0 p1 (fun v95 v96 v97 v98 v99 => k v98 v95 v99 v96 v97)
/-! tideway/recv.Window -/
def G22 (cp : CP) : Nat → SRecv → (Int → Option R) → Option R
  | 0, _, _ => none
  | n + 1, p0, k =>
    G10 cp n p0 (fun r108 => cond (!decide (r108 = 0)) (k 0) (G49 cp n p0 (fun r109 => k r109)))
/-! tideway/tidewaylaw08.heads -/
def s11_1 (cp : CP) (n : Nat) (kn : Int → Bool → Int → Bool → Int → (List Int) → Int → SRecv → SSegment → SRecv → SSegment → SRecv → Option R) : Option R :=
  G17 cp n 10 0 100 7 false true (fun r79 r80 => G12 cp n r79 (SSegment.mk 0 0 102 0 0 0 0 0 0 false false 0 0 [] [99, 100]) (fun r81 r82 r83 r84 => G12 cp n r81 (SSegment.mk 0 0 100 0 0 0 0 0 0 false false 0 0 [] [97, 98]) (fun r85 r86 r87 r88 => G20 cp n r85 3 (fun r89 r90 r91 r92 r93 => kn r80 r83 r84 r87 r88 r90 r93 r79 r82 r85 r86 r89))))
def s11_3 (cp : CP) (n : Nat) (v94 : Int) (v95 : Bool) (v96 : Int) (v97 : Bool) (v98 : Int) (v99 : (List Int)) (v100 : Int) (v101 : SRecv) (v102 : SSegment) (v103 : SRecv) (v104 : SSegment) (v105 : SRecv) (kr : Bool → Option R) : Option R :=
  G17 cp n 0 0 0 0 false false (fun r106 r107 => cond (!decide (v94 = 0)) (kr false) (cond (!decide (v96 = 0)) (kr false) (cond (!decide (v98 = 0)) (kr false) (cond (!decide (v100 = 0)) (kr false) (cond (!v95) (kr false) (cond (!v97) (kr false) (cond (!decide (r107 = 2)) (kr false) (cond (decide (v102.xAck = 100)) (cond (decide ((v102.xSacks.length : Int) = 1)) (cond (decide (0 < (v102.xSacks.length : Int))) (cond ((decide ((v102.xSacks.getD 0 zBlock).xFrom = 102) && (decide ((v102.xSacks.getD 0 zBlock).xTo = 104) && true))) (cond (decide (v104.xAck = 104)) (cond (((strOfNums v103.xUnread).data.toList == str_abcd.data.toList)) (cond (((strOfNums v99).data.toList == str_abc.data.toList)) (cond (((strOfNums v105.xUnread).data.toList == str_d.data.toList)) (G22 cp n v101 (fun r110 => kr (decide (r110 = 10)))) (kr false)) (kr false)) (kr false)) (kr false)) (kr false)) (none)) (kr false)) (kr false)))))))))
def s11_6 (cp : CP) (n : Nat) (kr : Bool → Option R) : Option R :=
  s11_1 cp n (fun v94 v95 v96 v97 v98 v99 v100 v101 v102 v103 v104 v105 => s11_3 cp n v94 v95 v96 v97 v98 v99 v100 v101 v102 v103 v104 v105 (fun v111 => (kr v111)))
def G11 (cp : CP) : Nat → (Bool → Option R) → Option R
  | 0, _ => none
  | n + 1, k =>
    s11_6 cp n (fun v112 => k v112)
/-! tideway/tidewayref02.Same -/
def G21 (cp : CP) : Nat → (List Int) → (List Int) → (Bool → Option R) → Option R
  | 0, _, _, _ => none
  | n + 1, p0, p1, k =>
    k ((strOfNums p0).data.toList == (strOfNums p1).data.toList)
/-! tideway/tidewaylaw08.RecvTwice -/
def s7_1 (cp : CP) (n : Nat) (p0 : SRecv) (p1 : SSegment) (kn : Bool → Bool → Int → SRecv → SRecv → Option R) (kr : Bool → Option R) : Option R :=
  G12 cp n p0 p1 (fun r11 r12 r13 r14 => cond (!decide (r14 = 0)) (G11 cp n (fun r15 => kr r15)) (cond (decide (500 < (p1.xData.length : Int))) (G11 cp n (fun r16 => kr r16)) (G12 cp n r11 p1 (fun r17 r18 r19 r20 => kn r13 r19 r20 r11 r17))))
def s7_4 (cp : CP) (n : Nat) (p0 : SRecv) (v21 v22 : Bool) (v23 : Int) (v24 v25 : SRecv) (kr : Bool → Option R) : Option R :=
  cond (decide (v23 = 0)) (cond ((v21 == v22)) (cond (decide (v24.xNext = v25.xNext)) (G21 cp n v24.xUnread v25.xUnread (fun r27 => cond (r27) (cond (decide (v24.xFin = v25.xFin)) (cond ((v24.xDone == v25.xDone)) (cond (decide ((v24.xLate.length : Int) = (v25.xLate.length : Int))) (cond (decide (p0.xNext ≤ v24.xNext)) (cond (decide (p0.xEdge ≤ v24.xEdge)) (G10 cp n v24 (fun r28 => cond (decide (r28 = 0)) (G11 cp n (fun r29 => kr r29)) (kr false))) (kr false)) (kr false)) (kr false)) (kr false)) (kr false)) (kr false))) (kr false)) (kr false)) (kr false)
def s7_7 (cp : CP) (n : Nat) (p0 : SRecv) (p1 : SSegment) (kr : Bool → Option R) : Option R :=
  s7_1 cp n p0 p1 (fun v21 v22 v23 v24 v25 => s7_4 cp n p0 v21 v22 v23 v24 v25 (fun v30 => (kr v30))) (fun v26 => (kr v26))
def G7 (cp : CP) : Nat → SRecv → SSegment → (Bool → Option R) → Option R
  | 0, _, _, _ => none
  | n + 1, p0, p1, k =>
    s7_7 cp n p0 p1 (fun v31 => k v31)
def ca27 (cp : CP) (n : Nat) (av : Fr) (cs : List Fr) (k : Ret2 RW → Option R) : Option R := match av, cs with
  | [y0], [] => (dA y0).bind fun c0_ => (dRecv c0_).bind fun p0 => G27 cp n p0 (fun r0 => k ⟨(tL r0), [], []⟩)
  | _, _ => none
def ca53 (cp : CP) (n : Nat) (av : Fr) (cs : List Fr) (k : Ret2 RW → Option R) : Option R := match av, cs with
  | [y0], [] => (dA y0).bind fun c0_ => (dRecv c0_).bind fun p0 => G53 cp n p0 (fun r0 => k ⟨(tL r0), [], []⟩)
  | _, _ => none
def ca55 (cp : CP) (n : Nat) (av : Fr) (cs : List Fr) (k : Ret2 RW → Option R) : Option R := match av, cs with
  | [y0], [] => (dA y0).bind fun c0_ => (dRecv c0_).bind fun p0 => G55 cp n p0 (fun r0 => k ⟨.clo 70 [(4, 0)], [], [(eRecv r0)]⟩)
  | _, _ => none
def ca71 (cp : CP) (n : Nat) (av : Fr) (cs : List Fr) (k : Ret2 RW → Option R) : Option R := match av, cs with
  | [y0], [] => (dA y0).bind fun c0_ => (dPiece c0_).bind fun p0 => G71 cp n p0 (fun r0 => k ⟨.agg (eSpan r0), [], []⟩)
  | _, _ => none
def ca1008 (cp : CP) (n : Nat) (av : Fr) (cs : List Fr) (k : Ret2 RW → Option R) : Option R := match av, cs with
  | [y0, y1], [w0] => (dRSpan true y0).bind fun p0 => (dC 70 [(32, 0)] y1).bind fun _ => (dRecv w0).bind fun q0 => G1008 cp n p0 q0 (fun r0 r1 => k ⟨.row false (.rSpan r0), [(eRecv r1)], []⟩)
  | _, _ => none
def ca1007 (cp : CP) (n : Nat) (av : Fr) (cs : List Fr) (k : Ret2 RW → Option R) : Option R := match av, cs with
  | [y0], [w0] => (dC 70 [(5, 0)] y0).bind fun _ => (dRecv w0).bind fun q0 => G1007 cp n q0 (fun r0 r1 => k ⟨.row false (.rSpan r0), [(eRecv r1)], []⟩)
  | _, _ => none
def ca72 (cp : CP) (n : Nat) (av : Fr) (cs : List Fr) (k : Ret2 RW → Option R) : Option R := match av, cs with
  | [y0, y1], [] => (dRSpan false y0).bind fun p0 => (dA y1).bind fun c1_ => (dSpan c1_).bind fun p1 => G72 cp n p0 p1 (fun r0 => k ⟨(tL r0), [], []⟩)
  | _, _ => none
def ca56 (cp : CP) (n : Nat) (av : Fr) (cs : List Fr) (k : Ret2 RW → Option R) : Option R := match av, cs with
  | [y0, y1], [] => (dRSpan false y0).bind fun p0 => (dA y1).bind fun c1_ => (dSpan c1_).bind fun p1 => G56 cp n p0 p1 (fun r0 => k ⟨(tB r0), [], []⟩)
  | _, _ => none
def ca28 (cp : CP) (n : Nat) (av : Fr) (cs : List Fr) (k : Ret2 RW → Option R) : Option R := match av, cs with
  | [y0], [] => (dA y0).bind fun c0_ => (dRecv c0_).bind fun p0 => G28 cp n p0 (fun r0 => k ⟨(tB r0), [], []⟩)
  | _, _ => none
def ca10 (cp : CP) (n : Nat) (av : Fr) (cs : List Fr) (k : Ret2 RW → Option R) : Option R := match av, cs with
  | [y0], [] => (dA y0).bind fun c0_ => (dRecv c0_).bind fun p0 => G10 cp n p0 (fun r0 => k ⟨(tL r0), [], []⟩)
  | _, _ => none
def ca57 (cp : CP) (n : Nat) (av : Fr) (cs : List Fr) (k : Ret2 RW → Option R) : Option R := match av, cs with
  | [y0], [] => (dRSpan false y0).bind fun p0 => G57 cp n p0 (fun r0 => k ⟨.row true (.rSpan r0), [], []⟩)
  | _, _ => none
def ca52 (cp : CP) (n : Nat) (av : Fr) (cs : List Fr) (k : Ret2 RW → Option R) : Option R := match av, cs with
  | [y0], [] => (dRuint8 false y0).bind fun p0 => G52 cp n p0 (fun r0 => k ⟨.row true (.ruint8 r0), [], []⟩)
  | _, _ => none
def ca29 (cp : CP) (n : Nat) (av : Fr) (cs : List Fr) (k : Ret2 RW → Option R) : Option R := match av, cs with
  | [y0], [] => (dA y0).bind fun c0_ => (dRecv c0_).bind fun p0 => G29 cp n p0 (fun r0 => k ⟨.agg (eRecvt r0), [], []⟩)
  | _, _ => none
def ca31 (cp : CP) (n : Nat) (av : Fr) (cs : List Fr) (k : Ret2 RW → Option R) : Option R := match av, cs with
  | [y0, y1], [] => (dI .u32 y0).bind fun p0 => (dI .u32 y1).bind fun p1 => G31 cp n p0 p1 (fun r0 => k ⟨(tL r0), [], []⟩)
  | _, _ => none
def ca58 (cp : CP) (n : Nat) (av : Fr) (cs : List Fr) (k : Ret2 RW → Option R) : Option R := match av, cs with
  | [y0, y1], [] => (dI .i64 y0).bind fun p0 => (dI .i64 y1).bind fun p1 => G58 cp n p0 p1 (fun r0 => k ⟨(tL r0), [], []⟩)
  | _, _ => none
def ca30 (cp : CP) (n : Nat) (av : Fr) (cs : List Fr) (k : Ret2 RW → Option R) : Option R := match av, cs with
  | [y0, y1], [] => (dI .i64 y0).bind fun p0 => (dI .u32 y1).bind fun p1 => G30 cp n p0 p1 (fun r0 => k ⟨(tL r0), [], []⟩)
  | _, _ => none
def ca36 (cp : CP) (n : Nat) (av : Fr) (cs : List Fr) (k : Ret2 RW → Option R) : Option R := match av, cs with
  | [y0, y1], [] => (dI .u32 y0).bind fun p0 => (dI .i64 y1).bind fun p1 => G36 cp n p0 p1 (fun r0 => k ⟨(tI .u32 r0), [], []⟩)
  | _, _ => none
def ca49 (cp : CP) (n : Nat) (av : Fr) (cs : List Fr) (k : Ret2 RW → Option R) : Option R := match av, cs with
  | [y0], [] => (dA y0).bind fun c0_ => (dRecv c0_).bind fun p0 => G49 cp n p0 (fun r0 => k ⟨(tL r0), [], []⟩)
  | _, _ => none
def ca32 (cp : CP) (n : Nat) (av : Fr) (cs : List Fr) (k : Ret2 RW → Option R) : Option R := match av, cs with
  | [y0, y1], [] => (dA y0).bind fun c0_ => (dRecv c0_).bind fun p0 => (dRBlock true y1).bind fun p1 => G32 cp n p0 p1 (fun r0 r1 => k ⟨.tup [.agg (eRecv r0), .agg [(tL r1.xSrcPort), (tL r1.xDstPort), (tI .u32 r1.xSeq), (tI .u32 r1.xAck), (tL r1.xFlags), (tL r1.xWin), (tL r1.xUrg), (tL r1.xMss), (tL r1.xScale), (tB r1.xSackOk), (tB r1.xStamped), (tI .u32 r1.xVal), (tI .u32 r1.xEcr), .row true (.rBlock r1.xSacks), .row false (.ruint8 r1.xData)]], [], []⟩)
  | _, _ => none
def ca33 (cp : CP) (n : Nat) (av : Fr) (cs : List Fr) (k : Ret2 RW → Option R) : Option R := match av, cs with
  | [y0, y1], [] => (dA y0).bind fun c0_ => (dRecv c0_).bind fun p0 => (dI .i64 y1).bind fun p1 => G33 cp n p0 p1 (fun r0 => k ⟨(tL r0), [], []⟩)
  | _, _ => none
def ca82 (cp : CP) (n : Nat) (av : Fr) (cs : List Fr) (k : Ret2 RW → Option R) : Option R := match av, cs with
  | [y0], [] => (dA y0).bind fun c0_ => (dSpan c0_).bind fun p0 => G82 cp n p0 (fun r0 => k ⟨(tB r0), [], []⟩)
  | _, _ => none
def ca78 (cp : CP) (n : Nat) (av : Fr) (cs : List Fr) (k : Ret2 RW → Option R) : Option R := match av, cs with
  | [y0], [] => (dRSpan false y0).bind fun p0 => G78 cp n p0 (fun r0 => k ⟨(tL r0), [], []⟩)
  | _, _ => none
def ca79 (cp : CP) (n : Nat) (av : Fr) (cs : List Fr) (k : Ret2 RW → Option R) : Option R := match av, cs with
  | [y0, y1], [] => (dRSpan false y0).bind fun p0 => (dA y1).bind fun c1_ => (dSpan c1_).bind fun p1 => G79 cp n p0 p1 (fun r0 r1 => k ⟨.clo 83 [(6, 0), (8, 0)], [], [[.row false (.rSpan r0)], (eSpan r1)]⟩)
  | _, _ => none
def ca61 (cp : CP) (n : Nat) (av : Fr) (cs : List Fr) (k : Ret2 RW → Option R) : Option R := match av, cs with
  | [y0, y1], [] => (dRSpan false y0).bind fun p0 => (dA y1).bind fun c1_ => (dSpan c1_).bind fun p1 => G61 cp n p0 p1 (fun r0 => k ⟨.row false (.rSpan r0), [], []⟩)
  | _, _ => none
def ca74 (cp : CP) (n : Nat) (av : Fr) (cs : List Fr) (k : Ret2 RW → Option R) : Option R := match av, cs with
  | [y0, y1], [] => (dA y0).bind fun c0_ => (dPiece c0_).bind fun p0 => (dI .i64 y1).bind fun p1 => G74 cp n p0 p1 (fun r0 => k ⟨(tL r0), [], []⟩)
  | _, _ => none
def ca1029 (cp : CP) (n : Nat) (av : Fr) (cs : List Fr) (k : Ret2 RW → Option R) : Option R := match av, cs with
  | [y0, y1, y2], [] => (dRPiece false y0).bind fun p0 => (dI .i64 y1).bind fun p1 => (dC 74 [] y2).bind fun _ => G1029 cp n p0 p1 (fun r0 r1 => k ⟨.tup [(tL r0), (tB r1)], [], []⟩)
  | _, _ => none
def ca1031 (cp : CP) (n : Nat) (av : Fr) (cs : List Fr) (k : Ret2 RW → Option R) : Option R := match av, cs with
  | [y0], [] => (dRPiece false y0).bind fun p0 => G1031 cp n p0 (fun r0 => k ⟨.un none (.rPiece r0), [], []⟩)
  | _, _ => none
def ca75 (cp : CP) (n : Nat) (av : Fr) (cs : List Fr) (k : Ret2 RW → Option R) : Option R := match av, cs with
  | [y0, y1, y2], [] => (dUPiece y0).bind fun p0 => (dI .i64 y1).bind fun p1 => (dXPiece y2).bind fun p2 => G75 cp n p0 p1 p2 (fun r0 => k ⟨.un none (.rPiece r0), [], []⟩)
  | _, _ => none
def ca77 (cp : CP) (n : Nat) (av : Fr) (cs : List Fr) (k : Ret2 RW → Option R) : Option R := match av, cs with
  | [y0], [] => (dRuint8 false y0).bind fun p0 => G77 cp n p0 (fun r0 => k ⟨.row true (.ruint8 r0), [], []⟩)
  | _, _ => none
def ca60 (cp : CP) (n : Nat) (av : Fr) (cs : List Fr) (k : Ret2 RW → Option R) : Option R := match av, cs with
  | [y0, y1], [] => (dRPiece false y0).bind fun p0 => (dA y1).bind fun c1_ => (dPiece c1_).bind fun p1 => G60 cp n p0 p1 (fun r0 => k ⟨.row true (.rPiece r0), [], []⟩)
  | _, _ => none
def ca1027 (cp : CP) (n : Nat) (av : Fr) (cs : List Fr) (k : Ret2 RW → Option R) : Option R := match av, cs with
  | [y0, y1, y2, y3, y4], [w0, w1, w2, w3] => (dA y0).bind fun c0_ => (dSpan c0_).bind fun p0 => (dP 43 0 y1).bind fun _ => (dP 23 0 y2).bind fun _ => (dP 41 0 y3).bind fun _ => (dP 39 0 y4).bind fun _ => (dRecvt w0).bind fun q0 => (dOne w1).bind fun u1 => (dI .i64 u1).bind fun q1 => (dOne w2).bind fun u2 => (dRuint8 false u2).bind fun q2 => (dOne w3).bind fun u3 => (dB u3).bind fun q3 => G1027 cp n p0 q0 q1 q2 q3 (fun r0 r1 r2 r3 => k ⟨.tup [], [(eRecvt r0), [(tL r1)], [.row false (.ruint8 r2)], [(tB r3)]], []⟩)
  | _, _ => none
def ca34 (cp : CP) (n : Nat) (av : Fr) (cs : List Fr) (k : Ret2 RW → Option R) : Option R := match av, cs with
  | [y0, y1, y2], [] => (dA y0).bind fun c0_ => (dRecvt c0_).bind fun p0 => (dI .i64 y1).bind fun p1 => (dRuint8 false y2).bind fun p2 => G34 cp n p0 p1 p2 (fun r0 r1 => k ⟨.tup [.agg [(tL r0.xNext), .row true (.ruint8 r0.xUnread), .row false (.rPiece r0.xLate), (tL r0.xCap), (tL r0.xShift), (tL r0.xEdge), (tI .u32 r0.xRecent), (tB r0.xStamps), (tB r0.xSacks), (tL r0.xFin), (tB r0.xDone), .row true (.rSpan r0.xFirst), (tI .u32 r0.xIrs), (tI .u32 r0.xOwn), (tB r0.xStamp)], (tB r1)], [], []⟩)
  | _, _ => none
def ca1036 (cp : CP) (n : Nat) (av : Fr) (cs : List Fr) (k : Ret2 RW → Option R) : Option R := match av, cs with
  | [y0, y1], [w0] => (dA y0).bind fun c0_ => (dSpan c0_).bind fun p0 => (dP 16 0 y1).bind fun _ => (dSpan w0).bind fun q0 => G1036 cp n p0 q0 (fun r0 r1 => k ⟨(tB r0), [(eSpan r1)], []⟩)
  | _, _ => none
def ca1035 (cp : CP) (n : Nat) (av : Fr) (cs : List Fr) (k : Ret2 RW → Option R) : Option R := match av, cs with
  | [y0, y1], [w0] => (dRSpan false y0).bind fun p0 => (dC 63 [(19, 0)] y1).bind fun _ => (dSpan w0).bind fun q0 => G1035 cp n p0 q0 (fun r0 r1 => k ⟨(tL r0), [(eSpan r1)], []⟩)
  | _, _ => none
def ca35 (cp : CP) (n : Nat) (av : Fr) (cs : List Fr) (k : Ret2 RW → Option R) : Option R := match av, cs with
  | [y0, y1, y2], [] => (dA y0).bind fun c0_ => (dRecv c0_).bind fun p0 => (dI .i64 y1).bind fun p1 => (dRuint8 false y2).bind fun p2 => G35 cp n p0 p1 p2 (fun r0 => k ⟨.row true (.rSpan r0), [], []⟩)
  | _, _ => none
def ca12 (cp : CP) (n : Nat) (av : Fr) (cs : List Fr) (k : Ret2 RW → Option R) : Option R := match av, cs with
  | [y0, y1], [] => (dA y0).bind fun c0_ => (dRecv c0_).bind fun p0 => (dA y1).bind fun c1_ => (dSegment c1_).bind fun p1 => G12 cp n p0 p1 (fun r0 r1 r2 r3 => k ⟨.tup [.agg (eRecv r0), .agg (eSegment r1), (tB r2), (tL r3)], [], []⟩)
  | _, _ => none
def ca17 (cp : CP) (n : Nat) (av : Fr) (cs : List Fr) (k : Ret2 RW → Option R) : Option R := match av, cs with
  | [y0, y1, y2, y3, y4, y5], [] => (dI .i64 y0).bind fun p0 => (dI .i64 y1).bind fun p1 => (dI .u32 y2).bind fun p2 => (dI .u32 y3).bind fun p3 => (dB y4).bind fun p4 => (dB y5).bind fun p5 => G17 cp n p0 p1 p2 p3 p4 p5 (fun r0 r1 => k ⟨.tup [.agg (eRecv r0), (tL r1)], [], []⟩)
  | _, _ => none
def ca51 (cp : CP) (n : Nat) (av : Fr) (cs : List Fr) (k : Ret2 RW → Option R) : Option R := match av, cs with
  | [y0, y1, y2], [] => (dI .i64 y0).bind fun p0 => (dI .i64 y1).bind fun p1 => (dI .i64 y2).bind fun p2 => G51 cp n p0 p1 p2 (fun r0 => k ⟨(tL r0), [], []⟩)
  | _, _ => none
def ca20 (cp : CP) (n : Nat) (av : Fr) (cs : List Fr) (k : Ret2 RW → Option R) : Option R := match av, cs with
  | [y0, y1], [] => (dA y0).bind fun c0_ => (dRecv c0_).bind fun p0 => (dI .i64 y1).bind fun p1 => G20 cp n p0 p1 (fun r0 r1 r2 r3 r4 => k ⟨.tup [.agg (eRecv r0), .row false (.ruint8 r1), .agg (eSegment r2), (tB r3), (tL r4)], [], []⟩)
  | _, _ => none
def ca22 (cp : CP) (n : Nat) (av : Fr) (cs : List Fr) (k : Ret2 RW → Option R) : Option R := match av, cs with
  | [y0], [] => (dA y0).bind fun c0_ => (dRecv c0_).bind fun p0 => G22 cp n p0 (fun r0 => k ⟨(tL r0), [], []⟩)
  | _, _ => none
def ca11 (cp : CP) (n : Nat) (av : Fr) (cs : List Fr) (k : Ret2 RW → Option R) : Option R := match av, cs with
  | [], [] => G11 cp n (fun r0 => k ⟨(tB r0), [], []⟩)
  | _, _ => none
def ca21 (cp : CP) (n : Nat) (av : Fr) (cs : List Fr) (k : Ret2 RW → Option R) : Option R := match av, cs with
  | [y0, y1], [] => (dRuint8 false y0).bind fun p0 => (dRuint8 false y1).bind fun p1 => G21 cp n p0 p1 (fun r0 => k ⟨(tB r0), [], []⟩)
  | _, _ => none
def ca7 (cp : CP) (n : Nat) (av : Fr) (cs : List Fr) (k : Ret2 RW → Option R) : Option R := match av, cs with
  | [y0, y1], [] => (dA y0).bind fun c0_ => (dRecv c0_).bind fun p0 => (dA y1).bind fun c1_ => (dSegment c1_).bind fun p1 => G7 cp n p0 p1 (fun r0 => k ⟨(tB r0), [], []⟩)
  | _, _ => none
def callP (cp : CP) (n : Nat) (id : Nat) (av : Fr) (cs : List Fr) (k : Ret2 RW → Option R) : Option R := match id with
  | 27 => ca27 cp n av cs k
  | 53 => ca53 cp n av cs k
  | 55 => ca55 cp n av cs k
  | 71 => ca71 cp n av cs k
  | 1008 => ca1008 cp n av cs k
  | 1007 => ca1007 cp n av cs k
  | 72 => ca72 cp n av cs k
  | 56 => ca56 cp n av cs k
  | 28 => ca28 cp n av cs k
  | 10 => ca10 cp n av cs k
  | 57 => ca57 cp n av cs k
  | 52 => ca52 cp n av cs k
  | 29 => ca29 cp n av cs k
  | 31 => ca31 cp n av cs k
  | 58 => ca58 cp n av cs k
  | 30 => ca30 cp n av cs k
  | 36 => ca36 cp n av cs k
  | 49 => ca49 cp n av cs k
  | 32 => ca32 cp n av cs k
  | 33 => ca33 cp n av cs k
  | 82 => ca82 cp n av cs k
  | 78 => ca78 cp n av cs k
  | 79 => ca79 cp n av cs k
  | 61 => ca61 cp n av cs k
  | 74 => ca74 cp n av cs k
  | 1029 => ca1029 cp n av cs k
  | 1031 => ca1031 cp n av cs k
  | 75 => ca75 cp n av cs k
  | 77 => ca77 cp n av cs k
  | 60 => ca60 cp n av cs k
  | 1027 => ca1027 cp n av cs k
  | 34 => ca34 cp n av cs k
  | 1036 => ca1036 cp n av cs k
  | 1035 => ca1035 cp n av cs k
  | 35 => ca35 cp n av cs k
  | 12 => ca12 cp n av cs k
  | 17 => ca17 cp n av cs k
  | 51 => ca51 cp n av cs k
  | 20 => ca20 cp n av cs k
  | 22 => ca22 cp n av cs k
  | 11 => ca11 cp n av cs k
  | 21 => ca21 cp n av cs k
  | 7 => ca7 cp n av cs k
  | _ => none
end
end Go.Proofs.Ytilmdmjhdidoiaa.M
