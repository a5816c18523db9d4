/- The values of the program's functions, and the functions, plain. -/
import Derived.Test.YtilmdmjhdidoiaaMachX
set_option maxRecDepth 100000
set_option linter.unusedVariables false
namespace Go.Proofs.Ytilmdmjhdidoiaa.M
open Go
noncomputable section
abbrev CP := Nat → Nat → Bool
variable {R : Type}
def str_ : ByteArray := ⟨#[]⟩
def str_abcd : ByteArray := ⟨#[97, 98, 99, 100]⟩
def str_abc : ByteArray := ⟨#[97, 98, 99]⟩
def str_d : ByteArray := ⟨#[100]⟩
def zuint8 : Int := 0
def zint : Int := 0
structure SPiece where
  xFrom : Int
  xData : (List Int)
def zPiece : SPiece := ⟨0, []⟩
structure SSpan where
  xFrom : Int
  xTo : Int
def zSpan : SSpan := ⟨0, 0⟩
structure SRecv where
  xNext : Int
  xUnread : (List Int)
  xLate : (List SPiece)
  xCap : Int
  xShift : Int
  xEdge : Int
  xRecent : Int
  xStamps : Bool
  xSacks : Bool
  xFin : Int
  xDone : Bool
  xFirst : (List SSpan)
  xIrs : Int
  xOwn : Int
  xStamp : Bool
def zRecv : SRecv := ⟨0, [], [], 0, 0, 0, 0, false, false, 0, false, [], 0, 0, false⟩
structure SBlock where
  xFrom : Int
  xTo : Int
def zBlock : SBlock := ⟨0, 0⟩
structure SSegment where
  xSrcPort : Int
  xDstPort : Int
  xSeq : Int
  xAck : Int
  xFlags : Int
  xWin : Int
  xUrg : Int
  xMss : Int
  xScale : Int
  xSackOk : Bool
  xStamped : Bool
  xVal : Int
  xEcr : Int
  xSacks : (List SBlock)
  xData : (List Int)
def zSegment : SSegment := ⟨0, 0, 0, 0, 0, 0, 0, 0, 0, false, false, 0, 0, [], []⟩
inductive RW where
  | ruint8 (xs : List Int)
  | rint (xs : List Int)
  | rPiece (xs : List SPiece)
  | rSpan (xs : List SSpan)
  | rBlock (xs : List SBlock)

abbrev Fr := List (TV RW)
abbrev FF := FT RW
def tI (k : IntKind) (n : Int) : TV RW := .sc (.int k n)
def tL (n : Int) : TV RW := .sc (.int .i64 n)
def tB (b : Bool) : TV RW := .sc (.bool b)
def dT : Nat → Fr → Fr
  | 0, l => l
  | n + 1, l => .dead :: dT n l
def dc : Fr := dT 16 []
def eRecv (x : SRecv) : List (TV RW) := [(tL x.xNext), .row false (.ruint8 x.xUnread), .row false (.rPiece x.xLate), (tL x.xCap), (tL x.xShift), (tL x.xEdge), (tI .u32 x.xRecent), (tB x.xStamps), (tB x.xSacks), (tL x.xFin), (tB x.xDone), .row false (.rSpan x.xFirst), (tI .u32 x.xIrs), (tI .u32 x.xOwn), (tB x.xStamp)]
def eRecvt (x : SRecv) : List (TV RW) := [(tL x.xNext), .row true (.ruint8 x.xUnread), .row true (.rPiece x.xLate), (tL x.xCap), (tL x.xShift), (tL x.xEdge), (tI .u32 x.xRecent), (tB x.xStamps), (tB x.xSacks), (tL x.xFin), (tB x.xDone), .row true (.rSpan x.xFirst), (tI .u32 x.xIrs), (tI .u32 x.xOwn), (tB x.xStamp)]
def ePiece (x : SPiece) : List (TV RW) := [(tL x.xFrom), .row false (.ruint8 x.xData)]
def ePiecet (x : SPiece) : List (TV RW) := [(tL x.xFrom), .row true (.ruint8 x.xData)]
def eSpan (x : SSpan) : List (TV RW) := [(tL x.xFrom), (tL x.xTo)]
def eBlock (x : SBlock) : List (TV RW) := [(tI .u32 x.xFrom), (tI .u32 x.xTo)]
def eSegment (x : SSegment) : List (TV RW) := [(tL x.xSrcPort), (tL x.xDstPort), (tI .u32 x.xSeq), (tI .u32 x.xAck), (tL x.xFlags), (tL x.xWin), (tL x.xUrg), (tL x.xMss), (tL x.xScale), (tB x.xSackOk), (tB x.xStamped), (tI .u32 x.xVal), (tI .u32 x.xEcr), .row false (.rBlock x.xSacks), .row false (.ruint8 x.xData)]
def eSegmentt (x : SSegment) : List (TV RW) := [(tL x.xSrcPort), (tL x.xDstPort), (tI .u32 x.xSeq), (tI .u32 x.xAck), (tL x.xFlags), (tL x.xWin), (tL x.xUrg), (tL x.xMss), (tL x.xScale), (tB x.xSackOk), (tB x.xStamped), (tI .u32 x.xVal), (tI .u32 x.xEcr), .row true (.rBlock x.xSacks), .row true (.ruint8 x.xData)]
def euint8 (x : Int) : List (TV RW) := [(tI .u8 x)]
def eint (x : Int) : List (TV RW) := [(tL x)]
def cuint8 (x : Int) : List AV := [.sc (.int .u8 x)]
def cint (x : Int) : List AV := [.sc (.int .i64 x)]
def cPiece (x : SPiece) : List AV := [.sc (.int .i64 x.xFrom), .row false 1 x.xData.length (rg cuint8 zuint8 x.xData)]
def cSpan (x : SSpan) : List AV := [.sc (.int .i64 x.xFrom), .sc (.int .i64 x.xTo)]
def cBlock (x : SBlock) : List AV := [.sc (.int .u32 x.xFrom), .sc (.int .u32 x.xTo)]
def dOne : Fr → Option (TV RW)
  | [x] => some x
  | _ => none
def dI (kd : IntKind) : TV RW → Option Int
  | .sc (.int k a) => cond (decide (k = kd)) (some a) none
  | _ => none
def dB : TV RW → Option Bool
  | .sc (.bool b) => some b
  | _ => none
def dS : TV RW → Option ByteArray
  | .sc (.string b) => some b
  | _ => none
def dA : TV RW → Option Fr
  | .agg cs => some cs
  | _ => none
def dP (h j : Nat) : TV RW → Option Unit
  | .ptr a b => cond (Nat.beq a h && Nat.beq b j) (some ()) none
  | _ => none
def dC (f : Nat) (cs : List (Nat × Nat)) : TV RW → Option Unit
  | .clo a b => cond (Nat.beq a f && decide (b = cs)) (some ()) none
  | _ => none
def dUPiece : TV RW → Option (List SPiece)
  | .un none (.rPiece xs) => some xs
  | _ => none
def dXPiece : TV RW → Option SPiece
  | .row _ (.rPiece [x]) => some x
  | _ => none
def dRuint8 (fl : Bool) : TV RW → Option (List Int)
  | .row a (.ruint8 xs) => cond (a == fl) (some xs) none
  | _ => none
def dRint (fl : Bool) : TV RW → Option (List Int)
  | .row a (.rint xs) => cond (a == fl) (some xs) none
  | _ => none
def dRPiece (fl : Bool) : TV RW → Option (List SPiece)
  | .row a (.rPiece xs) => cond (a == fl) (some xs) none
  | _ => none
def dRSpan (fl : Bool) : TV RW → Option (List SSpan)
  | .row a (.rSpan xs) => cond (a == fl) (some xs) none
  | _ => none
def dRBlock (fl : Bool) : TV RW → Option (List SBlock)
  | .row a (.rBlock xs) => cond (a == fl) (some xs) none
  | _ => none
def dRecv : Fr → Option SRecv
  | [y0, y1, y2, y3, y4, y5, y6, y7, y8, y9, y10, y11, y12, y13, y14] => (dI .i64 y0).bind fun a0 => (dRuint8 false y1).bind fun a1 => (dRPiece false y2).bind fun a2 => (dI .i64 y3).bind fun a3 => (dI .i64 y4).bind fun a4 => (dI .i64 y5).bind fun a5 => (dI .u32 y6).bind fun a6 => (dB y7).bind fun a7 => (dB y8).bind fun a8 => (dI .i64 y9).bind fun a9 => (dB y10).bind fun a10 => (dRSpan false y11).bind fun a11 => (dI .u32 y12).bind fun a12 => (dI .u32 y13).bind fun a13 => (dB y14).bind fun a14 => some ⟨a0, a1, a2, a3, a4, a5, a6, a7, a8, a9, a10, a11, a12, a13, a14⟩
  | _ => none
def dRecvt : Fr → Option SRecv
  | [y0, y1, y2, y3, y4, y5, y6, y7, y8, y9, y10, y11, y12, y13, y14] => (dI .i64 y0).bind fun a0 => (dRuint8 true y1).bind fun a1 => (dRPiece true y2).bind fun a2 => (dI .i64 y3).bind fun a3 => (dI .i64 y4).bind fun a4 => (dI .i64 y5).bind fun a5 => (dI .u32 y6).bind fun a6 => (dB y7).bind fun a7 => (dB y8).bind fun a8 => (dI .i64 y9).bind fun a9 => (dB y10).bind fun a10 => (dRSpan true y11).bind fun a11 => (dI .u32 y12).bind fun a12 => (dI .u32 y13).bind fun a13 => (dB y14).bind fun a14 => some ⟨a0, a1, a2, a3, a4, a5, a6, a7, a8, a9, a10, a11, a12, a13, a14⟩
  | _ => none
def dPiece : Fr → Option SPiece
  | [y0, y1] => (dI .i64 y0).bind fun a0 => (dRuint8 false y1).bind fun a1 => some ⟨a0, a1⟩
  | _ => none
def dPiecet : Fr → Option SPiece
  | [y0, y1] => (dI .i64 y0).bind fun a0 => (dRuint8 true y1).bind fun a1 => some ⟨a0, a1⟩
  | _ => none
def dSpan : Fr → Option SSpan
  | [y0, y1] => (dI .i64 y0).bind fun a0 => (dI .i64 y1).bind fun a1 => some ⟨a0, a1⟩
  | _ => none
def dBlock : Fr → Option SBlock
  | [y0, y1] => (dI .u32 y0).bind fun a0 => (dI .u32 y1).bind fun a1 => some ⟨a0, a1⟩
  | _ => none
def dSegment : Fr → Option SSegment
  | [y0, y1, y2, y3, y4, y5, y6, y7, y8, y9, y10, y11, y12, y13, y14] => (dI .i64 y0).bind fun a0 => (dI .i64 y1).bind fun a1 => (dI .u32 y2).bind fun a2 => (dI .u32 y3).bind fun a3 => (dI .i64 y4).bind fun a4 => (dI .i64 y5).bind fun a5 => (dI .i64 y6).bind fun a6 => (dI .i64 y7).bind fun a7 => (dI .i64 y8).bind fun a8 => (dB y9).bind fun a9 => (dB y10).bind fun a10 => (dI .u32 y11).bind fun a11 => (dI .u32 y12).bind fun a12 => (dRBlock false y13).bind fun a13 => (dRuint8 false y14).bind fun a14 => some ⟨a0, a1, a2, a3, a4, a5, a6, a7, a8, a9, a10, a11, a12, a13, a14⟩
  | _ => none
def dSegmentt : Fr → Option SSegment
  | [y0, y1, y2, y3, y4, y5, y6, y7, y8, y9, y10, y11, y12, y13, y14] => (dI .i64 y0).bind fun a0 => (dI .i64 y1).bind fun a1 => (dI .u32 y2).bind fun a2 => (dI .u32 y3).bind fun a3 => (dI .i64 y4).bind fun a4 => (dI .i64 y5).bind fun a5 => (dI .i64 y6).bind fun a6 => (dI .i64 y7).bind fun a7 => (dI .i64 y8).bind fun a8 => (dB y9).bind fun a9 => (dB y10).bind fun a10 => (dI .u32 y11).bind fun a11 => (dI .u32 y12).bind fun a12 => (dRBlock true y13).bind fun a13 => (dRuint8 true y14).bind fun a14 => some ⟨a0, a1, a2, a3, a4, a5, a6, a7, a8, a9, a10, a11, a12, a13, a14⟩
  | _ => none
def puint8_ : Fr → Option (List Int)
  | [] => some []
  | y0 :: r => (dI .u8 y0).bind fun a0 => (puint8_ r).bind fun xs => some (a0 :: xs)

def pint_ : Fr → Option (List Int)
  | [] => some []
  | y0 :: r => (dI .i64 y0).bind fun a0 => (pint_ r).bind fun xs => some (a0 :: xs)

def pPiece_ : Fr → Option (List SPiece)
  | [] => some []
  | y0 :: y1 :: r => (dI .i64 y0).bind fun a0 => (dRuint8 false y1).bind fun a1 => (pPiece_ r).bind fun xs => some (⟨a0, a1⟩ :: xs)
  | _ => none

def pSpan_ : Fr → Option (List SSpan)
  | [] => some []
  | y0 :: y1 :: r => (dI .i64 y0).bind fun a0 => (dI .i64 y1).bind fun a1 => (pSpan_ r).bind fun xs => some (⟨a0, a1⟩ :: xs)
  | _ => none

def pBlock_ : Fr → Option (List SBlock)
  | [] => some []
  | y0 :: y1 :: r => (dI .u32 y0).bind fun a0 => (dI .u32 y1).bind fun a1 => (pBlock_ r).bind fun xs => some (⟨a0, a1⟩ :: xs)
  | _ => none

def U : Uni RW where
  sz := fun r => match r with
    | .ruint8 xs => 1
    | .rint xs => 1
    | .rPiece xs => 2
    | .rSpan xs => 2
    | .rBlock xs => 2
  len := fun r => match r with
    | .ruint8 xs => xs.length
    | .rint xs => xs.length
    | .rPiece xs => xs.length
    | .rSpan xs => xs.length
    | .rBlock xs => xs.length
  getA := fun r => match r with
    | .ruint8 xs => rg cuint8 zuint8 xs
    | .rint xs => rg cint zint xs
    | .rPiece xs => rg cPiece zPiece xs
    | .rSpan xs => rg cSpan zSpan xs
    | .rBlock xs => rg cBlock zBlock xs
  get := fun r i => match r with
    | .ruint8 xs => euint8 (xs.getD i zuint8)
    | .rint xs => eint (xs.getD i zint)
    | .rPiece xs => ePiece (xs.getD i zPiece)
    | .rSpan xs => eSpan (xs.getD i zSpan)
    | .rBlock xs => eBlock (xs.getD i zBlock)
  app := fun r q => match r with
    | .ruint8 xs => (match q with
      | .ruint8 ys => some (.ruint8 (xs ++ ys))
      | _ => none)
    | .rint xs => (match q with
      | .rint ys => some (.rint (xs ++ ys))
      | _ => none)
    | .rPiece xs => (match q with
      | .rPiece ys => some (.rPiece (xs ++ ys))
      | _ => none)
    | .rSpan xs => (match q with
      | .rSpan ys => some (.rSpan (xs ++ ys))
      | _ => none)
    | .rBlock xs => (match q with
      | .rBlock ys => some (.rBlock (xs ++ ys))
      | _ => none)
  sub := fun lo n r => match r with
    | .ruint8 xs => .ruint8 (List.take n (xs.drop lo))
    | .rint xs => .rint (List.take n (xs.drop lo))
    | .rPiece xs => .rPiece (List.take n (xs.drop lo))
    | .rSpan xs => .rSpan (List.take n (xs.drop lo))
    | .rBlock xs => .rBlock (List.take n (xs.drop lo))
  szt := fun t => match t with
    | 5 => 1
    | 3 => 1
    | 74 => 2
    | 78 => 2
    | 62 => 2
    | _ => 0
  zt := fun t => match t with
    | 5 => euint8 zuint8
    | 3 => eint zint
    | 74 => ePiece zPiece
    | 78 => eSpan zSpan
    | 62 => eBlock zBlock
    | _ => []
  lit := fun t n L => match t with
    | 5 => (puint8_ L).bind fun xs => cond (Nat.beq xs.length n) (some (.ruint8 xs)) none
    | 3 => (pint_ L).bind fun xs => cond (Nat.beq xs.length n) (some (.rint xs)) none
    | 74 => (pPiece_ L).bind fun xs => cond (Nat.beq xs.length n) (some (.rPiece xs)) none
    | 78 => (pSpan_ L).bind fun xs => cond (Nat.beq xs.length n) (some (.rSpan xs)) none
    | 62 => (pBlock_ L).bind fun xs => cond (Nat.beq xs.length n) (some (.rBlock xs)) none
    | _ => none
  set := fun r q off cs => match r with
    | .ruint8 xs => none
    | .rint xs => none
    | .rPiece xs => (dPiece (splice2 (ePiece (xs.getD q zPiece)) off cs)).bind fun x => some (.rPiece (xs.set q x))
    | .rSpan xs => (dSpan (splice2 (eSpan (xs.getD q zSpan)) off cs)).bind fun x => some (.rSpan (xs.set q x))
    | .rBlock xs => (dBlock (splice2 (eBlock (xs.getD q zBlock)) off cs)).bind fun x => some (.rBlock (xs.set q x))
  str := fun r => match r with
    | .ruint8 xs => some xs
    | .rint xs => none
    | .rPiece xs => none
    | .rSpan xs => none
    | .rBlock xs => none
/-! tideway/recv.window -/
def G49 (cp : CP) : Nat → SRecv → (Int → Option R) → Option R
  | 0, _, _ => none
  | n + 1, p0, k =>
    cond (decide (p0.xShift < 0)) (none) (cond (decide (p0.xShift < 0)) (none) (k (shl .i64 (mn (shr .i64 (wr .i64 (p0.xCap - (p0.xUnread.length : Int))) p0.xShift) 65535) p0.xShift)))
/-! tideway/recv.New -/
def G17 (cp : CP) : Nat → Int → Int → Int → Int → Bool → Bool → (SRecv → Int → Option R) → Option R
  | 0, _, _, _, _, _, _, _ => none
  | n + 1, p0, p1, p2, p3, p4, p5, k =>
    cond (decide (p0 < 1)) (k (SRecv.mk 0 [] [] 0 0 0 0 false false 0 false [] 0 0 false) 2) (cond (decide (1073741824 < p0)) (k (SRecv.mk 0 [] [] 0 0 0 0 false false 0 false [] 0 0 false) 2) (cond (decide (p1 < 0)) (k (SRecv.mk 0 [] [] 0 0 0 0 false false 0 false [] 0 0 false) 2) (cond (decide (14 < p1)) (k (SRecv.mk 0 [] [] 0 0 0 0 false false 0 false [] 0 0 false) 2) (G49 cp n (SRecv.mk 0 [] [] p0 p1 0 0 p4 p5 (-1) false [] p2 p3 false) (fun r1 => k (SRecv.mk 0 [] [] p0 p1 r1 0 p4 p5 (-1) false [] p2 p3 false) 0)))))
/-! tideway/recv.reach -/
def G27 (cp : CP) : Nat → SRecv → (Int → Option R) → Option R
  | 0, _, _ => none
  | n + 1, p0, k =>
    k (wr .i64 ((wr .i64 (p0.xNext - (p0.xUnread.length : Int))) + p0.xCap))
/-! tideway/recv.limit -/
def G53 (cp : CP) : Nat → SRecv → (Int → Option R) → Option R
  | 0, _, _ => none
  | n + 1, p0, k =>
    G27 cp n p0 (fun r6 => k (mn r6 562949953421312))
/-! tideway/recv.late -/
def G55 (cp : CP) : Nat → SRecv → (SRecv → Option R) → Option R
  | 0, _, _ => none
  | n + 1, p0, k =>
    k p0
/-! tideway/recv.of -/
def G71 (cp : CP) : Nat → SPiece → (SSpan → Option R) → Option R
  | 0, _, _ => none
  | n + 1, p0, k =>
    k (SSpan.mk p0.xFrom (wr .i64 (p0.xFrom + (p0.xData.length : Int))))
/-! slices.AppendSeq[[]tideway/api.Span,tideway/api.Span] -/
def s1011_1 (cp : CP) (n : Nat) (p0 : (List SSpan)) (q0 : SRecv) (kn : Option R) : Option R :=
  kn
def s1011_3 (cp : CP) (n : Nat) (p0 : (List SSpan)) (q0 : SRecv) (kn : Option R) : Option R :=
  kn
def s1011_7 (cp : CP) (n : Nat) (p0 : (List SSpan)) (q0 : SRecv) (kn : Int → Option R) : Option R :=
  kn (q0.xLate.length : Int)
def s1011_9 (cp : CP) (n : Nat) (q0 : SRecv) (v12 v13 : Int) (v14 : (List SSpan)) (kn : Option R) (ke0 : Option R) : Option R :=
  cond (decide (v13 < v12)) (kn) (ke0)
def s1011_12 (cp : CP) (n : Nat) (q0 : SRecv) (v12 v13 : Int) (v14 : (List SSpan)) (kn : Int → (List Int) → Option R) : Option R :=
  cond (decide (0 ≤ v13)) (cond (decide (v13 < (q0.xLate.length : Int))) (kn ((q0.xLate.getD (Int.toNat v13) zPiece).xFrom) ((q0.xLate.getD (Int.toNat v13) zPiece).xData)) (none)) (none)
def s1011_14 (cp : CP) (n : Nat) (q0 : SRecv) (v12 v13 : Int) (v14 : (List SSpan)) (v15 : Int) (v16 : (List Int)) (ka : Int → Int → Option R) : Option R :=
  G71 cp n (SPiece.mk v15 v16) (fun r17 => ka r17.xFrom r17.xTo)
def s1011_16 (cp : CP) (n : Nat) (q0 : SRecv) (v14 : (List SSpan)) (v15 : Int) (v16 : (List Int)) (v18 v19 : Int) (kn : (List SSpan) → Option R) : Option R :=
  cond (cp (v14.length + [(SSpan.mk v18 v19)].length) 16) (kn (v14 ++ [(SSpan.mk v18 v19)])) (none)
def s1011_22 (cp : CP) (n : Nat) (q0 : SRecv) (v12 v13 : Int) (v14 : (List SSpan)) (v15 : Int) (v16 : (List Int)) (kn : (List SSpan) → Option R) : Option R :=
  s1011_14 cp n q0 v12 v13 v14 v15 v16 (fun v18 v19 => s1011_16 cp n q0 v14 v15 v16 v18 v19 (fun v20 => kn v20))
def s1011_23 (cp : CP) (n : Nat) (q0 : SRecv) (v12 v13 : Int) (v21 : (List SSpan)) (kn : Option R) : Option R :=
  kn
def s1011_26 (cp : CP) (n : Nat) (q0 : SRecv) (v12 v13 : Int) (v14 : (List SSpan)) (v15 : Int) (v16 : (List Int)) (kn : (List SSpan) → Option R) : Option R :=
  s1011_22 cp n q0 v12 v13 v14 v15 v16 (fun v21 => s1011_23 cp n q0 v12 v13 v21 (kn v21))
def s1011_28 (cp : CP) (n : Nat) (q0 : SRecv) (v12 v13 : Int) (v14 : (List SSpan)) (kn : (List SSpan) → Option R) : Option R :=
  s1011_12 cp n q0 v12 v13 v14 (fun v15 v16 => s1011_26 cp n q0 v12 v13 v14 v15 v16 (fun v22 => (kn v22)))
def s1011_30 (cp : CP) (n : Nat) (q0 : SRecv) (v12 v13 : Int) (v14 : (List SSpan)) (kn : (List SSpan) → Option R) : Option R :=
  s1011_28 cp n q0 v12 v13 v14 (fun v23 => (kn v23))
def s1011_31 (cp : CP) (n : Nat) (q0 : SRecv) (v12 v13 : Int) (v24 : (List SSpan)) (kn : Int → Option R) : Option R :=
  kn (wr .i64 (v13 + 1))
def s1011_34 (cp : CP) (n : Nat) (q0 : SRecv) (v12 v13 : Int) (v14 : (List SSpan)) (kn : Int → (List SSpan) → Option R) : Option R :=
  s1011_30 cp n q0 v12 v13 v14 (fun v24 => s1011_31 cp n q0 v12 v13 v24 (fun v25 => (kn v25 v24)))
def s1011_36 (cp : CP) (n : Nat) (q0 : SRecv) (v12 v13 : Int) (v14 : (List SSpan)) (kn : Int → (List SSpan) → Option R) (ke0 : Option R) : Option R :=
  s1011_9 cp n q0 v12 v13 v14 (s1011_34 cp n q0 v12 v13 v14 (fun v26 v27 => (kn v26 v27))) ke0
def l1011_38 (cp : CP) (n : Nat) : Nat → SRecv → Int → Int → (List SSpan) → ((List SSpan) → Option R) → Option R
  | 0, _, _, _, _, _ => none
  | m + 1, q0, v12, v13, v14, ke0 =>
    s1011_36 cp n q0 v12 v13 v14 (fun v28 v29 => l1011_38 cp n m q0 v12 v28 v29 ke0) (ke0 v14)
def s1011_39 (cp : CP) (n : Nat) (p0 : (List SSpan)) (q0 : SRecv) (v12 : Int) (ke0 : (List SSpan) → Option R) : Option R :=
  l1011_38 cp n n q0 v12 0 p0 ke0
def s1011_41 (cp : CP) (n : Nat) (p0 : (List SSpan)) (q0 : SRecv) (v12 : Int) (kn : (List SSpan) → Option R) : Option R :=
  s1011_39 cp n p0 q0 v12 (fun v30 => (kn v30))
def s1011_43 (cp : CP) (n : Nat) (p0 : (List SSpan)) (q0 : SRecv) (kn : (List SSpan) → Option R) : Option R :=
  s1011_7 cp n p0 q0 (fun v12 => s1011_41 cp n p0 q0 v12 (fun v31 => (kn v31)))
def s1011_46 (cp : CP) (n : Nat) (p0 : (List SSpan)) (q0 : SRecv) (kn : (List SSpan) → Option R) : Option R :=
  s1011_43 cp n p0 q0 (fun v32 => (kn v32))
def s1011_48 (cp : CP) (n : Nat) (p0 : (List SSpan)) (q0 : SRecv) (kn : (List SSpan) → Option R) : Option R :=
  s1011_46 cp n p0 q0 (fun v33 => (kn v33))
def s1011_50 (cp : CP) (n : Nat) (p0 : (List SSpan)) (q0 : SRecv) (kn : (List SSpan) → Option R) : Option R :=
  s1011_3 cp n p0 q0 (s1011_48 cp n p0 q0 (fun v34 => (kn v34)))
def s1011_51 (cp : CP) (n : Nat) (q0 : SRecv) (v35 : (List SSpan)) (kr : Option R) : Option R :=
  kr
def s1011_54 (cp : CP) (n : Nat) (p0 : (List SSpan)) (q0 : SRecv) (kr : (List SSpan) → Option R) : Option R :=
  s1011_50 cp n p0 q0 (fun v35 => s1011_51 cp n q0 v35 (kr v35))
def s1011_56 (cp : CP) (n : Nat) (p0 : (List SSpan)) (q0 : SRecv) (kr : (List SSpan) → Option R) : Option R :=
  s1011_1 cp n p0 q0 (s1011_54 cp n p0 q0 (fun v36 => (kr v36)))
def G1011 (cp : CP) : Nat → (List SSpan) → SRecv → ((List SSpan) → SRecv → Option R) → Option R
  | 0, _, _, _ => none
  | n + 1, p0, q0, k =>
    s1011_56 cp n p0 q0 (fun v37 => k v37 q0)
/-! slices.Collect[tideway/api.Span] -/
def G1010 (cp : CP) : Nat → SRecv → ((List SSpan) → SRecv → Option R) → Option R
  | 0, _, _ => none
  | n + 1, q0, k =>
    G1011 cp n [] q0 (fun r38 r39 => k r38 r39)
/-! slices.Index[[]tideway/api.Span,tideway/api.Span] -/
def s72_1 (cp : CP) (n : Nat) (p0 : (List SSpan)) (p1 : SSpan) (kn : Option R) : Option R :=
  kn
def s72_3 (cp : CP) (n : Nat) (p0 : (List SSpan)) (p1 : SSpan) (kn : Int → Option R) : Option R :=
  kn (p0.length : Int)
def s72_5 (cp : CP) (n : Nat) (p0 : (List SSpan)) (p1 : SSpan) (v44 v45 : Int) (kn : Int → Option R) (kr : Option R) (ke0 : Option R) : Option R :=
  cond (decide (v45 < v44)) (cond (decide (0 ≤ v45)) (cond (decide (v45 < (p0.length : Int))) (cond ((decide (p1.xFrom = (p0.getD (Int.toNat v45) zSpan).xFrom) && (decide (p1.xTo = (p0.getD (Int.toNat v45) zSpan).xTo) && true))) (kr) (kn (wr .i64 (v45 + 1)))) (none)) (none)) (ke0)
def l72_11 (cp : CP) (n : Nat) : Nat → (List SSpan) → SSpan → Int → Int → (Int → Option R) → (Option R) → Option R
  | 0, _, _, _, _, _, _ => none
  | m + 1, p0, p1, v44, v45, kr, ke0 =>
    s72_5 cp n p0 p1 v44 v45 (fun v46 => l72_11 cp n m p0 p1 v44 v46 kr ke0) (kr v45) ke0
def s72_12 (cp : CP) (n : Nat) (p0 : (List SSpan)) (p1 : SSpan) (v44 : Int) (kr : Int → Option R) (ke0 : Option R) : Option R :=
  l72_11 cp n n p0 p1 v44 0 kr ke0
def s72_14 (cp : CP) (n : Nat) (p0 : (List SSpan)) (p1 : SSpan) (v44 : Int) (kn : Option R) (kr : Int → Option R) : Option R :=
  s72_12 cp n p0 p1 v44 (fun v47 => (kr v47)) kn
def s72_16 (cp : CP) (n : Nat) (p0 : (List SSpan)) (p1 : SSpan) (kn : Option R) (kr : Int → Option R) : Option R :=
  s72_3 cp n p0 p1 (fun v44 => s72_14 cp n p0 p1 v44 kn (fun v48 => (kr v48)))
def s72_17 (cp : CP) (n : Nat) (kr : Option R) : Option R :=
  kr
def s72_20 (cp : CP) (n : Nat) (p0 : (List SSpan)) (p1 : SSpan) (kr : Int → Option R) : Option R :=
  s72_16 cp n p0 p1 (s72_17 cp n (kr (-1))) (fun v49 => (kr v49))
def s72_22 (cp : CP) (n : Nat) (p0 : (List SSpan)) (p1 : SSpan) (kr : Int → Option R) : Option R :=
  s72_1 cp n p0 p1 (s72_20 cp n p0 p1 (fun v50 => (kr v50)))
def G72 (cp : CP) : Nat → (List SSpan) → SSpan → (Int → Option R) → Option R
  | 0, _, _, _ => none
  | n + 1, p0, p1, k =>
    s72_22 cp n p0 p1 (fun v51 => k v51)
/-! slices.Contains[[]tideway/api.Span,tideway/api.Span] -/
def G56 (cp : CP) : Nat → (List SSpan) → SSpan → (Bool → Option R) → Option R
  | 0, _, _, _ => none
  | n + 1, p0, p1, k =>
    G72 cp n p0 p1 (fun r52 => k (decide (0 ≤ r52)))
/-! tideway/recv.pieces -/
def s28_1 (cp : CP) (n : Nat) (p0 : SRecv) (kn : Option R) : Option R :=
  kn
def s28_3 (cp : CP) (n : Nat) (p0 : SRecv) (kn : Int → Option R) : Option R :=
  kn (p0.xLate.length : Int)
def s28_5 (cp : CP) (n : Nat) (p0 : SRecv) (v5 v6 v7 : Int) (kn : Int → Int → Option R) (kr : Option R) (ke0 : Option R) : Option R :=
  cond (decide (v7 < v5)) (cond (decide (0 ≤ v7)) (cond (decide (v7 < (p0.xLate.length : Int))) (cond (decide ((((p0.xLate.getD (Int.toNat v7) zPiece).xData).length : Int) = 0)) (kr) (cond (decide (((p0.xLate.getD (Int.toNat v7) zPiece).xFrom) ≤ v6)) (kr) (G53 cp n p0 (fun r8 => cond (decide ((wr .i64 (r8 - (((p0.xLate.getD (Int.toNat v7) zPiece).xData).length : Int))) < ((p0.xLate.getD (Int.toNat v7) zPiece).xFrom))) (kr) (cond (decide (0 ≤ p0.xFin)) (cond (decide ((wr .i64 (p0.xFin - (((p0.xLate.getD (Int.toNat v7) zPiece).xData).length : Int))) < ((p0.xLate.getD (Int.toNat v7) zPiece).xFrom))) (kr) (kn (wr .i64 (((p0.xLate.getD (Int.toNat v7) zPiece).xFrom) + (((p0.xLate.getD (Int.toNat v7) zPiece).xData).length : Int))) (wr .i64 (v7 + 1)))) (kn (wr .i64 (((p0.xLate.getD (Int.toNat v7) zPiece).xFrom) + (((p0.xLate.getD (Int.toNat v7) zPiece).xData).length : Int))) (wr .i64 (v7 + 1)))))))) (none)) (none)) (ke0)
def l28_10 (cp : CP) (n : Nat) : Nat → SRecv → Int → Int → Int → (Option R) → (Option R) → Option R
  | 0, _, _, _, _, _, _ => none
  | m + 1, p0, v5, v6, v7, kr, ke0 =>
    s28_5 cp n p0 v5 v6 v7 (fun v9 v10 => l28_10 cp n m p0 v5 v9 v10 kr ke0) kr ke0
def s28_11 (cp : CP) (n : Nat) (p0 : SRecv) (v5 : Int) (kr : Option R) (ke0 : Option R) : Option R :=
  l28_10 cp n n p0 v5 p0.xNext 0 kr ke0
def s28_12 (cp : CP) (n : Nat) (p0 : SRecv) (v5 : Int) (kn : Option R) (kr : Option R) : Option R :=
  s28_11 cp n p0 v5 kr kn
def s28_13 (cp : CP) (n : Nat) (p0 : SRecv) (kn : Option R) (kr : Option R) : Option R :=
  s28_3 cp n p0 (fun v5 => s28_12 cp n p0 v5 kn kr)
def s28_14 (cp : CP) (n : Nat) (p0 : SRecv) (kn : (List SSpan) → Option R) : Option R :=
  G55 cp n p0 (fun r11 => G1010 cp n r11 (fun r40 r41 => kn r40))
def s28_16 (cp : CP) (n : Nat) (p0 : SRecv) (v42 : (List SSpan)) (kn : Int → Option R) : Option R :=
  kn (p0.xFirst.length : Int)
def s28_18 (cp : CP) (n : Nat) (p0 : SRecv) (v42 : (List SSpan)) (v43 v44 : Int) (kn : Int → Option R) (kr : Option R) (ke2 : Option R) : Option R :=
  cond (decide (v44 < v43)) (cond (decide (0 ≤ v44)) (cond (decide (v44 < (p0.xFirst.length : Int))) (G56 cp n v42 (p0.xFirst.getD (Int.toNat v44) zSpan) (fun r45 => cond (!r45) (kr) (cond (decide (0 ≤ v44)) (cond (decide (v44 ≤ (p0.xFirst.length : Int))) (G56 cp n (p0.xFirst.take (Int.toNat v44)) (p0.xFirst.getD (Int.toNat v44) zSpan) (fun r46 => cond (r46) (kr) (kn (wr .i64 (v44 + 1))))) (none)) (none)))) (none)) (none)) (ke2)
def l28_22 (cp : CP) (n : Nat) : Nat → SRecv → (List SSpan) → Int → Int → (Option R) → (Option R) → Option R
  | 0, _, _, _, _, _, _ => none
  | m + 1, p0, v42, v43, v44, kr, ke2 =>
    s28_18 cp n p0 v42 v43 v44 (fun v47 => l28_22 cp n m p0 v42 v43 v47 kr ke2) kr ke2
def s28_23 (cp : CP) (n : Nat) (p0 : SRecv) (v42 : (List SSpan)) (v43 : Int) (kr : Option R) (ke2 : Option R) : Option R :=
  l28_22 cp n n p0 v42 v43 0 kr ke2
def s28_24 (cp : CP) (n : Nat) (p0 : SRecv) (v42 : (List SSpan)) (v43 : Int) (kn : Option R) (kr : Option R) : Option R :=
  s28_23 cp n p0 v42 v43 kr kn
def s28_25 (cp : CP) (n : Nat) (p0 : SRecv) (v42 : (List SSpan)) (kn : Option R) (kr : Option R) : Option R :=
  s28_16 cp n p0 v42 (fun v43 => s28_24 cp n p0 v42 v43 kn kr)
def s28_26 (cp : CP) (n : Nat) (kr : Option R) : Option R :=
  kr
def s28_29 (cp : CP) (n : Nat) (p0 : SRecv) (v42 : (List SSpan)) (kr : Bool → Option R) : Option R :=
  s28_25 cp n p0 v42 (s28_26 cp n (kr true)) (kr false)
def s28_31 (cp : CP) (n : Nat) (p0 : SRecv) (kr : Bool → Option R) : Option R :=
  s28_14 cp n p0 (fun v42 => s28_29 cp n p0 v42 (fun v48 => (kr v48)))
def s28_33 (cp : CP) (n : Nat) (p0 : SRecv) (kr : Bool → Option R) : Option R :=
  s28_13 cp n p0 (s28_31 cp n p0 (fun v49 => (kr v49))) (kr false)
def s28_35 (cp : CP) (n : Nat) (p0 : SRecv) (kr : Bool → Option R) : Option R :=
  s28_1 cp n p0 (s28_33 cp n p0 (fun v50 => (kr v50)))
def G28 (cp : CP) : Nat → SRecv → (Bool → Option R) → Option R
  | 0, _, _ => none
  | n + 1, p0, k =>
    s28_35 cp n p0 (fun v51 => k v51)
/-! tideway/recv.Check -/
def s10_1 (cp : CP) (n : Nat) (p0 : SRecv) (kn : Option R) : Option R :=
  kn
def s10_3 (cp : CP) (n : Nat) (p0 : SRecv) (kn : Option R) (kr : Option R) : Option R :=
  cond (decide (0 ≤ p0.xNext)) (cond (decide (p0.xNext ≤ 562949953421312)) (cond (decide (1 ≤ p0.xCap)) (cond (decide (p0.xCap ≤ 1073741824)) (cond (decide (0 ≤ p0.xShift)) (cond (decide (p0.xShift ≤ 14)) (cond (!(decide ((p0.xUnread.length : Int) ≤ (mn p0.xCap p0.xNext)))) (kr) (cond (decide (p0.xEdge < 0)) (kr) (G27 cp n p0 (fun r4 => cond (decide (r4 < p0.xEdge)) (kr) (cond (decide (p0.xFin < (-1))) (kr) (cond (decide (0 ≤ p0.xFin)) (cond (decide (p0.xFin < p0.xNext)) (kr) (cond (decide (562949953421312 < p0.xFin)) (kr) (kn))) (cond (decide (562949953421312 < p0.xFin)) (kr) (kn)))))))) (kr)) (kr)) (kr)) (kr)) (kr)) (kr)
def s10_5 (cp : CP) (n : Nat) (p0 : SRecv) (kr : Int → Option R) : Option R :=
  G28 cp n p0 (fun r5 => cond (!r5) (kr 230) (cond (!(p0.xDone == (decide (p0.xFin = p0.xNext)))) (kr 230) (cond (p0.xDone) (cond (decide (0 < (p0.xLate.length : Int))) (kr 230) (kr 0)) (kr 0))))
def s10_8 (cp : CP) (n : Nat) (p0 : SRecv) (kr : Int → Option R) : Option R :=
  s10_3 cp n p0 (s10_5 cp n p0 (fun v6 => (kr v6))) (kr 230)
def s10_10 (cp : CP) (n : Nat) (p0 : SRecv) (kr : Int → Option R) : Option R :=
  s10_1 cp n p0 (s10_8 cp n p0 (fun v7 => (kr v7)))
def G10 (cp : CP) : Nat → SRecv → (Int → Option R) → Option R
  | 0, _, _ => none
  | n + 1, p0, k =>
    s10_10 cp n p0 (fun v8 => k v8)
/-! slices.Clone[[]tideway/api.Span,tideway/api.Span] -/
def G57 (cp : CP) : Nat → (List SSpan) → ((List SSpan) → Option R) → Option R
  | 0, _, _ => none
  | n + 1, p0, k => cond (cp (0 + p0.length) 16) (k p0) none
/-! bytes.Clone -/
def G52 (cp : CP) : Nat → (List Int) → ((List Int) → Option R) → Option R
  | 0, _, _ => none
  | n + 1, p0, k => cond (cp (0 + p0.length) 1) (k p0) none
/-! tideway/recv.copied -/
def s29_1 (cp : CP) (n : Nat) (p0 : SRecv) (kn : (List Int) → (List SSpan) → Option R) : Option R :=
  cond (cp (([] : List Int).length + p0.xUnread.length) 1) (G57 cp n p0.xFirst (fun r12 => kn ([] ++ p0.xUnread) r12)) (none)
def s29_3 (cp : CP) (n : Nat) (p0 : SRecv) (v13 : (List Int)) (v14 : (List SSpan)) (kn : Int → Option R) : Option R :=
  kn (p0.xLate.length : Int)
def s29_5 (cp : CP) (n : Nat) (p0 : SRecv) (v13 : (List Int)) (v14 : (List SSpan)) (v15 v16 : Int) (v17 : (List SPiece)) (kn : Int → (List SPiece) → Option R) (ke0 : Option R) : Option R :=
  cond (decide (v16 < v15)) (cond (decide (0 ≤ v16)) (cond (decide (v16 < (p0.xLate.length : Int))) (G52 cp n ((p0.xLate.getD (Int.toNat v16) zPiece).xData) (fun r18 => cond (cp (v17.length + [(SPiece.mk ((p0.xLate.getD (Int.toNat v16) zPiece).xFrom) r18)].length) 32) (kn (wr .i64 (v16 + 1)) (v17 ++ [(SPiece.mk ((p0.xLate.getD (Int.toNat v16) zPiece).xFrom) r18)])) (none))) (none)) (none)) (ke0)
def l29_10 (cp : CP) (n : Nat) : Nat → SRecv → (List Int) → (List SSpan) → Int → Int → (List SPiece) → ((List SPiece) → Option R) → Option R
  | 0, _, _, _, _, _, _, _ => none
  | m + 1, p0, v13, v14, v15, v16, v17, ke0 =>
    s29_5 cp n p0 v13 v14 v15 v16 v17 (fun v19 v20 => l29_10 cp n m p0 v13 v14 v15 v19 v20 ke0) (ke0 v17)
def s29_11 (cp : CP) (n : Nat) (p0 : SRecv) (v13 : (List Int)) (v14 : (List SSpan)) (v15 : Int) (ke0 : (List SPiece) → Option R) : Option R :=
  l29_10 cp n n p0 v13 v14 v15 0 [] ke0
def s29_13 (cp : CP) (n : Nat) (p0 : SRecv) (v13 : (List Int)) (v14 : (List SSpan)) (v15 : Int) (kn : (List SPiece) → Option R) : Option R :=
  s29_11 cp n p0 v13 v14 v15 (fun v21 => (kn v21))
def s29_15 (cp : CP) (n : Nat) (p0 : SRecv) (v13 : (List Int)) (v14 : (List SSpan)) (kn : (List SPiece) → Option R) : Option R :=
  s29_3 cp n p0 v13 v14 (fun v15 => s29_13 cp n p0 v13 v14 v15 (fun v22 => (kn v22)))
def s29_16 (cp : CP) (n : Nat) (p0 : SRecv) (v13 : (List Int)) (v14 : (List SSpan)) (v23 : (List SPiece)) (kr : Option R) : Option R :=
  kr
def s29_19 (cp : CP) (n : Nat) (p0 : SRecv) (v13 : (List Int)) (v14 : (List SSpan)) (kr : (List SPiece) → Option R) : Option R :=
  s29_15 cp n p0 v13 v14 (fun v23 => s29_16 cp n p0 v13 v14 v23 (kr v23))
def s29_21 (cp : CP) (n : Nat) (p0 : SRecv) (kr : SRecv → Option R) : Option R :=
  s29_1 cp n p0 (fun v13 v14 => s29_19 cp n p0 v13 v14 (fun v24 => (kr (SRecv.mk p0.xNext v13 v24 p0.xCap p0.xShift p0.xEdge p0.xRecent p0.xStamps p0.xSacks p0.xFin p0.xDone v14 p0.xIrs p0.xOwn p0.xStamp))))
def G29 (cp : CP) : Nat → SRecv → (SRecv → Option R) → Option R
  | 0, _, _ => none
  | n + 1, p0, k =>
    s29_21 cp n p0 (fun v25 => k v25)
/-! tideway/seq.Diff -/
def G31 (cp : CP) : Nat → Int → Int → (Int → Option R) → Option R
  | 0, _, _, _ => none
  | n + 1, p0, p1, k =>
    k (wr .i64 (wr .i32 (wr .u32 (p1 - p0))))
/-! tideway/seq.Sum -/
def G58 (cp : CP) : Nat → Int → Int → (Int → Option R) → Option R
  | 0, _, _, _ => none
  | n + 1, p0, p1, k =>
    cond (decide (0 < p0)) (cond (decide (0 < p1)) (cond (decide ((wr .i64 (p0 + p1)) < 0)) (k 9223372036854775807) (cond (decide (p0 < 0)) (cond (decide (p1 < 0)) (cond (decide (0 ≤ (wr .i64 (p0 + p1)))) (k (-9223372036854775808)) (k (wr .i64 (p0 + p1)))) (k (wr .i64 (p0 + p1)))) (k (wr .i64 (p0 + p1))))) (cond (decide (p0 < 0)) (cond (decide (p1 < 0)) (cond (decide (0 ≤ (wr .i64 (p0 + p1)))) (k (-9223372036854775808)) (k (wr .i64 (p0 + p1)))) (k (wr .i64 (p0 + p1)))) (k (wr .i64 (p0 + p1))))) (cond (decide (p0 < 0)) (cond (decide (p1 < 0)) (cond (decide (0 ≤ (wr .i64 (p0 + p1)))) (k (-9223372036854775808)) (k (wr .i64 (p0 + p1)))) (k (wr .i64 (p0 + p1)))) (k (wr .i64 (p0 + p1))))
/-! tideway/seq.Unwrap -/
def G30 (cp : CP) : Nat → Int → Int → (Int → Option R) → Option R
  | 0, _, _, _ => none
  | n + 1, p0, p1, k =>
    G31 cp n (wr .u32 p0) p1 (fun r27 => G58 cp n p0 r27 (fun r28 => k r28))
/-! tideway/seq.Add -/
def G36 (cp : CP) : Nat → Int → Int → (Int → Option R) → Option R
  | 0, _, _, _ => none
  | n + 1, p0, p1, k =>
    k (wr .u32 (p0 + (wr .u32 p1)))
/-! tideway/recv.tell -/
def s32_1 (cp : CP) (n : Nat) (p0 : SRecv) (p1 : (List SBlock)) (kn : Int → SSegment → Option R) : Option R :=
  cond (p0.xDone) (G36 cp n p0.xIrs (wr .i64 (p0.xNext + 1)) (fun r39 => G49 cp n p0 (fun r40 => cond (decide (p0.xShift < 0)) (none) (cond (p0.xStamps) (kn (wr .i64 (4 - 1)) (SSegment.mk 0 0 p0.xOwn r39 16 (shr .i64 r40 p0.xShift) 0 (-1) (-1) false true 0 p0.xRecent p1 [])) (kn 4 (SSegment.mk 0 0 p0.xOwn r39 16 (shr .i64 r40 p0.xShift) 0 (-1) (-1) false false 0 0 p1 [])))))) (G36 cp n p0.xIrs p0.xNext (fun r41 => G49 cp n p0 (fun r42 => cond (decide (p0.xShift < 0)) (none) (cond (p0.xStamps) (kn (wr .i64 (4 - 1)) (SSegment.mk 0 0 p0.xOwn r41 16 (shr .i64 r42 p0.xShift) 0 (-1) (-1) false true 0 p0.xRecent p1 [])) (kn 4 (SSegment.mk 0 0 p0.xOwn r41 16 (shr .i64 r42 p0.xShift) 0 (-1) (-1) false false 0 0 p1 []))))))
def s32_3 (cp : CP) (n : Nat) (p0 : SRecv) (v43 : Int) (v44 : SSegment) (kn : Int → Option R) : Option R :=
  kn (p0.xFirst.length : Int)
def s32_5 (cp : CP) (n : Nat) (p0 : SRecv) (v43 : Int) (v44 : SSegment) (v45 v46 : Int) (v47 : (List SBlock)) (kn : Int → (List SBlock) → Option R) (ke0 : Option R) : Option R :=
  cond (decide (v46 < v45)) (cond (decide (0 ≤ v46)) (cond (decide (v46 < (p0.xFirst.length : Int))) (cond (p0.xSacks) (cond (decide ((v47.length : Int) < v43)) (G36 cp n p0.xIrs ((p0.xFirst.getD (Int.toNat v46) zSpan).xFrom) (fun r48 => G36 cp n p0.xIrs ((p0.xFirst.getD (Int.toNat v46) zSpan).xTo) (fun r49 => cond (cp (v47.length + [(SBlock.mk r48 r49)].length) 8) (kn (wr .i64 (v46 + 1)) (v47 ++ [(SBlock.mk r48 r49)])) (none)))) (kn (wr .i64 (v46 + 1)) v47)) (kn (wr .i64 (v46 + 1)) v47)) (none)) (none)) (ke0)
def l32_10 (cp : CP) (n : Nat) : Nat → SRecv → Int → SSegment → Int → Int → (List SBlock) → ((List SBlock) → Option R) → Option R
  | 0, _, _, _, _, _, _, _ => none
  | m + 1, p0, v43, v44, v45, v46, v47, ke0 =>
    s32_5 cp n p0 v43 v44 v45 v46 v47 (fun v50 v51 => l32_10 cp n m p0 v43 v44 v45 v50 v51 ke0) (ke0 v47)
def s32_11 (cp : CP) (n : Nat) (p0 : SRecv) (v43 : Int) (v44 : SSegment) (v45 : Int) (ke0 : (List SBlock) → Option R) : Option R :=
  l32_10 cp n n p0 v43 v44 v45 0 v44.xSacks ke0
def s32_13 (cp : CP) (n : Nat) (p0 : SRecv) (v43 : Int) (v44 : SSegment) (v45 : Int) (kn : (List SBlock) → Option R) : Option R :=
  s32_11 cp n p0 v43 v44 v45 (fun v52 => (kn v52))
def s32_15 (cp : CP) (n : Nat) (p0 : SRecv) (v43 : Int) (v44 : SSegment) (kn : (List SBlock) → Option R) : Option R :=
  s32_3 cp n p0 v43 v44 (fun v45 => s32_13 cp n p0 v43 v44 v45 (fun v53 => (kn v53)))
def s32_16 (cp : CP) (n : Nat) (p0 : SRecv) (v44 : SSegment) (v54 : (List SBlock)) (kr : Int → Option R) : Option R :=
  G49 cp n p0 (fun r55 => kr (mx p0.xEdge (wr .i64 (p0.xNext + r55))))
def s32_19 (cp : CP) (n : Nat) (p0 : SRecv) (v43 : Int) (v44 : SSegment) (kr : Int → (List SBlock) → Option R) : Option R :=
  s32_15 cp n p0 v43 v44 (fun v54 => s32_16 cp n p0 v44 v54 (fun v56 => (kr v56 v54)))
def s32_21 (cp : CP) (n : Nat) (p0 : SRecv) (p1 : (List SBlock)) (kr : Int → SSegment → Option R) : Option R :=
  s32_1 cp n p0 p1 (fun v43 v44 => s32_19 cp n p0 v43 v44 (fun v57 v58 => (kr v57 (SSegment.mk v44.xSrcPort v44.xDstPort v44.xSeq v44.xAck v44.xFlags v44.xWin v44.xUrg v44.xMss v44.xScale v44.xSackOk v44.xStamped v44.xVal v44.xEcr v58 v44.xData))))
def G32 (cp : CP) : Nat → SRecv → (List SBlock) → (SRecv → SSegment → Option R) → Option R
  | 0, _, _, _ => none
  | n + 1, p0, p1, k =>
    s32_21 cp n p0 p1 (fun v59 v60 => k (SRecv.mk p0.xNext p0.xUnread p0.xLate p0.xCap p0.xShift v59 p0.xRecent p0.xStamps p0.xSacks p0.xFin p0.xDone p0.xFirst p0.xIrs p0.xOwn p0.xStamp) v60)
/-! tideway/recv.end -/
def s33_1 (cp : CP) (n : Nat) (p0 : SRecv) (p1 : Int) (kn : Option R) : Option R :=
  kn
def s33_3 (cp : CP) (n : Nat) (p0 : SRecv) (p1 : Int) (kn : SRecv → Option R) : Option R :=
  G55 cp n p0 (fun r20 => kn r20)
def s33_7 (cp : CP) (n : Nat) (p0 : SRecv) (p1 : Int) (v21 : SRecv) (kn : Int → Option R) : Option R :=
  kn (v21.xLate.length : Int)
def s33_9 (cp : CP) (n : Nat) (p0 : SRecv) (p1 : Int) (v21 : SRecv) (v22 v23 v24 : Int) (kn : Option R) (ke0 : Option R) : Option R :=
  cond (decide (v23 < v22)) (kn) (ke0)
def s33_12 (cp : CP) (n : Nat) (p0 : SRecv) (p1 : Int) (v21 : SRecv) (v22 v23 v24 : Int) (kn : Int → (List Int) → Option R) : Option R :=
  cond (decide (0 ≤ v23)) (cond (decide (v23 < (v21.xLate.length : Int))) (kn ((v21.xLate.getD (Int.toNat v23) zPiece).xFrom) ((v21.xLate.getD (Int.toNat v23) zPiece).xData)) (none)) (none)
def s33_14 (cp : CP) (n : Nat) (p0 : SRecv) (p1 : Int) (v21 : SRecv) (v22 v23 v24 v25 : Int) (v26 : (List Int)) (ka : Int → Int → Option R) : Option R :=
  G71 cp n (SPiece.mk v25 v26) (fun r27 => ka r27.xFrom r27.xTo)
def s33_16 (cp : CP) (n : Nat) (p0 : SRecv) (p1 : Int) (v21 : SRecv) (v24 v25 : Int) (v26 : (List Int)) (v28 v29 : Int) (kn : Option R) : Option R :=
  kn
def s33_22 (cp : CP) (n : Nat) (p0 : SRecv) (p1 : Int) (v21 : SRecv) (v22 v23 v24 v25 : Int) (v26 : (List Int)) (kn : Int → Option R) : Option R :=
  s33_14 cp n p0 p1 v21 v22 v23 v24 v25 v26 (fun v28 v29 => s33_16 cp n p0 p1 v21 v24 v25 v26 v28 v29 (kn v29))
def s33_23 (cp : CP) (n : Nat) (p0 : SRecv) (p1 : Int) (v21 : SRecv) (v22 v23 v30 : Int) (kn : Option R) : Option R :=
  kn
def s33_26 (cp : CP) (n : Nat) (p0 : SRecv) (p1 : Int) (v21 : SRecv) (v22 v23 v24 v25 : Int) (v26 : (List Int)) (kn : Int → Option R) : Option R :=
  s33_22 cp n p0 p1 v21 v22 v23 v24 v25 v26 (fun v30 => s33_23 cp n p0 p1 v21 v22 v23 v30 (kn v30))
def s33_28 (cp : CP) (n : Nat) (p0 : SRecv) (p1 : Int) (v21 : SRecv) (v22 v23 v24 : Int) (kn : Int → Option R) : Option R :=
  s33_12 cp n p0 p1 v21 v22 v23 v24 (fun v25 v26 => s33_26 cp n p0 p1 v21 v22 v23 v24 v25 v26 (fun v31 => (kn v31)))
def s33_30 (cp : CP) (n : Nat) (p0 : SRecv) (p1 : Int) (v21 : SRecv) (v22 v23 v24 : Int) (kn : Int → Option R) : Option R :=
  s33_28 cp n p0 p1 v21 v22 v23 v24 (fun v32 => (kn v32))
def s33_31 (cp : CP) (n : Nat) (p0 : SRecv) (p1 : Int) (v21 : SRecv) (v22 v23 v33 : Int) (kn : Int → Option R) : Option R :=
  kn (wr .i64 (v23 + 1))
def s33_34 (cp : CP) (n : Nat) (p0 : SRecv) (p1 : Int) (v21 : SRecv) (v22 v23 v24 : Int) (kn : Int → Int → Option R) : Option R :=
  s33_30 cp n p0 p1 v21 v22 v23 v24 (fun v33 => s33_31 cp n p0 p1 v21 v22 v23 v33 (fun v34 => (kn v34 v33)))
def s33_36 (cp : CP) (n : Nat) (p0 : SRecv) (p1 : Int) (v21 : SRecv) (v22 v23 v24 : Int) (kn : Int → Int → Option R) (ke0 : Option R) : Option R :=
  s33_9 cp n p0 p1 v21 v22 v23 v24 (s33_34 cp n p0 p1 v21 v22 v23 v24 (fun v35 v36 => (kn v35 v36))) ke0
def l33_38 (cp : CP) (n : Nat) : Nat → SRecv → Int → SRecv → Int → Int → Int → (Int → Option R) → Option R
  | 0, _, _, _, _, _, _, _ => none
  | m + 1, p0, p1, v21, v22, v23, v24, ke0 =>
    s33_36 cp n p0 p1 v21 v22 v23 v24 (fun v37 v38 => l33_38 cp n m p0 p1 v21 v22 v37 v38 ke0) (ke0 v24)
def s33_39 (cp : CP) (n : Nat) (p0 : SRecv) (p1 : Int) (v21 : SRecv) (v22 : Int) (ke0 : Int → Option R) : Option R :=
  l33_38 cp n n p0 p1 v21 v22 0 p0.xNext ke0
def s33_41 (cp : CP) (n : Nat) (p0 : SRecv) (p1 : Int) (v21 : SRecv) (v22 : Int) (kn : Int → Option R) : Option R :=
  s33_39 cp n p0 p1 v21 v22 (fun v39 => (kn v39))
def s33_43 (cp : CP) (n : Nat) (p0 : SRecv) (p1 : Int) (v21 : SRecv) (kn : Int → Option R) : Option R :=
  s33_7 cp n p0 p1 v21 (fun v22 => s33_41 cp n p0 p1 v21 v22 (fun v40 => (kn v40)))
def s33_46 (cp : CP) (n : Nat) (p0 : SRecv) (p1 : Int) (v21 : SRecv) (kn : Int → Option R) : Option R :=
  s33_43 cp n p0 p1 v21 (fun v41 => (kn v41))
def s33_48 (cp : CP) (n : Nat) (p0 : SRecv) (p1 : Int) (v21 : SRecv) (kn : Int → Option R) : Option R :=
  s33_46 cp n p0 p1 v21 (fun v42 => (kn v42))
def s33_50 (cp : CP) (n : Nat) (p0 : SRecv) (p1 : Int) (kn : Int → Option R) : Option R :=
  s33_3 cp n p0 p1 (fun v21 => s33_48 cp n p0 p1 v21 (fun v43 => (kn v43)))
def s33_51 (cp : CP) (n : Nat) (p0 : SRecv) (p1 v44 : Int) (kr : Int → Option R) : Option R :=
  cond (decide (p0.xFin < 0)) (cond (decide (v44 ≤ p1)) (G53 cp n p0 (fun r45 => cond (decide (p1 ≤ r45)) (kr p1) (kr p0.xFin))) (kr p0.xFin)) (kr p0.xFin)
def s33_54 (cp : CP) (n : Nat) (p0 : SRecv) (p1 : Int) (kr : Int → Option R) : Option R :=
  s33_50 cp n p0 p1 (fun v44 => s33_51 cp n p0 p1 v44 (fun v46 => (kr v46)))
def s33_56 (cp : CP) (n : Nat) (p0 : SRecv) (p1 : Int) (kr : Int → Option R) : Option R :=
  s33_1 cp n p0 p1 (s33_54 cp n p0 p1 (fun v47 => (kr v47)))
def G33 (cp : CP) : Nat → SRecv → Int → (Int → Option R) → Option R
  | 0, _, _, _ => none
  | n + 1, p0, p1, k =>
    s33_56 cp n p0 p1 (fun v48 => k v48)
/-! tideway/span.may -/
def G82 (cp : CP) : Nat → SSpan → (Bool → Option R) → Option R
  | 0, _, _ => none
  | n + 1, p0, k =>
    cond (decide (0 ≤ p0.xFrom)) (cond (decide (p0.xFrom ≤ p0.xTo)) (k (decide (p0.xTo ≤ 1125899906842624))) (k false)) (k false)
/-! tideway/span.Check -/
def s78_1 (cp : CP) (n : Nat) (p0 : (List SSpan)) (kn : Option R) : Option R :=
  kn
def s78_3 (cp : CP) (n : Nat) (p0 : (List SSpan)) (kn : Int → Option R) : Option R :=
  kn (p0.length : Int)
def s78_5 (cp : CP) (n : Nat) (p0 : (List SSpan)) (v82 v83 : Int) (kn : Int → Option R) (kr : Option R) (ke0 : Option R) : Option R :=
  cond (decide (v83 < v82)) (cond (decide (0 ≤ v83)) (cond (decide (v83 < (p0.length : Int))) (G82 cp n (p0.getD (Int.toNat v83) zSpan) (fun r84 => cond (!r84) (kr) (cond (decide (((p0.getD (Int.toNat v83) zSpan).xFrom) = ((p0.getD (Int.toNat v83) zSpan).xTo))) (kr) (cond (decide (0 < v83)) (cond (decide (0 ≤ wr .i64 (v83 - 1))) (cond (decide (wr .i64 (v83 - 1) < (p0.length : Int))) (cond (decide (((p0.getD (Int.toNat v83) zSpan).xFrom) ≤ ((p0.getD (Int.toNat (wr .i64 (v83 - 1))) zSpan).xTo))) (kr) (kn (wr .i64 (v83 + 1)))) (none)) (none)) (kn (wr .i64 (v83 + 1))))))) (none)) (none)) (ke0)
def l78_10 (cp : CP) (n : Nat) : Nat → (List SSpan) → Int → Int → (Option R) → (Option R) → Option R
  | 0, _, _, _, _, _ => none
  | m + 1, p0, v82, v83, kr, ke0 =>
    s78_5 cp n p0 v82 v83 (fun v85 => l78_10 cp n m p0 v82 v85 kr ke0) kr ke0
def s78_11 (cp : CP) (n : Nat) (p0 : (List SSpan)) (v82 : Int) (kr : Option R) (ke0 : Option R) : Option R :=
  l78_10 cp n n p0 v82 0 kr ke0
def s78_12 (cp : CP) (n : Nat) (p0 : (List SSpan)) (v82 : Int) (kn : Option R) (kr : Option R) : Option R :=
  s78_11 cp n p0 v82 kr kn
def s78_13 (cp : CP) (n : Nat) (p0 : (List SSpan)) (kn : Option R) (kr : Option R) : Option R :=
  s78_3 cp n p0 (fun v82 => s78_12 cp n p0 v82 kn kr)
def s78_14 (cp : CP) (n : Nat) (kr : Option R) : Option R :=
  kr
def s78_17 (cp : CP) (n : Nat) (p0 : (List SSpan)) (kr : Int → Option R) : Option R :=
  s78_13 cp n p0 (s78_14 cp n (kr 0)) (kr 60)
def s78_19 (cp : CP) (n : Nat) (p0 : (List SSpan)) (kr : Int → Option R) : Option R :=
  s78_1 cp n p0 (s78_17 cp n p0 (fun v86 => (kr v86)))
def G78 (cp : CP) : Nat → (List SSpan) → (Int → Option R) → Option R
  | 0, _, _ => none
  | n + 1, p0, k =>
    s78_19 cp n p0 (fun v87 => k v87)
/-! tideway/span.within -/
def G79 (cp : CP) : Nat → (List SSpan) → SSpan → ((List SSpan) → SSpan → Option R) → Option R
  | 0, _, _, _ => none
  | n + 1, p0, p1, k =>
    k p0 p1
/-! tideway/span.Gaps -/
def s61_1 (cp : CP) (n : Nat) (p0 : (List SSpan)) (p1 : SSpan) (kn : Option R) (kr : Option R) : Option R :=
  G78 cp n p0 (fun r90 => cond (!decide (r90 = 0)) (kr) (cond (decide (p1.xTo ≤ p1.xFrom)) (kr) (kn)))
def s61_4 (cp : CP) (n : Nat) (p0 : (List SSpan)) (p1 : SSpan) (kn : (List SSpan) → Int → Int → Option R) : Option R :=
  G79 cp n p0 p1 (fun r91 r92 => kn r91 r92.xFrom r92.xTo)
def s61_8 (cp : CP) (n : Nat) (p1 : SSpan) (v93 : (List SSpan)) (v94 v95 : Int) (kn : Int → Option R) : Option R :=
  kn (v93.length : Int)
def s61_10 (cp : CP) (n : Nat) (p1 : SSpan) (v93 : (List SSpan)) (v94 v95 v96 v97 : Int) (v98 : (List SSpan)) (v99 : Int) (kn : Option R) (ke0 : Option R) : Option R :=
  cond (decide (v97 < v96)) (kn) (ke0)
def s61_13 (cp : CP) (n : Nat) (p1 : SSpan) (v93 : (List SSpan)) (v94 v95 v96 v97 : Int) (v98 : (List SSpan)) (v99 : Int) (kn : Int → Int → Option R) : Option R :=
  cond (decide (0 ≤ v97)) (cond (decide (v97 < (v93.length : Int))) (kn (mx ((v93.getD (Int.toNat v97) zSpan).xFrom) v94) (mn ((v93.getD (Int.toNat v97) zSpan).xTo) v95)) (none)) (none)
def s61_15 (cp : CP) (n : Nat) (p1 : SSpan) (v93 : (List SSpan)) (v94 v95 v96 v97 : Int) (v98 : (List SSpan)) (v99 v100 v101 : Int) (ka : Bool → Option R) (kb : Bool → Option R) : Option R :=
  cond (decide (v100 < v101)) (ka (decide (v100 < v101))) (kb (decide (v100 < v101)))
def s61_18 (cp : CP) (n : Nat) (p1 : SSpan) (v93 : (List SSpan)) (v94 v95 : Int) (v98 : (List SSpan)) (v99 v100 v101 : Int) (kn : (List SSpan) → Option R) : Option R :=
  cond (decide (v99 < v100)) (cond (cp (v98.length + [(SSpan.mk v99 v100)].length) 16) (kn (v98 ++ [(SSpan.mk v99 v100)])) (none)) (kn v98)
def s61_24 (cp : CP) (n : Nat) (p1 : SSpan) (v93 : (List SSpan)) (v94 v95 v96 v97 : Int) (v98 : (List SSpan)) (v99 v100 v101 : Int) (kn : (List SSpan) → Int → Option R) : Option R :=
  s61_15 cp n p1 v93 v94 v95 v96 v97 v98 v99 v100 v101 (fun v102 => s61_18 cp n p1 v93 v94 v95 v98 v99 v100 v101 (fun v104 => kn v104 v101)) (fun v103 => kn v98 v99)
def s61_25 (cp : CP) (n : Nat) (p1 : SSpan) (v93 : (List SSpan)) (v94 v95 v96 v97 : Int) (v105 : (List SSpan)) (v106 : Int) (kn : Option R) : Option R :=
  kn
def s61_28 (cp : CP) (n : Nat) (p1 : SSpan) (v93 : (List SSpan)) (v94 v95 v96 v97 : Int) (v98 : (List SSpan)) (v99 v100 v101 : Int) (kn : (List SSpan) → Int → Option R) : Option R :=
  s61_24 cp n p1 v93 v94 v95 v96 v97 v98 v99 v100 v101 (fun v105 v106 => s61_25 cp n p1 v93 v94 v95 v96 v97 v105 v106 (kn v105 v106))
def s61_30 (cp : CP) (n : Nat) (p1 : SSpan) (v93 : (List SSpan)) (v94 v95 v96 v97 : Int) (v98 : (List SSpan)) (v99 : Int) (kn : (List SSpan) → Int → Option R) : Option R :=
  s61_13 cp n p1 v93 v94 v95 v96 v97 v98 v99 (fun v100 v101 => s61_28 cp n p1 v93 v94 v95 v96 v97 v98 v99 v100 v101 (fun v107 v108 => (kn v107 v108)))
def s61_32 (cp : CP) (n : Nat) (p1 : SSpan) (v93 : (List SSpan)) (v94 v95 v96 v97 : Int) (v98 : (List SSpan)) (v99 : Int) (kn : (List SSpan) → Int → Option R) : Option R :=
  s61_30 cp n p1 v93 v94 v95 v96 v97 v98 v99 (fun v109 v110 => (kn v109 v110))
def s61_33 (cp : CP) (n : Nat) (p1 : SSpan) (v93 : (List SSpan)) (v94 v95 v96 v97 : Int) (v111 : (List SSpan)) (v112 : Int) (kn : Int → Option R) : Option R :=
  kn (wr .i64 (v97 + 1))
def s61_36 (cp : CP) (n : Nat) (p1 : SSpan) (v93 : (List SSpan)) (v94 v95 v96 v97 : Int) (v98 : (List SSpan)) (v99 : Int) (kn : Int → (List SSpan) → Int → Option R) : Option R :=
  s61_32 cp n p1 v93 v94 v95 v96 v97 v98 v99 (fun v111 v112 => s61_33 cp n p1 v93 v94 v95 v96 v97 v111 v112 (fun v113 => (kn v113 v111 v112)))
def s61_38 (cp : CP) (n : Nat) (p1 : SSpan) (v93 : (List SSpan)) (v94 v95 v96 v97 : Int) (v98 : (List SSpan)) (v99 : Int) (kn : Int → (List SSpan) → Int → Option R) (ke0 : Option R) : Option R :=
  s61_10 cp n p1 v93 v94 v95 v96 v97 v98 v99 (s61_36 cp n p1 v93 v94 v95 v96 v97 v98 v99 (fun v114 v115 v116 => (kn v114 v115 v116))) ke0
def l61_40 (cp : CP) (n : Nat) : Nat → SSpan → (List SSpan) → Int → Int → Int → Int → (List SSpan) → Int → ((List SSpan) → Int → Option R) → Option R
  | 0, _, _, _, _, _, _, _, _, _ => none
  | m + 1, p1, v93, v94, v95, v96, v97, v98, v99, ke0 =>
    s61_38 cp n p1 v93 v94 v95 v96 v97 v98 v99 (fun v117 v118 v119 => l61_40 cp n m p1 v93 v94 v95 v96 v117 v118 v119 ke0) (ke0 v98 v99)
def s61_41 (cp : CP) (n : Nat) (p1 : SSpan) (v93 : (List SSpan)) (v94 v95 v96 : Int) (ke0 : (List SSpan) → Int → Option R) : Option R :=
  l61_40 cp n n p1 v93 v94 v95 v96 0 [] p1.xFrom ke0
def s61_43 (cp : CP) (n : Nat) (p1 : SSpan) (v93 : (List SSpan)) (v94 v95 v96 : Int) (kn : (List SSpan) → Int → Option R) : Option R :=
  s61_41 cp n p1 v93 v94 v95 v96 (fun v120 v121 => (kn v120 v121))
def s61_45 (cp : CP) (n : Nat) (p1 : SSpan) (v93 : (List SSpan)) (v94 v95 : Int) (kn : (List SSpan) → Int → Option R) : Option R :=
  s61_8 cp n p1 v93 v94 v95 (fun v96 => s61_43 cp n p1 v93 v94 v95 v96 (fun v122 v123 => (kn v122 v123)))
def s61_48 (cp : CP) (n : Nat) (p1 : SSpan) (v93 : (List SSpan)) (v94 v95 : Int) (kn : (List SSpan) → Int → Option R) : Option R :=
  s61_45 cp n p1 v93 v94 v95 (fun v124 v125 => (kn v124 v125))
def s61_50 (cp : CP) (n : Nat) (p1 : SSpan) (v93 : (List SSpan)) (v94 v95 : Int) (kn : (List SSpan) → Int → Option R) : Option R :=
  s61_48 cp n p1 v93 v94 v95 (fun v126 v127 => (kn v126 v127))
def s61_52 (cp : CP) (n : Nat) (p0 : (List SSpan)) (p1 : SSpan) (kn : (List SSpan) → Int → Option R) : Option R :=
  s61_4 cp n p0 p1 (fun v93 v94 v95 => s61_50 cp n p1 v93 v94 v95 (fun v128 v129 => (kn v128 v129)))
def s61_53 (cp : CP) (n : Nat) (p1 : SSpan) (v130 : (List SSpan)) (v131 : Int) (kr : (List SSpan) → Option R) : Option R :=
  cond (decide (v131 < p1.xTo)) (cond (cp (v130.length + [(SSpan.mk v131 p1.xTo)].length) 16) (kr (v130 ++ [(SSpan.mk v131 p1.xTo)])) (none)) (kr v130)
def s61_56 (cp : CP) (n : Nat) (p0 : (List SSpan)) (p1 : SSpan) (kr : (List SSpan) → Option R) : Option R :=
  s61_52 cp n p0 p1 (fun v130 v131 => s61_53 cp n p1 v130 v131 (fun v132 => (kr v132)))
def s61_58 (cp : CP) (n : Nat) (p0 : (List SSpan)) (p1 : SSpan) (kr : (List SSpan) → Option R) : Option R :=
  s61_1 cp n p0 p1 (s61_56 cp n p0 p1 (fun v133 => (kr v133))) (kr [])
def G61 (cp : CP) : Nat → (List SSpan) → SSpan → ((List SSpan) → Option R) → Option R
  | 0, _, _, _ => none
  | n + 1, p0, p1, k =>
    s61_58 cp n p0 p1 (fun v134 => k v134)
/-! tideway/recv.put$1 -/
def G74 (cp : CP) : Nat → SPiece → Int → (Int → Option R) → Option R
  | 0, _, _, _ => none
  | n + 1, p0, p1, k =>
    k (wr .i64 (p0.xFrom - p1))
/-! slices.BinarySearchFunc[[]tideway/api.Piece,tideway/api.Piece,int] -/
def s1031_1 (cp : CP) (n : Nat) (p0 : (List SPiece)) (p1 : Int) (kn : Int → Option R) : Option R :=
  kn (p0.length : Int)
def s1031_3 (cp : CP) (n : Nat) (p0 : (List SPiece)) (p1 v138 v139 v140 : Int) (kn : Int → Int → Option R) (ke0 : Option R) : Option R :=
  cond (decide (v139 < v140)) (cond (decide (0 ≤ wr .i64 (shr .u64 (wr .u64 (wr .i64 (v139 + v140))) 1))) (cond (decide (wr .i64 (shr .u64 (wr .u64 (wr .i64 (v139 + v140))) 1) < (p0.length : Int))) (G74 cp n (p0.getD (Int.toNat (wr .i64 (shr .u64 (wr .u64 (wr .i64 (v139 + v140))) 1))) zPiece) p1 (fun r141 => cond (decide (r141 < 0)) (kn (wr .i64 ((wr .i64 (shr .u64 (wr .u64 (wr .i64 (v139 + v140))) 1)) + 1)) v140) (kn v139 (wr .i64 (shr .u64 (wr .u64 (wr .i64 (v139 + v140))) 1))))) (none)) (none)) (ke0)
def l1031_8 (cp : CP) (n : Nat) : Nat → (List SPiece) → Int → Int → Int → Int → (Int → Option R) → Option R
  | 0, _, _, _, _, _, _ => none
  | m + 1, p0, p1, v138, v139, v140, ke0 =>
    s1031_3 cp n p0 p1 v138 v139 v140 (fun v142 v143 => l1031_8 cp n m p0 p1 v138 v142 v143 ke0) (ke0 v139)
def s1031_9 (cp : CP) (n : Nat) (p0 : (List SPiece)) (p1 v138 : Int) (ke0 : Int → Option R) : Option R :=
  l1031_8 cp n n p0 p1 v138 0 v138 ke0
def s1031_11 (cp : CP) (n : Nat) (p0 : (List SPiece)) (p1 v138 : Int) (kn : Int → Option R) : Option R :=
  s1031_9 cp n p0 p1 v138 (fun v144 => (kn v144))
def s1031_12 (cp : CP) (n : Nat) (p0 : (List SPiece)) (p1 v138 v145 : Int) (kr : Bool → Option R) : Option R :=
  cond (decide (v145 < v138)) (cond (decide (0 ≤ v145)) (cond (decide (v145 < (p0.length : Int))) (G74 cp n (p0.getD (Int.toNat v145) zPiece) p1 (fun r146 => kr (decide (r146 = 0)))) (none)) (none)) (kr false)
def s1031_15 (cp : CP) (n : Nat) (p0 : (List SPiece)) (p1 v138 : Int) (kr : Int → Bool → Option R) : Option R :=
  s1031_11 cp n p0 p1 v138 (fun v145 => s1031_12 cp n p0 p1 v138 v145 (fun v147 => (kr v145 v147)))
def s1031_17 (cp : CP) (n : Nat) (p0 : (List SPiece)) (p1 : Int) (kr : Int → Bool → Option R) : Option R :=
  s1031_1 cp n p0 p1 (fun v138 => s1031_15 cp n p0 p1 v138 (fun v148 v149 => (kr v148 v149)))
def G1031 (cp : CP) : Nat → (List SPiece) → Int → (Int → Bool → Option R) → Option R
  | 0, _, _, _ => none
  | n + 1, p0, p1, k =>
    s1031_17 cp n p0 p1 (fun v150 v151 => k v150 v151)
/-! slices.Clone[[]tideway/api.Piece,tideway/api.Piece] -/
def G1033 (cp : CP) : Nat → (List SPiece) → ((List SPiece) → Option R) → Option R
  | 0, _, _ => none
  | n + 1, p0, k => cond (cp (0 + p0.length) 32) (k p0) none
/-! slices.Insert[[]tideway/api.Piece,tideway/api.Piece] -/
def G75 (cp : CP) : Nat → (List SPiece) → Int → SPiece → ((List SPiece) → Option R) → Option R
  | 0, _, _, _, _ => none
  | n + 1, p0, p1, p2, k => cond (cp (p0.length + 1) 32) (cond (decide (0 ≤ p1)) (cond (decide (p1 ≤ (p0.length : Int))) (k (insL p0 (Int.toNat p1) p2)) none) none) none
/-! slices.Clip[[]byte,byte] -/
def G77 (cp : CP) : Nat → (List Int) → ((List Int) → Option R) → Option R
  | 0, _, _ => none
  | n + 1, p0, k =>
    cond (decide (0 ≤ (p0.length : Int))) (cond (decide ((p0.length : Int) ≤ (p0.length : Int))) (cond (decide ((p0.length : Int) = (p0.length : Int))) (k (p0.take (Int.toNat (p0.length : Int)))) (none)) (none)) (none)
/-! tideway/recv.put -/
def s60_1 (cp : CP) (n : Nat) (p0 : (List SPiece)) (p1 : SPiece) (kn : (List SPiece) → Option R) : Option R :=
  G1031 cp n p0 p1.xFrom (fun r164 r165 => G1033 cp n p0 (fun r166 => G52 cp n p1.xData (fun r167 => G75 cp n r166 r164 (SPiece.mk p1.xFrom r167) (fun r168 => kn r168))))
def s60_3 (cp : CP) (n : Nat) (v169 : (List SPiece)) (kn : Int → Option R) : Option R :=
  kn (v169.length : Int)
def s60_5 (cp : CP) (n : Nat) (v169 : (List SPiece)) (v170 : Int) (v171 : (List SPiece)) (v172 : Int) (kn : (List SPiece) → Int → Option R) (ke0 : Option R) : Option R :=
  cond (decide (v172 < v170)) (cond (decide (0 ≤ v172)) (cond (decide (v172 < (v169.length : Int))) (cond (decide (0 < (v171.length : Int))) (cond (decide (0 ≤ wr .i64 ((v171.length : Int) - 1))) (cond (decide (wr .i64 ((v171.length : Int) - 1) < (v171.length : Int))) (cond (decide ((Int.toNat (wr .i64 ((v171.length : Int) - 1))) < v171.length)) (G71 cp n (v171.getD (Int.toNat (wr .i64 ((v171.length : Int) - 1))) zPiece) (fun r173 => cond (decide (r173.xTo = ((v169.getD (Int.toNat v172) zPiece).xFrom))) (cond (decide (0 ≤ wr .i64 ((v171.length : Int) - 1))) (cond (decide (wr .i64 ((v171.length : Int) - 1) < (v171.length : Int))) (cond (decide ((Int.toNat (wr .i64 ((v171.length : Int) - 1))) < v171.length)) (G77 cp n ((v171.getD (Int.toNat (wr .i64 ((v171.length : Int) - 1))) zPiece).xData) (fun r174 => cond (cp (r174.length + ((v169.getD (Int.toNat v172) zPiece).xData).length) 1) (cond (decide (0 ≤ wr .i64 ((v171.length : Int) - 1))) (cond (decide (wr .i64 ((v171.length : Int) - 1) < (v171.length : Int))) (cond (decide ((Int.toNat (wr .i64 ((v171.length : Int) - 1))) < v171.length)) (kn (v171.set (Int.toNat (wr .i64 ((v171.length : Int) - 1))) (SPiece.mk ((v171.getD (Int.toNat (wr .i64 ((v171.length : Int) - 1))) zPiece).xFrom) (r174 ++ ((v169.getD (Int.toNat v172) zPiece).xData)))) (wr .i64 (v172 + 1))) (none)) (none)) (none)) (none))) (none)) (none)) (none)) (cond (cp (v171.length + [(v169.getD (Int.toNat v172) zPiece)].length) 32) (kn (v171 ++ [(v169.getD (Int.toNat v172) zPiece)]) (wr .i64 (v172 + 1))) (none)))) (none)) (none)) (none)) (cond (cp (v171.length + [(v169.getD (Int.toNat v172) zPiece)].length) 32) (kn (v171 ++ [(v169.getD (Int.toNat v172) zPiece)]) (wr .i64 (v172 + 1))) (none))) (none)) (none)) (ke0)
def l60_10 (cp : CP) (n : Nat) : Nat → (List SPiece) → Int → (List SPiece) → Int → ((List SPiece) → Option R) → Option R
  | 0, _, _, _, _, _ => none
  | m + 1, v169, v170, v171, v172, ke0 =>
    s60_5 cp n v169 v170 v171 v172 (fun v175 v176 => l60_10 cp n m v169 v170 v175 v176 ke0) (ke0 v171)
def s60_11 (cp : CP) (n : Nat) (v169 : (List SPiece)) (v170 : Int) (ke0 : (List SPiece) → Option R) : Option R :=
  l60_10 cp n n v169 v170 [] 0 ke0
def s60_13 (cp : CP) (n : Nat) (v169 : (List SPiece)) (v170 : Int) (kn : (List SPiece) → Option R) : Option R :=
  s60_11 cp n v169 v170 (fun v177 => (kn v177))
def s60_15 (cp : CP) (n : Nat) (v169 : (List SPiece)) (kn : (List SPiece) → Option R) : Option R :=
  s60_3 cp n v169 (fun v170 => s60_13 cp n v169 v170 (fun v178 => (kn v178)))
def s60_16 (cp : CP) (n : Nat) (v179 : (List SPiece)) (kr : Option R) : Option R :=
  kr
def s60_19 (cp : CP) (n : Nat) (v169 : (List SPiece)) (kr : (List SPiece) → Option R) : Option R :=
  s60_15 cp n v169 (fun v179 => s60_16 cp n v179 (kr v179))
def s60_21 (cp : CP) (n : Nat) (p0 : (List SPiece)) (p1 : SPiece) (kr : (List SPiece) → Option R) : Option R :=
  s60_1 cp n p0 p1 (fun v169 => s60_19 cp n v169 (fun v180 => (kr v180)))
def G60 (cp : CP) : Nat → (List SPiece) → SPiece → ((List SPiece) → Option R) → Option R
  | 0, _, _, _ => none
  | n + 1, p0, p1, k =>
    s60_21 cp n p0 p1 (fun v181 => k v181)
/-! tideway/recv.take$1 -/
def G1029 (cp : CP) : Nat → SSpan → SRecv → Int → (List Int) → Bool → (SRecv → Int → (List Int) → Bool → Option R) → Option R
  | 0, _, _, _, _, _, _ => none
  | n + 1, p0, q0, q1, q2, q3, k =>
    cond (decide (0 ≤ wr .i64 (p0.xFrom - q1))) (cond (decide (wr .i64 (p0.xFrom - q1) ≤ wr .i64 (p0.xTo - q1))) (cond (decide (wr .i64 (p0.xTo - q1) ≤ (q2.length : Int))) (G60 cp n q0.xLate (SPiece.mk p0.xFrom (List.take ((Int.toNat (wr .i64 (p0.xTo - q1))) - (Int.toNat (wr .i64 (p0.xFrom - q1)))) (q2.drop (Int.toNat (wr .i64 (p0.xFrom - q1)))))) (fun r182 => k (SRecv.mk q0.xNext q0.xUnread r182 q0.xCap q0.xShift q0.xEdge q0.xRecent q0.xStamps q0.xSacks q0.xFin q0.xDone q0.xFirst q0.xIrs q0.xOwn q0.xStamp) q1 q2 true)) (none)) (none)) (none)
/-! tideway/recv.take -/
def s34_1 (cp : CP) (n : Nat) (p0 : SRecv) (p1 : Int) (p2 : (List Int)) (kn : Int → Option R) : Option R :=
  G53 cp n p0 (fun r165 => cond (decide (0 ≤ p0.xFin)) (kn (mn (mn (wr .i64 (p1 + (p2.length : Int))) r165) p0.xFin)) (kn (mn (wr .i64 (p1 + (p2.length : Int))) r165)))
def s34_3 (cp : CP) (n : Nat) (p0 : SRecv) (p1 : Int) (p2 : (List Int)) (v166 : Int) (kn : SRecv → Option R) : Option R :=
  G55 cp n p0 (fun r167 => kn r167)
def s34_7 (cp : CP) (n : Nat) (p0 : SRecv) (p1 : Int) (p2 : (List Int)) (v166 : Int) (v168 : SRecv) (kn : Int → Option R) : Option R :=
  kn (v168.xLate.length : Int)
def s34_9 (cp : CP) (n : Nat) (p0 : SRecv) (p1 : Int) (p2 : (List Int)) (v166 : Int) (v168 : SRecv) (v169 v170 : Int) (v171 : (List SSpan)) (kn : Option R) (ke0 : Option R) : Option R :=
  cond (decide (v170 < v169)) (kn) (ke0)
def s34_12 (cp : CP) (n : Nat) (p0 : SRecv) (p1 : Int) (p2 : (List Int)) (v166 : Int) (v168 : SRecv) (v169 v170 : Int) (v171 : (List SSpan)) (kn : Int → (List Int) → Option R) : Option R :=
  cond (decide (0 ≤ v170)) (cond (decide (v170 < (v168.xLate.length : Int))) (kn ((v168.xLate.getD (Int.toNat v170) zPiece).xFrom) ((v168.xLate.getD (Int.toNat v170) zPiece).xData)) (none)) (none)
def s34_14 (cp : CP) (n : Nat) (p0 : SRecv) (p1 : Int) (p2 : (List Int)) (v166 : Int) (v168 : SRecv) (v169 v170 : Int) (v171 : (List SSpan)) (v172 : Int) (v173 : (List Int)) (ka : Int → Int → Option R) : Option R :=
  G71 cp n (SPiece.mk v172 v173) (fun r174 => ka r174.xFrom r174.xTo)
def s34_16 (cp : CP) (n : Nat) (p0 : SRecv) (p1 : Int) (p2 : (List Int)) (v166 : Int) (v168 : SRecv) (v171 : (List SSpan)) (v172 : Int) (v173 : (List Int)) (v175 v176 : Int) (kn : (List SSpan) → Option R) : Option R :=
  cond (cp (v171.length + [(SSpan.mk v175 v176)].length) 16) (kn (v171 ++ [(SSpan.mk v175 v176)])) (none)
def s34_22 (cp : CP) (n : Nat) (p0 : SRecv) (p1 : Int) (p2 : (List Int)) (v166 : Int) (v168 : SRecv) (v169 v170 : Int) (v171 : (List SSpan)) (v172 : Int) (v173 : (List Int)) (kn : (List SSpan) → Option R) : Option R :=
  s34_14 cp n p0 p1 p2 v166 v168 v169 v170 v171 v172 v173 (fun v175 v176 => s34_16 cp n p0 p1 p2 v166 v168 v171 v172 v173 v175 v176 (fun v177 => kn v177))
def s34_23 (cp : CP) (n : Nat) (p0 : SRecv) (p1 : Int) (p2 : (List Int)) (v166 : Int) (v168 : SRecv) (v169 v170 : Int) (v178 : (List SSpan)) (kn : Option R) : Option R :=
  kn
def s34_26 (cp : CP) (n : Nat) (p0 : SRecv) (p1 : Int) (p2 : (List Int)) (v166 : Int) (v168 : SRecv) (v169 v170 : Int) (v171 : (List SSpan)) (v172 : Int) (v173 : (List Int)) (kn : (List SSpan) → Option R) : Option R :=
  s34_22 cp n p0 p1 p2 v166 v168 v169 v170 v171 v172 v173 (fun v178 => s34_23 cp n p0 p1 p2 v166 v168 v169 v170 v178 (kn v178))
def s34_28 (cp : CP) (n : Nat) (p0 : SRecv) (p1 : Int) (p2 : (List Int)) (v166 : Int) (v168 : SRecv) (v169 v170 : Int) (v171 : (List SSpan)) (kn : (List SSpan) → Option R) : Option R :=
  s34_12 cp n p0 p1 p2 v166 v168 v169 v170 v171 (fun v172 v173 => s34_26 cp n p0 p1 p2 v166 v168 v169 v170 v171 v172 v173 (fun v179 => (kn v179)))
def s34_30 (cp : CP) (n : Nat) (p0 : SRecv) (p1 : Int) (p2 : (List Int)) (v166 : Int) (v168 : SRecv) (v169 v170 : Int) (v171 : (List SSpan)) (kn : (List SSpan) → Option R) : Option R :=
  s34_28 cp n p0 p1 p2 v166 v168 v169 v170 v171 (fun v180 => (kn v180))
def s34_31 (cp : CP) (n : Nat) (p0 : SRecv) (p1 : Int) (p2 : (List Int)) (v166 : Int) (v168 : SRecv) (v169 v170 : Int) (v181 : (List SSpan)) (kn : Int → Option R) : Option R :=
  kn (wr .i64 (v170 + 1))
def s34_34 (cp : CP) (n : Nat) (p0 : SRecv) (p1 : Int) (p2 : (List Int)) (v166 : Int) (v168 : SRecv) (v169 v170 : Int) (v171 : (List SSpan)) (kn : Int → (List SSpan) → Option R) : Option R :=
  s34_30 cp n p0 p1 p2 v166 v168 v169 v170 v171 (fun v181 => s34_31 cp n p0 p1 p2 v166 v168 v169 v170 v181 (fun v182 => (kn v182 v181)))
def s34_36 (cp : CP) (n : Nat) (p0 : SRecv) (p1 : Int) (p2 : (List Int)) (v166 : Int) (v168 : SRecv) (v169 v170 : Int) (v171 : (List SSpan)) (kn : Int → (List SSpan) → Option R) (ke0 : Option R) : Option R :=
  s34_9 cp n p0 p1 p2 v166 v168 v169 v170 v171 (s34_34 cp n p0 p1 p2 v166 v168 v169 v170 v171 (fun v183 v184 => (kn v183 v184))) ke0
def l34_38 (cp : CP) (n : Nat) : Nat → SRecv → Int → (List Int) → Int → SRecv → Int → Int → (List SSpan) → ((List SSpan) → Option R) → Option R
  | 0, _, _, _, _, _, _, _, _, _ => none
  | m + 1, p0, p1, p2, v166, v168, v169, v170, v171, ke0 =>
    s34_36 cp n p0 p1 p2 v166 v168 v169 v170 v171 (fun v185 v186 => l34_38 cp n m p0 p1 p2 v166 v168 v169 v185 v186 ke0) (ke0 v171)
def s34_39 (cp : CP) (n : Nat) (p0 : SRecv) (p1 : Int) (p2 : (List Int)) (v166 : Int) (v168 : SRecv) (v169 : Int) (ke0 : (List SSpan) → Option R) : Option R :=
  l34_38 cp n n p0 p1 p2 v166 v168 v169 0 [] ke0
def s34_41 (cp : CP) (n : Nat) (p0 : SRecv) (p1 : Int) (p2 : (List Int)) (v166 : Int) (v168 : SRecv) (v169 : Int) (kn : (List SSpan) → Option R) : Option R :=
  s34_39 cp n p0 p1 p2 v166 v168 v169 (fun v187 => (kn v187))
def s34_43 (cp : CP) (n : Nat) (p0 : SRecv) (p1 : Int) (p2 : (List Int)) (v166 : Int) (v168 : SRecv) (kn : (List SSpan) → Option R) : Option R :=
  s34_7 cp n p0 p1 p2 v166 v168 (fun v169 => s34_41 cp n p0 p1 p2 v166 v168 v169 (fun v188 => (kn v188)))
def s34_46 (cp : CP) (n : Nat) (p0 : SRecv) (p1 : Int) (p2 : (List Int)) (v166 : Int) (v168 : SRecv) (kn : (List SSpan) → Option R) : Option R :=
  s34_43 cp n p0 p1 p2 v166 v168 (fun v189 => (kn v189))
def s34_48 (cp : CP) (n : Nat) (p0 : SRecv) (p1 : Int) (p2 : (List Int)) (v166 : Int) (v168 : SRecv) (kn : (List SSpan) → Option R) : Option R :=
  s34_46 cp n p0 p1 p2 v166 v168 (fun v190 => (kn v190))
def s34_50 (cp : CP) (n : Nat) (p0 : SRecv) (p1 : Int) (p2 : (List Int)) (v166 : Int) (kn : (List SSpan) → Option R) : Option R :=
  s34_3 cp n p0 p1 p2 v166 (fun v168 => s34_48 cp n p0 p1 p2 v166 v168 (fun v191 => (kn v191)))
def s34_51 (cp : CP) (n : Nat) (p0 : SRecv) (p1 : Int) (p2 : (List Int)) (v166 : Int) (v192 : (List SSpan)) (kn : Option R) : Option R :=
  kn
def s34_53 (cp : CP) (n : Nat) (p0 : SRecv) (p1 : Int) (p2 : (List Int)) (v166 : Int) (v192 : (List SSpan)) (kn : Int → Bool → Option R) : Option R :=
  kn (mx p1 p0.xNext) (decide ((mx p1 p0.xNext) < v166))
def s34_55 (cp : CP) (n : Nat) (p0 : SRecv) (p1 : Int) (p2 : (List Int)) (v166 : Int) (v192 : (List SSpan)) (v193 : Int) (v194 : Bool) (kn : (List SSpan) → Int → Option R) : Option R :=
  G61 cp n v192 (SSpan.mk v193 v166) (fun r195 => kn r195 (r195.length : Int))
def s34_57 (cp : CP) (n : Nat) (v196 : (List SSpan)) (v197 v198 : Int) (v199 : SRecv) (v200 : Int) (v201 : (List Int)) (v202 : Bool) (kn : Int → SRecv → Int → (List Int) → Bool → Option R) (ke2 : Option R) : Option R :=
  cond (decide (v198 < v197)) (cond (decide (0 ≤ v198)) (cond (decide (v198 < (v196.length : Int))) (G1029 cp n (v196.getD (Int.toNat v198) zSpan) v199 v200 v201 v202 (fun r203 r204 r205 r206 => kn (wr .i64 (v198 + 1)) r203 r204 r205 r206)) (none)) (none)) (ke2)
def l34_62 (cp : CP) (n : Nat) : Nat → (List SSpan) → Int → Int → SRecv → Int → (List Int) → Bool → (SRecv → Bool → Option R) → Option R
  | 0, _, _, _, _, _, _, _, _ => none
  | m + 1, v196, v197, v198, v199, v200, v201, v202, ke2 =>
    s34_57 cp n v196 v197 v198 v199 v200 v201 v202 (fun v207 v208 v209 v210 v211 => l34_62 cp n m v196 v197 v207 v208 v209 v210 v211 ke2) (ke2 v199 v202)
def s34_63 (cp : CP) (n : Nat) (p0 : SRecv) (p1 : Int) (p2 : (List Int)) (v196 : (List SSpan)) (v197 : Int) (ke2 : SRecv → Bool → Option R) : Option R :=
  l34_62 cp n n v196 v197 0 p0 p1 p2 false ke2
def s34_65 (cp : CP) (n : Nat) (p0 : SRecv) (p1 : Int) (p2 : (List Int)) (v196 : (List SSpan)) (v197 : Int) (kn : SRecv → Bool → Option R) : Option R :=
  s34_63 cp n p0 p1 p2 v196 v197 (fun v212 v213 => (kn v212 v213))
def s34_67 (cp : CP) (n : Nat) (p0 : SRecv) (p1 : Int) (p2 : (List Int)) (v166 : Int) (v192 : (List SSpan)) (v193 : Int) (v194 : Bool) (kn : SRecv → Bool → Option R) : Option R :=
  s34_55 cp n p0 p1 p2 v166 v192 v193 v194 (fun v196 v197 => s34_65 cp n p0 p1 p2 v196 v197 (fun v214 v215 => (kn v214 v215)))
def s34_68 (cp : CP) (n : Nat) (p0 : SRecv) (p1 : Int) (p2 : (List Int)) (v166 : Int) (v192 : (List SSpan)) (v193 : Int) (v194 : Bool) (kn : Option R) : Option R :=
  kn
def s34_69 (cp : CP) (n : Nat) (p0 : SRecv) (p1 : Int) (p2 : (List Int)) (v166 : Int) (v192 : (List SSpan)) (v193 : Int) (v194 : Bool) (kn : SRecv → Bool → Option R) : Option R :=
  cond (v194) (s34_67 cp n p0 p1 p2 v166 v192 v193 v194 (fun v216 v217 => (kn v216 v217))) (s34_68 cp n p0 p1 p2 v166 v192 v193 v194 (kn p0 false))
def s34_72 (cp : CP) (n : Nat) (p0 : SRecv) (p1 : Int) (p2 : (List Int)) (v166 : Int) (v192 : (List SSpan)) (kn : SRecv → Bool → Option R) : Option R :=
  s34_53 cp n p0 p1 p2 v166 v192 (fun v193 v194 => s34_69 cp n p0 p1 p2 v166 v192 v193 v194 (fun v218 v219 => (kn v218 v219)))
def s34_73 (cp : CP) (n : Nat) (v221 : Bool) (v222 : SRecv) (kn : SRecv → Option R) (ke4 : Option R) : Option R :=
  cond (decide (0 < (v222.xLate.length : Int))) (cond (decide (0 < (v222.xLate.length : Int))) (cond (decide (((v222.xLate.getD 0 zPiece).xFrom) = v222.xNext)) (cond (decide (0 < (v222.xLate.length : Int))) (cond (cp (v222.xUnread.length + ((v222.xLate.getD 0 zPiece).xData).length) 1) (cond (decide (0 < (v222.xLate.length : Int))) (cond (decide (1 ≤ (v222.xLate.length : Int))) (kn (SRecv.mk (wr .i64 (v222.xNext + (((v222.xLate.getD 0 zPiece).xData).length : Int))) (v222.xUnread ++ ((v222.xLate.getD 0 zPiece).xData)) (List.take (v222.xLate.length - 1) (v222.xLate.drop 1)) v222.xCap v222.xShift v222.xEdge v222.xRecent v222.xStamps v222.xSacks v222.xFin v222.xDone v222.xFirst v222.xIrs v222.xOwn v222.xStamp)) (none)) (none)) (none)) (none)) (ke4)) (none)) (ke4)
def l34_77 (cp : CP) (n : Nat) : Nat → Bool → SRecv → (SRecv → Option R) → Option R
  | 0, _, _, _ => none
  | m + 1, v221, v222, ke4 =>
    s34_73 cp n v221 v222 (fun v223 => l34_77 cp n m v221 v223 ke4) (ke4 v222)
def s34_78 (cp : CP) (n : Nat) (v220 : SRecv) (v221 : Bool) (ke4 : SRecv → Option R) : Option R :=
  l34_77 cp n n v221 v220 ke4
def s34_80 (cp : CP) (n : Nat) (v220 : SRecv) (v221 : Bool) (ke4 : SRecv → Option R) : Option R :=
  s34_78 cp n v220 v221 ke4
def s34_82 (cp : CP) (n : Nat) (v220 : SRecv) (v221 : Bool) (kn : SRecv → Option R) : Option R :=
  s34_80 cp n v220 v221 (fun v224 => (kn v224))
def s34_83 (cp : CP) (n : Nat) (v221 : Bool) (v225 : SRecv) (kr : Option R) : Option R :=
  kr
def s34_86 (cp : CP) (n : Nat) (v220 : SRecv) (v221 : Bool) (kr : SRecv → Option R) : Option R :=
  s34_82 cp n v220 v221 (fun v225 => s34_83 cp n v221 v225 (kr v225))
def s34_88 (cp : CP) (n : Nat) (p0 : SRecv) (p1 : Int) (p2 : (List Int)) (v166 : Int) (v192 : (List SSpan)) (kr : Bool → SRecv → Option R) : Option R :=
  s34_72 cp n p0 p1 p2 v166 v192 (fun v220 v221 => s34_86 cp n v220 v221 (fun v226 => (kr v221 v226)))
def s34_90 (cp : CP) (n : Nat) (p0 : SRecv) (p1 : Int) (p2 : (List Int)) (v166 : Int) (v192 : (List SSpan)) (kr : Bool → SRecv → Option R) : Option R :=
  s34_51 cp n p0 p1 p2 v166 v192 (s34_88 cp n p0 p1 p2 v166 v192 (fun v227 v228 => (kr v227 v228)))
def s34_92 (cp : CP) (n : Nat) (p0 : SRecv) (p1 : Int) (p2 : (List Int)) (v166 : Int) (kr : Bool → SRecv → Option R) : Option R :=
  s34_50 cp n p0 p1 p2 v166 (fun v192 => s34_90 cp n p0 p1 p2 v166 v192 (fun v229 v230 => (kr v229 v230)))
def s34_94 (cp : CP) (n : Nat) (p0 : SRecv) (p1 : Int) (p2 : (List Int)) (kr : Bool → SRecv → Option R) : Option R :=
  s34_1 cp n p0 p1 p2 (fun v166 => s34_92 cp n p0 p1 p2 v166 (fun v231 v232 => (kr v231 v232)))
def G34 (cp : CP) : Nat → SRecv → Int → (List Int) → (SRecv → Bool → Option R) → Option R
  | 0, _, _, _, _ => none
  | n + 1, p0, p1, p2, k =>
    s34_94 cp n p0 p1 p2 (fun v233 v234 => k v234 v233)
/-! tideway/recv.firsts$1 -/
def G1038 (cp : CP) : Nat → SSpan → SSpan → (Bool → SSpan → Option R) → Option R
  | 0, _, _, _ => none
  | n + 1, p0, q0, k =>
    cond (decide (p0.xFrom ≤ q0.xFrom)) (k (decide (q0.xTo ≤ p0.xTo)) q0) (k false q0)
/-! slices.IndexFunc[[]tideway/api.Span,tideway/api.Span] -/
def s1037_1 (cp : CP) (n : Nat) (p0 : (List SSpan)) (q0 : SSpan) (kn : Option R) : Option R :=
  kn
def s1037_3 (cp : CP) (n : Nat) (p0 : (List SSpan)) (q0 : SSpan) (kn : Int → Option R) : Option R :=
  kn (p0.length : Int)
def s1037_5 (cp : CP) (n : Nat) (p0 : (List SSpan)) (v252 v253 v254 v255 : Int) (kn : Int → Int → Int → Option R) (kr : Int → Int → Option R) (ke0 : Option R) : Option R :=
  cond (decide (v253 < v252)) (cond (decide (0 ≤ v253)) (cond (decide (v253 < (p0.length : Int))) (G1038 cp n (p0.getD (Int.toNat v253) zSpan) (SSpan.mk v254 v255) (fun r256 r257 => cond (r256) (kr r257.xFrom r257.xTo) (kn (wr .i64 (v253 + 1)) r257.xFrom r257.xTo))) (none)) (none)) (ke0)
def l1037_12 (cp : CP) (n : Nat) : Nat → (List SSpan) → Int → Int → Int → Int → (Int → Int → Int → Option R) → (Int → Int → Option R) → Option R
  | 0, _, _, _, _, _, _, _ => none
  | m + 1, p0, v252, v253, v254, v255, kr, ke0 =>
    s1037_5 cp n p0 v252 v253 v254 v255 (fun v258 v259 v260 => l1037_12 cp n m p0 v252 v258 v259 v260 kr ke0) (fun v261 v262 => (kr v253 v261 v262)) (ke0 v254 v255)
def s1037_13 (cp : CP) (n : Nat) (p0 : (List SSpan)) (q0 : SSpan) (v252 : Int) (kr : Int → Int → Int → Option R) (ke0 : Int → Int → Option R) : Option R :=
  l1037_12 cp n n p0 v252 0 q0.xFrom q0.xTo kr ke0
def s1037_16 (cp : CP) (n : Nat) (p0 : (List SSpan)) (q0 : SSpan) (v252 : Int) (kn : Int → Int → Option R) (kr : Int → Int → Int → Option R) : Option R :=
  s1037_13 cp n p0 q0 v252 (fun v263 v264 v265 => (kr v263 v264 v265)) (fun v266 v267 => (kn v266 v267))
def s1037_19 (cp : CP) (n : Nat) (p0 : (List SSpan)) (q0 : SSpan) (kn : Int → Int → Option R) (kr : Int → Int → Int → Option R) : Option R :=
  s1037_3 cp n p0 q0 (fun v252 => s1037_16 cp n p0 q0 v252 (fun v268 v269 => (kn v268 v269)) (fun v270 v271 v272 => (kr v270 v271 v272)))
def s1037_20 (cp : CP) (n : Nat) (v273 v274 : Int) (kr : Option R) : Option R :=
  kr
def s1037_23 (cp : CP) (n : Nat) (p0 : (List SSpan)) (q0 : SSpan) (kr : Int → Int → Int → Option R) : Option R :=
  s1037_19 cp n p0 q0 (fun v273 v274 => s1037_20 cp n v273 v274 (kr (-1) v273 v274)) (fun v275 v276 v277 => (kr v275 v276 v277))
def s1037_25 (cp : CP) (n : Nat) (p0 : (List SSpan)) (q0 : SSpan) (kr : Int → Int → Int → Option R) : Option R :=
  s1037_1 cp n p0 q0 (s1037_23 cp n p0 q0 (fun v278 v279 v280 => (kr v278 v279 v280)))
def G1037 (cp : CP) : Nat → (List SSpan) → SSpan → (Int → SSpan → Option R) → Option R
  | 0, _, _, _ => none
  | n + 1, p0, q0, k =>
    s1037_25 cp n p0 q0 (fun v281 v282 v283 => k v281 (SSpan.mk v282 v283))
/-! tideway/recv.firsts -/
def s35_1 (cp : CP) (n : Nat) (p0 : SRecv) (p1 : Int) (p2 : (List Int)) (kn : (List SSpan) → Option R) : Option R :=
  G55 cp n p0 (fun r240 => G1010 cp n r240 (fun r241 r242 => kn r241))
def s35_3 (cp : CP) (n : Nat) (p0 : SRecv) (p1 : Int) (p2 : (List Int)) (v243 : (List SSpan)) (kn : Int → Option R) : Option R :=
  kn (wr .i64 ((v243.length : Int) - 1))
def s35_5 (cp : CP) (n : Nat) (p0 : SRecv) (p1 : Int) (p2 : (List Int)) (v243 : (List SSpan)) (v245 : Int) (kn : Int → Option R) (ke0 : (List SSpan) → Option R) : Option R :=
  cond (decide (0 ≤ v245)) (cond (decide (0 ≤ v245)) (cond (decide (v245 < (v243.length : Int))) (cond (decide (((v243.getD (Int.toNat v245) zSpan).xFrom) < (wr .i64 (p1 + (p2.length : Int))))) (cond (decide (0 ≤ v245)) (cond (decide (v245 < (v243.length : Int))) (cond (decide (p1 < ((v243.getD (Int.toNat v245) zSpan).xTo))) (cond (decide (0 < (p2.length : Int))) (cond (decide (0 ≤ v245)) (cond (decide (v245 < (v243.length : Int))) (cond (cp ([(v243.getD (Int.toNat v245) zSpan)].length + p0.xFirst.length) 16) (ke0 ([(v243.getD (Int.toNat v245) zSpan)] ++ p0.xFirst)) (none)) (none)) (none)) (kn (wr .i64 (v245 - 1)))) (kn (wr .i64 (v245 - 1)))) (none)) (none)) (kn (wr .i64 (v245 - 1)))) (none)) (none)) (ke0 p0.xFirst)
def l35_10 (cp : CP) (n : Nat) : Nat → SRecv → Int → (List Int) → (List SSpan) → Int → ((List SSpan) → Option R) → Option R
  | 0, _, _, _, _, _, _ => none
  | m + 1, p0, p1, p2, v243, v245, ke0 =>
    s35_5 cp n p0 p1 p2 v243 v245 (fun v246 => l35_10 cp n m p0 p1 p2 v243 v246 ke0) (fun v247 => (ke0 v247))
def s35_11 (cp : CP) (n : Nat) (p0 : SRecv) (p1 : Int) (p2 : (List Int)) (v243 : (List SSpan)) (v244 : Int) (ke0 : (List SSpan) → Option R) : Option R :=
  l35_10 cp n n p0 p1 p2 v243 v244 ke0
def s35_13 (cp : CP) (n : Nat) (p0 : SRecv) (p1 : Int) (p2 : (List Int)) (v243 : (List SSpan)) (v244 : Int) (kn : (List SSpan) → Option R) : Option R :=
  s35_11 cp n p0 p1 p2 v243 v244 (fun v248 => (kn v248))
def s35_15 (cp : CP) (n : Nat) (p0 : SRecv) (p1 : Int) (p2 : (List Int)) (v243 : (List SSpan)) (kn : (List SSpan) → Option R) : Option R :=
  s35_3 cp n p0 p1 p2 v243 (fun v244 => s35_13 cp n p0 p1 p2 v243 v244 (fun v249 => (kn v249)))
def s35_16 (cp : CP) (n : Nat) (v243 v250 : (List SSpan)) (kn : Option R) : Option R :=
  kn
def s35_18 (cp : CP) (n : Nat) (v243 v250 : (List SSpan)) (kn : Int → Option R) : Option R :=
  kn (v250.length : Int)
def s35_20 (cp : CP) (n : Nat) (v243 v250 : (List SSpan)) (v251 : Int) (v252 : (List SSpan)) (v253 : Int) (kn : (List SSpan) → Int → Option R) (ke2 : Option R) : Option R :=
  cond (decide (v253 < v251)) (cond (decide (0 ≤ v253)) (cond (decide (v253 < (v250.length : Int))) (G1037 cp n v243 (v250.getD (Int.toNat v253) zSpan) (fun r254 r255 => cond (decide (0 ≤ r254)) (cond (decide (0 ≤ r254)) (cond (decide (r254 < (v243.length : Int))) (G56 cp n v252 (v243.getD (Int.toNat r254) zSpan) (fun r256 => cond (!r256) (cond (decide (0 ≤ r254)) (cond (decide (r254 < (v243.length : Int))) (cond (cp (v252.length + [(v243.getD (Int.toNat r254) zSpan)].length) 16) (kn (v252 ++ [(v243.getD (Int.toNat r254) zSpan)]) (wr .i64 (v253 + 1))) (none)) (none)) (none)) (kn v252 (wr .i64 (v253 + 1))))) (none)) (none)) (kn v252 (wr .i64 (v253 + 1))))) (none)) (none)) (ke2)
def l35_25 (cp : CP) (n : Nat) : Nat → (List SSpan) → (List SSpan) → Int → (List SSpan) → Int → ((List SSpan) → Option R) → Option R
  | 0, _, _, _, _, _, _ => none
  | m + 1, v243, v250, v251, v252, v253, ke2 =>
    s35_20 cp n v243 v250 v251 v252 v253 (fun v257 v258 => l35_25 cp n m v243 v250 v251 v257 v258 ke2) (ke2 v252)
def s35_26 (cp : CP) (n : Nat) (v243 v250 : (List SSpan)) (v251 : Int) (ke2 : (List SSpan) → Option R) : Option R :=
  l35_25 cp n n v243 v250 v251 [] 0 ke2
def s35_28 (cp : CP) (n : Nat) (v243 v250 : (List SSpan)) (v251 : Int) (kn : (List SSpan) → Option R) : Option R :=
  s35_26 cp n v243 v250 v251 (fun v259 => (kn v259))
def s35_30 (cp : CP) (n : Nat) (v243 v250 : (List SSpan)) (kn : (List SSpan) → Option R) : Option R :=
  s35_18 cp n v243 v250 (fun v251 => s35_28 cp n v243 v250 v251 (fun v260 => (kn v260)))
def s35_31 (cp : CP) (n : Nat) (v261 : (List SSpan)) (kr : Option R) : Option R :=
  kr
def s35_34 (cp : CP) (n : Nat) (v243 v250 : (List SSpan)) (kr : (List SSpan) → Option R) : Option R :=
  s35_30 cp n v243 v250 (fun v261 => s35_31 cp n v261 (kr v261))
def s35_36 (cp : CP) (n : Nat) (v243 v250 : (List SSpan)) (kr : (List SSpan) → Option R) : Option R :=
  s35_16 cp n v243 v250 (s35_34 cp n v243 v250 (fun v262 => (kr v262)))
def s35_38 (cp : CP) (n : Nat) (p0 : SRecv) (p1 : Int) (p2 : (List Int)) (v243 : (List SSpan)) (kr : (List SSpan) → Option R) : Option R :=
  s35_15 cp n p0 p1 p2 v243 (fun v250 => s35_36 cp n v243 v250 (fun v263 => (kr v263)))
def s35_40 (cp : CP) (n : Nat) (p0 : SRecv) (p1 : Int) (p2 : (List Int)) (kr : (List SSpan) → Option R) : Option R :=
  s35_1 cp n p0 p1 p2 (fun v243 => s35_38 cp n p0 p1 p2 v243 (fun v264 => (kr v264)))
def G35 (cp : CP) : Nat → SRecv → Int → (List Int) → ((List SSpan) → Option R) → Option R
  | 0, _, _, _, _ => none
  | n + 1, p0, p1, p2, k =>
    s35_40 cp n p0 p1 p2 (fun v265 => k v265)
/-! tideway/recv.Input -/
def s12_1 (cp : CP) (n : Nat) (p0 : SRecv) (p1 : SSegment) (kn : Int → SRecv → Option R) (kr : Int → SRecv → Option R) : Option R :=
  G10 cp n p0 (fun r9 => cond (!decide (r9 = 0)) (kr r9 (SRecv.mk 0 [] [] 0 0 0 0 false false 0 false [] 0 0 false)) (G29 cp n p0 (fun r10 => cond (r10.xStamps) (cond (!p1.xStamped) (kr 0 r10) (G30 cp n r10.xNext (wr .u32 (p1.xSeq - r10.xIrs)) (fun r11 => kn r11 r10))) (G30 cp n r10.xNext (wr .u32 (p1.xSeq - r10.xIrs)) (fun r12 => kn r12 r10)))))
def s12_4 (cp : CP) (n : Nat) (p1 : SSegment) (v13 : Int) (v14 : SRecv) (kn : Option R) (kr : SRecv → SSegment → Option R) : Option R :=
  cond (v14.xStamps) (cond (v14.xStamp) (G31 cp n v14.xRecent p1.xVal (fun r17 => cond (decide (r17 < 0)) (G32 cp n v14 [] (fun r18 r19 => kr r18 r19)) (kn))) (kn)) (kn)
def s12_6 (cp : CP) (n : Nat) (p1 : SSegment) (v13 : Int) (v14 : SRecv) (kn : Int → Bool → Option R) : Option R :=
  cond (v14.xStamps) (cond (decide (v13 ≤ v14.xNext)) (kn p1.xVal true) (kn v14.xRecent v14.xStamp)) (kn v14.xRecent v14.xStamp)
def s12_8 (cp : CP) (n : Nat) (p1 : SSegment) (v13 : Int) (v14 : SRecv) (v22 : Int) (v23 : Bool) (kn : Bool → SRecv → Option R) : Option R :=
  cond (decide (0 < (bits .and .i64 p1.xFlags 1))) (G33 cp n (SRecv.mk v14.xNext v14.xUnread v14.xLate v14.xCap v14.xShift v14.xEdge v22 v14.xStamps v14.xSacks v14.xFin v14.xDone v14.xFirst v14.xIrs v14.xOwn v23) (wr .i64 (v13 + (p1.xData.length : Int))) (fun r30 => G34 cp n (SRecv.mk v14.xNext v14.xUnread v14.xLate v14.xCap v14.xShift v14.xEdge v22 v14.xStamps v14.xSacks r30 v14.xDone v14.xFirst v14.xIrs v14.xOwn v23) v13 p1.xData (fun r31 r32 => kn r32 (SRecv.mk r31.xNext r31.xUnread r31.xLate r31.xCap r31.xShift r31.xEdge r31.xRecent r31.xStamps r31.xSacks r31.xFin (decide (r31.xFin = r31.xNext)) r31.xFirst r31.xIrs r31.xOwn r31.xStamp)))) (G34 cp n (SRecv.mk v14.xNext v14.xUnread v14.xLate v14.xCap v14.xShift v14.xEdge v22 v14.xStamps v14.xSacks v14.xFin v14.xDone v14.xFirst v14.xIrs v14.xOwn v23) v13 p1.xData (fun r33 r34 => kn r34 (SRecv.mk r33.xNext r33.xUnread r33.xLate r33.xCap r33.xShift r33.xEdge r33.xRecent r33.xStamps r33.xSacks r33.xFin (decide (r33.xFin = r33.xNext)) r33.xFirst r33.xIrs r33.xOwn r33.xStamp)))
def s12_10 (cp : CP) (n : Nat) (p1 : SSegment) (v13 : Int) (v35 : Bool) (v36 : SRecv) (kn : (List SSpan) → Option R) : Option R :=
  G35 cp n v36 v13 p1.xData (fun r38 => kn r38)
def s12_12 (cp : CP) (n : Nat) (p1 : SSegment) (v13 : Int) (v35 : Bool) (v36 : SRecv) (v39 : (List SSpan)) (kn : (List SBlock) → Option R) : Option R :=
  cond (v36.xSacks) (cond (decide (0 < (p1.xData.length : Int))) (cond (decide (0 ≤ v13)) (cond (!v35) (G36 cp n p1.xSeq (p1.xData.length : Int) (fun r40 => kn [(SBlock.mk p1.xSeq r40)])) (kn [])) (kn [])) (kn [])) (kn [])
def s12_14 (cp : CP) (n : Nat) (v36 : SRecv) (v39 : (List SSpan)) (v41 : (List SBlock)) (kr : SRecv → SSegment → Option R) : Option R :=
  G32 cp n (SRecv.mk v36.xNext v36.xUnread v36.xLate v36.xCap v36.xShift v36.xEdge v36.xRecent v36.xStamps v36.xSacks v36.xFin v36.xDone v39 v36.xIrs v36.xOwn v36.xStamp) v41 (fun r42 r43 => kr r42 r43)
def s12_17 (cp : CP) (n : Nat) (p1 : SSegment) (v13 : Int) (v35 : Bool) (v36 : SRecv) (v39 : (List SSpan)) (kr : SRecv → SSegment → Option R) : Option R :=
  s12_12 cp n p1 v13 v35 v36 v39 (fun v41 => s12_14 cp n v36 v39 v41 (fun v44 v45 => (kr v44 v45)))
def s12_19 (cp : CP) (n : Nat) (p1 : SSegment) (v13 : Int) (v35 : Bool) (v36 : SRecv) (kr : SRecv → SSegment → Option R) : Option R :=
  s12_10 cp n p1 v13 v35 v36 (fun v39 => s12_17 cp n p1 v13 v35 v36 v39 (fun v46 v47 => (kr v46 v47)))
def s12_21 (cp : CP) (n : Nat) (p1 : SSegment) (v13 : Int) (v14 : SRecv) (v22 : Int) (v23 : Bool) (kr : SRecv → SSegment → Option R) : Option R :=
  s12_8 cp n p1 v13 v14 v22 v23 (fun v35 v36 => s12_19 cp n p1 v13 v35 v36 (fun v48 v49 => (kr v48 v49)))
def s12_23 (cp : CP) (n : Nat) (p1 : SSegment) (v13 : Int) (v14 : SRecv) (kr : SRecv → SSegment → Option R) : Option R :=
  s12_6 cp n p1 v13 v14 (fun v22 v23 => s12_21 cp n p1 v13 v14 v22 v23 (fun v50 v51 => (kr v50 v51)))
def s12_25 (cp : CP) (n : Nat) (p1 : SSegment) (v13 : Int) (v14 : SRecv) (kr : SRecv → SSegment → Option R) : Option R :=
  s12_4 cp n p1 v13 v14 (s12_23 cp n p1 v13 v14 (fun v52 v53 => (kr v52 v53))) (fun v20 v21 => (kr v20 v21))
def s12_27 (cp : CP) (n : Nat) (p0 : SRecv) (p1 : SSegment) (kr : Bool → Int → SRecv → SSegment → Option R) : Option R :=
  s12_1 cp n p0 p1 (fun v13 v14 => s12_25 cp n p1 v13 v14 (fun v54 v55 => (kr true 0 v54 v55))) (fun v15 v16 => (kr false v15 v16 (SSegment.mk 0 0 0 0 0 0 0 0 0 false false 0 0 [] [])))
def G12 (cp : CP) : Nat → SRecv → SSegment → (SRecv → SSegment → Bool → Int → Option R) → Option R
  | 0, _, _, _ => none
  | n + 1, p0, p1, k =>
    s12_27 cp n p0 p1 (fun v56 v57 v58 v59 => k v58 v59 v56 v57)
/-! tideway/seq.Clamp -/
def G51 (cp : CP) : Nat → Int → Int → Int → (Int → Option R) → Option R
  | 0, _, _, _, _ => none
  | n + 1, p0, p1, p2, k =>
    k (mx p1 (mn p0 p2))
/-! tideway/recv.Read -/
def s20_1 (cp : CP) (n : Nat) (p0 : SRecv) (p1 : Int) (kn : (List Int) → SRecv → Option R) (kr : Int → Option R) : Option R :=
  G10 cp n p0 (fun r78 => cond (!decide (r78 = 0)) (kr r78) (G29 cp n p0 (fun r79 => G51 cp n p1 0 (r79.xUnread.length : Int) (fun r80 => cond (decide (0 ≤ r80)) (cond (decide (r80 ≤ (r79.xUnread.length : Int))) (G52 cp n (r79.xUnread.take (Int.toNat r80)) (fun r81 => cond (decide (0 ≤ r80)) (cond (decide (r80 ≤ (r79.xUnread.length : Int))) (kn r81 (SRecv.mk r79.xNext (List.take (r79.xUnread.length - (Int.toNat r80)) (r79.xUnread.drop (Int.toNat r80))) r79.xLate r79.xCap r79.xShift r79.xEdge r79.xRecent r79.xStamps r79.xSacks r79.xFin r79.xDone r79.xFirst r79.xIrs r79.xOwn r79.xStamp)) (none)) (none))) (none)) (none)))))
def s20_4 (cp : CP) (n : Nat) (v82 : (List Int)) (v83 : SRecv) (kr : Bool → SRecv → SSegment → Option R) : Option R :=
  G49 cp n v83 (fun r85 => cond (decide ((wr .i64 ((wr .i64 (v83.xNext + r85)) - v83.xEdge)) < (mx (wr .i64 (Int.tdiv v83.xCap 2)) 1))) (kr false v83 (SSegment.mk 0 0 0 0 0 0 0 0 0 false false 0 0 [] [])) (G32 cp n v83 [] (fun r86 r87 => kr true r86 r87)))
def s20_7 (cp : CP) (n : Nat) (p0 : SRecv) (p1 : Int) (kr : (List Int) → Bool → Int → SRecv → SSegment → Option R) : Option R :=
  s20_1 cp n p0 p1 (fun v82 v83 => s20_4 cp n v82 v83 (fun v88 v89 v90 => (kr v82 v88 0 v89 v90))) (fun v84 => (kr [] false v84 (SRecv.mk 0 [] [] 0 0 0 0 false false 0 false [] 0 0 false) (SSegment.mk 0 0 0 0 0 0 0 0 0 false false 0 0 [] [])))
def G20 (cp : CP) : Nat → SRecv → Int → (SRecv → (List Int) → SSegment → Bool → Int → Option R) → Option R
  | 0, _, _, _ => none
  | n + 1, p0, p1, k =>
    s20_7 cp n p0 p1 (fun v91 v92 v93 v94 v95 => k v94 v91 v95 v92 v93)
/-! tideway/recv.Window -/
def G22 (cp : CP) : Nat → SRecv → (Int → Option R) → Option R
  | 0, _, _ => none
  | n + 1, p0, k =>
    G10 cp n p0 (fun r48 => cond (!decide (r48 = 0)) (k 0) (G49 cp n p0 (fun r49 => k r49)))
/-! tideway/tidewaylaw08.heads -/
def s11_1 (cp : CP) (n : Nat) (kn : Int → Bool → Int → Bool → Int → (List Int) → Int → SRecv → SSegment → SRecv → SSegment → SRecv → Option R) : Option R :=
  G17 cp n 10 0 100 7 false true (fun r19 r20 => G12 cp n r19 (SSegment.mk 0 0 102 0 0 0 0 0 0 false false 0 0 [] [99, 100]) (fun r21 r22 r23 r24 => G12 cp n r21 (SSegment.mk 0 0 100 0 0 0 0 0 0 false false 0 0 [] [97, 98]) (fun r25 r26 r27 r28 => G20 cp n r25 3 (fun r29 r30 r31 r32 r33 => kn r20 r23 r24 r27 r28 r30 r33 r19 r22 r25 r26 r29))))
def s11_3 (cp : CP) (n : Nat) (v34 : Int) (v35 : Bool) (v36 : Int) (v37 : Bool) (v38 : Int) (v39 : (List Int)) (v40 : Int) (v41 : SRecv) (v42 : SSegment) (v43 : SRecv) (v44 : SSegment) (v45 : SRecv) (kr : Bool → Option R) : Option R :=
  G17 cp n 0 0 0 0 false false (fun r46 r47 => cond (!decide (v34 = 0)) (kr false) (cond (!decide (v36 = 0)) (kr false) (cond (!decide (v38 = 0)) (kr false) (cond (!decide (v40 = 0)) (kr false) (cond (!v35) (kr false) (cond (!v37) (kr false) (cond (!decide (r47 = 2)) (kr false) (cond (decide (v42.xAck = 100)) (cond (decide ((v42.xSacks.length : Int) = 1)) (cond (decide (0 < (v42.xSacks.length : Int))) (cond ((decide ((v42.xSacks.getD 0 zBlock).xFrom = 102) && (decide ((v42.xSacks.getD 0 zBlock).xTo = 104) && true))) (cond (decide (v44.xAck = 104)) (cond (((strOfNums v43.xUnread).data.toList == str_abcd.data.toList)) (cond (((strOfNums v39).data.toList == str_abc.data.toList)) (cond (((strOfNums v45.xUnread).data.toList == str_d.data.toList)) (G22 cp n v41 (fun r50 => kr (decide (r50 = 10)))) (kr false)) (kr false)) (kr false)) (kr false)) (kr false)) (none)) (kr false)) (kr false)))))))))
def s11_6 (cp : CP) (n : Nat) (kr : Bool → Option R) : Option R :=
  s11_1 cp n (fun v34 v35 v36 v37 v38 v39 v40 v41 v42 v43 v44 v45 => s11_3 cp n v34 v35 v36 v37 v38 v39 v40 v41 v42 v43 v44 v45 (fun v51 => (kr v51)))
def G11 (cp : CP) : Nat → (Bool → Option R) → Option R
  | 0, _ => none
  | n + 1, k =>
    s11_6 cp n (fun v52 => k v52)
/-! tideway/tidewaylaw08.seg -/
def G19 (cp : CP) : Nat → Int → (List Int) → Int → Int → Bool → (SSegment → Option R) → Option R
  | 0, _, _, _, _, _, _ => none
  | n + 1, p0, p1, p2, p3, p4, k =>
    cond (decide (p2 < 0)) (cond (decide (0 ≤ mn (p1.length : Int) (wr .i64 (0 + p3)))) (cond (decide (mn (p1.length : Int) (wr .i64 (0 + p3)) ≤ (p1.length : Int))) (cond (p4) (cond (decide ((mn (p1.length : Int) (wr .i64 (0 + p3))) = (p1.length : Int))) (k (SSegment.mk 0 0 (wr .u32 (p0 + (wr .u32 0))) 0 1 0 0 (-1) (-1) false true 0 0 [] (List.take ((Int.toNat (mn (p1.length : Int) (wr .i64 (0 + p3)))) - 0) p1))) (k (SSegment.mk 0 0 (wr .u32 (p0 + (wr .u32 0))) 0 0 0 0 (-1) (-1) false true 0 0 [] (List.take ((Int.toNat (mn (p1.length : Int) (wr .i64 (0 + p3)))) - 0) p1)))) (k (SSegment.mk 0 0 (wr .u32 (p0 + (wr .u32 0))) 0 0 0 0 (-1) (-1) false true 0 0 [] (List.take ((Int.toNat (mn (p1.length : Int) (wr .i64 (0 + p3)))) - 0) p1)))) (none)) (none)) (cond (decide ((p1.length : Int) < p2)) (cond (decide (0 ≤ mn (p1.length : Int) (wr .i64 (0 + p3)))) (cond (decide (mn (p1.length : Int) (wr .i64 (0 + p3)) ≤ (p1.length : Int))) (cond (p4) (cond (decide ((mn (p1.length : Int) (wr .i64 (0 + p3))) = (p1.length : Int))) (k (SSegment.mk 0 0 (wr .u32 (p0 + (wr .u32 0))) 0 1 0 0 (-1) (-1) false true 0 0 [] (List.take ((Int.toNat (mn (p1.length : Int) (wr .i64 (0 + p3)))) - 0) p1))) (k (SSegment.mk 0 0 (wr .u32 (p0 + (wr .u32 0))) 0 0 0 0 (-1) (-1) false true 0 0 [] (List.take ((Int.toNat (mn (p1.length : Int) (wr .i64 (0 + p3)))) - 0) p1)))) (k (SSegment.mk 0 0 (wr .u32 (p0 + (wr .u32 0))) 0 0 0 0 (-1) (-1) false true 0 0 [] (List.take ((Int.toNat (mn (p1.length : Int) (wr .i64 (0 + p3)))) - 0) p1)))) (none)) (none)) (cond (decide (0 ≤ p2)) (cond (decide (p2 ≤ mn (p1.length : Int) (wr .i64 (p2 + p3)))) (cond (decide (mn (p1.length : Int) (wr .i64 (p2 + p3)) ≤ (p1.length : Int))) (cond (p4) (cond (decide ((mn (p1.length : Int) (wr .i64 (p2 + p3))) = (p1.length : Int))) (k (SSegment.mk 0 0 (wr .u32 (p0 + (wr .u32 p2))) 0 1 0 0 (-1) (-1) false true 0 0 [] (List.take ((Int.toNat (mn (p1.length : Int) (wr .i64 (p2 + p3)))) - (Int.toNat p2)) (p1.drop (Int.toNat p2))))) (k (SSegment.mk 0 0 (wr .u32 (p0 + (wr .u32 p2))) 0 0 0 0 (-1) (-1) false true 0 0 [] (List.take ((Int.toNat (mn (p1.length : Int) (wr .i64 (p2 + p3)))) - (Int.toNat p2)) (p1.drop (Int.toNat p2)))))) (k (SSegment.mk 0 0 (wr .u32 (p0 + (wr .u32 p2))) 0 0 0 0 (-1) (-1) false true 0 0 [] (List.take ((Int.toNat (mn (p1.length : Int) (wr .i64 (p2 + p3)))) - (Int.toNat p2)) (p1.drop (Int.toNat p2)))))) (none)) (none)) (none)))
/-! tideway/tidewayref02.Same -/
def G21 (cp : CP) : Nat → (List Int) → (List Int) → (Bool → Option R) → Option R
  | 0, _, _, _ => none
  | n + 1, p0, p1, k =>
    k ((strOfNums p0).data.toList == (strOfNums p1).data.toList)
/-! tideway/tidewaylaw08.RecvOrders -/
def s6_1 (cp : CP) (n : Nat) (p0 : (List Int)) (p1 : Int) (p2 p3 : (List Int)) (kn : SRecv → Option R) (kr : Bool → Option R) : Option R :=
  cond (decide (200 < (p0.length : Int))) (G11 cp n (fun r63 => kr r63)) (cond (decide (200 < (p2.length : Int))) (G11 cp n (fun r64 => kr r64)) (G17 cp n 1000 2 p1 0 true true (fun r65 r66 => cond (!decide (r66 = 0)) (kr false) (kn r65))))
def s6_4 (cp : CP) (n : Nat) (p0 : (List Int)) (p1 : Int) (p2 p3 : (List Int)) (v67 : SRecv) (kn : Option R) : Option R :=
  kn
def s6_6 (cp : CP) (n : Nat) (p0 : (List Int)) (p1 : Int) (p2 p3 v69 : (List Int)) (v70 : Int) (v71 : SRecv) (kn : Option R) (ke0 : Option R) : Option R :=
  cond (decide (v70 < (p2.length : Int))) (kn) (ke0)
def s6_9 (cp : CP) (n : Nat) (p0 : (List Int)) (p1 : Int) (p2 p3 v69 : (List Int)) (v70 : Int) (v71 : SRecv) (kn : (List Int) → SRecv → Option R) (kr : Option R) : Option R :=
  cond (decide (0 ≤ v70)) (cond (decide (v70 < (p2.length : Int))) (cond (decide ((wr .u64 (wr .i64 ((p0.length : Int) + 1))) = 0)) (none) (cond (decide (0 ≤ v70)) (cond (decide (v70 < (p2.length : Int))) (G19 cp n p1 p0 (wr .i64 (Int.tmod (wr .u64 (p2.getD (Int.toNat v70) zint)) (wr .u64 (wr .i64 ((p0.length : Int) + 1))))) (wr .i64 ((wr .i64 (Int.tmod (shr .u64 (wr .u64 (p2.getD (Int.toNat v70) zint)) 10) 16)) + 1)) true (fun r89 => G12 cp n v71 r89 (fun r90 r91 r92 r93 => cond (!decide (r93 = 0)) (kr) (cond (!r92) (kr) (G10 cp n r90 (fun r94 => cond (!decide (r94 = 0)) (kr) (cond (decide (r90.xNext < v71.xNext)) (kr) (cond (decide (r90.xEdge < v71.xEdge)) (kr) (cond (decide (v70 < (p3.length : Int))) (cond (decide (0 ≤ v70)) (cond (decide (v70 < (p3.length : Int))) (G20 cp n r90 (bits .and .i64 (p3.getD (Int.toNat v70) zint) 31) (fun r95 r96 r97 r98 r99 => cond (!decide (r99 = 0)) (kr) (cond (cp (v69.length + r96.length) 1) (kn (v69 ++ r96) r95) (none)))) (none)) (none)) (kn v69 r90)))))))))) (none)) (none))) (none)) (none)
def s6_12 (cp : CP) (n : Nat) (p0 : (List Int)) (p1 : Int) (p2 p3 : (List Int)) (v70 : Int) (v100 : (List Int)) (v101 : SRecv) (kn : Option R) (kr : Option R) : Option R :=
  cond (decide ((p0.length : Int) < (v100.length : Int))) (kr) (cond (decide (0 ≤ (v100.length : Int))) (cond (decide ((v100.length : Int) ≤ (p0.length : Int))) (G21 cp n v100 (p0.take (Int.toNat (v100.length : Int))) (fun r102 => cond (!r102) (kr) (cond (!decide ((wr .i64 ((v100.length : Int) + (v101.xUnread.length : Int))) = v101.xNext)) (kr) (kn)))) (none)) (none))
def s6_14 (cp : CP) (n : Nat) (p0 : (List Int)) (p1 : Int) (p2 p3 v69 : (List Int)) (v70 : Int) (v71 : SRecv) (kn : (List Int) → SRecv → Option R) (kr : Option R) : Option R :=
  s6_9 cp n p0 p1 p2 p3 v69 v70 v71 (fun v100 v101 => s6_12 cp n p0 p1 p2 p3 v70 v100 v101 (kn v100 v101) kr) kr
def s6_16 (cp : CP) (n : Nat) (p0 : (List Int)) (p1 : Int) (p2 p3 v69 : (List Int)) (v70 : Int) (v71 : SRecv) (kn : (List Int) → SRecv → Option R) (kr : Option R) : Option R :=
  s6_14 cp n p0 p1 p2 p3 v69 v70 v71 (fun v103 v104 => (kn v103 v104)) kr
def s6_17 (cp : CP) (n : Nat) (p0 : (List Int)) (p1 : Int) (p2 p3 : (List Int)) (v70 : Int) (v105 : (List Int)) (v106 : SRecv) (kn : Int → Option R) : Option R :=
  kn (wr .i64 (v70 + 1))
def s6_20 (cp : CP) (n : Nat) (p0 : (List Int)) (p1 : Int) (p2 p3 v69 : (List Int)) (v70 : Int) (v71 : SRecv) (kn : (List Int) → Int → SRecv → Option R) (kr : Option R) : Option R :=
  s6_16 cp n p0 p1 p2 p3 v69 v70 v71 (fun v105 v106 => s6_17 cp n p0 p1 p2 p3 v70 v105 v106 (fun v107 => (kn v105 v107 v106))) kr
def s6_22 (cp : CP) (n : Nat) (p0 : (List Int)) (p1 : Int) (p2 p3 v69 : (List Int)) (v70 : Int) (v71 : SRecv) (kn : (List Int) → Int → SRecv → Option R) (kr : Option R) (ke0 : Option R) : Option R :=
  s6_6 cp n p0 p1 p2 p3 v69 v70 v71 (s6_20 cp n p0 p1 p2 p3 v69 v70 v71 (fun v108 v109 v110 => (kn v108 v109 v110)) kr) ke0
def l6_24 (cp : CP) (n : Nat) : Nat → (List Int) → Int → (List Int) → (List Int) → (List Int) → Int → SRecv → (Option R) → ((List Int) → SRecv → Option R) → Option R
  | 0, _, _, _, _, _, _, _, _, _ => none
  | m + 1, p0, p1, p2, p3, v69, v70, v71, kr, ke0 =>
    s6_22 cp n p0 p1 p2 p3 v69 v70 v71 (fun v111 v112 v113 => l6_24 cp n m p0 p1 p2 p3 v111 v112 v113 kr ke0) kr (ke0 v69 v71)
def s6_25 (cp : CP) (n : Nat) (p0 : (List Int)) (p1 : Int) (p2 p3 : (List Int)) (v67 : SRecv) (kr : Option R) (ke0 : (List Int) → SRecv → Option R) : Option R :=
  l6_24 cp n n p0 p1 p2 p3 [] 0 v67 kr ke0
def s6_27 (cp : CP) (n : Nat) (p0 : (List Int)) (p1 : Int) (p2 p3 : (List Int)) (v67 : SRecv) (kn : (List Int) → SRecv → Option R) (kr : Option R) : Option R :=
  s6_25 cp n p0 p1 p2 p3 v67 kr (fun v114 v115 => (kn v114 v115))
def s6_29 (cp : CP) (n : Nat) (p0 : (List Int)) (p1 : Int) (p2 p3 : (List Int)) (v67 : SRecv) (kn : (List Int) → SRecv → Option R) (kr : Option R) : Option R :=
  s6_4 cp n p0 p1 p2 p3 v67 (s6_27 cp n p0 p1 p2 p3 v67 (fun v116 v117 => (kn v116 v117)) kr)
def s6_30 (cp : CP) (n : Nat) (p0 : (List Int)) (p1 : Int) (v118 : (List Int)) (v119 : SRecv) (kn : Int → (List Int) → Int → SRecv → Option R) : Option R :=
  G19 cp n p1 p0 0 (p0.length : Int) true (fun r125 => G12 cp n v119 r125 (fun r126 r127 r128 r129 => G20 cp n r126 (p0.length : Int) (fun r130 r131 r132 r133 r134 => kn r129 r131 r134 r130)))
def s6_32 (cp : CP) (n : Nat) (p0 v118 : (List Int)) (v135 : Int) (v136 : (List Int)) (v137 : Int) (v138 : SRecv) (kr : Bool → Option R) : Option R :=
  cond (decide (v135 = 0)) (cond (decide (v137 = 0)) (cond (v138.xDone) (cond (cp (v118.length + v136.length) 1) (G21 cp n (v118 ++ v136) p0 (fun r139 => cond (r139) (G11 cp n (fun r140 => kr r140)) (kr false))) (none)) (kr false)) (kr false)) (kr false)
def s6_35 (cp : CP) (n : Nat) (p0 : (List Int)) (p1 : Int) (v118 : (List Int)) (v119 : SRecv) (kr : Bool → Option R) : Option R :=
  s6_30 cp n p0 p1 v118 v119 (fun v135 v136 v137 v138 => s6_32 cp n p0 v118 v135 v136 v137 v138 (fun v141 => (kr v141)))
def s6_37 (cp : CP) (n : Nat) (p0 : (List Int)) (p1 : Int) (p2 p3 : (List Int)) (v67 : SRecv) (kr : Bool → Option R) : Option R :=
  s6_29 cp n p0 p1 p2 p3 v67 (fun v118 v119 => s6_35 cp n p0 p1 v118 v119 (fun v142 => (kr v142))) (kr false)
def s6_39 (cp : CP) (n : Nat) (p0 : (List Int)) (p1 : Int) (p2 p3 : (List Int)) (kr : Bool → Option R) : Option R :=
  s6_1 cp n p0 p1 p2 p3 (fun v67 => s6_37 cp n p0 p1 p2 p3 v67 (fun v143 => (kr v143))) (fun v68 => (kr v68))
def G6 (cp : CP) : Nat → (List Int) → Int → (List Int) → (List Int) → (Bool → Option R) → Option R
  | 0, _, _, _, _, _ => none
  | n + 1, p0, p1, p2, p3, k =>
    s6_39 cp n p0 p1 p2 p3 (fun v144 => k v144)
def ca49 (cp : CP) (n : Nat) (av : Fr) (cs : List Fr) (k : Ret2 RW → Option R) : Option R := match av, cs with
  | [y0], [] => (dA y0).bind fun c0_ => (dRecv c0_).bind fun p0 => G49 cp n p0 (fun r0 => k ⟨(tL r0), [], []⟩)
  | _, _ => none
def ca17 (cp : CP) (n : Nat) (av : Fr) (cs : List Fr) (k : Ret2 RW → Option R) : Option R := match av, cs with
  | [y0, y1, y2, y3, y4, y5], [] => (dI .i64 y0).bind fun p0 => (dI .i64 y1).bind fun p1 => (dI .u32 y2).bind fun p2 => (dI .u32 y3).bind fun p3 => (dB y4).bind fun p4 => (dB y5).bind fun p5 => G17 cp n p0 p1 p2 p3 p4 p5 (fun r0 r1 => k ⟨.tup [.agg (eRecv r0), (tL r1)], [], []⟩)
  | _, _ => none
def ca27 (cp : CP) (n : Nat) (av : Fr) (cs : List Fr) (k : Ret2 RW → Option R) : Option R := match av, cs with
  | [y0], [] => (dA y0).bind fun c0_ => (dRecv c0_).bind fun p0 => G27 cp n p0 (fun r0 => k ⟨(tL r0), [], []⟩)
  | _, _ => none
def ca53 (cp : CP) (n : Nat) (av : Fr) (cs : List Fr) (k : Ret2 RW → Option R) : Option R := match av, cs with
  | [y0], [] => (dA y0).bind fun c0_ => (dRecv c0_).bind fun p0 => G53 cp n p0 (fun r0 => k ⟨(tL r0), [], []⟩)
  | _, _ => none
def ca55 (cp : CP) (n : Nat) (av : Fr) (cs : List Fr) (k : Ret2 RW → Option R) : Option R := match av, cs with
  | [y0], [] => (dA y0).bind fun c0_ => (dRecv c0_).bind fun p0 => G55 cp n p0 (fun r0 => k ⟨.clo 70 [(4, 0)], [], [(eRecv r0)]⟩)
  | _, _ => none
def ca71 (cp : CP) (n : Nat) (av : Fr) (cs : List Fr) (k : Ret2 RW → Option R) : Option R := match av, cs with
  | [y0], [] => (dA y0).bind fun c0_ => (dPiece c0_).bind fun p0 => G71 cp n p0 (fun r0 => k ⟨.agg (eSpan r0), [], []⟩)
  | _, _ => none
def ca1011 (cp : CP) (n : Nat) (av : Fr) (cs : List Fr) (k : Ret2 RW → Option R) : Option R := match av, cs with
  | [y0, y1], [w0] => (dRSpan true y0).bind fun p0 => (dC 70 [(32, 0)] y1).bind fun _ => (dRecv w0).bind fun q0 => G1011 cp n p0 q0 (fun r0 r1 => k ⟨.row false (.rSpan r0), [(eRecv r1)], []⟩)
  | _, _ => none
def ca1010 (cp : CP) (n : Nat) (av : Fr) (cs : List Fr) (k : Ret2 RW → Option R) : Option R := match av, cs with
  | [y0], [w0] => (dC 70 [(5, 0)] y0).bind fun _ => (dRecv w0).bind fun q0 => G1010 cp n q0 (fun r0 r1 => k ⟨.row false (.rSpan r0), [(eRecv r1)], []⟩)
  | _, _ => none
def ca72 (cp : CP) (n : Nat) (av : Fr) (cs : List Fr) (k : Ret2 RW → Option R) : Option R := match av, cs with
  | [y0, y1], [] => (dRSpan false y0).bind fun p0 => (dA y1).bind fun c1_ => (dSpan c1_).bind fun p1 => G72 cp n p0 p1 (fun r0 => k ⟨(tL r0), [], []⟩)
  | _, _ => none
def ca56 (cp : CP) (n : Nat) (av : Fr) (cs : List Fr) (k : Ret2 RW → Option R) : Option R := match av, cs with
  | [y0, y1], [] => (dRSpan false y0).bind fun p0 => (dA y1).bind fun c1_ => (dSpan c1_).bind fun p1 => G56 cp n p0 p1 (fun r0 => k ⟨(tB r0), [], []⟩)
  | _, _ => none
def ca28 (cp : CP) (n : Nat) (av : Fr) (cs : List Fr) (k : Ret2 RW → Option R) : Option R := match av, cs with
  | [y0], [] => (dA y0).bind fun c0_ => (dRecv c0_).bind fun p0 => G28 cp n p0 (fun r0 => k ⟨(tB r0), [], []⟩)
  | _, _ => none
def ca10 (cp : CP) (n : Nat) (av : Fr) (cs : List Fr) (k : Ret2 RW → Option R) : Option R := match av, cs with
  | [y0], [] => (dA y0).bind fun c0_ => (dRecv c0_).bind fun p0 => G10 cp n p0 (fun r0 => k ⟨(tL r0), [], []⟩)
  | _, _ => none
def ca57 (cp : CP) (n : Nat) (av : Fr) (cs : List Fr) (k : Ret2 RW → Option R) : Option R := match av, cs with
  | [y0], [] => (dRSpan false y0).bind fun p0 => G57 cp n p0 (fun r0 => k ⟨.row true (.rSpan r0), [], []⟩)
  | _, _ => none
def ca52 (cp : CP) (n : Nat) (av : Fr) (cs : List Fr) (k : Ret2 RW → Option R) : Option R := match av, cs with
  | [y0], [] => (dRuint8 false y0).bind fun p0 => G52 cp n p0 (fun r0 => k ⟨.row true (.ruint8 r0), [], []⟩)
  | _, _ => none
def ca29 (cp : CP) (n : Nat) (av : Fr) (cs : List Fr) (k : Ret2 RW → Option R) : Option R := match av, cs with
  | [y0], [] => (dA y0).bind fun c0_ => (dRecv c0_).bind fun p0 => G29 cp n p0 (fun r0 => k ⟨.agg (eRecvt r0), [], []⟩)
  | _, _ => none
def ca31 (cp : CP) (n : Nat) (av : Fr) (cs : List Fr) (k : Ret2 RW → Option R) : Option R := match av, cs with
  | [y0, y1], [] => (dI .u32 y0).bind fun p0 => (dI .u32 y1).bind fun p1 => G31 cp n p0 p1 (fun r0 => k ⟨(tL r0), [], []⟩)
  | _, _ => none
def ca58 (cp : CP) (n : Nat) (av : Fr) (cs : List Fr) (k : Ret2 RW → Option R) : Option R := match av, cs with
  | [y0, y1], [] => (dI .i64 y0).bind fun p0 => (dI .i64 y1).bind fun p1 => G58 cp n p0 p1 (fun r0 => k ⟨(tL r0), [], []⟩)
  | _, _ => none
def ca30 (cp : CP) (n : Nat) (av : Fr) (cs : List Fr) (k : Ret2 RW → Option R) : Option R := match av, cs with
  | [y0, y1], [] => (dI .i64 y0).bind fun p0 => (dI .u32 y1).bind fun p1 => G30 cp n p0 p1 (fun r0 => k ⟨(tL r0), [], []⟩)
  | _, _ => none
def ca36 (cp : CP) (n : Nat) (av : Fr) (cs : List Fr) (k : Ret2 RW → Option R) : Option R := match av, cs with
  | [y0, y1], [] => (dI .u32 y0).bind fun p0 => (dI .i64 y1).bind fun p1 => G36 cp n p0 p1 (fun r0 => k ⟨(tI .u32 r0), [], []⟩)
  | _, _ => none
def ca32 (cp : CP) (n : Nat) (av : Fr) (cs : List Fr) (k : Ret2 RW → Option R) : Option R := match av, cs with
  | [y0, y1], [] => (dA y0).bind fun c0_ => (dRecv c0_).bind fun p0 => (dRBlock true y1).bind fun p1 => G32 cp n p0 p1 (fun r0 r1 => k ⟨.tup [.agg (eRecv r0), .agg [(tL r1.xSrcPort), (tL r1.xDstPort), (tI .u32 r1.xSeq), (tI .u32 r1.xAck), (tL r1.xFlags), (tL r1.xWin), (tL r1.xUrg), (tL r1.xMss), (tL r1.xScale), (tB r1.xSackOk), (tB r1.xStamped), (tI .u32 r1.xVal), (tI .u32 r1.xEcr), .row true (.rBlock r1.xSacks), .row false (.ruint8 r1.xData)]], [], []⟩)
  | _, _ => none
def ca33 (cp : CP) (n : Nat) (av : Fr) (cs : List Fr) (k : Ret2 RW → Option R) : Option R := match av, cs with
  | [y0, y1], [] => (dA y0).bind fun c0_ => (dRecv c0_).bind fun p0 => (dI .i64 y1).bind fun p1 => G33 cp n p0 p1 (fun r0 => k ⟨(tL r0), [], []⟩)
  | _, _ => none
def ca82 (cp : CP) (n : Nat) (av : Fr) (cs : List Fr) (k : Ret2 RW → Option R) : Option R := match av, cs with
  | [y0], [] => (dA y0).bind fun c0_ => (dSpan c0_).bind fun p0 => G82 cp n p0 (fun r0 => k ⟨(tB r0), [], []⟩)
  | _, _ => none
def ca78 (cp : CP) (n : Nat) (av : Fr) (cs : List Fr) (k : Ret2 RW → Option R) : Option R := match av, cs with
  | [y0], [] => (dRSpan false y0).bind fun p0 => G78 cp n p0 (fun r0 => k ⟨(tL r0), [], []⟩)
  | _, _ => none
def ca79 (cp : CP) (n : Nat) (av : Fr) (cs : List Fr) (k : Ret2 RW → Option R) : Option R := match av, cs with
  | [y0, y1], [] => (dRSpan false y0).bind fun p0 => (dA y1).bind fun c1_ => (dSpan c1_).bind fun p1 => G79 cp n p0 p1 (fun r0 r1 => k ⟨.clo 83 [(6, 0), (8, 0)], [], [[.row false (.rSpan r0)], (eSpan r1)]⟩)
  | _, _ => none
def ca61 (cp : CP) (n : Nat) (av : Fr) (cs : List Fr) (k : Ret2 RW → Option R) : Option R := match av, cs with
  | [y0, y1], [] => (dRSpan false y0).bind fun p0 => (dA y1).bind fun c1_ => (dSpan c1_).bind fun p1 => G61 cp n p0 p1 (fun r0 => k ⟨.row false (.rSpan r0), [], []⟩)
  | _, _ => none
def ca74 (cp : CP) (n : Nat) (av : Fr) (cs : List Fr) (k : Ret2 RW → Option R) : Option R := match av, cs with
  | [y0, y1], [] => (dA y0).bind fun c0_ => (dPiece c0_).bind fun p0 => (dI .i64 y1).bind fun p1 => G74 cp n p0 p1 (fun r0 => k ⟨(tL r0), [], []⟩)
  | _, _ => none
def ca1031 (cp : CP) (n : Nat) (av : Fr) (cs : List Fr) (k : Ret2 RW → Option R) : Option R := match av, cs with
  | [y0, y1, y2], [] => (dRPiece false y0).bind fun p0 => (dI .i64 y1).bind fun p1 => (dC 74 [] y2).bind fun _ => G1031 cp n p0 p1 (fun r0 r1 => k ⟨.tup [(tL r0), (tB r1)], [], []⟩)
  | _, _ => none
def ca1033 (cp : CP) (n : Nat) (av : Fr) (cs : List Fr) (k : Ret2 RW → Option R) : Option R := match av, cs with
  | [y0], [] => (dRPiece false y0).bind fun p0 => G1033 cp n p0 (fun r0 => k ⟨.un none (.rPiece r0), [], []⟩)
  | _, _ => none
def ca75 (cp : CP) (n : Nat) (av : Fr) (cs : List Fr) (k : Ret2 RW → Option R) : Option R := match av, cs with
  | [y0, y1, y2], [] => (dUPiece y0).bind fun p0 => (dI .i64 y1).bind fun p1 => (dXPiece y2).bind fun p2 => G75 cp n p0 p1 p2 (fun r0 => k ⟨.un none (.rPiece r0), [], []⟩)
  | _, _ => none
def ca77 (cp : CP) (n : Nat) (av : Fr) (cs : List Fr) (k : Ret2 RW → Option R) : Option R := match av, cs with
  | [y0], [] => (dRuint8 false y0).bind fun p0 => G77 cp n p0 (fun r0 => k ⟨.row true (.ruint8 r0), [], []⟩)
  | _, _ => none
def ca60 (cp : CP) (n : Nat) (av : Fr) (cs : List Fr) (k : Ret2 RW → Option R) : Option R := match av, cs with
  | [y0, y1], [] => (dRPiece false y0).bind fun p0 => (dA y1).bind fun c1_ => (dPiece c1_).bind fun p1 => G60 cp n p0 p1 (fun r0 => k ⟨.row true (.rPiece r0), [], []⟩)
  | _, _ => none
def ca1029 (cp : CP) (n : Nat) (av : Fr) (cs : List Fr) (k : Ret2 RW → Option R) : Option R := match av, cs with
  | [y0, y1, y2, y3, y4], [w0, w1, w2, w3] => (dA y0).bind fun c0_ => (dSpan c0_).bind fun p0 => (dP 43 0 y1).bind fun _ => (dP 23 0 y2).bind fun _ => (dP 41 0 y3).bind fun _ => (dP 39 0 y4).bind fun _ => (dRecvt w0).bind fun q0 => (dOne w1).bind fun u1 => (dI .i64 u1).bind fun q1 => (dOne w2).bind fun u2 => (dRuint8 false u2).bind fun q2 => (dOne w3).bind fun u3 => (dB u3).bind fun q3 => G1029 cp n p0 q0 q1 q2 q3 (fun r0 r1 r2 r3 => k ⟨.tup [], [(eRecvt r0), [(tL r1)], [.row false (.ruint8 r2)], [(tB r3)]], []⟩)
  | _, _ => none
def ca34 (cp : CP) (n : Nat) (av : Fr) (cs : List Fr) (k : Ret2 RW → Option R) : Option R := match av, cs with
  | [y0, y1, y2], [] => (dA y0).bind fun c0_ => (dRecvt c0_).bind fun p0 => (dI .i64 y1).bind fun p1 => (dRuint8 false y2).bind fun p2 => G34 cp n p0 p1 p2 (fun r0 r1 => k ⟨.tup [.agg [(tL r0.xNext), .row true (.ruint8 r0.xUnread), .row false (.rPiece r0.xLate), (tL r0.xCap), (tL r0.xShift), (tL r0.xEdge), (tI .u32 r0.xRecent), (tB r0.xStamps), (tB r0.xSacks), (tL r0.xFin), (tB r0.xDone), .row true (.rSpan r0.xFirst), (tI .u32 r0.xIrs), (tI .u32 r0.xOwn), (tB r0.xStamp)], (tB r1)], [], []⟩)
  | _, _ => none
def ca1038 (cp : CP) (n : Nat) (av : Fr) (cs : List Fr) (k : Ret2 RW → Option R) : Option R := match av, cs with
  | [y0, y1], [w0] => (dA y0).bind fun c0_ => (dSpan c0_).bind fun p0 => (dP 16 0 y1).bind fun _ => (dSpan w0).bind fun q0 => G1038 cp n p0 q0 (fun r0 r1 => k ⟨(tB r0), [(eSpan r1)], []⟩)
  | _, _ => none
def ca1037 (cp : CP) (n : Nat) (av : Fr) (cs : List Fr) (k : Ret2 RW → Option R) : Option R := match av, cs with
  | [y0, y1], [w0] => (dRSpan false y0).bind fun p0 => (dC 63 [(19, 0)] y1).bind fun _ => (dSpan w0).bind fun q0 => G1037 cp n p0 q0 (fun r0 r1 => k ⟨(tL r0), [(eSpan r1)], []⟩)
  | _, _ => none
def ca35 (cp : CP) (n : Nat) (av : Fr) (cs : List Fr) (k : Ret2 RW → Option R) : Option R := match av, cs with
  | [y0, y1, y2], [] => (dA y0).bind fun c0_ => (dRecv c0_).bind fun p0 => (dI .i64 y1).bind fun p1 => (dRuint8 false y2).bind fun p2 => G35 cp n p0 p1 p2 (fun r0 => k ⟨.row true (.rSpan r0), [], []⟩)
  | _, _ => none
def ca12 (cp : CP) (n : Nat) (av : Fr) (cs : List Fr) (k : Ret2 RW → Option R) : Option R := match av, cs with
  | [y0, y1], [] => (dA y0).bind fun c0_ => (dRecv c0_).bind fun p0 => (dA y1).bind fun c1_ => (dSegment c1_).bind fun p1 => G12 cp n p0 p1 (fun r0 r1 r2 r3 => k ⟨.tup [.agg (eRecv r0), .agg (eSegment r1), (tB r2), (tL r3)], [], []⟩)
  | _, _ => none
def ca51 (cp : CP) (n : Nat) (av : Fr) (cs : List Fr) (k : Ret2 RW → Option R) : Option R := match av, cs with
  | [y0, y1, y2], [] => (dI .i64 y0).bind fun p0 => (dI .i64 y1).bind fun p1 => (dI .i64 y2).bind fun p2 => G51 cp n p0 p1 p2 (fun r0 => k ⟨(tL r0), [], []⟩)
  | _, _ => none
def ca20 (cp : CP) (n : Nat) (av : Fr) (cs : List Fr) (k : Ret2 RW → Option R) : Option R := match av, cs with
  | [y0, y1], [] => (dA y0).bind fun c0_ => (dRecv c0_).bind fun p0 => (dI .i64 y1).bind fun p1 => G20 cp n p0 p1 (fun r0 r1 r2 r3 r4 => k ⟨.tup [.agg (eRecv r0), .row false (.ruint8 r1), .agg (eSegment r2), (tB r3), (tL r4)], [], []⟩)
  | _, _ => none
def ca22 (cp : CP) (n : Nat) (av : Fr) (cs : List Fr) (k : Ret2 RW → Option R) : Option R := match av, cs with
  | [y0], [] => (dA y0).bind fun c0_ => (dRecv c0_).bind fun p0 => G22 cp n p0 (fun r0 => k ⟨(tL r0), [], []⟩)
  | _, _ => none
def ca11 (cp : CP) (n : Nat) (av : Fr) (cs : List Fr) (k : Ret2 RW → Option R) : Option R := match av, cs with
  | [], [] => G11 cp n (fun r0 => k ⟨(tB r0), [], []⟩)
  | _, _ => none
def ca19 (cp : CP) (n : Nat) (av : Fr) (cs : List Fr) (k : Ret2 RW → Option R) : Option R := match av, cs with
  | [y0, y1, y2, y3, y4], [] => (dI .u32 y0).bind fun p0 => (dRuint8 false y1).bind fun p1 => (dI .i64 y2).bind fun p2 => (dI .i64 y3).bind fun p3 => (dB y4).bind fun p4 => G19 cp n p0 p1 p2 p3 p4 (fun r0 => k ⟨.agg (eSegment r0), [], []⟩)
  | _, _ => none
def ca21 (cp : CP) (n : Nat) (av : Fr) (cs : List Fr) (k : Ret2 RW → Option R) : Option R := match av, cs with
  | [y0, y1], [] => (dRuint8 false y0).bind fun p0 => (dRuint8 false y1).bind fun p1 => G21 cp n p0 p1 (fun r0 => k ⟨(tB r0), [], []⟩)
  | _, _ => none
def ca6 (cp : CP) (n : Nat) (av : Fr) (cs : List Fr) (k : Ret2 RW → Option R) : Option R := match av, cs with
  | [y0, y1, y2, y3], [] => (dRuint8 false y0).bind fun p0 => (dI .u32 y1).bind fun p1 => (dRint false y2).bind fun p2 => (dRint false y3).bind fun p3 => G6 cp n p0 p1 p2 p3 (fun r0 => k ⟨(tB r0), [], []⟩)
  | _, _ => none
def callP (cp : CP) (n : Nat) (id : Nat) (av : Fr) (cs : List Fr) (k : Ret2 RW → Option R) : Option R := match id with
  | 49 => ca49 cp n av cs k
  | 17 => ca17 cp n av cs k
  | 27 => ca27 cp n av cs k
  | 53 => ca53 cp n av cs k
  | 55 => ca55 cp n av cs k
  | 71 => ca71 cp n av cs k
  | 1011 => ca1011 cp n av cs k
  | 1010 => ca1010 cp n av cs k
  | 72 => ca72 cp n av cs k
  | 56 => ca56 cp n av cs k
  | 28 => ca28 cp n av cs k
  | 10 => ca10 cp n av cs k
  | 57 => ca57 cp n av cs k
  | 52 => ca52 cp n av cs k
  | 29 => ca29 cp n av cs k
  | 31 => ca31 cp n av cs k
  | 58 => ca58 cp n av cs k
  | 30 => ca30 cp n av cs k
  | 36 => ca36 cp n av cs k
  | 32 => ca32 cp n av cs k
  | 33 => ca33 cp n av cs k
  | 82 => ca82 cp n av cs k
  | 78 => ca78 cp n av cs k
  | 79 => ca79 cp n av cs k
  | 61 => ca61 cp n av cs k
  | 74 => ca74 cp n av cs k
  | 1031 => ca1031 cp n av cs k
  | 1033 => ca1033 cp n av cs k
  | 75 => ca75 cp n av cs k
  | 77 => ca77 cp n av cs k
  | 60 => ca60 cp n av cs k
  | 1029 => ca1029 cp n av cs k
  | 34 => ca34 cp n av cs k
  | 1038 => ca1038 cp n av cs k
  | 1037 => ca1037 cp n av cs k
  | 35 => ca35 cp n av cs k
  | 12 => ca12 cp n av cs k
  | 51 => ca51 cp n av cs k
  | 20 => ca20 cp n av cs k
  | 22 => ca22 cp n av cs k
  | 11 => ca11 cp n av cs k
  | 19 => ca19 cp n av cs k
  | 21 => ca21 cp n av cs k
  | 6 => ca6 cp n av cs k
  | _ => none
end
end Go.Proofs.Ytilmdmjhdidoiaa.M
