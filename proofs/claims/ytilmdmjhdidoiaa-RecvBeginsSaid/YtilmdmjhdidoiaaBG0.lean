/- The values of the program's functions, and the functions, plain. -/
import Derived.Test.YtilmdmjhdidoiaaMachX
set_option maxRecDepth 100000
set_option linter.unusedVariables false
namespace Go.Proofs.Ytilmdmjhdidoiaa.M
open Go
noncomputable section
def str_ : ByteArray := ⟨#[]⟩
def str_abcd : ByteArray := ⟨#[97, 98, 99, 100]⟩
def str_abc : ByteArray := ⟨#[97, 98, 99]⟩
def str_d : ByteArray := ⟨#[100]⟩
def zuint8 : Int := 0
structure SPiece where
  xFrom : Int
  xData : (List Int)
def zPiece : SPiece := ⟨0, []⟩
structure SSpan where
  xFrom : Int
  xTo : Int
def zSpan : SSpan := ⟨0, 0⟩
structure SRecv where
  xNext : Int
  xUnread : (List Int)
  xLate : (List SPiece)
  xCap : Int
  xShift : Int
  xEdge : Int
  xRecent : Int
  xStamps : Bool
  xSacks : Bool
  xFin : Int
  xDone : Bool
  xFirst : (List SSpan)
  xIrs : Int
  xOwn : Int
  xStamp : Bool
def zRecv : SRecv := ⟨0, [], [], 0, 0, 0, 0, false, false, 0, false, [], 0, 0, false⟩
structure SBlock where
  xFrom : Int
  xTo : Int
def zBlock : SBlock := ⟨0, 0⟩
structure SSegment where
  xSrcPort : Int
  xDstPort : Int
  xSeq : Int
  xAck : Int
  xFlags : Int
  xWin : Int
  xUrg : Int
  xMss : Int
  xScale : Int
  xSackOk : Bool
  xStamped : Bool
  xVal : Int
  xEcr : Int
  xSacks : (List SBlock)
  xData : (List Int)
def zSegment : SSegment := ⟨0, 0, 0, 0, 0, 0, 0, 0, 0, false, false, 0, 0, [], []⟩
inductive RW where
  | ruint8 (xs : List Int)
  | rPiece (xs : List SPiece)
  | rSpan (xs : List SSpan)
  | rBlock (xs : List SBlock)

abbrev Fr := List (TV RW)
abbrev FF := FT RW
def tI (k : IntKind) (n : Int) : TV RW := .sc (.int k n)
def tL (n : Int) : TV RW := .sc (.int .i64 n)
def tB (b : Bool) : TV RW := .sc (.bool b)
def dT : Nat → Fr → Fr
  | 0, l => l
  | n + 1, l => .dead :: dT n l
def dc : Fr := dT 16 []
def eRecv (x : SRecv) : List (TV RW) := [(tL x.xNext), .row false (.ruint8 x.xUnread), .row false (.rPiece x.xLate), (tL x.xCap), (tL x.xShift), (tL x.xEdge), (tI .u32 x.xRecent), (tB x.xStamps), (tB x.xSacks), (tL x.xFin), (tB x.xDone), .row false (.rSpan x.xFirst), (tI .u32 x.xIrs), (tI .u32 x.xOwn), (tB x.xStamp)]
def eRecvt (x : SRecv) : List (TV RW) := [(tL x.xNext), .row true (.ruint8 x.xUnread), .row true (.rPiece x.xLate), (tL x.xCap), (tL x.xShift), (tL x.xEdge), (tI .u32 x.xRecent), (tB x.xStamps), (tB x.xSacks), (tL x.xFin), (tB x.xDone), .row true (.rSpan x.xFirst), (tI .u32 x.xIrs), (tI .u32 x.xOwn), (tB x.xStamp)]
def ePiece (x : SPiece) : List (TV RW) := [(tL x.xFrom), .row false (.ruint8 x.xData)]
def ePiecet (x : SPiece) : List (TV RW) := [(tL x.xFrom), .row true (.ruint8 x.xData)]
def eSpan (x : SSpan) : List (TV RW) := [(tL x.xFrom), (tL x.xTo)]
def eBlock (x : SBlock) : List (TV RW) := [(tI .u32 x.xFrom), (tI .u32 x.xTo)]
def eSegment (x : SSegment) : List (TV RW) := [(tL x.xSrcPort), (tL x.xDstPort), (tI .u32 x.xSeq), (tI .u32 x.xAck), (tL x.xFlags), (tL x.xWin), (tL x.xUrg), (tL x.xMss), (tL x.xScale), (tB x.xSackOk), (tB x.xStamped), (tI .u32 x.xVal), (tI .u32 x.xEcr), .row false (.rBlock x.xSacks), .row false (.ruint8 x.xData)]
def eSegmentt (x : SSegment) : List (TV RW) := [(tL x.xSrcPort), (tL x.xDstPort), (tI .u32 x.xSeq), (tI .u32 x.xAck), (tL x.xFlags), (tL x.xWin), (tL x.xUrg), (tL x.xMss), (tL x.xScale), (tB x.xSackOk), (tB x.xStamped), (tI .u32 x.xVal), (tI .u32 x.xEcr), .row true (.rBlock x.xSacks), .row true (.ruint8 x.xData)]
def euint8 (x : Int) : List (TV RW) := [(tI .u8 x)]
def cuint8 (x : Int) : List AV := [.sc (.int .u8 x)]
def cPiece (x : SPiece) : List AV := [.sc (.int .i64 x.xFrom), .row false 1 x.xData.length (rg cuint8 zuint8 x.xData)]
def cSpan (x : SSpan) : List AV := [.sc (.int .i64 x.xFrom), .sc (.int .i64 x.xTo)]
def cBlock (x : SBlock) : List AV := [.sc (.int .u32 x.xFrom), .sc (.int .u32 x.xTo)]
def dOne : Fr → Option (TV RW)
  | [x] => some x
  | _ => none
def dI (kd : IntKind) : TV RW → Option Int
  | .sc (.int k a) => cond (decide (k = kd)) (some a) none
  | _ => none
def dB : TV RW → Option Bool
  | .sc (.bool b) => some b
  | _ => none
def dS : TV RW → Option ByteArray
  | .sc (.string b) => some b
  | _ => none
def dA : TV RW → Option Fr
  | .agg cs => some cs
  | _ => none
def dP (h j : Nat) : TV RW → Option Unit
  | .ptr a b => cond (Nat.beq a h && Nat.beq b j) (some ()) none
  | _ => none
def dC (f : Nat) (cs : List (Nat × Nat)) : TV RW → Option Unit
  | .clo a b => cond (Nat.beq a f && decide (b = cs)) (some ()) none
  | _ => none
def dUPiece : TV RW → Option (List SPiece)
  | .un none (.rPiece xs) => some xs
  | _ => none
def dXPiece : TV RW → Option SPiece
  | .row _ (.rPiece [x]) => some x
  | _ => none
def dRuint8 (fl : Bool) : TV RW → Option (List Int)
  | .row a (.ruint8 xs) => cond (a == fl) (some xs) none
  | _ => none
def dRPiece (fl : Bool) : TV RW → Option (List SPiece)
  | .row a (.rPiece xs) => cond (a == fl) (some xs) none
  | _ => none
def dRSpan (fl : Bool) : TV RW → Option (List SSpan)
  | .row a (.rSpan xs) => cond (a == fl) (some xs) none
  | _ => none
def dRBlock (fl : Bool) : TV RW → Option (List SBlock)
  | .row a (.rBlock xs) => cond (a == fl) (some xs) none
  | _ => none
def dRecv : Fr → Option SRecv
  | [y0, y1, y2, y3, y4, y5, y6, y7, y8, y9, y10, y11, y12, y13, y14] => (dI .i64 y0).bind fun a0 => (dRuint8 false y1).bind fun a1 => (dRPiece false y2).bind fun a2 => (dI .i64 y3).bind fun a3 => (dI .i64 y4).bind fun a4 => (dI .i64 y5).bind fun a5 => (dI .u32 y6).bind fun a6 => (dB y7).bind fun a7 => (dB y8).bind fun a8 => (dI .i64 y9).bind fun a9 => (dB y10).bind fun a10 => (dRSpan false y11).bind fun a11 => (dI .u32 y12).bind fun a12 => (dI .u32 y13).bind fun a13 => (dB y14).bind fun a14 => some ⟨a0, a1, a2, a3, a4, a5, a6, a7, a8, a9, a10, a11, a12, a13, a14⟩
  | _ => none
def dRecvt : Fr → Option SRecv
  | [y0, y1, y2, y3, y4, y5, y6, y7, y8, y9, y10, y11, y12, y13, y14] => (dI .i64 y0).bind fun a0 => (dRuint8 true y1).bind fun a1 => (dRPiece true y2).bind fun a2 => (dI .i64 y3).bind fun a3 => (dI .i64 y4).bind fun a4 => (dI .i64 y5).bind fun a5 => (dI .u32 y6).bind fun a6 => (dB y7).bind fun a7 => (dB y8).bind fun a8 => (dI .i64 y9).bind fun a9 => (dB y10).bind fun a10 => (dRSpan true y11).bind fun a11 => (dI .u32 y12).bind fun a12 => (dI .u32 y13).bind fun a13 => (dB y14).bind fun a14 => some ⟨a0, a1, a2, a3, a4, a5, a6, a7, a8, a9, a10, a11, a12, a13, a14⟩
  | _ => none
def dPiece : Fr → Option SPiece
  | [y0, y1] => (dI .i64 y0).bind fun a0 => (dRuint8 false y1).bind fun a1 => some ⟨a0, a1⟩
  | _ => none
def dPiecet : Fr → Option SPiece
  | [y0, y1] => (dI .i64 y0).bind fun a0 => (dRuint8 true y1).bind fun a1 => some ⟨a0, a1⟩
  | _ => none
def dSpan : Fr → Option SSpan
  | [y0, y1] => (dI .i64 y0).bind fun a0 => (dI .i64 y1).bind fun a1 => some ⟨a0, a1⟩
  | _ => none
def dBlock : Fr → Option SBlock
  | [y0, y1] => (dI .u32 y0).bind fun a0 => (dI .u32 y1).bind fun a1 => some ⟨a0, a1⟩
  | _ => none
def dSegment : Fr → Option SSegment
  | [y0, y1, y2, y3, y4, y5, y6, y7, y8, y9, y10, y11, y12, y13, y14] => (dI .i64 y0).bind fun a0 => (dI .i64 y1).bind fun a1 => (dI .u32 y2).bind fun a2 => (dI .u32 y3).bind fun a3 => (dI .i64 y4).bind fun a4 => (dI .i64 y5).bind fun a5 => (dI .i64 y6).bind fun a6 => (dI .i64 y7).bind fun a7 => (dI .i64 y8).bind fun a8 => (dB y9).bind fun a9 => (dB y10).bind fun a10 => (dI .u32 y11).bind fun a11 => (dI .u32 y12).bind fun a12 => (dRBlock false y13).bind fun a13 => (dRuint8 false y14).bind fun a14 => some ⟨a0, a1, a2, a3, a4, a5, a6, a7, a8, a9, a10, a11, a12, a13, a14⟩
  | _ => none
def dSegmentt : Fr → Option SSegment
  | [y0, y1, y2, y3, y4, y5, y6, y7, y8, y9, y10, y11, y12, y13, y14] => (dI .i64 y0).bind fun a0 => (dI .i64 y1).bind fun a1 => (dI .u32 y2).bind fun a2 => (dI .u32 y3).bind fun a3 => (dI .i64 y4).bind fun a4 => (dI .i64 y5).bind fun a5 => (dI .i64 y6).bind fun a6 => (dI .i64 y7).bind fun a7 => (dI .i64 y8).bind fun a8 => (dB y9).bind fun a9 => (dB y10).bind fun a10 => (dI .u32 y11).bind fun a11 => (dI .u32 y12).bind fun a12 => (dRBlock true y13).bind fun a13 => (dRuint8 true y14).bind fun a14 => some ⟨a0, a1, a2, a3, a4, a5, a6, a7, a8, a9, a10, a11, a12, a13, a14⟩
  | _ => none
def puint8_ : Fr → Option (List Int)
  | [] => some []
  | y0 :: r => (dI .u8 y0).bind fun a0 => (puint8_ r).bind fun xs => some (a0 :: xs)

def pPiece_ : Fr → Option (List SPiece)
  | [] => some []
  | y0 :: y1 :: r => (dI .i64 y0).bind fun a0 => (dRuint8 false y1).bind fun a1 => (pPiece_ r).bind fun xs => some (⟨a0, a1⟩ :: xs)
  | _ => none

def pSpan_ : Fr → Option (List SSpan)
  | [] => some []
  | y0 :: y1 :: r => (dI .i64 y0).bind fun a0 => (dI .i64 y1).bind fun a1 => (pSpan_ r).bind fun xs => some (⟨a0, a1⟩ :: xs)
  | _ => none

def pBlock_ : Fr → Option (List SBlock)
  | [] => some []
  | y0 :: y1 :: r => (dI .u32 y0).bind fun a0 => (dI .u32 y1).bind fun a1 => (pBlock_ r).bind fun xs => some (⟨a0, a1⟩ :: xs)
  | _ => none

def U : Uni RW where
  sz := fun r => match r with
    | .ruint8 xs => 1
    | .rPiece xs => 2
    | .rSpan xs => 2
    | .rBlock xs => 2
  len := fun r => match r with
    | .ruint8 xs => xs.length
    | .rPiece xs => xs.length
    | .rSpan xs => xs.length
    | .rBlock xs => xs.length
  getA := fun r => match r with
    | .ruint8 xs => rg cuint8 zuint8 xs
    | .rPiece xs => rg cPiece zPiece xs
    | .rSpan xs => rg cSpan zSpan xs
    | .rBlock xs => rg cBlock zBlock xs
  get := fun r i => match r with
    | .ruint8 xs => euint8 (xs.getD i zuint8)
    | .rPiece xs => ePiece (xs.getD i zPiece)
    | .rSpan xs => eSpan (xs.getD i zSpan)
    | .rBlock xs => eBlock (xs.getD i zBlock)
  app := fun r q => match r with
    | .ruint8 xs => (match q with
      | .ruint8 ys => some (.ruint8 (xs ++ ys))
      | _ => none)
    | .rPiece xs => (match q with
      | .rPiece ys => some (.rPiece (xs ++ ys))
      | _ => none)
    | .rSpan xs => (match q with
      | .rSpan ys => some (.rSpan (xs ++ ys))
      | _ => none)
    | .rBlock xs => (match q with
      | .rBlock ys => some (.rBlock (xs ++ ys))
      | _ => none)
  sub := fun lo n r => match r with
    | .ruint8 xs => .ruint8 (List.take n (xs.drop lo))
    | .rPiece xs => .rPiece (List.take n (xs.drop lo))
    | .rSpan xs => .rSpan (List.take n (xs.drop lo))
    | .rBlock xs => .rBlock (List.take n (xs.drop lo))
  szt := fun t => match t with
    | 5 => 1
    | 74 => 2
    | 78 => 2
    | 62 => 2
    | _ => 0
  zt := fun t => match t with
    | 5 => euint8 zuint8
    | 74 => ePiece zPiece
    | 78 => eSpan zSpan
    | 62 => eBlock zBlock
    | _ => []
  lit := fun t n L => match t with
    | 5 => (puint8_ L).bind fun xs => cond (Nat.beq xs.length n) (some (.ruint8 xs)) none
    | 74 => (pPiece_ L).bind fun xs => cond (Nat.beq xs.length n) (some (.rPiece xs)) none
    | 78 => (pSpan_ L).bind fun xs => cond (Nat.beq xs.length n) (some (.rSpan xs)) none
    | 62 => (pBlock_ L).bind fun xs => cond (Nat.beq xs.length n) (some (.rBlock xs)) none
    | _ => none
  set := fun r q off cs => match r with
    | .ruint8 xs => none
    | .rPiece xs => (dPiece (splice2 (ePiece (xs.getD q zPiece)) off cs)).bind fun x => some (.rPiece (xs.set q x))
    | .rSpan xs => (dSpan (splice2 (eSpan (xs.getD q zSpan)) off cs)).bind fun x => some (.rSpan (xs.set q x))
    | .rBlock xs => (dBlock (splice2 (eBlock (xs.getD q zBlock)) off cs)).bind fun x => some (.rBlock (xs.set q x))
  str := fun r => match r with
    | .ruint8 xs => some xs
    | .rPiece xs => none
    | .rSpan xs => none
    | .rBlock xs => none
/-! tideway/recv.window -/
def G_recv_window {R : Type} (cp : Nat → Nat → Bool) : Nat → SRecv → (Int → Option R) → Option R
  | 0, _, _ => none
  | n + 1, p0, k =>
    cond (decide (p0.xShift < 0)) (none) (cond (decide (p0.xShift < 0)) (none) (k (shl .i64 (mn (shr .i64 (wr .i64 (p0.xCap - (p0.xUnread.length : Int))) p0.xShift) 65535) p0.xShift)))
/-! tideway/recv.New -/
def G_recv_New {R : Type} (cp : Nat → Nat → Bool) : Nat → Int → Int → Int → Int → Bool → Bool → (SRecv → Int → Option R) → Option R
  | 0, _, _, _, _, _, _, _ => none
  | n + 1, p0, p1, p2, p3, p4, p5, k =>
    cond (decide (p0 < 1)) (k (SRecv.mk 0 [] [] 0 0 0 0 false false 0 false [] 0 0 false) 2) (cond (decide (1073741824 < p0)) (k (SRecv.mk 0 [] [] 0 0 0 0 false false 0 false [] 0 0 false) 2) (cond (decide (p1 < 0)) (k (SRecv.mk 0 [] [] 0 0 0 0 false false 0 false [] 0 0 false) 2) (cond (decide (14 < p1)) (k (SRecv.mk 0 [] [] 0 0 0 0 false false 0 false [] 0 0 false) 2) (G_recv_window cp n (SRecv.mk 0 [] [] p0 p1 0 0 p4 p5 (-1) false [] p2 p3 false) (fun r1 => k (SRecv.mk 0 [] [] p0 p1 r1 0 p4 p5 (-1) false [] p2 p3 false) 0)))))
/-! tideway/tidewayref08.window -/
def G_ref08_window {R : Type} (cp : Nat → Nat → Bool) : Nat → SRecv → (Int → Option R) → Option R
  | 0, _, _ => none
  | n + 1, p0, k =>
    cond (decide ((wr .u64 p0.xShift) < 0)) (none) (cond (decide ((shl .i64 1 (wr .u64 p0.xShift)) = 0)) (none) (k (wr .i64 ((mn (wr .i64 (Int.tdiv (wr .i64 (p0.xCap - (p0.xUnread.length : Int))) (shl .i64 1 (wr .u64 p0.xShift)))) 65535) * (shl .i64 1 (wr .u64 p0.xShift))))))
/-! tideway/tidewayref08.New -/
def G_ref08_New {R : Type} (cp : Nat → Nat → Bool) : Nat → Int → Int → Int → Int → Bool → Bool → (SRecv → Int → Option R) → Option R
  | 0, _, _, _, _, _, _, _ => none
  | n + 1, p0, p1, p2, p3, p4, p5, k =>
    cond (decide (p0 < 1)) (k (SRecv.mk 0 [] [] 0 0 0 0 false false 0 false [] 0 0 false) 2) (cond (decide (1073741824 < p0)) (k (SRecv.mk 0 [] [] 0 0 0 0 false false 0 false [] 0 0 false) 2) (cond (decide (p1 < 0)) (k (SRecv.mk 0 [] [] 0 0 0 0 false false 0 false [] 0 0 false) 2) (cond (decide (14 < p1)) (k (SRecv.mk 0 [] [] 0 0 0 0 false false 0 false [] 0 0 false) 2) (G_ref08_window cp n (SRecv.mk 0 [] [] p0 p1 0 0 p4 p5 (-1) false [] p2 p3 false) (fun r4 => k (SRecv.mk 0 [] [] p0 p1 r4 0 p4 p5 (-1) false [] p2 p3 false) 0)))))
/-! tideway/tidewayref02.Same -/
def G_ref02_Same {R : Type} (cp : Nat → Nat → Bool) : Nat → (List Int) → (List Int) → (Bool → Option R) → Option R
  | 0, _, _, _ => none
  | n + 1, p0, p1, k =>
    k ((strOfNums p0).data.toList == (strOfNums p1).data.toList)
/-! tideway/tidewayref08.Same -/
def s_ref08_Same_1 {R : Type} (cp : Nat → Nat → Bool) (n : Nat) (p0 p1 : SRecv) (kn : Option R) (kr : Option R) : Option R :=
  cond (!decide (p0.xNext = p1.xNext)) (kr) (cond (!decide (p0.xCap = p1.xCap)) (kr) (cond (!decide (p0.xShift = p1.xShift)) (kr) (cond (!decide (p0.xEdge = p1.xEdge)) (kr) (cond (!decide (p0.xRecent = p1.xRecent)) (kr) (cond (!(p0.xStamps == p1.xStamps)) (kr) (cond (!(p0.xSacks == p1.xSacks)) (kr) (cond (!decide (p0.xFin = p1.xFin)) (kr) (cond (!(p0.xDone == p1.xDone)) (kr) (cond (!decide (p0.xIrs = p1.xIrs)) (kr) (cond (!decide (p0.xOwn = p1.xOwn)) (kr) (cond (!(p0.xStamp == p1.xStamp)) (kr) (G_ref02_Same cp n p0.xUnread p1.xUnread (fun r7 => cond (!r7) (kr) (cond (!decide ((p0.xLate.length : Int) = (p1.xLate.length : Int))) (kr) (cond (!decide ((p0.xFirst.length : Int) = (p1.xFirst.length : Int))) (kr) (kn))))))))))))))))
def s_ref08_Same_4 {R : Type} (cp : Nat → Nat → Bool) (n : Nat) (p0 p1 : SRecv) (kn : Option R) : Option R :=
  kn
def s_ref08_Same_6 {R : Type} (cp : Nat → Nat → Bool) (n : Nat) (p0 p1 : SRecv) (v8 : Int) (kn : Int → Option R) (kr : Option R) (ke0 : Option R) : Option R :=
  cond (decide (v8 < (p0.xLate.length : Int))) (cond (decide (0 ≤ v8)) (cond (decide (v8 < (p0.xLate.length : Int))) (cond (decide (0 ≤ v8)) (cond (decide (v8 < (p1.xLate.length : Int))) (cond (!decide (((p0.xLate.getD (Int.toNat v8) zPiece).xFrom) = ((p1.xLate.getD (Int.toNat v8) zPiece).xFrom))) (kr) (cond (decide (0 ≤ v8)) (cond (decide (v8 < (p0.xLate.length : Int))) (cond (decide (0 ≤ v8)) (cond (decide (v8 < (p1.xLate.length : Int))) (G_ref02_Same cp n ((p0.xLate.getD (Int.toNat v8) zPiece).xData) ((p1.xLate.getD (Int.toNat v8) zPiece).xData) (fun r9 => cond (!r9) (kr) (kn (wr .i64 (v8 + 1))))) (none)) (none)) (none)) (none))) (none)) (none)) (none)) (none)) (ke0)
def l_ref08_Same_9 {R : Type} (cp : Nat → Nat → Bool) (n : Nat) : Nat → SRecv → SRecv → Int → (Option R) → (Option R) → Option R
  | 0, _, _, _, _, _ => none
  | m + 1, p0, p1, v8, kr, ke0 =>
    s_ref08_Same_6 cp n p0 p1 v8 (fun v10 => l_ref08_Same_9 cp n m p0 p1 v10 kr ke0) kr ke0
def s_ref08_Same_10 {R : Type} (cp : Nat → Nat → Bool) (n : Nat) (p0 p1 : SRecv) (kr : Option R) (ke0 : Option R) : Option R :=
  l_ref08_Same_9 cp n n p0 p1 0 kr ke0
def s_ref08_Same_11 {R : Type} (cp : Nat → Nat → Bool) (n : Nat) (p0 p1 : SRecv) (kn : Option R) (kr : Option R) : Option R :=
  s_ref08_Same_10 cp n p0 p1 kr kn
def s_ref08_Same_12 {R : Type} (cp : Nat → Nat → Bool) (n : Nat) (p0 p1 : SRecv) (kn : Option R) (kr : Option R) : Option R :=
  s_ref08_Same_4 cp n p0 p1 (s_ref08_Same_11 cp n p0 p1 kn kr)
def s_ref08_Same_13 {R : Type} (cp : Nat → Nat → Bool) (n : Nat) (p0 p1 : SRecv) (kn : Option R) : Option R :=
  kn
def s_ref08_Same_15 {R : Type} (cp : Nat → Nat → Bool) (n : Nat) (p0 p1 : SRecv) (v11 : Int) (kn : Int → Option R) (kr : Option R) (ke2 : Option R) : Option R :=
  cond (decide (v11 < (p0.xFirst.length : Int))) (cond (decide (0 ≤ v11)) (cond (decide (v11 < (p0.xFirst.length : Int))) (cond (decide (0 ≤ v11)) (cond (decide (v11 < (p1.xFirst.length : Int))) (cond (!(decide ((p0.xFirst.getD (Int.toNat v11) zSpan).xFrom = (p1.xFirst.getD (Int.toNat v11) zSpan).xFrom) && (decide ((p0.xFirst.getD (Int.toNat v11) zSpan).xTo = (p1.xFirst.getD (Int.toNat v11) zSpan).xTo) && true))) (kr) (kn (wr .i64 (v11 + 1)))) (none)) (none)) (none)) (none)) (ke2)
def l_ref08_Same_19 {R : Type} (cp : Nat → Nat → Bool) (n : Nat) : Nat → SRecv → SRecv → Int → (Option R) → (Option R) → Option R
  | 0, _, _, _, _, _ => none
  | m + 1, p0, p1, v11, kr, ke2 =>
    s_ref08_Same_15 cp n p0 p1 v11 (fun v12 => l_ref08_Same_19 cp n m p0 p1 v12 kr ke2) kr ke2
def s_ref08_Same_20 {R : Type} (cp : Nat → Nat → Bool) (n : Nat) (p0 p1 : SRecv) (kr : Option R) (ke2 : Option R) : Option R :=
  l_ref08_Same_19 cp n n p0 p1 0 kr ke2
def s_ref08_Same_21 {R : Type} (cp : Nat → Nat → Bool) (n : Nat) (p0 p1 : SRecv) (kn : Option R) (kr : Option R) : Option R :=
  s_ref08_Same_20 cp n p0 p1 kr kn
def s_ref08_Same_22 {R : Type} (cp : Nat → Nat → Bool) (n : Nat) (p0 p1 : SRecv) (kn : Option R) (kr : Option R) : Option R :=
  s_ref08_Same_13 cp n p0 p1 (s_ref08_Same_21 cp n p0 p1 kn kr)
def s_ref08_Same_23 {R : Type} (cp : Nat → Nat → Bool) (n : Nat) (kr : Option R) : Option R :=
  kr
def s_ref08_Same_26 {R : Type} (cp : Nat → Nat → Bool) (n : Nat) (p0 p1 : SRecv) (kr : Bool → Option R) : Option R :=
  s_ref08_Same_22 cp n p0 p1 (s_ref08_Same_23 cp n (kr true)) (kr false)
def s_ref08_Same_28 {R : Type} (cp : Nat → Nat → Bool) (n : Nat) (p0 p1 : SRecv) (kr : Bool → Option R) : Option R :=
  s_ref08_Same_12 cp n p0 p1 (s_ref08_Same_26 cp n p0 p1 (fun v13 => (kr v13))) (kr false)
def s_ref08_Same_30 {R : Type} (cp : Nat → Nat → Bool) (n : Nat) (p0 p1 : SRecv) (kr : Bool → Option R) : Option R :=
  s_ref08_Same_1 cp n p0 p1 (s_ref08_Same_28 cp n p0 p1 (fun v14 => (kr v14))) (kr false)
def G_ref08_Same {R : Type} (cp : Nat → Nat → Bool) : Nat → SRecv → SRecv → (Bool → Option R) → Option R
  | 0, _, _, _ => none
  | n + 1, p0, p1, k =>
    s_ref08_Same_30 cp n p0 p1 (fun v15 => k v15)
/-! tideway/recv.reach -/
def G_recv_reach {R : Type} (cp : Nat → Nat → Bool) : Nat → SRecv → (Int → Option R) → Option R
  | 0, _, _ => none
  | n + 1, p0, k =>
    k (wr .i64 ((wr .i64 (p0.xNext - (p0.xUnread.length : Int))) + p0.xCap))
/-! tideway/recv.limit -/
def G_recv_limit {R : Type} (cp : Nat → Nat → Bool) : Nat → SRecv → (Int → Option R) → Option R
  | 0, _, _ => none
  | n + 1, p0, k =>
    G_recv_reach cp n p0 (fun r21 => k (mn r21 562949953421312))
/-! tideway/recv.late -/
def G_recv_late {R : Type} (cp : Nat → Nat → Bool) : Nat → SRecv → (SRecv → Option R) → Option R
  | 0, _, _ => none
  | n + 1, p0, k =>
    k p0
/-! tideway/recv.of -/
def G_recv_of {R : Type} (cp : Nat → Nat → Bool) : Nat → SPiece → (SSpan → Option R) → Option R
  | 0, _, _ => none
  | n + 1, p0, k =>
    k (SSpan.mk p0.xFrom (wr .i64 (p0.xFrom + (p0.xData.length : Int))))
/-! slices.AppendSeq[[]tideway/api.Span,tideway/api.Span] -/
def s_slices_AppendSeq_Span_1 {R : Type} (cp : Nat → Nat → Bool) (n : Nat) (p0 : (List SSpan)) (q0 : SRecv) (kn : Option R) : Option R :=
  kn
def s_slices_AppendSeq_Span_3 {R : Type} (cp : Nat → Nat → Bool) (n : Nat) (p0 : (List SSpan)) (q0 : SRecv) (kn : Option R) : Option R :=
  kn
def s_slices_AppendSeq_Span_7 {R : Type} (cp : Nat → Nat → Bool) (n : Nat) (p0 : (List SSpan)) (q0 : SRecv) (kn : Int → Option R) : Option R :=
  kn (q0.xLate.length : Int)
def s_slices_AppendSeq_Span_9 {R : Type} (cp : Nat → Nat → Bool) (n : Nat) (q0 : SRecv) (v27 v28 : Int) (v29 : (List SSpan)) (kn : Option R) (ke0 : Option R) : Option R :=
  cond (decide (v28 < v27)) (kn) (ke0)
def s_slices_AppendSeq_Span_12 {R : Type} (cp : Nat → Nat → Bool) (n : Nat) (q0 : SRecv) (v27 v28 : Int) (v29 : (List SSpan)) (kn : Int → (List Int) → Option R) : Option R :=
  cond (decide (0 ≤ v28)) (cond (decide (v28 < (q0.xLate.length : Int))) (kn ((q0.xLate.getD (Int.toNat v28) zPiece).xFrom) ((q0.xLate.getD (Int.toNat v28) zPiece).xData)) (none)) (none)
def s_slices_AppendSeq_Span_14 {R : Type} (cp : Nat → Nat → Bool) (n : Nat) (q0 : SRecv) (v27 v28 : Int) (v29 : (List SSpan)) (v30 : Int) (v31 : (List Int)) (ka : Int → Int → Option R) : Option R :=
  G_recv_of cp n (SPiece.mk v30 v31) (fun r32 => ka r32.xFrom r32.xTo)
def s_slices_AppendSeq_Span_16 {R : Type} (cp : Nat → Nat → Bool) (n : Nat) (q0 : SRecv) (v29 : (List SSpan)) (v30 : Int) (v31 : (List Int)) (v33 v34 : Int) (kn : (List SSpan) → Option R) : Option R :=
  cond (cp (v29.length + [(SSpan.mk v33 v34)].length) 16) (kn (v29 ++ [(SSpan.mk v33 v34)])) (none)
def s_slices_AppendSeq_Span_22 {R : Type} (cp : Nat → Nat → Bool) (n : Nat) (q0 : SRecv) (v27 v28 : Int) (v29 : (List SSpan)) (v30 : Int) (v31 : (List Int)) (kn : (List SSpan) → Option R) : Option R :=
  s_slices_AppendSeq_Span_14 cp n q0 v27 v28 v29 v30 v31 (fun v33 v34 => s_slices_AppendSeq_Span_16 cp n q0 v29 v30 v31 v33 v34 (fun v35 => kn v35))
def s_slices_AppendSeq_Span_23 {R : Type} (cp : Nat → Nat → Bool) (n : Nat) (q0 : SRecv) (v27 v28 : Int) (v36 : (List SSpan)) (kn : Option R) : Option R :=
  kn
def s_slices_AppendSeq_Span_26 {R : Type} (cp : Nat → Nat → Bool) (n : Nat) (q0 : SRecv) (v27 v28 : Int) (v29 : (List SSpan)) (v30 : Int) (v31 : (List Int)) (kn : (List SSpan) → Option R) : Option R :=
  s_slices_AppendSeq_Span_22 cp n q0 v27 v28 v29 v30 v31 (fun v36 => s_slices_AppendSeq_Span_23 cp n q0 v27 v28 v36 (kn v36))
def s_slices_AppendSeq_Span_28 {R : Type} (cp : Nat → Nat → Bool) (n : Nat) (q0 : SRecv) (v27 v28 : Int) (v29 : (List SSpan)) (kn : (List SSpan) → Option R) : Option R :=
  s_slices_AppendSeq_Span_12 cp n q0 v27 v28 v29 (fun v30 v31 => s_slices_AppendSeq_Span_26 cp n q0 v27 v28 v29 v30 v31 (fun v37 => (kn v37)))
def s_slices_AppendSeq_Span_30 {R : Type} (cp : Nat → Nat → Bool) (n : Nat) (q0 : SRecv) (v27 v28 : Int) (v29 : (List SSpan)) (kn : (List SSpan) → Option R) : Option R :=
  s_slices_AppendSeq_Span_28 cp n q0 v27 v28 v29 (fun v38 => (kn v38))
def s_slices_AppendSeq_Span_31 {R : Type} (cp : Nat → Nat → Bool) (n : Nat) (q0 : SRecv) (v27 v28 : Int) (v39 : (List SSpan)) (kn : Int → Option R) : Option R :=
  kn (wr .i64 (v28 + 1))
def s_slices_AppendSeq_Span_34 {R : Type} (cp : Nat → Nat → Bool) (n : Nat) (q0 : SRecv) (v27 v28 : Int) (v29 : (List SSpan)) (kn : Int → (List SSpan) → Option R) : Option R :=
  s_slices_AppendSeq_Span_30 cp n q0 v27 v28 v29 (fun v39 => s_slices_AppendSeq_Span_31 cp n q0 v27 v28 v39 (fun v40 => (kn v40 v39)))
def s_slices_AppendSeq_Span_36 {R : Type} (cp : Nat → Nat → Bool) (n : Nat) (q0 : SRecv) (v27 v28 : Int) (v29 : (List SSpan)) (kn : Int → (List SSpan) → Option R) (ke0 : Option R) : Option R :=
  s_slices_AppendSeq_Span_9 cp n q0 v27 v28 v29 (s_slices_AppendSeq_Span_34 cp n q0 v27 v28 v29 (fun v41 v42 => (kn v41 v42))) ke0
def l_slices_AppendSeq_Span_38 {R : Type} (cp : Nat → Nat → Bool) (n : Nat) : Nat → SRecv → Int → Int → (List SSpan) → ((List SSpan) → Option R) → Option R
  | 0, _, _, _, _, _ => none
  | m + 1, q0, v27, v28, v29, ke0 =>
    s_slices_AppendSeq_Span_36 cp n q0 v27 v28 v29 (fun v43 v44 => l_slices_AppendSeq_Span_38 cp n m q0 v27 v43 v44 ke0) (ke0 v29)
def s_slices_AppendSeq_Span_39 {R : Type} (cp : Nat → Nat → Bool) (n : Nat) (p0 : (List SSpan)) (q0 : SRecv) (v27 : Int) (ke0 : (List SSpan) → Option R) : Option R :=
  l_slices_AppendSeq_Span_38 cp n n q0 v27 0 p0 ke0
def s_slices_AppendSeq_Span_41 {R : Type} (cp : Nat → Nat → Bool) (n : Nat) (p0 : (List SSpan)) (q0 : SRecv) (v27 : Int) (kn : (List SSpan) → Option R) : Option R :=
  s_slices_AppendSeq_Span_39 cp n p0 q0 v27 (fun v45 => (kn v45))
def s_slices_AppendSeq_Span_43 {R : Type} (cp : Nat → Nat → Bool) (n : Nat) (p0 : (List SSpan)) (q0 : SRecv) (kn : (List SSpan) → Option R) : Option R :=
  s_slices_AppendSeq_Span_7 cp n p0 q0 (fun v27 => s_slices_AppendSeq_Span_41 cp n p0 q0 v27 (fun v46 => (kn v46)))
def s_slices_AppendSeq_Span_46 {R : Type} (cp : Nat → Nat → Bool) (n : Nat) (p0 : (List SSpan)) (q0 : SRecv) (kn : (List SSpan) → Option R) : Option R :=
  s_slices_AppendSeq_Span_43 cp n p0 q0 (fun v47 => (kn v47))
def s_slices_AppendSeq_Span_48 {R : Type} (cp : Nat → Nat → Bool) (n : Nat) (p0 : (List SSpan)) (q0 : SRecv) (kn : (List SSpan) → Option R) : Option R :=
  s_slices_AppendSeq_Span_46 cp n p0 q0 (fun v48 => (kn v48))
def s_slices_AppendSeq_Span_50 {R : Type} (cp : Nat → Nat → Bool) (n : Nat) (p0 : (List SSpan)) (q0 : SRecv) (kn : (List SSpan) → Option R) : Option R :=
  s_slices_AppendSeq_Span_3 cp n p0 q0 (s_slices_AppendSeq_Span_48 cp n p0 q0 (fun v49 => (kn v49)))
def s_slices_AppendSeq_Span_51 {R : Type} (cp : Nat → Nat → Bool) (n : Nat) (q0 : SRecv) (v50 : (List SSpan)) (kr : Option R) : Option R :=
  kr
def s_slices_AppendSeq_Span_54 {R : Type} (cp : Nat → Nat → Bool) (n : Nat) (p0 : (List SSpan)) (q0 : SRecv) (kr : (List SSpan) → Option R) : Option R :=
  s_slices_AppendSeq_Span_50 cp n p0 q0 (fun v50 => s_slices_AppendSeq_Span_51 cp n q0 v50 (kr v50))
def s_slices_AppendSeq_Span_56 {R : Type} (cp : Nat → Nat → Bool) (n : Nat) (p0 : (List SSpan)) (q0 : SRecv) (kr : (List SSpan) → Option R) : Option R :=
  s_slices_AppendSeq_Span_1 cp n p0 q0 (s_slices_AppendSeq_Span_54 cp n p0 q0 (fun v51 => (kr v51)))
def G_slices_AppendSeq_Span {R : Type} (cp : Nat → Nat → Bool) : Nat → (List SSpan) → SRecv → ((List SSpan) → SRecv → Option R) → Option R
  | 0, _, _, _ => none
  | n + 1, p0, q0, k =>
    s_slices_AppendSeq_Span_56 cp n p0 q0 (fun v52 => k v52 q0)
/-! slices.Collect[tideway/api.Span] -/
def G_slices_Collect {R : Type} (cp : Nat → Nat → Bool) : Nat → SRecv → ((List SSpan) → SRecv → Option R) → Option R
  | 0, _, _ => none
  | n + 1, q0, k =>
    G_slices_AppendSeq_Span cp n [] q0 (fun r53 r54 => k r53 r54)
/-! slices.Index[[]tideway/api.Span,tideway/api.Span] -/
def s_slices_Index_Span_1 {R : Type} (cp : Nat → Nat → Bool) (n : Nat) (p0 : (List SSpan)) (p1 : SSpan) (kn : Option R) : Option R :=
  kn
def s_slices_Index_Span_3 {R : Type} (cp : Nat → Nat → Bool) (n : Nat) (p0 : (List SSpan)) (p1 : SSpan) (kn : Int → Option R) : Option R :=
  kn (p0.length : Int)
def s_slices_Index_Span_5 {R : Type} (cp : Nat → Nat → Bool) (n : Nat) (p0 : (List SSpan)) (p1 : SSpan) (v59 v60 : Int) (kn : Int → Option R) (kr : Option R) (ke0 : Option R) : Option R :=
  cond (decide (v60 < v59)) (cond (decide (0 ≤ v60)) (cond (decide (v60 < (p0.length : Int))) (cond ((decide (p1.xFrom = (p0.getD (Int.toNat v60) zSpan).xFrom) && (decide (p1.xTo = (p0.getD (Int.toNat v60) zSpan).xTo) && true))) (kr) (kn (wr .i64 (v60 + 1)))) (none)) (none)) (ke0)
def l_slices_Index_Span_11 {R : Type} (cp : Nat → Nat → Bool) (n : Nat) : Nat → (List SSpan) → SSpan → Int → Int → (Int → Option R) → (Option R) → Option R
  | 0, _, _, _, _, _, _ => none
  | m + 1, p0, p1, v59, v60, kr, ke0 =>
    s_slices_Index_Span_5 cp n p0 p1 v59 v60 (fun v61 => l_slices_Index_Span_11 cp n m p0 p1 v59 v61 kr ke0) (kr v60) ke0
def s_slices_Index_Span_12 {R : Type} (cp : Nat → Nat → Bool) (n : Nat) (p0 : (List SSpan)) (p1 : SSpan) (v59 : Int) (kr : Int → Option R) (ke0 : Option R) : Option R :=
  l_slices_Index_Span_11 cp n n p0 p1 v59 0 kr ke0
def s_slices_Index_Span_14 {R : Type} (cp : Nat → Nat → Bool) (n : Nat) (p0 : (List SSpan)) (p1 : SSpan) (v59 : Int) (kn : Option R) (kr : Int → Option R) : Option R :=
  s_slices_Index_Span_12 cp n p0 p1 v59 (fun v62 => (kr v62)) kn
def s_slices_Index_Span_16 {R : Type} (cp : Nat → Nat → Bool) (n : Nat) (p0 : (List SSpan)) (p1 : SSpan) (kn : Option R) (kr : Int → Option R) : Option R :=
  s_slices_Index_Span_3 cp n p0 p1 (fun v59 => s_slices_Index_Span_14 cp n p0 p1 v59 kn (fun v63 => (kr v63)))
def s_slices_Index_Span_17 {R : Type} (cp : Nat → Nat → Bool) (n : Nat) (kr : Option R) : Option R :=
  kr
def s_slices_Index_Span_20 {R : Type} (cp : Nat → Nat → Bool) (n : Nat) (p0 : (List SSpan)) (p1 : SSpan) (kr : Int → Option R) : Option R :=
  s_slices_Index_Span_16 cp n p0 p1 (s_slices_Index_Span_17 cp n (kr (-1))) (fun v64 => (kr v64))
def s_slices_Index_Span_22 {R : Type} (cp : Nat → Nat → Bool) (n : Nat) (p0 : (List SSpan)) (p1 : SSpan) (kr : Int → Option R) : Option R :=
  s_slices_Index_Span_1 cp n p0 p1 (s_slices_Index_Span_20 cp n p0 p1 (fun v65 => (kr v65)))
def G_slices_Index_Span {R : Type} (cp : Nat → Nat → Bool) : Nat → (List SSpan) → SSpan → (Int → Option R) → Option R
  | 0, _, _, _ => none
  | n + 1, p0, p1, k =>
    s_slices_Index_Span_22 cp n p0 p1 (fun v66 => k v66)
/-! slices.Contains[[]tideway/api.Span,tideway/api.Span] -/
def G_slices_Contains_Span {R : Type} (cp : Nat → Nat → Bool) : Nat → (List SSpan) → SSpan → (Bool → Option R) → Option R
  | 0, _, _, _ => none
  | n + 1, p0, p1, k =>
    G_slices_Index_Span cp n p0 p1 (fun r67 => k (decide (0 ≤ r67)))
/-! tideway/recv.pieces -/
def s_recv_pieces_1 {R : Type} (cp : Nat → Nat → Bool) (n : Nat) (p0 : SRecv) (kn : Option R) : Option R :=
  kn
def s_recv_pieces_3 {R : Type} (cp : Nat → Nat → Bool) (n : Nat) (p0 : SRecv) (kn : Int → Option R) : Option R :=
  kn (p0.xLate.length : Int)
def s_recv_pieces_5 {R : Type} (cp : Nat → Nat → Bool) (n : Nat) (p0 : SRecv) (v20 v21 v22 : Int) (kn : Int → Int → Option R) (kr : Option R) (ke0 : Option R) : Option R :=
  cond (decide (v22 < v20)) (cond (decide (0 ≤ v22)) (cond (decide (v22 < (p0.xLate.length : Int))) (cond (decide ((((p0.xLate.getD (Int.toNat v22) zPiece).xData).length : Int) = 0)) (kr) (cond (decide (((p0.xLate.getD (Int.toNat v22) zPiece).xFrom) ≤ v21)) (kr) (G_recv_limit cp n p0 (fun r23 => cond (decide ((wr .i64 (r23 - (((p0.xLate.getD (Int.toNat v22) zPiece).xData).length : Int))) < ((p0.xLate.getD (Int.toNat v22) zPiece).xFrom))) (kr) (cond (decide (0 ≤ p0.xFin)) (cond (decide ((wr .i64 (p0.xFin - (((p0.xLate.getD (Int.toNat v22) zPiece).xData).length : Int))) < ((p0.xLate.getD (Int.toNat v22) zPiece).xFrom))) (kr) (kn (wr .i64 (((p0.xLate.getD (Int.toNat v22) zPiece).xFrom) + (((p0.xLate.getD (Int.toNat v22) zPiece).xData).length : Int))) (wr .i64 (v22 + 1)))) (kn (wr .i64 (((p0.xLate.getD (Int.toNat v22) zPiece).xFrom) + (((p0.xLate.getD (Int.toNat v22) zPiece).xData).length : Int))) (wr .i64 (v22 + 1)))))))) (none)) (none)) (ke0)
def l_recv_pieces_10 {R : Type} (cp : Nat → Nat → Bool) (n : Nat) : Nat → SRecv → Int → Int → Int → (Option R) → (Option R) → Option R
  | 0, _, _, _, _, _, _ => none
  | m + 1, p0, v20, v21, v22, kr, ke0 =>
    s_recv_pieces_5 cp n p0 v20 v21 v22 (fun v24 v25 => l_recv_pieces_10 cp n m p0 v20 v24 v25 kr ke0) kr ke0
def s_recv_pieces_11 {R : Type} (cp : Nat → Nat → Bool) (n : Nat) (p0 : SRecv) (v20 : Int) (kr : Option R) (ke0 : Option R) : Option R :=
  l_recv_pieces_10 cp n n p0 v20 p0.xNext 0 kr ke0
def s_recv_pieces_12 {R : Type} (cp : Nat → Nat → Bool) (n : Nat) (p0 : SRecv) (v20 : Int) (kn : Option R) (kr : Option R) : Option R :=
  s_recv_pieces_11 cp n p0 v20 kr kn
def s_recv_pieces_13 {R : Type} (cp : Nat → Nat → Bool) (n : Nat) (p0 : SRecv) (kn : Option R) (kr : Option R) : Option R :=
  s_recv_pieces_3 cp n p0 (fun v20 => s_recv_pieces_12 cp n p0 v20 kn kr)
def s_recv_pieces_14 {R : Type} (cp : Nat → Nat → Bool) (n : Nat) (p0 : SRecv) (kn : (List SSpan) → Option R) : Option R :=
  G_recv_late cp n p0 (fun r26 => G_slices_Collect cp n r26 (fun r55 r56 => kn r55))
def s_recv_pieces_16 {R : Type} (cp : Nat → Nat → Bool) (n : Nat) (p0 : SRecv) (v57 : (List SSpan)) (kn : Int → Option R) : Option R :=
  kn (p0.xFirst.length : Int)
def s_recv_pieces_18 {R : Type} (cp : Nat → Nat → Bool) (n : Nat) (p0 : SRecv) (v57 : (List SSpan)) (v58 v59 : Int) (kn : Int → Option R) (kr : Option R) (ke2 : Option R) : Option R :=
  cond (decide (v59 < v58)) (cond (decide (0 ≤ v59)) (cond (decide (v59 < (p0.xFirst.length : Int))) (G_slices_Contains_Span cp n v57 (p0.xFirst.getD (Int.toNat v59) zSpan) (fun r60 => cond (!r60) (kr) (cond (decide (0 ≤ v59)) (cond (decide (v59 ≤ (p0.xFirst.length : Int))) (G_slices_Contains_Span cp n (p0.xFirst.take (Int.toNat v59)) (p0.xFirst.getD (Int.toNat v59) zSpan) (fun r61 => cond (r61) (kr) (kn (wr .i64 (v59 + 1))))) (none)) (none)))) (none)) (none)) (ke2)
def l_recv_pieces_22 {R : Type} (cp : Nat → Nat → Bool) (n : Nat) : Nat → SRecv → (List SSpan) → Int → Int → (Option R) → (Option R) → Option R
  | 0, _, _, _, _, _, _ => none
  | m + 1, p0, v57, v58, v59, kr, ke2 =>
    s_recv_pieces_18 cp n p0 v57 v58 v59 (fun v62 => l_recv_pieces_22 cp n m p0 v57 v58 v62 kr ke2) kr ke2
def s_recv_pieces_23 {R : Type} (cp : Nat → Nat → Bool) (n : Nat) (p0 : SRecv) (v57 : (List SSpan)) (v58 : Int) (kr : Option R) (ke2 : Option R) : Option R :=
  l_recv_pieces_22 cp n n p0 v57 v58 0 kr ke2
def s_recv_pieces_24 {R : Type} (cp : Nat → Nat → Bool) (n : Nat) (p0 : SRecv) (v57 : (List SSpan)) (v58 : Int) (kn : Option R) (kr : Option R) : Option R :=
  s_recv_pieces_23 cp n p0 v57 v58 kr kn
def s_recv_pieces_25 {R : Type} (cp : Nat → Nat → Bool) (n : Nat) (p0 : SRecv) (v57 : (List SSpan)) (kn : Option R) (kr : Option R) : Option R :=
  s_recv_pieces_16 cp n p0 v57 (fun v58 => s_recv_pieces_24 cp n p0 v57 v58 kn kr)
def s_recv_pieces_26 {R : Type} (cp : Nat → Nat → Bool) (n : Nat) (kr : Option R) : Option R :=
  kr
def s_recv_pieces_29 {R : Type} (cp : Nat → Nat → Bool) (n : Nat) (p0 : SRecv) (v57 : (List SSpan)) (kr : Bool → Option R) : Option R :=
  s_recv_pieces_25 cp n p0 v57 (s_recv_pieces_26 cp n (kr true)) (kr false)
def s_recv_pieces_31 {R : Type} (cp : Nat → Nat → Bool) (n : Nat) (p0 : SRecv) (kr : Bool → Option R) : Option R :=
  s_recv_pieces_14 cp n p0 (fun v57 => s_recv_pieces_29 cp n p0 v57 (fun v63 => (kr v63)))
def s_recv_pieces_33 {R : Type} (cp : Nat → Nat → Bool) (n : Nat) (p0 : SRecv) (kr : Bool → Option R) : Option R :=
  s_recv_pieces_13 cp n p0 (s_recv_pieces_31 cp n p0 (fun v64 => (kr v64))) (kr false)
def s_recv_pieces_35 {R : Type} (cp : Nat → Nat → Bool) (n : Nat) (p0 : SRecv) (kr : Bool → Option R) : Option R :=
  s_recv_pieces_1 cp n p0 (s_recv_pieces_33 cp n p0 (fun v65 => (kr v65)))
def G_recv_pieces {R : Type} (cp : Nat → Nat → Bool) : Nat → SRecv → (Bool → Option R) → Option R
  | 0, _, _ => none
  | n + 1, p0, k =>
    s_recv_pieces_35 cp n p0 (fun v66 => k v66)
/-! tideway/recv.Check -/
def s_recv_Check_1 {R : Type} (cp : Nat → Nat → Bool) (n : Nat) (p0 : SRecv) (kn : Option R) : Option R :=
  kn
def s_recv_Check_3 {R : Type} (cp : Nat → Nat → Bool) (n : Nat) (p0 : SRecv) (kn : Option R) (kr : Option R) : Option R :=
  cond (decide (0 ≤ p0.xNext)) (cond (decide (p0.xNext ≤ 562949953421312)) (cond (decide (1 ≤ p0.xCap)) (cond (decide (p0.xCap ≤ 1073741824)) (cond (decide (0 ≤ p0.xShift)) (cond (decide (p0.xShift ≤ 14)) (cond (!(decide ((p0.xUnread.length : Int) ≤ (mn p0.xCap p0.xNext)))) (kr) (cond (decide (p0.xEdge < 0)) (kr) (G_recv_reach cp n p0 (fun r19 => cond (decide (r19 < p0.xEdge)) (kr) (cond (decide (p0.xFin < (-1))) (kr) (cond (decide (0 ≤ p0.xFin)) (cond (decide (p0.xFin < p0.xNext)) (kr) (cond (decide (562949953421312 < p0.xFin)) (kr) (kn))) (cond (decide (562949953421312 < p0.xFin)) (kr) (kn)))))))) (kr)) (kr)) (kr)) (kr)) (kr)) (kr)
def s_recv_Check_5 {R : Type} (cp : Nat → Nat → Bool) (n : Nat) (p0 : SRecv) (kr : Int → Option R) : Option R :=
  G_recv_pieces cp n p0 (fun r20 => cond (!r20) (kr 230) (cond (!(p0.xDone == (decide (p0.xFin = p0.xNext)))) (kr 230) (cond (p0.xDone) (cond (decide (0 < (p0.xLate.length : Int))) (kr 230) (kr 0)) (kr 0))))
def s_recv_Check_8 {R : Type} (cp : Nat → Nat → Bool) (n : Nat) (p0 : SRecv) (kr : Int → Option R) : Option R :=
  s_recv_Check_3 cp n p0 (s_recv_Check_5 cp n p0 (fun v21 => (kr v21))) (kr 230)
def s_recv_Check_10 {R : Type} (cp : Nat → Nat → Bool) (n : Nat) (p0 : SRecv) (kr : Int → Option R) : Option R :=
  s_recv_Check_1 cp n p0 (s_recv_Check_8 cp n p0 (fun v22 => (kr v22)))
def G_recv_Check {R : Type} (cp : Nat → Nat → Bool) : Nat → SRecv → (Int → Option R) → Option R
  | 0, _, _ => none
  | n + 1, p0, k =>
    s_recv_Check_10 cp n p0 (fun v23 => k v23)
/-! slices.Clone[[]tideway/api.Span,tideway/api.Span] -/
def G_slices_Clone_Span {R : Type} (cp : Nat → Nat → Bool) : Nat → (List SSpan) → ((List SSpan) → Option R) → Option R
  | 0, _, _ => none
  | n + 1, p0, k => cond (cp (0 + p0.length) 16) (k p0) none
/-! bytes.Clone -/
def G_bytes_Clone {R : Type} (cp : Nat → Nat → Bool) : Nat → (List Int) → ((List Int) → Option R) → Option R
  | 0, _, _ => none
  | n + 1, p0, k => cond (cp (0 + p0.length) 1) (k p0) none
/-! tideway/recv.copied -/
def s_recv_copied_1 {R : Type} (cp : Nat → Nat → Bool) (n : Nat) (p0 : SRecv) (kn : (List Int) → (List SSpan) → Option R) : Option R :=
  cond (cp (([] : List Int).length + p0.xUnread.length) 1) (G_slices_Clone_Span cp n p0.xFirst (fun r27 => kn ([] ++ p0.xUnread) r27)) (none)
def s_recv_copied_3 {R : Type} (cp : Nat → Nat → Bool) (n : Nat) (p0 : SRecv) (v28 : (List Int)) (v29 : (List SSpan)) (kn : Int → Option R) : Option R :=
  kn (p0.xLate.length : Int)
def s_recv_copied_5 {R : Type} (cp : Nat → Nat → Bool) (n : Nat) (p0 : SRecv) (v28 : (List Int)) (v29 : (List SSpan)) (v30 v31 : Int) (v32 : (List SPiece)) (kn : Int → (List SPiece) → Option R) (ke0 : Option R) : Option R :=
  cond (decide (v31 < v30)) (cond (decide (0 ≤ v31)) (cond (decide (v31 < (p0.xLate.length : Int))) (G_bytes_Clone cp n ((p0.xLate.getD (Int.toNat v31) zPiece).xData) (fun r33 => cond (cp (v32.length + [(SPiece.mk ((p0.xLate.getD (Int.toNat v31) zPiece).xFrom) r33)].length) 32) (kn (wr .i64 (v31 + 1)) (v32 ++ [(SPiece.mk ((p0.xLate.getD (Int.toNat v31) zPiece).xFrom) r33)])) (none))) (none)) (none)) (ke0)
def l_recv_copied_10 {R : Type} (cp : Nat → Nat → Bool) (n : Nat) : Nat → SRecv → (List Int) → (List SSpan) → Int → Int → (List SPiece) → ((List SPiece) → Option R) → Option R
  | 0, _, _, _, _, _, _, _ => none
  | m + 1, p0, v28, v29, v30, v31, v32, ke0 =>
    s_recv_copied_5 cp n p0 v28 v29 v30 v31 v32 (fun v34 v35 => l_recv_copied_10 cp n m p0 v28 v29 v30 v34 v35 ke0) (ke0 v32)
def s_recv_copied_11 {R : Type} (cp : Nat → Nat → Bool) (n : Nat) (p0 : SRecv) (v28 : (List Int)) (v29 : (List SSpan)) (v30 : Int) (ke0 : (List SPiece) → Option R) : Option R :=
  l_recv_copied_10 cp n n p0 v28 v29 v30 0 [] ke0
def s_recv_copied_13 {R : Type} (cp : Nat → Nat → Bool) (n : Nat) (p0 : SRecv) (v28 : (List Int)) (v29 : (List SSpan)) (v30 : Int) (kn : (List SPiece) → Option R) : Option R :=
  s_recv_copied_11 cp n p0 v28 v29 v30 (fun v36 => (kn v36))
def s_recv_copied_15 {R : Type} (cp : Nat → Nat → Bool) (n : Nat) (p0 : SRecv) (v28 : (List Int)) (v29 : (List SSpan)) (kn : (List SPiece) → Option R) : Option R :=
  s_recv_copied_3 cp n p0 v28 v29 (fun v30 => s_recv_copied_13 cp n p0 v28 v29 v30 (fun v37 => (kn v37)))
def s_recv_copied_16 {R : Type} (cp : Nat → Nat → Bool) (n : Nat) (p0 : SRecv) (v28 : (List Int)) (v29 : (List SSpan)) (v38 : (List SPiece)) (kr : Option R) : Option R :=
  kr
def s_recv_copied_19 {R : Type} (cp : Nat → Nat → Bool) (n : Nat) (p0 : SRecv) (v28 : (List Int)) (v29 : (List SSpan)) (kr : (List SPiece) → Option R) : Option R :=
  s_recv_copied_15 cp n p0 v28 v29 (fun v38 => s_recv_copied_16 cp n p0 v28 v29 v38 (kr v38))
def s_recv_copied_21 {R : Type} (cp : Nat → Nat → Bool) (n : Nat) (p0 : SRecv) (kr : SRecv → Option R) : Option R :=
  s_recv_copied_1 cp n p0 (fun v28 v29 => s_recv_copied_19 cp n p0 v28 v29 (fun v39 => (kr (SRecv.mk p0.xNext v28 v39 p0.xCap p0.xShift p0.xEdge p0.xRecent p0.xStamps p0.xSacks p0.xFin p0.xDone v29 p0.xIrs p0.xOwn p0.xStamp))))
def G_recv_copied {R : Type} (cp : Nat → Nat → Bool) : Nat → SRecv → (SRecv → Option R) → Option R
  | 0, _, _ => none
  | n + 1, p0, k =>
    s_recv_copied_21 cp n p0 (fun v40 => k v40)
/-! tideway/seq.Diff -/
def G_seq_Diff {R : Type} (cp : Nat → Nat → Bool) : Nat → Int → Int → (Int → Option R) → Option R
  | 0, _, _, _ => none
  | n + 1, p0, p1, k =>
    k (wr .i64 (wr .i32 (wr .u32 (p1 - p0))))
/-! tideway/seq.Sum -/
def G_seq_Sum {R : Type} (cp : Nat → Nat → Bool) : Nat → Int → Int → (Int → Option R) → Option R
  | 0, _, _, _ => none
  | n + 1, p0, p1, k =>
    cond (decide (0 < p0)) (cond (decide (0 < p1)) (cond (decide ((wr .i64 (p0 + p1)) < 0)) (k 9223372036854775807) (cond (decide (p0 < 0)) (cond (decide (p1 < 0)) (cond (decide (0 ≤ (wr .i64 (p0 + p1)))) (k (-9223372036854775808)) (k (wr .i64 (p0 + p1)))) (k (wr .i64 (p0 + p1)))) (k (wr .i64 (p0 + p1))))) (cond (decide (p0 < 0)) (cond (decide (p1 < 0)) (cond (decide (0 ≤ (wr .i64 (p0 + p1)))) (k (-9223372036854775808)) (k (wr .i64 (p0 + p1)))) (k (wr .i64 (p0 + p1)))) (k (wr .i64 (p0 + p1))))) (cond (decide (p0 < 0)) (cond (decide (p1 < 0)) (cond (decide (0 ≤ (wr .i64 (p0 + p1)))) (k (-9223372036854775808)) (k (wr .i64 (p0 + p1)))) (k (wr .i64 (p0 + p1)))) (k (wr .i64 (p0 + p1))))
/-! tideway/seq.Unwrap -/
def G_seq_Unwrap {R : Type} (cp : Nat → Nat → Bool) : Nat → Int → Int → (Int → Option R) → Option R
  | 0, _, _, _ => none
  | n + 1, p0, p1, k =>
    G_seq_Diff cp n (wr .u32 p0) p1 (fun r42 => G_seq_Sum cp n p0 r42 (fun r43 => k r43))
/-! tideway/seq.Add -/
def G_seq_Add {R : Type} (cp : Nat → Nat → Bool) : Nat → Int → Int → (Int → Option R) → Option R
  | 0, _, _, _ => none
  | n + 1, p0, p1, k =>
    k (wr .u32 (p0 + (wr .u32 p1)))
/-! tideway/recv.tell -/
def s_recv_tell_1 {R : Type} (cp : Nat → Nat → Bool) (n : Nat) (p0 : SRecv) (p1 : (List SBlock)) (kn : Int → SSegment → Option R) : Option R :=
  cond (p0.xDone) (G_seq_Add cp n p0.xIrs (wr .i64 (p0.xNext + 1)) (fun r54 => G_recv_window cp n p0 (fun r55 => cond (decide (p0.xShift < 0)) (none) (cond (p0.xStamps) (kn (wr .i64 (4 - 1)) (SSegment.mk 0 0 p0.xOwn r54 16 (shr .i64 r55 p0.xShift) 0 (-1) (-1) false true 0 p0.xRecent p1 [])) (kn 4 (SSegment.mk 0 0 p0.xOwn r54 16 (shr .i64 r55 p0.xShift) 0 (-1) (-1) false false 0 0 p1 [])))))) (G_seq_Add cp n p0.xIrs p0.xNext (fun r56 => G_recv_window cp n p0 (fun r57 => cond (decide (p0.xShift < 0)) (none) (cond (p0.xStamps) (kn (wr .i64 (4 - 1)) (SSegment.mk 0 0 p0.xOwn r56 16 (shr .i64 r57 p0.xShift) 0 (-1) (-1) false true 0 p0.xRecent p1 [])) (kn 4 (SSegment.mk 0 0 p0.xOwn r56 16 (shr .i64 r57 p0.xShift) 0 (-1) (-1) false false 0 0 p1 []))))))
def s_recv_tell_3 {R : Type} (cp : Nat → Nat → Bool) (n : Nat) (p0 : SRecv) (v58 : Int) (v59 : SSegment) (kn : Int → Option R) : Option R :=
  kn (p0.xFirst.length : Int)
def s_recv_tell_5 {R : Type} (cp : Nat → Nat → Bool) (n : Nat) (p0 : SRecv) (v58 : Int) (v59 : SSegment) (v60 v61 : Int) (v62 : (List SBlock)) (kn : Int → (List SBlock) → Option R) (ke0 : Option R) : Option R :=
  cond (decide (v61 < v60)) (cond (decide (0 ≤ v61)) (cond (decide (v61 < (p0.xFirst.length : Int))) (cond (p0.xSacks) (cond (decide ((v62.length : Int) < v58)) (G_seq_Add cp n p0.xIrs ((p0.xFirst.getD (Int.toNat v61) zSpan).xFrom) (fun r63 => G_seq_Add cp n p0.xIrs ((p0.xFirst.getD (Int.toNat v61) zSpan).xTo) (fun r64 => cond (cp (v62.length + [(SBlock.mk r63 r64)].length) 8) (kn (wr .i64 (v61 + 1)) (v62 ++ [(SBlock.mk r63 r64)])) (none)))) (kn (wr .i64 (v61 + 1)) v62)) (kn (wr .i64 (v61 + 1)) v62)) (none)) (none)) (ke0)
def l_recv_tell_10 {R : Type} (cp : Nat → Nat → Bool) (n : Nat) : Nat → SRecv → Int → SSegment → Int → Int → (List SBlock) → ((List SBlock) → Option R) → Option R
  | 0, _, _, _, _, _, _, _ => none
  | m + 1, p0, v58, v59, v60, v61, v62, ke0 =>
    s_recv_tell_5 cp n p0 v58 v59 v60 v61 v62 (fun v65 v66 => l_recv_tell_10 cp n m p0 v58 v59 v60 v65 v66 ke0) (ke0 v62)
def s_recv_tell_11 {R : Type} (cp : Nat → Nat → Bool) (n : Nat) (p0 : SRecv) (v58 : Int) (v59 : SSegment) (v60 : Int) (ke0 : (List SBlock) → Option R) : Option R :=
  l_recv_tell_10 cp n n p0 v58 v59 v60 0 v59.xSacks ke0
def s_recv_tell_13 {R : Type} (cp : Nat → Nat → Bool) (n : Nat) (p0 : SRecv) (v58 : Int) (v59 : SSegment) (v60 : Int) (kn : (List SBlock) → Option R) : Option R :=
  s_recv_tell_11 cp n p0 v58 v59 v60 (fun v67 => (kn v67))
def s_recv_tell_15 {R : Type} (cp : Nat → Nat → Bool) (n : Nat) (p0 : SRecv) (v58 : Int) (v59 : SSegment) (kn : (List SBlock) → Option R) : Option R :=
  s_recv_tell_3 cp n p0 v58 v59 (fun v60 => s_recv_tell_13 cp n p0 v58 v59 v60 (fun v68 => (kn v68)))
def s_recv_tell_16 {R : Type} (cp : Nat → Nat → Bool) (n : Nat) (p0 : SRecv) (v59 : SSegment) (v69 : (List SBlock)) (kr : Int → Option R) : Option R :=
  G_recv_window cp n p0 (fun r70 => kr (mx p0.xEdge (wr .i64 (p0.xNext + r70))))
def s_recv_tell_19 {R : Type} (cp : Nat → Nat → Bool) (n : Nat) (p0 : SRecv) (v58 : Int) (v59 : SSegment) (kr : Int → (List SBlock) → Option R) : Option R :=
  s_recv_tell_15 cp n p0 v58 v59 (fun v69 => s_recv_tell_16 cp n p0 v59 v69 (fun v71 => (kr v71 v69)))
def s_recv_tell_21 {R : Type} (cp : Nat → Nat → Bool) (n : Nat) (p0 : SRecv) (p1 : (List SBlock)) (kr : Int → SSegment → Option R) : Option R :=
  s_recv_tell_1 cp n p0 p1 (fun v58 v59 => s_recv_tell_19 cp n p0 v58 v59 (fun v72 v73 => (kr v72 (SSegment.mk v59.xSrcPort v59.xDstPort v59.xSeq v59.xAck v59.xFlags v59.xWin v59.xUrg v59.xMss v59.xScale v59.xSackOk v59.xStamped v59.xVal v59.xEcr v73 v59.xData))))
def G_recv_tell {R : Type} (cp : Nat → Nat → Bool) : Nat → SRecv → (List SBlock) → (SRecv → SSegment → Option R) → Option R
  | 0, _, _, _ => none
  | n + 1, p0, p1, k =>
    s_recv_tell_21 cp n p0 p1 (fun v74 v75 => k (SRecv.mk p0.xNext p0.xUnread p0.xLate p0.xCap p0.xShift v74 p0.xRecent p0.xStamps p0.xSacks p0.xFin p0.xDone p0.xFirst p0.xIrs p0.xOwn p0.xStamp) v75)
/-! tideway/recv.end -/
def s_recv_end_1 {R : Type} (cp : Nat → Nat → Bool) (n : Nat) (p0 : SRecv) (p1 : Int) (kn : Option R) : Option R :=
  kn
def s_recv_end_3 {R : Type} (cp : Nat → Nat → Bool) (n : Nat) (p0 : SRecv) (p1 : Int) (kn : SRecv → Option R) : Option R :=
  G_recv_late cp n p0 (fun r35 => kn r35)
def s_recv_end_7 {R : Type} (cp : Nat → Nat → Bool) (n : Nat) (p0 : SRecv) (p1 : Int) (v36 : SRecv) (kn : Int → Option R) : Option R :=
  kn (v36.xLate.length : Int)
def s_recv_end_9 {R : Type} (cp : Nat → Nat → Bool) (n : Nat) (p0 : SRecv) (p1 : Int) (v36 : SRecv) (v37 v38 v39 : Int) (kn : Option R) (ke0 : Option R) : Option R :=
  cond (decide (v38 < v37)) (kn) (ke0)
def s_recv_end_12 {R : Type} (cp : Nat → Nat → Bool) (n : Nat) (p0 : SRecv) (p1 : Int) (v36 : SRecv) (v37 v38 v39 : Int) (kn : Int → (List Int) → Option R) : Option R :=
  cond (decide (0 ≤ v38)) (cond (decide (v38 < (v36.xLate.length : Int))) (kn ((v36.xLate.getD (Int.toNat v38) zPiece).xFrom) ((v36.xLate.getD (Int.toNat v38) zPiece).xData)) (none)) (none)
def s_recv_end_14 {R : Type} (cp : Nat → Nat → Bool) (n : Nat) (p0 : SRecv) (p1 : Int) (v36 : SRecv) (v37 v38 v39 v40 : Int) (v41 : (List Int)) (ka : Int → Int → Option R) : Option R :=
  G_recv_of cp n (SPiece.mk v40 v41) (fun r42 => ka r42.xFrom r42.xTo)
def s_recv_end_16 {R : Type} (cp : Nat → Nat → Bool) (n : Nat) (p0 : SRecv) (p1 : Int) (v36 : SRecv) (v39 v40 : Int) (v41 : (List Int)) (v43 v44 : Int) (kn : Option R) : Option R :=
  kn
def s_recv_end_22 {R : Type} (cp : Nat → Nat → Bool) (n : Nat) (p0 : SRecv) (p1 : Int) (v36 : SRecv) (v37 v38 v39 v40 : Int) (v41 : (List Int)) (kn : Int → Option R) : Option R :=
  s_recv_end_14 cp n p0 p1 v36 v37 v38 v39 v40 v41 (fun v43 v44 => s_recv_end_16 cp n p0 p1 v36 v39 v40 v41 v43 v44 (kn v44))
def s_recv_end_23 {R : Type} (cp : Nat → Nat → Bool) (n : Nat) (p0 : SRecv) (p1 : Int) (v36 : SRecv) (v37 v38 v45 : Int) (kn : Option R) : Option R :=
  kn
def s_recv_end_26 {R : Type} (cp : Nat → Nat → Bool) (n : Nat) (p0 : SRecv) (p1 : Int) (v36 : SRecv) (v37 v38 v39 v40 : Int) (v41 : (List Int)) (kn : Int → Option R) : Option R :=
  s_recv_end_22 cp n p0 p1 v36 v37 v38 v39 v40 v41 (fun v45 => s_recv_end_23 cp n p0 p1 v36 v37 v38 v45 (kn v45))
def s_recv_end_28 {R : Type} (cp : Nat → Nat → Bool) (n : Nat) (p0 : SRecv) (p1 : Int) (v36 : SRecv) (v37 v38 v39 : Int) (kn : Int → Option R) : Option R :=
  s_recv_end_12 cp n p0 p1 v36 v37 v38 v39 (fun v40 v41 => s_recv_end_26 cp n p0 p1 v36 v37 v38 v39 v40 v41 (fun v46 => (kn v46)))
def s_recv_end_30 {R : Type} (cp : Nat → Nat → Bool) (n : Nat) (p0 : SRecv) (p1 : Int) (v36 : SRecv) (v37 v38 v39 : Int) (kn : Int → Option R) : Option R :=
  s_recv_end_28 cp n p0 p1 v36 v37 v38 v39 (fun v47 => (kn v47))
def s_recv_end_31 {R : Type} (cp : Nat → Nat → Bool) (n : Nat) (p0 : SRecv) (p1 : Int) (v36 : SRecv) (v37 v38 v48 : Int) (kn : Int → Option R) : Option R :=
  kn (wr .i64 (v38 + 1))
def s_recv_end_34 {R : Type} (cp : Nat → Nat → Bool) (n : Nat) (p0 : SRecv) (p1 : Int) (v36 : SRecv) (v37 v38 v39 : Int) (kn : Int → Int → Option R) : Option R :=
  s_recv_end_30 cp n p0 p1 v36 v37 v38 v39 (fun v48 => s_recv_end_31 cp n p0 p1 v36 v37 v38 v48 (fun v49 => (kn v49 v48)))
def s_recv_end_36 {R : Type} (cp : Nat → Nat → Bool) (n : Nat) (p0 : SRecv) (p1 : Int) (v36 : SRecv) (v37 v38 v39 : Int) (kn : Int → Int → Option R) (ke0 : Option R) : Option R :=
  s_recv_end_9 cp n p0 p1 v36 v37 v38 v39 (s_recv_end_34 cp n p0 p1 v36 v37 v38 v39 (fun v50 v51 => (kn v50 v51))) ke0
def l_recv_end_38 {R : Type} (cp : Nat → Nat → Bool) (n : Nat) : Nat → SRecv → Int → SRecv → Int → Int → Int → (Int → Option R) → Option R
  | 0, _, _, _, _, _, _, _ => none
  | m + 1, p0, p1, v36, v37, v38, v39, ke0 =>
    s_recv_end_36 cp n p0 p1 v36 v37 v38 v39 (fun v52 v53 => l_recv_end_38 cp n m p0 p1 v36 v37 v52 v53 ke0) (ke0 v39)
def s_recv_end_39 {R : Type} (cp : Nat → Nat → Bool) (n : Nat) (p0 : SRecv) (p1 : Int) (v36 : SRecv) (v37 : Int) (ke0 : Int → Option R) : Option R :=
  l_recv_end_38 cp n n p0 p1 v36 v37 0 p0.xNext ke0
def s_recv_end_41 {R : Type} (cp : Nat → Nat → Bool) (n : Nat) (p0 : SRecv) (p1 : Int) (v36 : SRecv) (v37 : Int) (kn : Int → Option R) : Option R :=
  s_recv_end_39 cp n p0 p1 v36 v37 (fun v54 => (kn v54))
def s_recv_end_43 {R : Type} (cp : Nat → Nat → Bool) (n : Nat) (p0 : SRecv) (p1 : Int) (v36 : SRecv) (kn : Int → Option R) : Option R :=
  s_recv_end_7 cp n p0 p1 v36 (fun v37 => s_recv_end_41 cp n p0 p1 v36 v37 (fun v55 => (kn v55)))
def s_recv_end_46 {R : Type} (cp : Nat → Nat → Bool) (n : Nat) (p0 : SRecv) (p1 : Int) (v36 : SRecv) (kn : Int → Option R) : Option R :=
  s_recv_end_43 cp n p0 p1 v36 (fun v56 => (kn v56))
def s_recv_end_48 {R : Type} (cp : Nat → Nat → Bool) (n : Nat) (p0 : SRecv) (p1 : Int) (v36 : SRecv) (kn : Int → Option R) : Option R :=
  s_recv_end_46 cp n p0 p1 v36 (fun v57 => (kn v57))
def s_recv_end_50 {R : Type} (cp : Nat → Nat → Bool) (n : Nat) (p0 : SRecv) (p1 : Int) (kn : Int → Option R) : Option R :=
  s_recv_end_3 cp n p0 p1 (fun v36 => s_recv_end_48 cp n p0 p1 v36 (fun v58 => (kn v58)))
def s_recv_end_51 {R : Type} (cp : Nat → Nat → Bool) (n : Nat) (p0 : SRecv) (p1 v59 : Int) (kr : Int → Option R) : Option R :=
  cond (decide (p0.xFin < 0)) (cond (decide (v59 ≤ p1)) (G_recv_limit cp n p0 (fun r60 => cond (decide (p1 ≤ r60)) (kr p1) (kr p0.xFin))) (kr p0.xFin)) (kr p0.xFin)
def s_recv_end_54 {R : Type} (cp : Nat → Nat → Bool) (n : Nat) (p0 : SRecv) (p1 : Int) (kr : Int → Option R) : Option R :=
  s_recv_end_50 cp n p0 p1 (fun v59 => s_recv_end_51 cp n p0 p1 v59 (fun v61 => (kr v61)))
def s_recv_end_56 {R : Type} (cp : Nat → Nat → Bool) (n : Nat) (p0 : SRecv) (p1 : Int) (kr : Int → Option R) : Option R :=
  s_recv_end_1 cp n p0 p1 (s_recv_end_54 cp n p0 p1 (fun v62 => (kr v62)))
def G_recv_end {R : Type} (cp : Nat → Nat → Bool) : Nat → SRecv → Int → (Int → Option R) → Option R
  | 0, _, _, _ => none
  | n + 1, p0, p1, k =>
    s_recv_end_56 cp n p0 p1 (fun v63 => k v63)
/-! tideway/span.may -/
def G_span_may {R : Type} (cp : Nat → Nat → Bool) : Nat → SSpan → (Bool → Option R) → Option R
  | 0, _, _ => none
  | n + 1, p0, k =>
    cond (decide (0 ≤ p0.xFrom)) (cond (decide (p0.xFrom ≤ p0.xTo)) (k (decide (p0.xTo ≤ 1125899906842624))) (k false)) (k false)
/-! tideway/span.Check -/
def s_span_Check_1 {R : Type} (cp : Nat → Nat → Bool) (n : Nat) (p0 : (List SSpan)) (kn : Option R) : Option R :=
  kn
def s_span_Check_3 {R : Type} (cp : Nat → Nat → Bool) (n : Nat) (p0 : (List SSpan)) (kn : Int → Option R) : Option R :=
  kn (p0.length : Int)
def s_span_Check_5 {R : Type} (cp : Nat → Nat → Bool) (n : Nat) (p0 : (List SSpan)) (v97 v98 : Int) (kn : Int → Option R) (kr : Option R) (ke0 : Option R) : Option R :=
  cond (decide (v98 < v97)) (cond (decide (0 ≤ v98)) (cond (decide (v98 < (p0.length : Int))) (G_span_may cp n (p0.getD (Int.toNat v98) zSpan) (fun r99 => cond (!r99) (kr) (cond (decide (((p0.getD (Int.toNat v98) zSpan).xFrom) = ((p0.getD (Int.toNat v98) zSpan).xTo))) (kr) (cond (decide (0 < v98)) (cond (decide (0 ≤ wr .i64 (v98 - 1))) (cond (decide (wr .i64 (v98 - 1) < (p0.length : Int))) (cond (decide (((p0.getD (Int.toNat v98) zSpan).xFrom) ≤ ((p0.getD (Int.toNat (wr .i64 (v98 - 1))) zSpan).xTo))) (kr) (kn (wr .i64 (v98 + 1)))) (none)) (none)) (kn (wr .i64 (v98 + 1))))))) (none)) (none)) (ke0)
def l_span_Check_10 {R : Type} (cp : Nat → Nat → Bool) (n : Nat) : Nat → (List SSpan) → Int → Int → (Option R) → (Option R) → Option R
  | 0, _, _, _, _, _ => none
  | m + 1, p0, v97, v98, kr, ke0 =>
    s_span_Check_5 cp n p0 v97 v98 (fun v100 => l_span_Check_10 cp n m p0 v97 v100 kr ke0) kr ke0
def s_span_Check_11 {R : Type} (cp : Nat → Nat → Bool) (n : Nat) (p0 : (List SSpan)) (v97 : Int) (kr : Option R) (ke0 : Option R) : Option R :=
  l_span_Check_10 cp n n p0 v97 0 kr ke0
def s_span_Check_12 {R : Type} (cp : Nat → Nat → Bool) (n : Nat) (p0 : (List SSpan)) (v97 : Int) (kn : Option R) (kr : Option R) : Option R :=
  s_span_Check_11 cp n p0 v97 kr kn
def s_span_Check_13 {R : Type} (cp : Nat → Nat → Bool) (n : Nat) (p0 : (List SSpan)) (kn : Option R) (kr : Option R) : Option R :=
  s_span_Check_3 cp n p0 (fun v97 => s_span_Check_12 cp n p0 v97 kn kr)
def s_span_Check_14 {R : Type} (cp : Nat → Nat → Bool) (n : Nat) (kr : Option R) : Option R :=
  kr
def s_span_Check_17 {R : Type} (cp : Nat → Nat → Bool) (n : Nat) (p0 : (List SSpan)) (kr : Int → Option R) : Option R :=
  s_span_Check_13 cp n p0 (s_span_Check_14 cp n (kr 0)) (kr 60)
def s_span_Check_19 {R : Type} (cp : Nat → Nat → Bool) (n : Nat) (p0 : (List SSpan)) (kr : Int → Option R) : Option R :=
  s_span_Check_1 cp n p0 (s_span_Check_17 cp n p0 (fun v101 => (kr v101)))
def G_span_Check {R : Type} (cp : Nat → Nat → Bool) : Nat → (List SSpan) → (Int → Option R) → Option R
  | 0, _, _ => none
  | n + 1, p0, k =>
    s_span_Check_19 cp n p0 (fun v102 => k v102)
/-! tideway/span.within -/
def G_span_within {R : Type} (cp : Nat → Nat → Bool) : Nat → (List SSpan) → SSpan → ((List SSpan) → SSpan → Option R) → Option R
  | 0, _, _, _ => none
  | n + 1, p0, p1, k =>
    k p0 p1
/-! tideway/span.Gaps -/
def s_span_Gaps_1 {R : Type} (cp : Nat → Nat → Bool) (n : Nat) (p0 : (List SSpan)) (p1 : SSpan) (kn : Option R) (kr : Option R) : Option R :=
  G_span_Check cp n p0 (fun r105 => cond (!decide (r105 = 0)) (kr) (cond (decide (p1.xTo ≤ p1.xFrom)) (kr) (kn)))
def s_span_Gaps_4 {R : Type} (cp : Nat → Nat → Bool) (n : Nat) (p0 : (List SSpan)) (p1 : SSpan) (kn : (List SSpan) → Int → Int → Option R) : Option R :=
  G_span_within cp n p0 p1 (fun r106 r107 => kn r106 r107.xFrom r107.xTo)
def s_span_Gaps_8 {R : Type} (cp : Nat → Nat → Bool) (n : Nat) (p1 : SSpan) (v108 : (List SSpan)) (v109 v110 : Int) (kn : Int → Option R) : Option R :=
  kn (v108.length : Int)
def s_span_Gaps_10 {R : Type} (cp : Nat → Nat → Bool) (n : Nat) (p1 : SSpan) (v108 : (List SSpan)) (v109 v110 v111 v112 : Int) (v113 : (List SSpan)) (v114 : Int) (kn : Option R) (ke0 : Option R) : Option R :=
  cond (decide (v112 < v111)) (kn) (ke0)
def s_span_Gaps_13 {R : Type} (cp : Nat → Nat → Bool) (n : Nat) (p1 : SSpan) (v108 : (List SSpan)) (v109 v110 v111 v112 : Int) (v113 : (List SSpan)) (v114 : Int) (kn : Int → Int → Option R) : Option R :=
  cond (decide (0 ≤ v112)) (cond (decide (v112 < (v108.length : Int))) (kn (mx ((v108.getD (Int.toNat v112) zSpan).xFrom) v109) (mn ((v108.getD (Int.toNat v112) zSpan).xTo) v110)) (none)) (none)
def s_span_Gaps_15 {R : Type} (cp : Nat → Nat → Bool) (n : Nat) (p1 : SSpan) (v108 : (List SSpan)) (v109 v110 v111 v112 : Int) (v113 : (List SSpan)) (v114 v115 v116 : Int) (ka : Bool → Option R) (kb : Bool → Option R) : Option R :=
  cond (decide (v115 < v116)) (ka (decide (v115 < v116))) (kb (decide (v115 < v116)))
def s_span_Gaps_18 {R : Type} (cp : Nat → Nat → Bool) (n : Nat) (p1 : SSpan) (v108 : (List SSpan)) (v109 v110 : Int) (v113 : (List SSpan)) (v114 v115 v116 : Int) (kn : (List SSpan) → Option R) : Option R :=
  cond (decide (v114 < v115)) (cond (cp (v113.length + [(SSpan.mk v114 v115)].length) 16) (kn (v113 ++ [(SSpan.mk v114 v115)])) (none)) (kn v113)
def s_span_Gaps_24 {R : Type} (cp : Nat → Nat → Bool) (n : Nat) (p1 : SSpan) (v108 : (List SSpan)) (v109 v110 v111 v112 : Int) (v113 : (List SSpan)) (v114 v115 v116 : Int) (kn : (List SSpan) → Int → Option R) : Option R :=
  s_span_Gaps_15 cp n p1 v108 v109 v110 v111 v112 v113 v114 v115 v116 (fun v117 => s_span_Gaps_18 cp n p1 v108 v109 v110 v113 v114 v115 v116 (fun v119 => kn v119 v116)) (fun v118 => kn v113 v114)
def s_span_Gaps_25 {R : Type} (cp : Nat → Nat → Bool) (n : Nat) (p1 : SSpan) (v108 : (List SSpan)) (v109 v110 v111 v112 : Int) (v120 : (List SSpan)) (v121 : Int) (kn : Option R) : Option R :=
  kn
def s_span_Gaps_28 {R : Type} (cp : Nat → Nat → Bool) (n : Nat) (p1 : SSpan) (v108 : (List SSpan)) (v109 v110 v111 v112 : Int) (v113 : (List SSpan)) (v114 v115 v116 : Int) (kn : (List SSpan) → Int → Option R) : Option R :=
  s_span_Gaps_24 cp n p1 v108 v109 v110 v111 v112 v113 v114 v115 v116 (fun v120 v121 => s_span_Gaps_25 cp n p1 v108 v109 v110 v111 v112 v120 v121 (kn v120 v121))
def s_span_Gaps_30 {R : Type} (cp : Nat → Nat → Bool) (n : Nat) (p1 : SSpan) (v108 : (List SSpan)) (v109 v110 v111 v112 : Int) (v113 : (List SSpan)) (v114 : Int) (kn : (List SSpan) → Int → Option R) : Option R :=
  s_span_Gaps_13 cp n p1 v108 v109 v110 v111 v112 v113 v114 (fun v115 v116 => s_span_Gaps_28 cp n p1 v108 v109 v110 v111 v112 v113 v114 v115 v116 (fun v122 v123 => (kn v122 v123)))
def s_span_Gaps_32 {R : Type} (cp : Nat → Nat → Bool) (n : Nat) (p1 : SSpan) (v108 : (List SSpan)) (v109 v110 v111 v112 : Int) (v113 : (List SSpan)) (v114 : Int) (kn : (List SSpan) → Int → Option R) : Option R :=
  s_span_Gaps_30 cp n p1 v108 v109 v110 v111 v112 v113 v114 (fun v124 v125 => (kn v124 v125))
def s_span_Gaps_33 {R : Type} (cp : Nat → Nat → Bool) (n : Nat) (p1 : SSpan) (v108 : (List SSpan)) (v109 v110 v111 v112 : Int) (v126 : (List SSpan)) (v127 : Int) (kn : Int → Option R) : Option R :=
  kn (wr .i64 (v112 + 1))
def s_span_Gaps_36 {R : Type} (cp : Nat → Nat → Bool) (n : Nat) (p1 : SSpan) (v108 : (List SSpan)) (v109 v110 v111 v112 : Int) (v113 : (List SSpan)) (v114 : Int) (kn : Int → (List SSpan) → Int → Option R) : Option R :=
  s_span_Gaps_32 cp n p1 v108 v109 v110 v111 v112 v113 v114 (fun v126 v127 => s_span_Gaps_33 cp n p1 v108 v109 v110 v111 v112 v126 v127 (fun v128 => (kn v128 v126 v127)))
def s_span_Gaps_38 {R : Type} (cp : Nat → Nat → Bool) (n : Nat) (p1 : SSpan) (v108 : (List SSpan)) (v109 v110 v111 v112 : Int) (v113 : (List SSpan)) (v114 : Int) (kn : Int → (List SSpan) → Int → Option R) (ke0 : Option R) : Option R :=
  s_span_Gaps_10 cp n p1 v108 v109 v110 v111 v112 v113 v114 (s_span_Gaps_36 cp n p1 v108 v109 v110 v111 v112 v113 v114 (fun v129 v130 v131 => (kn v129 v130 v131))) ke0
def l_span_Gaps_40 {R : Type} (cp : Nat → Nat → Bool) (n : Nat) : Nat → SSpan → (List SSpan) → Int → Int → Int → Int → (List SSpan) → Int → ((List SSpan) → Int → Option R) → Option R
  | 0, _, _, _, _, _, _, _, _, _ => none
  | m + 1, p1, v108, v109, v110, v111, v112, v113, v114, ke0 =>
    s_span_Gaps_38 cp n p1 v108 v109 v110 v111 v112 v113 v114 (fun v132 v133 v134 => l_span_Gaps_40 cp n m p1 v108 v109 v110 v111 v132 v133 v134 ke0) (ke0 v113 v114)
def s_span_Gaps_41 {R : Type} (cp : Nat → Nat → Bool) (n : Nat) (p1 : SSpan) (v108 : (List SSpan)) (v109 v110 v111 : Int) (ke0 : (List SSpan) → Int → Option R) : Option R :=
  l_span_Gaps_40 cp n n p1 v108 v109 v110 v111 0 [] p1.xFrom ke0
def s_span_Gaps_43 {R : Type} (cp : Nat → Nat → Bool) (n : Nat) (p1 : SSpan) (v108 : (List SSpan)) (v109 v110 v111 : Int) (kn : (List SSpan) → Int → Option R) : Option R :=
  s_span_Gaps_41 cp n p1 v108 v109 v110 v111 (fun v135 v136 => (kn v135 v136))
def s_span_Gaps_45 {R : Type} (cp : Nat → Nat → Bool) (n : Nat) (p1 : SSpan) (v108 : (List SSpan)) (v109 v110 : Int) (kn : (List SSpan) → Int → Option R) : Option R :=
  s_span_Gaps_8 cp n p1 v108 v109 v110 (fun v111 => s_span_Gaps_43 cp n p1 v108 v109 v110 v111 (fun v137 v138 => (kn v137 v138)))
def s_span_Gaps_48 {R : Type} (cp : Nat → Nat → Bool) (n : Nat) (p1 : SSpan) (v108 : (List SSpan)) (v109 v110 : Int) (kn : (List SSpan) → Int → Option R) : Option R :=
  s_span_Gaps_45 cp n p1 v108 v109 v110 (fun v139 v140 => (kn v139 v140))
def s_span_Gaps_50 {R : Type} (cp : Nat → Nat → Bool) (n : Nat) (p1 : SSpan) (v108 : (List SSpan)) (v109 v110 : Int) (kn : (List SSpan) → Int → Option R) : Option R :=
  s_span_Gaps_48 cp n p1 v108 v109 v110 (fun v141 v142 => (kn v141 v142))
def s_span_Gaps_52 {R : Type} (cp : Nat → Nat → Bool) (n : Nat) (p0 : (List SSpan)) (p1 : SSpan) (kn : (List SSpan) → Int → Option R) : Option R :=
  s_span_Gaps_4 cp n p0 p1 (fun v108 v109 v110 => s_span_Gaps_50 cp n p1 v108 v109 v110 (fun v143 v144 => (kn v143 v144)))
def s_span_Gaps_53 {R : Type} (cp : Nat → Nat → Bool) (n : Nat) (p1 : SSpan) (v145 : (List SSpan)) (v146 : Int) (kr : (List SSpan) → Option R) : Option R :=
  cond (decide (v146 < p1.xTo)) (cond (cp (v145.length + [(SSpan.mk v146 p1.xTo)].length) 16) (kr (v145 ++ [(SSpan.mk v146 p1.xTo)])) (none)) (kr v145)
def s_span_Gaps_56 {R : Type} (cp : Nat → Nat → Bool) (n : Nat) (p0 : (List SSpan)) (p1 : SSpan) (kr : (List SSpan) → Option R) : Option R :=
  s_span_Gaps_52 cp n p0 p1 (fun v145 v146 => s_span_Gaps_53 cp n p1 v145 v146 (fun v147 => (kr v147)))
def s_span_Gaps_58 {R : Type} (cp : Nat → Nat → Bool) (n : Nat) (p0 : (List SSpan)) (p1 : SSpan) (kr : (List SSpan) → Option R) : Option R :=
  s_span_Gaps_1 cp n p0 p1 (s_span_Gaps_56 cp n p0 p1 (fun v148 => (kr v148))) (kr [])
def G_span_Gaps {R : Type} (cp : Nat → Nat → Bool) : Nat → (List SSpan) → SSpan → ((List SSpan) → Option R) → Option R
  | 0, _, _, _ => none
  | n + 1, p0, p1, k =>
    s_span_Gaps_58 cp n p0 p1 (fun v149 => k v149)
/-! tideway/recv.put$1 -/
def G_recv_put_1 {R : Type} (cp : Nat → Nat → Bool) : Nat → SPiece → Int → (Int → Option R) → Option R
  | 0, _, _, _ => none
  | n + 1, p0, p1, k =>
    k (wr .i64 (p0.xFrom - p1))
/-! slices.BinarySearchFunc[[]tideway/api.Piece,tideway/api.Piece,int] -/
def s_slices_BinarySearchFunc_Piece_1 {R : Type} (cp : Nat → Nat → Bool) (n : Nat) (p0 : (List SPiece)) (p1 : Int) (kn : Int → Option R) : Option R :=
  kn (p0.length : Int)
def s_slices_BinarySearchFunc_Piece_3 {R : Type} (cp : Nat → Nat → Bool) (n : Nat) (p0 : (List SPiece)) (p1 v153 v154 v155 : Int) (kn : Int → Int → Option R) (ke0 : Option R) : Option R :=
  cond (decide (v154 < v155)) (cond (decide (0 ≤ wr .i64 (shr .u64 (wr .u64 (wr .i64 (v154 + v155))) 1))) (cond (decide (wr .i64 (shr .u64 (wr .u64 (wr .i64 (v154 + v155))) 1) < (p0.length : Int))) (G_recv_put_1 cp n (p0.getD (Int.toNat (wr .i64 (shr .u64 (wr .u64 (wr .i64 (v154 + v155))) 1))) zPiece) p1 (fun r156 => cond (decide (r156 < 0)) (kn (wr .i64 ((wr .i64 (shr .u64 (wr .u64 (wr .i64 (v154 + v155))) 1)) + 1)) v155) (kn v154 (wr .i64 (shr .u64 (wr .u64 (wr .i64 (v154 + v155))) 1))))) (none)) (none)) (ke0)
def l_slices_BinarySearchFunc_Piece_8 {R : Type} (cp : Nat → Nat → Bool) (n : Nat) : Nat → (List SPiece) → Int → Int → Int → Int → (Int → Option R) → Option R
  | 0, _, _, _, _, _, _ => none
  | m + 1, p0, p1, v153, v154, v155, ke0 =>
    s_slices_BinarySearchFunc_Piece_3 cp n p0 p1 v153 v154 v155 (fun v157 v158 => l_slices_BinarySearchFunc_Piece_8 cp n m p0 p1 v153 v157 v158 ke0) (ke0 v154)
def s_slices_BinarySearchFunc_Piece_9 {R : Type} (cp : Nat → Nat → Bool) (n : Nat) (p0 : (List SPiece)) (p1 v153 : Int) (ke0 : Int → Option R) : Option R :=
  l_slices_BinarySearchFunc_Piece_8 cp n n p0 p1 v153 0 v153 ke0
def s_slices_BinarySearchFunc_Piece_11 {R : Type} (cp : Nat → Nat → Bool) (n : Nat) (p0 : (List SPiece)) (p1 v153 : Int) (kn : Int → Option R) : Option R :=
  s_slices_BinarySearchFunc_Piece_9 cp n p0 p1 v153 (fun v159 => (kn v159))
def s_slices_BinarySearchFunc_Piece_12 {R : Type} (cp : Nat → Nat → Bool) (n : Nat) (p0 : (List SPiece)) (p1 v153 v160 : Int) (kr : Bool → Option R) : Option R :=
  cond (decide (v160 < v153)) (cond (decide (0 ≤ v160)) (cond (decide (v160 < (p0.length : Int))) (G_recv_put_1 cp n (p0.getD (Int.toNat v160) zPiece) p1 (fun r161 => kr (decide (r161 = 0)))) (none)) (none)) (kr false)
def s_slices_BinarySearchFunc_Piece_15 {R : Type} (cp : Nat → Nat → Bool) (n : Nat) (p0 : (List SPiece)) (p1 v153 : Int) (kr : Int → Bool → Option R) : Option R :=
  s_slices_BinarySearchFunc_Piece_11 cp n p0 p1 v153 (fun v160 => s_slices_BinarySearchFunc_Piece_12 cp n p0 p1 v153 v160 (fun v162 => (kr v160 v162)))
def s_slices_BinarySearchFunc_Piece_17 {R : Type} (cp : Nat → Nat → Bool) (n : Nat) (p0 : (List SPiece)) (p1 : Int) (kr : Int → Bool → Option R) : Option R :=
  s_slices_BinarySearchFunc_Piece_1 cp n p0 p1 (fun v153 => s_slices_BinarySearchFunc_Piece_15 cp n p0 p1 v153 (fun v163 v164 => (kr v163 v164)))
def G_slices_BinarySearchFunc_Piece {R : Type} (cp : Nat → Nat → Bool) : Nat → (List SPiece) → Int → (Int → Bool → Option R) → Option R
  | 0, _, _, _ => none
  | n + 1, p0, p1, k =>
    s_slices_BinarySearchFunc_Piece_17 cp n p0 p1 (fun v165 v166 => k v165 v166)
/-! slices.Clone[[]tideway/api.Piece,tideway/api.Piece] -/
def G_slices_Clone_Piece {R : Type} (cp : Nat → Nat → Bool) : Nat → (List SPiece) → ((List SPiece) → Option R) → Option R
  | 0, _, _ => none
  | n + 1, p0, k => cond (cp (0 + p0.length) 32) (k p0) none
/-! slices.Insert[[]tideway/api.Piece,tideway/api.Piece] -/
def G_slices_Insert_Piece {R : Type} (cp : Nat → Nat → Bool) : Nat → (List SPiece) → Int → SPiece → ((List SPiece) → Option R) → Option R
  | 0, _, _, _, _ => none
  | n + 1, p0, p1, p2, k => cond (cp (p0.length + 1) 32) (cond (decide (0 ≤ p1)) (cond (decide (p1 ≤ (p0.length : Int))) (k (insL p0 (Int.toNat p1) p2)) none) none) none
/-! slices.Clip[[]byte,byte] -/
def G_slices_Clip_byte {R : Type} (cp : Nat → Nat → Bool) : Nat → (List Int) → ((List Int) → Option R) → Option R
  | 0, _, _ => none
  | n + 1, p0, k =>
    cond (decide (0 ≤ (p0.length : Int))) (cond (decide ((p0.length : Int) ≤ (p0.length : Int))) (cond (decide ((p0.length : Int) = (p0.length : Int))) (k (p0.take (Int.toNat (p0.length : Int)))) (none)) (none)) (none)
/-! tideway/recv.put -/
def s_recv_put_1 {R : Type} (cp : Nat → Nat → Bool) (n : Nat) (p0 : (List SPiece)) (p1 : SPiece) (kn : (List SPiece) → Option R) : Option R :=
  G_slices_BinarySearchFunc_Piece cp n p0 p1.xFrom (fun r179 r180 => G_slices_Clone_Piece cp n p0 (fun r181 => G_bytes_Clone cp n p1.xData (fun r182 => G_slices_Insert_Piece cp n r181 r179 (SPiece.mk p1.xFrom r182) (fun r183 => kn r183))))
def s_recv_put_3 {R : Type} (cp : Nat → Nat → Bool) (n : Nat) (v184 : (List SPiece)) (kn : Int → Option R) : Option R :=
  kn (v184.length : Int)
def s_recv_put_5 {R : Type} (cp : Nat → Nat → Bool) (n : Nat) (v184 : (List SPiece)) (v185 : Int) (v186 : (List SPiece)) (v187 : Int) (kn : (List SPiece) → Int → Option R) (ke0 : Option R) : Option R :=
  cond (decide (v187 < v185)) (cond (decide (0 ≤ v187)) (cond (decide (v187 < (v184.length : Int))) (cond (decide (0 < (v186.length : Int))) (cond (decide (0 ≤ wr .i64 ((v186.length : Int) - 1))) (cond (decide (wr .i64 ((v186.length : Int) - 1) < (v186.length : Int))) (cond (decide ((Int.toNat (wr .i64 ((v186.length : Int) - 1))) < v186.length)) (G_recv_of cp n (v186.getD (Int.toNat (wr .i64 ((v186.length : Int) - 1))) zPiece) (fun r188 => cond (decide (r188.xTo = ((v184.getD (Int.toNat v187) zPiece).xFrom))) (cond (decide (0 ≤ wr .i64 ((v186.length : Int) - 1))) (cond (decide (wr .i64 ((v186.length : Int) - 1) < (v186.length : Int))) (cond (decide ((Int.toNat (wr .i64 ((v186.length : Int) - 1))) < v186.length)) (G_slices_Clip_byte cp n ((v186.getD (Int.toNat (wr .i64 ((v186.length : Int) - 1))) zPiece).xData) (fun r189 => cond (cp (r189.length + ((v184.getD (Int.toNat v187) zPiece).xData).length) 1) (cond (decide (0 ≤ wr .i64 ((v186.length : Int) - 1))) (cond (decide (wr .i64 ((v186.length : Int) - 1) < (v186.length : Int))) (cond (decide ((Int.toNat (wr .i64 ((v186.length : Int) - 1))) < v186.length)) (kn (v186.set (Int.toNat (wr .i64 ((v186.length : Int) - 1))) (SPiece.mk ((v186.getD (Int.toNat (wr .i64 ((v186.length : Int) - 1))) zPiece).xFrom) (r189 ++ ((v184.getD (Int.toNat v187) zPiece).xData)))) (wr .i64 (v187 + 1))) (none)) (none)) (none)) (none))) (none)) (none)) (none)) (cond (cp (v186.length + [(v184.getD (Int.toNat v187) zPiece)].length) 32) (kn (v186 ++ [(v184.getD (Int.toNat v187) zPiece)]) (wr .i64 (v187 + 1))) (none)))) (none)) (none)) (none)) (cond (cp (v186.length + [(v184.getD (Int.toNat v187) zPiece)].length) 32) (kn (v186 ++ [(v184.getD (Int.toNat v187) zPiece)]) (wr .i64 (v187 + 1))) (none))) (none)) (none)) (ke0)
def l_recv_put_10 {R : Type} (cp : Nat → Nat → Bool) (n : Nat) : Nat → (List SPiece) → Int → (List SPiece) → Int → ((List SPiece) → Option R) → Option R
  | 0, _, _, _, _, _ => none
  | m + 1, v184, v185, v186, v187, ke0 =>
    s_recv_put_5 cp n v184 v185 v186 v187 (fun v190 v191 => l_recv_put_10 cp n m v184 v185 v190 v191 ke0) (ke0 v186)
def s_recv_put_11 {R : Type} (cp : Nat → Nat → Bool) (n : Nat) (v184 : (List SPiece)) (v185 : Int) (ke0 : (List SPiece) → Option R) : Option R :=
  l_recv_put_10 cp n n v184 v185 [] 0 ke0
def s_recv_put_13 {R : Type} (cp : Nat → Nat → Bool) (n : Nat) (v184 : (List SPiece)) (v185 : Int) (kn : (List SPiece) → Option R) : Option R :=
  s_recv_put_11 cp n v184 v185 (fun v192 => (kn v192))
def s_recv_put_15 {R : Type} (cp : Nat → Nat → Bool) (n : Nat) (v184 : (List SPiece)) (kn : (List SPiece) → Option R) : Option R :=
  s_recv_put_3 cp n v184 (fun v185 => s_recv_put_13 cp n v184 v185 (fun v193 => (kn v193)))
def s_recv_put_16 {R : Type} (cp : Nat → Nat → Bool) (n : Nat) (v194 : (List SPiece)) (kr : Option R) : Option R :=
  kr
def s_recv_put_19 {R : Type} (cp : Nat → Nat → Bool) (n : Nat) (v184 : (List SPiece)) (kr : (List SPiece) → Option R) : Option R :=
  s_recv_put_15 cp n v184 (fun v194 => s_recv_put_16 cp n v194 (kr v194))
def s_recv_put_21 {R : Type} (cp : Nat → Nat → Bool) (n : Nat) (p0 : (List SPiece)) (p1 : SPiece) (kr : (List SPiece) → Option R) : Option R :=
  s_recv_put_1 cp n p0 p1 (fun v184 => s_recv_put_19 cp n v184 (fun v195 => (kr v195)))
def G_recv_put {R : Type} (cp : Nat → Nat → Bool) : Nat → (List SPiece) → SPiece → ((List SPiece) → Option R) → Option R
  | 0, _, _, _ => none
  | n + 1, p0, p1, k =>
    s_recv_put_21 cp n p0 p1 (fun v196 => k v196)
/-! tideway/recv.take$1 -/
def G_recv_take_1 {R : Type} (cp : Nat → Nat → Bool) : Nat → SSpan → SRecv → Int → (List Int) → Bool → (SRecv → Int → (List Int) → Bool → Option R) → Option R
  | 0, _, _, _, _, _, _ => none
  | n + 1, p0, q0, q1, q2, q3, k =>
    cond (decide (0 ≤ wr .i64 (p0.xFrom - q1))) (cond (decide (wr .i64 (p0.xFrom - q1) ≤ wr .i64 (p0.xTo - q1))) (cond (decide (wr .i64 (p0.xTo - q1) ≤ (q2.length : Int))) (G_recv_put cp n q0.xLate (SPiece.mk p0.xFrom (List.take ((Int.toNat (wr .i64 (p0.xTo - q1))) - (Int.toNat (wr .i64 (p0.xFrom - q1)))) (q2.drop (Int.toNat (wr .i64 (p0.xFrom - q1)))))) (fun r197 => k (SRecv.mk q0.xNext q0.xUnread r197 q0.xCap q0.xShift q0.xEdge q0.xRecent q0.xStamps q0.xSacks q0.xFin q0.xDone q0.xFirst q0.xIrs q0.xOwn q0.xStamp) q1 q2 true)) (none)) (none)) (none)
/-! tideway/recv.take -/
def s_recv_take_1 {R : Type} (cp : Nat → Nat → Bool) (n : Nat) (p0 : SRecv) (p1 : Int) (p2 : (List Int)) (kn : Int → Option R) : Option R :=
  G_recv_limit cp n p0 (fun r180 => cond (decide (0 ≤ p0.xFin)) (kn (mn (mn (wr .i64 (p1 + (p2.length : Int))) r180) p0.xFin)) (kn (mn (wr .i64 (p1 + (p2.length : Int))) r180)))
def s_recv_take_3 {R : Type} (cp : Nat → Nat → Bool) (n : Nat) (p0 : SRecv) (p1 : Int) (p2 : (List Int)) (v181 : Int) (kn : SRecv → Option R) : Option R :=
  G_recv_late cp n p0 (fun r182 => kn r182)
def s_recv_take_7 {R : Type} (cp : Nat → Nat → Bool) (n : Nat) (p0 : SRecv) (p1 : Int) (p2 : (List Int)) (v181 : Int) (v183 : SRecv) (kn : Int → Option R) : Option R :=
  kn (v183.xLate.length : Int)
def s_recv_take_9 {R : Type} (cp : Nat → Nat → Bool) (n : Nat) (p0 : SRecv) (p1 : Int) (p2 : (List Int)) (v181 : Int) (v183 : SRecv) (v184 v185 : Int) (v186 : (List SSpan)) (kn : Option R) (ke0 : Option R) : Option R :=
  cond (decide (v185 < v184)) (kn) (ke0)
def s_recv_take_12 {R : Type} (cp : Nat → Nat → Bool) (n : Nat) (p0 : SRecv) (p1 : Int) (p2 : (List Int)) (v181 : Int) (v183 : SRecv) (v184 v185 : Int) (v186 : (List SSpan)) (kn : Int → (List Int) → Option R) : Option R :=
  cond (decide (0 ≤ v185)) (cond (decide (v185 < (v183.xLate.length : Int))) (kn ((v183.xLate.getD (Int.toNat v185) zPiece).xFrom) ((v183.xLate.getD (Int.toNat v185) zPiece).xData)) (none)) (none)
def s_recv_take_14 {R : Type} (cp : Nat → Nat → Bool) (n : Nat) (p0 : SRecv) (p1 : Int) (p2 : (List Int)) (v181 : Int) (v183 : SRecv) (v184 v185 : Int) (v186 : (List SSpan)) (v187 : Int) (v188 : (List Int)) (ka : Int → Int → Option R) : Option R :=
  G_recv_of cp n (SPiece.mk v187 v188) (fun r189 => ka r189.xFrom r189.xTo)
def s_recv_take_16 {R : Type} (cp : Nat → Nat → Bool) (n : Nat) (p0 : SRecv) (p1 : Int) (p2 : (List Int)) (v181 : Int) (v183 : SRecv) (v186 : (List SSpan)) (v187 : Int) (v188 : (List Int)) (v190 v191 : Int) (kn : (List SSpan) → Option R) : Option R :=
  cond (cp (v186.length + [(SSpan.mk v190 v191)].length) 16) (kn (v186 ++ [(SSpan.mk v190 v191)])) (none)
def s_recv_take_22 {R : Type} (cp : Nat → Nat → Bool) (n : Nat) (p0 : SRecv) (p1 : Int) (p2 : (List Int)) (v181 : Int) (v183 : SRecv) (v184 v185 : Int) (v186 : (List SSpan)) (v187 : Int) (v188 : (List Int)) (kn : (List SSpan) → Option R) : Option R :=
  s_recv_take_14 cp n p0 p1 p2 v181 v183 v184 v185 v186 v187 v188 (fun v190 v191 => s_recv_take_16 cp n p0 p1 p2 v181 v183 v186 v187 v188 v190 v191 (fun v192 => kn v192))
def s_recv_take_23 {R : Type} (cp : Nat → Nat → Bool) (n : Nat) (p0 : SRecv) (p1 : Int) (p2 : (List Int)) (v181 : Int) (v183 : SRecv) (v184 v185 : Int) (v193 : (List SSpan)) (kn : Option R) : Option R :=
  kn
def s_recv_take_26 {R : Type} (cp : Nat → Nat → Bool) (n : Nat) (p0 : SRecv) (p1 : Int) (p2 : (List Int)) (v181 : Int) (v183 : SRecv) (v184 v185 : Int) (v186 : (List SSpan)) (v187 : Int) (v188 : (List Int)) (kn : (List SSpan) → Option R) : Option R :=
  s_recv_take_22 cp n p0 p1 p2 v181 v183 v184 v185 v186 v187 v188 (fun v193 => s_recv_take_23 cp n p0 p1 p2 v181 v183 v184 v185 v193 (kn v193))
def s_recv_take_28 {R : Type} (cp : Nat → Nat → Bool) (n : Nat) (p0 : SRecv) (p1 : Int) (p2 : (List Int)) (v181 : Int) (v183 : SRecv) (v184 v185 : Int) (v186 : (List SSpan)) (kn : (List SSpan) → Option R) : Option R :=
  s_recv_take_12 cp n p0 p1 p2 v181 v183 v184 v185 v186 (fun v187 v188 => s_recv_take_26 cp n p0 p1 p2 v181 v183 v184 v185 v186 v187 v188 (fun v194 => (kn v194)))
def s_recv_take_30 {R : Type} (cp : Nat → Nat → Bool) (n : Nat) (p0 : SRecv) (p1 : Int) (p2 : (List Int)) (v181 : Int) (v183 : SRecv) (v184 v185 : Int) (v186 : (List SSpan)) (kn : (List SSpan) → Option R) : Option R :=
  s_recv_take_28 cp n p0 p1 p2 v181 v183 v184 v185 v186 (fun v195 => (kn v195))
def s_recv_take_31 {R : Type} (cp : Nat → Nat → Bool) (n : Nat) (p0 : SRecv) (p1 : Int) (p2 : (List Int)) (v181 : Int) (v183 : SRecv) (v184 v185 : Int) (v196 : (List SSpan)) (kn : Int → Option R) : Option R :=
  kn (wr .i64 (v185 + 1))
def s_recv_take_34 {R : Type} (cp : Nat → Nat → Bool) (n : Nat) (p0 : SRecv) (p1 : Int) (p2 : (List Int)) (v181 : Int) (v183 : SRecv) (v184 v185 : Int) (v186 : (List SSpan)) (kn : Int → (List SSpan) → Option R) : Option R :=
  s_recv_take_30 cp n p0 p1 p2 v181 v183 v184 v185 v186 (fun v196 => s_recv_take_31 cp n p0 p1 p2 v181 v183 v184 v185 v196 (fun v197 => (kn v197 v196)))
def s_recv_take_36 {R : Type} (cp : Nat → Nat → Bool) (n : Nat) (p0 : SRecv) (p1 : Int) (p2 : (List Int)) (v181 : Int) (v183 : SRecv) (v184 v185 : Int) (v186 : (List SSpan)) (kn : Int → (List SSpan) → Option R) (ke0 : Option R) : Option R :=
  s_recv_take_9 cp n p0 p1 p2 v181 v183 v184 v185 v186 (s_recv_take_34 cp n p0 p1 p2 v181 v183 v184 v185 v186 (fun v198 v199 => (kn v198 v199))) ke0
def l_recv_take_38 {R : Type} (cp : Nat → Nat → Bool) (n : Nat) : Nat → SRecv → Int → (List Int) → Int → SRecv → Int → Int → (List SSpan) → ((List SSpan) → Option R) → Option R
  | 0, _, _, _, _, _, _, _, _, _ => none
  | m + 1, p0, p1, p2, v181, v183, v184, v185, v186, ke0 =>
    s_recv_take_36 cp n p0 p1 p2 v181 v183 v184 v185 v186 (fun v200 v201 => l_recv_take_38 cp n m p0 p1 p2 v181 v183 v184 v200 v201 ke0) (ke0 v186)
def s_recv_take_39 {R : Type} (cp : Nat → Nat → Bool) (n : Nat) (p0 : SRecv) (p1 : Int) (p2 : (List Int)) (v181 : Int) (v183 : SRecv) (v184 : Int) (ke0 : (List SSpan) → Option R) : Option R :=
  l_recv_take_38 cp n n p0 p1 p2 v181 v183 v184 0 [] ke0
def s_recv_take_41 {R : Type} (cp : Nat → Nat → Bool) (n : Nat) (p0 : SRecv) (p1 : Int) (p2 : (List Int)) (v181 : Int) (v183 : SRecv) (v184 : Int) (kn : (List SSpan) → Option R) : Option R :=
  s_recv_take_39 cp n p0 p1 p2 v181 v183 v184 (fun v202 => (kn v202))
def s_recv_take_43 {R : Type} (cp : Nat → Nat → Bool) (n : Nat) (p0 : SRecv) (p1 : Int) (p2 : (List Int)) (v181 : Int) (v183 : SRecv) (kn : (List SSpan) → Option R) : Option R :=
  s_recv_take_7 cp n p0 p1 p2 v181 v183 (fun v184 => s_recv_take_41 cp n p0 p1 p2 v181 v183 v184 (fun v203 => (kn v203)))
def s_recv_take_46 {R : Type} (cp : Nat → Nat → Bool) (n : Nat) (p0 : SRecv) (p1 : Int) (p2 : (List Int)) (v181 : Int) (v183 : SRecv) (kn : (List SSpan) → Option R) : Option R :=
  s_recv_take_43 cp n p0 p1 p2 v181 v183 (fun v204 => (kn v204))
def s_recv_take_48 {R : Type} (cp : Nat → Nat → Bool) (n : Nat) (p0 : SRecv) (p1 : Int) (p2 : (List Int)) (v181 : Int) (v183 : SRecv) (kn : (List SSpan) → Option R) : Option R :=
  s_recv_take_46 cp n p0 p1 p2 v181 v183 (fun v205 => (kn v205))
def s_recv_take_50 {R : Type} (cp : Nat → Nat → Bool) (n : Nat) (p0 : SRecv) (p1 : Int) (p2 : (List Int)) (v181 : Int) (kn : (List SSpan) → Option R) : Option R :=
  s_recv_take_3 cp n p0 p1 p2 v181 (fun v183 => s_recv_take_48 cp n p0 p1 p2 v181 v183 (fun v206 => (kn v206)))
def s_recv_take_51 {R : Type} (cp : Nat → Nat → Bool) (n : Nat) (p0 : SRecv) (p1 : Int) (p2 : (List Int)) (v181 : Int) (v207 : (List SSpan)) (kn : Option R) : Option R :=
  kn
def s_recv_take_53 {R : Type} (cp : Nat → Nat → Bool) (n : Nat) (p0 : SRecv) (p1 : Int) (p2 : (List Int)) (v181 : Int) (v207 : (List SSpan)) (kn : Int → Bool → Option R) : Option R :=
  kn (mx p1 p0.xNext) (decide ((mx p1 p0.xNext) < v181))
def s_recv_take_55 {R : Type} (cp : Nat → Nat → Bool) (n : Nat) (p0 : SRecv) (p1 : Int) (p2 : (List Int)) (v181 : Int) (v207 : (List SSpan)) (v208 : Int) (v209 : Bool) (kn : (List SSpan) → Int → Option R) : Option R :=
  G_span_Gaps cp n v207 (SSpan.mk v208 v181) (fun r210 => kn r210 (r210.length : Int))
def s_recv_take_57 {R : Type} (cp : Nat → Nat → Bool) (n : Nat) (v211 : (List SSpan)) (v212 v213 : Int) (v214 : SRecv) (v215 : Int) (v216 : (List Int)) (v217 : Bool) (kn : Int → SRecv → Int → (List Int) → Bool → Option R) (ke2 : Option R) : Option R :=
  cond (decide (v213 < v212)) (cond (decide (0 ≤ v213)) (cond (decide (v213 < (v211.length : Int))) (G_recv_take_1 cp n (v211.getD (Int.toNat v213) zSpan) v214 v215 v216 v217 (fun r218 r219 r220 r221 => kn (wr .i64 (v213 + 1)) r218 r219 r220 r221)) (none)) (none)) (ke2)
def l_recv_take_62 {R : Type} (cp : Nat → Nat → Bool) (n : Nat) : Nat → (List SSpan) → Int → Int → SRecv → Int → (List Int) → Bool → (SRecv → Bool → Option R) → Option R
  | 0, _, _, _, _, _, _, _, _ => none
  | m + 1, v211, v212, v213, v214, v215, v216, v217, ke2 =>
    s_recv_take_57 cp n v211 v212 v213 v214 v215 v216 v217 (fun v222 v223 v224 v225 v226 => l_recv_take_62 cp n m v211 v212 v222 v223 v224 v225 v226 ke2) (ke2 v214 v217)
def s_recv_take_63 {R : Type} (cp : Nat → Nat → Bool) (n : Nat) (p0 : SRecv) (p1 : Int) (p2 : (List Int)) (v211 : (List SSpan)) (v212 : Int) (ke2 : SRecv → Bool → Option R) : Option R :=
  l_recv_take_62 cp n n v211 v212 0 p0 p1 p2 false ke2
def s_recv_take_65 {R : Type} (cp : Nat → Nat → Bool) (n : Nat) (p0 : SRecv) (p1 : Int) (p2 : (List Int)) (v211 : (List SSpan)) (v212 : Int) (kn : SRecv → Bool → Option R) : Option R :=
  s_recv_take_63 cp n p0 p1 p2 v211 v212 (fun v227 v228 => (kn v227 v228))
def s_recv_take_67 {R : Type} (cp : Nat → Nat → Bool) (n : Nat) (p0 : SRecv) (p1 : Int) (p2 : (List Int)) (v181 : Int) (v207 : (List SSpan)) (v208 : Int) (v209 : Bool) (kn : SRecv → Bool → Option R) : Option R :=
  s_recv_take_55 cp n p0 p1 p2 v181 v207 v208 v209 (fun v211 v212 => s_recv_take_65 cp n p0 p1 p2 v211 v212 (fun v229 v230 => (kn v229 v230)))
def s_recv_take_68 {R : Type} (cp : Nat → Nat → Bool) (n : Nat) (p0 : SRecv) (p1 : Int) (p2 : (List Int)) (v181 : Int) (v207 : (List SSpan)) (v208 : Int) (v209 : Bool) (kn : Option R) : Option R :=
  kn
def s_recv_take_69 {R : Type} (cp : Nat → Nat → Bool) (n : Nat) (p0 : SRecv) (p1 : Int) (p2 : (List Int)) (v181 : Int) (v207 : (List SSpan)) (v208 : Int) (v209 : Bool) (kn : SRecv → Bool → Option R) : Option R :=
  cond (v209) (s_recv_take_67 cp n p0 p1 p2 v181 v207 v208 v209 (fun v231 v232 => (kn v231 v232))) (s_recv_take_68 cp n p0 p1 p2 v181 v207 v208 v209 (kn p0 false))
def s_recv_take_72 {R : Type} (cp : Nat → Nat → Bool) (n : Nat) (p0 : SRecv) (p1 : Int) (p2 : (List Int)) (v181 : Int) (v207 : (List SSpan)) (kn : SRecv → Bool → Option R) : Option R :=
  s_recv_take_53 cp n p0 p1 p2 v181 v207 (fun v208 v209 => s_recv_take_69 cp n p0 p1 p2 v181 v207 v208 v209 (fun v233 v234 => (kn v233 v234)))
def s_recv_take_73 {R : Type} (cp : Nat → Nat → Bool) (n : Nat) (v236 : Bool) (v237 : SRecv) (kn : SRecv → Option R) (ke4 : Option R) : Option R :=
  cond (decide (0 < (v237.xLate.length : Int))) (cond (decide (0 < (v237.xLate.length : Int))) (cond (decide (((v237.xLate.getD 0 zPiece).xFrom) = v237.xNext)) (cond (decide (0 < (v237.xLate.length : Int))) (cond (cp (v237.xUnread.length + ((v237.xLate.getD 0 zPiece).xData).length) 1) (cond (decide (0 < (v237.xLate.length : Int))) (cond (decide (1 ≤ (v237.xLate.length : Int))) (kn (SRecv.mk (wr .i64 (v237.xNext + (((v237.xLate.getD 0 zPiece).xData).length : Int))) (v237.xUnread ++ ((v237.xLate.getD 0 zPiece).xData)) (List.take (v237.xLate.length - 1) (v237.xLate.drop 1)) v237.xCap v237.xShift v237.xEdge v237.xRecent v237.xStamps v237.xSacks v237.xFin v237.xDone v237.xFirst v237.xIrs v237.xOwn v237.xStamp)) (none)) (none)) (none)) (none)) (ke4)) (none)) (ke4)
def l_recv_take_77 {R : Type} (cp : Nat → Nat → Bool) (n : Nat) : Nat → Bool → SRecv → (SRecv → Option R) → Option R
  | 0, _, _, _ => none
  | m + 1, v236, v237, ke4 =>
    s_recv_take_73 cp n v236 v237 (fun v238 => l_recv_take_77 cp n m v236 v238 ke4) (ke4 v237)
def s_recv_take_78 {R : Type} (cp : Nat → Nat → Bool) (n : Nat) (v235 : SRecv) (v236 : Bool) (ke4 : SRecv → Option R) : Option R :=
  l_recv_take_77 cp n n v236 v235 ke4
def s_recv_take_80 {R : Type} (cp : Nat → Nat → Bool) (n : Nat) (v235 : SRecv) (v236 : Bool) (ke4 : SRecv → Option R) : Option R :=
  s_recv_take_78 cp n v235 v236 ke4
def s_recv_take_82 {R : Type} (cp : Nat → Nat → Bool) (n : Nat) (v235 : SRecv) (v236 : Bool) (kn : SRecv → Option R) : Option R :=
  s_recv_take_80 cp n v235 v236 (fun v239 => (kn v239))
def s_recv_take_83 {R : Type} (cp : Nat → Nat → Bool) (n : Nat) (v236 : Bool) (v240 : SRecv) (kr : Option R) : Option R :=
  kr
def s_recv_take_86 {R : Type} (cp : Nat → Nat → Bool) (n : Nat) (v235 : SRecv) (v236 : Bool) (kr : SRecv → Option R) : Option R :=
  s_recv_take_82 cp n v235 v236 (fun v240 => s_recv_take_83 cp n v236 v240 (kr v240))
def s_recv_take_88 {R : Type} (cp : Nat → Nat → Bool) (n : Nat) (p0 : SRecv) (p1 : Int) (p2 : (List Int)) (v181 : Int) (v207 : (List SSpan)) (kr : Bool → SRecv → Option R) : Option R :=
  s_recv_take_72 cp n p0 p1 p2 v181 v207 (fun v235 v236 => s_recv_take_86 cp n v235 v236 (fun v241 => (kr v236 v241)))
def s_recv_take_90 {R : Type} (cp : Nat → Nat → Bool) (n : Nat) (p0 : SRecv) (p1 : Int) (p2 : (List Int)) (v181 : Int) (v207 : (List SSpan)) (kr : Bool → SRecv → Option R) : Option R :=
  s_recv_take_51 cp n p0 p1 p2 v181 v207 (s_recv_take_88 cp n p0 p1 p2 v181 v207 (fun v242 v243 => (kr v242 v243)))
def s_recv_take_92 {R : Type} (cp : Nat → Nat → Bool) (n : Nat) (p0 : SRecv) (p1 : Int) (p2 : (List Int)) (v181 : Int) (kr : Bool → SRecv → Option R) : Option R :=
  s_recv_take_50 cp n p0 p1 p2 v181 (fun v207 => s_recv_take_90 cp n p0 p1 p2 v181 v207 (fun v244 v245 => (kr v244 v245)))
def s_recv_take_94 {R : Type} (cp : Nat → Nat → Bool) (n : Nat) (p0 : SRecv) (p1 : Int) (p2 : (List Int)) (kr : Bool → SRecv → Option R) : Option R :=
  s_recv_take_1 cp n p0 p1 p2 (fun v181 => s_recv_take_92 cp n p0 p1 p2 v181 (fun v246 v247 => (kr v246 v247)))
def G_recv_take {R : Type} (cp : Nat → Nat → Bool) : Nat → SRecv → Int → (List Int) → (SRecv → Bool → Option R) → Option R
  | 0, _, _, _, _ => none
  | n + 1, p0, p1, p2, k =>
    s_recv_take_94 cp n p0 p1 p2 (fun v248 v249 => k v249 v248)
/-! tideway/recv.firsts$1 -/
def G_recv_firsts_1 {R : Type} (cp : Nat → Nat → Bool) : Nat → SSpan → SSpan → (Bool → SSpan → Option R) → Option R
  | 0, _, _, _ => none
  | n + 1, p0, q0, k =>
    cond (decide (p0.xFrom ≤ q0.xFrom)) (k (decide (q0.xTo ≤ p0.xTo)) q0) (k false q0)
/-! slices.IndexFunc[[]tideway/api.Span,tideway/api.Span] -/
def s_slices_IndexFunc_Span_1 {R : Type} (cp : Nat → Nat → Bool) (n : Nat) (p0 : (List SSpan)) (q0 : SSpan) (kn : Option R) : Option R :=
  kn
def s_slices_IndexFunc_Span_3 {R : Type} (cp : Nat → Nat → Bool) (n : Nat) (p0 : (List SSpan)) (q0 : SSpan) (kn : Int → Option R) : Option R :=
  kn (p0.length : Int)
def s_slices_IndexFunc_Span_5 {R : Type} (cp : Nat → Nat → Bool) (n : Nat) (p0 : (List SSpan)) (v267 v268 v269 v270 : Int) (kn : Int → Int → Int → Option R) (kr : Int → Int → Option R) (ke0 : Option R) : Option R :=
  cond (decide (v268 < v267)) (cond (decide (0 ≤ v268)) (cond (decide (v268 < (p0.length : Int))) (G_recv_firsts_1 cp n (p0.getD (Int.toNat v268) zSpan) (SSpan.mk v269 v270) (fun r271 r272 => cond (r271) (kr r272.xFrom r272.xTo) (kn (wr .i64 (v268 + 1)) r272.xFrom r272.xTo))) (none)) (none)) (ke0)
def l_slices_IndexFunc_Span_12 {R : Type} (cp : Nat → Nat → Bool) (n : Nat) : Nat → (List SSpan) → Int → Int → Int → Int → (Int → Int → Int → Option R) → (Int → Int → Option R) → Option R
  | 0, _, _, _, _, _, _, _ => none
  | m + 1, p0, v267, v268, v269, v270, kr, ke0 =>
    s_slices_IndexFunc_Span_5 cp n p0 v267 v268 v269 v270 (fun v273 v274 v275 => l_slices_IndexFunc_Span_12 cp n m p0 v267 v273 v274 v275 kr ke0) (fun v276 v277 => (kr v268 v276 v277)) (ke0 v269 v270)
def s_slices_IndexFunc_Span_13 {R : Type} (cp : Nat → Nat → Bool) (n : Nat) (p0 : (List SSpan)) (q0 : SSpan) (v267 : Int) (kr : Int → Int → Int → Option R) (ke0 : Int → Int → Option R) : Option R :=
  l_slices_IndexFunc_Span_12 cp n n p0 v267 0 q0.xFrom q0.xTo kr ke0
def s_slices_IndexFunc_Span_16 {R : Type} (cp : Nat → Nat → Bool) (n : Nat) (p0 : (List SSpan)) (q0 : SSpan) (v267 : Int) (kn : Int → Int → Option R) (kr : Int → Int → Int → Option R) : Option R :=
  s_slices_IndexFunc_Span_13 cp n p0 q0 v267 (fun v278 v279 v280 => (kr v278 v279 v280)) (fun v281 v282 => (kn v281 v282))
def s_slices_IndexFunc_Span_19 {R : Type} (cp : Nat → Nat → Bool) (n : Nat) (p0 : (List SSpan)) (q0 : SSpan) (kn : Int → Int → Option R) (kr : Int → Int → Int → Option R) : Option R :=
  s_slices_IndexFunc_Span_3 cp n p0 q0 (fun v267 => s_slices_IndexFunc_Span_16 cp n p0 q0 v267 (fun v283 v284 => (kn v283 v284)) (fun v285 v286 v287 => (kr v285 v286 v287)))
def s_slices_IndexFunc_Span_20 {R : Type} (cp : Nat → Nat → Bool) (n : Nat) (v288 v289 : Int) (kr : Option R) : Option R :=
  kr
def s_slices_IndexFunc_Span_23 {R : Type} (cp : Nat → Nat → Bool) (n : Nat) (p0 : (List SSpan)) (q0 : SSpan) (kr : Int → Int → Int → Option R) : Option R :=
  s_slices_IndexFunc_Span_19 cp n p0 q0 (fun v288 v289 => s_slices_IndexFunc_Span_20 cp n v288 v289 (kr (-1) v288 v289)) (fun v290 v291 v292 => (kr v290 v291 v292))
def s_slices_IndexFunc_Span_25 {R : Type} (cp : Nat → Nat → Bool) (n : Nat) (p0 : (List SSpan)) (q0 : SSpan) (kr : Int → Int → Int → Option R) : Option R :=
  s_slices_IndexFunc_Span_1 cp n p0 q0 (s_slices_IndexFunc_Span_23 cp n p0 q0 (fun v293 v294 v295 => (kr v293 v294 v295)))
def G_slices_IndexFunc_Span {R : Type} (cp : Nat → Nat → Bool) : Nat → (List SSpan) → SSpan → (Int → SSpan → Option R) → Option R
  | 0, _, _, _ => none
  | n + 1, p0, q0, k =>
    s_slices_IndexFunc_Span_25 cp n p0 q0 (fun v296 v297 v298 => k v296 (SSpan.mk v297 v298))
/-! tideway/recv.firsts -/
def s_recv_firsts_1 {R : Type} (cp : Nat → Nat → Bool) (n : Nat) (p0 : SRecv) (p1 : Int) (p2 : (List Int)) (kn : (List SSpan) → Option R) : Option R :=
  G_recv_late cp n p0 (fun r255 => G_slices_Collect cp n r255 (fun r256 r257 => kn r256))
def s_recv_firsts_3 {R : Type} (cp : Nat → Nat → Bool) (n : Nat) (p0 : SRecv) (p1 : Int) (p2 : (List Int)) (v258 : (List SSpan)) (kn : Int → Option R) : Option R :=
  kn (wr .i64 ((v258.length : Int) - 1))
def s_recv_firsts_5 {R : Type} (cp : Nat → Nat → Bool) (n : Nat) (p0 : SRecv) (p1 : Int) (p2 : (List Int)) (v258 : (List SSpan)) (v260 : Int) (kn : Int → Option R) (ke0 : (List SSpan) → Option R) : Option R :=
  cond (decide (0 ≤ v260)) (cond (decide (0 ≤ v260)) (cond (decide (v260 < (v258.length : Int))) (cond (decide (((v258.getD (Int.toNat v260) zSpan).xFrom) < (wr .i64 (p1 + (p2.length : Int))))) (cond (decide (0 ≤ v260)) (cond (decide (v260 < (v258.length : Int))) (cond (decide (p1 < ((v258.getD (Int.toNat v260) zSpan).xTo))) (cond (decide (0 < (p2.length : Int))) (cond (decide (0 ≤ v260)) (cond (decide (v260 < (v258.length : Int))) (cond (cp ([(v258.getD (Int.toNat v260) zSpan)].length + p0.xFirst.length) 16) (ke0 ([(v258.getD (Int.toNat v260) zSpan)] ++ p0.xFirst)) (none)) (none)) (none)) (kn (wr .i64 (v260 - 1)))) (kn (wr .i64 (v260 - 1)))) (none)) (none)) (kn (wr .i64 (v260 - 1)))) (none)) (none)) (ke0 p0.xFirst)
def l_recv_firsts_10 {R : Type} (cp : Nat → Nat → Bool) (n : Nat) : Nat → SRecv → Int → (List Int) → (List SSpan) → Int → ((List SSpan) → Option R) → Option R
  | 0, _, _, _, _, _, _ => none
  | m + 1, p0, p1, p2, v258, v260, ke0 =>
    s_recv_firsts_5 cp n p0 p1 p2 v258 v260 (fun v261 => l_recv_firsts_10 cp n m p0 p1 p2 v258 v261 ke0) (fun v262 => (ke0 v262))
def s_recv_firsts_11 {R : Type} (cp : Nat → Nat → Bool) (n : Nat) (p0 : SRecv) (p1 : Int) (p2 : (List Int)) (v258 : (List SSpan)) (v259 : Int) (ke0 : (List SSpan) → Option R) : Option R :=
  l_recv_firsts_10 cp n n p0 p1 p2 v258 v259 ke0
def s_recv_firsts_13 {R : Type} (cp : Nat → Nat → Bool) (n : Nat) (p0 : SRecv) (p1 : Int) (p2 : (List Int)) (v258 : (List SSpan)) (v259 : Int) (kn : (List SSpan) → Option R) : Option R :=
  s_recv_firsts_11 cp n p0 p1 p2 v258 v259 (fun v263 => (kn v263))
def s_recv_firsts_15 {R : Type} (cp : Nat → Nat → Bool) (n : Nat) (p0 : SRecv) (p1 : Int) (p2 : (List Int)) (v258 : (List SSpan)) (kn : (List SSpan) → Option R) : Option R :=
  s_recv_firsts_3 cp n p0 p1 p2 v258 (fun v259 => s_recv_firsts_13 cp n p0 p1 p2 v258 v259 (fun v264 => (kn v264)))
def s_recv_firsts_16 {R : Type} (cp : Nat → Nat → Bool) (n : Nat) (v258 v265 : (List SSpan)) (kn : Option R) : Option R :=
  kn
def s_recv_firsts_18 {R : Type} (cp : Nat → Nat → Bool) (n : Nat) (v258 v265 : (List SSpan)) (kn : Int → Option R) : Option R :=
  kn (v265.length : Int)
def s_recv_firsts_20 {R : Type} (cp : Nat → Nat → Bool) (n : Nat) (v258 v265 : (List SSpan)) (v266 : Int) (v267 : (List SSpan)) (v268 : Int) (kn : (List SSpan) → Int → Option R) (ke2 : Option R) : Option R :=
  cond (decide (v268 < v266)) (cond (decide (0 ≤ v268)) (cond (decide (v268 < (v265.length : Int))) (G_slices_IndexFunc_Span cp n v258 (v265.getD (Int.toNat v268) zSpan) (fun r269 r270 => cond (decide (0 ≤ r269)) (cond (decide (0 ≤ r269)) (cond (decide (r269 < (v258.length : Int))) (G_slices_Contains_Span cp n v267 (v258.getD (Int.toNat r269) zSpan) (fun r271 => cond (!r271) (cond (decide (0 ≤ r269)) (cond (decide (r269 < (v258.length : Int))) (cond (cp (v267.length + [(v258.getD (Int.toNat r269) zSpan)].length) 16) (kn (v267 ++ [(v258.getD (Int.toNat r269) zSpan)]) (wr .i64 (v268 + 1))) (none)) (none)) (none)) (kn v267 (wr .i64 (v268 + 1))))) (none)) (none)) (kn v267 (wr .i64 (v268 + 1))))) (none)) (none)) (ke2)
def l_recv_firsts_25 {R : Type} (cp : Nat → Nat → Bool) (n : Nat) : Nat → (List SSpan) → (List SSpan) → Int → (List SSpan) → Int → ((List SSpan) → Option R) → Option R
  | 0, _, _, _, _, _, _ => none
  | m + 1, v258, v265, v266, v267, v268, ke2 =>
    s_recv_firsts_20 cp n v258 v265 v266 v267 v268 (fun v272 v273 => l_recv_firsts_25 cp n m v258 v265 v266 v272 v273 ke2) (ke2 v267)
def s_recv_firsts_26 {R : Type} (cp : Nat → Nat → Bool) (n : Nat) (v258 v265 : (List SSpan)) (v266 : Int) (ke2 : (List SSpan) → Option R) : Option R :=
  l_recv_firsts_25 cp n n v258 v265 v266 [] 0 ke2
def s_recv_firsts_28 {R : Type} (cp : Nat → Nat → Bool) (n : Nat) (v258 v265 : (List SSpan)) (v266 : Int) (kn : (List SSpan) → Option R) : Option R :=
  s_recv_firsts_26 cp n v258 v265 v266 (fun v274 => (kn v274))
def s_recv_firsts_30 {R : Type} (cp : Nat → Nat → Bool) (n : Nat) (v258 v265 : (List SSpan)) (kn : (List SSpan) → Option R) : Option R :=
  s_recv_firsts_18 cp n v258 v265 (fun v266 => s_recv_firsts_28 cp n v258 v265 v266 (fun v275 => (kn v275)))
def s_recv_firsts_31 {R : Type} (cp : Nat → Nat → Bool) (n : Nat) (v276 : (List SSpan)) (kr : Option R) : Option R :=
  kr
def s_recv_firsts_34 {R : Type} (cp : Nat → Nat → Bool) (n : Nat) (v258 v265 : (List SSpan)) (kr : (List SSpan) → Option R) : Option R :=
  s_recv_firsts_30 cp n v258 v265 (fun v276 => s_recv_firsts_31 cp n v276 (kr v276))
def s_recv_firsts_36 {R : Type} (cp : Nat → Nat → Bool) (n : Nat) (v258 v265 : (List SSpan)) (kr : (List SSpan) → Option R) : Option R :=
  s_recv_firsts_16 cp n v258 v265 (s_recv_firsts_34 cp n v258 v265 (fun v277 => (kr v277)))
def s_recv_firsts_38 {R : Type} (cp : Nat → Nat → Bool) (n : Nat) (p0 : SRecv) (p1 : Int) (p2 : (List Int)) (v258 : (List SSpan)) (kr : (List SSpan) → Option R) : Option R :=
  s_recv_firsts_15 cp n p0 p1 p2 v258 (fun v265 => s_recv_firsts_36 cp n v258 v265 (fun v278 => (kr v278)))
def s_recv_firsts_40 {R : Type} (cp : Nat → Nat → Bool) (n : Nat) (p0 : SRecv) (p1 : Int) (p2 : (List Int)) (kr : (List SSpan) → Option R) : Option R :=
  s_recv_firsts_1 cp n p0 p1 p2 (fun v258 => s_recv_firsts_38 cp n p0 p1 p2 v258 (fun v279 => (kr v279)))
def G_recv_firsts {R : Type} (cp : Nat → Nat → Bool) : Nat → SRecv → Int → (List Int) → ((List SSpan) → Option R) → Option R
  | 0, _, _, _, _ => none
  | n + 1, p0, p1, p2, k =>
    s_recv_firsts_40 cp n p0 p1 p2 (fun v280 => k v280)
/-! tideway/recv.Input -/
def s_recv_Input_1 {R : Type} (cp : Nat → Nat → Bool) (n : Nat) (p0 : SRecv) (p1 : SSegment) (kn : Int → SRecv → Option R) (kr : Int → SRecv → Option R) : Option R :=
  G_recv_Check cp n p0 (fun r24 => cond (!decide (r24 = 0)) (kr r24 (SRecv.mk 0 [] [] 0 0 0 0 false false 0 false [] 0 0 false)) (G_recv_copied cp n p0 (fun r25 => cond (r25.xStamps) (cond (!p1.xStamped) (kr 0 r25) (G_seq_Unwrap cp n r25.xNext (wr .u32 (p1.xSeq - r25.xIrs)) (fun r26 => kn r26 r25))) (G_seq_Unwrap cp n r25.xNext (wr .u32 (p1.xSeq - r25.xIrs)) (fun r27 => kn r27 r25)))))
def s_recv_Input_4 {R : Type} (cp : Nat → Nat → Bool) (n : Nat) (p1 : SSegment) (v28 : Int) (v29 : SRecv) (kn : Option R) (kr : SRecv → SSegment → Option R) : Option R :=
  cond (v29.xStamps) (cond (v29.xStamp) (G_seq_Diff cp n v29.xRecent p1.xVal (fun r32 => cond (decide (r32 < 0)) (G_recv_tell cp n v29 [] (fun r33 r34 => kr r33 r34)) (kn))) (kn)) (kn)
def s_recv_Input_6 {R : Type} (cp : Nat → Nat → Bool) (n : Nat) (p1 : SSegment) (v28 : Int) (v29 : SRecv) (kn : Int → Bool → Option R) : Option R :=
  cond (v29.xStamps) (cond (decide (v28 ≤ v29.xNext)) (kn p1.xVal true) (kn v29.xRecent v29.xStamp)) (kn v29.xRecent v29.xStamp)
def s_recv_Input_8 {R : Type} (cp : Nat → Nat → Bool) (n : Nat) (p1 : SSegment) (v28 : Int) (v29 : SRecv) (v37 : Int) (v38 : Bool) (kn : Bool → SRecv → Option R) : Option R :=
  cond (decide (0 < (bits .and .i64 p1.xFlags 1))) (G_recv_end cp n (SRecv.mk v29.xNext v29.xUnread v29.xLate v29.xCap v29.xShift v29.xEdge v37 v29.xStamps v29.xSacks v29.xFin v29.xDone v29.xFirst v29.xIrs v29.xOwn v38) (wr .i64 (v28 + (p1.xData.length : Int))) (fun r45 => G_recv_take cp n (SRecv.mk v29.xNext v29.xUnread v29.xLate v29.xCap v29.xShift v29.xEdge v37 v29.xStamps v29.xSacks r45 v29.xDone v29.xFirst v29.xIrs v29.xOwn v38) v28 p1.xData (fun r46 r47 => kn r47 (SRecv.mk r46.xNext r46.xUnread r46.xLate r46.xCap r46.xShift r46.xEdge r46.xRecent r46.xStamps r46.xSacks r46.xFin (decide (r46.xFin = r46.xNext)) r46.xFirst r46.xIrs r46.xOwn r46.xStamp)))) (G_recv_take cp n (SRecv.mk v29.xNext v29.xUnread v29.xLate v29.xCap v29.xShift v29.xEdge v37 v29.xStamps v29.xSacks v29.xFin v29.xDone v29.xFirst v29.xIrs v29.xOwn v38) v28 p1.xData (fun r48 r49 => kn r49 (SRecv.mk r48.xNext r48.xUnread r48.xLate r48.xCap r48.xShift r48.xEdge r48.xRecent r48.xStamps r48.xSacks r48.xFin (decide (r48.xFin = r48.xNext)) r48.xFirst r48.xIrs r48.xOwn r48.xStamp)))
def s_recv_Input_10 {R : Type} (cp : Nat → Nat → Bool) (n : Nat) (p1 : SSegment) (v28 : Int) (v50 : Bool) (v51 : SRecv) (kn : (List SSpan) → Option R) : Option R :=
  G_recv_firsts cp n v51 v28 p1.xData (fun r53 => kn r53)
def s_recv_Input_12 {R : Type} (cp : Nat → Nat → Bool) (n : Nat) (p1 : SSegment) (v28 : Int) (v50 : Bool) (v51 : SRecv) (v54 : (List SSpan)) (kn : (List SBlock) → Option R) : Option R :=
  cond (v51.xSacks) (cond (decide (0 < (p1.xData.length : Int))) (cond (decide (0 ≤ v28)) (cond (!v50) (G_seq_Add cp n p1.xSeq (p1.xData.length : Int) (fun r55 => kn [(SBlock.mk p1.xSeq r55)])) (kn [])) (kn [])) (kn [])) (kn [])
def s_recv_Input_14 {R : Type} (cp : Nat → Nat → Bool) (n : Nat) (v51 : SRecv) (v54 : (List SSpan)) (v56 : (List SBlock)) (kr : SRecv → SSegment → Option R) : Option R :=
  G_recv_tell cp n (SRecv.mk v51.xNext v51.xUnread v51.xLate v51.xCap v51.xShift v51.xEdge v51.xRecent v51.xStamps v51.xSacks v51.xFin v51.xDone v54 v51.xIrs v51.xOwn v51.xStamp) v56 (fun r57 r58 => kr r57 r58)
def s_recv_Input_17 {R : Type} (cp : Nat → Nat → Bool) (n : Nat) (p1 : SSegment) (v28 : Int) (v50 : Bool) (v51 : SRecv) (v54 : (List SSpan)) (kr : SRecv → SSegment → Option R) : Option R :=
  s_recv_Input_12 cp n p1 v28 v50 v51 v54 (fun v56 => s_recv_Input_14 cp n v51 v54 v56 (fun v59 v60 => (kr v59 v60)))
def s_recv_Input_19 {R : Type} (cp : Nat → Nat → Bool) (n : Nat) (p1 : SSegment) (v28 : Int) (v50 : Bool) (v51 : SRecv) (kr : SRecv → SSegment → Option R) : Option R :=
  s_recv_Input_10 cp n p1 v28 v50 v51 (fun v54 => s_recv_Input_17 cp n p1 v28 v50 v51 v54 (fun v61 v62 => (kr v61 v62)))
def s_recv_Input_21 {R : Type} (cp : Nat → Nat → Bool) (n : Nat) (p1 : SSegment) (v28 : Int) (v29 : SRecv) (v37 : Int) (v38 : Bool) (kr : SRecv → SSegment → Option R) : Option R :=
  s_recv_Input_8 cp n p1 v28 v29 v37 v38 (fun v50 v51 => s_recv_Input_19 cp n p1 v28 v50 v51 (fun v63 v64 => (kr v63 v64)))
def s_recv_Input_23 {R : Type} (cp : Nat → Nat → Bool) (n : Nat) (p1 : SSegment) (v28 : Int) (v29 : SRecv) (kr : SRecv → SSegment → Option R) : Option R :=
  s_recv_Input_6 cp n p1 v28 v29 (fun v37 v38 => s_recv_Input_21 cp n p1 v28 v29 v37 v38 (fun v65 v66 => (kr v65 v66)))
def s_recv_Input_25 {R : Type} (cp : Nat → Nat → Bool) (n : Nat) (p1 : SSegment) (v28 : Int) (v29 : SRecv) (kr : SRecv → SSegment → Option R) : Option R :=
  s_recv_Input_4 cp n p1 v28 v29 (s_recv_Input_23 cp n p1 v28 v29 (fun v67 v68 => (kr v67 v68))) (fun v35 v36 => (kr v35 v36))
def s_recv_Input_27 {R : Type} (cp : Nat → Nat → Bool) (n : Nat) (p0 : SRecv) (p1 : SSegment) (kr : Bool → Int → SRecv → SSegment → Option R) : Option R :=
  s_recv_Input_1 cp n p0 p1 (fun v28 v29 => s_recv_Input_25 cp n p1 v28 v29 (fun v69 v70 => (kr true 0 v69 v70))) (fun v30 v31 => (kr false v30 v31 (SSegment.mk 0 0 0 0 0 0 0 0 0 false false 0 0 [] [])))
def G_recv_Input {R : Type} (cp : Nat → Nat → Bool) : Nat → SRecv → SSegment → (SRecv → SSegment → Bool → Int → Option R) → Option R
  | 0, _, _, _ => none
  | n + 1, p0, p1, k =>
    s_recv_Input_27 cp n p0 p1 (fun v71 v72 v73 v74 => k v73 v74 v71 v72)
/-! tideway/seq.Clamp -/
def G_seq_Clamp {R : Type} (cp : Nat → Nat → Bool) : Nat → Int → Int → Int → (Int → Option R) → Option R
  | 0, _, _, _, _ => none
  | n + 1, p0, p1, p2, k =>
    k (mx p1 (mn p0 p2))
/-! tideway/recv.Read -/
def s_recv_Read_1 {R : Type} (cp : Nat → Nat → Bool) (n : Nat) (p0 : SRecv) (p1 : Int) (kn : (List Int) → SRecv → Option R) (kr : Int → Option R) : Option R :=
  G_recv_Check cp n p0 (fun r93 => cond (!decide (r93 = 0)) (kr r93) (G_recv_copied cp n p0 (fun r94 => G_seq_Clamp cp n p1 0 (r94.xUnread.length : Int) (fun r95 => cond (decide (0 ≤ r95)) (cond (decide (r95 ≤ (r94.xUnread.length : Int))) (G_bytes_Clone cp n (r94.xUnread.take (Int.toNat r95)) (fun r96 => cond (decide (0 ≤ r95)) (cond (decide (r95 ≤ (r94.xUnread.length : Int))) (kn r96 (SRecv.mk r94.xNext (List.take (r94.xUnread.length - (Int.toNat r95)) (r94.xUnread.drop (Int.toNat r95))) r94.xLate r94.xCap r94.xShift r94.xEdge r94.xRecent r94.xStamps r94.xSacks r94.xFin r94.xDone r94.xFirst r94.xIrs r94.xOwn r94.xStamp)) (none)) (none))) (none)) (none)))))
def s_recv_Read_4 {R : Type} (cp : Nat → Nat → Bool) (n : Nat) (v97 : (List Int)) (v98 : SRecv) (kr : Bool → SRecv → SSegment → Option R) : Option R :=
  G_recv_window cp n v98 (fun r100 => cond (decide ((wr .i64 ((wr .i64 (v98.xNext + r100)) - v98.xEdge)) < (mx (wr .i64 (Int.tdiv v98.xCap 2)) 1))) (kr false v98 (SSegment.mk 0 0 0 0 0 0 0 0 0 false false 0 0 [] [])) (G_recv_tell cp n v98 [] (fun r101 r102 => kr true r101 r102)))
def s_recv_Read_7 {R : Type} (cp : Nat → Nat → Bool) (n : Nat) (p0 : SRecv) (p1 : Int) (kr : (List Int) → Bool → Int → SRecv → SSegment → Option R) : Option R :=
  s_recv_Read_1 cp n p0 p1 (fun v97 v98 => s_recv_Read_4 cp n v97 v98 (fun v103 v104 v105 => (kr v97 v103 0 v104 v105))) (fun v99 => (kr [] false v99 (SRecv.mk 0 [] [] 0 0 0 0 false false 0 false [] 0 0 false) (SSegment.mk 0 0 0 0 0 0 0 0 0 false false 0 0 [] [])))
def G_recv_Read {R : Type} (cp : Nat → Nat → Bool) : Nat → SRecv → Int → (SRecv → (List Int) → SSegment → Bool → Int → Option R) → Option R
  | 0, _, _, _ => none
  | n + 1, p0, p1, k =>
    s_recv_Read_7 cp n p0 p1 (fun v106 v107 v108 v109 v110 => k v109 v106 v110 v107 v108)
/-! tideway/recv.Window -/
def G_recv_Window {R : Type} (cp : Nat → Nat → Bool) : Nat → SRecv → (Int → Option R) → Option R
  | 0, _, _ => none
  | n + 1, p0, k =>
    G_recv_Check cp n p0 (fun r64 => cond (!decide (r64 = 0)) (k 0) (G_recv_window cp n p0 (fun r65 => k r65)))
/-! tideway/tidewaylaw08.heads -/
def s_law08_heads_1 {R : Type} (cp : Nat → Nat → Bool) (n : Nat) (kn : Int → Bool → Int → Bool → Int → (List Int) → Int → SRecv → SSegment → SRecv → SSegment → SRecv → Option R) : Option R :=
  G_recv_New cp n 10 0 100 7 false true (fun r35 r36 => G_recv_Input cp n r35 (SSegment.mk 0 0 102 0 0 0 0 0 0 false false 0 0 [] [99, 100]) (fun r37 r38 r39 r40 => G_recv_Input cp n r37 (SSegment.mk 0 0 100 0 0 0 0 0 0 false false 0 0 [] [97, 98]) (fun r41 r42 r43 r44 => G_recv_Read cp n r41 3 (fun r45 r46 r47 r48 r49 => kn r36 r39 r40 r43 r44 r46 r49 r35 r38 r41 r42 r45))))
def s_law08_heads_3 {R : Type} (cp : Nat → Nat → Bool) (n : Nat) (v50 : Int) (v51 : Bool) (v52 : Int) (v53 : Bool) (v54 : Int) (v55 : (List Int)) (v56 : Int) (v57 : SRecv) (v58 : SSegment) (v59 : SRecv) (v60 : SSegment) (v61 : SRecv) (kr : Bool → Option R) : Option R :=
  G_recv_New cp n 0 0 0 0 false false (fun r62 r63 => cond (!decide (v50 = 0)) (kr false) (cond (!decide (v52 = 0)) (kr false) (cond (!decide (v54 = 0)) (kr false) (cond (!decide (v56 = 0)) (kr false) (cond (!v51) (kr false) (cond (!v53) (kr false) (cond (!decide (r63 = 2)) (kr false) (cond (decide (v58.xAck = 100)) (cond (decide ((v58.xSacks.length : Int) = 1)) (cond (decide (0 < (v58.xSacks.length : Int))) (cond ((decide ((v58.xSacks.getD 0 zBlock).xFrom = 102) && (decide ((v58.xSacks.getD 0 zBlock).xTo = 104) && true))) (cond (decide (v60.xAck = 104)) (cond (((strOfNums v59.xUnread).data.toList == str_abcd.data.toList)) (cond (((strOfNums v55).data.toList == str_abc.data.toList)) (cond (((strOfNums v61.xUnread).data.toList == str_d.data.toList)) (G_recv_Window cp n v57 (fun r66 => kr (decide (r66 = 10)))) (kr false)) (kr false)) (kr false)) (kr false)) (kr false)) (none)) (kr false)) (kr false)))))))))
def s_law08_heads_6 {R : Type} (cp : Nat → Nat → Bool) (n : Nat) (kr : Bool → Option R) : Option R :=
  s_law08_heads_1 cp n (fun v50 v51 v52 v53 v54 v55 v56 v57 v58 v59 v60 v61 => s_law08_heads_3 cp n v50 v51 v52 v53 v54 v55 v56 v57 v58 v59 v60 v61 (fun v67 => (kr v67)))
def G_law08_heads {R : Type} (cp : Nat → Nat → Bool) : Nat → (Bool → Option R) → Option R
  | 0, _ => none
  | n + 1, k =>
    s_law08_heads_6 cp n (fun v68 => k v68)
/-! tideway/tidewaylaw08.RecvBegins -/
def s_law08_RecvBegins_1 {R : Type} (cp : Nat → Nat → Bool) (n : Nat) (p0 p1 p2 : Int) (p3 : Bool) (kn : Int → Int → SRecv → SRecv → Option R) : Option R :=
  G_recv_New cp n p0 p1 p2 (wr .u32 (p2 + 1)) p3 (!p3) (fun r3 r4 => G_ref08_New cp n p0 p1 p2 (wr .u32 (p2 + 1)) p3 (!p3) (fun r5 r6 => kn r4 r6 r3 r5))
def s_law08_RecvBegins_3 {R : Type} (cp : Nat → Nat → Bool) (n : Nat) (v7 v8 : Int) (v9 v10 : SRecv) (kr : Bool → Option R) : Option R :=
  G_ref08_Same cp n v9 v10 (fun r11 => cond (r11) (cond (decide (v7 = v8)) (cond (!decide (v7 = 0)) (G_law08_heads cp n (fun r12 => kr r12)) (G_recv_Check cp n v9 (fun r13 => cond (decide (r13 = 0)) (G_law08_heads cp n (fun r14 => kr r14)) (kr false)))) (kr false)) (kr false))
def s_law08_RecvBegins_6 {R : Type} (cp : Nat → Nat → Bool) (n : Nat) (p0 p1 p2 : Int) (p3 : Bool) (kr : Bool → Option R) : Option R :=
  s_law08_RecvBegins_1 cp n p0 p1 p2 p3 (fun v7 v8 v9 v10 => s_law08_RecvBegins_3 cp n v7 v8 v9 v10 (fun v15 => (kr v15)))
def G_law08_RecvBegins {R : Type} (cp : Nat → Nat → Bool) : Nat → Int → Int → Int → Bool → (Bool → Option R) → Option R
  | 0, _, _, _, _, _ => none
  | n + 1, p0, p1, p2, p3, k =>
    s_law08_RecvBegins_6 cp n p0 p1 p2 p3 (fun v16 => k v16)
def ca_recv_window {R : Type} (cp : Nat → Nat → Bool) (n : Nat) (av : Fr) (cs : List Fr) (k : Ret2 RW → Option R) : Option R := match av, cs with
  | [y0], [] => (dA y0).bind fun c0_ => (dRecv c0_).bind fun p0 => G_recv_window cp n p0 (fun r0 => k ⟨(tL r0), [], []⟩)
  | _, _ => none
def ca_recv_New {R : Type} (cp : Nat → Nat → Bool) (n : Nat) (av : Fr) (cs : List Fr) (k : Ret2 RW → Option R) : Option R := match av, cs with
  | [y0, y1, y2, y3, y4, y5], [] => (dI .i64 y0).bind fun p0 => (dI .i64 y1).bind fun p1 => (dI .u32 y2).bind fun p2 => (dI .u32 y3).bind fun p3 => (dB y4).bind fun p4 => (dB y5).bind fun p5 => G_recv_New cp n p0 p1 p2 p3 p4 p5 (fun r0 r1 => k ⟨.tup [.agg (eRecv r0), (tL r1)], [], []⟩)
  | _, _ => none
def ca_ref08_window {R : Type} (cp : Nat → Nat → Bool) (n : Nat) (av : Fr) (cs : List Fr) (k : Ret2 RW → Option R) : Option R := match av, cs with
  | [y0], [] => (dA y0).bind fun c0_ => (dRecv c0_).bind fun p0 => G_ref08_window cp n p0 (fun r0 => k ⟨(tL r0), [], []⟩)
  | _, _ => none
def ca_ref08_New {R : Type} (cp : Nat → Nat → Bool) (n : Nat) (av : Fr) (cs : List Fr) (k : Ret2 RW → Option R) : Option R := match av, cs with
  | [y0, y1, y2, y3, y4, y5], [] => (dI .i64 y0).bind fun p0 => (dI .i64 y1).bind fun p1 => (dI .u32 y2).bind fun p2 => (dI .u32 y3).bind fun p3 => (dB y4).bind fun p4 => (dB y5).bind fun p5 => G_ref08_New cp n p0 p1 p2 p3 p4 p5 (fun r0 r1 => k ⟨.tup [.agg (eRecv r0), (tL r1)], [], []⟩)
  | _, _ => none
def ca_ref02_Same {R : Type} (cp : Nat → Nat → Bool) (n : Nat) (av : Fr) (cs : List Fr) (k : Ret2 RW → Option R) : Option R := match av, cs with
  | [y0, y1], [] => (dRuint8 false y0).bind fun p0 => (dRuint8 false y1).bind fun p1 => G_ref02_Same cp n p0 p1 (fun r0 => k ⟨(tB r0), [], []⟩)
  | _, _ => none
def ca_ref08_Same {R : Type} (cp : Nat → Nat → Bool) (n : Nat) (av : Fr) (cs : List Fr) (k : Ret2 RW → Option R) : Option R := match av, cs with
  | [y0, y1], [] => (dA y0).bind fun c0_ => (dRecv c0_).bind fun p0 => (dA y1).bind fun c1_ => (dRecv c1_).bind fun p1 => G_ref08_Same cp n p0 p1 (fun r0 => k ⟨(tB r0), [], []⟩)
  | _, _ => none
def ca_recv_reach {R : Type} (cp : Nat → Nat → Bool) (n : Nat) (av : Fr) (cs : List Fr) (k : Ret2 RW → Option R) : Option R := match av, cs with
  | [y0], [] => (dA y0).bind fun c0_ => (dRecv c0_).bind fun p0 => G_recv_reach cp n p0 (fun r0 => k ⟨(tL r0), [], []⟩)
  | _, _ => none
def ca_recv_limit {R : Type} (cp : Nat → Nat → Bool) (n : Nat) (av : Fr) (cs : List Fr) (k : Ret2 RW → Option R) : Option R := match av, cs with
  | [y0], [] => (dA y0).bind fun c0_ => (dRecv c0_).bind fun p0 => G_recv_limit cp n p0 (fun r0 => k ⟨(tL r0), [], []⟩)
  | _, _ => none
def ca_recv_late {R : Type} (cp : Nat → Nat → Bool) (n : Nat) (av : Fr) (cs : List Fr) (k : Ret2 RW → Option R) : Option R := match av, cs with
  | [y0], [] => (dA y0).bind fun c0_ => (dRecv c0_).bind fun p0 => G_recv_late cp n p0 (fun r0 => k ⟨.clo 70 [(4, 0)], [], [(eRecv r0)]⟩)
  | _, _ => none
def ca_recv_of {R : Type} (cp : Nat → Nat → Bool) (n : Nat) (av : Fr) (cs : List Fr) (k : Ret2 RW → Option R) : Option R := match av, cs with
  | [y0], [] => (dA y0).bind fun c0_ => (dPiece c0_).bind fun p0 => G_recv_of cp n p0 (fun r0 => k ⟨.agg (eSpan r0), [], []⟩)
  | _, _ => none
def ca_slices_AppendSeq_Span {R : Type} (cp : Nat → Nat → Bool) (n : Nat) (av : Fr) (cs : List Fr) (k : Ret2 RW → Option R) : Option R := match av, cs with
  | [y0, y1], [w0] => (dRSpan true y0).bind fun p0 => (dC 70 [(32, 0)] y1).bind fun _ => (dRecv w0).bind fun q0 => G_slices_AppendSeq_Span cp n p0 q0 (fun r0 r1 => k ⟨.row false (.rSpan r0), [(eRecv r1)], []⟩)
  | _, _ => none
def ca_slices_Collect {R : Type} (cp : Nat → Nat → Bool) (n : Nat) (av : Fr) (cs : List Fr) (k : Ret2 RW → Option R) : Option R := match av, cs with
  | [y0], [w0] => (dC 70 [(5, 0)] y0).bind fun _ => (dRecv w0).bind fun q0 => G_slices_Collect cp n q0 (fun r0 r1 => k ⟨.row false (.rSpan r0), [(eRecv r1)], []⟩)
  | _, _ => none
def ca_slices_Index_Span {R : Type} (cp : Nat → Nat → Bool) (n : Nat) (av : Fr) (cs : List Fr) (k : Ret2 RW → Option R) : Option R := match av, cs with
  | [y0, y1], [] => (dRSpan false y0).bind fun p0 => (dA y1).bind fun c1_ => (dSpan c1_).bind fun p1 => G_slices_Index_Span cp n p0 p1 (fun r0 => k ⟨(tL r0), [], []⟩)
  | _, _ => none
def ca_slices_Contains_Span {R : Type} (cp : Nat → Nat → Bool) (n : Nat) (av : Fr) (cs : List Fr) (k : Ret2 RW → Option R) : Option R := match av, cs with
  | [y0, y1], [] => (dRSpan false y0).bind fun p0 => (dA y1).bind fun c1_ => (dSpan c1_).bind fun p1 => G_slices_Contains_Span cp n p0 p1 (fun r0 => k ⟨(tB r0), [], []⟩)
  | _, _ => none
def ca_recv_pieces {R : Type} (cp : Nat → Nat → Bool) (n : Nat) (av : Fr) (cs : List Fr) (k : Ret2 RW → Option R) : Option R := match av, cs with
  | [y0], [] => (dA y0).bind fun c0_ => (dRecv c0_).bind fun p0 => G_recv_pieces cp n p0 (fun r0 => k ⟨(tB r0), [], []⟩)
  | _, _ => none
def ca_recv_Check {R : Type} (cp : Nat → Nat → Bool) (n : Nat) (av : Fr) (cs : List Fr) (k : Ret2 RW → Option R) : Option R := match av, cs with
  | [y0], [] => (dA y0).bind fun c0_ => (dRecv c0_).bind fun p0 => G_recv_Check cp n p0 (fun r0 => k ⟨(tL r0), [], []⟩)
  | _, _ => none
def ca_slices_Clone_Span {R : Type} (cp : Nat → Nat → Bool) (n : Nat) (av : Fr) (cs : List Fr) (k : Ret2 RW → Option R) : Option R := match av, cs with
  | [y0], [] => (dRSpan false y0).bind fun p0 => G_slices_Clone_Span cp n p0 (fun r0 => k ⟨.row true (.rSpan r0), [], []⟩)
  | _, _ => none
def ca_bytes_Clone {R : Type} (cp : Nat → Nat → Bool) (n : Nat) (av : Fr) (cs : List Fr) (k : Ret2 RW → Option R) : Option R := match av, cs with
  | [y0], [] => (dRuint8 false y0).bind fun p0 => G_bytes_Clone cp n p0 (fun r0 => k ⟨.row true (.ruint8 r0), [], []⟩)
  | _, _ => none
def ca_recv_copied {R : Type} (cp : Nat → Nat → Bool) (n : Nat) (av : Fr) (cs : List Fr) (k : Ret2 RW → Option R) : Option R := match av, cs with
  | [y0], [] => (dA y0).bind fun c0_ => (dRecv c0_).bind fun p0 => G_recv_copied cp n p0 (fun r0 => k ⟨.agg (eRecvt r0), [], []⟩)
  | _, _ => none
def ca_seq_Diff {R : Type} (cp : Nat → Nat → Bool) (n : Nat) (av : Fr) (cs : List Fr) (k : Ret2 RW → Option R) : Option R := match av, cs with
  | [y0, y1], [] => (dI .u32 y0).bind fun p0 => (dI .u32 y1).bind fun p1 => G_seq_Diff cp n p0 p1 (fun r0 => k ⟨(tL r0), [], []⟩)
  | _, _ => none
def ca_seq_Sum {R : Type} (cp : Nat → Nat → Bool) (n : Nat) (av : Fr) (cs : List Fr) (k : Ret2 RW → Option R) : Option R := match av, cs with
  | [y0, y1], [] => (dI .i64 y0).bind fun p0 => (dI .i64 y1).bind fun p1 => G_seq_Sum cp n p0 p1 (fun r0 => k ⟨(tL r0), [], []⟩)
  | _, _ => none
def ca_seq_Unwrap {R : Type} (cp : Nat → Nat → Bool) (n : Nat) (av : Fr) (cs : List Fr) (k : Ret2 RW → Option R) : Option R := match av, cs with
  | [y0, y1], [] => (dI .i64 y0).bind fun p0 => (dI .u32 y1).bind fun p1 => G_seq_Unwrap cp n p0 p1 (fun r0 => k ⟨(tL r0), [], []⟩)
  | _, _ => none
def ca_seq_Add {R : Type} (cp : Nat → Nat → Bool) (n : Nat) (av : Fr) (cs : List Fr) (k : Ret2 RW → Option R) : Option R := match av, cs with
  | [y0, y1], [] => (dI .u32 y0).bind fun p0 => (dI .i64 y1).bind fun p1 => G_seq_Add cp n p0 p1 (fun r0 => k ⟨(tI .u32 r0), [], []⟩)
  | _, _ => none
def ca_recv_tell {R : Type} (cp : Nat → Nat → Bool) (n : Nat) (av : Fr) (cs : List Fr) (k : Ret2 RW → Option R) : Option R := match av, cs with
  | [y0, y1], [] => (dA y0).bind fun c0_ => (dRecv c0_).bind fun p0 => (dRBlock true y1).bind fun p1 => G_recv_tell cp n p0 p1 (fun r0 r1 => k ⟨.tup [.agg (eRecv r0), .agg [(tL r1.xSrcPort), (tL r1.xDstPort), (tI .u32 r1.xSeq), (tI .u32 r1.xAck), (tL r1.xFlags), (tL r1.xWin), (tL r1.xUrg), (tL r1.xMss), (tL r1.xScale), (tB r1.xSackOk), (tB r1.xStamped), (tI .u32 r1.xVal), (tI .u32 r1.xEcr), .row true (.rBlock r1.xSacks), .row false (.ruint8 r1.xData)]], [], []⟩)
  | _, _ => none
def ca_recv_end {R : Type} (cp : Nat → Nat → Bool) (n : Nat) (av : Fr) (cs : List Fr) (k : Ret2 RW → Option R) : Option R := match av, cs with
  | [y0, y1], [] => (dA y0).bind fun c0_ => (dRecv c0_).bind fun p0 => (dI .i64 y1).bind fun p1 => G_recv_end cp n p0 p1 (fun r0 => k ⟨(tL r0), [], []⟩)
  | _, _ => none
def ca_span_may {R : Type} (cp : Nat → Nat → Bool) (n : Nat) (av : Fr) (cs : List Fr) (k : Ret2 RW → Option R) : Option R := match av, cs with
  | [y0], [] => (dA y0).bind fun c0_ => (dSpan c0_).bind fun p0 => G_span_may cp n p0 (fun r0 => k ⟨(tB r0), [], []⟩)
  | _, _ => none
def ca_span_Check {R : Type} (cp : Nat → Nat → Bool) (n : Nat) (av : Fr) (cs : List Fr) (k : Ret2 RW → Option R) : Option R := match av, cs with
  | [y0], [] => (dRSpan false y0).bind fun p0 => G_span_Check cp n p0 (fun r0 => k ⟨(tL r0), [], []⟩)
  | _, _ => none
def ca_span_within {R : Type} (cp : Nat → Nat → Bool) (n : Nat) (av : Fr) (cs : List Fr) (k : Ret2 RW → Option R) : Option R := match av, cs with
  | [y0, y1], [] => (dRSpan false y0).bind fun p0 => (dA y1).bind fun c1_ => (dSpan c1_).bind fun p1 => G_span_within cp n p0 p1 (fun r0 r1 => k ⟨.clo 83 [(6, 0), (8, 0)], [], [[.row false (.rSpan r0)], (eSpan r1)]⟩)
  | _, _ => none
def ca_span_Gaps {R : Type} (cp : Nat → Nat → Bool) (n : Nat) (av : Fr) (cs : List Fr) (k : Ret2 RW → Option R) : Option R := match av, cs with
  | [y0, y1], [] => (dRSpan false y0).bind fun p0 => (dA y1).bind fun c1_ => (dSpan c1_).bind fun p1 => G_span_Gaps cp n p0 p1 (fun r0 => k ⟨.row false (.rSpan r0), [], []⟩)
  | _, _ => none
def ca_recv_put_1 {R : Type} (cp : Nat → Nat → Bool) (n : Nat) (av : Fr) (cs : List Fr) (k : Ret2 RW → Option R) : Option R := match av, cs with
  | [y0, y1], [] => (dA y0).bind fun c0_ => (dPiece c0_).bind fun p0 => (dI .i64 y1).bind fun p1 => G_recv_put_1 cp n p0 p1 (fun r0 => k ⟨(tL r0), [], []⟩)
  | _, _ => none
def ca_slices_BinarySearchFunc_Piece {R : Type} (cp : Nat → Nat → Bool) (n : Nat) (av : Fr) (cs : List Fr) (k : Ret2 RW → Option R) : Option R := match av, cs with
  | [y0, y1, y2], [] => (dRPiece false y0).bind fun p0 => (dI .i64 y1).bind fun p1 => (dC 74 [] y2).bind fun _ => G_slices_BinarySearchFunc_Piece cp n p0 p1 (fun r0 r1 => k ⟨.tup [(tL r0), (tB r1)], [], []⟩)
  | _, _ => none
def ca_slices_Clone_Piece {R : Type} (cp : Nat → Nat → Bool) (n : Nat) (av : Fr) (cs : List Fr) (k : Ret2 RW → Option R) : Option R := match av, cs with
  | [y0], [] => (dRPiece false y0).bind fun p0 => G_slices_Clone_Piece cp n p0 (fun r0 => k ⟨.un none (.rPiece r0), [], []⟩)
  | _, _ => none
def ca_slices_Insert_Piece {R : Type} (cp : Nat → Nat → Bool) (n : Nat) (av : Fr) (cs : List Fr) (k : Ret2 RW → Option R) : Option R := match av, cs with
  | [y0, y1, y2], [] => (dUPiece y0).bind fun p0 => (dI .i64 y1).bind fun p1 => (dXPiece y2).bind fun p2 => G_slices_Insert_Piece cp n p0 p1 p2 (fun r0 => k ⟨.un none (.rPiece r0), [], []⟩)
  | _, _ => none
def ca_slices_Clip_byte {R : Type} (cp : Nat → Nat → Bool) (n : Nat) (av : Fr) (cs : List Fr) (k : Ret2 RW → Option R) : Option R := match av, cs with
  | [y0], [] => (dRuint8 false y0).bind fun p0 => G_slices_Clip_byte cp n p0 (fun r0 => k ⟨.row true (.ruint8 r0), [], []⟩)
  | _, _ => none
def ca_recv_put {R : Type} (cp : Nat → Nat → Bool) (n : Nat) (av : Fr) (cs : List Fr) (k : Ret2 RW → Option R) : Option R := match av, cs with
  | [y0, y1], [] => (dRPiece false y0).bind fun p0 => (dA y1).bind fun c1_ => (dPiece c1_).bind fun p1 => G_recv_put cp n p0 p1 (fun r0 => k ⟨.row true (.rPiece r0), [], []⟩)
  | _, _ => none
def ca_recv_take_1 {R : Type} (cp : Nat → Nat → Bool) (n : Nat) (av : Fr) (cs : List Fr) (k : Ret2 RW → Option R) : Option R := match av, cs with
  | [y0, y1, y2, y3, y4], [w0, w1, w2, w3] => (dA y0).bind fun c0_ => (dSpan c0_).bind fun p0 => (dP 43 0 y1).bind fun _ => (dP 23 0 y2).bind fun _ => (dP 41 0 y3).bind fun _ => (dP 39 0 y4).bind fun _ => (dRecvt w0).bind fun q0 => (dOne w1).bind fun u1 => (dI .i64 u1).bind fun q1 => (dOne w2).bind fun u2 => (dRuint8 false u2).bind fun q2 => (dOne w3).bind fun u3 => (dB u3).bind fun q3 => G_recv_take_1 cp n p0 q0 q1 q2 q3 (fun r0 r1 r2 r3 => k ⟨.tup [], [(eRecvt r0), [(tL r1)], [.row false (.ruint8 r2)], [(tB r3)]], []⟩)
  | _, _ => none
def ca_recv_take {R : Type} (cp : Nat → Nat → Bool) (n : Nat) (av : Fr) (cs : List Fr) (k : Ret2 RW → Option R) : Option R := match av, cs with
  | [y0, y1, y2], [] => (dA y0).bind fun c0_ => (dRecvt c0_).bind fun p0 => (dI .i64 y1).bind fun p1 => (dRuint8 false y2).bind fun p2 => G_recv_take cp n p0 p1 p2 (fun r0 r1 => k ⟨.tup [.agg [(tL r0.xNext), .row true (.ruint8 r0.xUnread), .row false (.rPiece r0.xLate), (tL r0.xCap), (tL r0.xShift), (tL r0.xEdge), (tI .u32 r0.xRecent), (tB r0.xStamps), (tB r0.xSacks), (tL r0.xFin), (tB r0.xDone), .row true (.rSpan r0.xFirst), (tI .u32 r0.xIrs), (tI .u32 r0.xOwn), (tB r0.xStamp)], (tB r1)], [], []⟩)
  | _, _ => none
def ca_recv_firsts_1 {R : Type} (cp : Nat → Nat → Bool) (n : Nat) (av : Fr) (cs : List Fr) (k : Ret2 RW → Option R) : Option R := match av, cs with
  | [y0, y1], [w0] => (dA y0).bind fun c0_ => (dSpan c0_).bind fun p0 => (dP 16 0 y1).bind fun _ => (dSpan w0).bind fun q0 => G_recv_firsts_1 cp n p0 q0 (fun r0 r1 => k ⟨(tB r0), [(eSpan r1)], []⟩)
  | _, _ => none
def ca_slices_IndexFunc_Span {R : Type} (cp : Nat → Nat → Bool) (n : Nat) (av : Fr) (cs : List Fr) (k : Ret2 RW → Option R) : Option R := match av, cs with
  | [y0, y1], [w0] => (dRSpan false y0).bind fun p0 => (dC 63 [(19, 0)] y1).bind fun _ => (dSpan w0).bind fun q0 => G_slices_IndexFunc_Span cp n p0 q0 (fun r0 r1 => k ⟨(tL r0), [(eSpan r1)], []⟩)
  | _, _ => none
def ca_recv_firsts {R : Type} (cp : Nat → Nat → Bool) (n : Nat) (av : Fr) (cs : List Fr) (k : Ret2 RW → Option R) : Option R := match av, cs with
  | [y0, y1, y2], [] => (dA y0).bind fun c0_ => (dRecv c0_).bind fun p0 => (dI .i64 y1).bind fun p1 => (dRuint8 false y2).bind fun p2 => G_recv_firsts cp n p0 p1 p2 (fun r0 => k ⟨.row true (.rSpan r0), [], []⟩)
  | _, _ => none
def ca_recv_Input {R : Type} (cp : Nat → Nat → Bool) (n : Nat) (av : Fr) (cs : List Fr) (k : Ret2 RW → Option R) : Option R := match av, cs with
  | [y0, y1], [] => (dA y0).bind fun c0_ => (dRecv c0_).bind fun p0 => (dA y1).bind fun c1_ => (dSegment c1_).bind fun p1 => G_recv_Input cp n p0 p1 (fun r0 r1 r2 r3 => k ⟨.tup [.agg (eRecv r0), .agg (eSegment r1), (tB r2), (tL r3)], [], []⟩)
  | _, _ => none
def ca_seq_Clamp {R : Type} (cp : Nat → Nat → Bool) (n : Nat) (av : Fr) (cs : List Fr) (k : Ret2 RW → Option R) : Option R := match av, cs with
  | [y0, y1, y2], [] => (dI .i64 y0).bind fun p0 => (dI .i64 y1).bind fun p1 => (dI .i64 y2).bind fun p2 => G_seq_Clamp cp n p0 p1 p2 (fun r0 => k ⟨(tL r0), [], []⟩)
  | _, _ => none
def ca_recv_Read {R : Type} (cp : Nat → Nat → Bool) (n : Nat) (av : Fr) (cs : List Fr) (k : Ret2 RW → Option R) : Option R := match av, cs with
  | [y0, y1], [] => (dA y0).bind fun c0_ => (dRecv c0_).bind fun p0 => (dI .i64 y1).bind fun p1 => G_recv_Read cp n p0 p1 (fun r0 r1 r2 r3 r4 => k ⟨.tup [.agg (eRecv r0), .row false (.ruint8 r1), .agg (eSegment r2), (tB r3), (tL r4)], [], []⟩)
  | _, _ => none
def ca_recv_Window {R : Type} (cp : Nat → Nat → Bool) (n : Nat) (av : Fr) (cs : List Fr) (k : Ret2 RW → Option R) : Option R := match av, cs with
  | [y0], [] => (dA y0).bind fun c0_ => (dRecv c0_).bind fun p0 => G_recv_Window cp n p0 (fun r0 => k ⟨(tL r0), [], []⟩)
  | _, _ => none
def ca_law08_heads {R : Type} (cp : Nat → Nat → Bool) (n : Nat) (av : Fr) (cs : List Fr) (k : Ret2 RW → Option R) : Option R := match av, cs with
  | [], [] => G_law08_heads cp n (fun r0 => k ⟨(tB r0), [], []⟩)
  | _, _ => none
def ca_law08_RecvBegins {R : Type} (cp : Nat → Nat → Bool) (n : Nat) (av : Fr) (cs : List Fr) (k : Ret2 RW → Option R) : Option R := match av, cs with
  | [y0, y1, y2, y3], [] => (dI .i64 y0).bind fun p0 => (dI .i64 y1).bind fun p1 => (dI .u32 y2).bind fun p2 => (dB y3).bind fun p3 => G_law08_RecvBegins cp n p0 p1 p2 p3 (fun r0 => k ⟨(tB r0), [], []⟩)
  | _, _ => none
def callP {R : Type} (cp : Nat → Nat → Bool) (n : Nat) (id : Nat) (av : Fr) (cs : List Fr) (k : Ret2 RW → Option R) : Option R := match id with
  | 49 => ca_recv_window cp n av cs k
  | 17 => ca_recv_New cp n av cs k
  | 50 => ca_ref08_window cp n av cs k
  | 18 => ca_ref08_New cp n av cs k
  | 21 => ca_ref02_Same cp n av cs k
  | 14 => ca_ref08_Same cp n av cs k
  | 27 => ca_recv_reach cp n av cs k
  | 53 => ca_recv_limit cp n av cs k
  | 55 => ca_recv_late cp n av cs k
  | 71 => ca_recv_of cp n av cs k
  | 1013 => ca_slices_AppendSeq_Span cp n av cs k
  | 1012 => ca_slices_Collect cp n av cs k
  | 72 => ca_slices_Index_Span cp n av cs k
  | 56 => ca_slices_Contains_Span cp n av cs k
  | 28 => ca_recv_pieces cp n av cs k
  | 10 => ca_recv_Check cp n av cs k
  | 57 => ca_slices_Clone_Span cp n av cs k
  | 52 => ca_bytes_Clone cp n av cs k
  | 29 => ca_recv_copied cp n av cs k
  | 31 => ca_seq_Diff cp n av cs k
  | 58 => ca_seq_Sum cp n av cs k
  | 30 => ca_seq_Unwrap cp n av cs k
  | 36 => ca_seq_Add cp n av cs k
  | 32 => ca_recv_tell cp n av cs k
  | 33 => ca_recv_end cp n av cs k
  | 82 => ca_span_may cp n av cs k
  | 78 => ca_span_Check cp n av cs k
  | 79 => ca_span_within cp n av cs k
  | 61 => ca_span_Gaps cp n av cs k
  | 74 => ca_recv_put_1 cp n av cs k
  | 1035 => ca_slices_BinarySearchFunc_Piece cp n av cs k
  | 1037 => ca_slices_Clone_Piece cp n av cs k
  | 75 => ca_slices_Insert_Piece cp n av cs k
  | 77 => ca_slices_Clip_byte cp n av cs k
  | 60 => ca_recv_put cp n av cs k
  | 1033 => ca_recv_take_1 cp n av cs k
  | 34 => ca_recv_take cp n av cs k
  | 1042 => ca_recv_firsts_1 cp n av cs k
  | 1041 => ca_slices_IndexFunc_Span cp n av cs k
  | 35 => ca_recv_firsts cp n av cs k
  | 12 => ca_recv_Input cp n av cs k
  | 51 => ca_seq_Clamp cp n av cs k
  | 20 => ca_recv_Read cp n av cs k
  | 22 => ca_recv_Window cp n av cs k
  | 11 => ca_law08_heads cp n av cs k
  | 5 => ca_law08_RecvBegins cp n av cs k
  | _ => none
end
end Go.Proofs.Ytilmdmjhdidoiaa.M
