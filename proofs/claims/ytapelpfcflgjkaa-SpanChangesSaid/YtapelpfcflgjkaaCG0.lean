/- The values of the program's functions, and the functions, plain. -/
import Derived.Test.YtapelpfcflgjkaaMachX
set_option maxRecDepth 100000
set_option linter.unusedVariables false
namespace Go.Proofs.Ytapelpfcflgjkaa.M
open Go
noncomputable section
def str_ : ByteArray := ⟨#[]⟩
structure SSpan where
  xFrom : Int
  xTo : Int
def zSpan : SSpan := ⟨0, 0⟩
inductive RW where
  | rSpan (xs : List SSpan)

abbrev Fr := List (TV RW)
abbrev FF := FT RW
def tI (k : IntKind) (n : Int) : TV RW := .sc (.int k n)
def tL (n : Int) : TV RW := .sc (.int .i64 n)
def tB (b : Bool) : TV RW := .sc (.bool b)
def dT : Nat → Fr → Fr
  | 0, l => l
  | n + 1, l => .dead :: dT n l
def dc : Fr := dT 16 []
def eSpan (x : SSpan) : List (TV RW) := [(tL x.xFrom), (tL x.xTo)]
def cSpan (x : SSpan) : List AV := [.sc (.int .i64 x.xFrom), .sc (.int .i64 x.xTo)]
def dOne : Fr → Option (TV RW)
  | [x] => some x
  | _ => none
def dI (kd : IntKind) : TV RW → Option Int
  | .sc (.int k a) => cond (decide (k = kd)) (some a) none
  | _ => none
def dB : TV RW → Option Bool
  | .sc (.bool b) => some b
  | _ => none
def dS : TV RW → Option ByteArray
  | .sc (.string b) => some b
  | _ => none
def dA : TV RW → Option Fr
  | .agg cs => some cs
  | _ => none
def dP (h j : Nat) : TV RW → Option Unit
  | .ptr a b => cond (Nat.beq a h && Nat.beq b j) (some ()) none
  | _ => none
def dC (f : Nat) (cs : List (Nat × Nat)) : TV RW → Option Unit
  | .clo a b => cond (Nat.beq a f && decide (b = cs)) (some ()) none
  | _ => none
def dRSpan (fl : Bool) : TV RW → Option (List SSpan)
  | .row a (.rSpan xs) => cond (a == fl) (some xs) none
  | _ => none
def dSpan : Fr → Option SSpan
  | [y0, y1] => (dI .i64 y0).bind fun a0 => (dI .i64 y1).bind fun a1 => some ⟨a0, a1⟩
  | _ => none
def pSpan_ : Fr → Option (List SSpan)
  | [] => some []
  | y0 :: y1 :: r => (dI .i64 y0).bind fun a0 => (dI .i64 y1).bind fun a1 => (pSpan_ r).bind fun xs => some (⟨a0, a1⟩ :: xs)
  | _ => none

def U : Uni RW where
  sz := fun r => match r with
    | .rSpan xs => 2
  len := fun r => match r with
    | .rSpan xs => xs.length
  getA := fun r => match r with
    | .rSpan xs => rg cSpan zSpan xs
  get := fun r i => match r with
    | .rSpan xs => eSpan (xs.getD i zSpan)
  app := fun r q => match r with
    | .rSpan xs => (match q with
      | .rSpan ys => some (.rSpan (xs ++ ys)))
  sub := fun lo n r => match r with
    | .rSpan xs => .rSpan (List.take n (xs.drop lo))
  szt := fun t => match t with
    | 24 => 2
    | _ => 0
  zt := fun t => match t with
    | 24 => eSpan zSpan
    | _ => []
  lit := fun t n L => match t with
    | 24 => (pSpan_ L).bind fun xs => cond (Nat.beq xs.length n) (some (.rSpan xs)) none
    | _ => none
/-! tideway/span.may -/
def G_span_may {R : Type} (cp : Nat → Nat → Bool) : Nat → SSpan → (Bool → Option R) → Option R
  | 0, _, _ => none
  | n + 1, p0, k =>
    cond (decide (0 ≤ p0.xFrom)) (cond (decide (p0.xFrom ≤ p0.xTo)) (k (decide (p0.xTo ≤ 1125899906842624))) (k false)) (k false)
/-! tideway/span.Check -/
def s_span_Check_1 {R : Type} (cp : Nat → Nat → Bool) (n : Nat) (p0 : (List SSpan)) (kn : Option R) : Option R :=
  kn
def s_span_Check_3 {R : Type} (cp : Nat → Nat → Bool) (n : Nat) (p0 : (List SSpan)) (kn : Int → Option R) : Option R :=
  kn (p0.length : Int)
def s_span_Check_5 {R : Type} (cp : Nat → Nat → Bool) (n : Nat) (p0 : (List SSpan)) (v1 v2 : Int) (kn : Int → Option R) (kr : Option R) (ke0 : Option R) : Option R :=
  cond (decide (v2 < v1)) (cond (decide (0 ≤ v2)) (cond (decide (v2 < (p0.length : Int))) (G_span_may cp n (p0.getD (Int.toNat v2) zSpan) (fun r3 => cond (!r3) (kr) (cond (decide (((p0.getD (Int.toNat v2) zSpan).xFrom) = ((p0.getD (Int.toNat v2) zSpan).xTo))) (kr) (cond (decide (0 < v2)) (cond (decide (0 ≤ wr .i64 (v2 - 1))) (cond (decide (wr .i64 (v2 - 1) < (p0.length : Int))) (cond (decide (((p0.getD (Int.toNat v2) zSpan).xFrom) ≤ ((p0.getD (Int.toNat (wr .i64 (v2 - 1))) zSpan).xTo))) (kr) (kn (wr .i64 (v2 + 1)))) (none)) (none)) (kn (wr .i64 (v2 + 1))))))) (none)) (none)) (ke0)
def l_span_Check_10 {R : Type} (cp : Nat → Nat → Bool) (n : Nat) : Nat → (List SSpan) → Int → Int → (Option R) → (Option R) → Option R
  | 0, _, _, _, _, _ => none
  | m + 1, p0, v1, v2, kr, ke0 =>
    s_span_Check_5 cp n p0 v1 v2 (fun v4 => l_span_Check_10 cp n m p0 v1 v4 kr ke0) kr ke0
def s_span_Check_11 {R : Type} (cp : Nat → Nat → Bool) (n : Nat) (p0 : (List SSpan)) (v1 : Int) (kr : Option R) (ke0 : Option R) : Option R :=
  l_span_Check_10 cp n n p0 v1 0 kr ke0
def s_span_Check_12 {R : Type} (cp : Nat → Nat → Bool) (n : Nat) (p0 : (List SSpan)) (v1 : Int) (kn : Option R) (kr : Option R) : Option R :=
  s_span_Check_11 cp n p0 v1 kr kn
def s_span_Check_13 {R : Type} (cp : Nat → Nat → Bool) (n : Nat) (p0 : (List SSpan)) (kn : Option R) (kr : Option R) : Option R :=
  s_span_Check_3 cp n p0 (fun v1 => s_span_Check_12 cp n p0 v1 kn kr)
def s_span_Check_14 {R : Type} (cp : Nat → Nat → Bool) (n : Nat) (kr : Option R) : Option R :=
  kr
def s_span_Check_17 {R : Type} (cp : Nat → Nat → Bool) (n : Nat) (p0 : (List SSpan)) (kr : Int → Option R) : Option R :=
  s_span_Check_13 cp n p0 (s_span_Check_14 cp n (kr 0)) (kr 60)
def s_span_Check_19 {R : Type} (cp : Nat → Nat → Bool) (n : Nat) (p0 : (List SSpan)) (kr : Int → Option R) : Option R :=
  s_span_Check_1 cp n p0 (s_span_Check_17 cp n p0 (fun v5 => (kr v5)))
def G_span_Check {R : Type} (cp : Nat → Nat → Bool) : Nat → (List SSpan) → (Int → Option R) → Option R
  | 0, _, _ => none
  | n + 1, p0, k =>
    s_span_Check_19 cp n p0 (fun v6 => k v6)
/-! tideway/span.right -/
def G_span_right {R : Type} (cp : Nat → Nat → Bool) : Nat → (List SSpan) → SSpan → (Int → Option R) → Option R
  | 0, _, _, _ => none
  | n + 1, p0, p1, k =>
    G_span_Check cp n p0 (fun r7 => cond (!decide (r7 = 0)) (k r7) (G_span_may cp n p1 (fun r8 => cond (!r8) (k 2) (k 0))))
/-! slices.Clone[[]tideway/api.Span,tideway/api.Span] -/
def G_slices_Clone_Span {R : Type} (cp : Nat → Nat → Bool) : Nat → (List SSpan) → ((List SSpan) → Option R) → Option R
  | 0, _, _ => none
  | n + 1, p0, k => cond (cp (0 + p0.length) 16) (k p0) none
/-! tideway/span.Add -/
def s_span_Add_1 {R : Type} (cp : Nat → Nat → Bool) (n : Nat) (p0 : (List SSpan)) (p1 : SSpan) (kn : Option R) (kr : (List SSpan) → Int → Option R) : Option R :=
  G_span_right cp n p0 p1 (fun r14 => cond (!decide (r14 = 0)) (kr [] r14) (cond (decide (p1.xFrom = p1.xTo)) (G_slices_Clone_Span cp n p0 (fun r15 => kr r15 0)) (kn)))
def s_span_Add_4 {R : Type} (cp : Nat → Nat → Bool) (n : Nat) (p0 : (List SSpan)) (p1 : SSpan) (v18 : (List SSpan)) (v19 : Int) (kn : (List SSpan) → Int → Option R) (ke0 : Option R) : Option R :=
  cond (decide (v19 < (p0.length : Int))) (cond (decide (0 ≤ v19)) (cond (decide (v19 < (p0.length : Int))) (cond (decide (((p0.getD (Int.toNat v19) zSpan).xTo) < p1.xFrom)) (cond (decide (0 ≤ v19)) (cond (decide (v19 < (p0.length : Int))) (cond (cp (v18.length + [(p0.getD (Int.toNat v19) zSpan)].length) 16) (kn (v18 ++ [(p0.getD (Int.toNat v19) zSpan)]) (wr .i64 (v19 + 1))) (none)) (none)) (none)) (ke0)) (none)) (none)) (ke0)
def l_span_Add_8 {R : Type} (cp : Nat → Nat → Bool) (n : Nat) : Nat → (List SSpan) → SSpan → (List SSpan) → Int → ((List SSpan) → Int → Option R) → Option R
  | 0, _, _, _, _, _ => none
  | m + 1, p0, p1, v18, v19, ke0 =>
    s_span_Add_4 cp n p0 p1 v18 v19 (fun v20 v21 => l_span_Add_8 cp n m p0 p1 v20 v21 ke0) (ke0 v18 v19)
def s_span_Add_9 {R : Type} (cp : Nat → Nat → Bool) (n : Nat) (p0 : (List SSpan)) (p1 : SSpan) (ke0 : (List SSpan) → Int → Option R) : Option R :=
  l_span_Add_8 cp n n p0 p1 [] 0 ke0
def s_span_Add_11 {R : Type} (cp : Nat → Nat → Bool) (n : Nat) (p0 : (List SSpan)) (p1 : SSpan) (kn : (List SSpan) → Int → Option R) : Option R :=
  s_span_Add_9 cp n p0 p1 (fun v22 v23 => (kn v22 v23))
def s_span_Add_12 {R : Type} (cp : Nat → Nat → Bool) (n : Nat) (p0 v24 : (List SSpan)) (v26 v27 v28 : Int) (kn : Int → Int → Int → Option R) (ke2 : Option R) : Option R :=
  cond (decide (v26 < (p0.length : Int))) (cond (decide (0 ≤ v26)) (cond (decide (v26 < (p0.length : Int))) (cond (decide (((p0.getD (Int.toNat v26) zSpan).xFrom) ≤ v28)) (cond (decide (0 ≤ v26)) (cond (decide (v26 < (p0.length : Int))) (cond (decide (0 ≤ v26)) (cond (decide (v26 < (p0.length : Int))) (kn (wr .i64 (v26 + 1)) (mn v27 ((p0.getD (Int.toNat v26) zSpan).xFrom)) (mx v28 ((p0.getD (Int.toNat v26) zSpan).xTo))) (none)) (none)) (none)) (none)) (ke2)) (none)) (none)) (ke2)
def l_span_Add_16 {R : Type} (cp : Nat → Nat → Bool) (n : Nat) : Nat → (List SSpan) → (List SSpan) → Int → Int → Int → (Int → Int → Int → Option R) → Option R
  | 0, _, _, _, _, _, _ => none
  | m + 1, p0, v24, v26, v27, v28, ke2 =>
    s_span_Add_12 cp n p0 v24 v26 v27 v28 (fun v29 v30 v31 => l_span_Add_16 cp n m p0 v24 v29 v30 v31 ke2) (ke2 v26 v27 v28)
def s_span_Add_17 {R : Type} (cp : Nat → Nat → Bool) (n : Nat) (p0 : (List SSpan)) (p1 : SSpan) (v24 : (List SSpan)) (v25 : Int) (ke2 : Int → Int → Int → Option R) : Option R :=
  l_span_Add_16 cp n n p0 v24 v25 p1.xFrom p1.xTo ke2
def s_span_Add_19 {R : Type} (cp : Nat → Nat → Bool) (n : Nat) (p0 : (List SSpan)) (p1 : SSpan) (v24 : (List SSpan)) (v25 : Int) (kn : Int → Int → Int → Option R) : Option R :=
  s_span_Add_17 cp n p0 p1 v24 v25 (fun v32 v33 v34 => (kn v32 v33 v34))
def s_span_Add_20 {R : Type} (cp : Nat → Nat → Bool) (n : Nat) (p0 v24 : (List SSpan)) (v35 v36 v37 : Int) (kr : (List SSpan) → Option R) : Option R :=
  cond (cp (v24.length + [(SSpan.mk v36 v37)].length) 16) (cond (decide (0 ≤ v35)) (cond (decide (v35 ≤ (p0.length : Int))) (cond (cp ((v24 ++ [(SSpan.mk v36 v37)]).length + (List.take (p0.length - (Int.toNat v35)) (p0.drop (Int.toNat v35))).length) 16) (kr ((v24 ++ [(SSpan.mk v36 v37)]) ++ (List.take (p0.length - (Int.toNat v35)) (p0.drop (Int.toNat v35))))) (none)) (none)) (none)) (none)
def s_span_Add_23 {R : Type} (cp : Nat → Nat → Bool) (n : Nat) (p0 : (List SSpan)) (p1 : SSpan) (v24 : (List SSpan)) (v25 : Int) (kr : (List SSpan) → Option R) : Option R :=
  s_span_Add_19 cp n p0 p1 v24 v25 (fun v35 v36 v37 => s_span_Add_20 cp n p0 v24 v35 v36 v37 (fun v38 => (kr v38)))
def s_span_Add_25 {R : Type} (cp : Nat → Nat → Bool) (n : Nat) (p0 : (List SSpan)) (p1 : SSpan) (kr : (List SSpan) → Option R) : Option R :=
  s_span_Add_11 cp n p0 p1 (fun v24 v25 => s_span_Add_23 cp n p0 p1 v24 v25 (fun v39 => (kr v39)))
def s_span_Add_27 {R : Type} (cp : Nat → Nat → Bool) (n : Nat) (p0 : (List SSpan)) (p1 : SSpan) (kr : (List SSpan) → Int → Option R) : Option R :=
  s_span_Add_1 cp n p0 p1 (s_span_Add_25 cp n p0 p1 (fun v40 => (kr v40 0))) (fun v16 v17 => (kr v16 v17))
def G_span_Add {R : Type} (cp : Nat → Nat → Bool) : Nat → (List SSpan) → SSpan → ((List SSpan) → Int → Option R) → Option R
  | 0, _, _, _ => none
  | n + 1, p0, p1, k =>
    s_span_Add_27 cp n p0 p1 (fun v41 v42 => k v41 v42)
/-! tideway/tidewayref06.Check -/
def s_ref06_Check_1 {R : Type} (cp : Nat → Nat → Bool) (n : Nat) (p0 : (List SSpan)) (kn : Option R) : Option R :=
  kn
def s_ref06_Check_3 {R : Type} (cp : Nat → Nat → Bool) (n : Nat) (p0 : (List SSpan)) (kn : Option R) : Option R :=
  kn
def s_ref06_Check_5 {R : Type} (cp : Nat → Nat → Bool) (n : Nat) (p0 : (List SSpan)) (v45 : Int) (kn : Int → Option R) (kr : Option R) (ke0 : Option R) : Option R :=
  cond (decide (v45 < (p0.length : Int))) (cond (decide (0 ≤ v45)) (cond (decide (v45 < (p0.length : Int))) (cond (decide (((p0.getD (Int.toNat v45) zSpan).xFrom) < 0)) (kr) (cond (decide (0 ≤ v45)) (cond (decide (v45 < (p0.length : Int))) (cond (decide (0 ≤ v45)) (cond (decide (v45 < (p0.length : Int))) (cond (decide (((p0.getD (Int.toNat v45) zSpan).xTo) ≤ ((p0.getD (Int.toNat v45) zSpan).xFrom))) (kr) (cond (decide (0 ≤ v45)) (cond (decide (v45 < (p0.length : Int))) (cond (decide (1125899906842624 < ((p0.getD (Int.toNat v45) zSpan).xTo))) (kr) (cond (decide (0 < v45)) (cond (decide (0 ≤ v45)) (cond (decide (v45 < (p0.length : Int))) (cond (decide (0 ≤ wr .i64 (v45 - 1))) (cond (decide (wr .i64 (v45 - 1) < (p0.length : Int))) (cond (decide (((p0.getD (Int.toNat v45) zSpan).xFrom) ≤ ((p0.getD (Int.toNat (wr .i64 (v45 - 1))) zSpan).xTo))) (kr) (kn (wr .i64 (v45 + 1)))) (none)) (none)) (none)) (none)) (kn (wr .i64 (v45 + 1))))) (none)) (none))) (none)) (none)) (none)) (none))) (none)) (none)) (ke0)
def l_ref06_Check_10 {R : Type} (cp : Nat → Nat → Bool) (n : Nat) : Nat → (List SSpan) → Int → (Option R) → (Option R) → Option R
  | 0, _, _, _, _ => none
  | m + 1, p0, v45, kr, ke0 =>
    s_ref06_Check_5 cp n p0 v45 (fun v46 => l_ref06_Check_10 cp n m p0 v46 kr ke0) kr ke0
def s_ref06_Check_11 {R : Type} (cp : Nat → Nat → Bool) (n : Nat) (p0 : (List SSpan)) (kr : Option R) (ke0 : Option R) : Option R :=
  l_ref06_Check_10 cp n n p0 0 kr ke0
def s_ref06_Check_12 {R : Type} (cp : Nat → Nat → Bool) (n : Nat) (p0 : (List SSpan)) (kn : Option R) (kr : Option R) : Option R :=
  s_ref06_Check_11 cp n p0 kr kn
def s_ref06_Check_13 {R : Type} (cp : Nat → Nat → Bool) (n : Nat) (p0 : (List SSpan)) (kn : Option R) (kr : Option R) : Option R :=
  s_ref06_Check_3 cp n p0 (s_ref06_Check_12 cp n p0 kn kr)
def s_ref06_Check_14 {R : Type} (cp : Nat → Nat → Bool) (n : Nat) (kr : Option R) : Option R :=
  kr
def s_ref06_Check_17 {R : Type} (cp : Nat → Nat → Bool) (n : Nat) (p0 : (List SSpan)) (kr : Int → Option R) : Option R :=
  s_ref06_Check_13 cp n p0 (s_ref06_Check_14 cp n (kr 0)) (kr 60)
def s_ref06_Check_19 {R : Type} (cp : Nat → Nat → Bool) (n : Nat) (p0 : (List SSpan)) (kr : Int → Option R) : Option R :=
  s_ref06_Check_1 cp n p0 (s_ref06_Check_17 cp n p0 (fun v47 => (kr v47)))
def G_ref06_Check {R : Type} (cp : Nat → Nat → Bool) : Nat → (List SSpan) → (Int → Option R) → Option R
  | 0, _, _ => none
  | n + 1, p0, k =>
    s_ref06_Check_19 cp n p0 (fun v48 => k v48)
/-! tideway/tidewayref06.right -/
def G_ref06_right {R : Type} (cp : Nat → Nat → Bool) : Nat → SSpan → (Bool → Option R) → Option R
  | 0, _, _ => none
  | n + 1, p0, k =>
    cond (decide (0 ≤ p0.xFrom)) (cond (decide (p0.xFrom ≤ p0.xTo)) (k (decide (p0.xTo ≤ 1125899906842624))) (k false)) (k false)
/-! tideway/tidewayref06.Add -/
def s_ref06_Add_1 {R : Type} (cp : Nat → Nat → Bool) (n : Nat) (p0 : (List SSpan)) (p1 : SSpan) (kn : Option R) (kr : (List SSpan) → Int → Option R) : Option R :=
  G_ref06_Check cp n p0 (fun r56 => cond (!decide (r56 = 0)) (kr [] 60) (G_ref06_right cp n p1 (fun r57 => cond (!r57) (kr [] 2) (cond (decide (p1.xFrom = p1.xTo)) (cond (cp (([] : List SSpan).length + p0.length) 16) (kr ([] ++ p0) 0) (none)) (kn)))))
def s_ref06_Add_4 {R : Type} (cp : Nat → Nat → Bool) (n : Nat) (p0 : (List SSpan)) (p1 : SSpan) (kn : Option R) : Option R :=
  kn
def s_ref06_Add_6 {R : Type} (cp : Nat → Nat → Bool) (n : Nat) (p0 v60 : (List SSpan)) (v61 : Bool) (v62 v63 v64 : Int) (kn : (List SSpan) → Bool → Int → Int → Int → Option R) (ke0 : Option R) : Option R :=
  cond (decide (v62 < (p0.length : Int))) (cond (decide (0 ≤ v62)) (cond (decide (v62 < (p0.length : Int))) (cond (decide (((p0.getD (Int.toNat v62) zSpan).xTo) < v63)) (cond (decide (0 ≤ v62)) (cond (decide (v62 < (p0.length : Int))) (cond (cp (v60.length + [(p0.getD (Int.toNat v62) zSpan)].length) 16) (kn (v60 ++ [(p0.getD (Int.toNat v62) zSpan)]) v61 (wr .i64 (v62 + 1)) v63 v64) (none)) (none)) (none)) (cond (decide (0 ≤ v62)) (cond (decide (v62 < (p0.length : Int))) (cond (decide (v64 < ((p0.getD (Int.toNat v62) zSpan).xFrom))) (cond (!v61) (cond (cp (v60.length + [(SSpan.mk v63 v64)].length) 16) (cond (decide (0 ≤ v62)) (cond (decide (v62 < (p0.length : Int))) (cond (cp ((v60 ++ [(SSpan.mk v63 v64)]).length + [(p0.getD (Int.toNat v62) zSpan)].length) 16) (kn ((v60 ++ [(SSpan.mk v63 v64)]) ++ [(p0.getD (Int.toNat v62) zSpan)]) true (wr .i64 (v62 + 1)) v63 v64) (none)) (none)) (none)) (none)) (cond (decide (0 ≤ v62)) (cond (decide (v62 < (p0.length : Int))) (cond (cp (v60.length + [(p0.getD (Int.toNat v62) zSpan)].length) 16) (kn (v60 ++ [(p0.getD (Int.toNat v62) zSpan)]) v61 (wr .i64 (v62 + 1)) v63 v64) (none)) (none)) (none))) (cond (decide (0 ≤ v62)) (cond (decide (v62 < (p0.length : Int))) (cond (decide (0 ≤ v62)) (cond (decide (v62 < (p0.length : Int))) (kn v60 v61 (wr .i64 (v62 + 1)) (mn v63 ((p0.getD (Int.toNat v62) zSpan).xFrom)) (mx v64 ((p0.getD (Int.toNat v62) zSpan).xTo))) (none)) (none)) (none)) (none))) (none)) (none))) (none)) (none)) (ke0)
def l_ref06_Add_11 {R : Type} (cp : Nat → Nat → Bool) (n : Nat) : Nat → (List SSpan) → (List SSpan) → Bool → Int → Int → Int → ((List SSpan) → Bool → Int → Int → Option R) → Option R
  | 0, _, _, _, _, _, _, _ => none
  | m + 1, p0, v60, v61, v62, v63, v64, ke0 =>
    s_ref06_Add_6 cp n p0 v60 v61 v62 v63 v64 (fun v65 v66 v67 v68 v69 => l_ref06_Add_11 cp n m p0 v65 v66 v67 v68 v69 ke0) (ke0 v60 v61 v63 v64)
def s_ref06_Add_12 {R : Type} (cp : Nat → Nat → Bool) (n : Nat) (p0 : (List SSpan)) (p1 : SSpan) (ke0 : (List SSpan) → Bool → Int → Int → Option R) : Option R :=
  l_ref06_Add_11 cp n n p0 [] false 0 p1.xFrom p1.xTo ke0
def s_ref06_Add_14 {R : Type} (cp : Nat → Nat → Bool) (n : Nat) (p0 : (List SSpan)) (p1 : SSpan) (kn : (List SSpan) → Bool → Int → Int → Option R) : Option R :=
  s_ref06_Add_12 cp n p0 p1 (fun v70 v71 v72 v73 => (kn v70 v71 v72 v73))
def s_ref06_Add_16 {R : Type} (cp : Nat → Nat → Bool) (n : Nat) (p0 : (List SSpan)) (p1 : SSpan) (kn : (List SSpan) → Bool → Int → Int → Option R) : Option R :=
  s_ref06_Add_4 cp n p0 p1 (s_ref06_Add_14 cp n p0 p1 (fun v74 v75 v76 v77 => (kn v74 v75 v76 v77)))
def s_ref06_Add_17 {R : Type} (cp : Nat → Nat → Bool) (n : Nat) (v78 : (List SSpan)) (v79 : Bool) (v80 v81 : Int) (kr : (List SSpan) → Option R) : Option R :=
  cond (!v79) (cond (cp (v78.length + [(SSpan.mk v80 v81)].length) 16) (kr (v78 ++ [(SSpan.mk v80 v81)])) (none)) (kr v78)
def s_ref06_Add_20 {R : Type} (cp : Nat → Nat → Bool) (n : Nat) (p0 : (List SSpan)) (p1 : SSpan) (kr : (List SSpan) → Option R) : Option R :=
  s_ref06_Add_16 cp n p0 p1 (fun v78 v79 v80 v81 => s_ref06_Add_17 cp n v78 v79 v80 v81 (fun v82 => (kr v82)))
def s_ref06_Add_22 {R : Type} (cp : Nat → Nat → Bool) (n : Nat) (p0 : (List SSpan)) (p1 : SSpan) (kr : (List SSpan) → Int → Option R) : Option R :=
  s_ref06_Add_1 cp n p0 p1 (s_ref06_Add_20 cp n p0 p1 (fun v83 => (kr v83 0))) (fun v58 v59 => (kr v58 v59))
def G_ref06_Add {R : Type} (cp : Nat → Nat → Bool) : Nat → (List SSpan) → SSpan → ((List SSpan) → Int → Option R) → Option R
  | 0, _, _, _ => none
  | n + 1, p0, p1, k =>
    s_ref06_Add_22 cp n p0 p1 (fun v84 v85 => k v84 v85)
/-! tideway/span.Cut -/
def s_span_Cut_1 {R : Type} (cp : Nat → Nat → Bool) (n : Nat) (p0 : (List SSpan)) (p1 : SSpan) (kn : Option R) (kr : (List SSpan) → Int → Option R) : Option R :=
  G_span_right cp n p0 p1 (fun r93 => cond (!decide (r93 = 0)) (kr [] r93) (cond (decide (p1.xFrom = p1.xTo)) (G_slices_Clone_Span cp n p0 (fun r94 => kr r94 0)) (kn)))
def s_span_Cut_4 {R : Type} (cp : Nat → Nat → Bool) (n : Nat) (p0 : (List SSpan)) (p1 : SSpan) (kn : Int → Option R) : Option R :=
  kn (p0.length : Int)
def s_span_Cut_6 {R : Type} (cp : Nat → Nat → Bool) (n : Nat) (p0 : (List SSpan)) (p1 : SSpan) (v97 : Int) (v98 : (List SSpan)) (v99 : Int) (kn : Option R) (ke0 : Option R) : Option R :=
  cond (decide (v99 < v97)) (kn) (ke0)
def s_span_Cut_9 {R : Type} (cp : Nat → Nat → Bool) (n : Nat) (p0 : (List SSpan)) (p1 : SSpan) (v97 : Int) (v98 : (List SSpan)) (v99 : Int) (kn : Int → Int → Option R) (ke1 : (List SSpan) → Option R) : Option R :=
  cond (decide (0 ≤ v99)) (cond (decide (v99 < (p0.length : Int))) (cond (decide (((p0.getD (Int.toNat v99) zSpan).xTo) ≤ p1.xFrom)) (cond (cp (v98.length + [(p0.getD (Int.toNat v99) zSpan)].length) 16) (ke1 (v98 ++ [(p0.getD (Int.toNat v99) zSpan)])) (none)) (cond (decide (p1.xTo ≤ ((p0.getD (Int.toNat v99) zSpan).xFrom))) (cond (cp (v98.length + [(p0.getD (Int.toNat v99) zSpan)].length) 16) (ke1 (v98 ++ [(p0.getD (Int.toNat v99) zSpan)])) (none)) (kn ((p0.getD (Int.toNat v99) zSpan).xFrom) ((p0.getD (Int.toNat v99) zSpan).xTo)))) (none)) (none)
def s_span_Cut_12 {R : Type} (cp : Nat → Nat → Bool) (n : Nat) (p0 : (List SSpan)) (p1 : SSpan) (v97 v99 v100 v101 : Int) (v103 : (List SSpan)) (v104 : Int) (kn : (List SSpan) → Int → Option R) (ke2 : Option R) : Option R :=
  cond (decide (v104 < 2)) (cond (decide (v104 = 0)) (cond (decide (v100 < p1.xFrom)) (cond (cp (v103.length + [(SSpan.mk v100 p1.xFrom)].length) 16) (kn (v103 ++ [(SSpan.mk v100 p1.xFrom)]) (wr .i64 (v104 + 1))) (none)) (kn v103 (wr .i64 (v104 + 1)))) (cond (decide (v104 = 1)) (cond (decide (p1.xTo < v101)) (cond (cp (v103.length + [(SSpan.mk p1.xTo v101)].length) 16) (kn (v103 ++ [(SSpan.mk p1.xTo v101)]) (wr .i64 (v104 + 1))) (none)) (kn v103 (wr .i64 (v104 + 1)))) (none))) (ke2)
def l_span_Cut_17 {R : Type} (cp : Nat → Nat → Bool) (n : Nat) : Nat → (List SSpan) → SSpan → Int → Int → Int → Int → (List SSpan) → Int → ((List SSpan) → Option R) → Option R
  | 0, _, _, _, _, _, _, _, _, _ => none
  | m + 1, p0, p1, v97, v99, v100, v101, v103, v104, ke2 =>
    s_span_Cut_12 cp n p0 p1 v97 v99 v100 v101 v103 v104 (fun v105 v106 => l_span_Cut_17 cp n m p0 p1 v97 v99 v100 v101 v105 v106 ke2) (ke2 v103)
def s_span_Cut_18 {R : Type} (cp : Nat → Nat → Bool) (n : Nat) (p0 : (List SSpan)) (p1 : SSpan) (v97 : Int) (v98 : (List SSpan)) (v99 v100 v101 : Int) (ke2 : (List SSpan) → Option R) : Option R :=
  l_span_Cut_17 cp n n p0 p1 v97 v99 v100 v101 v98 0 ke2
def s_span_Cut_20 {R : Type} (cp : Nat → Nat → Bool) (n : Nat) (p0 : (List SSpan)) (p1 : SSpan) (v97 : Int) (v98 : (List SSpan)) (v99 v100 v101 : Int) (kn : (List SSpan) → Option R) : Option R :=
  s_span_Cut_18 cp n p0 p1 v97 v98 v99 v100 v101 (fun v107 => (kn v107))
def s_span_Cut_23 {R : Type} (cp : Nat → Nat → Bool) (n : Nat) (p0 : (List SSpan)) (p1 : SSpan) (v97 : Int) (v98 : (List SSpan)) (v99 : Int) (kn : (List SSpan) → Option R) (ke1 : (List SSpan) → Option R) : Option R :=
  s_span_Cut_9 cp n p0 p1 v97 v98 v99 (fun v100 v101 => s_span_Cut_20 cp n p0 p1 v97 v98 v99 v100 v101 (fun v108 => (kn v108))) (fun v102 => (ke1 v102))
def s_span_Cut_25 {R : Type} (cp : Nat → Nat → Bool) (n : Nat) (p0 : (List SSpan)) (p1 : SSpan) (v97 : Int) (v98 : (List SSpan)) (v99 : Int) (kn : (List SSpan) → Option R) : Option R :=
  s_span_Cut_23 cp n p0 p1 v97 v98 v99 (fun v109 => (kn v109)) (fun v110 => (kn v110))
def s_span_Cut_26 {R : Type} (cp : Nat → Nat → Bool) (n : Nat) (p0 : (List SSpan)) (p1 : SSpan) (v97 v99 : Int) (v111 : (List SSpan)) (kn : Int → Option R) : Option R :=
  kn (wr .i64 (v99 + 1))
def s_span_Cut_29 {R : Type} (cp : Nat → Nat → Bool) (n : Nat) (p0 : (List SSpan)) (p1 : SSpan) (v97 : Int) (v98 : (List SSpan)) (v99 : Int) (kn : (List SSpan) → Int → Option R) : Option R :=
  s_span_Cut_25 cp n p0 p1 v97 v98 v99 (fun v111 => s_span_Cut_26 cp n p0 p1 v97 v99 v111 (fun v112 => (kn v111 v112)))
def s_span_Cut_31 {R : Type} (cp : Nat → Nat → Bool) (n : Nat) (p0 : (List SSpan)) (p1 : SSpan) (v97 : Int) (v98 : (List SSpan)) (v99 : Int) (kn : (List SSpan) → Int → Option R) (ke0 : Option R) : Option R :=
  s_span_Cut_6 cp n p0 p1 v97 v98 v99 (s_span_Cut_29 cp n p0 p1 v97 v98 v99 (fun v113 v114 => (kn v113 v114))) ke0
def l_span_Cut_33 {R : Type} (cp : Nat → Nat → Bool) (n : Nat) : Nat → (List SSpan) → SSpan → Int → (List SSpan) → Int → ((List SSpan) → Option R) → Option R
  | 0, _, _, _, _, _, _ => none
  | m + 1, p0, p1, v97, v98, v99, ke0 =>
    s_span_Cut_31 cp n p0 p1 v97 v98 v99 (fun v115 v116 => l_span_Cut_33 cp n m p0 p1 v97 v115 v116 ke0) (ke0 v98)
def s_span_Cut_34 {R : Type} (cp : Nat → Nat → Bool) (n : Nat) (p0 : (List SSpan)) (p1 : SSpan) (v97 : Int) (ke0 : (List SSpan) → Option R) : Option R :=
  l_span_Cut_33 cp n n p0 p1 v97 [] 0 ke0
def s_span_Cut_36 {R : Type} (cp : Nat → Nat → Bool) (n : Nat) (p0 : (List SSpan)) (p1 : SSpan) (v97 : Int) (kn : (List SSpan) → Option R) : Option R :=
  s_span_Cut_34 cp n p0 p1 v97 (fun v117 => (kn v117))
def s_span_Cut_38 {R : Type} (cp : Nat → Nat → Bool) (n : Nat) (p0 : (List SSpan)) (p1 : SSpan) (kn : (List SSpan) → Option R) : Option R :=
  s_span_Cut_4 cp n p0 p1 (fun v97 => s_span_Cut_36 cp n p0 p1 v97 (fun v118 => (kn v118)))
def s_span_Cut_39 {R : Type} (cp : Nat → Nat → Bool) (n : Nat) (v119 : (List SSpan)) (kr : Option R) : Option R :=
  kr
def s_span_Cut_42 {R : Type} (cp : Nat → Nat → Bool) (n : Nat) (p0 : (List SSpan)) (p1 : SSpan) (kr : (List SSpan) → Option R) : Option R :=
  s_span_Cut_38 cp n p0 p1 (fun v119 => s_span_Cut_39 cp n v119 (kr v119))
def s_span_Cut_44 {R : Type} (cp : Nat → Nat → Bool) (n : Nat) (p0 : (List SSpan)) (p1 : SSpan) (kr : (List SSpan) → Int → Option R) : Option R :=
  s_span_Cut_1 cp n p0 p1 (s_span_Cut_42 cp n p0 p1 (fun v120 => (kr v120 0))) (fun v95 v96 => (kr v95 v96))
def G_span_Cut {R : Type} (cp : Nat → Nat → Bool) : Nat → (List SSpan) → SSpan → ((List SSpan) → Int → Option R) → Option R
  | 0, _, _, _ => none
  | n + 1, p0, p1, k =>
    s_span_Cut_44 cp n p0 p1 (fun v121 v122 => k v121 v122)
/-! tideway/tidewayref06.Cut -/
def s_ref06_Cut_1 {R : Type} (cp : Nat → Nat → Bool) (n : Nat) (p0 : (List SSpan)) (p1 : SSpan) (kn : Option R) (kr : Int → Option R) : Option R :=
  G_ref06_Check cp n p0 (fun r128 => cond (!decide (r128 = 0)) (kr 60) (G_ref06_right cp n p1 (fun r129 => cond (!r129) (kr 2) (kn))))
def s_ref06_Cut_4 {R : Type} (cp : Nat → Nat → Bool) (n : Nat) (p0 : (List SSpan)) (p1 : SSpan) (kn : Option R) : Option R :=
  kn
def s_ref06_Cut_6 {R : Type} (cp : Nat → Nat → Bool) (n : Nat) (p0 : (List SSpan)) (p1 : SSpan) (v131 : (List SSpan)) (v132 : Int) (kn : (List SSpan) → Int → Option R) (ke0 : Option R) : Option R :=
  cond (decide (v132 < (p0.length : Int))) (cond (decide (p1.xTo ≤ p1.xFrom)) (cond (decide (0 ≤ v132)) (cond (decide (v132 < (p0.length : Int))) (cond (cp (v131.length + [(p0.getD (Int.toNat v132) zSpan)].length) 16) (kn (v131 ++ [(p0.getD (Int.toNat v132) zSpan)]) (wr .i64 (v132 + 1))) (none)) (none)) (none)) (cond (decide (0 ≤ v132)) (cond (decide (v132 < (p0.length : Int))) (cond (decide (0 ≤ v132)) (cond (decide (v132 < (p0.length : Int))) (cond (decide (0 ≤ v132)) (cond (decide (v132 < (p0.length : Int))) (cond (decide (0 ≤ v132)) (cond (decide (v132 < (p0.length : Int))) (cond (decide (((p0.getD (Int.toNat v132) zSpan).xFrom) < (mn ((p0.getD (Int.toNat v132) zSpan).xTo) p1.xFrom))) (cond (cp (v131.length + [(SSpan.mk ((p0.getD (Int.toNat v132) zSpan).xFrom) (mn ((p0.getD (Int.toNat v132) zSpan).xTo) p1.xFrom))].length) 16) (cond (decide ((mx ((p0.getD (Int.toNat v132) zSpan).xFrom) p1.xTo) < ((p0.getD (Int.toNat v132) zSpan).xTo))) (cond (cp ((v131 ++ [(SSpan.mk ((p0.getD (Int.toNat v132) zSpan).xFrom) (mn ((p0.getD (Int.toNat v132) zSpan).xTo) p1.xFrom))]).length + [(SSpan.mk (mx ((p0.getD (Int.toNat v132) zSpan).xFrom) p1.xTo) ((p0.getD (Int.toNat v132) zSpan).xTo))].length) 16) (kn ((v131 ++ [(SSpan.mk ((p0.getD (Int.toNat v132) zSpan).xFrom) (mn ((p0.getD (Int.toNat v132) zSpan).xTo) p1.xFrom))]) ++ [(SSpan.mk (mx ((p0.getD (Int.toNat v132) zSpan).xFrom) p1.xTo) ((p0.getD (Int.toNat v132) zSpan).xTo))]) (wr .i64 (v132 + 1))) (none)) (kn (v131 ++ [(SSpan.mk ((p0.getD (Int.toNat v132) zSpan).xFrom) (mn ((p0.getD (Int.toNat v132) zSpan).xTo) p1.xFrom))]) (wr .i64 (v132 + 1)))) (none)) (cond (decide ((mx ((p0.getD (Int.toNat v132) zSpan).xFrom) p1.xTo) < ((p0.getD (Int.toNat v132) zSpan).xTo))) (cond (cp (v131.length + [(SSpan.mk (mx ((p0.getD (Int.toNat v132) zSpan).xFrom) p1.xTo) ((p0.getD (Int.toNat v132) zSpan).xTo))].length) 16) (kn (v131 ++ [(SSpan.mk (mx ((p0.getD (Int.toNat v132) zSpan).xFrom) p1.xTo) ((p0.getD (Int.toNat v132) zSpan).xTo))]) (wr .i64 (v132 + 1))) (none)) (kn v131 (wr .i64 (v132 + 1))))) (none)) (none)) (none)) (none)) (none)) (none)) (none)) (none))) (ke0)
def l_ref06_Cut_11 {R : Type} (cp : Nat → Nat → Bool) (n : Nat) : Nat → (List SSpan) → SSpan → (List SSpan) → Int → ((List SSpan) → Option R) → Option R
  | 0, _, _, _, _, _ => none
  | m + 1, p0, p1, v131, v132, ke0 =>
    s_ref06_Cut_6 cp n p0 p1 v131 v132 (fun v133 v134 => l_ref06_Cut_11 cp n m p0 p1 v133 v134 ke0) (ke0 v131)
def s_ref06_Cut_12 {R : Type} (cp : Nat → Nat → Bool) (n : Nat) (p0 : (List SSpan)) (p1 : SSpan) (ke0 : (List SSpan) → Option R) : Option R :=
  l_ref06_Cut_11 cp n n p0 p1 [] 0 ke0
def s_ref06_Cut_14 {R : Type} (cp : Nat → Nat → Bool) (n : Nat) (p0 : (List SSpan)) (p1 : SSpan) (kn : (List SSpan) → Option R) : Option R :=
  s_ref06_Cut_12 cp n p0 p1 (fun v135 => (kn v135))
def s_ref06_Cut_16 {R : Type} (cp : Nat → Nat → Bool) (n : Nat) (p0 : (List SSpan)) (p1 : SSpan) (kn : (List SSpan) → Option R) : Option R :=
  s_ref06_Cut_4 cp n p0 p1 (s_ref06_Cut_14 cp n p0 p1 (fun v136 => (kn v136)))
def s_ref06_Cut_17 {R : Type} (cp : Nat → Nat → Bool) (n : Nat) (v137 : (List SSpan)) (kr : Option R) : Option R :=
  kr
def s_ref06_Cut_20 {R : Type} (cp : Nat → Nat → Bool) (n : Nat) (p0 : (List SSpan)) (p1 : SSpan) (kr : (List SSpan) → Option R) : Option R :=
  s_ref06_Cut_16 cp n p0 p1 (fun v137 => s_ref06_Cut_17 cp n v137 (kr v137))
def s_ref06_Cut_22 {R : Type} (cp : Nat → Nat → Bool) (n : Nat) (p0 : (List SSpan)) (p1 : SSpan) (kr : (List SSpan) → Int → Option R) : Option R :=
  s_ref06_Cut_1 cp n p0 p1 (s_ref06_Cut_20 cp n p0 p1 (fun v138 => (kr v138 0))) (fun v130 => (kr [] v130))
def G_ref06_Cut {R : Type} (cp : Nat → Nat → Bool) : Nat → (List SSpan) → SSpan → ((List SSpan) → Int → Option R) → Option R
  | 0, _, _, _ => none
  | n + 1, p0, p1, k =>
    s_ref06_Cut_22 cp n p0 p1 (fun v139 v140 => k v139 v140)
/-! tideway/tidewayref06.Same -/
def s_ref06_Same_1 {R : Type} (cp : Nat → Nat → Bool) (n : Nat) (p0 p1 : (List SSpan)) (kn : Option R) (kr : Option R) : Option R :=
  cond (!decide ((p0.length : Int) = (p1.length : Int))) (kr) (kn)
def s_ref06_Same_4 {R : Type} (cp : Nat → Nat → Bool) (n : Nat) (p0 p1 : (List SSpan)) (kn : Option R) : Option R :=
  kn
def s_ref06_Same_6 {R : Type} (cp : Nat → Nat → Bool) (n : Nat) (p0 p1 : (List SSpan)) (v143 : Int) (kn : Int → Option R) (kr : Option R) (ke0 : Option R) : Option R :=
  cond (decide (v143 < (p0.length : Int))) (cond (decide (0 ≤ v143)) (cond (decide (v143 < (p0.length : Int))) (cond (decide (0 ≤ v143)) (cond (decide (v143 < (p1.length : Int))) (cond (!(decide ((p0.getD (Int.toNat v143) zSpan).xFrom = (p1.getD (Int.toNat v143) zSpan).xFrom) && (decide ((p0.getD (Int.toNat v143) zSpan).xTo = (p1.getD (Int.toNat v143) zSpan).xTo) && true))) (kr) (kn (wr .i64 (v143 + 1)))) (none)) (none)) (none)) (none)) (ke0)
def l_ref06_Same_10 {R : Type} (cp : Nat → Nat → Bool) (n : Nat) : Nat → (List SSpan) → (List SSpan) → Int → (Option R) → (Option R) → Option R
  | 0, _, _, _, _, _ => none
  | m + 1, p0, p1, v143, kr, ke0 =>
    s_ref06_Same_6 cp n p0 p1 v143 (fun v144 => l_ref06_Same_10 cp n m p0 p1 v144 kr ke0) kr ke0
def s_ref06_Same_11 {R : Type} (cp : Nat → Nat → Bool) (n : Nat) (p0 p1 : (List SSpan)) (kr : Option R) (ke0 : Option R) : Option R :=
  l_ref06_Same_10 cp n n p0 p1 0 kr ke0
def s_ref06_Same_12 {R : Type} (cp : Nat → Nat → Bool) (n : Nat) (p0 p1 : (List SSpan)) (kn : Option R) (kr : Option R) : Option R :=
  s_ref06_Same_11 cp n p0 p1 kr kn
def s_ref06_Same_13 {R : Type} (cp : Nat → Nat → Bool) (n : Nat) (p0 p1 : (List SSpan)) (kn : Option R) (kr : Option R) : Option R :=
  s_ref06_Same_4 cp n p0 p1 (s_ref06_Same_12 cp n p0 p1 kn kr)
def s_ref06_Same_14 {R : Type} (cp : Nat → Nat → Bool) (n : Nat) (kr : Option R) : Option R :=
  kr
def s_ref06_Same_17 {R : Type} (cp : Nat → Nat → Bool) (n : Nat) (p0 p1 : (List SSpan)) (kr : Bool → Option R) : Option R :=
  s_ref06_Same_13 cp n p0 p1 (s_ref06_Same_14 cp n (kr true)) (kr false)
def s_ref06_Same_19 {R : Type} (cp : Nat → Nat → Bool) (n : Nat) (p0 p1 : (List SSpan)) (kr : Bool → Option R) : Option R :=
  s_ref06_Same_1 cp n p0 p1 (s_ref06_Same_17 cp n p0 p1 (fun v145 => (kr v145))) (kr false)
def G_ref06_Same {R : Type} (cp : Nat → Nat → Bool) : Nat → (List SSpan) → (List SSpan) → (Bool → Option R) → Option R
  | 0, _, _, _ => none
  | n + 1, p0, p1, k =>
    s_ref06_Same_19 cp n p0 p1 (fun v146 => k v146)
/-! tideway/span.within -/
def G_span_within {R : Type} (cp : Nat → Nat → Bool) : Nat → (List SSpan) → SSpan → ((List SSpan) → SSpan → Option R) → Option R
  | 0, _, _, _ => none
  | n + 1, p0, p1, k =>
    k p0 p1
/-! tideway/span.Gaps -/
def s_span_Gaps_1 {R : Type} (cp : Nat → Nat → Bool) (n : Nat) (p0 : (List SSpan)) (p1 : SSpan) (kn : Option R) (kr : Option R) : Option R :=
  G_span_Check cp n p0 (fun r39 => cond (!decide (r39 = 0)) (kr) (cond (decide (p1.xTo ≤ p1.xFrom)) (kr) (kn)))
def s_span_Gaps_4 {R : Type} (cp : Nat → Nat → Bool) (n : Nat) (p0 : (List SSpan)) (p1 : SSpan) (kn : (List SSpan) → Int → Int → Option R) : Option R :=
  G_span_within cp n p0 p1 (fun r40 r41 => kn r40 r41.xFrom r41.xTo)
def s_span_Gaps_8 {R : Type} (cp : Nat → Nat → Bool) (n : Nat) (p1 : SSpan) (v42 : (List SSpan)) (v43 v44 : Int) (kn : Int → Option R) : Option R :=
  kn (v42.length : Int)
def s_span_Gaps_10 {R : Type} (cp : Nat → Nat → Bool) (n : Nat) (p1 : SSpan) (v42 : (List SSpan)) (v43 v44 v45 v46 : Int) (v47 : (List SSpan)) (v48 : Int) (kn : Option R) (ke0 : Option R) : Option R :=
  cond (decide (v46 < v45)) (kn) (ke0)
def s_span_Gaps_13 {R : Type} (cp : Nat → Nat → Bool) (n : Nat) (p1 : SSpan) (v42 : (List SSpan)) (v43 v44 v45 v46 : Int) (v47 : (List SSpan)) (v48 : Int) (kn : Int → Int → Option R) : Option R :=
  cond (decide (0 ≤ v46)) (cond (decide (v46 < (v42.length : Int))) (kn (mx ((v42.getD (Int.toNat v46) zSpan).xFrom) v43) (mn ((v42.getD (Int.toNat v46) zSpan).xTo) v44)) (none)) (none)
def s_span_Gaps_15 {R : Type} (cp : Nat → Nat → Bool) (n : Nat) (p1 : SSpan) (v42 : (List SSpan)) (v43 v44 v45 v46 : Int) (v47 : (List SSpan)) (v48 v49 v50 : Int) (ka : Bool → Option R) (kb : Bool → Option R) : Option R :=
  cond (decide (v49 < v50)) (ka (decide (v49 < v50))) (kb (decide (v49 < v50)))
def s_span_Gaps_18 {R : Type} (cp : Nat → Nat → Bool) (n : Nat) (p1 : SSpan) (v42 : (List SSpan)) (v43 v44 : Int) (v47 : (List SSpan)) (v48 v49 v50 : Int) (kn : (List SSpan) → Option R) : Option R :=
  cond (decide (v48 < v49)) (cond (cp (v47.length + [(SSpan.mk v48 v49)].length) 16) (kn (v47 ++ [(SSpan.mk v48 v49)])) (none)) (kn v47)
def s_span_Gaps_24 {R : Type} (cp : Nat → Nat → Bool) (n : Nat) (p1 : SSpan) (v42 : (List SSpan)) (v43 v44 v45 v46 : Int) (v47 : (List SSpan)) (v48 v49 v50 : Int) (kn : (List SSpan) → Int → Option R) : Option R :=
  s_span_Gaps_15 cp n p1 v42 v43 v44 v45 v46 v47 v48 v49 v50 (fun v51 => s_span_Gaps_18 cp n p1 v42 v43 v44 v47 v48 v49 v50 (fun v53 => kn v53 v50)) (fun v52 => kn v47 v48)
def s_span_Gaps_25 {R : Type} (cp : Nat → Nat → Bool) (n : Nat) (p1 : SSpan) (v42 : (List SSpan)) (v43 v44 v45 v46 : Int) (v54 : (List SSpan)) (v55 : Int) (kn : Option R) : Option R :=
  kn
def s_span_Gaps_28 {R : Type} (cp : Nat → Nat → Bool) (n : Nat) (p1 : SSpan) (v42 : (List SSpan)) (v43 v44 v45 v46 : Int) (v47 : (List SSpan)) (v48 v49 v50 : Int) (kn : (List SSpan) → Int → Option R) : Option R :=
  s_span_Gaps_24 cp n p1 v42 v43 v44 v45 v46 v47 v48 v49 v50 (fun v54 v55 => s_span_Gaps_25 cp n p1 v42 v43 v44 v45 v46 v54 v55 (kn v54 v55))
def s_span_Gaps_30 {R : Type} (cp : Nat → Nat → Bool) (n : Nat) (p1 : SSpan) (v42 : (List SSpan)) (v43 v44 v45 v46 : Int) (v47 : (List SSpan)) (v48 : Int) (kn : (List SSpan) → Int → Option R) : Option R :=
  s_span_Gaps_13 cp n p1 v42 v43 v44 v45 v46 v47 v48 (fun v49 v50 => s_span_Gaps_28 cp n p1 v42 v43 v44 v45 v46 v47 v48 v49 v50 (fun v56 v57 => (kn v56 v57)))
def s_span_Gaps_32 {R : Type} (cp : Nat → Nat → Bool) (n : Nat) (p1 : SSpan) (v42 : (List SSpan)) (v43 v44 v45 v46 : Int) (v47 : (List SSpan)) (v48 : Int) (kn : (List SSpan) → Int → Option R) : Option R :=
  s_span_Gaps_30 cp n p1 v42 v43 v44 v45 v46 v47 v48 (fun v58 v59 => (kn v58 v59))
def s_span_Gaps_33 {R : Type} (cp : Nat → Nat → Bool) (n : Nat) (p1 : SSpan) (v42 : (List SSpan)) (v43 v44 v45 v46 : Int) (v60 : (List SSpan)) (v61 : Int) (kn : Int → Option R) : Option R :=
  kn (wr .i64 (v46 + 1))
def s_span_Gaps_36 {R : Type} (cp : Nat → Nat → Bool) (n : Nat) (p1 : SSpan) (v42 : (List SSpan)) (v43 v44 v45 v46 : Int) (v47 : (List SSpan)) (v48 : Int) (kn : Int → (List SSpan) → Int → Option R) : Option R :=
  s_span_Gaps_32 cp n p1 v42 v43 v44 v45 v46 v47 v48 (fun v60 v61 => s_span_Gaps_33 cp n p1 v42 v43 v44 v45 v46 v60 v61 (fun v62 => (kn v62 v60 v61)))
def s_span_Gaps_38 {R : Type} (cp : Nat → Nat → Bool) (n : Nat) (p1 : SSpan) (v42 : (List SSpan)) (v43 v44 v45 v46 : Int) (v47 : (List SSpan)) (v48 : Int) (kn : Int → (List SSpan) → Int → Option R) (ke0 : Option R) : Option R :=
  s_span_Gaps_10 cp n p1 v42 v43 v44 v45 v46 v47 v48 (s_span_Gaps_36 cp n p1 v42 v43 v44 v45 v46 v47 v48 (fun v63 v64 v65 => (kn v63 v64 v65))) ke0
def l_span_Gaps_40 {R : Type} (cp : Nat → Nat → Bool) (n : Nat) : Nat → SSpan → (List SSpan) → Int → Int → Int → Int → (List SSpan) → Int → ((List SSpan) → Int → Option R) → Option R
  | 0, _, _, _, _, _, _, _, _, _ => none
  | m + 1, p1, v42, v43, v44, v45, v46, v47, v48, ke0 =>
    s_span_Gaps_38 cp n p1 v42 v43 v44 v45 v46 v47 v48 (fun v66 v67 v68 => l_span_Gaps_40 cp n m p1 v42 v43 v44 v45 v66 v67 v68 ke0) (ke0 v47 v48)
def s_span_Gaps_41 {R : Type} (cp : Nat → Nat → Bool) (n : Nat) (p1 : SSpan) (v42 : (List SSpan)) (v43 v44 v45 : Int) (ke0 : (List SSpan) → Int → Option R) : Option R :=
  l_span_Gaps_40 cp n n p1 v42 v43 v44 v45 0 [] p1.xFrom ke0
def s_span_Gaps_43 {R : Type} (cp : Nat → Nat → Bool) (n : Nat) (p1 : SSpan) (v42 : (List SSpan)) (v43 v44 v45 : Int) (kn : (List SSpan) → Int → Option R) : Option R :=
  s_span_Gaps_41 cp n p1 v42 v43 v44 v45 (fun v69 v70 => (kn v69 v70))
def s_span_Gaps_45 {R : Type} (cp : Nat → Nat → Bool) (n : Nat) (p1 : SSpan) (v42 : (List SSpan)) (v43 v44 : Int) (kn : (List SSpan) → Int → Option R) : Option R :=
  s_span_Gaps_8 cp n p1 v42 v43 v44 (fun v45 => s_span_Gaps_43 cp n p1 v42 v43 v44 v45 (fun v71 v72 => (kn v71 v72)))
def s_span_Gaps_48 {R : Type} (cp : Nat → Nat → Bool) (n : Nat) (p1 : SSpan) (v42 : (List SSpan)) (v43 v44 : Int) (kn : (List SSpan) → Int → Option R) : Option R :=
  s_span_Gaps_45 cp n p1 v42 v43 v44 (fun v73 v74 => (kn v73 v74))
def s_span_Gaps_50 {R : Type} (cp : Nat → Nat → Bool) (n : Nat) (p1 : SSpan) (v42 : (List SSpan)) (v43 v44 : Int) (kn : (List SSpan) → Int → Option R) : Option R :=
  s_span_Gaps_48 cp n p1 v42 v43 v44 (fun v75 v76 => (kn v75 v76))
def s_span_Gaps_52 {R : Type} (cp : Nat → Nat → Bool) (n : Nat) (p0 : (List SSpan)) (p1 : SSpan) (kn : (List SSpan) → Int → Option R) : Option R :=
  s_span_Gaps_4 cp n p0 p1 (fun v42 v43 v44 => s_span_Gaps_50 cp n p1 v42 v43 v44 (fun v77 v78 => (kn v77 v78)))
def s_span_Gaps_53 {R : Type} (cp : Nat → Nat → Bool) (n : Nat) (p1 : SSpan) (v79 : (List SSpan)) (v80 : Int) (kr : (List SSpan) → Option R) : Option R :=
  cond (decide (v80 < p1.xTo)) (cond (cp (v79.length + [(SSpan.mk v80 p1.xTo)].length) 16) (kr (v79 ++ [(SSpan.mk v80 p1.xTo)])) (none)) (kr v79)
def s_span_Gaps_56 {R : Type} (cp : Nat → Nat → Bool) (n : Nat) (p0 : (List SSpan)) (p1 : SSpan) (kr : (List SSpan) → Option R) : Option R :=
  s_span_Gaps_52 cp n p0 p1 (fun v79 v80 => s_span_Gaps_53 cp n p1 v79 v80 (fun v81 => (kr v81)))
def s_span_Gaps_58 {R : Type} (cp : Nat → Nat → Bool) (n : Nat) (p0 : (List SSpan)) (p1 : SSpan) (kr : (List SSpan) → Option R) : Option R :=
  s_span_Gaps_1 cp n p0 p1 (s_span_Gaps_56 cp n p0 p1 (fun v82 => (kr v82))) (kr [])
def G_span_Gaps {R : Type} (cp : Nat → Nat → Bool) : Nat → (List SSpan) → SSpan → ((List SSpan) → Option R) → Option R
  | 0, _, _, _ => none
  | n + 1, p0, p1, k =>
    s_span_Gaps_58 cp n p0 p1 (fun v83 => k v83)
/-! tideway/span.Size -/
def s_span_Size_1 {R : Type} (cp : Nat → Nat → Bool) (n : Nat) (p0 : (List SSpan)) (kn : Option R) (kr : Option R) : Option R :=
  G_span_Check cp n p0 (fun r52 => cond (!decide (r52 = 0)) (kr) (kn))
def s_span_Size_4 {R : Type} (cp : Nat → Nat → Bool) (n : Nat) (p0 : (List SSpan)) (kn : Int → Option R) : Option R :=
  kn (p0.length : Int)
def s_span_Size_6 {R : Type} (cp : Nat → Nat → Bool) (n : Nat) (p0 : (List SSpan)) (v53 v54 v55 : Int) (kn : Int → Int → Option R) (ke0 : Option R) : Option R :=
  cond (decide (v55 < v53)) (cond (decide (0 ≤ v55)) (cond (decide (v55 < (p0.length : Int))) (kn (wr .i64 (v54 + (wr .i64 (((p0.getD (Int.toNat v55) zSpan).xTo) - ((p0.getD (Int.toNat v55) zSpan).xFrom))))) (wr .i64 (v55 + 1))) (none)) (none)) (ke0)
def l_span_Size_11 {R : Type} (cp : Nat → Nat → Bool) (n : Nat) : Nat → (List SSpan) → Int → Int → Int → (Int → Option R) → Option R
  | 0, _, _, _, _, _ => none
  | m + 1, p0, v53, v54, v55, ke0 =>
    s_span_Size_6 cp n p0 v53 v54 v55 (fun v56 v57 => l_span_Size_11 cp n m p0 v53 v56 v57 ke0) (ke0 v54)
def s_span_Size_12 {R : Type} (cp : Nat → Nat → Bool) (n : Nat) (p0 : (List SSpan)) (v53 : Int) (ke0 : Int → Option R) : Option R :=
  l_span_Size_11 cp n n p0 v53 0 0 ke0
def s_span_Size_14 {R : Type} (cp : Nat → Nat → Bool) (n : Nat) (p0 : (List SSpan)) (v53 : Int) (kn : Int → Option R) : Option R :=
  s_span_Size_12 cp n p0 v53 (fun v58 => (kn v58))
def s_span_Size_16 {R : Type} (cp : Nat → Nat → Bool) (n : Nat) (p0 : (List SSpan)) (kn : Int → Option R) : Option R :=
  s_span_Size_4 cp n p0 (fun v53 => s_span_Size_14 cp n p0 v53 (fun v59 => (kn v59)))
def s_span_Size_17 {R : Type} (cp : Nat → Nat → Bool) (n : Nat) (v60 : Int) (kr : Option R) : Option R :=
  kr
def s_span_Size_20 {R : Type} (cp : Nat → Nat → Bool) (n : Nat) (p0 : (List SSpan)) (kr : Int → Option R) : Option R :=
  s_span_Size_16 cp n p0 (fun v60 => s_span_Size_17 cp n v60 (kr v60))
def s_span_Size_22 {R : Type} (cp : Nat → Nat → Bool) (n : Nat) (p0 : (List SSpan)) (kr : Int → Option R) : Option R :=
  s_span_Size_1 cp n p0 (s_span_Size_20 cp n p0 (fun v61 => (kr v61))) (kr 0)
def G_span_Size {R : Type} (cp : Nat → Nat → Bool) : Nat → (List SSpan) → (Int → Option R) → Option R
  | 0, _, _ => none
  | n + 1, p0, k =>
    s_span_Size_22 cp n p0 (fun v62 => k v62)
/-! tideway/span.Find$1 -/
def G_span_Find_1 {R : Type} (cp : Nat → Nat → Bool) : Nat → SSpan → Int → (Bool → Int → Option R) → Option R
  | 0, _, _, _ => none
  | n + 1, p0, q0, k =>
    cond (decide (p0.xFrom ≤ q0)) (k (decide (q0 < p0.xTo)) q0) (k false q0)
/-! slices.IndexFunc[[]tideway/api.Span,tideway/api.Span] -/
def s_slices_IndexFunc_Span_1 {R : Type} (cp : Nat → Nat → Bool) (n : Nat) (p0 : (List SSpan)) (q0 : Int) (kn : Option R) : Option R :=
  kn
def s_slices_IndexFunc_Span_3 {R : Type} (cp : Nat → Nat → Bool) (n : Nat) (p0 : (List SSpan)) (q0 : Int) (kn : Int → Option R) : Option R :=
  kn (p0.length : Int)
def s_slices_IndexFunc_Span_5 {R : Type} (cp : Nat → Nat → Bool) (n : Nat) (p0 : (List SSpan)) (v65 v66 v67 : Int) (kn : Int → Int → Option R) (kr : Int → Option R) (ke0 : Option R) : Option R :=
  cond (decide (v66 < v65)) (cond (decide (0 ≤ v66)) (cond (decide (v66 < (p0.length : Int))) (G_span_Find_1 cp n (p0.getD (Int.toNat v66) zSpan) v67 (fun r68 r69 => cond (r68) (kr r69) (kn (wr .i64 (v66 + 1)) r69))) (none)) (none)) (ke0)
def l_slices_IndexFunc_Span_12 {R : Type} (cp : Nat → Nat → Bool) (n : Nat) : Nat → (List SSpan) → Int → Int → Int → (Int → Int → Option R) → (Int → Option R) → Option R
  | 0, _, _, _, _, _, _ => none
  | m + 1, p0, v65, v66, v67, kr, ke0 =>
    s_slices_IndexFunc_Span_5 cp n p0 v65 v66 v67 (fun v70 v71 => l_slices_IndexFunc_Span_12 cp n m p0 v65 v70 v71 kr ke0) (fun v72 => (kr v66 v72)) (ke0 v67)
def s_slices_IndexFunc_Span_13 {R : Type} (cp : Nat → Nat → Bool) (n : Nat) (p0 : (List SSpan)) (q0 v65 : Int) (kr : Int → Int → Option R) (ke0 : Int → Option R) : Option R :=
  l_slices_IndexFunc_Span_12 cp n n p0 v65 0 q0 kr ke0
def s_slices_IndexFunc_Span_16 {R : Type} (cp : Nat → Nat → Bool) (n : Nat) (p0 : (List SSpan)) (q0 v65 : Int) (kn : Int → Option R) (kr : Int → Int → Option R) : Option R :=
  s_slices_IndexFunc_Span_13 cp n p0 q0 v65 (fun v73 v74 => (kr v73 v74)) (fun v75 => (kn v75))
def s_slices_IndexFunc_Span_19 {R : Type} (cp : Nat → Nat → Bool) (n : Nat) (p0 : (List SSpan)) (q0 : Int) (kn : Int → Option R) (kr : Int → Int → Option R) : Option R :=
  s_slices_IndexFunc_Span_3 cp n p0 q0 (fun v65 => s_slices_IndexFunc_Span_16 cp n p0 q0 v65 (fun v76 => (kn v76)) (fun v77 v78 => (kr v77 v78)))
def s_slices_IndexFunc_Span_20 {R : Type} (cp : Nat → Nat → Bool) (n : Nat) (v79 : Int) (kr : Option R) : Option R :=
  kr
def s_slices_IndexFunc_Span_23 {R : Type} (cp : Nat → Nat → Bool) (n : Nat) (p0 : (List SSpan)) (q0 : Int) (kr : Int → Int → Option R) : Option R :=
  s_slices_IndexFunc_Span_19 cp n p0 q0 (fun v79 => s_slices_IndexFunc_Span_20 cp n v79 (kr (-1) v79)) (fun v80 v81 => (kr v80 v81))
def s_slices_IndexFunc_Span_25 {R : Type} (cp : Nat → Nat → Bool) (n : Nat) (p0 : (List SSpan)) (q0 : Int) (kr : Int → Int → Option R) : Option R :=
  s_slices_IndexFunc_Span_1 cp n p0 q0 (s_slices_IndexFunc_Span_23 cp n p0 q0 (fun v82 v83 => (kr v82 v83)))
def G_slices_IndexFunc_Span {R : Type} (cp : Nat → Nat → Bool) : Nat → (List SSpan) → Int → (Int → Int → Option R) → Option R
  | 0, _, _, _ => none
  | n + 1, p0, q0, k =>
    s_slices_IndexFunc_Span_25 cp n p0 q0 (fun v84 v85 => k v84 v85)
/-! tideway/span.Find -/
def G_span_Find {R : Type} (cp : Nat → Nat → Bool) : Nat → (List SSpan) → Int → (SSpan → Bool → Option R) → Option R
  | 0, _, _, _ => none
  | n + 1, p0, p1, k =>
    G_span_Check cp n p0 (fun r64 => cond (!decide (r64 = 0)) (k (SSpan.mk 0 0) false) (G_slices_IndexFunc_Span cp n p0 p1 (fun r86 r87 => cond (decide (r86 < 0)) (k (SSpan.mk 0 0) false) (cond (decide (0 ≤ r86)) (cond (decide (r86 < (p0.length : Int))) (k (p0.getD (Int.toNat r86) zSpan) true) (none)) (none)))))
/-! tideway/span.Has -/
def G_span_Has {R : Type} (cp : Nat → Nat → Bool) : Nat → (List SSpan) → Int → (Bool → Option R) → Option R
  | 0, _, _, _ => none
  | n + 1, p0, p1, k =>
    G_span_Find cp n p0 p1 (fun r88 r89 => k r89)
/-! tideway/tidewaylaw06.heads -/
def s_law06_heads_1 {R : Type} (cp : Nat → Nat → Bool) (n : Nat) (kn : (List SSpan) → Int → (List SSpan) → Int → Option R) : Option R :=
  G_span_Add cp n [(SSpan.mk 0 2), (SSpan.mk 6 7)] (SSpan.mk 2 4) (fun r40 r41 => G_span_Gaps cp n r40 (SSpan.mk 1 7) (fun r42 => G_span_Add cp n [(SSpan.mk 1 1)] (SSpan.mk 0 0) (fun r43 r44 => kn r40 r41 r42 r44)))
def s_law06_heads_3 {R : Type} (cp : Nat → Nat → Bool) (n : Nat) (v45 : (List SSpan)) (v46 : Int) (v47 : (List SSpan)) (v48 : Int) (kn : Bool → Option R) : Option R :=
  cond (decide (v46 = 0)) (G_ref06_Same cp n v45 [(SSpan.mk 0 4), (SSpan.mk 6 7)] (fun r49 => cond (r49) (G_ref06_Same cp n v47 [(SSpan.mk 4 6)] (fun r50 => cond (r50) (cond (decide (v48 = 60)) (G_span_Size cp n v45 (fun r51 => cond (decide (r51 = 5)) (G_span_Has cp n v45 3 (fun r52 => cond (r52) (G_span_Has cp n v45 4 (fun r53 => kn (!r53))) (kn false))) (kn false))) (kn false)) (kn false))) (kn false))) (kn false)
def s_law06_heads_5 {R : Type} (cp : Nat → Nat → Bool) (n : Nat) (v54 : Bool) (kr : Option R) : Option R :=
  kr
def s_law06_heads_7 {R : Type} (cp : Nat → Nat → Bool) (n : Nat) (v45 : (List SSpan)) (v46 : Int) (v47 : (List SSpan)) (v48 : Int) (kr : Bool → Option R) : Option R :=
  s_law06_heads_3 cp n v45 v46 v47 v48 (fun v54 => s_law06_heads_5 cp n v54 (kr v54))
def s_law06_heads_9 {R : Type} (cp : Nat → Nat → Bool) (n : Nat) (kr : Bool → Option R) : Option R :=
  s_law06_heads_1 cp n (fun v45 v46 v47 v48 => s_law06_heads_7 cp n v45 v46 v47 v48 (fun v55 => (kr v55)))
def G_law06_heads {R : Type} (cp : Nat → Nat → Bool) : Nat → (Bool → Option R) → Option R
  | 0, _ => none
  | n + 1, k =>
    s_law06_heads_9 cp n (fun v56 => k v56)
/-! tideway/tidewaylaw06.SpanChanges -/
def s_law06_SpanChanges_1 {R : Type} (cp : Nat → Nat → Bool) (n : Nat) (p0 : (List SSpan)) (p1 : SSpan) (kn : (List SSpan) → (List SSpan) → Int → (List SSpan) → Int → (List SSpan) → Int → (List SSpan) → Int → Option R) : Option R :=
  cond (cp (([] : List SSpan).length + p0.length) 16) (G_span_Add cp n ([] ++ p0) p1 (fun r13 r14 => G_ref06_Add cp n p0 p1 (fun r15 r16 => G_span_Cut cp n ([] ++ p0) p1 (fun r17 r18 => G_ref06_Cut cp n p0 p1 (fun r19 r20 => kn ([] ++ p0) r13 r14 r15 r16 r17 r18 r19 r20))))) (none)
def s_law06_SpanChanges_3 {R : Type} (cp : Nat → Nat → Bool) (n : Nat) (p0 v21 v22 : (List SSpan)) (v23 : Int) (v24 : (List SSpan)) (v25 : Int) (v26 : (List SSpan)) (v27 : Int) (v28 : (List SSpan)) (v29 : Int) (kn : Bool → Option R) : Option R :=
  G_ref06_Same cp n v22 v24 (fun r30 => cond (r30) (cond (decide (v23 = v25)) (G_ref06_Same cp n v26 v28 (fun r31 => cond (r31) (cond (decide (v27 = v29)) (G_span_Check cp n p0 (fun r32 => G_ref06_Check cp n p0 (fun r33 => cond (decide (r32 = r33)) (G_ref06_Same cp n v21 p0 (fun r34 => cond (r34) (G_law06_heads cp n (fun r57 => kn r57)) (kn false))) (kn false)))) (kn false)) (kn false))) (kn false)) (kn false))
def s_law06_SpanChanges_5 {R : Type} (cp : Nat → Nat → Bool) (n : Nat) (v58 : Bool) (kr : Option R) : Option R :=
  kr
def s_law06_SpanChanges_7 {R : Type} (cp : Nat → Nat → Bool) (n : Nat) (p0 v21 v22 : (List SSpan)) (v23 : Int) (v24 : (List SSpan)) (v25 : Int) (v26 : (List SSpan)) (v27 : Int) (v28 : (List SSpan)) (v29 : Int) (kr : Bool → Option R) : Option R :=
  s_law06_SpanChanges_3 cp n p0 v21 v22 v23 v24 v25 v26 v27 v28 v29 (fun v58 => s_law06_SpanChanges_5 cp n v58 (kr v58))
def s_law06_SpanChanges_9 {R : Type} (cp : Nat → Nat → Bool) (n : Nat) (p0 : (List SSpan)) (p1 : SSpan) (kr : Bool → Option R) : Option R :=
  s_law06_SpanChanges_1 cp n p0 p1 (fun v21 v22 v23 v24 v25 v26 v27 v28 v29 => s_law06_SpanChanges_7 cp n p0 v21 v22 v23 v24 v25 v26 v27 v28 v29 (fun v59 => (kr v59)))
def G_law06_SpanChanges {R : Type} (cp : Nat → Nat → Bool) : Nat → (List SSpan) → SSpan → (Bool → Option R) → Option R
  | 0, _, _, _ => none
  | n + 1, p0, p1, k =>
    s_law06_SpanChanges_9 cp n p0 p1 (fun v60 => k v60)
def ca_span_may {R : Type} (cp : Nat → Nat → Bool) (n : Nat) (av : Fr) (cs : List Fr) (k : Ret2 RW → Option R) : Option R := match av, cs with
  | [y0], [] => (dA y0).bind fun c0_ => (dSpan c0_).bind fun p0 => G_span_may cp n p0 (fun r0 => k ⟨(tB r0), [], []⟩)
  | _, _ => none
def ca_span_Check {R : Type} (cp : Nat → Nat → Bool) (n : Nat) (av : Fr) (cs : List Fr) (k : Ret2 RW → Option R) : Option R := match av, cs with
  | [y0], [] => (dRSpan false y0).bind fun p0 => G_span_Check cp n p0 (fun r0 => k ⟨(tL r0), [], []⟩)
  | _, _ => none
def ca_span_right {R : Type} (cp : Nat → Nat → Bool) (n : Nat) (av : Fr) (cs : List Fr) (k : Ret2 RW → Option R) : Option R := match av, cs with
  | [y0, y1], [] => (dRSpan false y0).bind fun p0 => (dA y1).bind fun c1_ => (dSpan c1_).bind fun p1 => G_span_right cp n p0 p1 (fun r0 => k ⟨(tL r0), [], []⟩)
  | _, _ => none
def ca_slices_Clone_Span {R : Type} (cp : Nat → Nat → Bool) (n : Nat) (av : Fr) (cs : List Fr) (k : Ret2 RW → Option R) : Option R := match av, cs with
  | [y0], [] => (dRSpan false y0).bind fun p0 => G_slices_Clone_Span cp n p0 (fun r0 => k ⟨.row true (.rSpan r0), [], []⟩)
  | _, _ => none
def ca_span_Add {R : Type} (cp : Nat → Nat → Bool) (n : Nat) (av : Fr) (cs : List Fr) (k : Ret2 RW → Option R) : Option R := match av, cs with
  | [y0, y1], [] => (dRSpan false y0).bind fun p0 => (dA y1).bind fun c1_ => (dSpan c1_).bind fun p1 => G_span_Add cp n p0 p1 (fun r0 r1 => k ⟨.tup [.row false (.rSpan r0), (tL r1)], [], []⟩)
  | _, _ => none
def ca_ref06_Check {R : Type} (cp : Nat → Nat → Bool) (n : Nat) (av : Fr) (cs : List Fr) (k : Ret2 RW → Option R) : Option R := match av, cs with
  | [y0], [] => (dRSpan false y0).bind fun p0 => G_ref06_Check cp n p0 (fun r0 => k ⟨(tL r0), [], []⟩)
  | _, _ => none
def ca_ref06_right {R : Type} (cp : Nat → Nat → Bool) (n : Nat) (av : Fr) (cs : List Fr) (k : Ret2 RW → Option R) : Option R := match av, cs with
  | [y0], [] => (dA y0).bind fun c0_ => (dSpan c0_).bind fun p0 => G_ref06_right cp n p0 (fun r0 => k ⟨(tB r0), [], []⟩)
  | _, _ => none
def ca_ref06_Add {R : Type} (cp : Nat → Nat → Bool) (n : Nat) (av : Fr) (cs : List Fr) (k : Ret2 RW → Option R) : Option R := match av, cs with
  | [y0, y1], [] => (dRSpan false y0).bind fun p0 => (dA y1).bind fun c1_ => (dSpan c1_).bind fun p1 => G_ref06_Add cp n p0 p1 (fun r0 r1 => k ⟨.tup [.row false (.rSpan r0), (tL r1)], [], []⟩)
  | _, _ => none
def ca_span_Cut {R : Type} (cp : Nat → Nat → Bool) (n : Nat) (av : Fr) (cs : List Fr) (k : Ret2 RW → Option R) : Option R := match av, cs with
  | [y0, y1], [] => (dRSpan false y0).bind fun p0 => (dA y1).bind fun c1_ => (dSpan c1_).bind fun p1 => G_span_Cut cp n p0 p1 (fun r0 r1 => k ⟨.tup [.row false (.rSpan r0), (tL r1)], [], []⟩)
  | _, _ => none
def ca_ref06_Cut {R : Type} (cp : Nat → Nat → Bool) (n : Nat) (av : Fr) (cs : List Fr) (k : Ret2 RW → Option R) : Option R := match av, cs with
  | [y0, y1], [] => (dRSpan false y0).bind fun p0 => (dA y1).bind fun c1_ => (dSpan c1_).bind fun p1 => G_ref06_Cut cp n p0 p1 (fun r0 r1 => k ⟨.tup [.row false (.rSpan r0), (tL r1)], [], []⟩)
  | _, _ => none
def ca_ref06_Same {R : Type} (cp : Nat → Nat → Bool) (n : Nat) (av : Fr) (cs : List Fr) (k : Ret2 RW → Option R) : Option R := match av, cs with
  | [y0, y1], [] => (dRSpan false y0).bind fun p0 => (dRSpan false y1).bind fun p1 => G_ref06_Same cp n p0 p1 (fun r0 => k ⟨(tB r0), [], []⟩)
  | _, _ => none
def ca_span_within {R : Type} (cp : Nat → Nat → Bool) (n : Nat) (av : Fr) (cs : List Fr) (k : Ret2 RW → Option R) : Option R := match av, cs with
  | [y0, y1], [] => (dRSpan false y0).bind fun p0 => (dA y1).bind fun c1_ => (dSpan c1_).bind fun p1 => G_span_within cp n p0 p1 (fun r0 r1 => k ⟨.clo 22 [(6, 0), (8, 0)], [], [[.row false (.rSpan r0)], (eSpan r1)]⟩)
  | _, _ => none
def ca_span_Gaps {R : Type} (cp : Nat → Nat → Bool) (n : Nat) (av : Fr) (cs : List Fr) (k : Ret2 RW → Option R) : Option R := match av, cs with
  | [y0, y1], [] => (dRSpan false y0).bind fun p0 => (dA y1).bind fun c1_ => (dSpan c1_).bind fun p1 => G_span_Gaps cp n p0 p1 (fun r0 => k ⟨.row false (.rSpan r0), [], []⟩)
  | _, _ => none
def ca_span_Size {R : Type} (cp : Nat → Nat → Bool) (n : Nat) (av : Fr) (cs : List Fr) (k : Ret2 RW → Option R) : Option R := match av, cs with
  | [y0], [] => (dRSpan false y0).bind fun p0 => G_span_Size cp n p0 (fun r0 => k ⟨(tL r0), [], []⟩)
  | _, _ => none
def ca_span_Find_1 {R : Type} (cp : Nat → Nat → Bool) (n : Nat) (av : Fr) (cs : List Fr) (k : Ret2 RW → Option R) : Option R := match av, cs with
  | [y0, y1], [w0] => (dA y0).bind fun c0_ => (dSpan c0_).bind fun p0 => (dP 14 0 y1).bind fun _ => (dOne w0).bind fun u0 => (dI .i64 u0).bind fun q0 => G_span_Find_1 cp n p0 q0 (fun r0 r1 => k ⟨(tB r0), [[(tL r1)]], []⟩)
  | _, _ => none
def ca_slices_IndexFunc_Span {R : Type} (cp : Nat → Nat → Bool) (n : Nat) (av : Fr) (cs : List Fr) (k : Ret2 RW → Option R) : Option R := match av, cs with
  | [y0, y1], [w0] => (dRSpan false y0).bind fun p0 => (dC 24 [(19, 0)] y1).bind fun _ => (dOne w0).bind fun u0 => (dI .i64 u0).bind fun q0 => G_slices_IndexFunc_Span cp n p0 q0 (fun r0 r1 => k ⟨(tL r0), [[(tL r1)]], []⟩)
  | _, _ => none
def ca_span_Find {R : Type} (cp : Nat → Nat → Bool) (n : Nat) (av : Fr) (cs : List Fr) (k : Ret2 RW → Option R) : Option R := match av, cs with
  | [y0, y1], [] => (dRSpan false y0).bind fun p0 => (dI .i64 y1).bind fun p1 => G_span_Find cp n p0 p1 (fun r0 r1 => k ⟨.tup [.agg (eSpan r0), (tB r1)], [], []⟩)
  | _, _ => none
def ca_span_Has {R : Type} (cp : Nat → Nat → Bool) (n : Nat) (av : Fr) (cs : List Fr) (k : Ret2 RW → Option R) : Option R := match av, cs with
  | [y0, y1], [] => (dRSpan false y0).bind fun p0 => (dI .i64 y1).bind fun p1 => G_span_Has cp n p0 p1 (fun r0 => k ⟨(tB r0), [], []⟩)
  | _, _ => none
def ca_law06_heads {R : Type} (cp : Nat → Nat → Bool) (n : Nat) (av : Fr) (cs : List Fr) (k : Ret2 RW → Option R) : Option R := match av, cs with
  | [], [] => G_law06_heads cp n (fun r0 => k ⟨(tB r0), [], []⟩)
  | _, _ => none
def ca_law06_SpanChanges {R : Type} (cp : Nat → Nat → Bool) (n : Nat) (av : Fr) (cs : List Fr) (k : Ret2 RW → Option R) : Option R := match av, cs with
  | [y0, y1], [] => (dRSpan false y0).bind fun p0 => (dA y1).bind fun c1_ => (dSpan c1_).bind fun p1 => G_law06_SpanChanges cp n p0 p1 (fun r0 => k ⟨(tB r0), [], []⟩)
  | _, _ => none
def callP {R : Type} (cp : Nat → Nat → Bool) (n : Nat) (id : Nat) (av : Fr) (cs : List Fr) (k : Ret2 RW → Option R) : Option R := match id with
  | 19 => ca_span_may cp n av cs k
  | 11 => ca_span_Check cp n av cs k
  | 13 => ca_span_right cp n av cs k
  | 14 => ca_slices_Clone_Span cp n av cs k
  | 5 => ca_span_Add cp n av cs k
  | 12 => ca_ref06_Check cp n av cs k
  | 18 => ca_ref06_right cp n av cs k
  | 8 => ca_ref06_Add cp n av cs k
  | 9 => ca_span_Cut cp n av cs k
  | 10 => ca_ref06_Cut cp n av cs k
  | 7 => ca_ref06_Same cp n av cs k
  | 20 => ca_span_within cp n av cs k
  | 15 => ca_span_Gaps cp n av cs k
  | 16 => ca_span_Size cp n av cs k
  | 1019 => ca_span_Find_1 cp n av cs k
  | 1018 => ca_slices_IndexFunc_Span cp n av cs k
  | 21 => ca_span_Find cp n av cs k
  | 17 => ca_span_Has cp n av cs k
  | 6 => ca_law06_heads cp n av cs k
  | 4 => ca_law06_SpanChanges cp n av cs k
  | _ => none
end
end Go.Proofs.Ytapelpfcflgjkaa.M
