/- The machine over typed rows: its values, its code, and what it answers. -/
import Derived.Test.YtafnmkbehjbkdaaMachS
set_option linter.unusedVariables false
set_option linter.unusedSimpArgs false
namespace Go.Proofs.Ytafnmkbehjbkdaa.M
open Go Go.RowKit
noncomputable section
inductive TV (W : Type) where
  | dead
  | sc (v : Value)
  | agg (cs : List (TV W))
  | tup (vs : List (TV W))
  | row (app : Bool) (r : W)
  | elt (cs : List (TV W))
  | ptr (h j : Nat)
  | clo (f : Nat) (caps : List (Nat × Nat))
  | hdr (n : Nat)
  | yld
  | un (k : Option Nat) (r : W)
  | ur (k sz n : Nat)
  | up (k sz q off : Nat)
namespace TV
variable {W : Type}
def c1 : TV W → TV W
  | .row _ r => .row false r
  | .un .. => .dead
  | a => a
def c2 : TV W → TV W
  | .agg cs => .agg (cs.map c1)
  | a => a.c1
def strip : TV W → TV W
  | .tup vs => .tup (vs.map c2)
  | a => a.c2
def storable : TV W → Bool
  | .sc _ | .row .. | .ptr .. | .clo .. => true
  | _ => false
def cells? : TV W → Option (List (TV W))
  | .agg cs => some cs
  | .sc v => some [.sc v]
  | .row a r => some [.row a r]
  | .ptr h j => some [.ptr h j]
  | .clo f cs => some [.clo f cs]
  | _ => none
def sc? : TV W → AV
  | .sc v => .sc v
  | _ => .dead
def scs? : TV W → AV
  | .agg cs => .agg (cs.map sc?)
  | _ => .dead
end TV
structure Uni (W : Type) where
  sz : W → Nat
  len : W → Nat
  getA : W → Nat → List AV
  get : W → Nat → List (TV W)
  app : W → W → Option W
  sub : Nat → Nat → W → W
  szt : Nat → Nat
  zt : Nat → List (TV W)
  lit : Nat → Nat → List (TV W) → Option W
  set : W → Nat → Nat → List (TV W) → Option W
  str : W → Option (List Int)
inductive IA2 (W : Type) where
  | s (t : Nat)
  | k (v : TV W)
inductive IOp2 (W : Type) where
  | mv (tk : Bool) (x : IA2 W)
  | pick (c a b : IA2 W)
  | alloc (h : Nat) (zs : List (TV W))
  | box (h n : Nat) (tk : Bool) (x : IA2 W)
  | load (h j n : Nat) (ag tk : Bool) (a : Nat)
  | loade (n : Nat) (ag : Bool) (a : Nat)
  | store (h j n : Nat) (tk : Bool) (a : Nat) (x : IA2 W)
  | nil (x : IA2 W)
  | bin (op : BinOp) (x y : IA2 W)
  | eqb (neg : Bool) (x y : IA2 W)
  | eqs (ks : List Bool) (neg : Bool) (x y : IA2 W)
  | un (op : UnOp) (x : IA2 W)
  | conv (k : IntKind) (x : IA2 W)
  | fld (off : Nat) (x : IA2 W)
  | fieldv (off n : Nat) (ag : Bool) (x : IA2 W)
  | idx (sz : Nat) (x i : IA2 W)
  | slice (sz : Nat) (x : IA2 W) (lo hi mx : Option (IA2 W))
  | len (str : Bool) (x : IA2 W)
  | sidx (x i : IA2 W)
  | aidx (n sz : Nat) (ag : Bool) (x i : IA2 W)
  | uapp (sz bytes : Nat) (x y : IA2 W)
  | ualias (x : IA2 W)
  | uidx (sz : Nat) (x i : IA2 W)
  | uload (s n : Nat) (ag : Bool) (a : Nat)
  | ustore (s n : Nat) (a : Nat) (x : IA2 W)
  | ufrz (x : IA2 W)
  | unew (v : TV W)
  | cstr (x : IA2 W)
  | eqt (neg : Bool) (x y : IA2 W)
  | ubs (t len : Nat) (parts : List (Nat × Nat × IA2 W))
  | uconv (x : IA2 W)
  | buildl (zs : List (TV W)) (parts : List (Nat × Nat × IA2 W)) (off s : Nat)
  | mnmx (mx : Bool) (xs : List (IA2 W))
  | app (sz bytes : Nat) (tk : Bool) (x y : IA2 W)
  | build (zs : List (TV W)) (parts : List (Nat × Nat × IA2 W))
  | bslice (t len : Nat) (parts : List (Nat × Nat × IA2 W))
  | ext (tk : Bool) (i : Nat) (x : IA2 W)
  | mkclo (f : Nat) (caps : List (IA2 W))
  | call (id : Nat) (args : List (Bool × IA2 W)) (pass exp : List (Nat × Nat × Nat))
  | callv (f : IA2 W) (gf id : Nat) (args : List (Bool × IA2 W)) (pass exp : List (Nat × Nat × Nat))
  | ro (id : Nat) (args : List (Bool × IA2 W)) (pass : List (Nat × Nat × Nat))
structure IStep2 (W : Type) where
  dst : Option Nat
  op : IOp2 W
  guard : Option (Nat × Bool) := none
  split : Bool := false
inductive IC2 (W : Type) where
  | skip
  | stuck
  | reg (ops : List (IStep2 W))
  | seq (a b : IC2 W)
  | cond (c : IA2 W) (a b : IC2 W)
  | blk (id : Nat) (b : IC2 W)
  | loop (b : IC2 W)
  | exit (id : Nat)
  | ret
  | clr (xs : List Nat) (hs : List (Nat × Nat)) (c : IC2 W)
  | fin (c : IC2 W) (xs : List Nat) (hs : List (Nat × Nat))
  | brw (s : Nat) (c : IC2 W)
  | wk (xs : List Nat) (c : IC2 W)
  | plug (sz bytes : Nat)
  | yreg (pre : List (IStep2 W)) (cal : IA2 W) (args : List (IA2 W)) (gd : Option (Nat × Bool)) (dst : Nat) (post : List (IStep2 W))
  | rfn (x : IA2 W) (gf bq itnt : Nat) (ps : List Nat) (it asg body : IC2 W) (px pb : List Nat)
structure IFn2 (W : Type) where
  go : Nat
  np : Nat
  nt : Nat
  total : Nat
  lay : List (Nat × Nat)
  pass : List (Nat × Nat)
  exp : List (Nat × Nat)
  res : List IRes
  body : IC2 W
structure Ret2 (W : Type) where
  res : TV W
  cells : List (List (TV W))
  exp : List (List (TV W))
section
variable {W : Type} (U : Uni W)
mutual
def TV.lo : TV W → AV
  | .dead => .dead
  | .sc v => .sc v
  | .agg cs => .agg (TV.los cs)
  | .tup vs => .tup (TV.los vs)
  | .row a r => .row a (U.sz r) (U.len r) (U.getA r)
  | .elt cs => .elt (TV.los cs)
  | .ptr h j => .ptr h j
  | .clo f c => .clo f c
  | .hdr n => .hdr n
  | .yld => .yld
  | .un k r => .un k (U.sz r) (U.len r) (U.getA r)
  | .ur k sz n => .ur k sz n
  | .up k sz q off => .up k sz q off
def TV.los : List (TV W) → List AV
  | [] => []
  | a :: r => TV.lo a :: TV.los r
end
def IA2.lo : IA2 W → IA
  | .s t => .s t
  | .k v => .k (v.lo U)
def loP (l : List (Nat × Nat × IA2 W)) : List (Nat × Nat × IA) := l.map fun x => (x.1, x.2.1, x.2.2.lo U)
def loA (l : List (Bool × IA2 W)) : List (Bool × IA) := l.map fun x => (x.1, x.2.lo U)
def IOp2.lo : IOp2 W → IOp
  | .mv tk x => .mv tk (x.lo U)
  | .pick c a b => .pick (c.lo U) (a.lo U) (b.lo U)
  | .alloc h zs => .alloc h (TV.los U zs)
  | .box h n tk x => .box h n tk (x.lo U)
  | .load h j n ag tk a => .load h j n ag tk a
  | .loade n ag a => .loade n ag a
  | .store h j n tk a x => .store h j n tk a (x.lo U)
  | .nil x => .nil (x.lo U)
  | .bin op x y => .bin op (x.lo U) (y.lo U)
  | .eqb neg x y => .eqb neg (x.lo U) (y.lo U)
  | .eqs ks neg x y => .eqs ks neg (x.lo U) (y.lo U)
  | .un op x => .un op (x.lo U)
  | .conv k x => .conv k (x.lo U)
  | .fld off x => .fld off (x.lo U)
  | .fieldv off n ag x => .fieldv off n ag (x.lo U)
  | .idx sz x i => .idx sz (x.lo U) (i.lo U)
  | .slice sz x lo hi mx => .slice sz (x.lo U) (lo.map (IA2.lo U)) (hi.map (IA2.lo U)) (mx.map (IA2.lo U))
  | .len str x => .len str (x.lo U)
  | .sidx x i => .sidx (x.lo U) (i.lo U)
  | .aidx n sz ag x i => .aidx n sz ag (x.lo U) (i.lo U)
  | .uapp sz bytes x y => .uapp sz bytes (x.lo U) (y.lo U)
  | .ualias x => .ualias (x.lo U)
  | .uidx sz x i => .uidx sz (x.lo U) (i.lo U)
  | .uload s n ag a => .uload s n ag a
  | .ustore s n a x => .ustore s n a (x.lo U)
  | .ufrz x => .ufrz (x.lo U)
  | .unew v => .unew (v.lo U)
  | .cstr x => .cstr (x.lo U)
  | .eqt neg x y => .eqt neg (x.lo U) (y.lo U)
  | .ubs t m ps => .ubs (U.szt t) m (TV.los U (U.zt t)) (loP U ps)
  | .uconv x => .uconv (x.lo U)
  | .buildl zs ps off s => .buildl (TV.los U zs) (loP U ps) off s
  | .mnmx m xs => .mnmx m (xs.map (IA2.lo U))
  | .app sz bytes tk x y => .app sz bytes tk (x.lo U) (y.lo U)
  | .build zs ps => .build (TV.los U zs) (loP U ps)
  | .bslice t m ps => .bslice (U.szt t) m (TV.los U (U.zt t)) (loP U ps)
  | .ext tk i x => .ext tk i (x.lo U)
  | .mkclo f caps => .mkclo f (caps.map (IA2.lo U))
  | .call id args pass exp => .call id (loA U args) pass exp
  | .callv f gf id args pass exp => .callv (f.lo U) gf id (loA U args) pass exp
  | .ro id args pass => .ro id (loA U args) pass
def IStep2.lo (o : IStep2 W) : IStep := ⟨o.dst, o.op.lo U, o.guard, o.split⟩
def IC2.lo : IC2 W → IC
  | .skip => .skip
  | .stuck => .stuck
  | .reg ops => .reg (ops.map (IStep2.lo U))
  | .seq a b => .seq a.lo b.lo
  | .cond c a b => .cond (c.lo U) a.lo b.lo
  | .blk id b => .blk id b.lo
  | .loop b => .loop b.lo
  | .exit id => .exit id
  | .ret => .ret
  | .clr xs hs c => .clr xs hs c.lo
  | .fin c xs hs => .fin c.lo xs hs
  | .brw s c => .brw s c.lo
  | .wk xs c => .wk xs c.lo
  | .plug sz bytes => .plug sz bytes
  | .yreg pre cal args gd dst post => .yreg (pre.map (IStep2.lo U)) (cal.lo U) (args.map (IA2.lo U)) gd dst (post.map (IStep2.lo U))
  | .rfn x gf bq itnt ps it asg body px pb => .rfn (x.lo U) gf (16 * bq) itnt ps it.lo asg.lo body.lo px pb
def IFn2.lo (f : IFn2 W) : IFn := ⟨f.go, f.np, f.nt, f.total, f.lay, f.pass, f.exp, f.res, f.body.lo U⟩
def Ret2.lo (r : Ret2 W) : Ret := ⟨r.res.lo U, r.cells.map (TV.los U), r.exp.map (TV.los U)⟩
def pass2 : List (Nat × Nat × Nat) → List (IA2 W)
  | [] => []
  | (h, n, _) :: r => (rng h (n + 1)).map .s ++ pass2 r
def expH2 : List (Nat × Nat × Nat) → List (IA2 W)
  | [] => []
  | (_, _, h) :: r => .s h :: expH2 r
def IOp2.opds : IOp2 W → List (IA2 W)
  | .mv _ x | .nil x | .un _ x | .conv _ x | .fld _ x | .fieldv _ _ _ x | .len _ x | .ext _ _ x | .ualias x | .ufrz x | .cstr x | .uconv x => [x]
  | .uload s _ _ a => [.s a, .s s]
  | .ustore s _ a x => [.s a, .s s, x]
  | .unew _ => []
  | .pick c a b => [c, a, b]
  | .alloc h _ => [.s h]
  | .box h _ _ x => [.s h, x]
  | .load h j n _ _ a => .s a :: .s h :: (rng (h + 1 + j) n).map .s
  | .loade _ _ a => [.s a]
  | .store h _ _ _ a x => [.s a, .s h, x]
  | .bin _ x y | .eqb _ x y | .eqs _ _ x y | .idx _ x y | .sidx x y | .aidx _ _ _ x y | .app _ _ _ x y | .uapp _ _ x y | .uidx _ x y | .eqt _ x y => [x, y]
  | .slice _ x lo hi mx => x :: (lo.toList ++ hi.toList ++ mx.toList)
  | .mnmx _ xs | .mkclo _ xs => xs
  | .build _ ps | .bslice _ _ ps | .ubs _ _ ps | .buildl _ ps _ _ => ps.map (·.2.2)
  | .call _ args pass exp => args.map (·.2) ++ expH2 exp ++ pass2 pass
  | .callv f _ _ args pass exp => f :: (args.map (·.2) ++ expH2 exp ++ pass2 pass)
  | .ro _ args pass => args.map (·.2) ++ pass2 pass
section
variable {R : Type}
def outx2 (tk : Bool) (x : IA2 W) (v : TV W) (k : TV W → List (TV W) → Option R) : Option R := match x with
  | .s _ => cond tk (k v [v.strip]) (k v.strip [])
  | .k _ => k v []
def atIA2 (x : IA2 W) (a b : Option R) : Option R := match x with
  | .s _ => a
  | .k _ => b
def tkS2 (tk : Bool) (x : IA2 W) : Bool := match x with
  | .s _ => tk
  | .k _ => false
def scK (k : TV W → List (TV W) → Option R) : AV → Option R
  | .sc w => k (.sc w) []
  | _ => none
def mkv2 (ag : Bool) (cs : List (TV W)) : TV W := match ag with
  | true => .agg cs
  | false => cs.headD .dead
def splice2 (l : List (TV W)) (off : Nat) (cs : List (TV W)) : List (TV W) := l.take off ++ (cs ++ l.drop (off + cs.length))
def overlay2 : List (TV W) → List (Nat × Nat × IA2 W) → List (TV W) → Option (List (TV W))
  | l, [], [] => some l
  | l, (off, n, _) :: ps, v :: vs => match v.cells? with
    | some cs => cond (Nat.beq cs.length n && Nat.ble (off + n) l.length && cs.all TV.storable) (overlay2 (splice2 l off (cs.map TV.c1)) ps vs) none
    | none => none
  | _, _, _ => none
def ta1 (m : List (Nat × Nat)) : TV W → Option (TV W)
  | .ptr h j => match look m h with
    | some h' => some (.ptr h' j)
    | none => none
  | .clo f caps => match trCaps m caps with
    | some caps' => some (.clo f caps')
    | none => none
  | .dead => some .dead
  | .sc v => some (.sc v)
  | .row a r => some (.row a r)
  | .un none r => some (.un none r)
  | _ => none
def taL (m : List (Nat × Nat)) : List (TV W) → Option (List (TV W))
  | [] => some []
  | a :: r => match ta1 m a, taL m r with
    | some a', some r' => some (a' :: r')
    | _, _ => none
def ta2 (m : List (Nat × Nat)) : TV W → Option (TV W)
  | .agg cs => match taL m cs with
    | some cs' => some (.agg cs')
    | none => none
  | a => ta1 m a
def taL2 (m : List (Nat × Nat)) : List (TV W) → Option (List (TV W))
  | [] => some []
  | a :: r => match ta2 m a, taL2 m r with
    | some a', some r' => some (a' :: r')
    | _, _ => none
def ta3 (m : List (Nat × Nat)) : TV W → Option (TV W)
  | .tup vs => match taL2 m vs with
    | some vs' => some (.tup vs')
    | none => none
  | a => ta2 m a
def taLL (m : List (Nat × Nat)) : List (List (TV W)) → Option (List (List (TV W)))
  | [] => some []
  | a :: r => match taL m a, taLL m r with
    | some a', some r' => some (a' :: r')
    | _, _ => none
def kpT (tk : Bool) (x : IA2 W) (v : TV W) : TV W := match tk, x with
  | true, .k _ => v
  | _, _ => v.strip
def argVals2 : List (Bool × IA2 W) → List (TV W) → Option (List (TV W) × List (TV W) × List (TV W))
  | [], vs => some ([], [], vs)
  | (tk, x) :: r, v :: vs => match argVals2 r vs with
    | some (as, ls, rest) => cond (tkS2 tk x) (some (v :: as, v.strip :: ls, rest)) (some (kpT tk x v :: as, ls, rest))
    | none => none
  | _ :: _, [] => none
def passVals2 : List (Nat × Nat × Nat) → List (TV W) → Option (List (List (TV W)))
  | [], [] => some []
  | (_, n, _) :: r, .hdr n' :: vs => cond (Nat.beq n n' && Nat.ble n vs.length) (match passVals2 r (vs.drop n) with
    | some l => some (vs.take n :: l)
    | none => none) none
  | _, _ => none
def expDead2 : List (Nat × Nat × Nat) → List (TV W) → Option (List (TV W))
  | [], vs => some vs
  | _ :: r, .dead :: vs => expDead2 r vs
  | _, _ => none
def expOut2 : List (Nat × Nat × Nat) → List (List (TV W)) → List (TV W)
  | (_, n, _) :: r, l :: ls => .hdr n :: (l ++ expOut2 r ls)
  | _, _ => []
def okLens2 : List Nat → List (List (TV W)) → Bool
  | [], [] => true
  | n :: ns, l :: ls => Nat.beq l.length n && okLens2 ns ls
  | _, _ => false
def callK2 (call : Nat → List (TV W) → List (List (TV W)) → (Ret2 W → Option R) → Option R) (id : Nat) (args : List (Bool × IA2 W)) (pass exp : List (Nat × Nat × Nat)) (more : List (TV W)) (vals : List (TV W)) (k : TV W → List (TV W) → Option R) : Option R :=
  match argVals2 args vals with
  | none => none
  | some (as, ls, vs) => match expDead2 exp vs with
    | none => none
    | some vs2 => match passVals2 pass vs2 with
      | none => none
      | some cells => match taL2 (fwd pass) (as ++ more), taLL (fwd pass) cells with
        | some as', some cells' => call id as' cells' fun r =>
          match ta3 (bwd pass exp) r.res, taLL (bwd pass exp) r.cells, taLL (bwd pass exp) r.exp with
          | some v, some cs, some es => cond (okLens2 (pass.map (·.2.1)) cs && okLens2 (exp.map (·.2.1)) es) (k v (ls ++ (cs.flatten ++ expOut2 exp es))) none
          | _, _, _ => none
        | _, _ => none
def optI2 : Option (IA2 W) → List (TV W) → (Option Int → List (TV W) → Option R) → Option R
  | none, vs, k => k none vs
  | some _, .sc (.int _ i) :: vs, k => k (some i) vs
  | _, _, _ => none
def sliceK2 (sz : Nat) (v : TV W) (lo hi mx : Option Int) (k : TV W → Option R) : Option R :=
  match v with
  | .row _ x => cond (Nat.beq sz (U.sz x)) (
    match lo, hi, mx with
    | none, none, none => k (.row false x)
    | some l, none, none => cond (decide (0 ≤ l)) (cond (decide (l ≤ (U.len x : Int))) (k (.row false (U.sub l.toNat (U.len x - l.toNat) x))) none) none
    | none, some h, none => cond (decide (0 ≤ h)) (cond (decide (h ≤ (U.len x : Int))) (k (.row false (U.sub 0 h.toNat x))) none) none
    | some l, some h, none => cond (decide (0 ≤ l)) (cond (decide (l ≤ h)) (cond (decide (h ≤ (U.len x : Int))) (k (.row false (U.sub l.toNat (h.toNat - l.toNat) x))) none) none) none
    | none, some h, some m => cond (decide (0 ≤ h)) (cond (decide (h ≤ (U.len x : Int))) (cond (decide (m = h)) (k (.row true (U.sub 0 h.toNat x))) none) none) none
    | some l, some h, some m => cond (decide (0 ≤ l)) (cond (decide (l ≤ h)) (cond (decide (h ≤ (U.len x : Int))) (cond (decide (m = h)) (k (.row true (U.sub l.toNat (h.toNat - l.toNat) x))) none) none) none) none
    | _, none, some _ => none) none
  | _ => none
def ptrs2 : List (TV W) → Option (List (Nat × Nat))
  | [] => some []
  | .ptr h j :: r => match ptrs2 r with
    | some cs => some ((h, j) :: cs)
    | none => none
  | _ :: _ => none
def oldCells2 : List (Nat × Nat × Nat) → List (TV W) → List (TV W)
  | [], _ => []
  | (_, n, _) :: r, _ :: vs => vs.take n ++ oldCells2 r (vs.drop n)
  | _ :: _, [] => []
def noLvT : TV W → Bool
  | .row a _ => !a
  | .un .. => false
  | _ => true
def lastT : List (TV W) → TV W
  | [] => .dead
  | [a] => a
  | _ :: b :: r => lastT (b :: r)
def plainT : TV W → Bool
  | .sc _ | .row .. => true
  | _ => false
def tkN : List (Bool × IA2 W) → Nat
  | [] => 0
  | (tk, x) :: r => cond (tkS2 tk x) (tkN r + 1) (tkN r)
def comp2 (cp : Nat → Nat → Bool) (call : Nat → List (TV W) → List (List (TV W)) → (Ret2 W → Option R) → Option R) : IOp2 W → List (TV W) → (TV W → List (TV W) → Option R) → Option R
  | .mv tk x, [v], k => outx2 tk x v k
  | .pick _ _ _, [c, a, b], k => match c with
    | .sc (.bool t) => cond t (k a.strip []) (k b.strip [])
    | _ => none
  | .alloc h zs, [hd], k => match hd with
    | .dead => k (.ptr h 0) (.hdr zs.length :: zs)
    | _ => none
  | .box h n tk x, [hd, v], k => match hd with
    | .dead => match v.cells? with
      | some cs => cond (Nat.beq cs.length n && cs.all TV.storable) (atIA2 x (cond tk (k (.ptr h 0) (.hdr n :: (cs ++ [v.strip]))) (k (.ptr h 0) (.hdr n :: cs.map TV.c1))) (k (.ptr h 0) (.hdr n :: cs))) none
      | none => none
    | _ => none
  | .load h j n ag tk _, a :: hd :: cs, k => match a with
    | .ptr h' j' => match hd with
      | .hdr m => cond (Nat.beq h h' && Nat.beq j j' && Nat.ble (j + n) m) (cond tk (k (mkv2 ag cs) (cs.map TV.c1)) (k (mkv2 ag (cs.map TV.c1)) [])) none
      | _ => none
    | _ => none
  | .loade n ag _, [a], k => match a with
    | .elt cs => cond (Nat.ble n cs.length) (k (mkv2 ag (cs.take n)) []) none
    | _ => none
  | .store h j n tk _ x, [a, hd, v], k => match a with
    | .ptr h' j' => match hd with
      | .hdr m => match v.cells? with
        | some cs => cond (Nat.beq h h' && Nat.beq j j' && Nat.ble (j + n) m && Nat.beq cs.length n && cs.all TV.storable) (atIA2 x (cond tk (k .dead (cs ++ [v.strip])) (k .dead (cs.map TV.c1))) (k .dead cs)) none
        | none => none
      | _ => none
    | _ => none
  | .nil _, [v], k => match v with
    | .ptr h j => k (.ptr h j) []
    | .elt cs => k (.elt cs) []
    | .clo f cs => k (.clo f cs) []
    | _ => none
  | .bin op _ _, [x, y], k => ibin op x.sc? y.sc? (scK k)
  | .eqb neg _ _, [x, y], k => eqbK neg x.sc? y.sc? (scK k)
  | .eqs ks neg _ _, [x, y], k => eqsK ks neg x.scs? y.scs? (scK k)
  | .un op _, [x], k => iun op x.sc? (scK k)
  | .conv kd _, [v], k => convK kd v.sc? (scK k)
  | .fld off _, [v], k => match v with
    | .ptr h j => k (.ptr h (j + off)) []
    | .elt cs => cond (Nat.ble off cs.length) (k (.elt (cs.drop off)) []) none
    | .up s sz q o => k (.up s sz q (o + off)) []
    | _ => none
  | .fieldv off n ag _, [v], k => match v with
    | .agg cs => cond (Nat.ble (off + n) cs.length) (k (mkv2 ag (((cs.drop off).take n).map TV.c1)) []) none
    | _ => none
  | .idx sz _ _, [v, i], k => match v with
    | .row _ x => match i with
      | .sc (.int _ i) => cond (Nat.beq sz (U.sz x)) (cond (decide (0 ≤ i)) (cond (decide (i < (U.len x : Int))) (k (.elt (U.get x i.toNat)) []) none) none) none
      | _ => none
    | _ => none
  | .slice sz _ lo hi mx, v :: vs, k => optI2 lo vs fun l vs => optI2 hi vs fun h vs => optI2 mx vs fun m _ => sliceK2 U sz v l h m fun v => k v []
  | .len str _, [v], k => match v with
    | .row _ x => cond str none (k (.sc (.int .i64 (U.len x : Int))) [])
    | .ur _ _ n => cond str none (k (.sc (.int .i64 (n : Int))) [])
    | .sc (.string s) => cond str (k (.sc (.int .i64 (s.size : Int))) []) none
    | _ => none
  | .sidx _ _, [v, i], k => sidxK v.sc? i.sc? (scK k)
  | .aidx n sz ag _ _, [v, i], k => match v with
    | .agg cs => match i with
      | .sc (.int _ i) => cond (Nat.ble (n * sz) cs.length) (selK i n 0 fun j => k (mkv2 ag (((cs.drop (j * sz)).take sz).map TV.c1)) []) none
      | _ => none
    | _ => none
  | .uapp sz bytes x _, [v, w], k => match w with
    | .row _ s => match v with
      | .un none r => match U.app r s with
        | some q => cond (Nat.beq sz (U.sz r)) (cond (cp (U.len r + U.len s) bytes) (atIA2 x (k (.un none q) [.dead]) none) none) none
        | none => none
      | .row true r => match U.app r s with
        | some q => cond (Nat.beq sz (U.sz r) && Nat.beq (U.len r) 0) (cond (cp (U.len r + U.len s) bytes) (atIA2 x (k (.un none q) [.dead]) none) none) none
        | none => none
      | _ => none
    | _ => none
  | .ualias _, [v], k => match v with
    | .un (some s) r => k (.ur s (U.sz r) (U.len r)) []
    | _ => none
  | .uidx sz _ _, [v, i], k => match v with
    | .ur s sz' n => match i with
      | .sc (.int _ i) => cond (Nat.beq sz sz') (cond (decide (0 ≤ i)) (cond (decide (i < (n : Int))) (k (.up s sz i.toNat 0) []) none) none) none
      | _ => none
    | _ => none
  | .uload s n ag _, [a, u], k => match a with
    | .up s1 sz q off => match u with
      | .un (some s2) r => cond (Nat.beq s s1 && Nat.beq s s2 && Nat.beq sz (U.sz r) && Nat.ble (off + n) sz) (cond (decide (q < U.len r)) (k (mkv2 ag (((U.get r q).drop off).take n)) []) none) none
      | _ => none
    | _ => none
  | .ustore s n _ _, [a, u, v], k => match a with
    | .up s1 sz q off => match u with
      | .un (some s2) r => match v.cells? with
        | some cs => cond (Nat.beq s s1 && Nat.beq s s2 && Nat.beq sz (U.sz r) && Nat.ble (off + n) sz && Nat.beq cs.length n) (cond (decide (q < U.len r)) (match U.set r q off (cs.map TV.c1) with
          | some r' => k .dead [.un (some s) r']
          | none => none) none) none
        | none => none
      | _ => none
    | _ => none
  | .ufrz x, [v], k => match v with
    | .un none r => atIA2 x (k (.row true r) [.dead]) none
    | _ => none
  | .cstr _, [v], k => match v with
    | .row _ r => match U.str r with
      | some l => k (.sc (.string (strOfNums l))) []
      | none => none
    | _ => none
  | .eqt neg _ _, [x, y], k => eqtK neg x.sc? y.sc? (scK k)
  | .ubs t len ps, vs, k => match overlay2 (List.replicate len (U.zt t)).flatten ps vs with
    | some cs => match U.lit t len cs with
      | some r => cond (Nat.ble 1 len) (k (.un none r) []) none
      | none => none
    | none => none
  | .buildl zs ps off _, vs, k => match overlay2 zs ps vs with
    | some cs => match lastT vs with
      | .row true r => cond (Nat.blt off cs.length && (cs.set off .dead).all noLvT) (k (.agg (cs.set off (.row true r))) [.row false r]) none
      | _ => none
    | none => none
  | .uconv x, [v], k => match v with
    | .un none r => cond (Nat.ble 1 (U.len r)) (atIA2 x (k (.row false r) [.dead]) none) none
    | _ => none
  | .unew v, [], k => match v with
    | .un none r => cond (Nat.beq (U.len r) 0) (k (.un none r) []) none
    | _ => none
  | .mnmx m _, vs, k => mnmxK m (vs.map TV.sc?) (scK k)
  | .app sz bytes tk x _, [v, w], k => match v with
    | .row a r => match w with
      | .row _ s => match U.app r s with
        | some q => cond (a && Nat.beq sz (U.sz r)) (cond (cp (U.len r + U.len s) bytes) (cond (tkS2 tk x) (k (.row true q) [.row false r]) (k (.row true q) [])) none) none
        | none => none
      | _ => none
    | _ => none
  | .build zs ps, vs, k => match overlay2 zs ps vs with
    | some cs => k (.agg cs) []
    | none => none
  | .bslice t len ps, vs, k => match overlay2 (List.replicate len (U.zt t)).flatten ps vs with
    | some cs => match U.lit t len cs with
      | some r => k (.row true r) []
      | none => none
    | none => none
  | .ext tk i x, [v], k => match v with
    | .tup vs => match vs[i]? with
      | some v => cond (tkS2 tk x) (k v [.tup (vs.set i v.strip)]) (k v.strip [])
      | none => none
    | _ => none
  | .mkclo f _, vs, k => match ptrs2 vs with
    | some caps => k (.clo f caps) []
    | none => none
  | .call id args pass exp, vs, k => callK2 call id args pass exp [] vs k
  | .callv _ gf id args pass exp, v :: vs, k => match v with
    | .clo f caps => cond (Nat.beq f gf) (callK2 call id args pass exp (caps.map fun x => .ptr x.1 x.2) vs k) none
    | _ => none
  | .ro id args pass, vs, k => cond ((oldCells2 pass (vs.drop args.length)).all plainT) (callK2 call id args pass [] [] vs fun v ex => k v (ex.take (tkN args))) none
  | _, _, _ => none
def gV : Value → (Value → Option R) → Option R
  | .int k n, f => f (.int k n)
  | .bool b, f => f (.bool b)
  | v, f => f v
def gC : TV W → (TV W → Option R) → Option R
  | .sc v, f => gV v fun v => f (.sc v)
  | .row a r, f => f (.row a r)
  | .un k r, f => f (.un k r)
  | .ur k sz n, f => f (.ur k sz n)
  | .up k sz q o, f => f (.up k sz q o)
  | a, f => f a
def gCs : List (TV W) → (List (TV W) → Option R) → Option R
  | [], f => f []
  | a :: r, f => gC a fun a => gCs r fun r => f (a :: r)
def g2 : TV W → (TV W → Option R) → Option R
  | .agg cs, f => gCs cs fun cs => f (.agg cs)
  | a, f => gC a f
def g2s : List (TV W) → (List (TV W) → Option R) → Option R
  | [], f => f []
  | a :: r, f => g2 a fun a => g2s r fun r => f (a :: r)
def g3 : TV W → (TV W → Option R) → Option R
  | .tup vs, f => g2s vs fun vs => f (.tup vs)
  | .elt cs, f => gCs cs fun cs => f (.elt cs)
  | a, f => g2 a f
def gL : List (TV W) → (List (TV W) → Option R) → Option R
  | [], f => f []
  | a :: r, f => g3 a fun a => gL r fun r => f (a :: r)
def gF : List (List (TV W)) → (List (List (TV W)) → Option R) → Option R
  | [], f => f []
  | a :: r, f => gL a fun a => gF r fun r => f (a :: r)
abbrev FT (W : Type) := List (List (TV W))
def get2 (l : FT W) (t : Nat) : TV W := (l.getD (t / 16) []).getD (t % 16) .dead
def rd2 (l : FT W) : IA2 W → TV W
  | .s t => get2 l t
  | .k v => v
def setL {α : Type} : List α → Nat → α → (List α → Option R) → Option R
  | [], _, _, k => k []
  | _ :: r, 0, v, k => k (v :: r)
  | a :: r, i + 1, v, k => setL r i v fun r' => k (a :: r')
def put2 (l : FT W) (t : Nat) (v : TV W) (k : FT W → Option R) : Option R := g3 v fun v => setL (l.getD (t / 16) []) (t % 16) v fun c => setL l (t / 16) c k
def putM : FT W → List Nat → List (TV W) → (FT W → Option R) → Option R
  | l, i :: is, v :: vs, k => put2 l i v fun l' => putM l' is vs k
  | l, _, _, k => k l
def putO (l : FT W) : Option Nat → TV W → (FT W → Option R) → Option R
  | some d, v, k => put2 l d v k
  | none, _, k => k l
def step2 (cp : Nat → Nat → Bool) (call : Nat → List (TV W) → List (List (TV W)) → (Ret2 W → Option R) → Option R) (o : IStep2 W) (l : FT W) (k : FT W → Option R) : Option R :=
  let run : Unit → Option R := fun _ => comp2 U cp call o.op (o.op.opds.map (rd2 l)) fun v ex =>
    cond (Nat.beq ex.length (o.op.lo U).exw.length) (match o.split with
    | true => match v with
      | .sc (.bool b) => putM l (o.op.lo U).exw ex fun l1 => cond b (putO l1 o.dst (.sc (.bool true)) k) (putO l1 o.dst (.sc (.bool false)) k)
      | _ => none
    | false => putM l (o.op.lo U).exw ex fun l1 => putO l1 o.dst v k) none
  match o.guard with
  | none => run ()
  | some (g, want) => match get2 l g with
    | .sc (.bool b) => cond b (match want with
      | true => run ()
      | false => putO l o.dst (.tup []) k) (match want with
      | true => putO l o.dst (.tup []) k
      | false => run ())
    | .tup [] => putO l o.dst (.tup []) k
    | _ => none
def steps2 (cp : Nat → Nat → Bool) (call : Nat → List (TV W) → List (List (TV W)) → (Ret2 W → Option R) → Option R) : List (IStep2 W) → FT W → (FT W → Option R) → Option R
  | [], l, k => k l
  | o :: os, l, k => step2 U cp call o l fun l' => steps2 cp call os l' k
def noptr2 (hs : List (Nat × Nat)) : TV W → Bool
  | .ptr h _ => hs.all fun x => !Nat.beq x.1 h
  | .clo _ cs => cs.all fun c => hs.all fun x => !Nat.beq x.1 c.1
  | .ur h _ _ | .up h _ _ _ | .un (some h) _ => hs.all fun x => !Nat.beq x.1 h
  | .agg l => l.all fun a => match a with
    | .ptr h _ => hs.all fun x => !Nat.beq x.1 h
    | .clo _ cs => cs.all fun c => hs.all fun x => !Nat.beq x.1 c.1
    | .ur h _ _ | .up h _ _ _ | .un (some h) _ => hs.all fun x => !Nat.beq x.1 h
    | .agg _ | .tup _ => false
    | _ => true
  | .tup [] => true
  | .tup _ => false
  | _ => true
def kill2 : FT W → List (Nat × Nat) → (FT W → Option R) → Option R
  | l, [], k => k l
  | l, (h, n) :: r, k => putM l (rng h (n + 1)) (List.replicate (n + 1) .dead) fun l' => kill2 l' r k
def clear2 (xs : List Nat) (hs : List (Nat × Nat)) (l : FT W) (k : FT W → Option R) : Option R :=
  match hs with
  | [] => putM l xs (List.replicate xs.length .dead) k
  | hs => putM l xs (List.replicate xs.length .dead) fun l1 => kill2 l1 hs fun l2 => cond (l2.all fun c => c.all (noptr2 hs)) (k l2) none
def loopN2 (f : FT W → (Ex → FT W → Option R) → Option R) : Nat → FT W → (Ex → FT W → Option R) → Option R
  | 0, _, _ => none
  | m + 1, l, k => f l fun e l' => match e with
    | .norm => loopN2 f m l' k
    | e => k e l'
def onlyCT (y : Bool) (px : List Nat) : TV W → Bool
  | .ptr h _ => inPx px h
  | .clo _ cs => cs.all fun c => inPx px c.1
  | .dead | .sc _ | .row .. => true
  | .yld => y
  | _ => false
def only2T (y : Bool) (px : List Nat) : TV W → Bool
  | .agg cs => cs.all (onlyCT y px)
  | a => onlyCT y px a
def only3T (y : Bool) (px : List Nat) : TV W → Bool
  | .tup vs => vs.all (only2T y px)
  | a => only2T y px a
def noYT : TV W → Bool
  | .yld => false
  | _ => true
def kept2 (bq : Nat) (l : FT W) : FT W := (l.take bq).map fun c => c.map TV.strip
def allF (p : TV W → Bool) (l : FT W) : Bool := l.all fun c => c.all p
def yRun2 (Y : List (TV W) → FT W → (FT W → Option R) → Option R) (cal : IA2 W) (args : List (IA2 W)) (dst : Nat) (l1 : FT W) (K : FT W → Option R) : Option R := match rd2 l1 cal with
  | .yld => Y (args.map fun x => (rd2 l1 x).strip) l1 fun l2 => putO l2 (some dst) (.sc (.bool true)) K
  | _ => none
def yGuard2 (gd : Option (Nat × Bool)) (l1 : FT W) (run skip : Option R) : Option R := match gd with
  | none => run
  | some (s, want) => match get2 l1 s with
    | .sc (.bool b) => cond b (match want with
      | true => run
      | false => skip) (match want with
      | true => skip
      | false => run)
    | .tup [] => skip
    | _ => none
def roundK2 (bq : Nat) (ps pb : List Nat) (l : FT W) (xa xb : FT W → (Ex → FT W → Option R) → Option R) : List (TV W) → FT W → (FT W → Option R) → Option R := fun args lc K => cond (allF (only3T true pb) (kept2 bq lc) && Nat.beq args.length ps.length) (putM (kept2 bq l ++ lc.drop bq) ps args fun l0 => xa l0 fun e l1 => match e with
  | .norm => xb l1 fun e l2 => match e with
    | .norm => K (kept2 bq lc ++ l2.drop bq)
    | _ => none
  | _ => none) none
def execI2 (cp : Nat → Nat → Bool) (call : Nat → List (TV W) → List (List (TV W)) → (Ret2 W → Option R) → Option R) (n : Nat) (Y : List (TV W) → FT W → (FT W → Option R) → Option R) : IC2 W → FT W → (Ex → FT W → Option R) → Option R
  | .skip, l, k => k .norm l
  | .stuck, _, _ => none
  | .reg ops, l, k => gF l fun l => steps2 U cp call ops l (k .norm)
  | .seq a b, l, k => execI2 cp call n Y a l fun e l' => match e with
    | .norm => execI2 cp call n Y b l' k
    | e => k e l'
  | .cond c a b, l, k => match rd2 l c with
    | .sc (.bool t) => cond t (execI2 cp call n Y a l k) (execI2 cp call n Y b l k)
    | _ => none
  | .blk id b, l, k => execI2 cp call n Y b l fun e l' => match e with
    | .exit i => cond (Nat.beq i id) (k .norm l') (k (.exit i) l')
    | e => k e l'
  | .loop b, l, k => loopN2 (execI2 cp call n Y b) n l k
  | .exit id, l, k => k (.exit id) l
  | .ret, l, k => k .ret l
  | .clr xs hs c, l, k => clear2 xs hs l fun l' => execI2 cp call n Y c l' k
  | .fin c xs hs, l, k => execI2 cp call n Y c l fun e l' => match e with
    | .norm => clear2 xs hs l' (k .norm)
    | e => k e l'
  | .yreg pre cal args gd dst post, l, k => gF l fun l => steps2 U cp call pre l fun l1 => yGuard2 gd l1 (yRun2 Y cal args dst l1 fun l2 => steps2 U cp call post l2 (k .norm)) (putO l1 (some dst) (.tup []) fun l2 => steps2 U cp call post l2 (k .norm))
  | .rfn .., _, _ | .brw .., _, _ | .plug .., _, _ | .wk .., _, _ => none
def weaken2 : List Nat → FT W → (FT W → Option R) → Option R
  | [], l, k => k l
  | x :: xs, l, k => putO l (some x) (get2 l x).strip fun l1 => weaken2 xs l1 k
def brwIn2 (s : Nat) (l : FT W) (k : FT W → Option R) : Option R := match get2 l s with
  | .un none r => putO l (some s) .dead fun l0 => cond (l0.all fun c => c.all (noptr2 [(s, 0)])) (putO l (some s) (.un (some s) r) k) none
  | _ => none
def brwOut2 (s : Nat) (l : FT W) (k : FT W → Option R) : Option R := match get2 l s with
  | .un (some s') r => putO l (some s) .dead fun l0 => cond (Nat.beq s s' && l0.all fun c => c.all (noptr2 [(s, 0)])) (putO l (some s) (.un none r) k) none
  | _ => none
def exec2 (cp : Nat → Nat → Bool) (call : Nat → List (TV W) → List (List (TV W)) → (Ret2 W → Option R) → Option R) (n : Nat) : IC2 W → FT W → (Ex → FT W → Option R) → Option R
  | .skip, l, k => k .norm l
  | .stuck, _, _ => none
  | .reg ops, l, k => gF l fun l => steps2 U cp call ops l (k .norm)
  | .seq a b, l, k => exec2 cp call n a l fun e l' => match e with
    | .norm => exec2 cp call n b l' k
    | e => k e l'
  | .cond c a b, l, k => match rd2 l c with
    | .sc (.bool t) => cond t (exec2 cp call n a l k) (exec2 cp call n b l k)
    | _ => none
  | .blk id b, l, k => exec2 cp call n b l fun e l' => match e with
    | .exit i => cond (Nat.beq i id) (k .norm l') (k (.exit i) l')
    | e => k e l'
  | .loop b, l, k => loopN2 (exec2 cp call n b) n l k
  | .exit id, l, k => k (.exit id) l
  | .ret, l, k => k .ret l
  | .clr xs hs c, l, k => clear2 xs hs l fun l' => exec2 cp call n c l' k
  | .fin c xs hs, l, k => exec2 cp call n c l fun e l' => match e with
    | .norm => clear2 xs hs l' (k .norm)
    | e => k e l'
  | .wk xs c, l, k => weaken2 xs l fun l1 => exec2 cp call n c l1 k
  | .brw s c, l, k => brwIn2 s l fun l1 => exec2 cp call n c l1 fun e l2 => match e with
    | .norm => brwOut2 s l2 (k .norm)
    | _ => none
  | .yreg .., _, _ | .plug .., _, _ => none
  | .rfn x gf bq itnt ps it asg body px pb, l, k => match rd2 l x with
    | .clo f0 caps => cond (Nat.beq f0 gf && Nat.ble (caps.length + 1) itnt && allF (only3T false px) (kept2 bq l) && allF noYT (l.drop bq) && (caps.all fun c => inPx px c.1) && Nat.ble (caps.length + 1) (16 * bq) && Nat.ble bq l.length)
      (putM (List.replicate bq (List.replicate 16 .dead)) (rng 0 (caps.length + 1)) (.yld :: caps.map fun x => .ptr x.1 x.2) fun S0 =>
        execI2 U cp call n (roundK2 bq ps pb l (exec2 cp call n asg) (exec2 cp call n body)) it (S0 ++ l.drop bq) fun e l' => match e with
          | .exit _ => none
          | _ => cond (allF noYT (l'.drop bq)) (k .norm (kept2 bq l ++ l'.drop bq)) none) none
    | _ => none
def getM (l : FT W) (is : List Nat) : List (TV W) := is.map fun i => get2 l i
def inPass2 : List (Nat × Nat) → List (List (TV W)) → FT W → (FT W → Option R) → Option R
  | [], [], l, k => k l
  | (h, n) :: ps, cs :: r, l, k => cond (Nat.beq cs.length n) (putM l (rng h (n + 1)) (.hdr n :: cs) fun l' => inPass2 ps r l' k) none
  | _, _, _, _ => none
def res2 (l : FT W) : IRes → Option (TV W)
  | .slot t => match get2 l t with
    | .tup _ => none
    | a => some a
  | .cell a h n ag => match get2 l a, get2 l h with
    | .ptr h' 0, .hdr m => cond (Nat.beq h h' && Nat.beq n m) (some (mkv2 ag (getM l (rng (h + 1) n)))) none
    | _, _ => none
def resL2 (l : FT W) : List IRes → Option (List (TV W))
  | [] => some []
  | r :: rs => match res2 l r, resL2 l rs with
    | some a, some as => some (a :: as)
    | _, _ => none
def outPass2 (l : FT W) : List (Nat × Nat) → Option (List (List (TV W)))
  | [] => some []
  | (h, n) :: ps => match get2 l h, outPass2 l ps with
    | .hdr m, some r => cond (Nat.beq n m) (some (getM l (rng (h + 1) n) :: r)) none
    | _, _ => none
def finish2 (f : IFn2 W) (l : FT W) (k : Ret2 W → Option R) : Option R :=
  match resL2 l f.res, outPass2 l f.pass, outPass2 l f.exp with
  | some rs, some cs, some es => k ⟨match rs with
    | [r] => r
    | rs => .tup rs, cs, es⟩
  | _, _, _ => none
def finK2 (f : IFn2 W) (k : Ret2 W → Option R) : Ex → FT W → Option R := fun e l' => match e with
  | .exit _ => none
  | _ => finish2 f l' k
def start2 (f : IFn2 W) (args : List (TV W)) (cells : List (List (TV W))) (k : FT W → Option R) : Option R :=
  cond (Nat.beq args.length f.np && Nat.beq (f.total % 16) 0 && Nat.ble f.np f.total) (putM (List.replicate (f.total / 16) (List.replicate 16 .dead)) (rng 0 f.np) args fun l => inPass2 f.pass cells l k) none
def run2 (cp : Nat → Nat → Bool) (call : Nat → List (TV W) → List (List (TV W)) → (Ret2 W → Option R) → Option R) (n : Nat) (f : IFn2 W) (args : List (TV W)) (cells : List (List (TV W))) (k : Ret2 W → Option R) : Option R :=
  start2 f args cells fun l => exec2 U cp call n f.body l (finK2 f k)
end
end
end
end Go.Proofs.Ytafnmkbehjbkdaa.M
