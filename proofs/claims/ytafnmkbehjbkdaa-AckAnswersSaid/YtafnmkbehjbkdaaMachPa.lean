/- The same within a round of a range over a function. -/
import Derived.Test.YtafnmkbehjbkdaaMachP
import Derived.RangeFuncRecord
import Derived.TacticsIn
set_option linter.unusedVariables false
set_option linter.unusedSimpArgs false
namespace Go.Proofs.Ytafnmkbehjbkdaa.M
open Go Go.RowKit
def Fo : Option Nat → Fence
  | none => Fence.wide
  | some l => Fence.wide.inRound l
theorem fo_fn (ro : Option Nat) (f : FuncId) : (Fo ro).fn f := by cases ro <;> trivial
theorem fo_depth (ro : Option Nat) : (Fo ro).depth = none := by cases ro <;> rfl
theorem fo_round (ro : Option Nat) : (Fo ro).round = ro := by cases ro <;> rfl
theorem callsIn_fo {ro : Option Nat} {n : Nat} {P : Program} {f : FuncId} {args : Array Value} {w : World} {R : Ending → World → Prop} : CallsIn (Fo ro) n P f args w R ↔ Calls P f args w R := by
  cases ro with
  | none => exact callsIn_wide
  | some l => exact callsIn_wide (n := n)
theorem rowsIn_fo {ro : Option Nat} {n : Nat} {P : Program} {row : String} {args : Array Value} {w : World} {R : Value → World → Prop} (h : Rows P row args w R) : RowsIn (Fo ro) n P row args w R := fun c cs _ =>
  let ⟨v, w', r, s⟩ := h c cs
  ⟨v, w', r, by
    cases ro with
    | none => exact stepsIn_wide.2 s
    | some l => exact stepsIn_wide.2 s⟩
section
variable {P : Program} {T : Nat → Option IFn} {f : IFn} {g : Gh} {w : World} {l : List AV} {a : Act} {K K' : Act → World → Prop} {Q : Exit → Act → World → Prop} {o : Oper} {R : Type} {r : R} {k : List AV → Option R}
  {call : Nat → List AV → List (List AV) → Option Ret} {ops : Array Oper}
theorem oper_in {ro : Option Nat} {n : Nat} (hK : ∀ a w, K a w → K' a w) (hd : ∀ c, o.op ≠ .defer c) (h : o.wp P a w K Q) : o.wpIn (Fo ro) n P a w K' Q := by
  refine ⟨fun f _ => fo_fn ro f, ?_⟩
  rw [fo_round, Oper.semAt_eq ro _ _ hd]
  unfold Oper.wp at h
  have hdep : (Fo ro).depth.isSome = true → 1 ≤ n := fun e => by rw [fo_depth] at e; cases e
  cases hr : (execOp a.eval o).run P w with
  | ok x w' =>
    rw [hr] at h
    cases x <;> first | exact hK _ _ h | exact h.elim | skip
    · exact ⟨hdep, callsIn_fo.2 (h.mono fun e w'' he => by cases e <;> first | exact hK _ _ he | exact he)⟩
    · exact ⟨hdep, rowsIn_fo (h.mono fun v w'' he => hK _ _ he)⟩
  | halt x w' =>
    rw [hr] at h
    cases x <;> first | exact h | exact h.elim
def notDefer (o : Oper) : Bool := match o.op with
  | .defer _ => false
  | _ => true
theorem notDefer_ok (h : notDefer o = true) : ∀ c, o.op ≠ .defer c := fun c e => by unfold notDefer at h; rw [e] at h; cases h
theorem list_in (hl : LayOk f) (hcall : CallOk P T call) (ro : Option Nat) (n : Nat) {rest : List Oper} : ∀ {os : List Oper} {ios : List IStep} {g : Gh} {w : World} {l : List AV} {a : Act}, chkIOs P T f ops os ios = true → os.all notDefer = true → Rel f g w l a.tmps → steps call ios l k = some r →
    Goes f g w a k r (wpListIn (Fo ro) n P ops Q rest) → wpListIn (Fo ro) n P ops Q (os ++ rest) a w
  | [], [], g, w, l, a, _, _, h, hk, H => H l g w a hk h (Ext.refl _ _) rfl
  | [], _ :: _, _, _, _, _, hc, _, _, _, _ => by cases hc
  | _ :: _, [], _, _, _, _, hc, _, _, _, _ => by cases hc
  | o :: os, io :: ios, g, w, l, a, hc, hd, h, hk, H => by
    simp only [chkIOs, Bool.and_eq_true] at hc
    simp only [List.all_cons, Bool.and_eq_true] at hd
    simp only [steps] at hk
    have := op_wp0 (Q := Q) (K := wpListIn (Fo ro) n P ops Q (os ++ rest)) hl hcall h hc.1 hk fun l' g' w' a' hk' hR he hd' => list_in hl hcall ro n hc.2 hd.2 hR hk' (H.trans he hd')
    show if Region.wanted o (yielded ops a.tmps) then o.wpIn (Fo ro) n P a w (wpListIn (Fo ro) n P ops Q (os ++ rest)) Q
      else (∀ f, o.about P w a.eval = some f → (Fo ro).fn f) ∧ wpListIn (Fo ro) n P ops Q (os ++ rest) (a.put o.dst undef) w
    split
    · rename_i hw; rw [if_pos hw] at this; exact oper_in (fun _ _ h => h) (notDefer_ok hd.1) this
    · rename_i hw; rw [if_neg hw] at this; exact ⟨fun f _ => fo_fn ro f, this⟩
def chkRegR (P : Program) (T : Nat → Option IFn) (f : IFn) (rd : Bool) (ops : Array Oper) (draw : Bool) (ios : List IStep) : Bool :=
  chkReg P T f ops draw ios && (!rd || (!draw && ops.toList.all notDefer))
theorem reg_in (hl : LayOk f) (hcall : CallOk P T call) (ro : Option Nat) (n : Nat) {ios : List IStep} {id : Nat} {draw : Bool} (hc : chkRegR P T f ro.isSome ops draw ios = true) (h : Rel f g w l a.tmps) (hk : steps call ios l k = some r) (H : Goes f g w a k r (Q .normal)) :
    (Code.region id ops draw).wpIn (Fo ro) n P Q a w := by
  unfold chkRegR at hc
  simp only [Bool.and_eq_true, Bool.or_eq_true, Bool.not_eq_true'] at hc
  cases ro with
  | none => exact wpIn_wide.2 (reg_wp hl hcall hc.1 h hk H)
  | some y =>
    obtain ⟨h1, h2⟩ := hc.2.resolve_left (by simp)
    subst h1
    have hc1 := hc.1
    unfold chkReg at hc1
    simp only [Bool.and_eq_true] at hc1
    refine wpIn_region_list ?_
    have := list_in (rest := []) (Q := Q) hl hcall (some y) n hc1.1 h2 h hk H
    simpa using this
end
end Go.Proofs.Ytafnmkbehjbkdaa.M
