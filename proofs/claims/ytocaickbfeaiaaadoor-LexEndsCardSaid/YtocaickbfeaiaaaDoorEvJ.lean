/-
  EV, WHERE MORE THAN ONE END MAY BE: a region's operations, for simp.
-/
import Derived.Test.YtocaickbfeaiaaaDoorEvChoice
namespace Go.Proofs.YtocaickbfeaiaaaDoor
set_option linter.unusedSimpArgs false
set_option linter.unusedVariables false
open Go.RowKit

section
variable (P : Program) (E : Env) (M : List TypeId)
def JC (f : FuncId) (args : List AV) (σ : Sto) (Q : ARes → Sto → Prop) : Prop := J P E (.call f args σ Q)
def JD (c : Code) (tm : List AV) (σ : Sto) (Q : AExit → List AV → Sto → Prop) : Prop := J P E (.code M c tm σ Q)
/-- a region's operations, in order -/
def LJ (ops : Array Oper) : List Oper → List AV → Sto → (AExit → List AV → Sto → Prop) → Prop
  | [], tm, σ, Q => Q .normal tm σ
  | o :: rest, tm, σ, Q =>
    if Region.wanted o (yieldedA ops tm) then
      match evStep P M (evx tm) σ o with
      | some (.val v σ' _) => LJ ops rest (putA tm o.dst v) σ' Q
      | some (.skip σ' _) => LJ ops rest (putA tm o.dst (.tup [])) σ' Q
      | some (.pan v) => Q (.pan v) tm σ
      | some (.enter f args) => JC P E f args σ fun r σ' => match r with | .ret v => LJ ops rest (putA tm o.dst v) σ' Q | .pan v => Q (.pan v) tm σ'
      | none => False
    else LJ ops rest (putA tm o.dst (.tup [])) σ Q

end

section
variable {P : Program} {E : Env} {M : List TypeId}
theorem LJ.toJ {ops : Array Oper} : ∀ (l : List Oper) (tm : List AV) (σ : Sto) (Q : AExit → List AV → Sto → Prop), LJ P E M ops l tm σ Q → J P E (.list M ops l tm σ Q)
  | [], tm, σ, Q, h => .nil h
  | o :: rest, tm, σ, Q, h => by
    rw [LJ] at h
    split at h
    · rename_i hw
      split at h
      · rename_i v σ1 acc hs
        exact .val hw hs (LJ.toJ rest _ _ Q h)
      · rename_i σ1 acc hs
        exact .skip hw hs (LJ.toJ rest _ _ Q h)
      · rename_i v hs
        exact .pan hw hs h
      · rename_i f args hs
        exact .enter hw hs h (fun v σ' h1 => LJ.toJ rest _ _ Q h1) fun v σ' h1 => h1
      · exact h.elim
    · rename_i hw
      exact .unwanted hw (LJ.toJ rest _ _ Q h)

theorem JD.region {id : Nat} {ops : Array Oper} {tm : List AV} {σ : Sto} {Q : AExit → List AV → Sto → Prop} (h : LJ P E M ops ops.toList tm σ Q) : JD P E M (.region id ops false) tm σ Q := J.region (LJ.toJ _ _ _ _ h)
theorem JD.seqK {a b : Code} {tm : List AV} {σ : Sto} {Q : AExit → List AV → Sto → Prop} (h : ∀ K : List AV → Sto → Prop, (∀ tm1 σ1, JD P E M b tm1 σ1 Q → K tm1 σ1) → JD P E M a tm σ (andThen K Q)) : JD P E M (.seq a b) tm σ Q := by
  refine J.seq (h (fun tm1 σ1 => JD P E M b tm1 σ1 Q) fun _ _ h => h) (fun tm1 σ1 h1 => h1) fun x tm1 σ1 hx h1 => ?_
  cases x with
  | normal => exact (hx rfl).elim
  | _ => exact h1
theorem JD.hide {a : Code} {tm : List AV} {σ : Sto} {Q : AExit → List AV → Sto → Prop} (h : ∀ R : AExit → List AV → Sto → Prop, (∀ x tm1 σ1, Q x tm1 σ1 → R x tm1 σ1) → JD P E M a tm σ R) : JD P E M a tm σ Q := h Q fun _ _ _ h => h
theorem JD.cond {c : Operand} {a b : Code} {t : Bool} {tm : List AV} {σ : Sto} {Q : AExit → List AV → Sto → Prop} (hc : evx tm c = some (.lit (.bool t))) (h : JD P E M (if t then a else b) tm σ Q) : JD P E M (.cond c a b) tm σ Q := J.cond hc h
theorem JD.block {id : Nat} {a : Code} {tm : List AV} {σ : Sto} {Q : AExit → List AV → Sto → Prop} (h : JD P E M a tm σ (outOf id Q)) : JD P E M (.block id a) tm σ Q := J.block h
theorem JD.skip {tm : List AV} {σ : Sto} {Q : AExit → List AV → Sto → Prop} (h : Q .normal tm σ) : JD P E M .skip tm σ Q := J.cw (CW.skip h)
theorem JD.ret {tm : List AV} {σ : Sto} {Q : AExit → List AV → Sto → Prop} (h : Q .ret tm σ) : JD P E M .ret tm σ Q := J.cw (CW.ret h)
theorem JD.exit {id : Nat} {tm : List AV} {σ : Sto} {Q : AExit → List AV → Sto → Prop} (h : Q (.exit id) tm σ) : JD P E M (.exit id) tm σ Q := J.cw (CW.exit h)
theorem JD.loopI {a : Code} {Q : AExit → List AV → Sto → Prop} (I : Nat → List AV → Sto → Prop) (round : ∀ k tm σ, I k tm σ → JD P E M a tm σ (andThen (fun tm1 σ1 => ∃ k', k' < k ∧ I k' tm1 σ1) Q)) (k : Nat) (tm : List AV) (σ : Sto) (hI : I k tm σ) : JD P E M (.loop a) tm σ Q := J.loop I round hI
theorem JC.mono {f : FuncId} {args : List AV} {σ : Sto} {Q Q' : ARes → Sto → Prop} (h : JC P E f args σ Q) (hq : ∀ r σ', Q r σ' → Q' r σ') : JC P E f args σ Q' := J.callMono h hq
theorem CallW.toJ {f : FuncId} {args : List AV} {σ : Sto} {Q : ARes → Sto → Prop} (h : CallW P E f args σ Q) : JC P E f args σ Q := J.callW h
theorem JC.start {f : FuncId} {fn : Func} {c : Code} {args : List AV} {σ : Sto} {Q : ARes → Sto → Prop} (hf : E.code f = some fn) (hc : fn.body = some c) (hm : E.ms f = M) (hn : args.length ≤ fn.ntmps)
    (h : ∀ tm : List AV, tm.length = fn.ntmps → (∀ (i : Nat) (d : AV), args[i]? = some d → slot tm i = d) → JD P E M c tm σ (bodyW P fn Q)) : JC P E f args σ Q :=
  J.body hf hc (hm ▸ h _ (by simp; omega) fun i d hd => by
    have hl := (List.getElem?_eq_some_iff.1 hd).1
    unfold slot
    rw [List.getD_eq_getElem?_getD, List.getElem?_append_left hl, hd]; rfl)

variable {ops : Array Oper} {o : Oper} {rest : List Oper} {tm : List AV} {σ : Sto} {Q : AExit → List AV → Sto → Prop}
theorem LJ_nil : LJ P E M ops [] tm σ Q = Q .normal tm σ := rfl
theorem LJ_val (hg : o.guard = none) (h : isVal (evStep P M (evx tm) σ o) = true) : LJ P E M ops (o :: rest) tm σ Q = LJ P E M ops rest (putA tm o.dst (valOf (evStep P M (evx tm) σ o))) (stOf (evStep P M (evx tm) σ o)) Q := by
  rw [LJ, if_pos (by unfold Region.wanted; rw [hg])]
  cases hs : evStep P M (evx tm) σ o with
  | none => rw [hs] at h; cases h
  | some s => rw [hs] at h; cases s <;> first | rfl | cases h
theorem LJ_skip (hg : o.guard = none) (h : isSkip (evStep P M (evx tm) σ o) = true) : LJ P E M ops (o :: rest) tm σ Q = LJ P E M ops rest (putA tm o.dst (.tup [])) (stOf (evStep P M (evx tm) σ o)) Q := by
  rw [LJ, if_pos (by unfold Region.wanted; rw [hg])]
  cases hs : evStep P M (evx tm) σ o with
  | none => rw [hs] at h; cases h
  | some s => rw [hs] at h; cases s <;> first | rfl | cases h
theorem LJ_enter (hg : o.guard = none) (h : isEnter (evStep P M (evx tm) σ o) = true) : LJ P E M ops (o :: rest) tm σ Q = JC P E (fnOf (evStep P M (evx tm) σ o)) (argsOf (evStep P M (evx tm) σ o)) σ (retK (fun v σ' => LJ P E M ops rest (putA tm o.dst v) σ' Q) (fun v σ' => Q (.pan v) tm σ')) := by
  rw [LJ, if_pos (by unfold Region.wanted; rw [hg])]
  cases hs : evStep P M (evx tm) σ o with
  | none => rw [hs] at h; cases h
  | some s => rw [hs] at h; cases s <;> first | rfl | cases h
/-- an operation that is done, or not, by a guard that is known -/
theorem LJ_guard {j : Nat} {b c : Bool} (hg : o.guard = some (j, b)) (hy : yieldedA ops tm j = some c) : LJ P E M ops (o :: rest) tm σ Q = if c = b then LJ P E M ops ({ o with guard := none } :: rest) tm σ Q else LJ P E M ops rest (putA tm o.dst (.tup [])) σ Q := by
  have e : evStep P M (evx tm) σ { o with guard := none } = evStep P M (evx tm) σ o := by
    obtain ⟨d, op, t, p, a, g⟩ := o
    cases op <;> rfl
  have hw : Region.wanted o (yieldedA ops tm) = (some c == some b) := by unfold Region.wanted; rw [hg]; dsimp only; rw [hy]
  rw [LJ]
  by_cases h : c = b
  · subst h
    rw [if_pos (by rw [hw]; simp), if_pos rfl, LJ, if_pos (by rfl), e]
  · rw [if_neg (by rw [hw]; simpa using h), if_neg h]

theorem LJ_guardS {j : Nat} {b : Bool} {d : Option Tmp} {op : Op} {ty : TypeId} {po : String} {af : Array Edge} (h : (yieldedA ops tm j).isSome = true) : LJ P E M ops (⟨d, op, ty, po, af, some (j, b)⟩ :: rest) tm σ Q =
    if (yieldedA ops tm j).getD false = b then LJ P E M ops (⟨d, op, ty, po, af, none⟩ :: rest) tm σ Q else LJ P E M ops rest (putA tm d (.tup [])) σ Q := by
  obtain ⟨c, hc⟩ := Option.isSome_iff_exists.1 h
  rw [LJ_guard (o := ⟨d, op, ty, po, af, some (j, b)⟩) rfl hc, hc]
  rfl
theorem LJ_guardN {j : Nat} {b : Bool} {d : Option Tmp} {op : Op} {ty : TypeId} {po : String} {af : Array Edge} (h : (yieldedA ops tm j).isNone = true) : LJ P E M ops (⟨d, op, ty, po, af, some (j, b)⟩ :: rest) tm σ Q = LJ P E M ops rest (putA tm d (.tup [])) σ Q := by
  rw [LJ, if_neg]
  unfold Region.wanted
  simp [Option.isNone_iff_eq_none.1 h]
end
end Go.Proofs.YtocaickbfeaiaaaDoor
