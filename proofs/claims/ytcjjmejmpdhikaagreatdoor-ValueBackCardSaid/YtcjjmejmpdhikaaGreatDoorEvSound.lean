/-
  EV: WHOLE OPERATIONS, REGIONS IN ORDER, CODE, CALLS: the evaluator tells what every run does.
-/
import Derived.Test.YtcjjmejmpdhikaaGreatDoorEvStep4
namespace Go.Proofs.YtcjjmejmpdhikaaGreatDoor
set_option linter.unusedSimpArgs false
set_option linter.unusedVariables false
open Go.RowKit

def FR (ι : List Nat) (Z : Nat → Nat → Prop) (w : World) (tm : List AV) (tmps : Array Value) : Prop := tm.length = tmps.size ∧ ∀ (i : Nat) (d : AV) (u : Value), tm[i]? = some d → tmps[i]? = some u → VR ι Z w d u

def ERel (ι : List Nat) (Z : Nat → Nat → Prop) (w : World) : ARes → Ending → Prop
  | .ret v, e => ∃ u, e = .returned u ∧ VR ι Z w v u
  | .pan v, e => ∃ u, e = .panicked [{ v := u, recovered := false }] ∧ VR ι Z w v u

def CallSound (P : Program) (call : CallF) : Prop := ∀ (f : FuncId) (args : List AV) (σ : Sto) (r : ARes) (σ' : Sto), call f args σ = some (r, σ') → ∀ (ι : List Nat) (Z : Nat → Nat → Prop) (w : World) (us : Array Value), Match σ ι Z w → args.length = us.size →
  (∀ (i : Nat) (d : AV) (u : Value), args[i]? = some d → us[i]? = some u → VR ι Z w d u) →
  (callFunc f us).run P w = .ok (.enter f us) w ∧ Calls P f us w fun e w' => ∃ ι' Z', Evo ι Z w ι' Z' w' ∧ Match σ' ι' Z' w' ∧ ERel ι' Z' w' r e

section
variable {P : Program} {M : List TypeId} {ι : List Nat} {Z : Nat → Nat → Prop} {w : World} {σ : Sto}

theorem FR.evo {ι' : List Nat} {Z' : Nat → Nat → Prop} {w' : World} (e : Evo ι Z w ι' Z' w') {tm : List AV} {tmps : Array Value} (h : FR ι Z w tm tmps) : FR ι' Z' w' tm tmps := ⟨h.1, fun i d u hd hu => (h.2 i d u hd hu).evo e⟩

theorem undef_rel : VR ι Z w (.tup []) undef := .tup [] #[] rfl fun i d u h => by simp at h

theorem FR.put {tm : List AV} {a : Act} (h : FR ι Z w tm a.tmps) (dst : Option Tmp) {d : AV} {u : Value} (hv : VR ι Z w d u) : FR ι Z w (putA tm dst d) (a.put dst u).tmps := by
  cases dst with
  | none => exact h
  | some t =>
    refine ⟨by simp [putA, Act.put, h.1], fun i x y hx hy => ?_⟩
    simp only [putA, Act.put] at hx hy
    by_cases e : t = i
    · subst e
      have hl : t < tm.length := by have := (List.getElem?_eq_some_iff.1 hx).1; simpa using this
      rw [List.getElem?_set_self hl] at hx
      rw [Array.getElem?_setIfInBounds_self_of_lt (by rw [← h.1]; exact hl)] at hy
      cases hx; cases hy; exact hv
    · rw [List.getElem?_set_ne e] at hx
      rw [Array.getElem?_setIfInBounds_ne e] at hy
      exact h.2 i x y hx hy

theorem FR.get {tm : List AV} {tmps : Array Value} (h : FR ι Z w tm tmps) (t : Nat) : VR ι Z w (tm.getD t (.tup [])) (tmps.getD t undef) := by
  rcases Nat.lt_or_ge t tm.length with hl | hl
  · have hl' : t < tmps.size := by rw [← h.1]; exact hl
    rw [List.getD_eq_getElem?_getD, List.getElem?_eq_getElem hl]
    have : tmps.getD t undef = tmps[t] := by simp [hl']
    rw [this]
    exact h.2 t _ _ (List.getElem?_eq_getElem hl) (Array.getElem?_eq_getElem hl')
  · rw [List.getD_eq_getElem?_getD, List.getElem?_eq_none hl]
    have : tmps.getD t undef = undef := by
      have hn : ¬ t < tmps.size := by rw [← h.1]; omega
      simp [Array.getD, hn]
    rw [this]
    exact undef_rel

theorem evx_rel {σ : Sto} (hM : Match σ ι Z w) {tm : List AV} {a : Act} (h : FR ι Z w tm a.tmps) (x : Operand) (d : AV) (hx : evx tm x = some d) : VR ι Z w d (a.eval x) := by
  cases x with
  | tmp t => simp only [evx, Option.some.injEq] at hx; subst hx; exact h.get t
  | const v => exact absV_rel hx
  | global g =>
    simp only [evx] at hx
    obtain ⟨l, hl, rfl⟩ := Option.map_eq_some_iff.1 hx
    exact (hM.glob g l hl).1
  | func f =>
    simp only [evx, Option.some.injEq] at hx; subst hx
    exact .fn (.func f) [] [] #[] #[] rfl rfl (fun i d u h => by simp at h) (fun i d u h => by simp at h)

theorem yielded_rel {tm : List AV} {tmps : Array Value} (h : FR ι Z w tm tmps) (ops : Array Oper) : yieldedA ops tm = yielded ops tmps := by
  funext j
  unfold yieldedA yielded
  cases hd : (ops[j]?).bind (·.dst) with
  | none => rfl
  | some t =>
    simp only [Option.bind_some]
    rcases Nat.lt_or_ge t tm.length with hl | hl
    · have hl' : t < tmps.size := by rw [← h.1]; exact hl
      have hv := h.2 t _ _ (List.getElem?_eq_getElem hl) (Array.getElem?_eq_getElem hl')
      rw [List.getElem?_eq_getElem hl, Array.getElem?_eq_getElem hl']
      generalize tm[t] = d at hv
      generalize tmps[t] = u at hv
      cases hv with
      | lit _ h1 => cases u <;> rfl
      | _ => rfl
    · rw [List.getElem?_eq_none hl, Array.getElem?_eq_none (by rw [← h.1]; exact hl)]

/-- what follows an operation -/
def After (ι : List Nat) (Z : Nat → Nat → Prop) (w : World) (a : Act) (tm' : List AV) (σ' : Sto) (ι' : List Nat) (Z' : Nat → Nat → Prop) (w' : World) (a' : Act) : Prop :=
  Evo ι Z w ι' Z' w' ∧ Match σ' ι' Z' w' ∧ FR ι' Z' w' tm' a'.tmps ∧ a'.defers = a.defers

theorem Act.put_defers' (a : Act) (dst : Option Tmp) (v : Value) : (a.put dst v).defers = a.defers := by cases dst <;> rfl

theorem evOp_sound {call : CallF} (hcall : CallSound P call) {ops : Array Oper} {o : Oper} {tm : List AV} {r : AV ⊕ (List AV × Acc)} {σ' : Sto} (h : evOp P M call ops o tm σ = some (r, σ')) (hM : Match σ ι Z w) {a : Act} (hF : FR ι Z w tm a.tmps)
    (K : Act → World → Prop) (Q : Exit → Act → World → Prop)
    (hK : ∀ tm' acc, r = .inr (tm', acc) → ∀ ι' Z' w' a', After ι Z w a tm' σ' ι' Z' w' a' → K a' w')
    (hQ : ∀ v, r = .inl v → ∀ ι' Z' w' a' u, After ι Z w a tm σ' ι' Z' w' a' → VR ι' Z' w' v u → Q (.panic [{ v := u, recovered := false }]) a' w') :
    if Region.wanted o (yielded ops a.tmps) then o.wp P a w K Q else K (a.put o.dst undef) w := by
  unfold evOp at h
  rw [yielded_rel hF ops] at h
  split at h
  · rename_i hw
    rw [if_pos hw]
    have hρ := fun x d hx => evx_rel hM hF x d hx
    split at h
    · rename_i v σ1 acc hs
      obtain ⟨u, w', ι', Z', h1, h2, h3, h4⟩ := evStep_sound (r := a.eval) hρ hM hs
      cases h
      unfold Oper.wp
      rw [h1]
      exact hK _ _ rfl ι' Z' w' _ ⟨h2, h3, (hF.evo h2).put _ h4, Act.put_defers' _ _ _⟩
    · rename_i σ1 acc hs
      obtain ⟨w', ι', Z', h1, h2, h3⟩ := evStep_sound (r := a.eval) hρ hM hs
      cases h
      unfold Oper.wp
      rw [h1]
      exact hK _ _ rfl ι' Z' w' _ ⟨h2, h3, (hF.evo h2).put _ undef_rel, Act.put_defers' _ _ _⟩
    · rename_i v hs
      obtain ⟨u, h1, h2⟩ := evStep_sound (r := a.eval) hρ hM hs
      cases h
      unfold Oper.wp
      rw [h1]
      exact hQ _ rfl ι Z w a u ⟨.refl _ _ _, hM, hF, rfl⟩ h2
    · rename_i f args hs
      obtain ⟨us, h1, h2, h3⟩ := evStep_sound (r := a.eval) hρ hM hs
      unfold Oper.wp
      rw [h1]
      split at h
      · rename_i v σ1 hc
        obtain ⟨g1, g2⟩ := hcall f args σ _ _ hc ι Z w us hM h2 h3
        rw [g1]
        cases h
        refine g2.mono ?_
        rintro e w' ⟨ι', Z', e1, m1, u, rfl, hv⟩
        exact hK _ _ rfl ι' Z' w' _ ⟨e1, m1, (hF.evo e1).put _ hv, Act.put_defers' _ _ _⟩
      · rename_i v σ1 hc
        obtain ⟨g1, g2⟩ := hcall f args σ _ _ hc ι Z w us hM h2 h3
        rw [g1]
        cases h
        refine g2.mono ?_
        rintro e w' ⟨ι', Z', e1, m1, u, rfl, hv⟩
        exact hQ _ rfl ι' Z' w' a u ⟨e1, m1, hF.evo e1, rfl⟩ hv
      · cases h
    · cases h
  · rename_i hw
    rw [if_neg hw]
    cases h
    exact hK _ _ rfl ι Z w _ ⟨.refl _ _ _, hM, hF.put _ undef_rel, Act.put_defers' _ _ _⟩

/-- the exits -/
def XRel (ι : List Nat) (Z : Nat → Nat → Prop) (w : World) : AExit → Exit → Prop
  | .normal, e => e = .normal
  | .exit id, e => e = .exit id
  | .ret, e => e = .ret
  | .pan v, e => ∃ u, e = .panic [{ v := u, recovered := false }] ∧ VR ι Z w v u

/-- what a piece of code ends in -/
def Ends (ι : List Nat) (Z : Nat → Nat → Prop) (w : World) (a : Act) (x : AExit) (tm' : List AV) (σ' : Sto) (e : Exit) (a' : Act) (w' : World) : Prop :=
  ∃ ι' Z', After ι Z w a tm' σ' ι' Z' w' a' ∧ XRel ι' Z' w' x e

theorem evOps_sound {call : CallF} (hcall : CallSound P call) {ops : Array Oper} : ∀ (l : List Nat) {tm : List AV} {x : AExit} {tm' : List AV} {σ σ' : Sto} {ι : List Nat} {Z : Nat → Nat → Prop} {w : World} {a : Act}, evOps P M call ops l tm σ = some (x, tm', σ') → Match σ ι Z w → FR ι Z w tm a.tmps →
    ∀ Q : Exit → Act → World → Prop, (∀ e a' w', Ends ι Z w a x tm' σ' e a' w' → Q e a' w') → wpOps P ops Q l a w
  | [], tm, x, tm', σ, σ', ι, Z, w, a, h, hM, hF, Q, hQ => by
    simp only [evOps, Option.some.injEq, Prod.mk.injEq] at h
    obtain ⟨rfl, rfl, rfl⟩ := h
    exact hQ _ _ _ ⟨ι, Z, ⟨.refl _ _ _, hM, hF, rfl⟩, rfl⟩
  | i :: rest, tm, x, tm', σ, σ', ι, Z, w, a, h, hM, hF, Q, hQ => by
    rw [evOps] at h
    rw [wpOps]
    split at h
    · rename_i ho
      simp only [ho]
      exact evOps_sound hcall rest h hM hF Q hQ
    · rename_i o ho
      simp only [ho]
      have key : ∀ r σ1, evOp P M call ops o tm σ = some (r, σ1) →
          (∀ tm1 acc, r = .inr (tm1, acc) → evOps P M call ops rest tm1 σ1 = some (x, tm', σ')) → (∀ v, r = .inl v → x = .pan v ∧ tm' = tm ∧ σ' = σ1) →
          if Region.wanted o (yielded ops a.tmps) then o.wp P a w (wpOps P ops Q rest) Q else wpOps P ops Q rest (a.put o.dst undef) w := by
        intro r σ1 h1 h2 h3
        refine evOp_sound hcall h1 hM hF _ _ (fun tm1 acc hr ι' Z' w' a' ha => ?_) (fun v hr ι' Z' w' a' u ha hv => ?_)
        · obtain ⟨e1, m1, f1, d1⟩ := ha
          refine evOps_sound hcall rest (h2 tm1 acc hr) m1 f1 Q fun e a2 w2 hE => hQ e a2 w2 ?_
          obtain ⟨ι2, Z2, ⟨e2, m2, f2, d2⟩, hx⟩ := hE
          exact ⟨ι2, Z2, ⟨e1.trans e2, m2, f2, d2.trans d1⟩, hx⟩
        · obtain ⟨rfl, rfl, rfl⟩ := h3 v hr
          exact hQ _ _ _ ⟨ι', Z', ha, u, rfl, hv⟩
      split at h
      · rename_i tm1 acc σ1 h1
        have := key _ _ h1 (fun tm2 acc2 hr => by cases hr; exact h) (fun v hr => by cases hr)
        split
        · rename_i hw; rw [if_pos hw] at this; exact .inl this
        · rename_i hw; rw [if_neg hw] at this; exact this
      · rename_i v σ1 h1
        cases h
        have := key _ _ h1 (fun tm2 acc2 hr => by cases hr) (fun v hr => by cases hr; exact ⟨rfl, rfl, rfl⟩)
        split
        · rename_i hw; rw [if_pos hw] at this; exact .inl this
        · rename_i hw; rw [if_neg hw] at this; exact this
      · cases h

end
end Go.Proofs.YtcjjmejmpdhikaaGreatDoor
