/-
 EV: WHOLE OPERATIONS, REGIONS IN ORDER, CODE, CALLS: the evaluator tells what every run does.
-/
import Derived.Test.YtmmgjaheffbpaaaGreatDoorEvStepNQ
namespace Go.Proofs.YtmmgjaheffbpaaaGreatDoor
set_option linter.unusedSimpArgs false
set_option linter.unusedVariables false
set_option linter.unusedSectionVars false
section
open Go.RowKit
def FR (ι : List Nat) (Z : Nat → Nat → Prop) (w : World) (tm : List AV) (tmps : Array Value) : Prop := tm.length = tmps.size ∧ ∀ (i : Nat) (d : AV) (u : Value), tm[i]? = some d → tmps[i]? = some u → VR ι Z w d u
def ERel (ι : List Nat) (Z : Nat → Nat → Prop) (w : World) : ARes → Ending → Prop
 | .ret v, e => ∃ u, e = .returned u ∧ VR ι Z w v u
 | .pan v, e => ∃ u, e = .panicked [{ v := u, recovered := false }] ∧ VR ι Z w v u
def CallSound (P : Program) (call : CallF) : Prop := ∀ (f : FuncId) (args : List AV) (σ : Sto) (r : ARes) (σ' : Sto), call f args σ = some (r, σ') → ∀ (ι : List Nat) (Z : Nat → Nat → Prop) (w : World) (us : Array Value), Match σ ι Z w → args.length = us.size →
 (∀ (i : Nat) (d : AV) (u : Value), args[i]? = some d → us[i]? = some u → VR ι Z w d u) →
 (callFunc f us).run P w = .ok (.enter f us) w ∧ Calls P f us w fun e w' => ∃ ι' Z', Evo ι Z w ι' Z' w' ∧ Match σ' ι' Z' w' ∧ ERel ι' Z' w' r e
section
variable {P : Program} {M : List TypeId} {ι : List Nat} {Z : Nat → Nat → Prop} {w : World} {σ : Sto}
theorem FR.evo {ι' : List Nat} {Z' : Nat → Nat → Prop} {w' : World} (e : Evo ι Z w ι' Z' w') {tm : List AV} {tmps : Array Value} (h : FR ι Z w tm tmps) : FR ι' Z' w' tm tmps := ⟨h.1, fun i d u hd hu => (h.2 i d u hd hu).evo e⟩
theorem undef_rel : VR ι Z w (.tup []) undef := .tup [] #[] rfl fun i d u h => by simp at h
theorem FR.put {tm : List AV} {a : Act} (h : FR ι Z w tm a.tmps) (dst : Option Tmp) {d : AV} {u : Value} (hv : VR ι Z w d u) : FR ι Z w (putA tm dst d) (a.put dst u).tmps := by
 cases dst with
 | none => exact h
 | some t =>
  refine ⟨by simp [putA, Act.put, h.1], fun i x y hx hy => ?_⟩
  simp only [putA, Act.put] at hx hy
  by_cases e : t = i
  · subst e
    have hl : t < tm.length := by have := (List.getElem?_eq_some_iff.1 hx).1; simpa using this
    rw [List.getElem?_set_self hl] at hx
    rw [Array.getElem?_setIfInBounds_self_of_lt (by rw [← h.1]; exact hl)] at hy
    cases hx; cases hy; exact hv
  · rw [List.getElem?_set_ne e] at hx
    rw [Array.getElem?_setIfInBounds_ne e] at hy
    exact h.2 i x y hx hy
theorem FR.get {tm : List AV} {tmps : Array Value} (h : FR ι Z w tm tmps) (t : Nat) : VR ι Z w (tm.getD t (.tup [])) (tmps.getD t undef) := by
 rcases Nat.lt_or_ge t tm.length with hl | hl
 · have hl' : t < tmps.size := by rw [← h.1]; exact hl
   rw [List.getD_eq_getElem?_getD, List.getElem?_eq_getElem hl]
   have : tmps.getD t undef = tmps[t] := by simp [hl']
   rw [this]
   exact h.2 t _ _ (List.getElem?_eq_getElem hl) (Array.getElem?_eq_getElem hl')
 · rw [List.getD_eq_getElem?_getD, List.getElem?_eq_none hl]
   have : tmps.getD t undef = undef := by
    have hn : ¬ t < tmps.size := by rw [← h.1]; omega
    simp [Array.getD, hn]
   rw [this]
   exact undef_rel
theorem evx_rel {σ : Sto} (hM : Match σ ι Z w) {tm : List AV} {a : Act} (h : FR ι Z w tm a.tmps) (x : Operand) (d : AV) (hx : evx tm x = some d) : VR ι Z w d (a.eval x) := by
 cases x with
 | tmp t => simp only [evx, Option.some.injEq] at hx; subst hx; exact h.get t
 | const v => exact absV_rel hx
 | global g =>
  simp only [evx] at hx
  obtain ⟨l, hl, rfl⟩ := Option.map_eq_some_iff.1 hx
  exact (hM.glob g l hl).1
 | func f =>
  simp only [evx, Option.some.injEq] at hx; subst hx
  exact .fn (.func f) [] [] #[] #[] rfl rfl (fun i d u h => by simp at h) (fun i d u h => by simp at h)
theorem yielded_rel {tm : List AV} {tmps : Array Value} (h : FR ι Z w tm tmps) (ops : Array Oper) : yieldedA ops tm = yielded ops tmps := by
 funext j
 unfold yieldedA yielded
 cases hd : (ops[j]?).bind (·.dst) with
 | none => rfl
 | some t =>
  simp only [Option.bind_some]
  rcases Nat.lt_or_ge t tm.length with hl | hl
  · have hl' : t < tmps.size := by rw [← h.1]; exact hl
    have hv := h.2 t _ _ (List.getElem?_eq_getElem hl) (Array.getElem?_eq_getElem hl')
    rw [List.getElem?_eq_getElem hl, Array.getElem?_eq_getElem hl']
    generalize tm[t] = d at hv
    generalize tmps[t] = u at hv
    cases hv with
    | lit _ h1 => cases u <;> rfl
    | _ => rfl
  · rw [List.getElem?_eq_none hl, Array.getElem?_eq_none (by rw [← h.1]; exact hl)]
def After (ι : List Nat) (Z : Nat → Nat → Prop) (w : World) (a : Act) (tm' : List AV) (σ' : Sto) (ι' : List Nat) (Z' : Nat → Nat → Prop) (w' : World) (a' : Act) : Prop :=
 Evo ι Z w ι' Z' w' ∧ Match σ' ι' Z' w' ∧ FR ι' Z' w' tm' a'.tmps ∧ a'.defers = a.defers
theorem Act.put_defers' (a : Act) (dst : Option Tmp) (v : Value) : (a.put dst v).defers = a.defers := by cases dst <;> rfl
theorem evOp_sound {call : CallF} (hcall : CallSound P call) {ops : Array Oper} {o : Oper} {tm : List AV} {r : AV ⊕ (List AV × Acc)} {σ' : Sto} (h : evOp P M call ops o tm σ = some (r, σ')) (hM : Match σ ι Z w) {a : Act} (hF : FR ι Z w tm a.tmps)
    (K : Act → World → Prop) (Q : Exit → Act → World → Prop)
    (hK : ∀ tm' acc, r = .inr (tm', acc) → ∀ ι' Z' w' a', After ι Z w a tm' σ' ι' Z' w' a' → K a' w')
    (hQ : ∀ v, r = .inl v → ∀ ι' Z' w' a' u, After ι Z w a tm σ' ι' Z' w' a' → VR ι' Z' w' v u → Q (.panic [{ v := u, recovered := false }]) a' w') :
    if Region.wanted o (yielded ops a.tmps) then o.wp P a w K Q else K (a.put o.dst undef) w := by
 unfold evOp at h
 rw [yielded_rel hF ops] at h
 split at h
 · rename_i hw
   rw [if_pos hw]
   have hρ := fun x d hx => evx_rel hM hF x d hx
   split at h
   · rename_i v σ1 acc hs
     obtain ⟨u, w', ι', Z', h1, h2, h3, h4⟩ := evStep_sound (r := a.eval) hρ hM hs
     cases h
     unfold Oper.wp
     rw [h1]
     exact hK _ _ rfl ι' Z' w' _ ⟨h2, h3, (hF.evo h2).put _ h4, Act.put_defers' _ _ _⟩
   · rename_i σ1 acc hs
     obtain ⟨w', ι', Z', h1, h2, h3⟩ := evStep_sound (r := a.eval) hρ hM hs
     cases h
     unfold Oper.wp
     rw [h1]
     exact hK _ _ rfl ι' Z' w' _ ⟨h2, h3, (hF.evo h2).put _ undef_rel, Act.put_defers' _ _ _⟩
   · rename_i v hs
     obtain ⟨u, h1, h2⟩ := evStep_sound (r := a.eval) hρ hM hs
     cases h
     unfold Oper.wp
     rw [h1]
     exact hQ _ rfl ι Z w a u ⟨.refl _ _ _, hM, hF, rfl⟩ h2
   · rename_i f args hs
     obtain ⟨us, h1, h2, h3⟩ := evStep_sound (r := a.eval) hρ hM hs
     unfold Oper.wp
     rw [h1]
     split at h
     · rename_i v σ1 hc
       obtain ⟨g1, g2⟩ := hcall f args σ _ _ hc ι Z w us hM h2 h3
       rw [g1]
       cases h
       refine g2.mono ?_
       rintro e w' ⟨ι', Z', e1, m1, u, rfl, hv⟩
       exact hK _ _ rfl ι' Z' w' _ ⟨e1, m1, (hF.evo e1).put _ hv, Act.put_defers' _ _ _⟩
     · rename_i v σ1 hc
       obtain ⟨g1, g2⟩ := hcall f args σ _ _ hc ι Z w us hM h2 h3
       rw [g1]
       cases h
       refine g2.mono ?_
       rintro e w' ⟨ι', Z', e1, m1, u, rfl, hv⟩
       exact hQ _ rfl ι' Z' w' a u ⟨e1, m1, hF.evo e1, rfl⟩ hv
     · cases h
   · cases h
 · rename_i hw
   rw [if_neg hw]
   cases h
   exact hK _ _ rfl ι Z w _ ⟨.refl _ _ _, hM, hF.put _ undef_rel, Act.put_defers' _ _ _⟩
def XRel (ι : List Nat) (Z : Nat → Nat → Prop) (w : World) : AExit → Exit → Prop
 | .normal, e => e = .normal
 | .exit id, e => e = .exit id
 | .ret, e => e = .ret
 | .pan v, e => ∃ u, e = .panic [{ v := u, recovered := false }] ∧ VR ι Z w v u
def Ends (ι : List Nat) (Z : Nat → Nat → Prop) (w : World) (a : Act) (x : AExit) (tm' : List AV) (σ' : Sto) (e : Exit) (a' : Act) (w' : World) : Prop :=
 ∃ ι' Z', After ι Z w a tm' σ' ι' Z' w' a' ∧ XRel ι' Z' w' x e
theorem evOps_sound {call : CallF} (hcall : CallSound P call) {ops : Array Oper} : ∀ (l : List Nat) {tm : List AV} {x : AExit} {tm' : List AV} {σ σ' : Sto} {ι : List Nat} {Z : Nat → Nat → Prop} {w : World} {a : Act}, evOps P M call ops l tm σ = some (x, tm', σ') → Match σ ι Z w → FR ι Z w tm a.tmps →
    ∀ Q : Exit → Act → World → Prop, (∀ e a' w', Ends ι Z w a x tm' σ' e a' w' → Q e a' w') → wpOps P ops Q l a w
 | [], tm, x, tm', σ, σ', ι, Z, w, a, h, hM, hF, Q, hQ => by
  simp only [evOps, Option.some.injEq, Prod.mk.injEq] at h
  obtain ⟨rfl, rfl, rfl⟩ := h
  exact hQ _ _ _ ⟨ι, Z, ⟨.refl _ _ _, hM, hF, rfl⟩, rfl⟩
 | i :: rest, tm, x, tm', σ, σ', ι, Z, w, a, h, hM, hF, Q, hQ => by
  rw [evOps] at h
  rw [wpOps]
  split at h
  · rename_i ho
    simp only [ho]
    exact evOps_sound hcall rest h hM hF Q hQ
  · rename_i o ho
    simp only [ho]
    have key : ∀ r σ1, evOp P M call ops o tm σ = some (r, σ1) →
        (∀ tm1 acc, r = .inr (tm1, acc) → evOps P M call ops rest tm1 σ1 = some (x, tm', σ')) → (∀ v, r = .inl v → x = .pan v ∧ tm' = tm ∧ σ' = σ1) →
        if Region.wanted o (yielded ops a.tmps) then o.wp P a w (wpOps P ops Q rest) Q else wpOps P ops Q rest (a.put o.dst undef) w := by
     intro r σ1 h1 h2 h3
     refine evOp_sound hcall h1 hM hF _ _ (fun tm1 acc hr ι' Z' w' a' ha => ?_) (fun v hr ι' Z' w' a' u ha hv => ?_)
     · obtain ⟨e1, m1, f1, d1⟩ := ha
       refine evOps_sound hcall rest (h2 tm1 acc hr) m1 f1 Q fun e a2 w2 hE => hQ e a2 w2 ?_
       obtain ⟨ι2, Z2, ⟨e2, m2, f2, d2⟩, hx⟩ := hE
       exact ⟨ι2, Z2, ⟨e1.trans e2, m2, f2, d2.trans d1⟩, hx⟩
     · obtain ⟨rfl, rfl, rfl⟩ := h3 v hr
       exact hQ _ _ _ ⟨ι', Z', ha, u, rfl, hv⟩
    split at h
    · rename_i tm1 acc σ1 h1
      have := key _ _ h1 (fun tm2 acc2 hr => by cases hr; exact h) (fun v hr => by cases hr)
      split
      · rename_i hw; rw [if_pos hw] at this; exact .inl this
      · rename_i hw; rw [if_neg hw] at this; exact this
    · rename_i v σ1 h1
      cases h
      have := key _ _ h1 (fun tm2 acc2 hr => by cases hr) (fun v hr => by cases hr; exact ⟨rfl, rfl, rfl⟩)
      split
      · rename_i hw; rw [if_pos hw] at this; exact .inl this
      · rename_i hw; rw [if_neg hw] at this; exact this
    · cases h
end
end
section
open Go.RowKit
section
variable {P : Program} {M : List TypeId}
theorem omap_congr {α β : Type} {f g : α → Option β} : ∀ {l : List α}, (∀ x ∈ l, f x = g x) → omap f l = omap g l
 | [], _ => rfl
 | a :: l, h => by rw [omap, omap, h a (by simp), omap_congr (l := l) fun x hx => h x (by simp [hx])]
theorem parts_congr {ρ ρ' : Operand → Option AV} {ps : Array (Nat × Operand)} (h : ∀ x ∈ (ps.toList.map (·.2)).toArray, ρ x = ρ' x) : parts? ρ ps = parts? ρ' ps := by
 unfold parts?
 refine omap_congr fun p hp => ?_
 rw [h p.2 (by simp; exact ⟨p.1, by simpa using hp⟩)]
theorem evLit_congr {ρ ρ' : Operand → Option AV} {o : Oper} (h : ∀ x ∈ o.op.operands, ρ x = ρ' x) (σ : Sto) : evLit P ρ σ o = evLit P ρ' σ o := by
 unfold evLit
 split
 · rfl
 · rename_i hs
   have e1 : (o.op.operands.all fun x => ((ρ x).bind conc).isSome) = (o.op.operands.all fun x => ((ρ' x).bind conc).isSome) := by
    rw [Bool.eq_iff_iff, Array.all_eq_true', Array.all_eq_true']
    exact ⟨fun g x hx => by rw [← h x hx]; exact g x hx, fun g x hx => by rw [h x hx]; exact g x hx⟩
   have e2 : execOp (fun x => ((ρ x).bind conc).getD undef) o = execOp (fun x => ((ρ' x).bind conc).getD undef) o :=
    execOp_congr o (fun cs b e => hs cs b e) fun x hx => by rw [h x hx]
   rw [e1, e2]
theorem evLit_state {ρ : Operand → Option AV} {o : Oper} {σ : Sto} {s : AStep} (h : evLit P ρ σ o = some s) : (∃ v, s = .val v σ .pure ∧ ∀ σ2, evLit P ρ σ2 o = some (.val v σ2 .pure)) ∨ (∃ v, s = .pan v ∧ ∀ σ2, evLit P ρ σ2 o = some (.pan v)) := by
 have h0 := h
 unfold evLit at h ⊢
 split at h
 · cases h
 · rename_i hs
   split at h
   · rename_i hall
     split at h
     · rename_i u hu
       rw [Option.map_eq_some_iff] at h
       obtain ⟨d, h1, rfl⟩ := h
       refine .inl ⟨d, rfl, fun σ2 => ?_⟩
       simp [hall, hu, h1]
     · rename_i u hu
       rw [Option.map_eq_some_iff] at h
       obtain ⟨d, h1, rfl⟩ := h
       refine .inr ⟨d, rfl, fun σ2 => ?_⟩
       simp [hall, hu, h1]
     · cases h
   · cases h
theorem evLit_none {ρ : Operand → Option AV} {o : Oper} {σ : Sto} (h : evLit P ρ σ o = none) (σ2 : Sto) : evLit P ρ σ2 o = none := by
 cases h2 : evLit P ρ σ2 o with
 | none => rfl
 | some s =>
  rcases evLit_state h2 with ⟨v, _, g⟩ | ⟨v, _, g⟩
  · rw [g σ] at h; cases h
  · rw [g σ] at h; cases h
theorem evPure_congr {ρ ρ' : Operand → Option AV} {o : Oper} (h : ∀ x ∈ o.op.operands, ρ x = ρ' x) : evPure P ρ o = evPure P ρ' o := by
 obtain ⟨dst, op, type, pos, after, guard⟩ := o
 cases op <;> simp only [Op.operands] at h <;> simp only [evPure]
 case build t ps => rw [parts_congr h]
 case buildSlice t n ps => rw [parts_congr h]
 case makeFunc fn first captured => rw [omap_congr (l := first.toList) fun x hx => h x (by simp at hx; simp [hx]), omap_congr (l := captured.toList) fun x hx => h x (by simp at hx; simp [hx])]
 case call c =>
  have ha : ∀ x ∈ c.args.toList, ρ x = ρ' x := fun x hx => h x (by simp [Call.operands]; right; simpa using hx)
  generalize hq : c.callee = q
  generalize ht : c.argTypes.toList = ts
  generalize hl : c.args.toList = l at ha
  split
  · rw [ha _ (by simp)]
  · rfl
 case slice t x lo hi mx => cases lo <;> cases hi <;> cases mx <;> simp_all
 all_goals (first | rfl | (simp_all; done))
theorem evPut_congr {ρ ρ' : Operand → Option AV} {t : TypeId} {m k x : Operand} (h1 : ρ m = ρ' m) (h2 : ρ k = ρ' k) (h3 : ρ x = ρ' x) (σ : Sto) : evPut P ρ σ t m k x = evPut P ρ' σ t m k x := by
 unfold evPut
 rw [h1, h2, h3]
theorem evGet_congr {ρ ρ' : Operand → Option AV} {t : TypeId} {m k : Operand} {ok : Bool} (h1 : ρ m = ρ' m) (h2 : ρ k = ρ' k) (σ : Sto) : evGet P ρ σ t m k ok = evGet P ρ' σ t m k ok := by
 unfold evGet
 rw [h1, h2]
theorem evLenM_congr {ρ ρ' : Operand → Option AV} {t : TypeId} {x : Operand} (h1 : ρ x = ρ' x) (σ : Sto) : evLenM P ρ σ t x = evLenM P ρ' σ t x := by
 unfold evLenM
 rw [h1]
theorem evMem_congr {ρ ρ' : Operand → Option AV} {o : Oper} (h : ∀ x ∈ o.op.operands, ρ x = ρ' x) (σ : Sto) : evMem P ρ σ o = evMem P ρ' σ o := by
 obtain ⟨dst, op, type, pos, after, guard⟩ := o
 cases op <;> simp only [Op.operands] at h <;> simp only [evMem]
 case call c =>
  have ha : ∀ x ∈ c.args.toList, ρ x = ρ' x := fun x hx => h x (by simp [Call.operands]; right; simpa using hx)
  have hf : ∀ f, c.callee = .value f → ρ f = ρ' f := fun f hf => h f (by simp [Call.operands, hf])
  generalize hq : c.callee = q at hf
  generalize ht : c.argTypes.toList = ts
  generalize hl : c.args.toList = l at ha
  cases q with
  | value f => dsimp only; rw [hf f rfl, omap_congr ha]
  | invoke a b => rfl
  | builtin b =>
   cases b <;> first | rfl | skip
   · dsimp only
     split
     · unfold evAppend
       rw [ha _ (by simp), ha _ (by simp)]
     · rfl
   · dsimp only
     split
     · exact evLenM_congr (ha _ (by simp)) σ
     · rfl
 case insert t m k x => exact evPut_congr (h m (by simp)) (h k (by simp)) (h x (by simp)) σ
 case mapUpdate t m k x => exact evPut_congr (h m (by simp)) (h k (by simp)) (h x (by simp)) σ
 case lookup t m k ok => exact evGet_congr (h m (by simp)) (h k (by simp)) σ
 all_goals (first | rfl | (simp_all; done))
def gone : Option Nat → Sto → Sto
 | none, σ => σ
 | some i, σ => σ.set i .dead
def LocS (acc : Acc) (σ σ' : Sto) (R : Sto → Sto → Prop) : Prop :=
 match acc with
 | .pure => σ' = σ ∧ ∀ σ2, R σ2 σ2
 | .reads id => σ' = σ ∧ id < σ.length ∧ ∀ σ2 : Sto, σ2[id]? = σ[id]? → R σ2 σ2
 | .writes id => ∃ x, id < σ.length ∧ σ' = σ.set id x ∧ ∀ σ2 : Sto, σ2[id]? = σ[id]? → R σ2 (σ2.set id x)
 | .news id => ∃ x, id = σ.length ∧ σ' = σ ++ [x] ∧ ∀ σ2 : Sto, σ2.length = σ.length → R σ2 (σ2 ++ [x])
 | .grows k n => ∃ x, n = σ.length ∧ σ' = gone k σ ++ [x]
 | .calls n K => n = σ.length ∧ ∀ a, K a = true → a < σ.length → σ'[a]? = σ[a]?
 | .lcalls K => σ'.length = σ.length ∧ (∀ a, K a = true → σ'[a]? = σ[a]?) ∧ ∀ l, R (σ ++ l) (σ' ++ l)
 | .any => True
theorem evPut_local {ρ : Operand → Option AV} {t : TypeId} {m k x : Operand} {σ : Sto} {s : AStep} (h : evPut P ρ σ t m k x = some s) : ∃ id y, id < σ.length ∧ s = .skip (σ.set id y) (.writes id) ∧ ∀ σ2 : Sto, σ2[id]? = σ[id]? → evPut P ρ σ2 t m k x = some (.skip (σ2.set id y) (.writes id)) := by
 unfold evPut at h
 split at h
 · rename_i kt e id key v ht hm hk hx
   split at h
   · rename_i q q' es hq hσ
     split at h
     · rename_i hc
       cases h
       refine ⟨id, _, (List.getElem?_eq_some_iff.1 hσ).1, rfl, fun σ2 h2 => ?_⟩
       unfold evPut
       simp only [ht, hm, hk, hx, hq, h2, hσ]
       rw [if_pos hc]
     · cases h
   · cases h
 · cases h
theorem evGet_local {ρ : Operand → Option AV} {t : TypeId} {m k : Operand} {ok : Bool} {σ : Sto} {s : AStep} (h : evGet P ρ σ t m k ok = some s) : ∃ id v, id < σ.length ∧ s = .val v σ (.reads id) ∧ ∀ σ2 : Sto, σ2[id]? = σ[id]? → evGet P ρ σ2 t m k ok = some (.val v σ2 (.reads id)) := by
 unfold evGet at h
 split at h
 · rename_i kt e id key ht hm hk
   split at h
   · rename_i q z q' es hq hz hσ
     split at h
     · rename_i hc
       cases h
       refine ⟨id, _, (List.getElem?_eq_some_iff.1 hσ).1, rfl, fun σ2 h2 => ?_⟩
       unfold evGet
       simp only [ht, hm, hk, hq, hz, h2, hσ]
       rw [if_pos hc]
     · cases h
   · cases h
 · cases h
theorem evLenM_local {ρ : Operand → Option AV} {t : TypeId} {x : Operand} {σ : Sto} {s : AStep} (h : evLenM P ρ σ t x = some s) : ∃ id v, id < σ.length ∧ s = .val v σ (.reads id) ∧ ∀ σ2 : Sto, σ2[id]? = σ[id]? → evLenM P ρ σ2 t x = some (.val v σ2 (.reads id)) := by
 unfold evLenM at h
 split at h
 · rename_i kt e id ht hm
   split at h
   · rename_i q es hσ
     cases h
     refine ⟨id, _, (List.getElem?_eq_some_iff.1 hσ).1, rfl, fun σ2 h2 => ?_⟩
     unfold evLenM
     simp only [ht, hm, h2, hσ]
   · cases h
 · cases h
theorem evMem_local {ρ ρ' : Operand → Option AV} {o : Oper} (h : ∀ x ∈ o.op.operands, ρ x = ρ' x) {σ σ' : Sto} : (∀ v acc, evMem P ρ σ o = some (.val v σ' acc) → LocS acc σ σ' fun σ2 σ2' => evMem P ρ' σ2 o = some (.val v σ2' acc)) ∧
    (∀ acc, evMem P ρ σ o = some (.skip σ' acc) → LocS acc σ σ' fun σ2 σ2' => evMem P ρ' σ2 o = some (.skip σ2' acc)) := by
 obtain ⟨dst, op, type, pos, after, guard⟩ := o
 cases op <;> simp only [Op.operands] at h <;> simp only [evMem]
 case alloc e =>
  refine ⟨fun v acc g => ?_, fun acc g => ?_⟩
  · split at g
    · rename_i z hz
      split at g
      · rename_i d hd
        split at g
        · rename_i ht
          cases g
          exact ⟨_, rfl, rfl, fun σ2 h2 => by simp [hz, hd, ht, h2]⟩
        · cases g
      · cases g
    · cases g
  · split at g
    · split at g
      · split at g <;> cases g
      · cases g
    · cases g
 case box e x =>
  have hx := h x (by simp)
  refine ⟨fun v acc g => ?_, fun acc g => ?_⟩
  · split at g
    · rename_i d hd
      split at g
      · rename_i ht
        cases g
        exact ⟨_, rfl, rfl, fun σ2 h2 => by simp [← hx, hd, ht, h2]⟩
      · cases g
    · cases g
  · split at g
    · split at g <;> cases g
    · cases g
 case load t x =>
  have hx := h x (by simp)
  refine ⟨fun v acc g => ?_, fun acc g => ?_⟩
  · split at g
    · rename_i id off hd
      split at g
      · rename_i cs T hσ
        rw [Option.map_eq_some_iff] at g
        obtain ⟨d, h1, h2⟩ := g
        cases h2
        exact ⟨rfl, (List.getElem?_eq_some_iff.1 hσ).1, fun σ2 h2 => by simp [← hx, hd, h2, hσ, h1]⟩
      · cases g
    · cases g
  · split at g
    · split at g
      · rw [Option.map_eq_some_iff] at g
        obtain ⟨d, h1, h2⟩ := g
        cases h2
      · cases g
    · cases g
 case store t x y =>
  have hx := h x (by simp)
  have hy := h y (by simp)
  refine ⟨fun v acc g => ?_, fun acc g => ?_⟩
  · split at g
    · split at g
      · split at g <;> cases g
      · cases g
    · cases g
  · split at g
    · rename_i id off v n h1 h2 h3
      split at g
      · rename_i cs T hσ
        split at g
        · rename_i hc
          cases g
          exact ⟨_, (List.getElem?_eq_some_iff.1 hσ).1, rfl, fun σ2 g2 => by simp [← hx, ← hy, h1, h2, h3, g2, hσ, hc]⟩
        · cases g
      · cases g
    · cases g
 case panic x =>
  refine ⟨fun v acc g => ?_, fun acc g => ?_⟩
  · split at g <;> cases g
  · split at g <;> cases g
 case insert t m k x =>
  simp only [← evPut_congr (h m (by simp)) (h k (by simp)) (h x (by simp))]
  refine ⟨fun v acc g => ?_, fun acc g => ?_⟩
  · obtain ⟨id, y, h1, h2, h3⟩ := evPut_local g; cases h2
  · obtain ⟨id, y, h1, h2, h3⟩ := evPut_local g; cases h2; exact ⟨y, h1, rfl, h3⟩
 case mapUpdate t m k x =>
  simp only [← evPut_congr (h m (by simp)) (h k (by simp)) (h x (by simp))]
  refine ⟨fun v acc g => ?_, fun acc g => ?_⟩
  · obtain ⟨id, y, h1, h2, h3⟩ := evPut_local g; cases h2
  · obtain ⟨id, y, h1, h2, h3⟩ := evPut_local g; cases h2; exact ⟨y, h1, rfl, h3⟩
 case lookup t m k ok =>
  simp only [← evGet_congr (ok := ok) (h m (by simp)) (h k (by simp))]
  refine ⟨fun v acc g => ?_, fun acc g => ?_⟩
  · obtain ⟨id, y, h1, h2, h3⟩ := evGet_local g; cases h2; exact ⟨rfl, h1, h3⟩
  · obtain ⟨id, y, h1, h2, h3⟩ := evGet_local g; cases h2
 case makeMap t rs =>
  refine ⟨fun v acc g => ?_, fun acc g => ?_⟩
  · obtain ⟨q, _, h2, h3⟩ := evMk_local g; cases h2; exact ⟨_, rfl, rfl, fun σ2 h2 => by have := h3 σ2; rw [h2] at this; exact this⟩
  · obtain ⟨q, _, h2, h3⟩ := evMk_local g; cases h2
 case call c =>
  have ha : ∀ x ∈ c.args.toList, ρ x = ρ' x := fun x hx => h x (by simp [Call.operands]; right; simpa using hx)
  generalize hq : c.callee = q
  generalize ht : c.argTypes.toList = ts
  generalize hl : c.args.toList = l at ha
  refine ⟨fun v acc g => ?_, fun acc g => ?_⟩
  · split at g
    · split at g
      · rename_i x y t u
        split at g
        · rename_i htu
          subst htu
          unfold evAppend at g ⊢
          have e1 := ha x (by simp)
          have e2 := ha y (by simp)
          split at g
          · rename_i e es tok fs tok2 g1 g2 g3
            split at g
            · rename_i k by_ zn g4 g5 g6
              split at g
              · rename_i hc
                split at g
                · rename_i h0
                  cases g
                  refine ⟨rfl, fun σ2 => ?_⟩
                  simp only [if_true, g1, ← e1, ← e2, g2, g3, g4, g5, g6, if_pos hc, if_pos h0]
                · rename_i h0
                  split at g
                  · cases g
                  · cases g
                    refine ⟨_, rfl, rfl, fun σ2 hs => ?_⟩
                    simp only [if_true, g1, ← e1, ← e2, g2, g3, g4, g5, g6, if_pos hc, if_neg h0, hs]
                  · split at g
                    · split at g
                      · cases g; trivial
                      · cases g
                    · cases g
                  · split at g
                    · split at g
                      · cases g; trivial
                      · cases g
                    · cases g
              · cases g
            · cases g
          · cases g
        · cases g
      · cases g
    · split at g
      · rename_i x t
        have hx := ha x (by simp)
        simp only [← evLenM_congr hx]
        obtain ⟨id, y, h1, h2, h3⟩ := evLenM_local g; cases h2; exact ⟨rfl, h1, h3⟩
      · cases g
    · split at g <;> cases g
    · cases g
  · split at g
    · split at g
      · split at g
        · unfold evAppend at g
          split at g
          · split at g
            · split at g
              · split at g
                · cases g
                · split at g
                  · cases g
                  · cases g
                  · split at g
                    · split at g <;> cases g
                    · cases g
                  · split at g
                    · split at g <;> cases g
                    · cases g
              · cases g
            · cases g
          · cases g
        · cases g
      · cases g
    · split at g
      · obtain ⟨id, y, h1, h2, h3⟩ := evLenM_local g; cases h2
      · cases g
    · split at g <;> cases g
    · cases g
 all_goals exact ⟨fun v acc g => (by cases g), fun acc g => (by cases g)⟩
theorem LocS.mono {acc : Acc} {σ σ' : Sto} {R R' : Sto → Sto → Prop} (h : LocS acc σ σ' R) (hR : ∀ a b, R a b → R' a b) : LocS acc σ σ' R' := by
 cases acc with
 | pure => exact ⟨h.1, fun s => hR _ _ (h.2 s)⟩
 | reads id => exact ⟨h.1, h.2.1, fun s hs => hR _ _ (h.2.2 s hs)⟩
 | writes id => obtain ⟨x, h1, h2, h3⟩ := h; exact ⟨x, h1, h2, fun s hs => hR _ _ (h3 s hs)⟩
 | news id => obtain ⟨x, h1, h2, h3⟩ := h; exact ⟨x, h1, h2, fun s hs => hR _ _ (h3 s hs)⟩
 | grows k n => exact h
 | calls n b => exact h
 | lcalls K => exact ⟨h.1, h.2.1, fun l => hR _ _ (h.2.2 l)⟩
 | any => trivial
theorem evx_congr {ops : Array Oper} {o : Oper} {tm tm2 : List AV} (h : ∀ t ∈ o.looksAt ops, tm2[t]? = tm[t]?) : ∀ x ∈ o.op.operands, evx tm x = evx tm2 x := by
 intro x hx
 cases x with
 | tmp t =>
  have : t ∈ o.looksAt ops := List.mem_append_left _ (List.mem_filterMap.2 ⟨.tmp t, by simpa using hx, rfl⟩)
  simp only [evx, List.getD_eq_getElem?_getD, h t this]
 | _ => rfl
theorem wanted_congr {ops : Array Oper} {o : Oper} {tm tm2 : List AV} (h : ∀ t ∈ o.looksAt ops, tm2[t]? = tm[t]?) : Region.wanted o (yieldedA ops tm2) = Region.wanted o (yieldedA ops tm) := by
 unfold Region.wanted
 cases hg : o.guard with
 | none => rfl
 | some g =>
  obtain ⟨j, want⟩ := g
  dsimp only
  unfold yieldedA
  cases hd : (ops[j]?).bind (·.dst) with
  | none => rfl
  | some t =>
   have : t ∈ o.looksAt ops := List.mem_append_right _ (by simp [hg, hd])
   simp only [Option.bind_some, h t this]
theorem evAppendM_congr {ρ ρ' : Operand → Option AV} {t : TypeId} {x y : Operand} (hx : ρ x = ρ' x) (hy : ρ y = ρ' y) (σ : Sto) : evAppendM P ρ σ t x y = evAppendM P ρ' σ t x y := by
 unfold evAppendM
 rw [hx, hy]
theorem evAppendS_congr {ρ ρ' : Operand → Option AV} {t u : TypeId} {x y : Operand} (hx : ρ x = ρ' x) (hy : ρ y = ρ' y) (σ : Sto) : evAppendS P ρ σ t u x y = evAppendS P ρ' σ t u x y := by
 unfold evAppendS
 rw [hx, hy]
theorem evMake_congr {ρ ρ' : Operand → Option AV} {t : TypeId} {x y : Operand} (hx : ρ x = ρ' x) (hy : ρ y = ρ' y) (σ : Sto) : evMake P ρ σ t x y = evMake P ρ' σ t x y := by
 unfold evMake
 rw [hx, hy]
theorem evMake_val {ρ : Operand → Option AV} {σ : Sto} {t : TypeId} {x y : Operand} {s : AStep} (h : evMake P ρ σ t x y = some s) : ∃ (v : Nat → AV) (o : AObj), s = .val (v σ.length) (σ ++ [o]) (.news σ.length) ∧ ∀ σ2, evMake P ρ σ2 t x y = some (.val (v σ2.length) (σ2 ++ [o]) (.news σ2.length)) := by
 unfold evMake at h
 split at h
 · split at h
   · split at h
     · split at h
       · rename_i e kx l ky c ht hx hy _ _ _ n by_ z hn hb hz _ d hd hc
         split at h
         · rename_i h0
           cases h
           refine ⟨fun m => .sl [] (.fresh m (n + 1)), .tok 0 e, rfl, fun σ2 => ?_⟩
           unfold evMake
           simp only [ht, hx, hy, hn, hb, hz, hd]
           rw [if_pos hc, if_pos h0]
         · rename_i h0
           cases h
           refine ⟨fun m => .asl m 0 l.toNat (n + 1), .cells (List.replicate l.toNat d.cells).flatten e, rfl, fun σ2 => ?_⟩
           unfold evMake
           simp only [ht, hx, hy, hn, hb, hz, hd]
           rw [if_pos hc, if_neg h0]
       · cases h
     · cases h
   · cases h
 · cases h
theorem evMut_congr {ρ ρ' : Operand → Option AV} {o : Oper} (h : ∀ x ∈ o.op.operands, ρ x = ρ' x) (σ : Sto) : evMut P ρ σ o = evMut P ρ' σ o := by
 obtain ⟨d, op, ty, po, af, gu⟩ := o
 cases op with
 | buildSlice t len ps =>
  have e : parts? ρ ps = parts? ρ' ps := by
   unfold parts?
   refine omap_congr fun p hp => ?_
   rw [h p.2 (by simp [Op.operands]; exact ⟨p.1, by simpa using hp⟩)]
  unfold evMut
  simp only [e]
 | makeSlice t x y =>
  unfold evMut
  exact evMake_congr (h x (by simp [Op.operands])) (h y (by simp [Op.operands])) σ
 | call c =>
  obtain ⟨q, l, ts⟩ := c
  unfold evMut
  cases q with
  | builtin b =>
   cases b with
   | append =>
    dsimp only
    split
    · rename_i x y t u hl _
      rw [evAppendM_congr (h x (by simp [Op.operands, Call.operands, ← Array.mem_toList_iff, hl])) (h y (by simp [Op.operands, Call.operands, ← Array.mem_toList_iff, hl])) σ,
       evAppendS_congr (h x (by simp [Op.operands, Call.operands, ← Array.mem_toList_iff, hl])) (h y (by simp [Op.operands, Call.operands, ← Array.mem_toList_iff, hl])) σ]
    · rfl
   | _ => rfl
  | _ => rfl
 | _ => rfl
theorem evMut_val {ρ : Operand → Option AV} {σ : Sto} {o : Oper} {s : AStep} (h : evMut P ρ σ o = some s) : ∃ v σ' acc, s = .val v σ' acc := by
 unfold evMut at h
 split at h
 · split at h
   · split at h
     · split at h
       · split at h
         · rw [Option.map_eq_some_iff] at h
           obtain ⟨cs, _, rfl⟩ := h
           exact ⟨_, _, _, rfl⟩
         · cases h
       · cases h
     · cases h
   · cases h
 · obtain ⟨v, o, h, _⟩ := evMake_val h
   exact ⟨_, _, _, h⟩
 · split at h
   · split at h
     · split at h
       · unfold evAppendM at h
         split at h
         · split at h
           · split at h
             · split at h
               · split at h
                 · cases h; exact ⟨_, _, _, rfl⟩
                 · split at h
                   · split at h
                     · cases h; exact ⟨_, _, _, rfl⟩
                     · cases h
                   · cases h
                 · cases h
               · cases h
             · cases h
           · cases h
         · cases h
       · unfold evAppendS at h
         repeat' split at h
         all_goals first
          | (cases h; exact ⟨_, _, _, rfl⟩)
          | cases h
     · cases h
   · cases h
 · cases h
theorem evAppendM_acc {ρ : Operand → Option AV} {σ σ' : Sto} {t : TypeId} {x y : Operand} {v : AV} {acc : Acc} (h : evAppendM P ρ σ t x y = some (.val v σ' acc)) (R : Sto → Sto → Prop) : LocS acc σ σ' R := by
 unfold evAppendM at h
 split at h
 · split at h
   · split at h
     · split at h
       · split at h
         · cases h; exact ⟨_, rfl, rfl⟩
         · split at h
           · split at h
             · cases h; exact ⟨_, rfl, rfl⟩
             · cases h
           · cases h
         · cases h
       · cases h
     · cases h
   · cases h
 · cases h
theorem evAppendS_acc {ρ : Operand → Option AV} {σ σ' : Sto} {t u : TypeId} {x y : Operand} {v : AV} {acc : Acc} (h : evAppendS P ρ σ t u x y = some (.val v σ' acc)) : LocS acc σ σ' fun σ2 σ2' => evAppendS P ρ σ2 t u x y = some (.val v σ2' acc) := by
 have keep : ∀ σ2, evAppendS P ρ σ t u x y = some (.val v σ' .pure) → σ' = σ → acc = .pure → evAppendS P ρ σ2 t u x y = some (.val v σ2 acc) := by
  intro σ2 h1 h2 h3
  subst h3
  unfold evAppendS at h1 ⊢
  split at h1
  · split at h1
    · split at h1
      · rename_i hsz
        rw [if_pos hsz]
        split at h1
        · split at h1
          · rename_i h0; rw [if_pos h0]; cases h1; rfl
          · cases h1
        · split at h1
          · rename_i h0; simp only [if_pos h0]; cases h1; rfl
          · split at h1
            · split at h1
              · split at h1 <;> cases h1
              · split at h1 <;> cases h1
              · cases h1
            · cases h1
        · cases h1
      · cases h1
    · cases h1
  · cases h1
 have h' := h
 unfold evAppendS at h
 split at h
 · split at h
   · split at h
     · split at h
       · split at h
         · cases h; exact ⟨rfl, fun σ2 => keep σ2 h' rfl rfl⟩
         · cases h; exact ⟨_, rfl, rfl⟩
       · split at h
         · cases h; exact ⟨rfl, fun σ2 => keep σ2 h' rfl rfl⟩
         · split at h
           · split at h
             · split at h
               · cases h; exact ⟨_, rfl, rfl⟩
               · cases h
             · split at h
               · cases h; exact ⟨_, rfl, rfl⟩
               · cases h
             · cases h
           · cases h
       · cases h
     · cases h
   · cases h
 · cases h
theorem evMut_local {ρ ρ' : Operand → Option AV} {o : Oper} (h : ∀ x ∈ o.op.operands, ρ x = ρ' x) {σ σ' : Sto} {v : AV} {acc : Acc} (g : evMut P ρ σ o = some (.val v σ' acc)) : LocS acc σ σ' fun σ2 σ2' => evMut P ρ' σ2 o = some (.val v σ2' acc) := by
 have hc : ∀ σ2, evMut P ρ' σ2 o = evMut P ρ σ2 o := fun σ2 => (evMut_congr h σ2).symm
 simp only [hc]
 clear hc
 unfold evMut at g ⊢
 split at g
 · rename_i t len ps ho
   split at g
   · rename_i e l ht hl
     split at g
     · rename_i k z hk hz
       split at g
       · rename_i d hd
         split at g
         · rename_i hcond
           rw [Option.map_eq_some_iff] at g
           obtain ⟨cs, h1, h2⟩ := g
           cases h2
           exact ⟨_, rfl, rfl, fun σ2 h2 => by simp only [ho, ht, hl, hk, hz, hd, if_pos hcond, h1, Option.map_some, h2]⟩
         · cases g
       · cases g
     · cases g
   · cases g
 · rename_i t x y ho
   obtain ⟨v1, o1, h1, h2⟩ := evMake_val g
   cases h1
   exact ⟨_, rfl, rfl, fun σ2 h3 => by simp only [ho]; rw [h2 σ2, h3]⟩
 · split at g
   · split at g
     · split at g
       · exact evAppendM_acc g _
       · rename_i hl' _ htu
         have g' := evAppendS_acc g
         refine g'.mono fun a b hab => ?_
         simp_all
     · cases g
   · cases g
 · cases g
theorem evMem_enter {ρ : Operand → Option AV} {o : Oper} {σ : Sto} {f : FuncId} {args : List AV} (h : evMem P ρ σ o = some (.enter f args)) (σ2 : Sto) : evMem P ρ σ2 o = some (.enter f args) := by
 obtain ⟨d, op, ty, po, af, gu⟩ := o
 unfold evMem at h ⊢
 cases op
 case call c =>
  dsimp only at h ⊢
  split at h
  · split at h
    · split at h
      · unfold evAppend at h
        (repeat' split at h) <;> simp_all
      · cases h
    · cases h
  · split at h
    · unfold evLenM at h
      (repeat' split at h) <;> simp_all
    · cases h
  · exact h
  · cases h
 all_goals
  dsimp only at h
  try unfold evPut at h
  try unfold evGet at h
  try unfold evMk at h
  (repeat' split at h) <;> first | (cases h; done) | (simp at h; done) | (simp_all; done) | (obtain ⟨_, _, e⟩ := Option.map_eq_some_iff.1 h; cases e)
theorem evStep_enter {ρ : Operand → Option AV} {o : Oper} {σ : Sto} {f : FuncId} {args : List AV} (h : evStep P M ρ σ o = some (.enter f args)) (σ2 : Sto) : evStep P M ρ σ2 o = some (.enter f args) := by
 unfold evStep at h ⊢
 split at h
 · obtain ⟨v, σ', acc, e⟩ := evMut_val h
   cases e
 · rename_i hmu
   rw [if_neg hmu]
   split at h
   · cases h
   · rename_i hp
     split at h
     · rename_i s hl
       rcases evLit_state hl with ⟨v', e1, hall⟩ | ⟨v', e1, hall⟩ <;> (subst e1; cases h)
     · rename_i hl
       rw [evLit_none hl σ2]
       exact evMem_enter h σ2
theorem evOp_local {call : CallF} {ops : Array Oper} {o : Oper} {tm tm' : List AV} {acc : Acc} {σ σ' : Sto} (h : evOp P M call ops o tm σ = some (.inr (tm', acc), σ')) :
    ∃ v, tm' = putA tm o.dst v ∧ ∀ tm2 : List AV, (∀ t ∈ o.looksAt ops, tm2[t]? = tm[t]?) → evOp P M call ops o tm2 σ = some (.inr (putA tm2 o.dst v, acc), σ') ∧
     LocS acc σ σ' fun σ2 σ2' => evOp P M call ops o tm2 σ2 = some (.inr (putA tm2 o.dst v, acc), σ2') := by
 unfold evOp at h
 split at h
 · rename_i hw
   have lift : ∀ (tm2 : List AV), (∀ t ∈ o.looksAt ops, tm2[t]? = tm[t]?) → ∀ (σ2 σ2' : Sto) (v : AV), evStep P M (evx tm2) σ2 o = some (.val v σ2' acc) → evOp P M call ops o tm2 σ2 = some (.inr (putA tm2 o.dst v, acc), σ2') := by
    intro tm2 h2 σ2 σ2' v hs
    unfold evOp
    rw [wanted_congr h2, if_pos hw, hs]
   have liftS : ∀ (tm2 : List AV), (∀ t ∈ o.looksAt ops, tm2[t]? = tm[t]?) → ∀ (σ2 σ2' : Sto), evStep P M (evx tm2) σ2 o = some (.skip σ2' acc) → evOp P M call ops o tm2 σ2 = some (.inr (putA tm2 o.dst (.tup []), acc), σ2') := by
    intro tm2 h2 σ2 σ2' hs
    unfold evOp
    rw [wanted_congr h2, if_pos hw, hs]
   split at h
   · rename_i v σ1 acc' hs
     cases h
     refine ⟨v, rfl, fun tm2 h2 => ?_⟩
     have hc := evx_congr h2
     unfold evStep at hs
     by_cases hmu : mutOp M o = true
     · rw [if_pos hmu] at hs
       have upM : ∀ σ2 σ2', evMut P (evx tm2) σ2 o = some (.val v σ2' acc) → evStep P M (evx tm2) σ2 o = some (.val v σ2' acc) := fun σ2 σ2' g => by
        unfold evStep
        rw [if_pos hmu]; exact g
       refine ⟨lift tm2 h2 _ _ _ (upM _ _ ?_), (evMut_local hc hs).mono fun a b g => lift tm2 h2 _ _ _ (upM _ _ g)⟩
       rw [← evMut_congr hc]
       exact hs
     rw [if_neg hmu] at hs
     split at hs
     · rename_i v' hp
       cases hs
       have hall' : ∀ σ2, evStep P M (evx tm2) σ2 o = some (.val v σ2 .pure) := fun σ2 => by
        unfold evStep
        rw [if_neg hmu, ← evPure_congr hc, hp]
       exact ⟨lift tm2 h2 _ _ _ (hall' σ), rfl, fun σ2 => lift tm2 h2 _ _ _ (hall' σ2)⟩
     · rename_i hp
       split at hs
       · rename_i s hl
         rcases evLit_state hl with ⟨v', e1, hall⟩ | ⟨v', e1, hall⟩
         · subst e1
           cases hs
           have hall' : ∀ σ2, evStep P M (evx tm2) σ2 o = some (.val v σ2 .pure) := fun σ2 => by
            unfold evStep
            rw [if_neg hmu, ← evPure_congr hc, hp, ← evLit_congr hc, hall σ2]
           exact ⟨lift tm2 h2 _ _ _ (hall' σ), rfl, fun σ2 => lift tm2 h2 _ _ _ (hall' σ2)⟩
         · subst e1; cases hs
       · rename_i hl
         have up : ∀ σ2 σ2', evMem P (evx tm2) σ2 o = some (.val v σ2' acc) → evStep P M (evx tm2) σ2 o = some (.val v σ2' acc) := fun σ2 σ2' g => by
          unfold evStep
          rw [if_neg hmu, ← evPure_congr hc, hp, ← evLit_congr hc, evLit_none hl σ2]
          exact g
         refine ⟨lift tm2 h2 _ _ _ (up _ _ ?_), ((evMem_local hc).1 _ _ hs).mono fun a b g => lift tm2 h2 _ _ _ (up _ _ g)⟩
         rw [← hs]; exact (evMem_congr hc σ).symm
   · rename_i σ1 acc' hs
     cases h
     refine ⟨.tup [], rfl, fun tm2 h2 => ?_⟩
     have hc := evx_congr h2
     unfold evStep at hs
     by_cases hmu : mutOp M o = true
     · rw [if_pos hmu] at hs
       obtain ⟨v', σ', acc2, e1⟩ := evMut_val hs
       cases e1
     rw [if_neg hmu] at hs
     split at hs
     · cases hs
     · rename_i hp
       split at hs
       · rename_i s hl
         rcases evLit_state hl with ⟨v', e1, hall⟩ | ⟨v', e1, hall⟩
         · subst e1; cases hs
         · subst e1; cases hs
       · rename_i hl
         have up : ∀ σ2 σ2', evMem P (evx tm2) σ2 o = some (.skip σ2' acc) → evStep P M (evx tm2) σ2 o = some (.skip σ2' acc) := fun σ2 σ2' g => by
          unfold evStep
          rw [if_neg hmu, ← evPure_congr hc, hp, ← evLit_congr hc, evLit_none hl σ2]
          exact g
         refine ⟨liftS tm2 h2 _ _ (up _ _ ?_), ((evMem_local hc).2 _ hs).mono fun a b g => liftS tm2 h2 _ _ (up _ _ g)⟩
         rw [← hs]; exact (evMem_congr hc σ).symm
   · cases h
   · rename_i f args hs
     split at h
     · rename_i v σ1 hcall
       cases h
       refine ⟨v, rfl, fun tm2 h2 => ?_⟩
       have hc := evx_congr h2
       have hs' : ∀ σ2, evStep P M (evx tm2) σ2 o = some (.enter f args) := fun σ2 => by
        refine evStep_enter (σ := σ) ?_ σ2
        unfold evStep at hs ⊢
        rw [← evLit_congr hc, ← evPure_congr hc, ← evMem_congr hc, ← evMut_congr hc]
        exact hs
       refine ⟨?_, ?_⟩
       · unfold evOp
         rw [wanted_congr h2, if_pos hw, hs']
         simp only [hcall]
       · by_cases hb : locB call f args σ (.ret v) σ' = true
         · have hb' := hb
           unfold locB at hb'
           obtain ⟨b1, b2⟩ := @of_decide_eq_true _ (Classical.propDecidable _) hb'
           have ha : accC call f args σ (.ret v) σ' = .lcalls (keptB σ σ') := by unfold accC; rw [if_pos hb]
           rw [ha]
           refine ⟨b1, fun a h => keptB_to h, fun l => ?_⟩
           show evOp P M call ops o tm2 (σ ++ l) = _
           unfold evOp
           rw [wanted_congr h2, if_pos hw, hs']
           simp only [b2 l]
           have hb2 : locB call f args (σ ++ l) (.ret v) (σ' ++ l) = true := by
            unfold locB
            refine @decide_eq_true _ (Classical.propDecidable _) ⟨by simp [b1], fun l2 => ?_⟩
            rw [List.append_assoc, List.append_assoc]; exact b2 _
           have hk : keptB (σ ++ l) (σ' ++ l) = keptB σ σ' := by
            funext a
            unfold keptB
            refine decide_eq_decide.2 ?_
            rcases Nat.lt_or_ge a σ.length with hlt | hge
            · rw [List.getElem?_append_left hlt, List.getElem?_append_left (by omega)]
            · have e1 : σ'[a]? = none := List.getElem?_eq_none (by omega)
              have e2 : σ[a]? = none := List.getElem?_eq_none hge
              rw [List.getElem?_append_right hge, List.getElem?_append_right (by omega), b1, e1, e2]
              simp
           unfold accC
           rw [if_pos hb2, hk]
         · have ha : accC call f args σ (.ret v) σ' = .calls σ.length fun a => extB σ σ' || keptB σ σ' a := by unfold accC; rw [if_neg hb]
           rw [ha]
           exact ⟨rfl, fun a h hl => kept_to h hl⟩
     · cases h
     · cases h
   · cases h
 · rename_i hw
   cases h
   have hall : ∀ tm2 : List AV, (∀ t ∈ o.looksAt ops, tm2[t]? = tm[t]?) → ∀ σ2, evOp P M call ops o tm2 σ2 = some (.inr (putA tm2 o.dst (.tup []), .pure), σ2) := fun tm2 h2 σ2 => by
    unfold evOp
    rw [wanted_congr h2, if_neg hw]
   exact ⟨.tup [], rfl, fun tm2 h2 => ⟨hall tm2 h2 σ, rfl, fun σ2 => hall tm2 h2 σ2⟩⟩
end
end
end Go.Proofs.YtmmgjaheffbpaaaGreatDoor
