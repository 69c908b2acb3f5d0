/-
  EV, WHERE MORE THAN ONE END MAY BE: what every run comes to, as a predicate; straight to the model's own.
-/
import Derived.Test.YtocaickbfeaiaaaDoorEvSym
namespace Go.Proofs.YtocaickbfeaiaaaDoor
set_option linter.unusedSimpArgs false
set_option linter.unusedVariables false
open Go.RowKit

/-- what is to be shown: a call's ends, a piece of code's, a row of operations' -/
inductive Tk where
  | call (f : FuncId) (args : List AV) (σ : Sto) (Q : ARes → Sto → Prop)
  | code (M : List TypeId) (c : Code) (tm : List AV) (σ : Sto) (Q : AExit → List AV → Sto → Prop)
  | list (M : List TypeId) (ops : Array Oper) (l : List Oper) (tm : List AV) (σ : Sto) (Q : AExit → List AV → Sto → Prop)
  | any (M : List TypeId) (ops : Array Oper) (fuel : Nat) (listed : Array Bool) (tm : List AV) (σ : Sto) (Q : AExit → List AV → Sto → Prop)

/-- no call is let by -/
def noCall : CallF := fun _ _ _ => none

inductive J (P : Program) (E : Env) : Tk → Prop
  | callW {f : FuncId} {args : List AV} {σ : Sto} {Q : ARes → Sto → Prop} : CallW P E f args σ Q → J P E (.call f args σ Q)
  | callMono {f : FuncId} {args : List AV} {σ : Sto} {R Q : ARes → Sto → Prop} : J P E (.call f args σ R) → (∀ r σ', R r σ' → Q r σ') → J P E (.call f args σ Q)
  | body {f : FuncId} {fn : Func} {c : Code} {args : List AV} {σ : Sto} {Q : ARes → Sto → Prop} : E.code f = some fn → fn.body = some c → J P E (.code (E.ms f) c (args ++ List.replicate (fn.ntmps - args.length) (.tup [])) σ (bodyW P fn Q)) → J P E (.call f args σ Q)
  | nil {M : List TypeId} {ops : Array Oper} {tm : List AV} {σ : Sto} {Q : AExit → List AV → Sto → Prop} : Q .normal tm σ → J P E (.list M ops [] tm σ Q)
  | val {M : List TypeId} {ops : Array Oper} {o : Oper} {rest : List Oper} {tm : List AV} {σ σ' : Sto} {v : AV} {acc : Acc} {Q : AExit → List AV → Sto → Prop} : Region.wanted o (yieldedA ops tm) = true → evStep P M (evx tm) σ o = some (.val v σ' acc) → J P E (.list M ops rest (putA tm o.dst v) σ' Q) → J P E (.list M ops (o :: rest) tm σ Q)
  | skip {M : List TypeId} {ops : Array Oper} {o : Oper} {rest : List Oper} {tm : List AV} {σ σ' : Sto} {acc : Acc} {Q : AExit → List AV → Sto → Prop} : Region.wanted o (yieldedA ops tm) = true → evStep P M (evx tm) σ o = some (.skip σ' acc) → J P E (.list M ops rest (putA tm o.dst (.tup [])) σ' Q) → J P E (.list M ops (o :: rest) tm σ Q)
  | pan {M : List TypeId} {ops : Array Oper} {o : Oper} {rest : List Oper} {tm : List AV} {σ : Sto} {v : AV} {Q : AExit → List AV → Sto → Prop} : Region.wanted o (yieldedA ops tm) = true → evStep P M (evx tm) σ o = some (.pan v) → Q (.pan v) tm σ → J P E (.list M ops (o :: rest) tm σ Q)
  | enter {M : List TypeId} {ops : Array Oper} {o : Oper} {rest : List Oper} {tm : List AV} {σ : Sto} {f : FuncId} {args : List AV} {R : ARes → Sto → Prop} {Q : AExit → List AV → Sto → Prop} : Region.wanted o (yieldedA ops tm) = true → evStep P M (evx tm) σ o = some (.enter f args) → J P E (.call f args σ R) →
      (∀ v σ', R (.ret v) σ' → J P E (.list M ops rest (putA tm o.dst v) σ' Q)) → (∀ v σ', R (.pan v) σ' → Q (.pan v) tm σ') → J P E (.list M ops (o :: rest) tm σ Q)
  | unwanted {M : List TypeId} {ops : Array Oper} {o : Oper} {rest : List Oper} {tm : List AV} {σ : Sto} {Q : AExit → List AV → Sto → Prop} : ¬ Region.wanted o (yieldedA ops tm) = true → J P E (.list M ops rest (putA tm o.dst (.tup [])) σ Q) → J P E (.list M ops (o :: rest) tm σ Q)
  | cw {M : List TypeId} {c : Code} {tm : List AV} {σ : Sto} {Q : AExit → List AV → Sto → Prop} : CW P E M c tm σ Q → J P E (.code M c tm σ Q)
  | region {M : List TypeId} {id : Nat} {ops : Array Oper} {tm : List AV} {σ : Sto} {Q : AExit → List AV → Sto → Prop} : J P E (.list M ops ops.toList tm σ Q) → J P E (.code M (.region id ops false) tm σ Q)
  | seq {M : List TypeId} {a b : Code} {tm : List AV} {σ : Sto} {R Q : AExit → List AV → Sto → Prop} : J P E (.code M a tm σ R) → (∀ tm1 σ1, R .normal tm1 σ1 → J P E (.code M b tm1 σ1 Q)) → (∀ x tm1 σ1, x ≠ .normal → R x tm1 σ1 → Q x tm1 σ1) → J P E (.code M (.seq a b) tm σ Q)
  | cond {M : List TypeId} {c : Operand} {a b : Code} {t : Bool} {tm : List AV} {σ : Sto} {Q : AExit → List AV → Sto → Prop} : evx tm c = some (.lit (.bool t)) → J P E (.code M (if t then a else b) tm σ Q) → J P E (.code M (.cond c a b) tm σ Q)
  | block {M : List TypeId} {id : Nat} {a : Code} {tm : List AV} {σ : Sto} {Q : AExit → List AV → Sto → Prop} : J P E (.code M a tm σ (outOf id Q)) → J P E (.code M (.block id a) tm σ Q)
  | scope {M : List TypeId} {a : Code} {tm : List AV} {σ : Sto} {Q : AExit → List AV → Sto → Prop} : J P E (.code M a tm σ Q) → J P E (.code M (.scope a) tm σ Q)
  | loop {M : List TypeId} {a : Code} {k : Nat} {tm : List AV} {σ : Sto} {Q : AExit → List AV → Sto → Prop} (I : Nat → List AV → Sto → Prop) : (∀ k tm σ, I k tm σ → J P E (.code M a tm σ (andThen (fun tm1 σ1 => ∃ k', k' < k ∧ I k' tm1 σ1) Q))) → I k tm σ → J P E (.code M (.loop a) tm σ Q)
  | anyRegion {M : List TypeId} {id : Nat} {ops : Array Oper} {tm : List AV} {σ : Sto} {Q : AExit → List AV → Sto → Prop} : J P E (.any M ops ops.size (Array.replicate ops.size false) tm σ Q) → J P E (.code M (.region id ops true) tm σ Q)
  | anyDone {M : List TypeId} {ops : Array Oper} {fuel : Nat} {listed : Array Bool} {tm : List AV} {σ : Sto} {Q : AExit → List AV → Sto → Prop} : Region.ready .any ops listed = [] → Q .normal tm σ → J P E (.any M ops fuel listed tm σ Q)
  | anyStep {M : List TypeId} {ops : Array Oper} {fuel : Nat} {listed : Array Bool} {tm : List AV} {σ : Sto} {Q : AExit → List AV → Sto → Prop} (rs : List Nat) (o : Nat → Oper) (acc : Nat → Acc) (tm' : Nat → List AV) (σ' : Nat → Sto) : Region.ready .any ops listed = rs → rs ≠ [] → (∀ i ∈ rs, ops[i]? = some (o i)) →
      (∀ i ∈ rs, evOp P M noCall ops (o i) tm σ = some (.inr (tm' i, acc i), σ' i)) → (∀ i ∈ rs, J P E (.any M ops fuel (listed.setIfInBounds i true) (tm' i) (σ' i) Q)) → J P E (.any M ops (fuel + 1) listed tm σ Q)

/-- .. and what it says of the model -/
def Tells (P : Program) : Tk → Prop
  | .call f args σ Q => ∀ (ι : List Nat) (Z : Nat → Nat → Prop) (w : World) (us : Array Value), Match σ ι Z w → args.length = us.size → (∀ (i : Nat) (d : AV) (u : Value), args[i]? = some d → us[i]? = some u → VR ι Z w d u) →
      (callFunc f us).run P w = .ok (.enter f us) w ∧ Calls P f us w fun e w' => ∃ r σ' ι' Z', Q r σ' ∧ Evo ι Z w ι' Z' w' ∧ Match σ' ι' Z' w' ∧ ERel ι' Z' w' r e
  | .code _ c tm σ Q => ∀ (ι : List Nat) (Z : Nat → Nat → Prop) (w : World) (a : Act), Match σ ι Z w → FR ι Z w tm a.tmps → ∀ K : Exit → Act → World → Prop, (∀ x tm' σ' e a' w', Q x tm' σ' → Ends ι Z w a x tm' σ' e a' w' → K e a' w') → c.wp P K a w
  | .list _ ops l tm σ Q => ∀ (k : Nat), (∀ (j : Nat) (o : Oper), l[j]? = some o → ops[k + j]? = some o) → ∀ (ι : List Nat) (Z : Nat → Nat → Prop) (w : World) (a : Act), Match σ ι Z w → FR ι Z w tm a.tmps → ∀ K : Exit → Act → World → Prop, (∀ x tm' σ' e a' w', Q x tm' σ' → Ends ι Z w a x tm' σ' e a' w' → K e a' w') → wpOps P ops K (List.range' k l.length) a w
  | .any _ ops fuel listed tm σ Q => ∀ (ι : List Nat) (Z : Nat → Nat → Prop) (w : World) (a : Act), Match σ ι Z w → FR ι Z w tm a.tmps → ∀ K : Exit → Act → World → Prop, (∀ x tm' σ' e a' w', Q x tm' σ' → Ends ι Z w a x tm' σ' e a' w' → K e a' w') → wpAny P .any ops K fuel listed a w

theorem wpOps_cons {P : Program} {ops : Array Oper} {K : Exit → Act → World → Prop} {i : Nat} {o : Oper} {rest : List Nat} {a : Act} {w : World} (ho : ops[i]? = some o) (h : if Region.wanted o (yielded ops a.tmps) then o.wp P a w (wpOps P ops K rest) K else wpOps P ops K rest (a.put o.dst undef) w) : wpOps P ops K (i :: rest) a w := by
  rw [wpOps]
  simp only [ho]
  split
  · rename_i hw; rw [if_pos hw] at h; exact .inl h
  · rename_i hw; rw [if_neg hw] at h; exact h

theorem J.tells {P : Program} {E : Env} (hm : P.follows .mixedOrders = true) (hE : EnvOk P E) {t : Tk} (h : J P E t) : Tells P t := by
  have step : ∀ {M : List TypeId} {ops : Array Oper} {o : Oper} {rest : List Oper} {tm tm' : List AV} {σ σ' : Sto} {Q : AExit → List AV → Sto → Prop}, (Region.wanted o (yieldedA ops tm) = true → (∃ v acc, tm' = putA tm o.dst v ∧ evStep P M (evx tm) σ o = some (.val v σ' acc)) ∨ (∃ acc, tm' = putA tm o.dst (.tup []) ∧ evStep P M (evx tm) σ o = some (.skip σ' acc))) →
      (¬ Region.wanted o (yieldedA ops tm) = true → tm' = putA tm o.dst (.tup []) ∧ σ' = σ) → Tells P (.list M ops rest tm' σ' Q) → Tells P (.list M ops (o :: rest) tm σ Q) := by
    intro M ops o rest tm tm' σ σ' Q h1 h2 ih k hk ι Z w a hM hF K hK
    have ho : ops[k]? = some o := by simpa using hk 0 o rfl
    rw [List.length_cons, List.range'_succ]
    refine wpOps_cons ho ?_
    have go : ∀ ι' Z' w' a', After ι Z w a tm' σ' ι' Z' w' a' → wpOps P ops K (List.range' (k + 1) rest.length) a' w' := by
      intro ι' Z' w' a' ha
      exact ih (k + 1) (fun j q hj => by have := hk (j + 1) q (by simpa using hj); rw [show k + 1 + j = k + (j + 1) by omega]; exact this) ι' Z' w' a' ha.2.1 ha.2.2.1 K fun x tm2 σ2 e a2 w2 hq hx => hK x tm2 σ2 e a2 w2 hq (Ends.start ha hx)
    have hev : ∃ acc, evOp P M (evCall P E 0) ops o tm σ = some (.inr (tm', acc), σ') := by
      unfold evOp
      by_cases hw : Region.wanted o (yieldedA ops tm) = true
      · rw [if_pos hw]
        rcases h1 hw with ⟨v, acc, rfl, hs⟩ | ⟨acc, rfl, hs⟩
        · exact ⟨acc, by rw [hs]⟩
        · exact ⟨acc, by rw [hs]⟩
      · rw [if_neg hw]
        obtain ⟨rfl, rfl⟩ := h2 hw
        exact ⟨.pure, rfl⟩
    obtain ⟨acc, hev⟩ := hev
    exact evOp_sound (evCall_sound hm hE 0) hev hM hF _ _ (fun tm1 acc1 hr ι' Z' w' a' ha => by cases hr; exact go ι' Z' w' a' ha) (fun v hr => by cases hr)
  induction h with
  | callW h =>
    intro ι Z w us hM hl ha
    obtain ⟨r, σ', N, h1, h2⟩ := h
    have := evCall_sound hm hE N _ _ _ _ _ (h1 N (Nat.le_refl _)) ι Z w us hM hl ha
    exact ⟨this.1, this.2.mono fun e w' ⟨ι', Z', e1, m1, x1⟩ => ⟨r, σ', ι', Z', h2, e1, m1, x1⟩⟩
  | callMono h hq ih =>
    intro ι Z w us hM hl ha
    obtain ⟨h1, h2⟩ := ih ι Z w us hM hl ha
    exact ⟨h1, h2.mono fun e w' ⟨r, σ', ι', Z', g1, g2⟩ => ⟨r, σ', ι', Z', hq _ _ g1, g2⟩⟩
  | @body f fn c args σ Q hf hc h ih =>
    intro ι Z w us hM hlen hargs
    obtain ⟨hP, hrun⟩ := hE.code f fn hf
    refine ⟨hrun us w, calls_of_wp hP hc ?_⟩
    have hF : FR ι Z w (args ++ List.replicate (fn.ntmps - args.length) (.tup [])) (us ++ Array.replicate (fn.ntmps - us.size) undef) := by
      refine ⟨by simp [hlen], fun i d u hd hu => ?_⟩
      rcases Nat.lt_or_ge i args.length with hl | hl
      · rw [List.getElem?_append_left hl] at hd
        rw [Array.getElem?_append_left (by omega)] at hu
        exact hargs i d u hd hu
      · rw [List.getElem?_append_right hl] at hd
        rw [Array.getElem?_append_right (by omega)] at hu
        have h1 := (List.mem_replicate.1 (List.mem_of_getElem? hd)).2
        have h2 : u = undef := (Array.mem_replicate.1 (Array.mem_of_getElem? hu)).2
        subst h1; subst h2
        exact undef_rel
    refine ih ι Z w { tmps := us ++ Array.replicate (fn.ntmps - us.size) undef, defers := [] } hM hF _ fun x tm' σ' e a' w' hq hEnd => ?_
    obtain ⟨ι', Z', ⟨e1, m1, f1, d1⟩, hxr⟩ := hEnd
    cases x with
    | normal =>
      obtain ⟨v, hv, hQ⟩ := hq
      cases hxr
      obtain ⟨u, g1, g2⟩ := results_rel m1 f1 hv
      exact ⟨d1, u, g1, .ret v, σ', ι', Z', hQ, e1, m1, u, rfl, g2⟩
    | ret =>
      obtain ⟨v, hv, hQ⟩ := hq
      cases hxr
      obtain ⟨u, g1, g2⟩ := results_rel m1 f1 hv
      exact ⟨d1, u, g1, .ret v, σ', ι', Z', hQ, e1, m1, u, rfl, g2⟩
    | pan v =>
      obtain ⟨u, rfl, hv⟩ := hxr
      exact ⟨d1, .pan v, σ', ι', Z', hq, e1, m1, u, rfl, hv⟩
    | exit id => exact hq.elim
  | nil hq =>
    intro k hk ι Z w a hM hF K hK
    exact hK _ _ _ _ _ _ hq ⟨ι, Z, ⟨.refl _ _ _, hM, hF, rfl⟩, rfl⟩
  | val hw hs h ih => exact step (fun _ => .inl ⟨_, _, rfl, hs⟩) (fun hn => (hn hw).elim) ih
  | skip hw hs h ih => exact step (fun _ => .inr ⟨_, rfl, hs⟩) (fun hn => (hn hw).elim) ih
  | unwanted hw h ih => exact step (fun hn => (hw hn).elim) (fun _ => ⟨rfl, rfl⟩) ih
  | @pan M ops o rest tm σ v Q hw hs hq =>
    intro k hk ι Z w a hM hF K hK
    have ho : ops[k]? = some o := by simpa using hk 0 o rfl
    rw [List.length_cons, List.range'_succ]
    refine wpOps_cons ho ?_
    have hev : evOp P M (evCall P E 0) ops o tm σ = some (.inl v, σ) := by unfold evOp; rw [if_pos hw, hs]
    exact evOp_sound (evCall_sound hm hE 0) hev hM hF _ _ (fun tm1 acc1 hr => by cases hr) (fun v' hr ι' Z' w' a' u ha hv => by
      cases hr
      exact hK _ _ _ _ _ _ hq ⟨ι', Z', ha, u, rfl, hv⟩)
  | @enter M ops o rest tm σ f args R Q hw hs h hr hp ih ihr =>
    intro k hk ι Z w a hM hF K hK
    have ho : ops[k]? = some o := by simpa using hk 0 o rfl
    rw [List.length_cons, List.range'_succ]
    refine wpOps_cons ho ?_
    rw [← yielded_rel hF ops, if_pos hw]
    obtain ⟨us, h1, h2, h3⟩ := evStep_sound (r := a.eval) (fun x d hx => evx_rel hF x d hx) hM hs
    unfold Oper.wp
    rw [h1]
    obtain ⟨g1, g2⟩ := ih ι Z w us hM h2 h3
    rw [g1]
    refine g2.mono ?_
    rintro e w' ⟨r, σ', ι', Z', hR, e1, m1, hx⟩
    cases r with
    | ret v =>
      obtain ⟨u, rfl, hv⟩ := hx
      have ha : After ι Z w a (putA tm o.dst v) σ' ι' Z' w' (a.put o.dst u) := ⟨e1, m1, (hF.evo e1).put _ hv, Act.put_defers' _ _ _⟩
      exact ihr v σ' hR (k + 1) (fun j q hj => by have := hk (j + 1) q (by simpa using hj); rw [show k + 1 + j = k + (j + 1) by omega]; exact this) ι' Z' w' _ m1 ha.2.2.1 K fun x tm2 σ2 e a2 w2 hq hx => hK x tm2 σ2 e a2 w2 hq (Ends.start ha hx)
    | pan v =>
      obtain ⟨u, rfl, hv⟩ := hx
      exact hK _ _ _ _ _ _ (hp v σ' hR) ⟨ι', Z', ⟨e1, m1, hF.evo e1, rfl⟩, u, rfl, hv⟩
  | cw h =>
    intro ι Z w a hM hF K hK
    obtain ⟨x, tm', σ', N, h1, h2⟩ := h
    exact evCode_sound hm (evCall_sound hm hE N) N _ (h1 N N (Nat.le_refl _) (Nat.le_refl _)) hM hF K fun e a' w' hx => hK x tm' σ' e a' w' h2 hx
  | region h ih =>
    intro ι Z w a hM hF K hK
    refine wp_region ?_
    rw [List.range_eq_range']
    have := ih 0 (fun j o hj => by rw [Nat.zero_add]; simpa using hj) ι Z w a hM hF K hK
    simpa using this
  | seq h hn hx ih ihn =>
    intro ι Z w a hM hF K hK
    refine wp_seq (ih ι Z w a hM hF _ fun x tm' σ' e a' w' hq hE => ?_)
    cases x with
    | normal =>
      obtain ⟨ι1, Z1, ha, hxr⟩ := hE
      cases hxr
      exact ihn tm' σ' hq ι1 Z1 w' a' ha.2.1 ha.2.2.1 K fun x tm2 σ2 e a2 w2 hq hx => hK x tm2 σ2 e a2 w2 hq (Ends.start ha hx)
    | exit id => have h1 := hK _ _ _ _ _ _ (hx _ _ _ (by simp) hq) hE; obtain ⟨_, _, _, hxr⟩ := hE; cases hxr; exact h1
    | ret => have h1 := hK _ _ _ _ _ _ (hx _ _ _ (by simp) hq) hE; obtain ⟨_, _, _, hxr⟩ := hE; cases hxr; exact h1
    | pan v => have h1 := hK _ _ _ _ _ _ (hx _ _ _ (by simp) hq) hE; obtain ⟨_, _, _, u, rfl, _⟩ := hE; exact h1
  | @cond M c a b t tm σ Q hc h ih =>
    intro ι Z w a hM hF K hK
    have hv := evx_rel hF c _ hc
    have he : a.eval c = .bool t := by generalize a.eval c = u at hv; cases hv; rfl
    exact wp_cond he (ih ι Z w a hM hF K hK)
  | @block M id a tm σ Q h ih =>
    intro ι Z w a hM hF K hK
    refine wp_block (ih ι Z w a hM hF _ fun x tm' σ' e a' w' hq hE => ?_)
    cases x with
    | exit id' =>
      obtain ⟨ι1, Z1, ha, hxr⟩ := hE
      cases hxr
      simp only [Exit.inBlock]
      simp only [outOf] at hq
      split
      · rename_i hid
        rw [if_pos hid] at hq
        exact hK _ _ _ _ _ _ hq ⟨ι1, Z1, ha, rfl⟩
      · rename_i hid
        rw [if_neg hid] at hq
        exact hK _ _ _ _ _ _ hq ⟨ι1, Z1, ha, rfl⟩
    | normal => have h1 := hK _ _ _ _ _ _ hq hE; obtain ⟨_, _, _, hxr⟩ := hE; cases hxr; exact h1
    | ret => have h1 := hK _ _ _ _ _ _ hq hE; obtain ⟨_, _, _, hxr⟩ := hE; cases hxr; exact h1
    | pan v => have h1 := hK _ _ _ _ _ _ hq hE; obtain ⟨_, _, _, u, rfl, _⟩ := hE; exact h1
  | scope h ih =>
    intro ι Z w a hM hF K hK
    refine wp_scope_straight (ih ι Z w a hM hF _ fun x tm' σ' e a' w' hq hE => ?_)
    have h1 := hK _ _ _ _ _ _ hq hE
    obtain ⟨_, _, _, hxr⟩ := hE
    cases x with
    | normal => cases hxr; exact h1
    | exit id => cases hxr; exact h1
    | ret => cases hxr; exact h1
    | pan v => obtain ⟨u, rfl, _⟩ := hxr; exact h1
  | @loop M b k tm σ Q I hround hI ih =>
    intro ι Z w a hM hF K hK
    refine wp_loop_ghost (fun m a1 w1 => ∃ tm1 σ1 ι1 Z1, I m tm1 σ1 ∧ After ι Z w a tm1 σ1 ι1 Z1 w1 a1) k ⟨tm, σ, ι, Z, hI, .refl _ _ _, hM, hF, rfl⟩ ?_
    rintro m a1 w1 ⟨tm1, σ1, ι1, Z1, hI1, ha⟩
    refine ih m tm1 σ1 hI1 ι1 Z1 w1 a1 ha.2.1 ha.2.2.1 _ fun x tm' σ' e a' w' hq hE => ?_
    cases x with
    | normal =>
      obtain ⟨ι2, Z2, hb, hxr⟩ := hE
      cases hxr
      obtain ⟨k', hk', hI'⟩ := hq
      exact ⟨k', hk', tm', σ', ι2, Z2, hI', ha.1.trans hb.1, hb.2.1, hb.2.2.1, hb.2.2.2.trans ha.2.2.2⟩
    | exit id => have h2 := hK _ _ _ _ _ _ hq (Ends.start ha hE); obtain ⟨_, _, _, hxr⟩ := hE; cases hxr; exact h2
    | ret => have h2 := hK _ _ _ _ _ _ hq (Ends.start ha hE); obtain ⟨_, _, _, hxr⟩ := hE; cases hxr; exact h2
    | pan v => have h2 := hK _ _ _ _ _ _ hq (Ends.start ha hE); obtain ⟨_, _, _, u, rfl, _⟩ := hE; exact h2
  | anyRegion h ih =>
    intro ι Z w a hM hF K hK
    refine wp_region_any hm ?_
    have hwd : After ι Z w a _ _ ι Z { w with drawn := w.drawn + 1 } a := ⟨Evo.drew ι Z w, hM.drew, hF.evo (Evo.drew ι Z w), rfl⟩
    exact ih ι Z _ a hwd.2.1 hwd.2.2.1 K fun x tm2 σ2 e a2 w2 hq hx => hK x tm2 σ2 e a2 w2 hq (Ends.start hwd hx)
  | anyDone hr hq =>
    intro ι Z w a hM hF K hK
    exact wpAny_done hr (hK _ _ _ _ _ _ hq ⟨ι, Z, ⟨.refl _ _ _, hM, hF, rfl⟩, rfl⟩) _
  | @anyStep M ops fuel listed tm σ Q rs o acc tm' σ' hr hne ho hev h ih =>
    intro ι Z w a hM hF K hK
    refine wpAny_all hr hne fun i hi => ?_
    unfold wpOp
    rw [ho i hi]
    dsimp only
    have hno : CallSound P noCall := fun f args σ r σ' h => by cases h
    have := evOp_sound hno (hev i hi) hM hF (wpAny P .any ops K fuel (listed.setIfInBounds i true)) K (fun tm1 acc1 hr1 ι' Z' w' a' ha => by
      cases hr1
      exact ih i hi ι' Z' w' a' ha.2.1 ha.2.2.1 K fun x tm2 σ2 e a2 w2 hq hx => hK x tm2 σ2 e a2 w2 hq (Ends.start ha hx)) (fun v hr1 => by cases hr1)
    split
    · rename_i hw; rw [if_pos hw] at this; exact .inl this
    · rename_i hw; rw [if_neg hw] at this; exact this

end Go.Proofs.YtocaickbfeaiaaaDoor
