/-
 EV, WHERE MORE THAN ONE END MAY BE: what every run comes to, as a predicate; straight to the model's own.
-/
import Derived.Test.YteajcnilihgheaaGreatDoorEvSymM
import Derived.Test.YteajcnilihgheaaGreatDoorEvTyM
namespace Go.Proofs.YteajcnilihgheaaGreatDoor
set_option linter.unusedSimpArgs false
set_option linter.unusedVariables false
section
open Go.RowKit
inductive Tk where
 | call (f : FuncId) (args : List AV) (σ : Sto) (Q : ARes → Sto → Prop)
 | code (M : List TypeId) (c : Code) (tm : List AV) (σ : Sto) (Q : AExit → List AV → Sto → Prop)
 | list (M : List TypeId) (ops : Array Oper) (l : List Oper) (tm : List AV) (σ : Sto) (Q : AExit → List AV → Sto → Prop)
 | any (M : List TypeId) (ops : Array Oper) (fuel : Nat) (listed : Array Bool) (tm : List AV) (σ : Sto) (Q : AExit → List AV → Sto → Prop)
def noCall : CallF := fun _ _ _ => none
structure StepD where
 o : Oper
 tm : List AV
 σ : Sto
 acc : Acc
 f : FuncId
 args : List AV
 R : ARes → Sto → Prop
inductive J (P : Program) (E : Env) : Tk → Prop
 | callW {f : FuncId} {args : List AV} {σ : Sto} {Q : ARes → Sto → Prop} : CallW P E f args σ Q → J P E (.call f args σ Q)
 | callMono {f : FuncId} {args : List AV} {σ : Sto} {R Q : ARes → Sto → Prop} : J P E (.call f args σ R) → (∀ r σ', R r σ' → Q r σ') → J P E (.call f args σ Q)
 | callNrm {f : FuncId} {args : List AV} {σ : Sto} {R Q : ARes → Sto → Prop} : J P E (.call f (nrmR args) σ R) → (∀ v σ', R (.ret v) σ' → Q (.ret v.nrm) σ') → (∀ v σ', R (.pan v) σ' → Q (.pan v) σ') → J P E (.call f args σ Q)
 | body {f : FuncId} {fn : Func} {c : Code} {args : List AV} {σ : Sto} {Q : ARes → Sto → Prop} : E.code f = some fn → fn.body = some c → J P E (.code (E.ms f) c (args ++ List.replicate (fn.ntmps - args.length) (.tup [])) σ (bodyW P fn Q)) → J P E (.call f args σ Q)
 | nil {M : List TypeId} {ops : Array Oper} {tm : List AV} {σ : Sto} {Q : AExit → List AV → Sto → Prop} : Q .normal tm σ → J P E (.list M ops [] tm σ Q)
 | val {M : List TypeId} {ops : Array Oper} {o : Oper} {rest : List Oper} {tm : List AV} {σ σ' : Sto} {v : AV} {acc : Acc} {Q : AExit → List AV → Sto → Prop} : Region.wanted o (yieldedA ops tm) = true → evStep P M (evx tm) σ o = some (.val v σ' acc) → J P E (.list M ops rest (putA tm o.dst v) σ' Q) → J P E (.list M ops (o :: rest) tm σ Q)
 | skip {M : List TypeId} {ops : Array Oper} {o : Oper} {rest : List Oper} {tm : List AV} {σ σ' : Sto} {acc : Acc} {Q : AExit → List AV → Sto → Prop} : Region.wanted o (yieldedA ops tm) = true → evStep P M (evx tm) σ o = some (.skip σ' acc) → J P E (.list M ops rest (putA tm o.dst (.tup [])) σ' Q) → J P E (.list M ops (o :: rest) tm σ Q)
 | pan {M : List TypeId} {ops : Array Oper} {o : Oper} {rest : List Oper} {tm : List AV} {σ : Sto} {v : AV} {Q : AExit → List AV → Sto → Prop} : Region.wanted o (yieldedA ops tm) = true → evStep P M (evx tm) σ o = some (.pan v) → Q (.pan v) tm σ → J P E (.list M ops (o :: rest) tm σ Q)
 | enter {M : List TypeId} {ops : Array Oper} {o : Oper} {rest : List Oper} {tm : List AV} {σ : Sto} {f : FuncId} {args : List AV} {R : ARes → Sto → Prop} {Q : AExit → List AV → Sto → Prop} : Region.wanted o (yieldedA ops tm) = true → evStep P M (evx tm) σ o = some (.enter f args) → J P E (.call f args σ R) →
     (∀ v σ', R (.ret v) σ' → J P E (.list M ops rest (putA tm o.dst v) σ' Q)) → (∀ v σ', R (.pan v) σ' → Q (.pan v) tm σ') → J P E (.list M ops (o :: rest) tm σ Q)
 | unwanted {M : List TypeId} {ops : Array Oper} {o : Oper} {rest : List Oper} {tm : List AV} {σ : Sto} {Q : AExit → List AV → Sto → Prop} : ¬ Region.wanted o (yieldedA ops tm) = true → J P E (.list M ops rest (putA tm o.dst (.tup [])) σ Q) → J P E (.list M ops (o :: rest) tm σ Q)
 | nilCmp {M : List TypeId} {ops : Array Oper} {d : Option Tmp} {t e u ty : TypeId} {x : Operand} {po : String} {af : Array Edge} {rest : List Oper} {tm : List AV} {σ : Sto} {es : List (List AV)} {tok : Tok} {Q : AExit → List AV → Sto → Prop} : P.underlying t = some (.slice e) → evx tm x = some (.sl es tok) →
     (∀ b : Bool, (es ≠ [] → b = false) → J P E (.list M ops rest (putA tm d (.lit (.bool b))) σ Q)) → J P E (.list M ops (⟨d, .binOp .eql t x (.const (.slice none 0 0)) u, ty, po, af, none⟩ :: rest) tm σ Q)
 | cw {M : List TypeId} {c : Code} {tm : List AV} {σ : Sto} {Q : AExit → List AV → Sto → Prop} : CW P E M c tm σ Q → J P E (.code M c tm σ Q)
 | region {M : List TypeId} {id : Nat} {ops : Array Oper} {tm : List AV} {σ : Sto} {Q : AExit → List AV → Sto → Prop} : J P E (.list M ops ops.toList tm σ Q) → J P E (.code M (.region id ops false) tm σ Q)
 | seq {M : List TypeId} {a b : Code} {tm : List AV} {σ : Sto} {R Q : AExit → List AV → Sto → Prop} : J P E (.code M a tm σ R) → (∀ tm1 σ1, R .normal tm1 σ1 → J P E (.code M b tm1 σ1 Q)) → (∀ x tm1 σ1, x ≠ .normal → R x tm1 σ1 → Q x tm1 σ1) → J P E (.code M (.seq a b) tm σ Q)
 | cond {M : List TypeId} {c : Operand} {a b : Code} {t : Bool} {tm : List AV} {σ : Sto} {Q : AExit → List AV → Sto → Prop} : evx tm c = some (.lit (.bool t)) → J P E (.code M (if t then a else b) tm σ Q) → J P E (.code M (.cond c a b) tm σ Q)
 | block {M : List TypeId} {id : Nat} {a : Code} {tm : List AV} {σ : Sto} {Q : AExit → List AV → Sto → Prop} : J P E (.code M a tm σ (outOf id Q)) → J P E (.code M (.block id a) tm σ Q)
 | scope {M : List TypeId} {a : Code} {tm : List AV} {σ : Sto} {Q : AExit → List AV → Sto → Prop} : J P E (.code M a tm σ Q) → J P E (.code M (.scope a) tm σ Q)
 | loop {M : List TypeId} {a : Code} {k : Nat} {tm : List AV} {σ : Sto} {Q : AExit → List AV → Sto → Prop} (I : Nat → List AV → Sto → Prop) : (∀ k tm σ, I k tm σ → J P E (.code M a tm σ (andThen (fun tm1 σ1 => ∃ k', k' < k ∧ I k' tm1 σ1) Q))) → I k tm σ → J P E (.code M (.loop a) tm σ Q)
 | anyRegion {M : List TypeId} {id : Nat} {ops : Array Oper} {tm : List AV} {σ : Sto} {Q : AExit → List AV → Sto → Prop} : J P E (.any M ops ops.size (Array.replicate ops.size false) tm σ Q) → J P E (.code M (.region id ops true) tm σ Q)
 | anyDone {M : List TypeId} {ops : Array Oper} {fuel : Nat} {listed : Array Bool} {tm : List AV} {σ : Sto} {Q : AExit → List AV → Sto → Prop} : Region.ready .any ops listed = [] → Q .normal tm σ → J P E (.any M ops fuel listed tm σ Q)
 | anyStep {M : List TypeId} {ops : Array Oper} {fuel : Nat} {listed : Array Bool} {tm : List AV} {σ : Sto} {Q : AExit → List AV → Sto → Prop} (rs : List Nat) (o : Nat → Oper) (acc : Nat → Acc) (tm' : Nat → List AV) (σ' : Nat → Sto) : Region.ready .any ops listed = rs → rs ≠ [] → (∀ i ∈ rs, ops[i]? = some (o i)) →
     (∀ i ∈ rs, evOp P M noCall ops (o i) tm σ = some (.inr (tm' i, acc i), σ' i)) → (∀ i ∈ rs, J P E (.any M ops fuel (listed.setIfInBounds i true) (tm' i) (σ' i) Q)) → J P E (.any M ops (fuel + 1) listed tm σ Q)
 | anyStepC {M : List TypeId} {ops : Array Oper} {fuel : Nat} {listed : Array Bool} {tm : List AV} {σ : Sto} {Q : AExit → List AV → Sto → Prop} (rs : List Nat) (cl : Nat → Bool) (D : Nat → StepD) : Region.ready .any ops listed = rs → rs ≠ [] → (∀ i ∈ rs, ops[i]? = some (D i).o) →
     (∀ i ∈ rs, cl i = false → evOp P M noCall ops (D i).o tm σ = some (.inr ((D i).tm, (D i).acc), (D i).σ)) → (∀ i ∈ rs, cl i = false → J P E (.any M ops fuel (listed.setIfInBounds i true) (D i).tm (D i).σ Q)) →
     (∀ i ∈ rs, cl i = true → Region.wanted (D i).o (yieldedA ops tm) = true ∧ evStep P M (evx tm) σ (D i).o = some (.enter (D i).f (D i).args)) → (∀ i ∈ rs, cl i = true → J P E (.call (D i).f (D i).args σ (D i).R)) →
     (∀ i ∈ rs, cl i = true → ∀ v σ', (D i).R (.ret v) σ' → J P E (.any M ops fuel (listed.setIfInBounds i true) (putA tm (D i).o.dst v) σ' Q)) → (∀ i ∈ rs, cl i = true → ∀ v σ', ¬ (D i).R (.pan v) σ') → J P E (.any M ops (fuel + 1) listed tm σ Q)
def Tells (P : Program) : Tk → Prop
 | .call f args σ Q => ∀ (ι : List Nat) (Z : Nat → Nat → Prop) (w : World) (us : Array Value), Match σ ι Z w → args.length = us.size → (∀ (i : Nat) (d : AV) (u : Value), args[i]? = some d → us[i]? = some u → VR ι Z w d u) →
     (callFunc f us).run P w = .ok (.enter f us) w ∧ Calls P f us w fun e w' => ∃ r σ' ι' Z', Q r σ' ∧ Evo ι Z w ι' Z' w' ∧ Match σ' ι' Z' w' ∧ ERel ι' Z' w' r e
 | .code _ c tm σ Q => ∀ (ι : List Nat) (Z : Nat → Nat → Prop) (w : World) (a : Act), Match σ ι Z w → FR ι Z w tm a.tmps → ∀ K : Exit → Act → World → Prop, (∀ x tm' σ' e a' w', Q x tm' σ' → Ends ι Z w a x tm' σ' e a' w' → K e a' w') → c.wp P K a w
 | .list _ ops l tm σ Q => ∀ (k : Nat), (∀ (j : Nat) (o : Oper), l[j]? = some o → ops[k + j]? = some o) → ∀ (ι : List Nat) (Z : Nat → Nat → Prop) (w : World) (a : Act), Match σ ι Z w → FR ι Z w tm a.tmps → ∀ K : Exit → Act → World → Prop, (∀ x tm' σ' e a' w', Q x tm' σ' → Ends ι Z w a x tm' σ' e a' w' → K e a' w') → wpOps P ops K (List.range' k l.length) a w
 | .any _ ops fuel listed tm σ Q => ∀ (ι : List Nat) (Z : Nat → Nat → Prop) (w : World) (a : Act), Match σ ι Z w → FR ι Z w tm a.tmps → ∀ K : Exit → Act → World → Prop, (∀ x tm' σ' e a' w', Q x tm' σ' → Ends ι Z w a x tm' σ' e a' w' → K e a' w') → wpAny P .any ops K fuel listed a w
theorem wpOps_cons {P : Program} {ops : Array Oper} {K : Exit → Act → World → Prop} {i : Nat} {o : Oper} {rest : List Nat} {a : Act} {w : World} (ho : ops[i]? = some o) (h : if Region.wanted o (yielded ops a.tmps) then o.wp P a w (wpOps P ops K rest) K else wpOps P ops K rest (a.put o.dst undef) w) : wpOps P ops K (i :: rest) a w := by
 rw [wpOps]
 simp only [ho]
 split
 · rename_i hw; rw [if_pos hw] at h; exact .inl h
 · rename_i hw; rw [if_neg hw] at h; exact h
theorem J.tells {P : Program} {E : Env} (hm : P.follows .mixedOrders = true) (hE : EnvOk P E) {t : Tk} (h : J P E t) : Tells P t := by
 have step : ∀ {M : List TypeId} {ops : Array Oper} {o : Oper} {rest : List Oper} {tm tm' : List AV} {σ σ' : Sto} {Q : AExit → List AV → Sto → Prop}, (Region.wanted o (yieldedA ops tm) = true → (∃ v acc, tm' = putA tm o.dst v ∧ evStep P M (evx tm) σ o = some (.val v σ' acc)) ∨ (∃ acc, tm' = putA tm o.dst (.tup []) ∧ evStep P M (evx tm) σ o = some (.skip σ' acc))) →
     (¬ Region.wanted o (yieldedA ops tm) = true → tm' = putA tm o.dst (.tup []) ∧ σ' = σ) → Tells P (.list M ops rest tm' σ' Q) → Tells P (.list M ops (o :: rest) tm σ Q) := by
  intro M ops o rest tm tm' σ σ' Q h1 h2 ih k hk ι Z w a hM hF K hK
  have ho : ops[k]? = some o := by simpa using hk 0 o rfl
  rw [List.length_cons, List.range'_succ]
  refine wpOps_cons ho ?_
  have go : ∀ ι' Z' w' a', After ι Z w a tm' σ' ι' Z' w' a' → wpOps P ops K (List.range' (k + 1) rest.length) a' w' := by
   intro ι' Z' w' a' ha
   exact ih (k + 1) (fun j q hj => by have := hk (j + 1) q (by simpa using hj); rw [show k + 1 + j = k + (j + 1) by omega]; exact this) ι' Z' w' a' ha.2.1 ha.2.2.1 K fun x tm2 σ2 e a2 w2 hq hx => hK x tm2 σ2 e a2 w2 hq (Ends.start ha hx)
  have hev : ∃ acc, evOp P M (evCall P E 0) ops o tm σ = some (.inr (tm', acc), σ') := by
   unfold evOp
   by_cases hw : Region.wanted o (yieldedA ops tm) = true
   · rw [if_pos hw]
     rcases h1 hw with ⟨v, acc, rfl, hs⟩ | ⟨acc, rfl, hs⟩
     · exact ⟨acc, by rw [hs]⟩
     · exact ⟨acc, by rw [hs]⟩
   · rw [if_neg hw]
     obtain ⟨rfl, rfl⟩ := h2 hw
     exact ⟨.pure, rfl⟩
  obtain ⟨acc, hev⟩ := hev
  exact evOp_sound (evCall_sound hm hE 0) hev hM hF _ _ (fun tm1 acc1 hr ι' Z' w' a' ha => by cases hr; exact go ι' Z' w' a' ha) (fun v hr => by cases hr)
 induction h with
 | callW h =>
  intro ι Z w us hM hl ha
  obtain ⟨r, σ', N, h1, h2⟩ := h
  have := evCall_sound hm hE N _ _ _ _ _ (h1 N (Nat.le_refl _)) ι Z w us hM hl ha
  exact ⟨this.1, this.2.mono fun e w' ⟨ι', Z', e1, m1, x1⟩ => ⟨r, σ', ι', Z', h2, e1, m1, x1⟩⟩
 | callMono h hq ih =>
  intro ι Z w us hM hl ha
  obtain ⟨h1, h2⟩ := ih ι Z w us hM hl ha
  exact ⟨h1, h2.mono fun e w' ⟨r, σ', ι', Z', g1, g2⟩ => ⟨r, σ', ι', Z', hq _ _ g1, g2⟩⟩
 | callNrm h hq hp ih =>
  intro ι Z w us hM hl ha
  obtain ⟨h1, h2⟩ := ih ι Z w us hM (by rw [nrmR_map, List.length_map]; exact hl) fun i d u hd hu => by
   rw [nrmR_map, List.getElem?_map, Option.map_eq_some_iff] at hd
   obtain ⟨d', g1, rfl⟩ := hd
   exact (ha i d' u g1 hu).nrm
  refine ⟨h1, h2.mono ?_⟩
  rintro e w' ⟨r, σ', ι', Z', g1, g2, g3, g4⟩
  cases r with
  | ret v =>
   obtain ⟨u, e1, e2⟩ := g4
   exact ⟨_, σ', ι', Z', hq v σ' g1, g2, g3, u, e1, e2.nrm⟩
  | pan v => exact ⟨_, σ', ι', Z', hp v σ' g1, g2, g3, g4⟩
 | @body f fn c args σ Q hf hc h ih =>
  intro ι Z w us hM hlen hargs
  obtain ⟨hP, hrun⟩ := hE.code f fn hf
  refine ⟨hrun us w, calls_of_wp hP hc ?_⟩
  have hF : FR ι Z w (args ++ List.replicate (fn.ntmps - args.length) (.tup [])) (us ++ Array.replicate (fn.ntmps - us.size) undef) := by
   refine ⟨by simp [hlen], fun i d u hd hu => ?_⟩
   rcases Nat.lt_or_ge i args.length with hl | hl
   · rw [List.getElem?_append_left hl] at hd
     rw [Array.getElem?_append_left (by omega)] at hu
     exact hargs i d u hd hu
   · rw [List.getElem?_append_right hl] at hd
     rw [Array.getElem?_append_right (by omega)] at hu
     have h1 := (List.mem_replicate.1 (List.mem_of_getElem? hd)).2
     have h2 : u = undef := (Array.mem_replicate.1 (Array.mem_of_getElem? hu)).2
     subst h1; subst h2
     exact undef_rel
  refine ih ι Z w { tmps := us ++ Array.replicate (fn.ntmps - us.size) undef, defers := [] } hM hF _ fun x tm' σ' e a' w' hq hEnd => ?_
  obtain ⟨ι', Z', ⟨e1, m1, f1, d1⟩, hxr⟩ := hEnd
  cases x with
  | normal =>
   obtain ⟨v, hv, hQ⟩ := hq
   cases hxr
   obtain ⟨u, g1, g2⟩ := results_rel m1 f1 hv
   exact ⟨d1, u, g1, .ret v, σ', ι', Z', hQ, e1, m1, u, rfl, g2⟩
  | ret =>
   obtain ⟨v, hv, hQ⟩ := hq
   cases hxr
   obtain ⟨u, g1, g2⟩ := results_rel m1 f1 hv
   exact ⟨d1, u, g1, .ret v, σ', ι', Z', hQ, e1, m1, u, rfl, g2⟩
  | pan v =>
   obtain ⟨u, rfl, hv⟩ := hxr
   exact ⟨d1, .pan v, σ', ι', Z', hq, e1, m1, u, rfl, hv⟩
  | exit id => exact hq.elim
 | nil hq =>
  intro k hk ι Z w a hM hF K hK
  exact hK _ _ _ _ _ _ hq ⟨ι, Z, ⟨.refl _ _ _, hM, hF, rfl⟩, rfl⟩
 | val hw hs h ih => exact step (fun _ => .inl ⟨_, _, rfl, hs⟩) (fun hn => (hn hw).elim) ih
 | skip hw hs h ih => exact step (fun _ => .inr ⟨_, rfl, hs⟩) (fun hn => (hn hw).elim) ih
 | unwanted hw h ih => exact step (fun hn => (hw hn).elim) (fun _ => ⟨rfl, rfl⟩) ih
 | @nilCmp M ops d t e u ty x po af rest tm σ es tok Q ht hx h ih =>
  intro k hk ι Z w a hM hF K hK
  have ho : ops[k]? = some ⟨d, .binOp .eql t x (.const (.slice none 0 0)) u, ty, po, af, none⟩ := by simpa using hk 0 _ rfl
  rw [List.length_cons, List.range'_succ]
  refine wpOps_cons ho ?_
  rw [if_pos (by rfl)]
  have hv := evx_rel hM hF x _ hx
  have hrun : ∃ b : Bool, (es ≠ [] → b = false) ∧ (execOp a.eval ⟨d, .binOp .eql t x (.const (.slice none 0 0)) u, ty, po, af, none⟩).run P w = .ok (.value (.bool b)) w := by
   have key : ∀ (q : Option Addr) (n c : Nat), a.eval x = .slice q n c → (execOp a.eval ⟨d, .binOp .eql t x (.const (.slice none 0 0)) u, ty, po, af, none⟩).run P w = .ok (.value (.bool q.isNone)) w := by
    intro q n c hq
    have he : a.eval (.const (.slice none 0 0)) = .slice none 0 0 := rfl
    have heq : ∀ k, (Op.equalIn (k + 1) t (.slice q n c) (.slice none 0 0)).run P w = .ok q.isNone w := by
     intro k
     rw [Op.equalIn]
     cases q <;> simp [underlying, program, ht, Sem.run, bind, pure, Sem.bind]
    have heq := heq 9999
    unfold execOp
    simp only [hq, he]
    unfold eqGuard Go.binOp Op.equal
    simp only [Op.maxDepth, bind, pure, Sem.bind, Sem.run, ite_self] at heq ⊢
    simp only [Sem.run_bind', Sem.run]
    rw [show (10000 : Nat) = 9999 + 1 from rfl, heq]; rfl
   generalize hux : a.eval x = uv at *
   cases hv with
   | nils q c tok h1 h2 => exact ⟨q.isNone, fun h => (h rfl).elim, key q 0 c rfl⟩
   | frs t k c b h1 h2 h3 => exact ⟨_, fun h => (h rfl).elim, key _ 0 c rfl⟩
   | sl b o n c k es tok U h1 h2 h3 h4 h5 h6 h7 h8 => exact ⟨false, fun _ => rfl, key _ n c rfl⟩
  obtain ⟨b, hb, hrun⟩ := hrun
  unfold Oper.wp
  rw [hrun]
  exact ih b hb (k + 1) (fun j q hj => by have := hk (j + 1) q (by simpa using hj); rw [show k + 1 + j = k + (j + 1) by omega]; exact this) ι Z w (a.put d (.bool b)) hM (hF.put d (.lit _ rfl)) K fun x tm2 σ2 e a2 w2 hq hx => hK x tm2 σ2 e a2 w2 hq (Ends.start ⟨.refl _ _ _, hM, hF.put d (.lit _ rfl), Act.put_defers' _ _ _⟩ hx)
 | @pan M ops o rest tm σ v Q hw hs hq =>
  intro k hk ι Z w a hM hF K hK
  have ho : ops[k]? = some o := by simpa using hk 0 o rfl
  rw [List.length_cons, List.range'_succ]
  refine wpOps_cons ho ?_
  have hev : evOp P M (evCall P E 0) ops o tm σ = some (.inl v, σ) := by unfold evOp; rw [if_pos hw, hs]
  exact evOp_sound (evCall_sound hm hE 0) hev hM hF _ _ (fun tm1 acc1 hr => by cases hr) (fun v' hr ι' Z' w' a' u ha hv => by
   cases hr
   exact hK _ _ _ _ _ _ hq ⟨ι', Z', ha, u, rfl, hv⟩)
 | @enter M ops o rest tm σ f args R Q hw hs h hr hp ih ihr =>
  intro k hk ι Z w a hM hF K hK
  have ho : ops[k]? = some o := by simpa using hk 0 o rfl
  rw [List.length_cons, List.range'_succ]
  refine wpOps_cons ho ?_
  rw [← yielded_rel hF ops, if_pos hw]
  obtain ⟨us, h1, h2, h3⟩ := evStep_sound (r := a.eval) (fun x d hx => evx_rel hM hF x d hx) hM hs
  unfold Oper.wp
  rw [h1]
  obtain ⟨g1, g2⟩ := ih ι Z w us hM h2 h3
  rw [g1]
  refine g2.mono ?_
  rintro e w' ⟨r, σ', ι', Z', hR, e1, m1, hx⟩
  cases r with
  | ret v =>
   obtain ⟨u, rfl, hv⟩ := hx
   have ha : After ι Z w a (putA tm o.dst v) σ' ι' Z' w' (a.put o.dst u) := ⟨e1, m1, (hF.evo e1).put _ hv, Act.put_defers' _ _ _⟩
   exact ihr v σ' hR (k + 1) (fun j q hj => by have := hk (j + 1) q (by simpa using hj); rw [show k + 1 + j = k + (j + 1) by omega]; exact this) ι' Z' w' _ m1 ha.2.2.1 K fun x tm2 σ2 e a2 w2 hq hx => hK x tm2 σ2 e a2 w2 hq (Ends.start ha hx)
  | pan v =>
   obtain ⟨u, rfl, hv⟩ := hx
   exact hK _ _ _ _ _ _ (hp v σ' hR) ⟨ι', Z', ⟨e1, m1, hF.evo e1, rfl⟩, u, rfl, hv⟩
 | cw h =>
  intro ι Z w a hM hF K hK
  obtain ⟨x, tm', σ', N, h1, h2⟩ := h
  exact evCode_sound hm (evCall_sound hm hE N) N _ (h1 N N (Nat.le_refl _) (Nat.le_refl _)) hM hF K fun e a' w' hx => hK x tm' σ' e a' w' h2 hx
 | region h ih =>
  intro ι Z w a hM hF K hK
  refine wp_region ?_
  rw [List.range_eq_range']
  have := ih 0 (fun j o hj => by rw [Nat.zero_add]; simpa using hj) ι Z w a hM hF K hK
  simpa using this
 | seq h hn hx ih ihn =>
  intro ι Z w a hM hF K hK
  refine wp_seq (ih ι Z w a hM hF _ fun x tm' σ' e a' w' hq hE => ?_)
  cases x with
  | normal =>
   obtain ⟨ι1, Z1, ha, hxr⟩ := hE
   cases hxr
   exact ihn tm' σ' hq ι1 Z1 w' a' ha.2.1 ha.2.2.1 K fun x tm2 σ2 e a2 w2 hq hx => hK x tm2 σ2 e a2 w2 hq (Ends.start ha hx)
  | exit id => have h1 := hK _ _ _ _ _ _ (hx _ _ _ (by simp) hq) hE; obtain ⟨_, _, _, hxr⟩ := hE; cases hxr; exact h1
  | ret => have h1 := hK _ _ _ _ _ _ (hx _ _ _ (by simp) hq) hE; obtain ⟨_, _, _, hxr⟩ := hE; cases hxr; exact h1
  | pan v => have h1 := hK _ _ _ _ _ _ (hx _ _ _ (by simp) hq) hE; obtain ⟨_, _, _, u, rfl, _⟩ := hE; exact h1
 | @cond M c a b t tm σ Q hc h ih =>
  intro ι Z w a hM hF K hK
  have hv := evx_rel hM hF c _ hc
  have he : a.eval c = .bool t := by generalize a.eval c = u at hv; cases hv; rfl
  exact wp_cond he (ih ι Z w a hM hF K hK)
 | @block M id a tm σ Q h ih =>
  intro ι Z w a hM hF K hK
  refine wp_block (ih ι Z w a hM hF _ fun x tm' σ' e a' w' hq hE => ?_)
  cases x with
  | exit id' =>
   obtain ⟨ι1, Z1, ha, hxr⟩ := hE
   cases hxr
   simp only [Exit.inBlock]
   simp only [outOf] at hq
   split
   · rename_i hid
     rw [if_pos hid] at hq
     exact hK _ _ _ _ _ _ hq ⟨ι1, Z1, ha, rfl⟩
   · rename_i hid
     rw [if_neg hid] at hq
     exact hK _ _ _ _ _ _ hq ⟨ι1, Z1, ha, rfl⟩
  | normal => have h1 := hK _ _ _ _ _ _ hq hE; obtain ⟨_, _, _, hxr⟩ := hE; cases hxr; exact h1
  | ret => have h1 := hK _ _ _ _ _ _ hq hE; obtain ⟨_, _, _, hxr⟩ := hE; cases hxr; exact h1
  | pan v => have h1 := hK _ _ _ _ _ _ hq hE; obtain ⟨_, _, _, u, rfl, _⟩ := hE; exact h1
 | scope h ih =>
  intro ι Z w a hM hF K hK
  refine wp_scope_straight (ih ι Z w a hM hF _ fun x tm' σ' e a' w' hq hE => ?_)
  have h1 := hK _ _ _ _ _ _ hq hE
  obtain ⟨_, _, _, hxr⟩ := hE
  cases x with
  | normal => cases hxr; exact h1
  | exit id => cases hxr; exact h1
  | ret => cases hxr; exact h1
  | pan v => obtain ⟨u, rfl, _⟩ := hxr; exact h1
 | @loop M b k tm σ Q I hround hI ih =>
  intro ι Z w a hM hF K hK
  refine wp_loop_ghost (fun m a1 w1 => ∃ tm1 σ1 ι1 Z1, I m tm1 σ1 ∧ After ι Z w a tm1 σ1 ι1 Z1 w1 a1) k ⟨tm, σ, ι, Z, hI, .refl _ _ _, hM, hF, rfl⟩ ?_
  rintro m a1 w1 ⟨tm1, σ1, ι1, Z1, hI1, ha⟩
  refine ih m tm1 σ1 hI1 ι1 Z1 w1 a1 ha.2.1 ha.2.2.1 _ fun x tm' σ' e a' w' hq hE => ?_
  cases x with
  | normal =>
   obtain ⟨ι2, Z2, hb, hxr⟩ := hE
   cases hxr
   obtain ⟨k', hk', hI'⟩ := hq
   exact ⟨k', hk', tm', σ', ι2, Z2, hI', ha.1.trans hb.1, hb.2.1, hb.2.2.1, hb.2.2.2.trans ha.2.2.2⟩
  | exit id => have h2 := hK _ _ _ _ _ _ hq (Ends.start ha hE); obtain ⟨_, _, _, hxr⟩ := hE; cases hxr; exact h2
  | ret => have h2 := hK _ _ _ _ _ _ hq (Ends.start ha hE); obtain ⟨_, _, _, hxr⟩ := hE; cases hxr; exact h2
  | pan v => have h2 := hK _ _ _ _ _ _ hq (Ends.start ha hE); obtain ⟨_, _, _, u, rfl, _⟩ := hE; exact h2
 | anyRegion h ih =>
  intro ι Z w a hM hF K hK
  refine wp_region_any hm ?_
  have hwd : After ι Z w a _ _ ι Z { w with drawn := w.drawn + 1 } a := ⟨Evo.drew ι Z w, hM.drew, hF.evo (Evo.drew ι Z w), rfl⟩
  exact ih ι Z _ a hwd.2.1 hwd.2.2.1 K fun x tm2 σ2 e a2 w2 hq hx => hK x tm2 σ2 e a2 w2 hq (Ends.start hwd hx)
 | anyDone hr hq =>
  intro ι Z w a hM hF K hK
  exact wpAny_done hr (hK _ _ _ _ _ _ hq ⟨ι, Z, ⟨.refl _ _ _, hM, hF, rfl⟩, rfl⟩) _
 | @anyStep M ops fuel listed tm σ Q rs o acc tm' σ' hr hne ho hev h ih =>
  intro ι Z w a hM hF K hK
  refine wpAny_all hr hne fun i hi => ?_
  unfold wpOp
  rw [ho i hi]
  dsimp only
  have hno : CallSound P noCall := fun f args σ r σ' h => by cases h
  have := evOp_sound hno (hev i hi) hM hF (wpAny P .any ops K fuel (listed.setIfInBounds i true)) K (fun tm1 acc1 hr1 ι' Z' w' a' ha => by
   cases hr1
   exact ih i hi ι' Z' w' a' ha.2.1 ha.2.2.1 K fun x tm2 σ2 e a2 w2 hq hx => hK x tm2 σ2 e a2 w2 hq (Ends.start ha hx)) (fun v hr1 => by cases hr1)
  split
  · rename_i hw; rw [if_pos hw] at this; exact .inl this
  · rename_i hw; rw [if_neg hw] at this; exact this
 | @anyStepC M ops fuel listed tm σ Q rs cl D hr hne ho hev hn hc hcall hret hpan ih ihcall ihret =>
  intro ι Z w a hM hF K hK
  refine wpAny_all hr hne fun i hi => ?_
  unfold wpOp
  rw [ho i hi]
  dsimp only
  cases hcl : cl i with
  | false =>
   have hno : CallSound P noCall := fun f args σ r σ' h => by cases h
   have := evOp_sound hno (hev i hi hcl) hM hF (wpAny P .any ops K fuel (listed.setIfInBounds i true)) K (fun tm1 acc1 hr1 ι' Z' w' a' ha => by
    cases hr1
    exact ih i hi hcl ι' Z' w' a' ha.2.1 ha.2.2.1 K fun x tm2 σ2 e a2 w2 hq hx => hK x tm2 σ2 e a2 w2 hq (Ends.start ha hx)) (fun v hr1 => by cases hr1)
   split
   · rename_i hw; rw [if_pos hw] at this; exact .inl this
   · rename_i hw; rw [if_neg hw] at this; exact this
  | true =>
   obtain ⟨hw, hs⟩ := hc i hi hcl
   rw [← yielded_rel hF ops, if_pos hw]
   refine .inl ?_
   obtain ⟨us, h1, h2, h3⟩ := evStep_sound (r := a.eval) (fun x d hx => evx_rel hM hF x d hx) hM hs
   unfold Oper.wp
   rw [h1]
   obtain ⟨g1, g2⟩ := ihcall i hi hcl ι Z w us hM h2 h3
   rw [g1]
   refine g2.mono ?_
   rintro e w' ⟨r, σ', ι', Z', hR, e1, m1, hx⟩
   cases r with
   | ret v =>
    obtain ⟨u, rfl, hv⟩ := hx
    have ha : After ι Z w a (putA tm (D i).o.dst v) σ' ι' Z' w' (a.put (D i).o.dst u) := ⟨e1, m1, (hF.evo e1).put _ hv, Act.put_defers' _ _ _⟩
    exact ihret i hi hcl v σ' hR ι' Z' w' _ m1 ha.2.2.1 K fun x tm2 σ2 e a2 w2 hq hx => hK x tm2 σ2 e a2 w2 hq (Ends.start ha hx)
   | pan v => exact (hpan i hi hcl v σ' hR).elim
end
section
open Go.RowKit
end
section
open Go.RowKit
section
variable (P : Program) (E : Env) (M : List TypeId)
def JC (f : FuncId) (args : List AV) (σ : Sto) (Q : ARes → Sto → Prop) : Prop := J P E (.call f args σ Q)
def JD (c : Code) (tm : List AV) (σ : Sto) (Q : AExit → List AV → Sto → Prop) : Prop := J P E (.code M c tm σ Q)
def LJ (ops : Array Oper) : List Oper → List AV → Sto → (AExit → List AV → Sto → Prop) → Prop
 | [], tm, σ, Q => Q .normal tm σ
 | o :: rest, tm, σ, Q =>
  if Region.wanted o (yieldedA ops tm) then
   match evStep P M (evx tm) σ o with
   | some (.val v σ' _) => LJ ops rest (putA tm o.dst v) σ' Q
   | some (.skip σ' _) => LJ ops rest (putA tm o.dst (.tup [])) σ' Q
   | some (.pan v) => Q (.pan v) tm σ
   | some (.enter f args) => JC P E f args σ fun r σ' => match r with | .ret v => LJ ops rest (putA tm o.dst v) σ' Q | .pan v => Q (.pan v) tm σ'
   | none => False
  else LJ ops rest (putA tm o.dst (.tup [])) σ Q
end
section
variable {P : Program} {E : Env} {M : List TypeId}
theorem LJ.toJ {ops : Array Oper} : ∀ (l : List Oper) (tm : List AV) (σ : Sto) (Q : AExit → List AV → Sto → Prop), LJ P E M ops l tm σ Q → J P E (.list M ops l tm σ Q)
 | [], tm, σ, Q, h => .nil h
 | o :: rest, tm, σ, Q, h => by
  rw [LJ] at h
  split at h
  · rename_i hw
    split at h
    · rename_i v σ1 acc hs
      exact .val hw hs (LJ.toJ rest _ _ Q h)
    · rename_i σ1 acc hs
      exact .skip hw hs (LJ.toJ rest _ _ Q h)
    · rename_i v hs
      exact .pan hw hs h
    · rename_i f args hs
      exact .enter hw hs h (fun v σ' h1 => LJ.toJ rest _ _ Q h1) fun v σ' h1 => h1
    · exact h.elim
  · rename_i hw
    exact .unwanted hw (LJ.toJ rest _ _ Q h)
theorem JD.region {id : Nat} {ops : Array Oper} {tm : List AV} {σ : Sto} {Q : AExit → List AV → Sto → Prop} (h : LJ P E M ops ops.toList tm σ Q) : JD P E M (.region id ops false) tm σ Q := J.region (LJ.toJ _ _ _ _ h)
theorem JD.seqK {a b : Code} {tm : List AV} {σ : Sto} {Q : AExit → List AV → Sto → Prop} (h : ∀ K : List AV → Sto → Prop, (∀ tm1 σ1, JD P E M b tm1 σ1 Q → K tm1 σ1) → JD P E M a tm σ (andThen K Q)) : JD P E M (.seq a b) tm σ Q := by
 refine J.seq (h (fun tm1 σ1 => JD P E M b tm1 σ1 Q) fun _ _ h => h) (fun tm1 σ1 h1 => h1) fun x tm1 σ1 hx h1 => ?_
 cases x with
 | normal => exact (hx rfl).elim
 | _ => exact h1
theorem JD.hide {a : Code} {tm : List AV} {σ : Sto} {Q : AExit → List AV → Sto → Prop} (h : ∀ R : AExit → List AV → Sto → Prop, (∀ x tm1 σ1, Q x tm1 σ1 → R x tm1 σ1) → JD P E M a tm σ R) : JD P E M a tm σ Q := h Q fun _ _ _ h => h
theorem JD.cond {c : Operand} {a b : Code} {t : Bool} {tm : List AV} {σ : Sto} {Q : AExit → List AV → Sto → Prop} (hc : evx tm c = some (.lit (.bool t))) (h : JD P E M (if t then a else b) tm σ Q) : JD P E M (.cond c a b) tm σ Q := J.cond hc h
theorem JD.block {id : Nat} {a : Code} {tm : List AV} {σ : Sto} {Q : AExit → List AV → Sto → Prop} (h : JD P E M a tm σ (outOf id Q)) : JD P E M (.block id a) tm σ Q := J.block h
theorem JD.skip {tm : List AV} {σ : Sto} {Q : AExit → List AV → Sto → Prop} (h : Q .normal tm σ) : JD P E M .skip tm σ Q := J.cw (CW.skip h)
theorem JD.ret {tm : List AV} {σ : Sto} {Q : AExit → List AV → Sto → Prop} (h : Q .ret tm σ) : JD P E M .ret tm σ Q := J.cw (CW.ret h)
theorem JD.exit {id : Nat} {tm : List AV} {σ : Sto} {Q : AExit → List AV → Sto → Prop} (h : Q (.exit id) tm σ) : JD P E M (.exit id) tm σ Q := J.cw (CW.exit h)
theorem JD.loopI {a : Code} {Q : AExit → List AV → Sto → Prop} (I : Nat → List AV → Sto → Prop) (round : ∀ k tm σ, I k tm σ → JD P E M a tm σ (andThen (fun tm1 σ1 => ∃ k', k' < k ∧ I k' tm1 σ1) Q)) (k : Nat) (tm : List AV) (σ : Sto) (hI : I k tm σ) : JD P E M (.loop a) tm σ Q := J.loop I round hI
theorem JC.mono {f : FuncId} {args : List AV} {σ : Sto} {Q Q' : ARes → Sto → Prop} (h : JC P E f args σ Q) (hq : ∀ r σ', Q r σ' → Q' r σ') : JC P E f args σ Q' := J.callMono h hq
theorem CallW.toJ {f : FuncId} {args : List AV} {σ : Sto} {Q : ARes → Sto → Prop} (h : CallW P E f args σ Q) : JC P E f args σ Q := J.callW h
theorem JC.start {f : FuncId} {fn : Func} {c : Code} {args : List AV} {σ : Sto} {Q : ARes → Sto → Prop} (hf : E.code f = some fn) (hc : fn.body = some c) (hm : E.ms f = M) (hn : args.length ≤ fn.ntmps)
    (h : ∀ tm : List AV, tm.length = fn.ntmps → (∀ (i : Nat) (d : AV), args[i]? = some d → slot tm i = d) → JD P E M c tm σ (bodyW P fn Q)) : JC P E f args σ Q :=
 J.body hf hc (hm ▸ h _ (by simp; omega) fun i d hd => by
  have hl := (List.getElem?_eq_some_iff.1 hd).1
  unfold slot
  rw [List.getD_eq_getElem?_getD, List.getElem?_append_left hl, hd]; rfl)
variable {ops : Array Oper} {o : Oper} {rest : List Oper} {tm : List AV} {σ : Sto} {Q : AExit → List AV → Sto → Prop}
theorem LJ_nil : LJ P E M ops [] tm σ Q = Q .normal tm σ := rfl
theorem LJ_val (hg : o.guard = none) (h : isVal (evStep P M (evx tm) σ o) = true) : LJ P E M ops (o :: rest) tm σ Q = LJ P E M ops rest (putA tm o.dst (valOf (evStep P M (evx tm) σ o))) (stOf (evStep P M (evx tm) σ o)) Q := by
 rw [LJ, if_pos (by unfold Region.wanted; rw [hg])]
 cases hs : evStep P M (evx tm) σ o with
 | none => rw [hs] at h; cases h
 | some s => rw [hs] at h; cases s <;> first | rfl | cases h
theorem LJ_skip (hg : o.guard = none) (h : isSkip (evStep P M (evx tm) σ o) = true) : LJ P E M ops (o :: rest) tm σ Q = LJ P E M ops rest (putA tm o.dst (.tup [])) (stOf (evStep P M (evx tm) σ o)) Q := by
 rw [LJ, if_pos (by unfold Region.wanted; rw [hg])]
 cases hs : evStep P M (evx tm) σ o with
 | none => rw [hs] at h; cases h
 | some s => rw [hs] at h; cases s <;> first | rfl | cases h
theorem LJ_enter (hg : o.guard = none) (h : isEnter (evStep P M (evx tm) σ o) = true) : LJ P E M ops (o :: rest) tm σ Q = JC P E (fnOf (evStep P M (evx tm) σ o)) (argsOf (evStep P M (evx tm) σ o)) σ (retK (fun v σ' => LJ P E M ops rest (putA tm o.dst v) σ' Q) (fun v σ' => Q (.pan v) tm σ')) := by
 rw [LJ, if_pos (by unfold Region.wanted; rw [hg])]
 cases hs : evStep P M (evx tm) σ o with
 | none => rw [hs] at h; cases h
 | some s => rw [hs] at h; cases s <;> first | rfl | cases h
theorem LJ_guard {j : Nat} {b c : Bool} (hg : o.guard = some (j, b)) (hy : yieldedA ops tm j = some c) : LJ P E M ops (o :: rest) tm σ Q = if c = b then LJ P E M ops ({ o with guard := none } :: rest) tm σ Q else LJ P E M ops rest (putA tm o.dst (.tup [])) σ Q := by
 have e : evStep P M (evx tm) σ { o with guard := none } = evStep P M (evx tm) σ o := by
  obtain ⟨d, op, t, p, a, g⟩ := o
  cases op <;> rfl
 have hw : Region.wanted o (yieldedA ops tm) = (some c == some b) := by unfold Region.wanted; rw [hg]; dsimp only; rw [hy]
 rw [LJ]
 by_cases h : c = b
 · subst h
   rw [if_pos (by rw [hw]; simp), if_pos rfl, LJ, if_pos (by rfl), e]
 · rw [if_neg (by rw [hw]; simpa using h), if_neg h]
theorem LJ_guardS {j : Nat} {b : Bool} {d : Option Tmp} {op : Op} {ty : TypeId} {po : String} {af : Array Edge} (h : (yieldedA ops tm j).isSome = true) : LJ P E M ops (⟨d, op, ty, po, af, some (j, b)⟩ :: rest) tm σ Q =
    if (yieldedA ops tm j).getD false = b then LJ P E M ops (⟨d, op, ty, po, af, none⟩ :: rest) tm σ Q else LJ P E M ops rest (putA tm d (.tup [])) σ Q := by
 obtain ⟨c, hc⟩ := Option.isSome_iff_exists.1 h
 rw [LJ_guard (o := ⟨d, op, ty, po, af, some (j, b)⟩) rfl hc, hc]
 rfl
theorem LJ_guardN {j : Nat} {b : Bool} {d : Option Tmp} {op : Op} {ty : TypeId} {po : String} {af : Array Edge} (h : (yieldedA ops tm j).isNone = true) : LJ P E M ops (⟨d, op, ty, po, af, some (j, b)⟩ :: rest) tm σ Q = LJ P E M ops rest (putA tm d (.tup [])) σ Q := by
 rw [LJ, if_neg]
 unfold Region.wanted
 simp [Option.isNone_iff_eq_none.1 h]
end
end
end Go.Proofs.YteajcnilihgheaaGreatDoor
