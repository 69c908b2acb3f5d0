/-
  EV: CODE AND CALLS: the evaluator tells what every run does.
-/
import Derived.Test.YtcjjmejmpdhikaaGreatDoorEvDraw3
namespace Go.Proofs.YtcjjmejmpdhikaaGreatDoor
set_option linter.unusedSimpArgs false
set_option linter.unusedVariables false
open Go.RowKit

section
variable {P : Program} {M : List TypeId} {call : CallF}

theorem Ends.start {ι ι1 : List Nat} {Z Z1 : Nat → Nat → Prop} {w w1 : World} {a a1 : Act} {tm1 tm' : List AV} {σ1 σ' : Sto} {x : AExit} {e : Exit} {a' : Act} {w' : World} (h : After ι Z w a tm1 σ1 ι1 Z1 w1 a1) (g : Ends ι1 Z1 w1 a1 x tm' σ' e a' w') : Ends ι Z w a x tm' σ' e a' w' := by
  obtain ⟨ι2, Z2, ⟨e2, m2, f2, d2⟩, hx⟩ := g
  exact ⟨ι2, Z2, ⟨h.1.trans e2, m2, f2, d2.trans h.2.2.2⟩, hx⟩

theorem evCode_sound (hm : P.follows .mixedOrders = true) (hcall : CallSound P call) : ∀ (n : Nat) (c : Code) {tm tm' : List AV} {σ σ' : Sto} {x : AExit} {ι : List Nat} {Z : Nat → Nat → Prop} {w : World} {a : Act}, evCode P M call n c tm σ = some (x, tm', σ') → Match σ ι Z w → FR ι Z w tm a.tmps →
    ∀ Q : Exit → Act → World → Prop, (∀ e a' w', Ends ι Z w a x tm' σ' e a' w' → Q e a' w') → c.wp P Q a w := by
  intro n
  induction n using Nat.strongRecOn with
  | _ n ih =>
    intro c tm tm' σ σ' x ι Z w a h hM hF Q hQ
    cases n with
    | zero => simp [evCode] at h
    | succ n =>
      have self : After ι Z w a tm σ ι Z w a := ⟨.refl _ _ _, hM, hF, rfl⟩
      cases c with
      | skip => simp only [evCode, Option.some.injEq, Prod.mk.injEq] at h; obtain ⟨rfl, rfl, rfl⟩ := h; exact wp_skip (hQ _ _ _ ⟨ι, Z, self, rfl⟩)
      | label l => simp only [evCode, Option.some.injEq, Prod.mk.injEq] at h; obtain ⟨rfl, rfl, rfl⟩ := h; exact wp_label (hQ _ _ _ ⟨ι, Z, self, rfl⟩)
      | ret => simp only [evCode, Option.some.injEq, Prod.mk.injEq] at h; obtain ⟨rfl, rfl, rfl⟩ := h; exact wp_ret (hQ _ _ _ ⟨ι, Z, self, rfl⟩)
      | exit id => simp only [evCode, Option.some.injEq, Prod.mk.injEq] at h; obtain ⟨rfl, rfl, rfl⟩ := h; exact wp_exit (hQ _ _ _ ⟨ι, Z, self, rfl⟩)
      | goto l => simp [evCode] at h
      | refuse s => simp [evCode] at h
      | rangeFunc f ps b d => simp [evCode] at h
      | region id ops draw => exact evRegion_sound hm hcall (by simpa [evCode] using h) hM hF Q hQ
      | scope b =>
        rw [evCode] at h
        refine wp_scope_straight (ih n (by omega) b h hM hF _ fun e a' w' hE => ?_)
        have h1 := hQ e a' w' hE
        obtain ⟨ι2, Z2, _, hx⟩ := hE
        cases x with
        | normal => cases hx; exact h1
        | exit id => cases hx; exact h1
        | ret => cases hx; exact h1
        | pan v => obtain ⟨u, rfl, _⟩ := hx; exact h1
      | cond c b d =>
        rw [evCode] at h
        split at h
        · rename_i t ht
          have hv := evx_rel hM hF c _ ht
          have he : a.eval c = .bool t := by generalize a.eval c = u at hv; cases hv; rfl
          exact wp_cond he (ih n (by omega) _ h hM hF Q hQ)
        · cases h
      | seq b d =>
        rw [evCode] at h
        refine wp_seq ?_
        split at h
        · rename_i tm1 σ1 h1
          refine ih n (by omega) b h1 hM hF _ fun e a' w' hE => ?_
          obtain ⟨ι1, Z1, ha, hx⟩ := hE
          cases hx
          exact ih n (by omega) d h ha.2.1 ha.2.2.1 Q fun e a2 w2 hE => hQ e a2 w2 (Ends.start ha hE)
        · rename_i hne
          refine ih n (by omega) b h hM hF _ fun e a' w' hE => ?_
          have h1 := hQ e a' w' hE
          obtain ⟨ι2, Z2, _, hx⟩ := hE
          cases x with
          | normal => exact (hne _ _ h).elim
          | exit id => cases hx; exact h1
          | ret => cases hx; exact h1
          | pan v => obtain ⟨u, rfl, _⟩ := hx; exact h1
      | block id b =>
        rw [evCode] at h
        refine wp_block ?_
        split at h
        · rename_i id' tm1 σ1 h1
          refine ih n (by omega) b h1 hM hF _ fun e a' w' hE => ?_
          obtain ⟨ι1, Z1, ha, hx⟩ := hE
          cases hx
          simp only [Exit.inBlock]
          split at h
          · rename_i hid
            rw [if_pos hid]
            cases h
            exact hQ _ _ _ ⟨ι1, Z1, ha, rfl⟩
          · rename_i hid
            rw [if_neg hid]
            cases h
            exact hQ _ _ _ ⟨ι1, Z1, ha, rfl⟩
        · rename_i hne
          refine ih n (by omega) b h hM hF _ fun e a' w' hE => ?_
          have h1 := hQ e a' w' hE
          obtain ⟨ι2, Z2, _, hx⟩ := hE
          cases x with
          | normal => cases hx; exact h1
          | exit id' => exact (hne _ _ _ h).elim
          | ret => cases hx; exact h1
          | pan v => obtain ⟨u, rfl, _⟩ := hx; exact h1
      | loop b =>
        refine wp_loop_ghost (fun m a1 w1 => m ≤ n + 1 ∧ ∃ tm1 σ1 ι1 Z1, evCode P M call m (.loop b) tm1 σ1 = some (x, tm', σ') ∧ After ι Z w a tm1 σ1 ι1 Z1 w1 a1) (n + 1) ⟨Nat.le_refl _, tm, σ, ι, Z, h, self⟩ ?_
        rintro m a1 w1 ⟨hmn, tm1, σ1, ι1, Z1, h1, ha⟩
        cases m with
        | zero => simp [evCode] at h1
        | succ m =>
          rw [evCode] at h1
          split at h1
          · rename_i tm2 σ2 h2
            refine ih m (by omega) b h2 ha.2.1 ha.2.2.1 _ fun e a' w' hE => ?_
            obtain ⟨ι2, Z2, hb, hx⟩ := hE
            cases hx
            exact ⟨m, by omega, by omega, tm2, σ2, ι2, Z2, h1, ha.1.trans hb.1, hb.2.1, hb.2.2.1, hb.2.2.2.trans ha.2.2.2⟩
          · rename_i hne
            refine ih m (by omega) b h1 ha.2.1 ha.2.2.1 _ fun e a' w' hE => ?_
            have h2 := hQ e a' w' (Ends.start ha hE)
            obtain ⟨ι2, Z2, _, hx⟩ := hE
            cases x with
            | normal => exact (hne _ _ h1).elim
            | exit id => cases hx; exact h2
            | ret => cases hx; exact h2
            | pan v => obtain ⟨u, rfl, _⟩ := hx; exact h2

theorem asAddr_run (a : Addr) (w : World) : (asAddr (.pointer (some a))).run P w = .ok a w := rfl

theorem results_rel {fn : Func} {tm : List AV} {σ : Sto} {ι : List Nat} {Z : Nat → Nat → Prop} {w : World} {tmps : Array Value} {v : AV} (hM : Match σ ι Z w) (hF : FR ι Z w tm tmps) (h : resultsA P fn tm σ = some v) : ∃ u, (results fn tmps).run P w = .ok u w ∧ VR ι Z w v u := by
  unfold resultsA at h
  have one : ∀ (q : ResultVar) (d : AV), resA P tm σ q = some d → ∃ u, ((match q with | .tmp t => pure (tmps.getD t undef) | .cell a t => do loadVar t (← asAddr (tmps.getD a undef))) : Sem Value).run P w = .ok u w ∧ VR ι Z w d u := by
    intro q d hq
    cases q with
    | tmp t => simp only [resA, Option.some.injEq] at hq; subst hq; exact ⟨_, rfl, hF.get t⟩
    | cell a t =>
      simp only [resA] at hq
      split at hq
      · rename_i id off hp
        split at hq
        · rename_i cs T hσ
          have hv := hF.get a
          rw [hp] at hv
          obtain ⟨b, hb, hu⟩ := ptr_at hv
          obtain ⟨c, h1, h2, h3, h4⟩ := hM.obj id _ b hσ hb
          obtain ⟨u, hl, hv2, _⟩ := load_rel (P := P) (b := b) (o := 0) (CR.ofArrLe h2 h3) (fun j u hu => by
            rw [Nat.zero_add]; simp [World.cell?, h1]
            rw [List.getElem?_take] at hu
            split at hu
            · simpa using hu
            · cases hu) hq
          rw [Nat.zero_add] at hl
          refine ⟨u, ?_, hv2⟩
          simp only [hu]
          rw [Sem.run_bind, asAddr_run]
          exact hl
        · cases hq
      · cases hq
  have many : ∀ (qs : List ResultVar) (ds : List AV), omap (resA P tm σ) qs = some ds → ∃ us : List Value, (qs.mapM (fun q => (match q with | .tmp t => pure (tmps.getD t undef) | .cell a t => do loadVar t (← asAddr (tmps.getD a undef)) : Sem Value))).run P w = .ok us w ∧ us.length = ds.length ∧ ∀ (i : Nat) (d : AV) (u : Value), ds[i]? = some d → us[i]? = some u → VR ι Z w d u := by
    intro qs
    induction qs with
    | nil => intro ds hd; simp [omap] at hd; subst hd; exact ⟨[], by simp, rfl, fun i d u hd => by simp at hd⟩
    | cons q qs ihq =>
      intro ds hd
      rw [omap] at hd
      split at hd
      · rename_i d ds' h1 h2
        cases hd
        obtain ⟨u, g1, g2⟩ := one q d h1
        obtain ⟨us, g3, g4, g5⟩ := ihq ds' h2
        refine ⟨u :: us, ?_, by simp [g4], fun i d' u' hd' hu' => ?_⟩
        · rw [List.mapM_cons, Sem.run_bind, g1]
          simp only [Result.andThen_ok]
          rw [Sem.run_bind, g3]
          rfl
        · cases i with
          | zero => simp at hd' hu'; subst hd'; subst hu'; exact g2
          | succ i => exact g5 i d' u' (by simpa using hd') (by simpa using hu')
      · cases hd
  unfold results
  split at h
  · rename_i d hd
    cases h
    obtain ⟨us, h1, h2, h3⟩ := many _ _ hd
    obtain ⟨u, rfl⟩ : ∃ u, us = [u] := by
      cases us with
      | nil => simp at h2
      | cons u us => cases us with
        | nil => exact ⟨u, rfl⟩
        | cons _ _ => simp at h2
    refine ⟨u, ?_, h3 0 v u rfl rfl⟩
    rw [Sem.run_bind, Array.mapM_eq_mapM_toList, Sem.run_map]
    erw [h1]
    rfl
  · rename_i ds hne hd
    cases h
    obtain ⟨us, h1, h2, h3⟩ := many _ _ hd
    refine ⟨.tuple us.toArray, ?_, .tup ds _ (by simp [h2]) (fun i d u hd' hu' => h3 i d u hd' (by simpa using hu'))⟩
    rw [Sem.run_bind, Array.mapM_eq_mapM_toList, Sem.run_map]
    erw [h1]
    have hsz : ¬ us.toArray.size = 1 := by
      intro e
      have : ds.length = 1 := by simp at e; omega
      obtain ⟨d, rfl⟩ := List.length_eq_one_iff.1 this
      exact hne d rfl
    simp only [Result.andThen_ok]
    rw [dif_neg hsz]
    rfl
  · cases h

/-- What is given to the evaluator is right. -/
structure EnvOk (P : Program) (E : Env) : Prop where
  code : ∀ (f : FuncId) (fn : Func), E.code f = some fn → P.funcs[f]? = some fn ∧ ∀ args w, (callFunc f args).run P w = .ok (.enter f args) w
  prim : ∀ (f : FuncId) (g : List AV → Sto → Option (ARes × Sto)), E.prim f = some g → CallSound P fun f' args σ => if f' = f then g args σ else none

theorem evCall_sound (hm : P.follows .mixedOrders = true) {E : Env} (hE : EnvOk P E) : ∀ n, CallSound P (evCall P E n)
  | 0 => fun f args σ r σ' h => by simp [evCall] at h
  | n + 1 => fun f args σ r σ' h ι Z w us hM hlen hargs => by
    rw [evCall] at h
    split at h
    · rename_i g hg
      exact hE.prim f g hg f args σ r σ' (by simpa using h) ι Z w us hM hlen hargs
    · split at h
      · cases h
      · rename_i fn hfn
        obtain ⟨hP, hrun⟩ := hE.code f fn hfn
        split at h
        · cases h
        · rename_i c hc
          refine ⟨hrun us w, calls_of_wp hP hc ?_⟩
          have hF : FR ι Z w (args ++ List.replicate (fn.ntmps - args.length) (.tup [])) (us ++ Array.replicate (fn.ntmps - us.size) undef) := by
            refine ⟨by simp [hlen], fun i d u hd hu => ?_⟩
            rcases Nat.lt_or_ge i args.length with hl | hl
            · rw [List.getElem?_append_left hl] at hd
              rw [Array.getElem?_append_left (by omega)] at hu
              exact hargs i d u hd hu
            · rw [List.getElem?_append_right hl] at hd
              rw [Array.getElem?_append_right (by omega)] at hu
              have h1 := (List.mem_replicate.1 (List.mem_of_getElem? hd)).2
              have h2 : u = undef := by
                have := Array.mem_of_getElem? hu
                exact (Array.mem_replicate.1 this).2
              subst h1; subst h2
              exact undef_rel
          have go : ∀ (x : AExit) (tm : List AV) (σ1 : Sto), evCode P (E.ms f) (evCall P E n) (n + 1) c (args ++ List.replicate (fn.ntmps - args.length) (.tup [])) σ = some (x, tm, σ1) →
              (x = .normal ∨ x = .ret → ∃ v, resultsA P fn tm σ1 = some v ∧ r = .ret v ∧ σ' = σ1) → (∀ v, x = .pan v → r = .pan v ∧ σ' = σ1) → (∀ id, x ≠ .exit id) →
              c.wp P (bodyPost P fn fun e w' => ∃ ι' Z', Evo ι Z w ι' Z' w' ∧ Match σ' ι' Z' w' ∧ ERel ι' Z' w' r e) { tmps := us ++ Array.replicate (fn.ntmps - us.size) undef, defers := [] } w := by
            intro x tm σ1 hx h1 h2 h3
            refine evCode_sound hm (evCall_sound hm hE n) (n + 1) c hx hM hF _ fun e a' w' hEnd => ?_
            obtain ⟨ι', Z', ⟨e1, m1, f1, d1⟩, hxr⟩ := hEnd
            cases x with
            | normal =>
              obtain ⟨v, hv, rfl, rfl⟩ := h1 (.inl rfl)
              cases hxr
              obtain ⟨u, g1, g2⟩ := results_rel m1 f1 hv
              exact ⟨d1, u, g1, ι', Z', e1, m1, u, rfl, g2⟩
            | ret =>
              obtain ⟨v, hv, rfl, rfl⟩ := h1 (.inr rfl)
              cases hxr
              obtain ⟨u, g1, g2⟩ := results_rel m1 f1 hv
              exact ⟨d1, u, g1, ι', Z', e1, m1, u, rfl, g2⟩
            | pan v =>
              obtain ⟨rfl, rfl⟩ := h2 v rfl
              obtain ⟨u, rfl, hv⟩ := hxr
              exact ⟨d1, ι', Z', e1, m1, u, rfl, hv⟩
            | exit id => exact (h3 id rfl).elim
          split at h
          · rename_i tm σ1 hx
            rw [Option.map_eq_some_iff] at h
            obtain ⟨v, hv, h⟩ := h
            cases h
            exact go _ _ _ hx (fun _ => ⟨v, hv, rfl, rfl⟩) (fun v hv => by cases hv) (fun id hid => by cases hid)
          · rename_i tm σ1 hx
            rw [Option.map_eq_some_iff] at h
            obtain ⟨v, hv, h⟩ := h
            cases h
            exact go _ _ _ hx (fun _ => ⟨v, hv, rfl, rfl⟩) (fun v hv => by cases hv) (fun id hid => by cases hid)
          · rename_i v tm σ1 hx
            cases h
            exact go _ _ _ hx (fun hor => by rcases hor with hor | hor <;> cases hor) (fun v' hv => by cases hv; exact ⟨rfl, rfl⟩) (fun id hid => by cases hid)
          · cases h

end
end Go.Proofs.YtcjjmejmpdhikaaGreatDoor
