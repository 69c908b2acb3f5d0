/-
 EV, WITH LETTERS: how the evaluator's steps are written out by simp.
-/
import Derived.Test.YtmmgjaheffbpaaaGreatDoorEvDraw2Q
import Derived.IntWalk
namespace Go.Proofs.YtmmgjaheffbpaaaGreatDoor
set_option linter.unusedSimpArgs false
set_option linter.unusedVariables false
open Go.RowKit
noncomputable def evList (P : Program) (M : List TypeId) (call : CallF) (ops : Array Oper) : List Oper → List AV → Sto → Option (AExit × List AV × Sto)
 | [], tm, σ => some (.normal, tm, σ)
 | o :: rest, tm, σ =>
  match evOp P M call ops o tm σ with
  | some (.inr (tm', _), σ') => evList P M call ops rest tm' σ'
  | some (.inl v, σ') => some (.pan v, tm, σ')
  | none => none
theorem evOps_list {P : Program} {M : List TypeId} {call : CallF} {ops : Array Oper} : ∀ (m k : Nat) (tm : List AV) (σ : Sto), k + m = ops.size → evOps P M call ops (List.range' k m) tm σ = evList P M call ops (ops.toList.drop k) tm σ
 | 0, k, tm, σ, h => by
  rw [List.drop_eq_nil_of_le (by simp; omega)]; rfl
 | m + 1, k, tm, σ, h => by
  have hk : k < ops.toList.length := by simp; omega
  rw [List.range'_succ, evOps, List.drop_eq_getElem_cons hk, evList]
  have e1 : ops[k]? = some ops.toList[k] := by rw [Array.getElem?_eq_getElem (by simpa using hk)]; rfl
  rw [e1]
  dsimp only
  cases evOp P M call ops ops.toList[k] tm σ with
  | none => rfl
  | some x =>
   obtain ⟨r, s⟩ := x
   cases r with
   | inl v => rfl
   | inr q => exact evOps_list m (k + 1) q.1 s (by omega)
theorem evRegion_list {P : Program} {M : List TypeId} {call : CallF} {ops : Array Oper} {tm : List AV} {σ : Sto} : evRegion P M call ops false tm σ = evList P M call ops ops.toList tm σ := by
 unfold evRegion
 rw [if_neg (by simp), List.range_eq_range', evOps_list ops.size 0 tm σ (by omega)]
 rfl
section
variable {P : Program} {M : List TypeId} {call : CallF} {ops : Array Oper} {tm : List AV} {σ : Sto}
end
inductive Acc.le : Acc → Acc → Prop
 | refl (x : Acc) : Acc.le x x
 | calls (n : Nat) (K K' : Nat → Bool) : (∀ a, K' a = true → K a = true) → Acc.le (.calls n K) (.calls n K')
 | lcall (n : Nat) (K K' : Nat → Bool) : (∀ a, K' a = true → K a = true) → Acc.le (.lcalls K) (.calls n K')
theorem clash_mono {x y x' y' : Acc} (hx : x.le x') (hy : y.le y') (h : clash x' y' = false) : clash x y = false := by
 cases hx with
 | refl x =>
  cases hy with
  | refl y => exact h
  | calls n K K' hK => cases x <;> simp_all [clash]
  | lcall n K K' hK => cases x <;> simp_all [clash]
 | calls n K K' hK =>
  cases hy with
  | refl y => cases y <;> simp_all [clash]
  | calls m L L' hL => simp [clash] at h
  | lcall m L L' hL => simp [clash] at h
 | lcall n K K' hK =>
  cases hy with
  | refl y => cases y <;> simp_all [clash]
  | calls m L L' hL => simp [clash] at h
  | lcall m L L' hL => simp [clash] at h
theorem drawOk_mono {ops : Array Oper} {xs ys : List Acc} (hl : xs.length = ys.length) (h : ∀ (i : Nat) (x y : Acc), xs[i]? = some x → ys[i]? = some y → x.le y) (hd : drawOk ops ys = true) : drawOk ops xs = true := by
 unfold drawOk at hd ⊢
 simp only [List.all_eq_true, List.mem_range] at hd ⊢
 intro i hi k hk
 have := hd i (by omega) k hk
 unfold freeAt at this ⊢
 have g : ∀ n, n < xs.length → (xs.getD n .any).le (ys.getD n .any) := fun n hn => by
  rw [List.getD_eq_getElem?_getD, List.getD_eq_getElem?_getD, List.getElem?_eq_getElem hn, List.getElem?_eq_getElem (by omega)]
  exact h n _ _ (List.getElem?_eq_getElem hn) (List.getElem?_eq_getElem (by omega))
 rw [Bool.or_eq_true] at this ⊢
 rcases this with this | this
 · exact .inl this
 · right
   split at this
   · rename_i x y h1 h2
     simp only [Bool.and_eq_true, Bool.not_eq_true'] at this ⊢
     exact ⟨this.1, clash_mono (g k (by omega)) (g i hi) this.2⟩
   · cases this
noncomputable def accW (E : Env) (f : FuncId) (args : List AV) (σ : Sto) (r : ARes) (σ' : Sto) : Acc :=
 @ite _ (∃ g, E.prim f = some g ∧ σ'.length = σ.length ∧ ∀ l, g args (σ ++ l) = some (r, σ' ++ l)) (Classical.propDecidable _) (.lcalls (keptB σ σ')) (.calls σ.length fun a => extB σ σ' || keptB σ σ' a)
theorem accW_loc {E : Env} {f : FuncId} {args : List AV} {σ σ' : Sto} {r : ARes} {g : List AV → Sto → Option (ARes × Sto)} (hg : E.prim f = some g) (hl : σ'.length = σ.length) (h : ∀ l, g args (σ ++ l) = some (r, σ' ++ l)) : accW E f args σ r σ' = .lcalls (keptB σ σ') := by
 unfold accW
 exact @if_pos _ (Classical.propDecidable _) ⟨g, hg, hl, h⟩ _ _ _
theorem ext_kept {σ σ' : Sto} (hl : σ'.length = σ.length) (a : Nat) (h : (extB σ σ' || keptB σ σ' a) = true) : keptB σ σ' a = true := by
 rw [Bool.or_eq_true] at h
 rcases h with h | h
 · obtain ⟨g, rfl⟩ := extB_to h
   have : g = [] := List.eq_nil_of_length_eq_zero (by simp at hl; simpa using hl)
   subst this
   exact keptB_of (by simp)
 · exact h
theorem accC_le {P : Program} {E : Env} {f : FuncId} {args : List AV} {σ σ' : Sto} {r : ARes} {m : Nat} (h : evCall P E m f args σ = some (r, σ')) : (accC (evCall P E m) f args σ r σ').le (accW E f args σ r σ') := by
 by_cases hw : ∃ g, E.prim f = some g ∧ σ'.length = σ.length ∧ ∀ l, g args (σ ++ l) = some (r, σ' ++ l)
 · obtain ⟨g, hg, hl, hk⟩ := hw
   rw [accW_loc hg hl hk]
   have hb : locB (evCall P E m) f args σ r σ' = true := by
    unfold locB
    refine @decide_eq_true _ (Classical.propDecidable _) ⟨hl, fun l => ?_⟩
    cases m with
    | zero => simp [evCall] at h
    | succ m => rw [evCall, hg]; exact hk l
   unfold accC
   rw [if_pos hb]
   exact .refl _
 · have e : accW E f args σ r σ' = .calls σ.length fun a => extB σ σ' || keptB σ σ' a := @if_neg _ (Classical.propDecidable _) hw _ _ _
   rw [e]
   unfold accC
   split
   · rename_i hb
     unfold locB at hb
     have hl := (@of_decide_eq_true _ (Classical.propDecidable _) hb).1
     exact .lcall _ _ _ fun a ha => ext_kept hl a ha
   · exact .refl _
section
variable (P : Program) (E : Env)
def CallW (f : FuncId) (args : List AV) (σ : Sto) (Q : ARes → Sto → Prop) : Prop := ∃ r σ' N, (∀ n, N ≤ n → evCall P E n f args σ = some (r, σ')) ∧ Q r σ'
variable (M : List TypeId)
def LW (ops : Array Oper) : List Oper → List AV → Sto → (AExit → List AV → Sto → Prop) → Prop
 | [], tm, σ, Q => Q .normal tm σ
 | o :: rest, tm, σ, Q =>
  if Region.wanted o (yieldedA ops tm) then
   match evStep P M (evx tm) σ o with
   | some (.val v σ' _) => LW ops rest (putA tm o.dst v) σ' Q
   | some (.skip σ' _) => LW ops rest (putA tm o.dst (.tup [])) σ' Q
   | some (.pan v) => Q (.pan v) tm σ
   | some (.enter f args) => CallW P E f args σ fun r σ' => match r with | .ret v => LW ops rest (putA tm o.dst v) σ' Q | .pan v => Q (.pan v) tm σ'
   | none => False
  else LW ops rest (putA tm o.dst (.tup [])) σ Q
def DW (ops : Array Oper) : List Oper → List Acc → List AV → Sto → (AExit → List AV → Sto → Prop) → Prop
 | [], accs, tm, σ, Q => drawOk ops accs.reverse = true ∧ Q .normal tm σ
 | o :: rest, accs, tm, σ, Q =>
  if Region.wanted o (yieldedA ops tm) then
   match evStep P M (evx tm) σ o with
   | some (.val v σ' acc) => DW ops rest (acc :: accs) (putA tm o.dst v) σ' Q
   | some (.skip σ' acc) => DW ops rest (acc :: accs) (putA tm o.dst (.tup [])) σ' Q
   | some (.pan v) => (drawOk ops accs.reverse = true ∧ panicOk ops accs.length = true) ∧ Q (.pan v) tm σ
   | some (.enter f args) => CallW P E f args σ fun r σ' => match r with | .ret v => DW ops rest (accW E f args σ (.ret v) σ' :: accs) (putA tm o.dst v) σ' Q | .pan v => (drawOk ops accs.reverse = true ∧ panicOk ops accs.length = true) ∧ Q (.pan v) tm σ'
   | none => False
  else DW ops rest (.pure :: accs) (putA tm o.dst (.tup [])) σ Q
def CW (c : Code) (tm : List AV) (σ : Sto) (Q : AExit → List AV → Sto → Prop) : Prop := ∃ x tm' σ' N, (∀ n m, N ≤ n → N ≤ m → evCode P M (evCall P E m) n c tm σ = some (x, tm', σ')) ∧ Q x tm' σ'
end
section
variable {P : Program} {E : Env} {M : List TypeId}
theorem CallW.mono {f : FuncId} {args : List AV} {σ : Sto} {Q Q' : ARes → Sto → Prop} (h : CallW P E f args σ Q) (hq : ∀ r σ', Q r σ' → Q' r σ') : CallW P E f args σ Q' := by
 obtain ⟨r, σ', N, h1, h2⟩ := h; exact ⟨r, σ', N, h1, hq _ _ h2⟩
theorem CW.mono {c : Code} {tm : List AV} {σ : Sto} {Q Q' : AExit → List AV → Sto → Prop} (h : CW P E M c tm σ Q) (hq : ∀ x tm' σ', Q x tm' σ' → Q' x tm' σ') : CW P E M c tm σ Q' := by
 obtain ⟨x, tm', σ', N, h1, h2⟩ := h; exact ⟨x, tm', σ', N, h1, hq _ _ _ h2⟩
theorem LW_sound {ops : Array Oper} : ∀ (l : List Oper) (tm : List AV) (σ : Sto) (Q : AExit → List AV → Sto → Prop), LW P E M ops l tm σ Q → ∃ x tm' σ' N, (∀ m, N ≤ m → evList P M (evCall P E m) ops l tm σ = some (x, tm', σ')) ∧ Q x tm' σ'
 | [], tm, σ, Q, h => ⟨_, _, _, 0, fun _ _ => rfl, h⟩
 | o :: rest, tm, σ, Q, h => by
  rw [LW] at h
  split at h
  · rename_i hw
    split at h
    · rename_i v σ1 acc hs
      obtain ⟨x, tm', σ', N, h1, h2⟩ := LW_sound rest _ _ Q h
      exact ⟨x, tm', σ', N, fun m hm => by rw [evList]; unfold evOp; rw [if_pos hw, hs]; exact h1 m hm, h2⟩
    · rename_i σ1 acc hs
      obtain ⟨x, tm', σ', N, h1, h2⟩ := LW_sound rest _ _ Q h
      exact ⟨x, tm', σ', N, fun m hm => by rw [evList]; unfold evOp; rw [if_pos hw, hs]; exact h1 m hm, h2⟩
    · rename_i v hs
      exact ⟨_, _, _, 0, fun m hm => by rw [evList]; unfold evOp; rw [if_pos hw, hs], h⟩
    · rename_i f args hs
      obtain ⟨r, σ1, N1, g1, g2⟩ := h
      cases r with
      | ret v =>
       obtain ⟨x, tm', σ', N, h1, h2⟩ := LW_sound rest _ _ Q g2
       exact ⟨x, tm', σ', max N N1, fun m hm => by rw [evList]; unfold evOp; rw [if_pos hw, hs]; simp only [g1 m (by omega)]; exact h1 m (by omega), h2⟩
      | pan v => exact ⟨_, _, _, N1, fun m hm => by rw [evList]; unfold evOp; rw [if_pos hw, hs]; simp only [g1 m hm], g2⟩
    · exact h.elim
  · rename_i hw
    obtain ⟨x, tm', σ', N, h1, h2⟩ := LW_sound rest _ _ Q h
    exact ⟨x, tm', σ', N, fun m hm => by rw [evList]; unfold evOp; rw [if_neg hw]; exact h1 m hm, h2⟩
def LeL (xs ys : List Acc) : Prop := xs.length = ys.length ∧ ∀ (i : Nat) (x y : Acc), xs[i]? = some x → ys[i]? = some y → x.le y
theorem LeL.cons {x y : Acc} {xs ys : List Acc} (h : x.le y) (g : LeL xs ys) : LeL (x :: xs) (y :: ys) := ⟨by simp [g.1], fun i a b ha hb => by
 cases i with
 | zero => cases ha; cases hb; exact h
 | succ i => exact g.2 i a b (by simpa using ha) (by simpa using hb)⟩
theorem DW_sound {ops : Array Oper} : ∀ (k : Nat) (l : List Nat) (os : List Oper) (accs : List Acc) (tm : List AV) (σ : Sto) (Q : AExit → List AV → Sto → Prop), l = List.range' k os.length → (∀ (j : Nat) (o : Oper), os[j]? = some o → ops[k + j]? = some o) → DW P E M ops os accs tm σ Q →
    ∃ daccs res tm' σ' N, (∀ m, N ≤ m → ∃ accs', evD P M (evCall P E m) ops l tm σ = some (accs', res, tm', σ') ∧ LeL accs' daccs) ∧ drawOk ops (accs.reverse ++ daccs) = true ∧ (match res with | none => Q .normal tm' σ' | some v => panicOk ops (accs.length + daccs.length) = true ∧ Q (.pan v) tm' σ') := by
 intro k l os
 induction os generalizing k l with
 | nil =>
  intro accs tm σ Q hl ho h
  subst hl
  exact ⟨[], none, tm, σ, 0, fun m _ => ⟨[], rfl, rfl, fun i x y hx => by simp at hx⟩, by simpa using h.1, h.2⟩
 | cons o os ih =>
  intro accs tm σ Q hl ho h
  subst hl
  have ho0 : ops[k]? = some o := by simpa using ho 0 o rfl
  have step : ∀ (acc : Acc) (tm1 : List AV) (σ1 : Sto) (N1 : Nat), (∀ m, N1 ≤ m → ∃ acc', evOp P M (evCall P E m) ops o tm σ = some (.inr (tm1, acc'), σ1) ∧ acc'.le acc) → DW P E M ops os (acc :: accs) tm1 σ1 Q →
      ∃ daccs res tm' σ' N, (∀ m, N ≤ m → ∃ accs', evD P M (evCall P E m) ops (List.range' k (o :: os).length) tm σ = some (accs', res, tm', σ') ∧ LeL accs' daccs) ∧ drawOk ops (accs.reverse ++ daccs) = true ∧ (match res with | none => Q .normal tm' σ' | some v => panicOk ops (accs.length + daccs.length) = true ∧ Q (.pan v) tm' σ') := by
   intro acc tm1 σ1 N1 h1 h2
   obtain ⟨daccs, res, tm', σ', N, g1, g2, g3⟩ := ih (k + 1) _ (acc :: accs) tm1 σ1 Q rfl (fun j q hj => by have := ho (j + 1) q (by simpa using hj); rw [show k + 1 + j = k + (j + 1) by omega]; exact this) h2
   refine ⟨acc :: daccs, res, tm', σ', max N N1, fun m hm => ?_, by simpa using g2, ?_⟩
   · obtain ⟨acc', e1, e2⟩ := h1 m (by omega)
     obtain ⟨accs', f1, f2⟩ := g1 m (by omega)
     refine ⟨acc' :: accs', ?_, .cons e2 f2⟩
     rw [List.length_cons, List.range'_succ, evD, ho0]
     simp only [e1, f1]
   · cases res with
     | none => exact g3
     | some v => refine ⟨?_, g3.2⟩; have := g3.1; simp only [List.length_cons] at this ⊢; rw [show accs.length + (daccs.length + 1) = accs.length + 1 + daccs.length by omega]; exact this
  have stop : ∀ (v : AV) (σ1 : Sto) (N1 : Nat), (∀ m, N1 ≤ m → evOp P M (evCall P E m) ops o tm σ = some (.inl v, σ1)) → (drawOk ops accs.reverse = true ∧ panicOk ops accs.length = true) ∧ Q (.pan v) tm σ1 →
      ∃ daccs res tm' σ' N, (∀ m, N ≤ m → ∃ accs', evD P M (evCall P E m) ops (List.range' k (o :: os).length) tm σ = some (accs', res, tm', σ') ∧ LeL accs' daccs) ∧ drawOk ops (accs.reverse ++ daccs) = true ∧ (match res with | none => Q .normal tm' σ' | some v => panicOk ops (accs.length + daccs.length) = true ∧ Q (.pan v) tm' σ') := by
   intro v σ1 N1 h1 h2
   refine ⟨[], some v, tm, σ1, N1, fun m hm => ⟨[], ?_, rfl, fun i x y hx => by simp at hx⟩, by simpa using h2.1.1, by simpa using h2.1.2, h2.2⟩
   rw [List.length_cons, List.range'_succ, evD, ho0]
   simp only [h1 m hm]
  rw [DW] at h
  split at h
  · rename_i hw
    split at h
    · rename_i v σ1 acc hs
      exact step acc _ _ 0 (fun m _ => ⟨acc, by unfold evOp; rw [if_pos hw, hs], .refl _⟩) h
    · rename_i σ1 acc hs
      exact step acc _ _ 0 (fun m _ => ⟨acc, by unfold evOp; rw [if_pos hw, hs], .refl _⟩) h
    · rename_i v hs
      exact stop v σ 0 (fun m _ => by unfold evOp; rw [if_pos hw, hs]) h
    · rename_i f args hs
      obtain ⟨r, σ1, N1, g1, g2⟩ := h
      cases r with
      | ret v => exact step _ _ _ N1 (fun m hm => ⟨accC (evCall P E m) f args σ (.ret v) σ1, by unfold evOp; rw [if_pos hw, hs]; simp only [g1 m hm], accC_le (g1 m hm)⟩) g2
      | pan v => exact stop v σ1 N1 (fun m hm => by unfold evOp; rw [if_pos hw, hs]; simp only [g1 m hm]) g2
    · exact h.elim
  · rename_i hw
    exact step .pure _ _ 0 (fun m _ => ⟨.pure, by unfold evOp; rw [if_neg hw], .refl _⟩) h
theorem CW.region {id : Nat} {ops : Array Oper} {tm : List AV} {σ : Sto} {Q : AExit → List AV → Sto → Prop} (h : LW P E M ops ops.toList tm σ Q) : CW P E M (.region id ops false) tm σ Q := by
 obtain ⟨x, tm', σ', N, h1, h2⟩ := LW_sound _ _ _ _ h
 refine ⟨x, tm', σ', N + 1, fun n m hn hm => ?_, h2⟩
 obtain ⟨n, rfl⟩ : ∃ k, n = k + 1 := ⟨n - 1, by omega⟩
 rw [evCode, evRegion_list]
 exact h1 m (by omega)
theorem CW.draw {id : Nat} {ops : Array Oper} {tm : List AV} {σ : Sto} {Q : AExit → List AV → Sto → Prop} (he : edgesOk ops.toList 0 = true) (h : DW P E M ops ops.toList [] tm σ Q) : CW P E M (.region id ops true) tm σ Q := by
 obtain ⟨daccs, res, tm', σ', N, h1, h2, h3⟩ := DW_sound 0 (List.range' 0 ops.size) ops.toList [] tm σ Q (by simp) (fun j o hj => by rw [Nat.zero_add]; simpa using hj) h
 simp only [List.reverse_nil, List.nil_append, List.length_nil, Nat.zero_add] at h2 h3
 cases res with
 | none =>
  refine ⟨.normal, tm', σ', N + 1, fun n m hn hm => ?_, h3⟩
  obtain ⟨n, rfl⟩ : ∃ k, n = k + 1 := ⟨n - 1, by omega⟩
  obtain ⟨accs, g1, g2⟩ := h1 m (by omega)
  rw [evCode]
  unfold evRegion
  rw [if_pos rfl, List.range_eq_range', g1]
  simp only [he, drawOk_mono g2.1 g2.2 h2, Bool.and_self, if_true]
 | some v =>
  refine ⟨.pan v, tm', σ', N + 1, fun n m hn hm => ?_, h3.2⟩
  obtain ⟨n, rfl⟩ : ∃ k, n = k + 1 := ⟨n - 1, by omega⟩
  obtain ⟨accs, g1, g2⟩ := h1 m (by omega)
  rw [evCode]
  unfold evRegion
  rw [if_pos rfl, List.range_eq_range', g1]
  have h31 := h3.1
  rw [← g2.1] at h31
  simp only [he, drawOk_mono g2.1 g2.2 h2, h31, Bool.and_self, if_true]
theorem CW.skip {tm : List AV} {σ : Sto} {Q : AExit → List AV → Sto → Prop} (h : Q .normal tm σ) : CW P E M .skip tm σ Q :=
 ⟨_, _, _, 1, fun n m hn _ => by obtain ⟨n, rfl⟩ : ∃ k, n = k + 1 := ⟨n - 1, by omega⟩; rfl, h⟩
theorem CW.ret {tm : List AV} {σ : Sto} {Q : AExit → List AV → Sto → Prop} (h : Q .ret tm σ) : CW P E M .ret tm σ Q :=
 ⟨_, _, _, 1, fun n m hn _ => by obtain ⟨n, rfl⟩ : ∃ k, n = k + 1 := ⟨n - 1, by omega⟩; rfl, h⟩
theorem CW.exit {id : Nat} {tm : List AV} {σ : Sto} {Q : AExit → List AV → Sto → Prop} (h : Q (.exit id) tm σ) : CW P E M (.exit id) tm σ Q :=
 ⟨_, _, _, 1, fun n m hn _ => by obtain ⟨n, rfl⟩ : ∃ k, n = k + 1 := ⟨n - 1, by omega⟩; rfl, h⟩
def andThen (K : List AV → Sto → Prop) (Q : AExit → List AV → Sto → Prop) (x : AExit) (tm : List AV) (σ : Sto) : Prop :=
 match x with
 | .normal => K tm σ
 | x => Q x tm σ
theorem CW.seq {a b : Code} {tm : List AV} {σ : Sto} {Q : AExit → List AV → Sto → Prop} (h : CW P E M a tm σ (andThen (fun tm1 σ1 => CW P E M b tm1 σ1 Q) Q)) : CW P E M (.seq a b) tm σ Q := by
 obtain ⟨x, tm1, σ1, N, h1, h2⟩ := h
 cases x with
 | normal =>
  obtain ⟨y, tm2, σ2, N2, h3, h4⟩ := h2
  refine ⟨y, tm2, σ2, max N N2 + 1, fun n m hn hm => ?_, h4⟩
  obtain ⟨n, rfl⟩ : ∃ k, n = k + 1 := ⟨n - 1, by omega⟩
  rw [evCode, h1 n m (by omega) (by omega)]
  exact h3 n m (by omega) (by omega)
 | _ =>
  refine ⟨_, tm1, σ1, N + 1, fun n m hn hm => ?_, h2⟩
  obtain ⟨n, rfl⟩ : ∃ k, n = k + 1 := ⟨n - 1, by omega⟩
  rw [evCode, h1 n m (by omega) (by omega)]
theorem CW.seqK {a b : Code} {tm : List AV} {σ : Sto} {Q : AExit → List AV → Sto → Prop} (h : ∀ K : List AV → Sto → Prop, (∀ tm1 σ1, CW P E M b tm1 σ1 Q → K tm1 σ1) → CW P E M a tm σ (andThen K Q)) : CW P E M (.seq a b) tm σ Q :=
 CW.seq (h _ fun _ _ h => h)
theorem CW.hide {a : Code} {tm : List AV} {σ : Sto} {Q : AExit → List AV → Sto → Prop} (h : ∀ R : AExit → List AV → Sto → Prop, (∀ x tm1 σ1, Q x tm1 σ1 → R x tm1 σ1) → CW P E M a tm σ R) : CW P E M a tm σ Q := h Q fun _ _ _ h => h
theorem CW.cond {c : Operand} {a b : Code} {t : Bool} {tm : List AV} {σ : Sto} {Q : AExit → List AV → Sto → Prop} (hc : evx tm c = some (.lit (.bool t))) (h : CW P E M (if t then a else b) tm σ Q) : CW P E M (.cond c a b) tm σ Q := by
 obtain ⟨x, tm1, σ1, N, h1, h2⟩ := h
 refine ⟨x, tm1, σ1, N + 1, fun n m hn hm => ?_, h2⟩
 obtain ⟨n, rfl⟩ : ∃ k, n = k + 1 := ⟨n - 1, by omega⟩
 rw [evCode, hc]
 exact h1 n m (by omega) (by omega)
theorem CW.scope {a : Code} {tm : List AV} {σ : Sto} {Q : AExit → List AV → Sto → Prop} (h : CW P E M a tm σ Q) : CW P E M (.scope a) tm σ Q := by
 obtain ⟨x, tm1, σ1, N, h1, h2⟩ := h
 refine ⟨x, tm1, σ1, N + 1, fun n m hn hm => ?_, h2⟩
 obtain ⟨n, rfl⟩ : ∃ k, n = k + 1 := ⟨n - 1, by omega⟩
 rw [evCode]
 exact h1 n m (by omega) (by omega)
def outOf (id : Nat) (Q : AExit → List AV → Sto → Prop) (x : AExit) (tm : List AV) (σ : Sto) : Prop :=
 match x with
 | .exit id' => if id' = id then Q .normal tm σ else Q (.exit id') tm σ
 | x => Q x tm σ
theorem CW.block {id : Nat} {a : Code} {tm : List AV} {σ : Sto} {Q : AExit → List AV → Sto → Prop} (h : CW P E M a tm σ (outOf id Q)) : CW P E M (.block id a) tm σ Q := by
 obtain ⟨x, tm1, σ1, N, h1, h2⟩ := h
 cases x with
 | exit id' =>
  by_cases hid : id' = id
  · simp only [outOf, if_pos hid] at h2
    refine ⟨.normal, tm1, σ1, N + 1, fun n m hn hm => ?_, h2⟩
    obtain ⟨n, rfl⟩ : ∃ k, n = k + 1 := ⟨n - 1, by omega⟩
    rw [evCode, h1 n m (by omega) (by omega)]
    simp only [if_pos hid]
  · simp only [outOf, if_neg hid] at h2
    refine ⟨.exit id', tm1, σ1, N + 1, fun n m hn hm => ?_, h2⟩
    obtain ⟨n, rfl⟩ : ∃ k, n = k + 1 := ⟨n - 1, by omega⟩
    rw [evCode, h1 n m (by omega) (by omega)]
    simp only [if_neg hid]
 | _ =>
  refine ⟨_, tm1, σ1, N + 1, fun n m hn hm => ?_, h2⟩
  obtain ⟨n, rfl⟩ : ∃ k, n = k + 1 := ⟨n - 1, by omega⟩
  rw [evCode, h1 n m (by omega) (by omega)]
theorem CW.loop {a : Code} {tm : List AV} {σ : Sto} {Q : AExit → List AV → Sto → Prop} (h : CW P E M a tm σ (andThen (fun tm1 σ1 => CW P E M (.loop a) tm1 σ1 Q) Q)) : CW P E M (.loop a) tm σ Q := by
 obtain ⟨x, tm1, σ1, N, h1, h2⟩ := h
 cases x with
 | normal =>
  obtain ⟨y, tm2, σ2, N2, h3, h4⟩ := h2
  refine ⟨y, tm2, σ2, max N N2 + 1, fun n m hn hm => ?_, h4⟩
  obtain ⟨n, rfl⟩ : ∃ k, n = k + 1 := ⟨n - 1, by omega⟩
  rw [evCode, h1 n m (by omega) (by omega)]
  exact h3 n m (by omega) (by omega)
 | _ =>
  refine ⟨_, tm1, σ1, N + 1, fun n m hn hm => ?_, h2⟩
  obtain ⟨n, rfl⟩ : ∃ k, n = k + 1 := ⟨n - 1, by omega⟩
  rw [evCode, h1 n m (by omega) (by omega)]
theorem CW.loopI {a : Code} {Q : AExit → List AV → Sto → Prop} (I : Nat → List AV → Sto → Prop) (round : ∀ k tm σ, I k tm σ → CW P E M a tm σ (andThen (fun tm1 σ1 => ∃ k', k' < k ∧ I k' tm1 σ1) Q)) : ∀ (k : Nat) (tm : List AV) (σ : Sto), I k tm σ → CW P E M (.loop a) tm σ Q := by
 intro k
 induction k using Nat.strongRecOn with
 | _ k ih =>
  intro tm σ hI
  refine CW.loop ((round k tm σ hI).mono fun x tm1 σ1 h => ?_)
  cases x with
  | normal => obtain ⟨k', hk, h'⟩ := h; exact ih k' hk tm1 σ1 h'
  | _ => exact h
def bodyW (P : Program) (fn : Func) (Q : ARes → Sto → Prop) (x : AExit) (tm : List AV) (σ : Sto) : Prop :=
 match x with
 | .normal | .ret => ∃ v, zA P fn tm σ = some v ∧ Q (.ret v) σ
 | .pan v => Q (.pan v) σ
 | .exit _ => False
theorem CallW.body {f : FuncId} {fn : Func} {c : Code} {args : List AV} {σ : Sto} {Q : ARes → Sto → Prop} (hp : E.prim f = none) (hf : E.code f = some fn) (hc : fn.body = some c) (h : CW P E (E.ms f) c (args ++ List.replicate (fn.ntmps - args.length) (.tup [])) σ (bodyW P fn Q)) : CallW P E f args σ Q := by
 obtain ⟨x, tm1, σ1, N, h1, h2⟩ := h
 cases x with
 | normal =>
  obtain ⟨v, hv, hq⟩ := h2
  refine ⟨.ret v, σ1, N + 1, fun n hn => ?_, hq⟩
  obtain ⟨n, rfl⟩ : ∃ k, n = k + 1 := ⟨n - 1, by omega⟩
  rw [evCall, hp, hf]
  simp only [hc, h1 (n + 1) n (by omega) (by omega), hv, Option.map_some]
 | ret =>
  obtain ⟨v, hv, hq⟩ := h2
  refine ⟨.ret v, σ1, N + 1, fun n hn => ?_, hq⟩
  obtain ⟨n, rfl⟩ : ∃ k, n = k + 1 := ⟨n - 1, by omega⟩
  rw [evCall, hp, hf]
  simp only [hc, h1 (n + 1) n (by omega) (by omega), hv, Option.map_some]
 | pan v =>
  refine ⟨.pan v, σ1, N + 1, fun n hn => ?_, h2⟩
  obtain ⟨n, rfl⟩ : ∃ k, n = k + 1 := ⟨n - 1, by omega⟩
  rw [evCall, hp, hf]
  simp only [hc, h1 (n + 1) n (by omega) (by omega)]
 | exit id => exact h2.elim
theorem CallW.prim {f : FuncId} {g : List AV → Sto → Option (ARes × Sto)} {args : List AV} {σ σ' : Sto} {r : ARes} {Q : ARes → Sto → Prop} (hp : E.prim f = some g) (h : g args σ = some (r, σ')) (hq : Q r σ') : CallW P E f args σ Q := by
 refine ⟨r, σ', 1, fun n hn => ?_, hq⟩
 obtain ⟨n, rfl⟩ : ∃ k, n = k + 1 := ⟨n - 1, by omega⟩
 rw [evCall, hp]; exact h
theorem CallW.calls (hm : P.follows .mixedOrders = true) (hE : EnvOk P E) {f : FuncId} {args : List AV} {σ : Sto} {Q : ARes → Sto → Prop} (h : CallW P E f args σ Q) {ι : List Nat} {Z : Nat → Nat → Prop} {w : World} {us : Array Value} (hM : Match σ ι Z w) (hlen : args.length = us.size)
    (hargs : ∀ (i : Nat) (d : AV) (u : Value), args[i]? = some d → us[i]? = some u → VR ι Z w d u) : Calls P f us w fun e w' => ∃ r σ' ι' Z', Q r σ' ∧ Evo ι Z w ι' Z' w' ∧ Match σ' ι' Z' w' ∧ ERel ι' Z' w' r e := by
 obtain ⟨r, σ', N, h1, h2⟩ := h
 exact ((evCall_sound hm hE N f args σ r σ' (h1 N (Nat.le_refl _)) ι Z w us hM hlen hargs).2).mono fun e w' ⟨ι', Z', e1, m1, x1⟩ => ⟨r, σ', ι', Z', h2, e1, m1, x1⟩
def isVal : Option AStep → Bool | some (.val ..) => true | _ => false
def valOf : Option AStep → AV | some (.val v _ _) => v | _ => .tup []
def accOf : Option AStep → Acc | some (.val _ _ a) => a | some (.skip _ a) => a | _ => .any
def stOf : Option AStep → Sto | some (.val _ σ _) => σ | some (.skip σ _) => σ | _ => []
def isSkip : Option AStep → Bool | some (.skip ..) => true | _ => false
def isEnter : Option AStep → Bool | some (.enter ..) => true | _ => false
def fnOf : Option AStep → FuncId | some (.enter f _) => f | _ => 0
def argsOf : Option AStep → List AV | some (.enter _ l) => l | _ => []
def retK (K : AV → Sto → Prop) (Kp : AV → Sto → Prop) (r : ARes) (σ : Sto) : Prop := match r with | .ret v => K v σ | .pan v => Kp v σ
variable {ops : Array Oper} {o : Oper} {rest : List Oper} {tm : List AV} {σ : Sto} {Q : AExit → List AV → Sto → Prop} {accs : List Acc}
theorem LW_nil : LW P E M ops [] tm σ Q = Q .normal tm σ := rfl
theorem LW_val (hg : o.guard = none) (h : isVal (evStep P M (evx tm) σ o) = true) : LW P E M ops (o :: rest) tm σ Q = LW P E M ops rest (putA tm o.dst (valOf (evStep P M (evx tm) σ o))) (stOf (evStep P M (evx tm) σ o)) Q := by
 rw [LW, if_pos (by unfold Region.wanted; rw [hg])]
 cases hs : evStep P M (evx tm) σ o with
 | none => rw [hs] at h; cases h
 | some s => rw [hs] at h; cases s <;> first | rfl | cases h
theorem LW_skip (hg : o.guard = none) (h : isSkip (evStep P M (evx tm) σ o) = true) : LW P E M ops (o :: rest) tm σ Q = LW P E M ops rest (putA tm o.dst (.tup [])) (stOf (evStep P M (evx tm) σ o)) Q := by
 rw [LW, if_pos (by unfold Region.wanted; rw [hg])]
 cases hs : evStep P M (evx tm) σ o with
 | none => rw [hs] at h; cases h
 | some s => rw [hs] at h; cases s <;> first | rfl | cases h
theorem LW_enter (hg : o.guard = none) (h : isEnter (evStep P M (evx tm) σ o) = true) : LW P E M ops (o :: rest) tm σ Q = CallW P E (fnOf (evStep P M (evx tm) σ o)) (argsOf (evStep P M (evx tm) σ o)) σ (retK (fun v σ' => LW P E M ops rest (putA tm o.dst v) σ' Q) (fun v σ' => Q (.pan v) tm σ')) := by
 rw [LW, if_pos (by unfold Region.wanted; rw [hg])]
 cases hs : evStep P M (evx tm) σ o with
 | none => rw [hs] at h; cases h
 | some s => rw [hs] at h; cases s <;> first | rfl | cases h
theorem LW_guard {j : Nat} {b c : Bool} (hg : o.guard = some (j, b)) (hy : yieldedA ops tm j = some c) : LW P E M ops (o :: rest) tm σ Q = if c = b then LW P E M ops ({ o with guard := none } :: rest) tm σ Q else LW P E M ops rest (putA tm o.dst (.tup [])) σ Q := by
 have e : evStep P M (evx tm) σ { o with guard := none } = evStep P M (evx tm) σ o := by
  obtain ⟨d, op, t, p, a, g⟩ := o
  cases op <;> rfl
 have hw : Region.wanted o (yieldedA ops tm) = (some c == some b) := by unfold Region.wanted; rw [hg]; dsimp only; rw [hy]
 rw [LW]
 by_cases h : c = b
 · subst h
   rw [if_pos (by rw [hw]; simp), if_pos rfl, LW, if_pos (by rfl), e]
 · rw [if_neg (by rw [hw]; simpa using h), if_neg h]
theorem DW_nil : DW P E M ops [] accs tm σ Q = (drawOk ops accs.reverse = true ∧ Q .normal tm σ) := rfl
theorem DW_val (hg : o.guard = none) (h : isVal (evStep P M (evx tm) σ o) = true) : DW P E M ops (o :: rest) accs tm σ Q = DW P E M ops rest (accOf (evStep P M (evx tm) σ o) :: accs) (putA tm o.dst (valOf (evStep P M (evx tm) σ o))) (stOf (evStep P M (evx tm) σ o)) Q := by
 rw [DW, if_pos (by unfold Region.wanted; rw [hg])]
 cases hs : evStep P M (evx tm) σ o with
 | none => rw [hs] at h; cases h
 | some s => rw [hs] at h; cases s <;> first | rfl | cases h
theorem DW_skip (hg : o.guard = none) (h : isSkip (evStep P M (evx tm) σ o) = true) : DW P E M ops (o :: rest) accs tm σ Q = DW P E M ops rest (accOf (evStep P M (evx tm) σ o) :: accs) (putA tm o.dst (.tup [])) (stOf (evStep P M (evx tm) σ o)) Q := by
 rw [DW, if_pos (by unfold Region.wanted; rw [hg])]
 cases hs : evStep P M (evx tm) σ o with
 | none => rw [hs] at h; cases h
 | some s => rw [hs] at h; cases s <;> first | rfl | cases h
theorem DW_enter (hg : o.guard = none) (h : isEnter (evStep P M (evx tm) σ o) = true) : DW P E M ops (o :: rest) accs tm σ Q = CallW P E (fnOf (evStep P M (evx tm) σ o)) (argsOf (evStep P M (evx tm) σ o)) σ
    (retK (fun v σ' => DW P E M ops rest (accW E (fnOf (evStep P M (evx tm) σ o)) (argsOf (evStep P M (evx tm) σ o)) σ (.ret v) σ' :: accs) (putA tm o.dst v) σ' Q) (fun v σ' => (drawOk ops accs.reverse = true ∧ panicOk ops accs.length = true) ∧ Q (.pan v) tm σ')) := by
 rw [DW, if_pos (by unfold Region.wanted; rw [hg])]
 cases hs : evStep P M (evx tm) σ o with
 | none => rw [hs] at h; cases h
 | some s => rw [hs] at h; cases s <;> first | rfl | cases h
theorem DW_guard {j : Nat} {b c : Bool} (hg : o.guard = some (j, b)) (hy : yieldedA ops tm j = some c) : DW P E M ops (o :: rest) accs tm σ Q = if c = b then DW P E M ops ({ o with guard := none } :: rest) accs tm σ Q else DW P E M ops rest (.pure :: accs) (putA tm o.dst (.tup [])) σ Q := by
 have e : evStep P M (evx tm) σ { o with guard := none } = evStep P M (evx tm) σ o := by
  obtain ⟨d, op, t, p, a, g⟩ := o
  cases op <;> rfl
 have hw : Region.wanted o (yieldedA ops tm) = (some c == some b) := by unfold Region.wanted; rw [hg]; dsimp only; rw [hy]
 rw [DW]
 by_cases h : c = b
 · subst h
   rw [if_pos (by rw [hw]; simp), if_pos rfl, DW, if_pos (by rfl), e]
 · rw [if_neg (by rw [hw]; simpa using h), if_neg h]
def slot (tm : List AV) (i : Nat) : AV := tm.getD i (.tup [])
theorem slot_ne {tm : List AV} {i j : Nat} {v : AV} (h : i ≠ j) : slot (tm.set i v) j = slot tm j := by
 unfold slot; rw [List.getD_eq_getElem?_getD, List.getD_eq_getElem?_getD, List.getElem?_set_ne h]
theorem slot_eq {tm : List AV} {i : Nat} {v : AV} (h : i < tm.length) : slot (tm.set i v) i = v := by
 unfold slot; rw [List.getD_eq_getElem?_getD, List.getElem?_set_self h]; rfl
theorem putA_some {tm : List AV} {d : Tmp} {v : AV} : putA tm (some d) v = tm.set d v := rfl
theorem putA_none {tm : List AV} {v : AV} : putA tm none v = tm := rfl
theorem zT {tm : List AV} {t : Nat} : evx tm (.tmp t) = some (slot tm t) := rfl
theorem evx_const {tm : List AV} {v : Value} : evx tm (.const v) = absV v := rfl
theorem evx_func {tm : List AV} {f : FuncId} : evx tm (.func f) = some (.fn (.func f) [] []) := rfl
theorem zB {tm : List AV} {σ : Sto} {t : Tmp} : resA P tm σ (.tmp t) = some (slot tm t) := rfl
theorem zC {tm : List AV} {σ : Sto} {a : Tmp} {t : TypeId} : resA P tm σ (.cell a t) = match slot tm a with | .ptr id off => (match σ[id]? with | some (.cells cs _) => partA P t cs off | _ => none) | _ => none := rfl
theorem CallW.start {f : FuncId} {fn : Func} {c : Code} {args : List AV} {σ : Sto} {Q : ARes → Sto → Prop} (hp : E.prim f = none) (hf : E.code f = some fn) (hc : fn.body = some c) (hm : E.ms f = M) (hn : args.length ≤ fn.ntmps)
    (h : ∀ tm : List AV, tm.length = fn.ntmps → (∀ (i : Nat) (d : AV), args[i]? = some d → slot tm i = d) → CW P E M c tm σ (bodyW P fn Q)) : CallW P E f args σ Q :=
 CallW.body hp hf hc (hm ▸ h _ (by simp; omega) fun i d hd => by
  have hl := (List.getElem?_eq_some_iff.1 hd).1
  unfold slot
  rw [List.getD_eq_getElem?_getD, List.getElem?_append_left hl, hd]; rfl)
theorem wrap_succ {i : Nat} (h : i ≤ 1000000000000) : IntKind.i64.wrap ((i : Int) + 1) = ((i + 1 : Nat) : Int) := by
 have := IntWalk.i64_in ((i : Int) + 1) ⟨by omega, by omega⟩
 rw [this]; omega
def Ext (σ σ' : Sto) : Prop := ∃ g, σ' = σ ++ g
theorem Ext.refl (σ : Sto) : Ext σ σ := ⟨[], by simp⟩
theorem Ext.trans {a b c : Sto} (h : Ext a b) (g : Ext b c) : Ext a c := by obtain ⟨x, rfl⟩ := h; obtain ⟨y, rfl⟩ := g; exact ⟨x ++ y, by simp⟩
theorem Ext.push {a b : Sto} (h : Ext a b) (x : List AObj) : Ext a (b ++ x) := by obtain ⟨g, rfl⟩ := h; exact ⟨g ++ x, by simp⟩
theorem Ext.set {a b : Sto} (h : Ext a b) {i : Nat} {x : AObj} (hi : a.length ≤ i) : Ext a (b.set i x) := by
 obtain ⟨g, rfl⟩ := h; exact ⟨g.set (i - a.length) x, by rw [List.set_append_right _ _ hi]⟩
theorem Ext.get {a b : Sto} (h : Ext a b) {i : Nat} {x : AObj} (hx : a[i]? = some x) : b[i]? = some x := by
 obtain ⟨g, rfl⟩ := h; rw [List.getElem?_append_left (List.getElem?_eq_some_iff.1 hx).1]; exact hx
theorem Ext.len {a b : Sto} (h : Ext a b) : a.length ≤ b.length := by obtain ⟨g, rfl⟩ := h; simp
def TokAt (σ0 σ : Sto) (m : Nat) (e : TypeId) (t : Tok) : Prop := (t = .full ∧ m = 0) ∨ ∃ id, t = .own id ∧ σ0.length ≤ id ∧ σ[id]? = some (.tok m e)
theorem TokAt.ext {σ0 a b : Sto} {m : Nat} {e : TypeId} {t : Tok} (h : TokAt σ0 a m e t) (g : Ext a b) : TokAt σ0 b m e t := by
 rcases h with h | ⟨id, h1, h2, h3⟩
 · exact .inl h
 · exact .inr ⟨id, h1, h2, g.get h3⟩
theorem TokAt.new {σ0 σ : Sto} {m : Nat} {e : TypeId} (h : Ext σ0 σ) : TokAt σ0 (σ ++ [.tok m e]) m e (.own σ.length) := .inr ⟨_, rfl, h.len, by simp⟩
theorem TokAt.next {σ0 σ : Sto} {i m : Nat} {e : TypeId} (h : Ext σ0 σ) : TokAt σ0 (σ.set i .dead ++ [.tok m e]) m e (.own σ.length) := .inr ⟨_, rfl, h.len, by rw [List.getElem?_append_right (by simp)]; simp⟩
def evStepU (P : Program) (M : List TypeId) (ρ : Operand → Option AV) (σ : Sto) (o : Oper) : Option AStep :=
 match evPure P ρ o with
 | some v => some (.val v σ .pure)
 | none =>
  match evLit P ρ σ o with
  | some s => some s
  | none => evMem P ρ σ o
section
variable {ρ : Operand → Option AV} {ds : Option Tmp} {ty : TypeId} {po : String} {af : Array Edge} {gu : Option (Nat × Bool)}
theorem es_move (x : Operand) : evStep P M ρ σ ⟨ds, .move x, ty, po, af, gu⟩ = evStepU P M ρ σ ⟨ds, .move x, ty, po, af, gu⟩ := rfl
theorem es_assign (x : Operand) : evStep P M ρ σ ⟨ds, .assign x, ty, po, af, gu⟩ = evStepU P M ρ σ ⟨ds, .assign x, ty, po, af, gu⟩ := rfl
theorem es_pick (c x y : Operand) : evStep P M ρ σ ⟨ds, .pick c x y, ty, po, af, gu⟩ = evStepU P M ρ σ ⟨ds, .pick c x y, ty, po, af, gu⟩ := rfl
theorem es_alloc (e : TypeId) : evStep P M ρ σ ⟨ds, .alloc e, ty, po, af, gu⟩ = evStepU P M ρ σ ⟨ds, .alloc e, ty, po, af, gu⟩ := rfl
theorem es_box (e : TypeId) (x : Operand) : evStep P M ρ σ ⟨ds, .box e x, ty, po, af, gu⟩ = evStepU P M ρ σ ⟨ds, .box e x, ty, po, af, gu⟩ := rfl
theorem es_build (t : TypeId) (ps : Array (Nat × Operand)) : evStep P M ρ σ ⟨ds, .build t ps, ty, po, af, gu⟩ = evStepU P M ρ σ ⟨ds, .build t ps, ty, po, af, gu⟩ := rfl
theorem es_buildSlice (t : TypeId) (n : Nat) (ps : Array (Nat × Operand)) (h : M.contains t = false) : evStep P M ρ σ ⟨ds, .buildSlice t n ps, ty, po, af, gu⟩ = evStepU P M ρ σ ⟨ds, .buildSlice t n ps, ty, po, af, gu⟩ := by
 unfold evStep
 rw [if_neg (by simp only [mutOp, h]; exact Bool.false_ne_true)]
 rfl
theorem es_buildSliceM (t : TypeId) (n : Nat) (ps : Array (Nat × Operand)) (h : M.contains t = true) : evStep P M ρ σ ⟨ds, .buildSlice t n ps, ty, po, af, gu⟩ = evMut P ρ σ ⟨ds, .buildSlice t n ps, ty, po, af, gu⟩ := by
 unfold evStep
 rw [if_pos (by simp only [mutOp, h])]
theorem es_makeSliceM (t : TypeId) (x y : Operand) (h : M.contains t = true) : evStep P M ρ σ ⟨ds, .makeSlice t x y, ty, po, af, gu⟩ = evMake P ρ σ t x y := by
 unfold evStep
 rw [if_pos (by simp only [mutOp, h, Bool.or_true])]
 rfl
theorem es_makeSlice0 (t : TypeId) (k : IntKind) (y : Operand) : evStep P M ρ σ ⟨ds, .makeSlice t (.const (.int k 0)) y, ty, po, af, gu⟩ = evMake P ρ σ t (.const (.int k 0)) y := by
 unfold evStep
 rw [if_pos (by simp [mutOp, isZero])]
 rfl
theorem es_appendM (x y : Operand) (t : TypeId) (h : M.contains t = true) : evStep P M ρ σ ⟨ds, .call ⟨.builtin .append, #[x, y], #[t, t]⟩, ty, po, af, gu⟩ = evAppendM P ρ σ t x y := by
 unfold evStep
 rw [if_pos (by simp only [mutOp, h])]
 simp [evMut]
theorem es_load (t : TypeId) (x : Operand) : evStep P M ρ σ ⟨ds, .load t x, ty, po, af, gu⟩ = evStepU P M ρ σ ⟨ds, .load t x, ty, po, af, gu⟩ := rfl
theorem es_store (t : TypeId) (x y : Operand) : evStep P M ρ σ ⟨ds, .store t x y, ty, po, af, gu⟩ = evStepU P M ρ σ ⟨ds, .store t x y, ty, po, af, gu⟩ := rfl
theorem es_makeMap (t : TypeId) (x : Option Operand) : evStep P M ρ σ ⟨ds, .makeMap t x, ty, po, af, gu⟩ = evStepU P M ρ σ ⟨ds, .makeMap t x, ty, po, af, gu⟩ := rfl
theorem es_insert (t : TypeId) (m k x : Operand) : evStep P M ρ σ ⟨ds, .insert t m k x, ty, po, af, gu⟩ = evStepU P M ρ σ ⟨ds, .insert t m k x, ty, po, af, gu⟩ := rfl
theorem es_mapUpdate (t : TypeId) (m k x : Operand) : evStep P M ρ σ ⟨ds, .mapUpdate t m k x, ty, po, af, gu⟩ = evStepU P M ρ σ ⟨ds, .mapUpdate t m k x, ty, po, af, gu⟩ := rfl
theorem es_lookup (t : TypeId) (m k : Operand) (ok : Bool) : evStep P M ρ σ ⟨ds, .lookup t m k ok, ty, po, af, gu⟩ = evStepU P M ρ σ ⟨ds, .lookup t m k ok, ty, po, af, gu⟩ := rfl
theorem es_nilCheck (x : Operand) : evStep P M ρ σ ⟨ds, .nilCheck x, ty, po, af, gu⟩ = evStepU P M ρ σ ⟨ds, .nilCheck x, ty, po, af, gu⟩ := rfl
theorem es_binOp (b : BinOp) (t : TypeId) (x y : Operand) (u : TypeId) : evStep P M ρ σ ⟨ds, .binOp b t x y u, ty, po, af, gu⟩ = evStepU P M ρ σ ⟨ds, .binOp b t x y u, ty, po, af, gu⟩ := rfl
theorem es_unOp (b : UnOp) (t : TypeId) (x : Operand) : evStep P M ρ σ ⟨ds, .unOp b t x, ty, po, af, gu⟩ = evStepU P M ρ σ ⟨ds, .unOp b t x, ty, po, af, gu⟩ := rfl
theorem es_convert (t u : TypeId) (x : Operand) : evStep P M ρ σ ⟨ds, .convert t u x, ty, po, af, gu⟩ = evStepU P M ρ σ ⟨ds, .convert t u x, ty, po, af, gu⟩ := rfl
theorem es_makeInterface (t : TypeId) (x : Operand) : evStep P M ρ σ ⟨ds, .makeInterface t x, ty, po, af, gu⟩ = evStepU P M ρ σ ⟨ds, .makeInterface t x, ty, po, af, gu⟩ := rfl
theorem es_makeFunc (f : Fn) (x y : Array Operand) : evStep P M ρ σ ⟨ds, .makeFunc f x y, ty, po, af, gu⟩ = evStepU P M ρ σ ⟨ds, .makeFunc f x y, ty, po, af, gu⟩ := rfl
theorem es_slice (t : TypeId) (x : Operand) (l h m : Option Operand) : evStep P M ρ σ ⟨ds, .slice t x l h m, ty, po, af, gu⟩ = evStepU P M ρ σ ⟨ds, .slice t x l h m, ty, po, af, gu⟩ := rfl
theorem es_fieldAddr (t : TypeId) (x : Operand) (f : Nat) : evStep P M ρ σ ⟨ds, .fieldAddr t x f, ty, po, af, gu⟩ = evStepU P M ρ σ ⟨ds, .fieldAddr t x f, ty, po, af, gu⟩ := rfl
theorem es_field (t : TypeId) (x : Operand) (f : Nat) : evStep P M ρ σ ⟨ds, .field t x f, ty, po, af, gu⟩ = evStepU P M ρ σ ⟨ds, .field t x f, ty, po, af, gu⟩ := rfl
theorem es_indexAddr (t : TypeId) (x y : Operand) : evStep P M ρ σ ⟨ds, .indexAddr t x y, ty, po, af, gu⟩ = evStepU P M ρ σ ⟨ds, .indexAddr t x y, ty, po, af, gu⟩ := rfl
theorem es_index (t : TypeId) (x y : Operand) : evStep P M ρ σ ⟨ds, .index t x y, ty, po, af, gu⟩ = evStepU P M ρ σ ⟨ds, .index t x y, ty, po, af, gu⟩ := rfl
theorem es_extract (x : Operand) (i : Nat) : evStep P M ρ σ ⟨ds, .extract x i, ty, po, af, gu⟩ = evStepU P M ρ σ ⟨ds, .extract x i, ty, po, af, gu⟩ := rfl
theorem es_panic (x : Operand) : evStep P M ρ σ ⟨ds, .panic x, ty, po, af, gu⟩ = evStepU P M ρ σ ⟨ds, .panic x, ty, po, af, gu⟩ := rfl
theorem es_callV (f : Operand) (l : Array Operand) (ts : Array TypeId) : evStep P M ρ σ ⟨ds, .call ⟨.value f, l, ts⟩, ty, po, af, gu⟩ = evStepU P M ρ σ ⟨ds, .call ⟨.value f, l, ts⟩, ty, po, af, gu⟩ := rfl
theorem es_len (l : Array Operand) (ts : Array TypeId) : evStep P M ρ σ ⟨ds, .call ⟨.builtin .len, l, ts⟩, ty, po, af, gu⟩ = evStepU P M ρ σ ⟨ds, .call ⟨.builtin .len, l, ts⟩, ty, po, af, gu⟩ := rfl
end
theorem append_at {σ0 : Sto} {es fs : List (List AV)} {tok tk : Tok} {t e k by_ : Nat} {z : Value} (ht : P.underlying t = some (.slice e)) (hk : szOf P e = some (k + 1)) (hb : bytesOf P e = some by_) (hz : ((P.info? e).bind fun x => x.zero) = some z) (hzk : z.cells.size = k + 1)
    (htok : TokAt σ0 σ (es.length * (k + 1)) e tok) (hext : Ext σ0 σ) (h1 : es.head?.all (·.length == k + 1) = true) (h2 : fs.head?.all (·.length == k + 1) = true) (hf : fs.length ≠ 0) (hby : (es.length + fs.length) * by_ ≤ 140737488355328) (hle : es.length + fs.length ≤ 140737488355328) (hMt : M.contains t = false := by rfl) :
    ∃ t' σ' acc, Ext σ0 σ' ∧ TokAt σ0 σ' ((es.length + fs.length) * (k + 1)) e t' ∧ ∀ (tm : List AV) (ds : Option Tmp) (ty : TypeId) (po : String) (af : Array Edge) (gu : Option (Nat × Bool)) (x y : Operand), evx tm x = some (.sl es tok) → evx tm y = some (.sl fs tk) →
     evStep P M (evx tm) σ ⟨ds, .call ⟨.builtin .append, #[x, y], #[t, t]⟩, ty, po, af, gu⟩ = some (.val (.sl (es ++ stripRows fs) t') σ' acc) := by
 have hlit : ∀ (tm : List AV) (ds : Option Tmp) (ty : TypeId) (po : String) (af : Array Edge) (gu : Option (Nat × Bool)) (x y : Operand), evx tm x = some (.sl es tok) → evLit P (evx tm) σ ⟨ds, .call ⟨.builtin .append, #[x, y], #[t, t]⟩, ty, po, af, gu⟩ = none := by
  intro tm ds ty po af gu x y hx
  unfold evLit
  simp [Op.operands, Call.operands, hx, conc, conc2]
 have hap : ∀ (tm : List AV) (ds : Option Tmp) (ty : TypeId) (po : String) (af : Array Edge) (gu : Option (Nat × Bool)) (x y : Operand), evx tm x = some (.sl es tok) → evStep P M (evx tm) σ ⟨ds, .call ⟨.builtin .append, #[x, y], #[t, t]⟩, ty, po, af, gu⟩ = evAppend P (evx tm) σ t x y := by
  intro tm ds ty po af gu x y hx
  unfold evStep
  rw [if_neg (by simp only [mutOp, hMt]; exact Bool.false_ne_true), hlit tm ds ty po af gu x y hx]
  simp [evPure, evMem]
 have hz' : ((P.info? e).bind (·.zero)).map (·.cells.size) = some (k + 1) := by rw [hz]; simp [hzk]
 rcases htok with ⟨rfl, h0⟩ | ⟨id, rfl, hid, hσ⟩
 · refine ⟨.own σ.length, _, .news σ.length, hext.push _, TokAt.new hext, fun tm ds ty po af gu x y hx hy => ?_⟩
   rw [hap _ _ _ _ _ _ _ _ hx]
   unfold evAppend
   simp only [ht, hx, hy, hk, hb, hz']
   rw [if_pos ⟨trivial, h1, h2, hby, hle⟩, if_neg hf]
 · refine ⟨.own σ.length, _, .any, (hext.set hid).push _, TokAt.next hext, fun tm ds ty po af gu x y hx hy => ?_⟩
   rw [hap _ _ _ _ _ _ _ _ hx]
   unfold evAppend
   simp only [ht, hx, hy, hk, hb, hz']
   rw [if_pos ⟨trivial, h1, h2, hby, hle⟩, if_neg hf]
   simp only [hσ, and_self, if_true]
theorem es_max {ρ : Operand → Option AV} {ds : Option Tmp} {ty : TypeId} {po : String} {af : Array Edge} {gu : Option (Nat × Bool)} {x y : Operand} {ts : Array TypeId} {a b : Int} (hx : ρ x = some (.lit (.int .i64 a))) (hy : ρ y = some (.lit (.int .i64 b))) :
    evStep P M ρ σ ⟨ds, .call ⟨.builtin .max, #[x, y], ts⟩, ty, po, af, gu⟩ = some (.val (.lit (.int .i64 (if b > a then b else a))) σ .pure) := by
 have e : execOp (fun x => ((ρ x).bind conc).getD undef) ⟨ds, .call ⟨.builtin .max, #[x, y], ts⟩, ty, po, af, gu⟩ = Sem.pure (.value (.int .i64 (if b > a then b else a))) := by
  unfold execOp
  simp only [resolve, List.map_toArray, List.map_cons, List.map_nil, hx, hy, Option.bind_some, conc, conc2, Option.getD_some]
  rfl
 have hl : evLit P ρ σ ⟨ds, .call ⟨.builtin .max, #[x, y], ts⟩, ty, po, af, gu⟩ = some (.val (.lit (.int .i64 (if b > a then b else a))) σ .pure) := by
  unfold evLit
  dsimp only
  rw [e]
  have hall : ((Op.call ⟨.builtin .max, #[x, y], ts⟩).operands.all fun x => ((ρ x).bind conc).isSome) = true := by simp [Op.operands, Call.operands, hx, hy, conc, conc2]
  rw [if_pos hall]
  rfl
 unfold evStep
 rw [if_neg (by simp [mutOp]), hl]
 simp [evPure]
def yv : AV → Option Bool
 | .lit (.bool b) => some b
 | _ => none
theorem yielded_eq {tm : List AV} {j : Nat} : yieldedA ops tm j = (match (ops[j]?).bind (·.dst) with | none => none | some d => if d < tm.length then yv (slot tm d) else none) := by
 unfold yieldedA
 cases hd : (ops[j]?).bind (·.dst) with
 | none => rfl
 | some d =>
  simp only [Option.bind_some]
  split
  · rename_i b hb
    have hl := (List.getElem?_eq_some_iff.1 hb).1
    rw [if_pos hl]
    unfold slot
    rw [List.getD_eq_getElem?_getD, hb]; rfl
  · rename_i hn
    split
    · rename_i hl
      unfold slot
      rw [List.getD_eq_getElem?_getD]
      rw [List.getElem?_eq_getElem hl] at hn ⊢
      simp only [Option.getD_some]
      unfold yv
      split
      · rename_i b hb; exact (hn b (by rw [hb])).elim
      · rfl
    · rfl
theorem LW_guardS {j : Nat} {b : Bool} {d : Option Tmp} {op : Op} {ty : TypeId} {po : String} {af : Array Edge} (h : (yieldedA ops tm j).isSome = true) : LW P E M ops (⟨d, op, ty, po, af, some (j, b)⟩ :: rest) tm σ Q =
    if (yieldedA ops tm j).getD false = b then LW P E M ops (⟨d, op, ty, po, af, none⟩ :: rest) tm σ Q else LW P E M ops rest (putA tm d (.tup [])) σ Q := by
 obtain ⟨c, hc⟩ := Option.isSome_iff_exists.1 h
 rw [LW_guard (o := ⟨d, op, ty, po, af, some (j, b)⟩) rfl hc, hc]
 rfl
theorem DW_guardS {j : Nat} {b : Bool} {d : Option Tmp} {op : Op} {ty : TypeId} {po : String} {af : Array Edge} (h : (yieldedA ops tm j).isSome = true) : DW P E M ops (⟨d, op, ty, po, af, some (j, b)⟩ :: rest) accs tm σ Q =
    if (yieldedA ops tm j).getD false = b then DW P E M ops (⟨d, op, ty, po, af, none⟩ :: rest) accs tm σ Q else DW P E M ops rest (.pure :: accs) (putA tm d (.tup [])) σ Q := by
 obtain ⟨c, hc⟩ := Option.isSome_iff_exists.1 h
 rw [DW_guard (o := ⟨d, op, ty, po, af, some (j, b)⟩) rfl hc, hc]
 rfl
theorem LW_guardN {j : Nat} {b : Bool} {d : Option Tmp} {op : Op} {ty : TypeId} {po : String} {af : Array Edge} (h : (yieldedA ops tm j).isNone = true) : LW P E M ops (⟨d, op, ty, po, af, some (j, b)⟩ :: rest) tm σ Q = LW P E M ops rest (putA tm d (.tup [])) σ Q := by
 rw [LW, if_neg]
 unfold Region.wanted
 simp [Option.isNone_iff_eq_none.1 h]
theorem DW_guardN {j : Nat} {b : Bool} {d : Option Tmp} {op : Op} {ty : TypeId} {po : String} {af : Array Edge} (h : (yieldedA ops tm j).isNone = true) : DW P E M ops (⟨d, op, ty, po, af, some (j, b)⟩ :: rest) accs tm σ Q = DW P E M ops rest (.pure :: accs) (putA tm d (.tup [])) σ Q := by
 rw [DW, if_neg]
 unfold Region.wanted
 simp [Option.isNone_iff_eq_none.1 h]
end
theorem evLit_alloc {P : Program} {ρ : Operand → Option AV} {σ : Sto} {b : TypeId} {z : Value} {ds : Option Tmp} {ty : TypeId} {po : String} {af : Array Edge} {gu : Option (Nat × Bool)} (hz : ((P.info? b).bind fun x => x.zero) = some z) (w : World) : evLit P ρ σ ⟨ds, .alloc b, ty, po, af, gu⟩ = none := by
 obtain ⟨ie, hie, hz'⟩ := Option.bind_eq_some_iff.1 hz
 unfold evLit
 dsimp only
 split
 · have hr : (execOp (fun x => ((ρ x).bind conc).getD undef) ⟨ds, .alloc b, ty, po, af, gu⟩).run P w = .ok (.value (.pointer (some ⟨w.heap.size, 0, none⟩))) (w.alloc (.cells z.cells b)) := by
    unfold execOp
    refine run_v ?_
    simp [Instr.alloc, zeroValue, typeInfo, hie, hz', newVar, newRow]
   cases hp : pureRun P (execOp (fun x => ((ρ x).bind conc).getD undef) ⟨ds, .alloc b, ty, po, af, gu⟩) with
   | none => rfl
   | some q =>
    cases q with
    | inl x =>
     have := pureRun_ok hp w
     rw [hr] at this
     injection this with _ h2
     have h3 := congrArg (fun w : World => w.heap.size) h2
     simp at h3
    | inr v =>
     have := pureRun_panic hp w
     rw [hr] at this
     cases this
 · rfl
theorem evLit_box {P : Program} {ρ : Operand → Option AV} {σ : Sto} {b : TypeId} {x : Operand} {ds : Option Tmp} {ty : TypeId} {po : String} {af : Array Edge} {gu : Option (Nat × Bool)} (w : World) : evLit P ρ σ ⟨ds, .box b x, ty, po, af, gu⟩ = none := by
 unfold evLit
 dsimp only
 split
 · have hr : (execOp (fun x => ((ρ x).bind conc).getD undef) ⟨ds, .box b x, ty, po, af, gu⟩).run P w = .ok (.value (.pointer (some ⟨w.heap.size, 0, none⟩))) (w.alloc (.cells (((ρ x).bind conc).getD undef).cells b)) := by
    unfold execOp
    refine run_v ?_
    simp [Instr.box, newVar, newRow]
   cases hp : pureRun P (execOp (fun x => ((ρ x).bind conc).getD undef) ⟨ds, .box b x, ty, po, af, gu⟩) with
   | none => rfl
   | some q =>
    cases q with
    | inl x =>
     have := pureRun_ok hp w
     rw [hr] at this
     injection this with _ h2
     have h3 := congrArg (fun w : World => w.heap.size) h2
     simp at h3
    | inr v =>
     have := pureRun_panic hp w
     rw [hr] at this
     cases this
 · rfl
theorem es_boxV {P : Program} {M : List TypeId} {ρ : Operand → Option AV} {σ : Sto} {b : TypeId} {x : Operand} {ds : Option Tmp} {ty : TypeId} {po : String} {af : Array Edge} {gu : Option (Nat × Bool)} (hx : (ρ x).isSome = true) (ht : ((ρ x).getD (.tup [])).notTup = true) :
    evStep P M ρ σ ⟨ds, .box b x, ty, po, af, gu⟩ = some (.val (.ptr σ.length 0) (σ ++ [.cells ((ρ x).getD (.tup [])).cells b]) (.news σ.length)) := by
 obtain ⟨d, hd⟩ := Option.isSome_iff_exists.1 hx
 rw [hd] at ht
 simp only [Option.getD_some] at ht
 rw [es_box]
 unfold evStepU
 rw [evLit_box default]
 simp [evPure, evMem, hd, ht]
theorem es_allocV {P : Program} {M : List TypeId} {ρ : Operand → Option AV} {σ : Sto} {b : TypeId} {ds : Option Tmp} {ty : TypeId} {po : String} {af : Array Edge} {gu : Option (Nat × Bool)} (hz : (((P.info? b).bind fun x => x.zero).bind abs2).isSome = true) (ht : ((((P.info? b).bind fun x => x.zero).bind abs2).getD (.tup [])).notTup = true) :
    evStep P M ρ σ ⟨ds, .alloc b, ty, po, af, gu⟩ = some (.val (.ptr σ.length 0) (σ ++ [.cells ((((P.info? b).bind fun x => x.zero).bind abs2).getD (.tup [])).cells b]) (.news σ.length)) := by
 obtain ⟨d, hd⟩ := Option.isSome_iff_exists.1 hz
 rw [hd] at ht ⊢
 simp only [Option.getD_some] at ht
 obtain ⟨z, hz', hd'⟩ := Option.bind_eq_some_iff.1 hd
 rw [es_alloc]
 unfold evStepU
 rw [evLit_alloc hz' default]
 simp [evPure, evMem, hz', hd', ht]
set_option linter.defProp false in
def symB :=
 (And.intro (And.intro (And.intro (And.intro (And.intro (And.intro (And.intro @LW_nil (And.intro @LW_guardS @DW_guardS)) (And.intro @LW_guardN (And.intro @DW_guardN @yielded_eq))) (And.intro (And.intro @LW_val (And.intro @LW_skip @LW_enter)) (And.intro (And.intro @DW_nil @DW_val) (And.intro @DW_skip @DW_enter)))) (And.intro (And.intro (And.intro @es_move (And.intro @es_assign @es_pick)) (And.intro @es_allocV (And.intro @es_boxV @es_build))) (And.intro (And.intro @es_buildSlice (And.intro @es_buildSliceM @es_appendM)) (And.intro (And.intro @es_load @es_store) (And.intro @es_nilCheck @es_binOp))))) (And.intro (And.intro (And.intro (And.intro @es_unOp (And.intro @es_convert @es_makeInterface)) (And.intro @es_makeFunc (And.intro @es_slice @es_fieldAddr))) (And.intro (And.intro @es_field (And.intro @es_indexAddr @es_index)) (And.intro (And.intro @es_extract @es_panic) (And.intro @es_callV @es_len)))) (And.intro (And.intro (And.intro @es_max (And.intro @es_makeSliceM @es_makeSlice0)) (And.intro (And.intro @es_makeMap @es_insert) (And.intro @es_mapUpdate @es_lookup))) (And.intro (And.intro @zT (And.intro @evx_const @evx_func)) (And.intro (And.intro @putA_some @putA_none) (And.intro @slot_ne @slot_eq)))))) (And.intro (And.intro (And.intro (And.intro (And.intro @yv.eq_1 (And.intro @yv.eq_2 @evMut.eq_1)) (And.intro @evAppendM.eq_1 (And.intro @rowsA.eq_1 @rowsA.eq_2))) (And.intro (And.intro @rowsA.eq_3 (And.intro @evMake.eq_1 @isZero.eq_1)) (And.intro (And.intro @isZero.eq_2 @evStepU.eq_1) (And.intro @evPure.eq_1 @evLit.eq_1)))) (And.intro (And.intro (And.intro @evMem.eq_1 (And.intro @evMk.eq_1 @evMk.eq_2)) (And.intro @evPut.eq_1 (And.intro @evGet.eq_1 @evLenM.eq_1))) (And.intro (And.intro @lookA.eq_1 (And.intro @mapGet.eq_1 @mapGet.eq_2)) (And.intro (And.intro @mapPut.eq_1 @mapPut.eq_2) (And.intro @keyEq.eq_1 @keyEq.eq_2))))) (And.intro (And.intro (And.intro (And.intro @keyEq.eq_3 (And.intro @keyEq.eq_4 @KK.fits.eq_1)) (And.intro @KK.fits.eq_2 (And.intro @KK.fits.eq_3 @KK.fits.eq_4))) (And.intro (And.intro @kkOf.eq_1 (And.intro @kkOf.eq_2 @kkOf.eq_3)) (And.intro (And.intro @kkOf.eq_4 @isVal.eq_1) (And.intro @isVal.eq_2 @valOf.eq_1)))) (And.intro (And.intro (And.intro @valOf.eq_2 (And.intro @stOf.eq_1 @stOf.eq_2)) (And.intro (And.intro @stOf.eq_3 @accOf.eq_1) (And.intro @accOf.eq_2 @accOf.eq_3))) (And.intro (And.intro @isSkip.eq_1 (And.intro @isSkip.eq_2 @isEnter.eq_1)) (And.intro (And.intro @isEnter.eq_2 @fnOf.eq_1) (And.intro @fnOf.eq_2 @argsOf.eq_1))))))) (And.intro (And.intro (And.intro (And.intro (And.intro (And.intro @argsOf.eq_2 (And.intro @absV.eq_1 @absV.eq_2)) (And.intro @absV.eq_3 (And.intro @abs2.eq_1 @abs2.eq_2))) (And.intro (And.intro @abs1.eq_1 (And.intro @abs1.eq_2 @abs1.eq_3)) (And.intro (And.intro @scal.eq_1 @scal.eq_2) (And.intro @scal.eq_3 @scal.eq_4)))) (And.intro (And.intro (And.intro @scal.eq_5 (And.intro @scal.eq_6 @scal.eq_7)) (And.intro @scal.eq_8 (And.intro @binL.eq_1 @binL.eq_2))) (And.intro (And.intro @binL.eq_3 (And.intro @binL.eq_4 @binL.eq_5)) (And.intro (And.intro @binL.eq_6 @binL.eq_7) (And.intro @binL.eq_8 @binL.eq_9))))) (And.intro (And.intro (And.intro (And.intro @binL.eq_10 (And.intro @binL.eq_11 @binL.eq_12)) (And.intro @binL.eq_13 (And.intro @binL.eq_14 @binL.eq_15))) (And.intro (And.intro @binL.eq_16 (And.intro @binL.eq_17 @litInt.eq_1)) (And.intro (And.intro @litInt.eq_2 @conc.eq_1) (And.intro @conc.eq_2 @conc.eq_3)))) (And.intro (And.intro (And.intro @conc2.eq_1 (And.intro @conc2.eq_2 @conc2.eq_3)) (And.intro (And.intro @lit?.eq_1 @lit?.eq_2) (And.intro @omap.eq_1 @omap.eq_2))) (And.intro (And.intro @parts?.eq_1 (And.intro @partA.eq_1 @fillA.eq_1)) (And.intro (And.intro @fillA.eq_2 @putCells.eq_1) (And.intro @putCells.eq_2 @chunks.eq_1)))))) (And.intro (And.intro (And.intro (And.intro (And.intro @chunks.eq_2 (And.intro @AV.cells.eq_1 @AV.cells.eq_2)) (And.intro @AV.notTup.eq_1 (And.intro @AV.notTup.eq_2 @Go.Op.operands.eq_1))) (And.intro (And.intro @Go.Op.operands.eq_2 (And.intro @Go.Op.operands.eq_3 @Go.Op.operands.eq_4)) (And.intro (And.intro @Go.Op.operands.eq_5 @Go.Op.operands.eq_6) (And.intro @Go.Op.operands.eq_7 @Go.Op.operands.eq_8)))) (And.intro (And.intro (And.intro @Go.Op.operands.eq_9 (And.intro @Go.Op.operands.eq_10 @Go.Op.operands.eq_11)) (And.intro @Go.Op.operands.eq_12 (And.intro @Go.Op.operands.eq_13 @Go.Op.operands.eq_14))) (And.intro (And.intro @Go.Op.operands.eq_15 (And.intro @Go.Op.operands.eq_16 @Go.Op.operands.eq_17)) (And.intro (And.intro @Go.Op.operands.eq_18 @Go.Op.operands.eq_19) (And.intro @Go.Op.operands.eq_20 @Go.Op.operands.eq_21))))) (And.intro (And.intro (And.intro (And.intro @Go.Op.operands.eq_22 (And.intro @Go.Op.operands.eq_23 @Go.Op.operands.eq_24)) (And.intro @Go.Op.operands.eq_25 (And.intro @Go.Op.operands.eq_26 @Go.Op.operands.eq_27))) (And.intro (And.intro @Go.Op.operands.eq_28 (And.intro @Go.Op.operands.eq_29 @Go.Op.operands.eq_30)) (And.intro (And.intro @Go.Op.operands.eq_31 @Go.Op.operands.eq_32) (And.intro @Go.Op.operands.eq_33 @Go.Op.operands.eq_34)))) (And.intro (And.intro (And.intro @Go.Op.operands.eq_35 (And.intro @Go.Op.operands.eq_36 @Go.Op.operands.eq_37)) (And.intro (And.intro @Go.Op.operands.eq_38 @Go.Op.operands.eq_39) (And.intro @Go.Op.operands.eq_40 @Go.Op.operands.eq_41))) (And.intro (And.intro @Go.Op.operands.eq_42 (And.intro @Go.Op.operands.eq_43 @Go.Call.operands.eq_1)) (And.intro (And.intro @stripRows.eq_1 @AV.strip.eq_1) (And.intro @AV.strip.eq_2 @aggT.eq_1))))))))
end Go.Proofs.YtmmgjaheffbpaaaGreatDoor
