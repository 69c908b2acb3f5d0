/-
  EV: THE CHOICE BETWEEN GO's TWO ORDERS: both may be.
-/
import Derived.Test.YtocaickbfeaiaaaDoorEvCh
namespace Go.Proofs.YtocaickbfeaiaaaDoor
set_option linter.unusedSimpArgs false
set_option linter.unusedVariables false
open Go.RowKit

theorem J.choice {P : Program} {E : Env} {M : List TypeId} {id t1 t2 b : Nat} {ty0 ty1 ty2 ty3 : TypeId} {p0 p1 p2 p3 : String} {a0 a1 a2 a3 : Array Edge} {tm : List AV} {σ : Sto} {Q : AExit → List AV → Sto → Prop} {ops : Array Oper}
    (hops : ops = #[⟨some t1, .alloc b, ty0, p0, a0, none⟩, ⟨none, .store b (.tmp t1) (.const (.bool true)), ty1, p1, a1, none⟩, ⟨none, .store b (.tmp t1) (.const (.bool false)), ty2, p2, a2, none⟩, ⟨some t2, .load b (.tmp t1), ty3, p3, a3, none⟩])
    (hs : szOf P b = some 1) (hz : ((P.info? b).bind fun x => x.zero) = some (.bool false)) (hg : aggT P b = some false) (h1 : t1 < tm.length) (h2 : t2 < tm.length)
    (r0 : Region.ready .any ops #[false, false, false, false] = [0]) (r1 : Region.ready .any ops #[true, false, false, false] = [1, 2]) (r2 : Region.ready .any ops #[true, true, false, false] = [2]) (r3 : Region.ready .any ops #[true, false, true, false] = [1])
    (r4 : Region.ready .any ops #[true, true, true, false] = [3]) (r5 : Region.ready .any ops #[true, true, true, true] = [])
    (h : ∀ v, Q .normal ((tm.set t1 (.ptr σ.length 0)).set t2 (.lit (.bool v))) (σ ++ [.cells [.lit (.bool v)] b])) : J P E (.code M (.region id ops true) tm σ Q) := by
  have w0 : ∀ (o : Oper) (tm : List AV), o.guard = none → Region.wanted o (yieldedA ops tm) = true := by intro o tm hg; unfold Region.wanted; rw [hg]
  have hsz : ops.size = 4 := by rw [hops]; rfl
  have e1 : slot (tm.set t1 (.ptr σ.length 0)) t1 = .ptr σ.length 0 := slot_eq h1
  have fin : ∀ v, J P E (.any M ops 1 #[true, true, true, false] (tm.set t1 (.ptr σ.length 0)) (σ ++ [.cells [.lit (.bool v)] b]) Q) := by
    intro v
    refine .anyStep [3] (fun _ => ⟨some t2, .load b (.tmp t1), ty3, p3, a3, none⟩) (fun _ => .reads σ.length) (fun _ => (tm.set t1 (.ptr σ.length 0)).set t2 (.lit (.bool v))) (fun _ => σ ++ [.cells [.lit (.bool v)] b]) r4 (by simp) (by simp [hops]) ?_ ?_
    · intro i hi
      unfold evOp
      rw [w0 _ _ rfl, if_pos rfl]
      simp [es_load, evStepU, evPure, evLit, evMem, evx_tmp, e1, Op.operands, conc, conc2, partA, hg, hs, mutOp, putA]
    · intro i hi
      simp at hi; subst hi
      exact .anyDone r5 (h v)
  have st : ∀ (x v : Bool) (ty : TypeId) (po : String) (af : Array Edge), evOp P M noCall ops ⟨none, .store b (.tmp t1) (.const (.bool v)), ty, po, af, none⟩ (tm.set t1 (.ptr σ.length 0)) (σ ++ [.cells [.lit (.bool x)] b]) = some (.inr (tm.set t1 (.ptr σ.length 0), .writes σ.length), σ ++ [.cells [.lit (.bool v)] b]) := by
    intro x v ty po af
    unfold evOp
    rw [w0 _ _ rfl, if_pos rfl]
    simp [es_store, evStepU, evPure, evLit, evMem, evx_tmp, evx_const, e1, Op.operands, conc, conc2, absV, abs2, abs1, scal, hs, mutOp, putA, putCells, AV.cells, AV.notTup]
  have al : evOp P M noCall ops ⟨some t1, .alloc b, ty0, p0, a0, none⟩ tm σ = some (.inr (tm.set t1 (.ptr σ.length 0), .news σ.length), σ ++ [.cells [.lit (.bool false)] b]) := by
    unfold evOp
    rw [w0 _ _ rfl, if_pos rfl]
    have hl : evLit P (evx tm) σ ⟨some t1, .alloc b, ty0, p0, a0, none⟩ = none := evLit_alloc hz default
    simp [es_alloc, evStepU, evPure, hl, evMem, hz, abs2, abs1, scal, mutOp, putA, AV.cells, AV.notTup]
  refine .anyRegion ?_
  rw [hsz]
  refine .anyStep [0] (fun _ => ⟨some t1, .alloc b, ty0, p0, a0, none⟩) (fun _ => .news σ.length) (fun _ => tm.set t1 (.ptr σ.length 0)) (fun _ => σ ++ [.cells [.lit (.bool false)] b]) r0 (by simp) (by simp [hops]) (fun _ _ => al) ?_
  intro i hi
  simp at hi; subst hi
  refine .anyStep [1, 2] (fun i => if i = 1 then ⟨none, .store b (.tmp t1) (.const (.bool true)), ty1, p1, a1, none⟩ else ⟨none, .store b (.tmp t1) (.const (.bool false)), ty2, p2, a2, none⟩) (fun _ => .writes σ.length) (fun _ => tm.set t1 (.ptr σ.length 0)) (fun i => σ ++ [.cells [.lit (.bool (i == 1))] b]) r1 (by simp) (by simp [hops]) ?_ ?_
  · intro i hi
    simp at hi
    rcases hi with rfl | rfl
    · exact st false true _ _ _
    · exact st false false _ _ _
  · intro i hi
    simp at hi
    rcases hi with rfl | rfl
    · refine .anyStep [2] (fun _ => ⟨none, .store b (.tmp t1) (.const (.bool false)), ty2, p2, a2, none⟩) (fun _ => .writes σ.length) (fun _ => tm.set t1 (.ptr σ.length 0)) (fun _ => σ ++ [.cells [.lit (.bool false)] b]) r2 (by simp) (by simp [hops]) (fun _ _ => st true false _ _ _) ?_
      intro i hi
      simp at hi; subst hi
      exact fin false
    · refine .anyStep [1] (fun _ => ⟨none, .store b (.tmp t1) (.const (.bool true)), ty1, p1, a1, none⟩) (fun _ => .writes σ.length) (fun _ => tm.set t1 (.ptr σ.length 0)) (fun _ => σ ++ [.cells [.lit (.bool true)] b]) r3 (by simp) (by simp [hops]) (fun _ _ => st false true _ _ _) ?_
      intro i hi
      simp at hi; subst hi
      exact fin true

end Go.Proofs.YtocaickbfeaiaaaDoor
