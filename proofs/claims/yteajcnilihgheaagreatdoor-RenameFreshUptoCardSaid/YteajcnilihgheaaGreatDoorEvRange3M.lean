/-
 EV: A FUNCTION THAT HOLDS A RANGE OVER A FUNCTION: its code up to the loop, the loop, what is behind it.
-/
import Derived.Test.YteajcnilihgheaaGreatDoorKSameM
import Derived.Test.YteajcnilihgheaaGreatDoorEvForgetM
import Derived.Test.YteajcnilihgheaaGreatDoorEvSimM
import Derived.Recover
import Derived.Test.YteajcnilihgheaaGreatDoorDataM
namespace Go.Proofs.YteajcnilihgheaaGreatDoor
set_option linter.unusedSimpArgs false
set_option linter.unusedVariables false
section
open Go.RowKit
section
variable (P : Program) (fn : Func) (Q : ARes → Sto → Prop) (ι0 : List Nat) (Z0 : Nat → Nat → Prop) (w0 : World)
def EndR (e : Ending) (w' : World) : Prop := ∃ r σ' ι' Z', Q r σ' ∧ Evo ι0 Z0 w0 ι' Z' w' ∧ Match σ' ι' Z' w' ∧ ERel ι' Z' w' r e
def Sem (c : Code) (tm : List AV) (σ : Sto) : Prop := ∀ (ι : List Nat) (Z : Nat → Nat → Prop) (w : World) (a : Act), Evo ι0 Z0 w0 ι Z w → Match σ ι Z w → FR ι Z w tm a.tmps → a.defers = [] → c.wp P (bodyPostM Fence.wide 1 P fn (EndR Q ι0 Z0 w0)) a w
def SemM (c : Code) (tm : List AV) (σ : Sto) : Prop := ∀ (ι : List Nat) (Z : Nat → Nat → Prop) (w : World) (a : Act) (D : Nat), Marked ι0 Z0 w0 D ι Z w → Match σ ι Z w → FR ι Z w tm a.tmps → a.defers = [{ target := .collected D, args := #[] }] → c.wp P (bodyPostM Fence.wide 1 P fn (EndR Q ι0 Z0 w0)) a w
end
section
variable {P : Program} {E : Env} {M : List TypeId} {fn : Func} {Q : ARes → Sto → Prop} {ι0 : List Nat} {Z0 : Nat → Nat → Prop} {w0 : World}
def Go1 (P : Program) (fn : Func) (Q : ARes → Sto → Prop) (N : List AV → Sto → Prop) : AExit → List AV → Sto → Prop
 | .normal, tm, σ => N tm σ
 | .ret, tm, σ => ∃ v, zA P fn tm σ = some v ∧ Q (.ret v) σ
 | _, _, _ => False
theorem Sem.seq (hm : P.follows .mixedOrders = true) (hE : EnvOk P E) {c d : Code} {tm : List AV} {σ : Sto} (h : JD P E M c tm σ (Go1 P fn Q fun tm σ => Sem P fn Q ι0 Z0 w0 d tm σ)) : Sem P fn Q ι0 Z0 w0 (.seq c d) tm σ := by
 intro ι Z w a hev hM hF hd
 refine wp_seq (J.tells hm hE h ι Z w a hM hF _ fun x tm' σ' e a' w' hq hx => ?_)
 obtain ⟨ι', Z', ha, hxr⟩ := hx
 cases x with
 | normal =>
  cases hxr
  exact hq ι' Z' w' a' (hev.trans ha.1) ha.2.1 ha.2.2.1 (ha.2.2.2.trans hd)
 | ret =>
  cases hxr
  obtain ⟨v, hv, hQ⟩ := hq
  obtain ⟨u, g1, g2⟩ := results_rel ha.2.1 ha.2.2.1 hv
  have hd' : a'.defers = [] := ha.2.2.2.trans hd
  show LeavesInM Fence.wide 1 P fn a'.tmps _ a'.defers .returning w'
  rw [hd']
  exact ⟨u, g1, .ret v, σ', ι', Z', hQ, hev.trans ha.1, ha.2.1, u, rfl, g2⟩
 | _ => exact hq.elim
theorem Sem.seqK (hm : P.follows .mixedOrders = true) (hE : EnvOk P E) {c d : Code} {tm : List AV} {σ : Sto} (h : ∀ K : AExit → List AV → Sto → Prop, (∀ tm σ, Sem P fn Q ι0 Z0 w0 d tm σ → K .normal tm σ) → (∀ tm σ v, zA P fn tm σ = some v → Q (.ret v) σ → K .ret tm σ) → JD P E M c tm σ K) : Sem P fn Q ι0 Z0 w0 (.seq c d) tm σ :=
 Sem.seq hm hE (h _ (fun _ _ h => h) fun _ _ v h1 h2 => ⟨v, h1, h2⟩)
theorem Sem.range (hm : P.follows .mixedOrders = true) (hE : EnvOk P E) {id : Nat} {g : Operand} {ps : Array Tmp} {assign body pre rest : Code} {tm : List AV} {σ : Sto}
    (h : JD P E M pre tm σ (Go1 P fn (fun _ _ => False) fun tm σ => ∃ (f : FuncId) (cap : List AV) (R : Sto → Prop), evx tm g = some (.fn (.func f) [] cap) ∧ (∀ args w, (callFunc f args).run P w = .ok (.enter f args) w) ∧
     (∀ (L : Nat) (r : Loop) (cs : Array Value) (ι : List Nat) (Z : Nat → Nat → Prop) (w : World), r.state = .ready → r.pending = none → r.params = ps → r.assign = assign → r.body = body → FR ι Z w tm r.tmps → Rec L r ι Z w → Match σ ι Z w → cap.length = cs.size → (∀ (i : Nat) (d : AV) (u : Value), cap[i]? = some d → cs[i]? = some u → VR ι Z w d u) →
      CallsIn Fence.wide 0 P f (#[.func (.yield L) #[] #[]] ++ cs) w fun e w' => (∃ v, e = .returned v) ∧ ∃ σ' ι' Z', R σ' ∧ Evo ι Z w ι' Z' w' ∧ Match σ' ι' Z' w') ∧
     ∀ σ', R σ' → SemM P fn Q ι0 Z0 w0 rest tm σ')) : Sem P fn Q ι0 Z0 w0 (.seq (.seq pre (.block id (.rangeFunc g ps assign body))) rest) tm σ := by
 intro ι Z w a hev hM hF hd
 refine wp_seq (wp_seq (J.tells hm hE h ι Z w a hM hF _ fun x tm' σ' e a' w' hq hx => ?_))
 obtain ⟨ι', Z', ha, hxr⟩ := hx
 cases x with
 | normal =>
  cases hxr
  obtain ⟨f, cap, R, hg, hrun, hit, hk⟩ := hq
  refine wp_block (wp_range hm hg hrun hit (hev.trans ha.1) ha.2.1 ha.2.2.1 ?_)
  intro σ2 ι2 Z2 w2 D hR hmk m2 f2
  refine hk σ2 hR ι2 Z2 w2 _ D hmk m2 f2 ?_
  show _ :: a'.defers = _
  rw [ha.2.2.2.trans hd]
 | ret => obtain ⟨v, _, hf⟩ := hq; exact hf.elim
 | _ => exact hq.elim
theorem SemM.of (hm : P.follows .mixedOrders = true) (hE : EnvOk P E) {c : Code} {tm : List AV} {σ : Sto} (h : JD P E M c tm σ (Go1 P fn Q fun _ _ => False)) : SemM P fn Q ι0 Z0 w0 c tm σ := by
 intro ι Z w a D hmk hM hF hd
 refine J.tells hm hE h ι Z w a hM hF _ fun x tm' σ' e a' w' hq hx => ?_
 obtain ⟨ι', Z', ha, hxr⟩ := hx
 cases x with
 | normal => exact hq.elim
 | ret =>
  cases hxr
  obtain ⟨v, hv, hQ⟩ := hq
  have h2 := hmk.go ha.1
  have hd' : a'.defers = [{ target := .collected D, args := #[] }] := ha.2.2.2.trans hd
  have m3 := ha.2.1.turned h2.obj rfl (show noCells (.deferred none) = true from rfl) h2.no h2.noz
  have f3 : FR ι' Z' (w'.putObj D (.deferred none)) tm' a'.tmps := ⟨ha.2.2.1.1, fun i d u hd hu => (ha.2.2.1.2 i d u hd hu).evoW (turned_W h2.obj rfl rfl h2.noz)⟩
  obtain ⟨u, g1, g2⟩ := results_rel m3 f3 hv
  show LeavesInM Fence.wide 1 P fn a'.tmps _ a'.defers .returning w'
  rw [hd']
  refine ⟨by simp, .inl ⟨D, _, rfl, run_takeDeferred h2.obj, ?_⟩⟩
  exact ⟨u, g1, .ret v, σ', ι', Z', hQ, h2.evo.turned h2.ge h2.noz, m3, u, rfl, g2⟩
 | _ => exact hq.elim
theorem Sem.call (hE : EnvOk P E) {f : FuncId} {c : Code} {args : List AV} {σ : Sto} (hf : E.code f = some fn) (hc : fn.body = some c)
    (h : ∀ (ι0 : List Nat) (Z0 : Nat → Nat → Prop) (w0 : World), Sem P fn Q ι0 Z0 w0 c (args ++ List.replicate (fn.ntmps - args.length) (.tup [])) σ) : Tells P (.call f args σ Q) := by
 intro ι Z w us hM hl ha
 obtain ⟨hP, hrun⟩ := hE.code f fn hf
 refine ⟨hrun us w, callsIn_wide.1 (callsIn_of_wp_marks (n := 1) hP hc trivial ((wpIn_wide (n := 1)).2 ?_))⟩
 exact h ι Z w ι Z w _ (.refl _ _ _) hM (FR.start hl ha fn.ntmps) rfl
end
theorem prim_sound' {P : Program} {f : FuncId} {S : List AV → Sto → ARes → Sto → Prop} (h : ∀ args σ r σ', S args σ r σ' → Tells P (.call f args σ fun r1 σ1 => Fgt σ r1 σ1 r σ')) :
    CallSound P fun f' args σ => if f' = f then relPrim S args σ else none := by
 intro f' args σ r σ' hr ι Z w us hM hl hargs
 dsimp only at hr
 split at hr
 · rename_i e
   subst e
   have hs := relPrim_spec hr
   obtain ⟨h1, h2⟩ := h _ _ _ _ hs ι Z w us hM hl hargs
   refine ⟨h1, h2.mono fun e w' hx => ?_⟩
   obtain ⟨r1, σ1, ι', Z', hF, hEv, hM', hR⟩ := hx
   exact forget hM hEv hM' hR hF
 · cases hr
end
section
open Go.RowKit
def recV : FrameMode → Value × FrameMode
 | .panicking ({ v, recovered := false, goexit := false } :: older) => (v, .panicking ({ v, recovered := true } :: older))
 | u => (.nilIface, u)
section
variable {P : Program} {E : Env} {Q : ARes → Sto → Prop}
theorem clos_sound (hm : P.follows .mixedOrders = true) (hE : EnvOk P E) {g : FuncId} {gn : Func} {id : Nat} {t5 t2 : Tmp} {y0 y1 : TypeId} {p0 p1 : String} {a0 a1 : Array Edge} {rest : Code} (hf : E.code g = some gn) (ht : t5 < gn.ntmps)
    (hb : gn.body = some (.seq (.region id #[⟨some t5, .call ⟨.builtin .recover, #[], #[]⟩, y0, p0, a0, none⟩, ⟨some t2, .assign (.tmp t5), y1, p1, a1, none⟩] false) rest))
    {args : List AV} {us : Array Value} {σ : Sto} {ι : List Nat} {Z : Nat → Nat → Prop} {w : World} {u : FrameMode} {dv : AV} (hM : Match σ ι Z w) (hl : args.length = us.size) (ha : ∀ (i : Nat) (d : AV) (x : Value), args[i]? = some d → us[i]? = some x → VR ι Z w d x) (hv : VR ι Z w dv (recV u).1)
    (h : JD P E (E.ms g) rest (((args ++ List.replicate (gn.ntmps - args.length) (AV.tup [])).set t5 dv).set t2 dv) σ (bodyW P gn Q)) :
    CallsD P g us u w fun e u' w' => u' = (recV u).2 ∧ ∃ r σ' ι' Z', Q r σ' ∧ Evo ι Z w ι' Z' w' ∧ Match σ' ι' Z' w' ∧ ERel ι' Z' w' r e := by
 obtain ⟨hP, _⟩ := hE.code g gn hf
 refine callsD_of_wpS hP hb fun c₀ cs hu => ?_
 refine wpS_seq (wpS_region ?_)
 show wpOpsS P _ _ [0, 1] _ _ _
 have o0 : (#[⟨some t5, .call ⟨.builtin .recover, #[], #[]⟩, y0, p0, a0, none⟩, ⟨some t2, .assign (.tmp t5), y1, p1, a1, none⟩] : Array Oper)[0]? = some ⟨some t5, .call ⟨.builtin .recover, #[], #[]⟩, y0, p0, a0, none⟩ := rfl
 have o1 : (#[⟨some t5, .call ⟨.builtin .recover, #[], #[]⟩, y0, p0, a0, none⟩, ⟨some t2, .assign (.tmp t5), y1, p1, a1, none⟩] : Array Oper)[1]? = some ⟨some t2, .assign (.tmp t5), y1, p1, a1, none⟩ := rfl
 generalize (#[⟨some t5, .call ⟨.builtin .recover, #[], #[]⟩, y0, p0, a0, none⟩, ⟨some t2, .assign (.tmp t5), y1, p1, a1, none⟩] : Array Oper) = ops at *
 have key : ∀ v cs', (recV u).1 = v → cs' = { c₀ with mode := (recV u).2 } :: cs →
     wpOpsS P ops (Exit.thenS (rest.wpS P (bodyPostS P gn c₀ cs fun e u' w' => u' = (recV u).2 ∧ ∃ r σ' ι' Z', Q r σ' ∧ Evo ι Z w ι' Z' w' ∧ Match σ' ι' Z' w' ∧ ERel ι' Z' w' r e)) (bodyPostS P gn c₀ cs fun e u' w' => u' = (recV u).2 ∧ ∃ r σ' ι' Z', Q r σ' ∧ Evo ι Z w ι' Z' w' ∧ Match σ' ι' Z' w' ∧ ERel ι' Z' w' r e)) [1]
      ((⟨us ++ Array.replicate (gn.ntmps - us.size) undef, []⟩ : Act).put (some t5) v) cs' w := by
  intro v cs' hv1 hcs
  subst hv1 hcs
  simp only [wpOpsS, o1]
  rw [if_pos (by rfl)]
  simp only [execOp, Oper.upon, Sem.run, pure]
  refine wpS_of_wp (J.tells hm hE h ι Z w _ hM ?_ _ ?_)
  · have h0 := FR.start hl ha gn.ntmps
    have hv' : VR ι Z w dv (((⟨us ++ Array.replicate (gn.ntmps - us.size) undef, []⟩ : Act).put (some t5) (recV u).1).eval (.tmp t5)) := by
     simp only [Act.put, Act.eval]
     have hlt : t5 < (us ++ Array.replicate (gn.ntmps - us.size) undef).size := by rw [Array.size_append, Array.size_replicate]; exact Nat.lt_of_lt_of_le ht (by omega)
     rw [show (((us ++ Array.replicate (gn.ntmps - us.size) undef).setIfInBounds t5 (recV u).1).getD t5 undef) = (recV u).1 by rw [Array.getD_eq_getD_getElem?, Array.getElem?_setIfInBounds_self_of_lt hlt]; rfl]
     exact hv
    exact (h0.set2 hv).set2 hv'
  · intro x tm' σ' e a' w' hq hx
    obtain ⟨ι', Z', hA, hxr⟩ := hx
    have hd : a'.defers = [] := hA.2.2.2.trans (by simp [Act.put])
    cases x with
    | normal =>
     cases hxr
     obtain ⟨v, hv, hQ⟩ := hq
     obtain ⟨y, g1, g2⟩ := results_rel hA.2.1 hA.2.2.1 hv
     exact ⟨hd, _, rfl, y, g1, rfl, .ret v, σ', ι', Z', hQ, hA.1, hA.2.1, y, rfl, g2⟩
    | ret =>
     cases hxr
     obtain ⟨v, hv, hQ⟩ := hq
     obtain ⟨y, g1, g2⟩ := results_rel hA.2.1 hA.2.2.1 hv
     exact ⟨hd, _, rfl, y, g1, rfl, .ret v, σ', ι', Z', hQ, hA.1, hA.2.1, y, rfl, g2⟩
    | pan v =>
     obtain ⟨y, rfl, hy⟩ := hxr
     exact ⟨hd, _, rfl, rfl, .pan v, σ', ι', Z', hq, hA.1, hA.2.1, y, rfl, hy⟩
    | exit i => exact hq.elim
 rw [wpOpsS]
 simp only [o0]
 rw [if_pos (by rfl)]
 have hrun : (execOp (Act.eval ⟨us ++ Array.replicate (gn.ntmps - us.size) undef, []⟩) ⟨some t5, .call ⟨.builtin .recover, #[], #[]⟩, y0, p0, a0, none⟩).run P w = .ok .recover w := rfl
 rw [hrun]
 subst hu
 cases hr : recoverD (c₀ :: cs) with
 | some q =>
  obtain ⟨v, cs'⟩ := q
  dsimp only
  refine key v cs' ?_ ?_
  all_goals
   simp only [recoverD] at hr
   split at hr
   · rename_i v' older hmode
     cases hr
     rw [hmode]; rfl
   · cases hr
 | none =>
  dsimp only
  have hrec : recV c₀.mode = (.nilIface, c₀.mode) := by
   simp only [recoverD] at hr
   split at hr
   · cases hr
   · rename_i hno
     unfold recV
     split
     · rename_i v older hmode; exact (hno _ _ hmode).elim
     · rfl
  exact key .nilIface _ (by rw [hrec]) (by rw [hrec])
def AfterD (P : Program) (E : Env) (fn gn : Func) (g : FuncId) (grest : Code) (t5 t2 : Tmp) (capv : List AV) (Q : ARes → Sto → Prop) (x : AExit) (tm : List AV) (σ : Sto) : Prop :=
 ∃ dv, (match x with | .ret => dv = .lit .nilIface | .pan v => dv = v | _ => False) ∧
  JD P E (E.ms g) grest (((capv ++ List.replicate (gn.ntmps - capv.length) (AV.tup [])).set t5 dv).set t2 dv) σ (bodyW P gn fun r σ' => (∃ v0, r = .ret v0) ∧ ∃ v, zA P fn tm σ' = some v ∧ Q (.ret v) σ')
end
end
section
open Go.RowKit
section
variable {P : Program} {M : List TypeId} {σ : Sto} {ρ : Operand → Option AV} {ds : Option Tmp} {ty : TypeId} {po : String} {af : Array Edge} {gu : Option (Nat × Bool)}
theorem es_min {x y : Operand} {ts : Array TypeId} {a b : Int} (hx : ρ x = some (.lit (.int .i64 a))) (hy : ρ y = some (.lit (.int .i64 b))) :
    evStep P M ρ σ ⟨ds, .call ⟨.builtin .min, #[x, y], ts⟩, ty, po, af, gu⟩ = some (.val (.lit (.int .i64 (if b < a then b else a))) σ .pure) := by
 have e : execOp (fun x => ((ρ x).bind conc).getD undef) ⟨ds, .call ⟨.builtin .min, #[x, y], ts⟩, ty, po, af, gu⟩ = Sem.pure (.value (.int .i64 (if b < a then b else a))) := by
  unfold execOp
  simp only [resolve, List.map_toArray, List.map_cons, List.map_nil, hx, hy, Option.bind_some, conc, conc2, Option.getD_some]
  rfl
 have hl : evLit P ρ σ ⟨ds, .call ⟨.builtin .min, #[x, y], ts⟩, ty, po, af, gu⟩ = some (.val (.lit (.int .i64 (if b < a then b else a))) σ .pure) := by
  unfold evLit
  dsimp only
  rw [e]
  have hall : ((Op.call ⟨.builtin .min, #[x, y], ts⟩).operands.all fun x => ((ρ x).bind conc).isSome) = true := by simp [Op.operands, Call.operands, hx, hy, conc, conc2]
  rw [if_pos hall]
  rfl
 unfold evStep
 rw [if_neg (by simp [mutOp]), hl]
 simp [evPure]
end
end
section
open Go.RowKit
abbrev vB : ByteArray := ⟨#[118]⟩
def Prm.nmOf : Prm → ByteArray
 | .mk nm _ => nm
structure NF where
 f : List ByteArray → ByteArray → ByteArray
 no : ∀ u s, f u s ∉ u
 nv : ∀ u s, f u s ≠ vB
abbrev Bnd := List (ByteArray × ByteArray)
def nowB : Bnd → ByteArray → ByteArray
 | [], s => s
 | p :: l, s => if p.1 = s then p.2 else nowB l s
def renA (l : Bnd) : Atm → Atm
 | .mk k nm ng dg tr => .mk k (if k = 1 then nowB l nm else nm) ng dg tr
mutual
def renT (l : Bnd) : Trm → Trm
 | .mk k nm ng dg ks => .mk k (if k = 1 ∧ nm ≠ vB then nowB l nm else nm) ng dg (renTs l ks)
def renTs (l : Bnd) : List Trm → List Trm
 | [] => []
 | t :: ts => renT l t :: renTs l ts
end
section
variable (F : NF)
mutual
def renY (l : Bnd) (u : List ByteArray) : Ty → Ty × List ByteArray
 | .mk fn st rf ps rs => if fn then (.mk fn st rf (renPs l u ps).1 (renYs (renPs l u ps).2.1 (renPs l u ps).2.2 rs).1, (renYs (renPs l u ps).2.1 (renPs l u ps).2.2 rs).2) else (.mk fn st (renT l rf) ps rs, u)
def renP (l : Bnd) (u : List ByteArray) : Prm → Prm × List ByteArray
 | .mk nm ty => (.mk (F.f u nm) (renY l (u ++ [F.f u nm]) ty).1, (renY l (u ++ [F.f u nm]) ty).2)
def renPs (l : Bnd) (u : List ByteArray) : List Prm → List Prm × Bnd × List ByteArray
 | [] => ([], l, u)
 | p :: ps => ((renP l u p).1 :: (renPs ((p.nmOf, (renP l u p).1.nmOf) :: l) (renP l u p).2 ps).1, (renPs ((p.nmOf, (renP l u p).1.nmOf) :: l) (renP l u p).2 ps).2)
def renYs (l : Bnd) (u : List ByteArray) : List Ty → List Ty × List ByteArray
 | [] => ([], u)
 | t :: ts => ((renY l u t).1 :: (renYs l (renY l u t).2 ts).1, (renYs l (renY l u t).2 ts).2)
end
def renNs (l : Bnd) (u : List ByteArray) : List ByteArray → List ByteArray × Bnd × List ByteArray
 | [] => ([], l, u)
 | n :: ns => (F.f u n :: (renNs ((n, F.f u n) :: l) (u ++ [F.f u n]) ns).1, (renNs ((n, F.f u n) :: l) (u ++ [F.f u n]) ns).2)
def letN (l : Bnd) (u : List ByteArray) (k : Int) (nm : ByteArray) : ByteArray × Bnd × List ByteArray := if k = 1 then (F.f u nm, (nm, F.f u nm) :: l, u ++ [F.f u nm]) else (nm, l, u)
mutual
def renE (l : Bnd) (u : List ByteArray) : Exp → Exp × List ByteArray
 | .mk k nm ty rh am ar bd =>
  let a := letN F l u k nm
  let b := renYs F l a.2.2 ty
  let c := renRs l b.2 rh
  let d := renEs a.2.1 c.2 bd
  let e := renMs l d.2 ar
  (.mk k a.1 b.1 c.1 (renA l am) e.1 d.1, e.2)
def renEs (l : Bnd) (u : List ByteArray) : List Exp → List Exp × List ByteArray
 | [] => ([], u)
 | x :: xs => ((renE l u x).1 :: (renEs l (renE l u x).2 xs).1, (renEs l (renE l u x).2 xs).2)
def renR (l : Bnd) (u : List ByteArray) : Rhs → Rhs × List ByteArray
 | .mk k nm ats ps rs bd ts =>
  let a := renPs F l u ps
  let b := renYs F a.2.1 a.2.2 rs
  let c := renEs a.2.1 b.2 bd
  (.mk k nm (ats.map (renA l)) a.1 b.1 c.1 (renTs l ts), c.2)
def renRs (l : Bnd) (u : List ByteArray) : List Rhs → List Rhs × List ByteArray
 | [] => ([], u)
 | x :: xs => ((renR l u x).1 :: (renRs l (renR l u x).2 xs).1, (renRs l (renR l u x).2 xs).2)
def renM (l : Bnd) (u : List ByteArray) : Arm → Arm × List ByteArray
 | .mk cn ns bd =>
  let a := renNs F l u ns
  let b := renEs a.2.1 a.2.2 bd
  (.mk cn a.1 b.1, b.2)
def renMs (l : Bnd) (u : List ByteArray) : List Arm → List Arm × List ByteArray
 | [] => ([], u)
 | x :: xs => ((renM l u x).1 :: (renMs l (renM l u x).2 xs).1, (renMs l (renM l u x).2 xs).2)
end
end
end
end Go.Proofs.YteajcnilihgheaaGreatDoor
