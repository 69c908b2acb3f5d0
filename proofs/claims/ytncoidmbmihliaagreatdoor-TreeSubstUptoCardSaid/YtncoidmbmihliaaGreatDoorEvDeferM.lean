/-
 EV: A FUNCTION THAT DEFERS A CALL OF A FUNCTION LITERAL WHICH BEGINS BY recover().
-/
import Derived.Test.YtncoidmbmihliaaGreatDoorEvPrimsM
import Derived.Test.YtncoidmbmihliaaGreatDoorEvRangeM
import Derived.Recover
import Derived.Test.YtncoidmbmihliaaGreatDoorKSameM
namespace Go.Proofs.YtncoidmbmihliaaGreatDoor
set_option maxRecDepth 100000
set_option maxHeartbeats 8000000
set_option linter.unusedSimpArgs false
set_option linter.unusedVariables false
section
open Go.RowKit
def recV : FrameMode → Value × FrameMode
 | .panicking ({ v, recovered := false, goexit := false } :: older) => (v, .panicking ({ v, recovered := true } :: older))
 | u => (.nilIface, u)
section
variable {P : Program} {E : Env} {Q : ARes → Sto → Prop}
theorem clos_sound (hm : P.follows .mixedOrders = true) (hE : EnvOk P E) {g : FuncId} {gn : Func} {id : Nat} {t5 t2 : Tmp} {y0 y1 : TypeId} {p0 p1 : String} {a0 a1 : Array Edge} {rest : Code} (hf : E.code g = some gn) (ht : t5 < gn.ntmps)
    (hb : gn.body = some (.seq (.region id #[⟨some t5, .call ⟨.builtin .recover, #[], #[]⟩, y0, p0, a0, none⟩, ⟨some t2, .assign (.tmp t5), y1, p1, a1, none⟩] false) rest))
    {args : List AV} {us : Array Value} {σ : Sto} {ι : List Nat} {Z : Nat → Nat → Prop} {w : World} {u : FrameMode} {dv : AV} (hM : Match σ ι Z w) (hl : args.length = us.size) (ha : ∀ (i : Nat) (d : AV) (x : Value), args[i]? = some d → us[i]? = some x → VR ι Z w d x) (hv : VR ι Z w dv (recV u).1)
    (h : JD P E (E.ms g) rest (((args ++ List.replicate (gn.ntmps - args.length) (AV.tup [])).set t5 dv).set t2 dv) σ (bodyW P gn Q)) :
    CallsD P g us u w fun e u' w' => u' = (recV u).2 ∧ ∃ r σ' ι' Z', Q r σ' ∧ Evo ι Z w ι' Z' w' ∧ Match σ' ι' Z' w' ∧ ERel ι' Z' w' r e := by
 obtain ⟨hP, _⟩ := hE.code g gn hf
 refine callsD_of_wpS hP hb fun c₀ cs hu => ?_
 refine wpS_seq (wpS_region ?_)
 show wpOpsS P _ _ [0, 1] _ _ _
 have o0 : (#[⟨some t5, .call ⟨.builtin .recover, #[], #[]⟩, y0, p0, a0, none⟩, ⟨some t2, .assign (.tmp t5), y1, p1, a1, none⟩] : Array Oper)[0]? = some ⟨some t5, .call ⟨.builtin .recover, #[], #[]⟩, y0, p0, a0, none⟩ := rfl
 have o1 : (#[⟨some t5, .call ⟨.builtin .recover, #[], #[]⟩, y0, p0, a0, none⟩, ⟨some t2, .assign (.tmp t5), y1, p1, a1, none⟩] : Array Oper)[1]? = some ⟨some t2, .assign (.tmp t5), y1, p1, a1, none⟩ := rfl
 generalize (#[⟨some t5, .call ⟨.builtin .recover, #[], #[]⟩, y0, p0, a0, none⟩, ⟨some t2, .assign (.tmp t5), y1, p1, a1, none⟩] : Array Oper) = ops at *
 have key : ∀ v cs', (recV u).1 = v → cs' = { c₀ with mode := (recV u).2 } :: cs →
     wpOpsS P ops (Exit.thenS (rest.wpS P (bodyPostS P gn c₀ cs fun e u' w' => u' = (recV u).2 ∧ ∃ r σ' ι' Z', Q r σ' ∧ Evo ι Z w ι' Z' w' ∧ Match σ' ι' Z' w' ∧ ERel ι' Z' w' r e)) (bodyPostS P gn c₀ cs fun e u' w' => u' = (recV u).2 ∧ ∃ r σ' ι' Z', Q r σ' ∧ Evo ι Z w ι' Z' w' ∧ Match σ' ι' Z' w' ∧ ERel ι' Z' w' r e)) [1]
      ((⟨us ++ Array.replicate (gn.ntmps - us.size) undef, []⟩ : Act).put (some t5) v) cs' w := by
  intro v cs' hv1 hcs
  subst hv1 hcs
  simp only [wpOpsS, o1]
  rw [if_pos (by rfl)]
  simp only [execOp, Oper.upon, Sem.run, pure]
  refine wpS_of_wp (J.tells hm hE h ι Z w _ hM ?_ _ ?_)
  · have h0 := FR.start hl ha gn.ntmps
    have hv' : VR ι Z w dv (((⟨us ++ Array.replicate (gn.ntmps - us.size) undef, []⟩ : Act).put (some t5) (recV u).1).eval (.tmp t5)) := by
     simp only [Act.put, Act.eval]
     have hlt : t5 < (us ++ Array.replicate (gn.ntmps - us.size) undef).size := by rw [Array.size_append, Array.size_replicate]; exact Nat.lt_of_lt_of_le ht (by omega)
     rw [show (((us ++ Array.replicate (gn.ntmps - us.size) undef).setIfInBounds t5 (recV u).1).getD t5 undef) = (recV u).1 by rw [Array.getD_eq_getD_getElem?, Array.getElem?_setIfInBounds_self_of_lt hlt]; rfl]
     exact hv
    exact (h0.set2 hv).set2 hv'
  · intro x tm' σ' e a' w' hq hx
    obtain ⟨ι', Z', hA, hxr⟩ := hx
    have hd : a'.defers = [] := hA.2.2.2.trans (by simp [Act.put])
    cases x with
    | normal =>
     cases hxr
     obtain ⟨v, hv, hQ⟩ := hq
     obtain ⟨y, g1, g2⟩ := results_rel hA.2.1 hA.2.2.1 hv
     exact ⟨hd, _, rfl, y, g1, rfl, .ret v, σ', ι', Z', hQ, hA.1, hA.2.1, y, rfl, g2⟩
    | ret =>
     cases hxr
     obtain ⟨v, hv, hQ⟩ := hq
     obtain ⟨y, g1, g2⟩ := results_rel hA.2.1 hA.2.2.1 hv
     exact ⟨hd, _, rfl, y, g1, rfl, .ret v, σ', ι', Z', hQ, hA.1, hA.2.1, y, rfl, g2⟩
    | pan v =>
     obtain ⟨y, rfl, hy⟩ := hxr
     exact ⟨hd, _, rfl, rfl, .pan v, σ', ι', Z', hq, hA.1, hA.2.1, y, rfl, hy⟩
    | exit i => exact hq.elim
 rw [wpOpsS]
 simp only [o0]
 rw [if_pos (by rfl)]
 have hrun : (execOp (Act.eval ⟨us ++ Array.replicate (gn.ntmps - us.size) undef, []⟩) ⟨some t5, .call ⟨.builtin .recover, #[], #[]⟩, y0, p0, a0, none⟩).run P w = .ok .recover w := rfl
 rw [hrun]
 subst hu
 cases hr : recoverD (c₀ :: cs) with
 | some q =>
  obtain ⟨v, cs'⟩ := q
  dsimp only
  refine key v cs' ?_ ?_
  all_goals
   simp only [recoverD] at hr
   split at hr
   · rename_i v' older hmode
     cases hr
     rw [hmode]; rfl
   · cases hr
 | none =>
  dsimp only
  have hrec : recV c₀.mode = (.nilIface, c₀.mode) := by
   simp only [recoverD] at hr
   split at hr
   · cases hr
   · rename_i hno
     unfold recV
     split
     · rename_i v older hmode; exact (hno _ _ hmode).elim
     · rfl
  exact key .nilIface _ (by rw [hrec]) (by rw [hrec])
def AfterD (P : Program) (E : Env) (fn gn : Func) (g : FuncId) (grest : Code) (t5 t2 : Tmp) (capv : List AV) (Q : ARes → Sto → Prop) (x : AExit) (tm : List AV) (σ : Sto) : Prop :=
 ∃ dv, (match x with | .ret => dv = .lit .nilIface | .pan v => dv = v | _ => False) ∧
  JD P E (E.ms g) grest (((capv ++ List.replicate (gn.ntmps - capv.length) (AV.tup [])).set t5 dv).set t2 dv) σ (bodyW P gn fun r σ' => (∃ v0, r = .ret v0) ∧ ∃ v, zA P fn tm σ' = some v ∧ Q (.ret v) σ')
theorem defer_call (hm : P.follows .mixedOrders = true) (hE : EnvOk P E) {f g : FuncId} {fn gn : Func} {pre rest grest : Code} {id gid : Nat} {t4 t5 t2 : Tmp} {caps : Array Operand} {y0 y1 z0 z1 : TypeId} {p0 p1 q0 q1 : String} {a0 a1' b0 b1 : Array Edge} {args : List AV} {σ : Sto}
    (hf : E.code f = some fn) (hb : fn.body = some (.seq pre (.seq (.region id #[⟨some t4, .makeFunc (.func g) #[] caps, y0, p0, a0, none⟩, ⟨none, .defer ⟨.value (.tmp t4), #[], #[]⟩, y1, p1, a1', none⟩] false) rest)))
    (hg : E.code g = some gn) (hgb : gn.body = some (.seq (.region gid #[⟨some t5, .call ⟨.builtin .recover, #[], #[]⟩, z0, q0, b0, none⟩, ⟨some t2, .assign (.tmp t5), z1, q1, b1, none⟩] false) grest)) (ht4 : t4 < fn.ntmps) (ht5 : t5 < gn.ntmps)
    (h : JD P E (E.ms f) pre (args ++ List.replicate (fn.ntmps - args.length) (AV.tup [])) σ fun x tm1 σ1 => x = .normal ∧ t4 < tm1.length ∧ ∃ capv, omap (evx tm1) caps.toList = some capv ∧ JD P E (E.ms f) rest (tm1.set t4 (.fn (.func g) [] capv)) σ1 (AfterD P E fn gn g grest t5 t2 capv Q)) :
    Tells P (.call f args σ Q) := by
 intro ι Z w us hM hl ha
 obtain ⟨hP, hrun⟩ := hE.code f fn hf
 obtain ⟨hPg, hrung⟩ := hE.code g gn hg
 refine ⟨hrun us w, calls_of_wp_defers hP hb ?_⟩
 refine wp_seq (J.tells hm hE h ι Z w _ hM (FR.start hl ha fn.ntmps) _ fun x tm1 σ1 e a1 w1 hq hx => ?_)
 obtain ⟨rfl, hlt, capv, hcap, hrest⟩ := hq
 obtain ⟨ι1, Z1, hA, hxr⟩ := hx
 cases hxr
 have hd1 : a1.defers = [] := hA.2.2.2
 refine wp_seq (wp_region ?_)
 have hfn : evStep P [] (evx tm1) σ1 ⟨some t4, .makeFunc (.func g) #[] caps, y0, p0, a0, none⟩ = some (.val (.fn (.func g) [] capv) σ1 .pure) := by
  rw [es_makeFunc]
  unfold evStepU
  simp [evPure, omap, hcap]
 have o0 : (#[⟨some t4, .makeFunc (.func g) #[] caps, y0, p0, a0, none⟩, ⟨none, .defer ⟨.value (.tmp t4), #[], #[]⟩, y1, p1, a1', none⟩] : Array Oper)[0]? = some ⟨some t4, .makeFunc (.func g) #[] caps, y0, p0, a0, none⟩ := rfl
 have o1 : (#[⟨some t4, .makeFunc (.func g) #[] caps, y0, p0, a0, none⟩, ⟨none, .defer ⟨.value (.tmp t4), #[], #[]⟩, y1, p1, a1', none⟩] : Array Oper)[1]? = some ⟨none, .defer ⟨.value (.tmp t4), #[], #[]⟩, y1, p1, a1', none⟩ := rfl
 show wpOps P _ _ [0, 1] _ _
 generalize (#[⟨some t4, .makeFunc (.func g) #[] caps, y0, p0, a0, none⟩, ⟨none, .defer ⟨.value (.tmp t4), #[], #[]⟩, y1, p1, a1', none⟩] : Array Oper) = ops at *
 refine wpOps_cons o0 ?_
 have hev : evOp P [] noCall ops ⟨some t4, .makeFunc (.func g) #[] caps, y0, p0, a0, none⟩ tm1 σ1 = some (.inr (tm1.set t4 (.fn (.func g) [] capv), .pure), σ1) := by
  unfold evOp
  rw [if_pos (by rfl), hfn]
  rfl
 refine evOp_sound (M := []) (fun _ _ _ _ _ h => by cases h) hev hA.2.1 hA.2.2.1 _ _ (fun tm' acc he ι' Z' w' a' hA2 => ?_) fun v he => by cases he
 cases he
 have hA3 : After ι Z w _ (tm1.set t4 (.fn (.func g) [] capv)) σ1 ι' Z' w' a' := ⟨hA.1.trans hA2.1, hA2.2.1, hA2.2.2.1, hA2.2.2.2.trans hA.2.2.2⟩
 refine wpOps_cons o1 ?_
 rw [if_pos (by rfl)]
 have hfv : VR ι' Z' w' (.fn (.func g) [] capv) (a'.eval (.tmp t4)) := evx_rel hA2.2.1 hA2.2.2.1 _ _ (by rw [zT, slot_eq hlt])
 have hop : (execOp a'.eval ⟨none, .defer ⟨.value (.tmp t4), #[], #[]⟩, y1, p1, a1', none⟩).run P w' = (do pure (Next.defer (← Deferred.ofValue (a'.eval (.tmp t4)) #[]))).run P w' := by simp [execOp, resolve]
 unfold Oper.wp
 rw [hop]
 generalize a'.eval (.tmp t4) = fv at *
 cases hfv with
 | fn _ _ _ fs cs h1 h2 h3 h4 =>
  obtain rfl : fs = #[] := Array.eq_empty_of_size_eq_zero h1.symm
  simp only [Deferred.ofValue, Sem.run, pure, bind, Sem.bind, Oper.upon, wpOps]
  have hd0 : a'.defers = [] := hA3.2.2.2
  show rest.wp P _ { a' with defers := _ :: a'.defers } w'
  rw [hd0]
  refine J.tells hm hE hrest ι' Z' w' { tmps := a'.tmps, defers := [{ target := .fn (.func g) cs, args := #[] ++ #[] }] } hA3.2.1 hA3.2.2.1 _ fun x tm2 σ2 e a2 w2 hq hx => ?_
  obtain ⟨ι2, Z2, hB, hxr⟩ := hx
  obtain ⟨dv, hdv, hcl⟩ := hq
  have hd2 : a2.defers = [{ target := .fn (.func g) cs, args := #[] ++ #[] }] := hB.2.2.2
  have go : ∀ (u : FrameMode) (hu : u ≠ .run) (hrv : VR ι2 Z2 w2 dv (recV u).1) (hset : settle (recV u).2 = .returning), Leaves P fn a2.tmps (fun e w' => ∃ r σ' ι' Z', Q r σ' ∧ Evo ι Z w ι' Z' w' ∧ Match σ' ι' Z' w' ∧ ERel ι' Z' w' r e) a2.defers u w2 := by
   intro u hu hrv hset
   rw [hd2]
   refine ⟨hu, .func g, cs, g, cs, rfl, by simp only [invoke, Array.empty_append]; exact hrung cs w2, ?_⟩
   have hk := clos_sound (u := u) hm hE hg ht5 hgb hB.2.1 h2 (fun i d x hd hx => (h4 i d x hd hx).evo hB.1) hrv hcl
   intro c cs' hc
   obtain ⟨e', u', w3, fr, hR, hrest'⟩ := hk c cs' hc
   refine ⟨e', u', w3, fr, ?_, hrest'⟩
   obtain ⟨hu', r, σ3, ι3, Z3, ⟨⟨v0, rfl⟩, v, hres, hQ⟩, ev3, m3, y, rfl, hy⟩ := hR
   subst hu'
   show Leaves P fn a2.tmps _ [] (settle (recV u).2) w3
   rw [hset]
   obtain ⟨y2, g1, g2⟩ := results_rel m3 (hB.2.2.1.evo ev3) hres
   exact ⟨y2, g1, .ret v, σ3, ι3, Z3, hQ, (hA3.1.trans hB.1).trans ev3, m3, y2, rfl, g2⟩
  cases x with
  | ret =>
   cases hxr
   subst hdv
   exact go .returning (by simp) (.lit _ rfl) rfl
  | pan v =>
   obtain ⟨y, rfl, hy⟩ := hxr
   subst hdv
   exact go (.panicking [{ v := y, recovered := false }]) (by simp) hy rfl
  | normal => exact hdv.elim
  | exit i => exact hdv.elim
end
end
section
open Go.RowKit
variable {S : Sp} {N : Nat}
abbrev limF : FS := pureF (fun l : List Int => [.sl (limR l) .no]) (fun l => .sl (limR l) .no) List.length 0
theorem Clone_w (hc : S.code = codeP Tryz.prog) (hm : S.ms 55 = []) : PureOk Tryz.prog S N 55 (fun l : List Int => [.sl (limR l) .no]) (fun l => .sl (limR l) .no) List.length 0 := by
 intro a σ hl hN
 refine JC.startG (fn := Tryz.f55) (codeOf hc Tryz.func55 rfl (by kernel_rfl)) rfl hm rfl (zL rfl) fun tm => ?_
 refine JD.hide fun R0 hR0 => ?_
 refine JD.seqK fun K hK => J.cw (CW.region ?_)
 simp (maxDischargeDepth := 16) [zY]
 refine hK _ _ ?_; clear hK K
 refine JD.seqK fun K hK => JD.seqK fun K2 hK2 => J.region ?_
 refine J.val (v := .sl (limR a) .no) (σ' := σ) (acc := .pure) rfl ?_ ?_
 · simp (maxDischargeDepth := 16) [zY]
 refine J.nilCmp (es := limR a) (tok := .no) (e := 111) (by kernel_rfl) ?_ fun b hb => J.nil (hK2 _ _ ?_)
 · simp (maxDischargeDepth := 16) [zY]
 clear hK2 K2
 simp only [putA_some, set_fm, num, pt]
 cases b with
 | true =>
  have h0 : a = [] := by
   rcases a with _ | ⟨x, l⟩
   · rfl
   · exact absurd (hb (by simp [limR])) (by simp)
  subst h0
  refine JD.cond (t := true) (by simp (maxDischargeDepth := 16) [zY]) (J.cw ?_)
  refine CW.seqK fun K hK => CW.region ?_
  simp (maxDischargeDepth := 16) [zY]
  refine hK _ _ ?_; clear hK K
  exact CW.ret (hR0 _ _ _ ⟨.sl [] .full, by simp [zA, omap, zB, zF, lk], done0 rfl rfl⟩)
 | false =>
  refine JD.cond (t := false) (by simp (maxDischargeDepth := 16) [zY]) (J.cw (CW.skip (hK _ _ (J.cw ?_))))
  refine CW.seqK fun K hK => CW.region ?_
  rcases Nat.eq_zero_or_pos a.length with h0 | h0
  · obtain rfl := List.eq_nil_of_length_eq_zero h0
    have hap := fun ρ ds ty po af gu x y hx hy => apd0 (P := Tryz.prog) (M := []) (σ := σ) (es := []) (tok := .full) (tk := .no) (t := 26) (e := 111) (k := 0) (by_ := 4) (ρ := ρ) (ds := ds) (ty := ty) (po := po) (af := af) (gu := gu) (x := x) (y := y) (by kernel_rfl) (by kernel_rfl) (by kernel_rfl) (by kernel_rfl) rfl (by simp) (by simp) hx hy
    simp (maxDischargeDepth := 16) [zY, limR, List.map_nil, hap]
    refine hK _ _ ?_
    exact CW.ret (hR0 _ _ _ ⟨.sl [] .full, by simp [zA, omap, zB, zF, lk], done0 rfl rfl⟩)
  · obtain ⟨tok', g', acc, hA', hap⟩ := apd (P := Tryz.prog) (M := []) (σ := σ) (g := []) (t := 26) (e := 111) (k := 0) (by_ := 4) [] (limR a) (Apd.nil σ _ []) (by kernel_rfl) (by kernel_rfl) (by kernel_rfl) (by kernel_rfl) rfl (limR_hd a) (by rw [limR_len]; omega) (by simp; omega) (by simp; omega)
    simp only [List.append_nil] at hap
    simp (maxDischargeDepth := 16) [zY, hap, limR_stp]
    refine hK _ _ ?_
    refine CW.ret (hR0 _ _ _ ⟨.sl (limR a) tok', by simp [zA, omap, zB, zF, lk], done (by simp [AV.pln]) (by simp [AV.nrm])⟩)
def Trm.bare : Trm → Trm
 | .mk k nm ng dg _ => .mk k nm ng dg []
def Trm.bareC : Trm → List AV
 | .mk k nm ng dg _ => [.lit (.int .u8 k), .lit (.string nm), .lit (.bool ng), .sl (limR dg) .no, .sl [] .full]
theorem Trm.bareC_bel (t : Trm) (n : Nat) : Bel n (.agg t.bareC) := by
 obtain ⟨k, nm, ng, dg, ks⟩ := t
 refine .agg _ fun j d hd => ?_
 match j with
 | 0 | 1 | 2 => cases hd; exact .lit _
 | 3 =>
  cases hd
  refine .sl _ _ trivial fun i j e d he hd => ?_
  unfold limR at he
  rw [List.getElem?_map, Option.map_eq_some_iff] at he
  obtain ⟨x, _, rfl⟩ := he
  cases j with
  | zero => cases hd; exact .lit _
  | succ j => simp at hd
 | 4 => cases hd; exact .sl _ _ trivial fun i j e d he => by simp at he
 | j + 5 => simp [Trm.bareC] at hd
abbrev aloneF : FS := pureF (fun t : Trm => [.agg t.cs]) (fun t => .agg t.bareC) Trm.n 1
theorem lim1_inj (a b : List Int) (e : [AV.sl (limR a) .no] = [.sl (limR b) .no]) : a = b := by simp only [List.cons.injEq, and_true, AV.sl.injEq] at e; exact limR_inj e
theorem trm1_inj (a b : Trm) (e : [AV.agg a.cs] = [.agg b.cs]) : a = b := by simp only [List.cons.injEq, and_true, AV.agg.injEq] at e; exact Trm.inj e
theorem alone_w (hc : S.code = codeP Tryz.prog) (hm : S.ms 101 = []) (h1 : S.sp 55 = some limF) : PureOk Tryz.prog S N 101 (fun t : Trm => [.agg t.cs]) (fun t => .agg t.bareC) Trm.n 1 := by
 intro a σ hl hN
 refine JC.startF (fn := Tryz.f101) (codeOf hc Tryz.func101 rfl (by kernel_rfl)) rfl hm rfl (zL rfl) fun tm => ?_
 refine CW.hide fun R0 hR0 => ?_
 obtain ⟨k, nm, ng, dg, ks⟩ := a
 simp only [Trm.n] at hl hN
 simp only [Trm.cs]
 refine CW.seqK fun K hK => CW.region ?_
 simp (maxDischargeDepth := 16) [zY]
 refine hK _ _ ?_; clear hK K
 refine CW.seqK fun K hK => CW.region ?_
 simp (maxDischargeDepth := 16) [zY]
 refine call_pure dg h1 lim1_inj (by simp only [nrmR, AV.nrm, limR_nrm]) (by omega) (by omega) fun _ => ?_
 simp (maxDischargeDepth := 16) [zY]
 refine hK _ _ ?_; clear hK K
 refine CW.seqK fun K hK => CW.region ?_
 simp (maxDischargeDepth := 16) [zY]
 refine hK _ _ ?_; clear hK K
 exact CW.ret (hR0 _ _ _ ⟨.agg [.lit (.int .u8 k), .lit (.string nm), .lit (.bool ng), .sl (limR dg) .no, .sl [] .full], by simp [zA, omap, zC, zX], Fgt.pure ⟨_, rfl⟩ (.same _ (Trm.bareC_bel (.mk k nm ng dg ks) _))⟩)
mutual
def Trm.cnt : Trm → Nat
 | .mk _ _ _ _ ks => 1 + trmCs ks
def trmCs : List Trm → Nat
 | [] => 0
 | t :: l => t.cnt + trmCs l
end
structure MkT where
 mid : Nat
 nid : Nat
 lid : Nat
 tsid : Nat
 made : Int
abbrev pfA (m : MkT) : AV := .fn (.func 97) [] [.ptr m.nid 0, .ptr m.lid 0, .ptr m.tsid 0]
abbrev MkT.obj (m : MkT) (k : Nat) : AObj := .cells [intV (m.made + k), pfA m] 147
def MkT.At (m : MkT) (σ : Sto) : Prop := σ[m.mid]? = some (m.obj 0) ∧ m.nid < σ.length ∧ m.lid < σ.length ∧ m.tsid < σ.length ∧ 0 ≤ m.made
theorem MkT.At.app {m : MkT} {σ : Sto} (h : m.At σ) (l : Sto) : m.At (σ ++ l) := by
 obtain ⟨h1, h2, h3, h4, h5⟩ := h
 refine ⟨by rw [List.getElem?_append_left (List.getElem?_eq_some_iff.1 h1).1]; exact h1, ?_, ?_, ?_, h5⟩ <;> simp <;> omega
theorem MkT.At.lt {m : MkT} {σ : Sto} (h : m.At σ) : m.mid < σ.length := (List.getElem?_eq_some_iff.1 h.1).1
theorem MkT.uniq {a b : MkT} {σ : Sto} (h : a.mid = b.mid) (ha : a.At σ) (hb : b.At σ) : a = b := by
 have := ha.1.symm.trans (h ▸ hb.1)
 obtain ⟨a1, a2, a3, a4, a5⟩ := a; obtain ⟨b1, b2, b3, b4, b5⟩ := b
 simp only [Option.some.injEq, AObj.cells.injEq, List.cons.injEq, AV.lit.injEq, Value.int.injEq, AV.fn.injEq, AV.ptr.injEq, true_and, and_true] at this h
 obtain ⟨h1, h2, h3, h4⟩ := this
 simp only [MkT.mk.injEq]
 exact ⟨h, h2, h3, h4, by simpa using h1⟩
theorem MkT.bel {m : MkT} {σ : Sto} (h : m.At σ) (k : Nat) : BelO σ.length (m.obj k) := by
 obtain ⟨h1, h2, h3, h4, h5⟩ := h
 intro j d hd
 match j with
 | 0 => cases hd; exact .lit _
 | 1 =>
  cases hd
  refine .fn _ _ _ (fun j d hd => by simp at hd) fun j d hd => ?_
  match j with
  | 0 => cases hd; exact .ptr _ _ h2
  | 1 => cases hd; exact .ptr _ _ h3
  | 2 => cases hd; exact .ptr _ _ h4
  | j + 3 => simp at hd
 | j + 2 => simp at hd
abbrev mustF : FS := pureF (fun e : Int => [.lit (.bool true), .lit (.int .i64 e)]) (fun _ => .tup []) (fun _ => 0) 0
theorem must_inj (a b : Int) (e : [AV.lit (.bool true), AV.lit (.int .i64 a)] = [.lit (.bool true), .lit (.int .i64 b)]) : a = b := by simpa using e
theorem must_w (hc : S.code = codeP Tryz.prog) (hm : S.ms 124 = []) : PureOk Tryz.prog S N 124 (fun e : Int => [.lit (.bool true), .lit (.int .i64 e)]) (fun _ => .tup []) (fun _ => 0) 0 := by
 intro a σ hl hN
 refine JC.startF (fn := Tryz.f124) (codeOf hc Tryz.func124 rfl (by kernel_rfl)) rfl hm rfl (zL rfl) fun tm => ?_
 refine CW.hide fun R0 hR0 => ?_
 refine CW.seqK fun K hK => CW.region ?_
 simp (maxDischargeDepth := 16) [zY]
 refine hK _ _ ?_; clear hK K
 refine CW.cond (t := false) (by simp [zT, zF, lk]) ?_
 exact CW.skip (hR0 _ _ _ ⟨.tup [], by simp [zA, omap], done0 rfl rfl⟩)
abbrev moreF : FS := ⟨MkT, fun m => [.ptr m.mid 0], fun m σ => m.At σ ∧ m.made + 1 ≤ 20000, fun m σ => (.ret (.tup []), σ.set m.mid (m.obj 1)), fun _ => 1⟩
theorem moreF_uniq : FS.uniq moreF := fun a b σ e ha hb => by
 simp only [List.cons.injEq, AV.ptr.injEq, and_true] at e
 cases MkT.uniq e ha.1 hb.1
 rfl
theorem call_more {P : Program} {args : List AV} {σ : Sto} {Q : ARes → Sto → Prop} (m : MkT) (h : S.sp 100 = some moreF) (ha : nrmR args = [.ptr m.mid 0]) (hp : m.At σ) (hb : m.made + 1 ≤ 20000) (hN : 1 < N) (hq : Q (.ret (.tup [])) (σ.set m.mid (m.obj 1))) : CallW P (S.E N) 100 args σ Q :=
 call_sp (s := moreF) m h moreF_uniq ha ⟨hp, hb⟩ hN hq
theorem more_w (hc : S.code = codeP Tryz.prog) (hm : S.ms 100 = []) (h1 : S.sp 124 = some mustF) (m : MkT) (σ : Sto) (hp : m.At σ) (hb : m.made + 1 ≤ 20000) (hN : 1 ≤ N) : JC Tryz.prog (S.E N) 100 [.ptr m.mid 0] σ fun r σ' => Fgt σ r σ' (.ret (.tup [])) (σ.set m.mid (m.obj 1)) := by
 refine JC.startF (fn := Tryz.f100) (codeOf hc Tryz.func100 rfl (by kernel_rfl)) rfl hm rfl (zL rfl) fun tm => ?_
 refine CW.hide fun R0 hR0 => ?_
 have hlt := hp.lt
 have h0 := hp.1
 have h5 := hp.2.2.2.2
 have hw : IntKind.i64.wrap (m.made + 1) = m.made + 1 := IntWalk.i64_in _ ⟨by omega, by omega⟩
 simp only [MkT.obj, Int.add_zero, Int.natCast_zero] at h0
 refine CW.seqK fun K hK => CW.region ?_
 simp (maxDischargeDepth := 16) [zY, h0, hw]
 refine hK _ _ ?_; clear hK K
 have hs : ∀ o, (σ.set m.mid o)[m.mid]? = some o := fun o => st_same hlt
 refine CW.region ?_
 simp (maxDischargeDepth := 16) [zY, hs, hb]
 refine call_pure 34 h1 must_inj rfl (by simp) (by omega) fun _ => ?_
 simp (maxDischargeDepth := 16) [zY]
 refine hR0 _ _ _ ⟨.tup [], by simp [zA, omap], Fgt.wrote (Ext.refl _) hp.1 trivial (MkT.bel hp 1) (Frz.nrm rfl)⟩
end
section
open Go.RowKit
variable {S : Sp} {N : Nat}
theorem frzN {σ : Sto} {n : Nat} {v v2 : AV} (hp : v.pln = true) (hv : v.nrm = v2) : Frz σ n v v2 := hv ▸ Frz.nrm hp
theorem Apd.len {σ σ' : Sto} {e : TypeId} {m : Nat} {tok : Tok} {g : List AObj} (h : Apd σ e m tok g) (hl : σ'.length = σ.length) : Apd σ' e m tok g := by
 unfold Apd at *
 rw [hl]; exact h
theorem set_last {g : Sto} {x o : AObj} : (g ++ [x]).set g.length o = g ++ [o] := by rw [List.set_append_right _ _ (Nat.le_refl _), Nat.sub_self]; rfl
abbrev MkT.up (m : MkT) (k : Nat) : MkT := { m with made := m.made + k }
theorem MkT.At.up {m : MkT} {σ : Sto} (h : m.At σ) (k : Nat) (l : Sto) : (m.up k).At (σ.set m.mid (m.obj k) ++ l) := by
 obtain ⟨h1, h2, h3, h4, h5⟩ := h
 refine MkT.At.app ⟨?_, by simpa using h2, by simpa using h3, by simpa using h4, by show 0 ≤ m.made + k; omega⟩ l
 rw [st_same (List.getElem?_eq_some_iff.1 h1).1]
 simp [MkT.obj, pfA]
theorem MkT.up_obj (m : MkT) (k j : Nat) : (m.up k).obj j = m.obj (k + j) := by
 simp only [MkT.obj, MkT.up, pfA, AObj.cells.injEq, List.cons.injEq, AV.lit.injEq, Value.int.injEq, and_true, true_and]
 omega
theorem trmCs_take {ks : List Trm} {i : Nat} (h : i < ks.length) : trmCs (ks.take (i + 1)) = trmCs (ks.take i) + ks[i].cnt := by
 induction ks generalizing i with
 | nil => simp at h
 | cons t l ih =>
  cases i with
  | zero => simp [trmCs]
  | succ i =>
   have := ih (i := i) (by simpa using h)
   simp only [List.take_succ_cons, trmCs, List.getElem_cons_succ]
   rw [this]; omega
theorem trmCs_le {ks : List Trm} {i : Nat} : trmCs (ks.take i) ≤ trmCs ks := by
 induction ks generalizing i with
 | nil => simp
 | cons t l ih =>
  cases i with
  | zero => simp [trmCs]
  | succ i => simp only [List.take_succ_cons, trmCs]; have := @ih i; omega
theorem trmCs_get {ks : List Trm} {i : Nat} (h : i < ks.length) : trmCs (ks.take i) + ks[i].cnt ≤ trmCs ks := by
 rw [← trmCs_take h]; exact trmCs_le
abbrev copiedF : FS := ⟨MkT × Trm, fun p => [.ptr p.1.mid 0, .agg p.2.cs], fun p σ => p.1.At σ ∧ p.1.made + p.2.cnt ≤ 20000 ∧ p.2.n ≤ 1000000000, fun p σ => (.ret (.agg p.2.cs), σ.set p.1.mid (p.1.obj p.2.cnt)), fun p => 16 * p.2.n + 3⟩
theorem copiedF_uniq : FS.uniq copiedF := fun a b σ e ha hb => by
 obtain ⟨m, t⟩ := a; obtain ⟨m', t'⟩ := b
 simp only [List.cons.injEq, AV.ptr.injEq, AV.agg.injEq, and_true] at e
 cases MkT.uniq e.1 ha.1 hb.1
 cases Trm.inj e.2
 rfl
theorem call_copied {P : Program} {args : List AV} {σ : Sto} {Q : ARes → Sto → Prop} (m : MkT) (t : Trm) (h : S.sp 98 = some copiedF) (ha : nrmR args = [.ptr m.mid 0, .agg t.cs]) (hp : m.At σ) (hb : m.made + t.cnt ≤ 20000) (hn : t.n ≤ 1000000000) (hN : 16 * t.n + 3 < N)
    (hq : accW (S.E N) 98 args σ (.ret (.agg t.cs)) (σ.set m.mid (m.obj t.cnt)) = .lcalls (keptB σ (σ.set m.mid (m.obj t.cnt))) → Q (.ret (.agg t.cs)) (σ.set m.mid (m.obj t.cnt))) : CallW P (S.E N) 98 args σ Q :=
 call_sp (s := copiedF) (m, t) h copiedF_uniq ha ⟨hp, hb, hn⟩ hN (hq (acc_sp (s := copiedF) (m, t) h copiedF_uniq ha hN (by simp) fun l => ⟨⟨hp.app l, hb, hn⟩, by simp only [List.set_append_left _ _ hp.lt]⟩))
theorem copied_w (hc : S.code = codeP Tryz.prog) (hm : S.ms 98 = []) (h1 : S.sp 100 = some moreF) (h2 : S.sp 101 = some aloneF) (h3 : S.sp 98 = some copiedF) (m : MkT) (t : Trm) (σ : Sto) (hp : m.At σ) (hb : m.made + t.cnt ≤ 20000) (hl : t.n ≤ 1000000000) (hN : 16 * t.n + 3 ≤ N) :
    JC Tryz.prog (S.E N) 98 [.ptr m.mid 0, .agg t.cs] σ fun r σ' => Fgt σ r σ' (.ret (.agg t.cs)) (σ.set m.mid (m.obj t.cnt)) := by
 refine JC.startF (fn := Tryz.f98) (codeOf hc Tryz.func98 rfl (by kernel_rfl)) rfl hm rfl (zL rfl) fun tm => ?_
 refine CW.hide fun R0 hR0 => ?_
 obtain ⟨k, nm, ng, dg, ks⟩ := t
 simp only [Trm.n, Trm.cnt] at hl hN hb
 have hlt := hp.lt
 have hlen := trmN_len ks
 simp only [Trm.cs]
 refine CW.seqK fun K hK => CW.region ?_
 simp (maxDischargeDepth := 16) [zY]
 refine hK _ _ ?_; clear hK K
 refine CW.seqK fun K hK => CW.region ?_
 simp (maxDischargeDepth := 16) [zY]
 refine call_more m h1 rfl (hp.app _) (by omega) (by omega) ?_
 simp (maxDischargeDepth := 16) [zY, st_setold hlt]
 refine hK _ _ ?_; clear hK K
 refine CW.seqK fun K hK => CW.region ?_
 simp (maxDischargeDepth := 16) [zY]
 refine call_pure (Trm.mk k nm ng dg ks) h2 trm1_inj (by simp only [nrmR, AV.nrm, limR_nrm, trmR_nrm, Trm.cs]) (by simp only [Trm.n]; omega) (by simp only [Trm.n]; omega) fun _ => ?_
 simp only [Trm.bareC]
 simp (maxDischargeDepth := 16) [zY]
 refine hK _ _ ?_; clear hK K
 refine CW.seqK fun K hK => ?_
 refine CW.seqK fun K hK => CW.region ?_
 simp (maxDischargeDepth := 16) [zY]
 refine hK _ _ ?_; clear hK K
 refine CW.block (CW.hide fun R hR => ?_)
 refine CW.loopF (fun p : Nat × Tok × List AObj => [(0, .ptr m.mid 0), (4, .ptr (σ.length + 1) 0), (5, .ptr (σ.length + 2) 0), (15, .sl (trmR ks) .no), (16, intV ks.length), (17, intV p.1)])
  (fun p => σ.set m.mid (m.obj (1 + trmCs (ks.take p.1))) ++ (.cells [.lit (.int .u8 k), .lit (.string nm), .lit (.bool ng), .sl (limR dg) .no, .sl (trmR ks) .no] 54 :: .cells [.lit (.int .u8 0), .lit (.string ⟨#[]⟩), .lit (.bool false), .sl [] .full, .sl [] .full] 54 :: .cells [.lit (.int .u8 k), .lit (.string nm), .lit (.bool ng), .sl (limR dg) .no, .sl (trmR (ks.take p.1)) p.2.1] 54 :: p.2.2))
  (fun p => p.1 ≤ ks.length ∧ Apd (σ ++ [.dead, .dead, .dead]) 54 (p.1 * 5) p.2.1 p.2.2) (fun p => ks.length - p.1) (0, .full, []) ?_ ?_ ?_ ?_
 · simp [sub, lk]
 · simp [trmCs, trmR]
 · exact ⟨by simp, by simpa using Apd.nil _ _ []⟩
 rintro ⟨i, tok, g⟩ tm ⟨hi, hA⟩
 dsimp only at hi hA ⊢
 refine CW.hide fun R2 hR2 => CW.seqK fun K4 hK4 => CW.region ?_
 rcases Nat.lt_or_ge i ks.length with hlt2 | hge
 · have ha := trmR_get hlt2
   have hg := trmN_get hlt2
   have hti : (ks.take i).length = i := List.length_take_of_le hi
   have hcn := trmCs_get hlt2
   have hset : ∀ (o o' : AObj) (L : Sto), (σ.set m.mid o ++ L).set m.mid o' = σ.set m.mid o' ++ L := fun o o' L => by rw [st_setold (by simpa using hlt), List.set_set]
   obtain ⟨tok', g', acc, hA', hap, hn1, hn2⟩ := apdN (P := Tryz.prog) (M := []) (σ := σ.set m.mid (m.obj (1 + trmCs (ks.take i) + ks[i].cnt)) ++ [.cells [.lit (.int .u8 k), .lit (.string nm), .lit (.bool ng), .sl (limR dg) .no, .sl (trmR ks) .no] 54, .cells [.lit (.int .u8 0), .lit (.string ⟨#[]⟩), .lit (.bool false), .sl [] .full, .sl [] .full] 54, .cells [.lit (.int .u8 k), .lit (.string nm), .lit (.bool ng), .sl (limR dg) .no, .sl (trmR (ks.take i)) tok] 54])
    (t := 52) (e := 54) (k := 4) (by_ := 80) (trmR (ks.take i)) [ks[i].cs] (by rw [trmR_len, hti]; exact (hA.push [.cells ks[i].cs 54]).len (by simp)) (by kernel_rfl) (by kernel_rfl) (by kernel_rfl) (by kernel_rfl) (trmR_hd _) (by simp [ks[i].len]) (by simp) (by simp only [trmR_len, hti, List.length_singleton]; omega) (by simp only [trmR_len, hti, List.length_singleton]; omega)
   simp only [List.append_assoc, List.cons_append, List.nil_append] at hap
   simp (maxDischargeDepth := 16) [zY, hlt2]
   refine hK4 _ _ ?_
   refine CW.seqK fun K3 hK3 => ?_
   refine CW.cond (t := true) (by simp [zT, zF, lk]) ?_
   refine CW.skip (hK3 _ _ ?_)
   refine CW.seqK fun K5 hK5 => CW.block ?_
   refine CW.seqK fun K hK => CW.region ?_
   simp (maxDischargeDepth := 16) [zY, ha, Trm.len, Trm.tk, Trm.put, set_last]
   refine hK _ _ ?_; clear hK K
   refine CW.draw (by kernel_rfl) ?_
   simp (maxDischargeDepth := 16) [zY, Trm.len, Trm.tk]
   have hup := hp.up (1 + trmCs (ks.take i))
   refine call_copied (m.up (1 + trmCs (ks.take i))) ks[i] h3 (by simp only [nrmR, AV.nrm, Trm.nrm]) (hup _) (by show m.made + _ + _ ≤ _; omega) (by omega) (by omega) ?_
   intro hac
   simp only [MkT.up_obj, hset] at hac ⊢
   simp (maxDischargeDepth := 16) [zY, Trm.len, Trm.tk, Trm.put, hac, hap, stripRows, Trm.stp]
   refine ⟨drawOk_keep ?_ (by kernel_rfl), hK5 _ _ ?_⟩
   · simp [hn1, hn2, keptB_iff, zF]
   refine CW.region ?_
   simp (maxDischargeDepth := 16) [zY, wrap_succ (show i ≤ 1000000000000 by omega)]
   have e1 : trmR (ks.take (i + 1)) = trmR (ks.take i) ++ [ks[i].cs] := by rw [List.take_add_one, List.getElem?_eq_getElem hlt2, trmR_app]; rfl
   refine hR2 _ _ _ ⟨(i + 1, tok', g'), _, _, rfl, by simp [sub, lk], ?_, ⟨hlt2, ?_⟩, show ks.length - (i + 1) < ks.length - i by omega⟩
   · dsimp only
     rw [e1, trmCs_take hlt2, Nat.add_assoc]
   · simp only [trmR_len, hti, List.length_singleton] at hA'
     exact hA'.len (by simp)
 · simp (maxDischargeDepth := 16) [zY, Nat.not_lt.2 hge]
   refine hK4 _ _ ?_
   refine CW.seqK fun K3 hK3 => ?_
   refine CW.cond (t := false) (by simp [zT, zF, lk]) ?_
   refine CW.exit (hR2 _ _ _ (hR _ _ _ ?_))
   simp only [outOf, if_true, andThen]
   refine hK _ _ ?_
   rw [List.take_of_length_le hge]
   refine CW.seqK fun K hK => CW.region ?_
   simp (maxDischargeDepth := 16) [zY]
   refine hK _ _ ?_; clear hK K
   exact CW.ret (hR0 _ _ _ ⟨.agg [.lit (.int .u8 k), .lit (.string nm), .lit (.bool ng), .sl (limR dg) .no, .sl (trmR ks) tok], by simp [zA, omap, zC, zX], Fgt.wrote ⟨_, rfl⟩ hp.1 trivial (MkT.bel hp _) (frzN (by simp [AV.pln, plnR, trmR_pln]) (by simp [AV.nrm, nrmR, trmR_nrm, Trm.cs]))⟩)
end
end Go.Proofs.YtncoidmbmihliaaGreatDoor
